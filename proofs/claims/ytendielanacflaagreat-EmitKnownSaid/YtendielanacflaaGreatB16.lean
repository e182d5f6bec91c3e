/- emit.dynamic: contract. emit.stored: contract. emit: what a block of each kind costs; the kind that costs least. A range over a function whose iterator reads, behind a round, blocks that it made ahead of it: the round keeps what was made since the last one. -/
import Derived.Test.YtendielanacflaaGreatB13
import Derived.Test.YtendielanacflaaGreatB15
import Derived.Test.YtendielanacflaaGreatB14
import Derived.Test.YtendielanacflaaGreatB01
import Derived.Deep.MidRow
import Derived.Laws.EntriesVeiled
set_option linter.unusedVariables false
set_option linter.unusedSimpArgs false
namespace Go.Proofs.YtendielanacflaaGreat
open Go.RowKit Go.Shelf M01 M04 M05 M09 M10 M17 M18
theorem Zzi {W W2:World} {Q:Nat -> Prop} {a:Option Addr} {c:Nat} {l:List Nat} (hr:RowN .u8 W2 a c l) (hf:∀ x,a = some x -> W.heap.size <= x.block):∀ A,Only (Sub Q W.heap.size W2.heap.size) W2 A -> RowN .u8 A a c l:=by
 intro A ho
 refine hr.same ho.size (fun x h0 ha=>?_)
 obtain ⟨b',off,he,hlt,_⟩:=hr.at h0
 rw [ha] at he
 cases he
 exact ho.block b' hlt (fun h=>h.2 ⟨hf _ ha,hlt⟩)
theorem Zadp {W2:World} {Q:Nat -> Prop} {a:Option Addr} {c:Nat} {l:List Tok} (hr:RowS encT W2 a c l) (hf:∀ x,0 < l.length -> a = some x -> ¬ Q x.block /\ x.block < W2.heap.size):∀ A,Only Q W2 A -> RowS encT A a c l :=
 fun A ho=>hr.same ho.size (fun x h0 ha=>ho.block x.block (hf x h0 ha).2 (hf x h0 ha).1)
set_option maxRecDepth 100000 in
set_option maxHeartbeats 3200000 in
theorem Znw {P:Nat -> Prop} {w:World} {p:Nat} {s:Wst} (hW:Wr P w p s) (hg:WG s) (a:Option Addr) (cap:Nat) (l:List Tok) (ta:Option Addr) (tn tc:Nat) (last:Bool) (hr:RowS encT w a cap l) (ho:Oks l)
  (hQ:∀ x,0 < l.length -> a = some x -> ¬ P x.block) (hQ2:∀ x,0 < l.length -> a = some x -> x.block < w.heap.size) (hl:l.length <= 1100) (hs:s.2 <= 9000000) :
  Calls Tryz.prog 67 #[.pointer (some ⟨p,0,none⟩),.agg #[.slice a l.length cap,.slice ta tn tc,.bool last]] w fun e w'=>e = .returned (.tuple #[]) /\ Only P w w' /\ Wr P w' p (dynW s last l):=by
 have hbx:=Zai w (.cells #[.slice a l.length cap,.slice ta tn tc,.bool last] 64)
 have htc:=World.alloc_heap_new w (.cells #[.slice a l.length cap,.slice ta tn tc,.bool last] 64)
 have hsx:w.heap.size < (w.alloc (.cells #[.slice a l.length cap,.slice ta tn tc,.bool last] 64)).heap.size:=by simp
 have HWX:=Zh (hW.narrow hbx)
 have HRX:=Zh (hr.below hbx)
 have HTC:Hid (∀ A,Only (Sub P w.heap.size (w.alloc (.cells #[.slice a l.length cap,.slice ta tn tc,.bool last] 64)).heap.size) (w.alloc (.cells #[.slice a l.length cap,.slice ta tn tc,.bool last] 64)) A -> A.cell? ⟨w.heap.size,0,none⟩ = some (.slice a l.length cap) /\ A.cell? ⟨w.heap.size,2,none⟩ = some (.bool last)):=Zh (fun A hA=>by
  have g:=(hA.block w.heap.size hsx (fun h=>h.2 ⟨Nat.le_refl _,hsx⟩)).trans htc
  exact ⟨(cells3 g).1,(cells3 g).2.2⟩)
 have HWD:Hid (∀ A st',Only (Sub P w.heap.size (w.alloc (.cells #[.slice a l.length cap,.slice ta tn tc,.bool last] 64)).heap.size) (w.alloc (.cells #[.slice a l.length cap,.slice ta tn tc,.bool last] 64)) A -> Wr (Sub P w.heap.size (w.alloc (.cells #[.slice a l.length cap,.slice ta tn tc,.bool last] 64)).heap.size) A p st' -> Only P w A /\ Wr P A p st'):=Zh (fun A st' g1 g2=>⟨(Only.ofBelow hbx).trans g1.widen,g2.widen⟩)
 have HQX:Hid (∀ x,0 < l.length -> a = some x -> ¬ Sub P w.heap.size (w.alloc (.cells #[.slice a l.length cap,.slice ta tn tc,.bool last] 64)).heap.size x.block /\ x.block < (w.alloc (.cells #[.slice a l.length cap,.slice ta tn tc,.bool last] 64)).heap.size):=Zh (fun x h0 ha=>⟨fun h=>hQ x h0 ha h.1,Nat.lt_trans (hQ2 x h0 ha) hsx⟩)
 have hbz:(begW s last 2).2 = s.2 + 3:=(Zcn hg last 2).2.2
 have hcf:=Zhu l
 have hco:=Zhv l
 have hm:=Zqd l ho.1
 have hw1:(wordsE (codF l)).2 = 0:=Zgk _ (fun x hx=>by have:=Zfg l x hx;omega) (by omega) (Zwt l).2
 have hw2:(wordsE (codO l)).2 = 0:=Zgk _ (fun x hx=>by have:=Zfh l x hx;omega) (by omega) (Zwu l).2
 have hz:(hputW (begW s last 2) (codF l) (codO l)).2 <= 9010000:=by
  have h1:=Zoh (Zcn hg last 2).1 (codF l) (codO l) (fun x hx=>by
   rcases List.mem_append.1 hx with h | h
   ·exact Zfg l x h
   ·exact Zfh l x h)
  omega
 have HC:Hid (∀ W,RowS encT W a cap l -> Calls Tryz.prog 35 #[.slice a l.length cap] W fun e w'=>∃ a1 c1 a2 c2,e = .returned (.tuple #[.slice a1 (codF l).length c1,.slice a2 (codO l).length c2,.int .i64 0]) /\ RowN .u8 w' a1 c1 (codF l) /\ RowN .u8 w' a2 c2 (codO l) /\ Below W.heap.size W w' /\ (∀ x,a1 = some x -> W.heap.size <= x.block) /\ (∀ x,a2 = some x -> W.heap.size <= x.block)):=Zh (fun W h=>by
  refine (Zin a cap l W hl ho.2 h).mono ?_
  rintro e w' (⟨_,h⟩ | ⟨h,_⟩)
  ·exact h
  ·exact absurd ho.1 h)
 have HD:Hid (∀ T,addSymE (codF l) (layTo (codF l) (codO l) (hputW (begW s last 2) (codF l) (codO l)) l) 256 = T -> dynW s last l = T):=Zh (fun T h=>h)
 obtain ⟨D,hD⟩:∃ D,dynW s last l = D:=⟨_,rfl⟩
 rw [hD] at HD ⊢
 generalize codF l = F at *
 generalize codO l = O at *
 have HBY:=Zh ho.2
 have HM:=Zh (And.intro hm (And.intro hw1 hw2))
 obtain ⟨k0,k2⟩:=HTC.out _ (Only.refl _ _)
 clear hW hg hr ho hQ hQ2 hbx htc hsx hD hm hw1 hw2
 go_enter Tryz.func67,Tryz.ntmps67
 go_wp2_with fail
 obtain ⟨tb,htb⟩:∃ tb,w.heap.size = tb:=⟨_,rfl⟩
 rw [htb] at HWX HQX HTC HWD k0 k2
 generalize Sub P tb (w.alloc (.cells #[.slice a l.length cap,.slice ta tn tc,.bool last] 64)).heap.size = Q at *
 generalize w.alloc (.cells #[.slice a l.length cap,.slice ta tn tc,.bool last] 64) = W1 at *
 have HC1:=Zh (HC.out W1 HRX.out)
 go_wp2_with fail
 refine HC1.out.mono ?_
 rintro e W2 ⟨a1,c1,a2,c2,rfl,r1,r2,hb2,f1,f2⟩
 have HK1:=Zh (Zzi (Q:=Q) r1 f1)
 have HK2:=Zh (Zzi (Q:=Q) r2 f2)
 have HKS:=Zh (Zadp (Q:=Sub Q W1.heap.size W2.heap.size) (HRX.out.below hb2) (fun x h0 ha=>⟨fun h=>(HQX.out x h0 ha).1 h.1,Nat.lt_of_lt_of_le (HQX.out x h0 ha).2 hb2.size⟩))
 have HQ3:Hid (∀ x,0 < l.length -> a = some x -> ¬ Sub Q W1.heap.size W2.heap.size x.block /\ x.block < W2.heap.size):=Zh (fun x h0 ha=>⟨fun h=>(HQX.out x h0 ha).1 h.1,Nat.lt_of_lt_of_le (HQX.out x h0 ha).2 hb2.size⟩)
 have HW2:=Zh (HWX.out.narrow hb2)
 have HT2:Hid (∀ A,Only (Sub Q W1.heap.size W2.heap.size) W2 A -> A.cell? ⟨tb,0,none⟩ = some (.slice a l.length cap) /\ A.cell? ⟨tb,2,none⟩ = some (.bool last)):=Zh (fun A hA=>HTC.out A ((Only.ofBelow hb2).trans hA.widen))
 have HE2:Hid (∀ A st',Only (Sub Q W1.heap.size W2.heap.size) W2 A -> Wr (Sub Q W1.heap.size W2.heap.size) A p st' -> Only P w A /\ Wr P A p st'):=Zh (fun A st' g1 g2=>HWD.out A st' ((Only.ofBelow hb2).trans g1.widen) g2.widen)
 have hc1:=r1.1
 have hc2:=r2.1
 have hl1:=r1.len
 have hl2:=r2.len
 clear HC1 HC HRX HTC HWD HWX HQX r1 r2 hb2 f1 f2 k0 k2
 generalize Sub Q W1.heap.size W2.heap.size = Q2 at *
 obtain ⟨k0,k2⟩:=HT2.out _ (Only.refl _ _)
 have HBG:=Zh (Zcv HW2.out last 2 (by decide) (by omega))
 clear HW2
 go_wp2_with fail
 refine HBG.out.mono ?_
 rintro e W3 ⟨rfl,ho3,hw3⟩
 have HO3:=Zh ho3
 have HP:=Zh (Zkn hw3 a1 a2 c1 c2 F O (HK1.out _ ho3) (HK2.out _ ho3) (by omega) (by omega) (by omega))
 rw [HM.out.1] at HP
 clear ho3 hw3 HBG k0 k2
 go_wp2_with fail
 refine HP.out.mono ?_
 rintro e W4 ⟨ho4,rfl,hw4⟩
 have HO4:=Zh (HO3.out.trans ho4)
 have HW4:=Zh hw4
 obtain ⟨k0,k2⟩:=HT2.out _ HO4.out
 have HSY:=Zh (Zhj HW4.out a a1 a2 cap c1 c2 l F O (HKS.out _ HO4.out) HBY.out (fun x h0 ha=>(HQ3.out x h0 ha).1) (fun x h0 ha=>Nat.lt_of_lt_of_le (HQ3.out x h0 ha).2 HO4.out.size) (HK1.out _ HO4.out) (HK2.out _ HO4.out) HM.out.2.1 HM.out.2.2 hl (by omega))
 clear ho4 hw4 HP HO3 HW4
 go_wp2_with fail
 refine HSY.out.mono ?_
 rintro e W5 ⟨rfl,ho5,hw5⟩
 have HO5:=Zh (HO4.out.trans ho5)
 have HW5:=Zh hw5
 clear ho5 hw5 HSY HO4 k0 k2
 go_wp2
 go_end0
 have he:=HE2.out _ _ HO5.out HW5.out
 refine ⟨rfl,he.1,?_⟩
 rw [HD.out _ rfl]
 exact he.2
end Go.Proofs.YtendielanacflaaGreat

namespace Go.Proofs.YtendielanacflaaGreat
open Go.RowKit Go.Shelf M01 M09 M10 M18
attribute [local go_sem] Oper.semAt_some
theorem Zne (n:Nat) (h:n < 65536):bits .xor .u32 (n:Int) 65535 = ((65535 - n:Nat):Int):=by
 have h1:(BitVec.ofInt 32 (n:Int)).toNat = n:=by
  rw [BitVec.ofInt_natCast,BitVec.toNat_ofNat];exact Nat.mod_eq_of_lt (by omega)
 have h2:(BitVec.ofInt 32 (65535:Int)).toNat = 65535:=by decide
 have h3:n ^^^ 65535 = 65535 - n:=by
  have e:(BitVec.ofNat 16 n ^^^ BitVec.allOnes 16).toNat = 65535 - n:=by
   rw [BitVec.xor_allOnes,BitVec.toNat_not,BitVec.toNat_ofNat,Nat.mod_eq_of_lt (by omega:n < 2 ^ 16)]
  rw [BitVec.toNat_xor,BitVec.toNat_ofNat,BitVec.toNat_allOnes,Nat.mod_eq_of_lt (by omega:n < 2 ^ 16)] at e
  exact e
 show IntKind.u32.wrap ((BitVec.ofInt 32 (n:Int) ^^^ BitVec.ofInt 32 (65535:Int)).toNat:Int) = _
 rw [BitVec.toNat_xor,h1,h2,h3,IntKind.wrap_u32]
 omega
def cutA (a:Option Addr) (cap k:Nat):Option Addr:=if cap = k then a else a.map (·.add k)
theorem cutHiN (a:Option Addr) (len cap k:Nat) (h:k <= len) (hc:len <= cap) (w:World):(Instr.sliceAt 24 (.slice a len cap) (some (.int .i64 (k:Nat))) none none).run Tryz.prog w = .ok (.slice (cutA a cap k) (len - k) (cap - k)) w:=by
 have hsz:(Tryz.prog.info? 5).map (·.size) = some 1:=by kernel_rfl
 have h3:k <= cap:=by omega
 cases h5:Tryz.prog.info? 5 with
 | none=>rw [h5] at hsz;cases hsz
 | some ie =>
  simp only [h5,Option.map_some,Option.some.injEq] at hsz
  simp [Instr.sliceAt,Instr.slice,Instr.sliceBounds,Instr.sliceBound,run_underlying Tryz.underlying24,asIntOf,sizeOf,typeInfo,h5,hsz,go_sem,h,hc,h3,cutA]
theorem Zmp {k:IntKind} {w:World} {a:Option Addr} {cap:Nat} {l:List Nat} (h:RowN k w a cap l) (n:Nat) (hn:n <= l.length):RowN k w (cutA a cap n) (cap - n) (l.drop n):=by
 obtain ⟨h1,h2,h3⟩:=h
 refine ⟨by rw [List.length_drop];omega,⟨by omega,fun e=>?_⟩,?_⟩
 ·unfold cutA at e
  split at e
  ·omega
  ·have:a = none:=by cases a with
    | none=>rfl
    | some x=>cases e
   have:=h2.2 this
   omega
 ·rcases h3 with h3 | ⟨b,off,ha,hb,hc⟩
  ·left;rw [h3];simp
  ·by_cases hl:n = l.length
   ·left;rw [hl,List.drop_length]
   ·right
    refine ⟨b,off + n,?_,hb,fun i hi=>?_⟩
    ·unfold cutA
     rw [if_neg (by omega),ha]
     simp [Addr.add]
    ·rw [List.length_drop] at hi
     have:=hc (n + i) (by omega)
     rw [List.getElem_drop]
     rw [<- Nat.add_assoc] at this
     exact this
theorem Zgp {a:Option Addr} {cap n:Nat} {x:Addr} (h:cutA a cap n = some x):∃ y,a = some y /\ x.block = y.block:=by
 unfold cutA at h
 split at h
 ·exact ⟨x,h,rfl⟩
 ·cases a with
  | none=>cases h
  | some y =>
   simp only [Option.map_some,Option.some.injEq] at h
   refine ⟨y,rfl,?_⟩
   rw [<- h]
   obtain ⟨yb,yo,yr⟩:=y
   cases yr with
   | none=>simp [Addr.add];split <;> rfl
   | some v =>
    simp [Addr.add]
    split <;> rfl
theorem cutLoN (a:Option Addr) (len cap k:Nat) (h:k <= cap) (w:World):(Instr.sliceAt 24 (.slice a len cap) none (some (.int .i64 (k:Nat))) none).run Tryz.prog w = .ok (.slice a k cap) w:=by
 have hsz:(Tryz.prog.info? 5).map (·.size) = some 1:=by kernel_rfl
 cases h5:Tryz.prog.info? 5 with
 | none=>rw [h5] at hsz;cases hsz
 | some ie =>
  simp only [h5,Option.map_some,Option.some.injEq] at hsz
  simp [Instr.sliceAt,Instr.slice,Instr.sliceBounds,Instr.sliceBound,run_underlying Tryz.underlying24,asIntOf,sizeOf,typeInfo,h5,hsz,go_sem,h,Addr.add]
theorem Zaec {S F:Wst} {last:Bool} {y:List Nat} (hg:WG S) (hF:stoW S last y = F):∃ n,n = min y.length 65535 /\ WG (stoBlk (begW S (last && decide (n = y.length)) 0) (y.take n)) /\ (stoBlk (begW S (last && decide (n = y.length)) 0) (y.take n)).2 <= F.2 ∧
  (n = y.length -> stoBlk (begW S (last && decide (n = y.length)) 0) (y.take n) = F) /\ (n ≠ y.length -> n = 65535 /\ stoW (stoBlk (begW S (last && decide (n = y.length)) 0) (y.take n)) last (y.drop n) = F):=by
 refine ⟨min y.length 65535,rfl,?_⟩
 by_cases h:y.length <= 65535
 ·have e:min y.length 65535 = y.length:=by omega
  rw [e,decide_eq_true rfl,Bool.and_true,List.take_length]
  rw [Zmw S last y h] at hF
  have h1:=Zeh hg last y
  rw [hF] at h1 ⊢
  exact ⟨h1.1,Nat.le_refl _,fun _=>rfl,fun h=>absurd rfl h⟩
 ·have e:min y.length 65535 = 65535:=by omega
  have hd:decide (65535 = y.length) = false:=by simp;omega
  rw [e,hd,Bool.and_false]
  rw [Zjs S last y (by omega)] at hF
  have h1:=Zeh hg false (y.take 65535)
  have h2:=Zgd y.length (y.drop 65535) (stoBlk (begW S false 0) (y.take 65535)) last (by rw [List.length_drop];omega) h1.1
  rw [hF] at h2
  exact ⟨h1.1,h2.2.1.1,fun h3=>by omega,fun _=>⟨rfl,hF⟩⟩
set_option maxRecDepth 100000 in
theorem Zdz {P:Nat -> Prop} {w:World} {p:Nat} {s:Wst} (h:Wr P w p s) (hb:8 * s.1.length <= 100000000) :
  Calls Tryz.prog 19 #[.pointer (some ⟨p,0,none⟩)] w fun e w'=>e = .returned (.int .i64 0) /\ Only P w w' /\ Wr P w' p (alignW s):=by
 obtain ⟨⟨a,c,h1,h2,h3,h4,h5⟩,h6,h7⟩:=h
 obtain ⟨k0,k1,z0,z1⟩:=Zae h1
 have hO:=(Only.refl P w).setCell (p:=⟨p,1,none⟩) (.inl h3) (.int .i64 ((8 * s.1.length:Nat):Int))
 have hW:Hid (Wr P (w.setCell ⟨p,1,none⟩ (.int .i64 ((8 * s.1.length:Nat):Int))) p (alignW s)):=by
  refine ⟨⟨a,c,(Zaq h1).2,h2.other (fun g e=>by have:=(h4 g e).2;show p ≠ g;omega) _,h3,h4,fun b hb=>h5 b (Nat.le_trans hO.size hb)⟩,⟨?_,h6.2⟩,hb⟩
  show s.1.length = (8 * s.1.length + 7) / 8
  omega
 have HO:=Zh hO
 obtain ⟨m,hm⟩:∃ m,8 * s.1.length = m:=⟨_,rfl⟩
 rw [hm] at hb hW HO
 obtain ⟨n,hn⟩:∃ n,s.1.length = n:=⟨_,rfl⟩
 rw [hn] at k0 hm
 clear h1 h2 h3 h4 h5 h6 h7 hO hn
 have q:(8:Int) * (n:Int) = (m:Int):=by omega
 have qw:IntKind.i64.wrap (m:Int) = (m:Int):=IntWalk.i64_in _ (by omega)
 clear hm
 go_enter Tryz.func19,Tryz.ntmps19
 go_wp2
 go_ret
 exact ⟨rfl,HO.out,hW.out⟩
set_option maxRecDepth 100000 in
set_option maxHeartbeats 1600000 in
theorem Zip {P:Nat -> Prop} {w:World} {p:Nat} {s:Wst} (hW:Wr P w p s) (hg:WG s) (la:Option Addr) (ln lc:Nat) (ta:Option Addr) (tc:Nat) (x:List Nat) (last:Bool) (hr:RowN .u8 w ta tc x) (hx:∀ c ∈ x,c < 256)
  (hQ:∀ a,0 < x.length -> ta = some a -> ¬ P a.block) (hs:(stoW s last x).2 <= 100000000) :
  Calls Tryz.prog 31 #[.pointer (some ⟨p,0,none⟩),.agg #[.slice la ln lc,.slice ta x.length tc,.bool last]] w fun e w'=>e = .returned (.tuple #[]) /\ Only P w w' /\ Wr P w' p (stoW s last x):=by
 have hbx:=Zai w (.cells #[.slice la ln lc,.slice ta x.length tc,.bool last] 64)
 have htc:=World.alloc_heap_new w (.cells #[.slice la ln lc,.slice ta x.length tc,.bool last] 64)
 have hsx:w.heap.size < (w.alloc (.cells #[.slice la ln lc,.slice ta x.length tc,.bool last] 64)).heap.size:=by simp
 have HWX:=Zh (hW.narrow hbx)
 have HRX:=Zh (hr.below hbx)
 have HQX:Hid (∀ a,0 < x.length -> ta = some a -> ¬ Sub P w.heap.size (w.alloc (.cells #[.slice la ln lc,.slice ta x.length tc,.bool last] 64)).heap.size a.block /\ a.block < (w.alloc (.cells #[.slice la ln lc,.slice ta x.length tc,.bool last] 64)).heap.size):=Zh (fun a h0 ha=>⟨fun h=>hQ a h0 ha h.1,by
  obtain ⟨b',off,he,hlt,_⟩:=(hr.below hbx).at h0
  rw [ha] at he
  cases he
  exact hlt⟩)
 have HTC:Hid (∀ A,Only (Sub P w.heap.size (w.alloc (.cells #[.slice la ln lc,.slice ta x.length tc,.bool last] 64)).heap.size) (w.alloc (.cells #[.slice la ln lc,.slice ta x.length tc,.bool last] 64)) A -> A.cell? ⟨w.heap.size,1,none⟩ = some (.slice ta x.length tc) /\ A.cell? ⟨w.heap.size,2,none⟩ = some (.bool last)):=Zh (fun A hA=>by
  have g:=(hA.block w.heap.size hsx (fun h=>h.2 ⟨Nat.le_refl _,hsx⟩)).trans htc
  exact ⟨(cells3 g).2.1,(cells3 g).2.2⟩)
 have HWD:Hid (∀ A st',Only (Sub P w.heap.size (w.alloc (.cells #[.slice la ln lc,.slice ta x.length tc,.bool last] 64)).heap.size) (w.alloc (.cells #[.slice la ln lc,.slice ta x.length tc,.bool last] 64)) A -> Wr (Sub P w.heap.size (w.alloc (.cells #[.slice la ln lc,.slice ta x.length tc,.bool last] 64)).heap.size) A p st' -> Only P w A /\ Wr P A p st'):=Zh (fun A st' g1 g2=>⟨(Only.ofBelow hbx).trans g1.widen,g2.widen⟩)
 have HX:=Zh hx
 have HG:=Zh hg
 have HS:=Zh hs
 obtain ⟨F,hF⟩:∃ F,stoW s last x = F:=⟨_,rfl⟩
 have HF:=Zh hF
 rw [hF] at HS ⊢
 have hxl:=hr.len
 have hcap:=hr.1
 obtain ⟨k0,k1⟩:=HTC.out _ (Only.refl _ _)
 clear hW hg hr hx hQ hs hbx htc hsx hF
 go_enter Tryz.func31,Tryz.ntmps31
 go_wp2_with fail
 obtain ⟨tb,htb⟩:∃ tb,w.heap.size = tb:=⟨_,rfl⟩
 rw [htb] at HWX HQX HTC HWD k0 k1
 have HB1:=Zh (show ∀ st',stoW s last x = st' -> st' = F from fun st' h=>by rw [<- h];exact HF.out)
 generalize Sub P tb (w.alloc (.cells #[.slice la ln lc,.slice ta x.length tc,.bool last] 64)).heap.size = Q at *
 generalize w.alloc (.cells #[.slice la ln lc,.slice ta x.length tc,.bool last] 64) = W1 at *
 go_loopw [4] (fun bv A=>∃ (y:List Nat) (S:Wst) (a':Option Addr) (c':Nat),bv = .slice a' y.length c' /\ RowN .u8 W1 a' c' y /\ (∀ c ∈ y,c < 256) /\ (∀ a,0 < y.length -> a' = some a -> ¬ Q a.block /\ a.block < W1.heap.size) /\ stoW S last y = F /\ WG S /\ Only Q W1 A /\ Wr Q A p S) (fun bv _=>match bv with | .slice _ n _=>n | _=>0)
 case atStart=>exact ⟨x,s,ta,tc,rfl,HRX.out,HX.out,HQX.out,HF.out,HG.out,Only.refl _ _,HWX.out⟩
 case round =>
  clear HWX k0 k1
  obtain ⟨y,S,a',c',rfl,hry,hby,hqy,hFy,hgS,hoA,hwA⟩:=hrel
  obtain ⟨n,hn,hgS',hle,hend,hmore⟩:=Zaec hgS hFy
  obtain ⟨m0,m1⟩:=HTC.out _ hoA
  have hyl:=hry.len
  have hyc:=hry.1
  have hal:S.2 + 3 <= M17.align (S.2 + 3) /\ M17.align (S.2 + 3) + 32 + 8 * n <= 100000000:=by
   have h1:=(Zeh hgS (last && decide (n = y.length)) (y.take n)).2.2
   rw [List.length_take] at h1
   have h2:=M17.Zht (S.2 + 3)
   have:=HS.out
   omega
  obtain ⟨hal1,hal2⟩:=hal
  have HY:=Zh (And.intro hry (And.intro hby hqy))
  have HE:=Zh (And.intro hend (And.intro hmore hgS'))
  have HO:=Zh hoA
  have HW:=Zh hwA
  have HGS:=Zh hgS
  clear hry hby hqy hend hmore hgS' hoA hwA hle hFy hgS
  by_cases hc:y.length <= 65535
  ·obtain rfl:n = y.length:=by omega
   clear hn
   cases last with
   | false =>
    have HBG:=Zh (Zcv HW.out false 0 (by decide) (by omega))
    have u1:((y.length:Nat):Int) % 4294967296 = ((y.length:Nat):Int):=by omega
    obtain ⟨r,hr⟩:∃ r,65535 - y.length = r:=⟨_,rfl⟩
    have ux:bits .xor .u32 ((y.length:Nat):Int) 65535 = (r:Int):=by rw [<- hr];exact Zne y.length (by omega)
    have hrl:r <= 65535:=by omega
    have HR:=Zh hr
    have HCL:=Zh (fun A=>cutLoN a' y.length c' y.length (by omega) A)
    have HCH:=Zh (fun A=>cutHiN a' y.length c' y.length (by omega) (by omega) A)
    clear hr
    go_wp2_with fail
    refine HBG.out.mono ?_
    rintro e w2 ⟨rfl,ho2,hw2⟩
    obtain ⟨g1,_,z1⟩:=Zcn HGS.out false 0
    obtain ⟨S1,hS1⟩:∃ T,begW S false 0 = T:=⟨_,rfl⟩
    rw [hS1] at g1 z1 hw2
    have g2:=(Zet g1).1
    have z2:=Zct g1
    rw [z1] at z2
    have z2':(alignW S1).2 = M17.align (S.2 + 3):=z2
    have hb8:8 * S1.1.length <= 100000000:=by have:(alignW S1).2 = 8 * S1.1.length:=rfl;omega
    have HS1:=Zh hS1
    have HO2:=Zh (HO.out.trans ho2)
    have HAL:=Zh (Zdz hw2 hb8)
    obtain ⟨S2,hS2⟩:∃ S,alignW S1 = S:=⟨_,rfl⟩
    rw [hS2] at g2 z2' HAL
    have HS2:=Zh hS2
    clear hS1 hS2 z1 z2 g1 ho2 hw2 HBG HO HW hb8
    go_wp2_with fail
    refine HAL.out.mono ?_
    rintro e w3 ⟨rfl,ho3,hw3⟩
    have HO3:=Zh (HO2.out.trans ho3)
    have HP1:=Zh (Zau hw3 y.length 16 (by decide) (by omega) (by omega))
    have g3:=(Zal g2 y.length 16).1
    have z3:(addNum S2 y.length 16).2 = M17.align (S.2 + 3) + 16:=by rw [Zac,z2']
    obtain ⟨S3,hS3⟩:∃ S,addNum S2 y.length 16 = S:=⟨_,rfl⟩
    rw [hS3] at g3 z3 HP1
    have HS3:=Zh hS3
    clear hS3 z2' g2 ho3 hw3 HAL HO2
    go_wp2_with fail
    refine HP1.out.mono ?_
    rintro e w4 ⟨rfl,ho4,hw4⟩
    have HO4:=Zh (HO3.out.trans ho4)
    have HP2:=Zh (Zau hw4 r 16 (by decide) (by omega) (by omega))
    have g4:=(Zal g3 r 16).1
    have z4:(addNum S3 r 16).2 = M17.align (S.2 + 3) + 32:=by rw [Zac,z3]
    obtain ⟨S4,hS4⟩:∃ S,addNum S3 r 16 = S:=⟨_,rfl⟩
    rw [hS4] at g4 z4 HP2
    have HS4:=Zh hS4
    clear hS4 z3 g3 ho4 hw4 HP1 HO3
    go_wp2_with fail
    refine HP2.out.mono ?_
    rintro e w5 ⟨rfl,ho5,hw5⟩
    have HO5:=Zh (HO4.out.trans ho5)
    have HW5:=Zh hw5
    have hcl:∀ A,(Instr.sliceAt 24 (.slice a' y.length c') none (some (.int .i64 ((y.length:Nat):Int))) none).run Tryz.prog A = .ok (.slice a' y.length c') A:=HCL.out
    clear ho5 hw5 HP2 HO4
    go_wp2_with fail
    clear hcl
    go_loopw [7,38] (fun _ j B=>∃ q:Nat,q <= y.length /\ j = .int .i64 (q:Nat) /\ Only Q W1 B /\ Wr Q B p (putB S4 (y.take q))) (fun _ j _=>y.length - (intOf j).toNat)
    case atStart=>exact ⟨0,by omega,rfl,HO5.out,HW5.out⟩
    case round =>
     clear HO5 HW5
     obtain ⟨q,hq,rfl,hoB,hwB⟩:=hrel
     have hpz:=(Zji (y.take q) g4).2.2
     rw [z4,List.length_take] at hpz
     by_cases hlt:q < y.length
     ·have hqy':q < y.length:=by omega
      have hrB:=HY.out.1.same hoB.size (fun a h0 ha=>hoB.block a.block ((HY.out.2.2 a h0 ha).2) ((HY.out.2.2 a h0 ha).1))
      obtain ⟨bb,off,rfl,hbb,hcv⟩:=hrB.at hqy'
      have hv:=HY.out.2.1 _ (List.getElem_mem hqy')
      have HT:=Zh (Zga S4 y q hqy')
      have HOB:=Zh hoB
      have HWB:=Zh hwB
      have hqi:(q:Int) < ((y.length:Nat):Int):=by omega
      clear hrB hoB hwB
      generalize y[q] = v at *
      generalize putB S4 (y.take q) = SA at *
      have u3:(v:Int) % 4294967296 = (v:Int):=by omega
      go_wp2_with fail
      refine (Zau HWB.out v 8 (by decide) (by omega) (by omega)).mono ?_
      rintro e w6 ⟨rfl,ho6,hw6⟩
      have HO6:=Zh (HOB.out.trans ho6)
      have HW6:=Zh hw6
      clear ho6 hw6
      go_wp2
      go_roundw
      case rel=>exact ⟨q + 1,by omega,by go_num,HO6.out,by rw [HT.out];exact HW6.out⟩
      case measure=>simp [intOf];omega
     obtain rfl:q = y.length:=by omega
     have hfin:putB S4 (y.take y.length) = stoBlk (begW S false 0) (y.take y.length):=by
      have e:(y.take y.length).length = y.length:=by rw [List.length_take];omega
      unfold stoBlk
      rw [e,HR.out,HS1.out,HS2.out,HS3.out,HS4.out]
     rw [hfin] at hwB
     have HOB:=Zh hoB
     have HWB:=Zh hwB
     have hch:∀ A,(Instr.sliceAt 24 (.slice a' y.length c') (some (.int .i64 ((y.length:Nat):Int))) none none).run Tryz.prog A = .ok (.slice (cutA a' c' y.length) (y.length - y.length) (c' - y.length)) A:=HCH.out
     obtain ⟨rest,hrest⟩:∃ rest,y.length - y.length = rest:=⟨_,rfl⟩
     rw [hrest] at hch
     obtain rfl:rest = 0:=by omega
     have hE:=HE.out.1 (by simp)
     clear hfin hoB hwB hrest hlt hpz
     go_wp2
     refine bodyPost_ret (results_none rfl _ _ _) rfl ?_
     have hd:=HWD.out _ _ HOB.out HWB.out
     refine ⟨rfl,hd.1,?_⟩
     have e1:stoBlk (begW S false 0) (y.take y.length) = F:=by simpa using hE
     rw [<- e1]
     exact hd.2
   | true =>
    have HBG:=Zh (Zcv HW.out true 0 (by decide) (by omega))
    have u1:((y.length:Nat):Int) % 4294967296 = ((y.length:Nat):Int):=by omega
    obtain ⟨r,hr⟩:∃ r,65535 - y.length = r:=⟨_,rfl⟩
    have ux:bits .xor .u32 ((y.length:Nat):Int) 65535 = (r:Int):=by rw [<- hr];exact Zne y.length (by omega)
    have hrl:r <= 65535:=by omega
    have HR:=Zh hr
    have HCL:=Zh (fun A=>cutLoN a' y.length c' y.length (by omega) A)
    have HCH:=Zh (fun A=>cutHiN a' y.length c' y.length (by omega) (by omega) A)
    clear hr
    go_wp2_with fail
    refine HBG.out.mono ?_
    rintro e w2 ⟨rfl,ho2,hw2⟩
    obtain ⟨g1,_,z1⟩:=Zcn HGS.out true 0
    obtain ⟨S1,hS1⟩:∃ T,begW S true 0 = T:=⟨_,rfl⟩
    rw [hS1] at g1 z1 hw2
    have g2:=(Zet g1).1
    have z2:=Zct g1
    rw [z1] at z2
    have z2':(alignW S1).2 = M17.align (S.2 + 3):=z2
    have hb8:8 * S1.1.length <= 100000000:=by have:(alignW S1).2 = 8 * S1.1.length:=rfl;omega
    have HS1:=Zh hS1
    have HO2:=Zh (HO.out.trans ho2)
    have HAL:=Zh (Zdz hw2 hb8)
    obtain ⟨S2,hS2⟩:∃ S,alignW S1 = S:=⟨_,rfl⟩
    rw [hS2] at g2 z2' HAL
    have HS2:=Zh hS2
    clear hS1 hS2 z1 z2 g1 ho2 hw2 HBG HO HW hb8
    go_wp2_with fail
    refine HAL.out.mono ?_
    rintro e w3 ⟨rfl,ho3,hw3⟩
    have HO3:=Zh (HO2.out.trans ho3)
    have HP1:=Zh (Zau hw3 y.length 16 (by decide) (by omega) (by omega))
    have g3:=(Zal g2 y.length 16).1
    have z3:(addNum S2 y.length 16).2 = M17.align (S.2 + 3) + 16:=by rw [Zac,z2']
    obtain ⟨S3,hS3⟩:∃ S,addNum S2 y.length 16 = S:=⟨_,rfl⟩
    rw [hS3] at g3 z3 HP1
    have HS3:=Zh hS3
    clear hS3 z2' g2 ho3 hw3 HAL HO2
    go_wp2_with fail
    refine HP1.out.mono ?_
    rintro e w4 ⟨rfl,ho4,hw4⟩
    have HO4:=Zh (HO3.out.trans ho4)
    have HP2:=Zh (Zau hw4 r 16 (by decide) (by omega) (by omega))
    have g4:=(Zal g3 r 16).1
    have z4:(addNum S3 r 16).2 = M17.align (S.2 + 3) + 32:=by rw [Zac,z3]
    obtain ⟨S4,hS4⟩:∃ S,addNum S3 r 16 = S:=⟨_,rfl⟩
    rw [hS4] at g4 z4 HP2
    have HS4:=Zh hS4
    clear hS4 z3 g3 ho4 hw4 HP1 HO3
    go_wp2_with fail
    refine HP2.out.mono ?_
    rintro e w5 ⟨rfl,ho5,hw5⟩
    have HO5:=Zh (HO4.out.trans ho5)
    have HW5:=Zh hw5
    have hcl:∀ A,(Instr.sliceAt 24 (.slice a' y.length c') none (some (.int .i64 ((y.length:Nat):Int))) none).run Tryz.prog A = .ok (.slice a' y.length c') A:=HCL.out
    clear ho5 hw5 HP2 HO4
    go_wp2_with fail
    clear hcl
    go_loopw [7,38] (fun _ j B=>∃ q:Nat,q <= y.length /\ j = .int .i64 (q:Nat) /\ Only Q W1 B /\ Wr Q B p (putB S4 (y.take q))) (fun _ j _=>y.length - (intOf j).toNat)
    case atStart=>exact ⟨0,by omega,rfl,HO5.out,HW5.out⟩
    case round =>
     clear HO5 HW5
     obtain ⟨q,hq,rfl,hoB,hwB⟩:=hrel
     have hpz:=(Zji (y.take q) g4).2.2
     rw [z4,List.length_take] at hpz
     by_cases hlt:q < y.length
     ·have hqy':q < y.length:=by omega
      have hrB:=HY.out.1.same hoB.size (fun a h0 ha=>hoB.block a.block ((HY.out.2.2 a h0 ha).2) ((HY.out.2.2 a h0 ha).1))
      obtain ⟨bb,off,rfl,hbb,hcv⟩:=hrB.at hqy'
      have hv:=HY.out.2.1 _ (List.getElem_mem hqy')
      have HT:=Zh (Zga S4 y q hqy')
      have HOB:=Zh hoB
      have HWB:=Zh hwB
      have hqi:(q:Int) < ((y.length:Nat):Int):=by omega
      clear hrB hoB hwB
      generalize y[q] = v at *
      generalize putB S4 (y.take q) = SA at *
      have u3:(v:Int) % 4294967296 = (v:Int):=by omega
      go_wp2_with fail
      refine (Zau HWB.out v 8 (by decide) (by omega) (by omega)).mono ?_
      rintro e w6 ⟨rfl,ho6,hw6⟩
      have HO6:=Zh (HOB.out.trans ho6)
      have HW6:=Zh hw6
      clear ho6 hw6
      go_wp2
      go_roundw
      case rel=>exact ⟨q + 1,by omega,by go_num,HO6.out,by rw [HT.out];exact HW6.out⟩
      case measure=>simp [intOf];omega
     obtain rfl:q = y.length:=by omega
     have hfin:putB S4 (y.take y.length) = stoBlk (begW S true 0) (y.take y.length):=by
      have e:(y.take y.length).length = y.length:=by rw [List.length_take];omega
      unfold stoBlk
      rw [e,HR.out,HS1.out,HS2.out,HS3.out,HS4.out]
     rw [hfin] at hwB
     have HOB:=Zh hoB
     have HWB:=Zh hwB
     have hch:∀ A,(Instr.sliceAt 24 (.slice a' y.length c') (some (.int .i64 ((y.length:Nat):Int))) none none).run Tryz.prog A = .ok (.slice (cutA a' c' y.length) (y.length - y.length) (c' - y.length)) A:=HCH.out
     obtain ⟨rest,hrest⟩:∃ rest,y.length - y.length = rest:=⟨_,rfl⟩
     rw [hrest] at hch
     obtain rfl:rest = 0:=by omega
     have hE:=HE.out.1 (by simp)
     clear hfin hoB hwB hrest hlt hpz
     go_wp2
     refine bodyPost_ret (results_none rfl _ _ _) rfl ?_
     have hd:=HWD.out _ _ HOB.out HWB.out
     refine ⟨rfl,hd.1,?_⟩
     have e1:stoBlk (begW S true 0) (y.take y.length) = F:=by simpa using hE
     rw [<- e1]
     exact hd.2
  ·obtain rfl:n = 65535:=by omega
   have hcn:((65535:Int) == (y.length:Int)) = false:=by simp;omega
   clear hn
   cases last with
   | false =>
    have HBG:=Zh (Zcv HW.out false 0 (by decide) (by omega))
    have u1:((65535:Nat):Int) % 4294967296 = ((65535:Nat):Int):=by omega
    obtain ⟨r,hr⟩:∃ r,65535 - 65535 = r:=⟨_,rfl⟩
    have ux:bits .xor .u32 (65535:Int) 65535 = (r:Int):=by rw [<- hr];exact Zne 65535 (by omega)
    have hrl:r <= 65535:=by omega
    have HR:=Zh hr
    have HCL:=Zh (fun A=>cutLoN a' y.length c' 65535 (by omega) A)
    have HCH:=Zh (fun A=>cutHiN a' y.length c' 65535 (by omega) (by omega) A)
    clear hr
    go_wp2_with fail
    refine HBG.out.mono ?_
    rintro e w2 ⟨rfl,ho2,hw2⟩
    obtain ⟨g1,_,z1⟩:=Zcn HGS.out false 0
    obtain ⟨S1,hS1⟩:∃ T,begW S false 0 = T:=⟨_,rfl⟩
    rw [hS1] at g1 z1 hw2
    have g2:=(Zet g1).1
    have z2:=Zct g1
    rw [z1] at z2
    have z2':(alignW S1).2 = M17.align (S.2 + 3):=z2
    have hb8:8 * S1.1.length <= 100000000:=by have:(alignW S1).2 = 8 * S1.1.length:=rfl;omega
    have HS1:=Zh hS1
    have HO2:=Zh (HO.out.trans ho2)
    have HAL:=Zh (Zdz hw2 hb8)
    obtain ⟨S2,hS2⟩:∃ S,alignW S1 = S:=⟨_,rfl⟩
    rw [hS2] at g2 z2' HAL
    have HS2:=Zh hS2
    clear hS1 hS2 z1 z2 g1 ho2 hw2 HBG HO HW hb8
    go_wp2_with fail
    refine HAL.out.mono ?_
    rintro e w3 ⟨rfl,ho3,hw3⟩
    have HO3:=Zh (HO2.out.trans ho3)
    have HP1:=Zh (Zau hw3 65535 16 (by decide) (by omega) (by omega))
    have g3:=(Zal g2 65535 16).1
    have z3:(addNum S2 65535 16).2 = M17.align (S.2 + 3) + 16:=by rw [Zac,z2']
    obtain ⟨S3,hS3⟩:∃ S,addNum S2 65535 16 = S:=⟨_,rfl⟩
    rw [hS3] at g3 z3 HP1
    have HS3:=Zh hS3
    clear hS3 z2' g2 ho3 hw3 HAL HO2
    go_wp2_with fail
    refine HP1.out.mono ?_
    rintro e w4 ⟨rfl,ho4,hw4⟩
    have HO4:=Zh (HO3.out.trans ho4)
    have HP2:=Zh (Zau hw4 r 16 (by decide) (by omega) (by omega))
    have g4:=(Zal g3 r 16).1
    have z4:(addNum S3 r 16).2 = M17.align (S.2 + 3) + 32:=by rw [Zac,z3]
    obtain ⟨S4,hS4⟩:∃ S,addNum S3 r 16 = S:=⟨_,rfl⟩
    rw [hS4] at g4 z4 HP2
    have HS4:=Zh hS4
    clear hS4 z3 g3 ho4 hw4 HP1 HO3
    go_wp2_with fail
    refine HP2.out.mono ?_
    rintro e w5 ⟨rfl,ho5,hw5⟩
    have HO5:=Zh (HO4.out.trans ho5)
    have HW5:=Zh hw5
    have hcl:∀ A,(Instr.sliceAt 24 (.slice a' y.length c') none (some (.int .i64 (65535:Int))) none).run Tryz.prog A = .ok (.slice a' 65535 c') A:=HCL.out
    clear ho5 hw5 HP2 HO4
    go_wp2_with fail
    clear hcl
    go_loopw [7,38] (fun _ j B=>∃ q:Nat,q <= 65535 /\ j = .int .i64 (q:Nat) /\ Only Q W1 B /\ Wr Q B p (putB S4 (y.take q))) (fun _ j _=>y.length - (intOf j).toNat)
    case atStart=>exact ⟨0,by omega,rfl,HO5.out,HW5.out⟩
    case round =>
     clear HO5 HW5
     obtain ⟨q,hq,rfl,hoB,hwB⟩:=hrel
     have hpz:=(Zji (y.take q) g4).2.2
     rw [z4,List.length_take] at hpz
     by_cases hlt:q < 65535
     ·have hqy':q < y.length:=by omega
      have hrB:=HY.out.1.same hoB.size (fun a h0 ha=>hoB.block a.block ((HY.out.2.2 a h0 ha).2) ((HY.out.2.2 a h0 ha).1))
      obtain ⟨bb,off,rfl,hbb,hcv⟩:=hrB.at hqy'
      have hv:=HY.out.2.1 _ (List.getElem_mem hqy')
      have HT:=Zh (Zga S4 y q hqy')
      have HOB:=Zh hoB
      have HWB:=Zh hwB
      have hqi:(q:Int) < (65535:Int):=by omega
      clear hrB hoB hwB
      generalize y[q] = v at *
      generalize putB S4 (y.take q) = SA at *
      have u3:(v:Int) % 4294967296 = (v:Int):=by omega
      go_wp2_with fail
      refine (Zau HWB.out v 8 (by decide) (by omega) (by omega)).mono ?_
      rintro e w6 ⟨rfl,ho6,hw6⟩
      have HO6:=Zh (HOB.out.trans ho6)
      have HW6:=Zh hw6
      clear ho6 hw6
      go_wp2
      go_roundw
      case rel=>exact ⟨q + 1,by omega,by go_num,HO6.out,by rw [HT.out];exact HW6.out⟩
      case measure=>simp [intOf];omega
     have hq65:q = 65535:=by omega
     have hqn:¬ ((q:Int) < 65535):=by omega
     rw [hq65] at hwB
     clear hq65 hq
     have hfin:putB S4 (y.take 65535) = stoBlk (begW S false 0) (y.take 65535):=by
      have e:(y.take 65535).length = 65535:=by rw [List.length_take];omega
      unfold stoBlk
      rw [e,HR.out,HS1.out,HS2.out,HS3.out,HS4.out]
     rw [hfin] at hwB
     have HOB:=Zh hoB
     have HWB:=Zh hwB
     have hch:∀ A,(Instr.sliceAt 24 (.slice a' y.length c') (some (.int .i64 (65535:Int))) none none).run Tryz.prog A = .ok (.slice (cutA a' c' 65535) (y.length - 65535) (c' - 65535)) A:=HCH.out
     obtain ⟨rest,hrest⟩:∃ rest,y.length - 65535 = rest:=⟨_,rfl⟩
     rw [hrest] at hch
     obtain ⟨cx,hcx⟩:∃ cx,c' - 65535 = cx:=⟨_,rfl⟩
     obtain ⟨ax,hax⟩:∃ ax,cutA a' c' 65535 = ax:=⟨_,rfl⟩
     rw [hax,hcx] at hch
     have HCX:=Zh hcx
     have HAX:=Zh hax
     have hne:((rest:Int) == 0) = false:=by simp;omega
     have HRE:=Zh hrest
     obtain ⟨_,hm⟩:=HE.out.2.1 (by omega)
     have HM:=Zh hm
     have HGN:=Zh HE.out.2.2
     clear hfin hoB hwB hlt hpz hrest hm hcx hax
     go_wp2
     go_roundw
     case rel =>
      have hcx:=HCX.out
      have hax:=HAX.out
      subst hcx hax
      have e0:(y.drop 65535).length = rest:=by rw [List.length_drop];exact HRE.out
      have hdc:decide (65535 = y.length) = false:=by simp;omega
      have hm2:=HM.out
      have hg2:=HGN.out
      rw [hdc,Bool.and_false] at hm2 hg2
      refine ⟨y.drop 65535,(stoBlk (begW S false 0) (y.take 65535)).1,(stoBlk (begW S false 0) (y.take 65535)).2,cutA a' c' 65535,c' - 65535,⟨rfl,e0.symm,rfl⟩,Zmp HY.out.1 65535 (by omega),fun c hc=>HY.out.2.1 c (List.mem_of_mem_drop hc),fun a h0 ha=>?_,hm2,hg2,HOB.out,HWB.out⟩
      obtain ⟨a0,e1,e2⟩:=Zgp ha
      rw [e2]
      exact HY.out.2.2 a0 (by omega) e1
     case measure=>have:=HRE.out;omega
   | true =>
    have HBG:=Zh (Zcv HW.out false 0 (by decide) (by omega))
    have u1:((65535:Nat):Int) % 4294967296 = ((65535:Nat):Int):=by omega
    obtain ⟨r,hr⟩:∃ r,65535 - 65535 = r:=⟨_,rfl⟩
    have ux:bits .xor .u32 (65535:Int) 65535 = (r:Int):=by rw [<- hr];exact Zne 65535 (by omega)
    have hrl:r <= 65535:=by omega
    have HR:=Zh hr
    have HCL:=Zh (fun A=>cutLoN a' y.length c' 65535 (by omega) A)
    have HCH:=Zh (fun A=>cutHiN a' y.length c' 65535 (by omega) (by omega) A)
    clear hr
    go_wp2_with fail
    refine HBG.out.mono ?_
    rintro e w2 ⟨rfl,ho2,hw2⟩
    obtain ⟨g1,_,z1⟩:=Zcn HGS.out false 0
    obtain ⟨S1,hS1⟩:∃ T,begW S false 0 = T:=⟨_,rfl⟩
    rw [hS1] at g1 z1 hw2
    have g2:=(Zet g1).1
    have z2:=Zct g1
    rw [z1] at z2
    have z2':(alignW S1).2 = M17.align (S.2 + 3):=z2
    have hb8:8 * S1.1.length <= 100000000:=by have:(alignW S1).2 = 8 * S1.1.length:=rfl;omega
    have HS1:=Zh hS1
    have HO2:=Zh (HO.out.trans ho2)
    have HAL:=Zh (Zdz hw2 hb8)
    obtain ⟨S2,hS2⟩:∃ S,alignW S1 = S:=⟨_,rfl⟩
    rw [hS2] at g2 z2' HAL
    have HS2:=Zh hS2
    clear hS1 hS2 z1 z2 g1 ho2 hw2 HBG HO HW hb8
    go_wp2_with fail
    refine HAL.out.mono ?_
    rintro e w3 ⟨rfl,ho3,hw3⟩
    have HO3:=Zh (HO2.out.trans ho3)
    have HP1:=Zh (Zau hw3 65535 16 (by decide) (by omega) (by omega))
    have g3:=(Zal g2 65535 16).1
    have z3:(addNum S2 65535 16).2 = M17.align (S.2 + 3) + 16:=by rw [Zac,z2']
    obtain ⟨S3,hS3⟩:∃ S,addNum S2 65535 16 = S:=⟨_,rfl⟩
    rw [hS3] at g3 z3 HP1
    have HS3:=Zh hS3
    clear hS3 z2' g2 ho3 hw3 HAL HO2
    go_wp2_with fail
    refine HP1.out.mono ?_
    rintro e w4 ⟨rfl,ho4,hw4⟩
    have HO4:=Zh (HO3.out.trans ho4)
    have HP2:=Zh (Zau hw4 r 16 (by decide) (by omega) (by omega))
    have g4:=(Zal g3 r 16).1
    have z4:(addNum S3 r 16).2 = M17.align (S.2 + 3) + 32:=by rw [Zac,z3]
    obtain ⟨S4,hS4⟩:∃ S,addNum S3 r 16 = S:=⟨_,rfl⟩
    rw [hS4] at g4 z4 HP2
    have HS4:=Zh hS4
    clear hS4 z3 g3 ho4 hw4 HP1 HO3
    go_wp2_with fail
    refine HP2.out.mono ?_
    rintro e w5 ⟨rfl,ho5,hw5⟩
    have HO5:=Zh (HO4.out.trans ho5)
    have HW5:=Zh hw5
    have hcl:∀ A,(Instr.sliceAt 24 (.slice a' y.length c') none (some (.int .i64 (65535:Int))) none).run Tryz.prog A = .ok (.slice a' 65535 c') A:=HCL.out
    clear ho5 hw5 HP2 HO4
    go_wp2_with fail
    clear hcl
    go_loopw [7,38] (fun _ j B=>∃ q:Nat,q <= 65535 /\ j = .int .i64 (q:Nat) /\ Only Q W1 B /\ Wr Q B p (putB S4 (y.take q))) (fun _ j _=>y.length - (intOf j).toNat)
    case atStart=>exact ⟨0,by omega,rfl,HO5.out,HW5.out⟩
    case round =>
     clear HO5 HW5
     obtain ⟨q,hq,rfl,hoB,hwB⟩:=hrel
     have hpz:=(Zji (y.take q) g4).2.2
     rw [z4,List.length_take] at hpz
     by_cases hlt:q < 65535
     ·have hqy':q < y.length:=by omega
      have hrB:=HY.out.1.same hoB.size (fun a h0 ha=>hoB.block a.block ((HY.out.2.2 a h0 ha).2) ((HY.out.2.2 a h0 ha).1))
      obtain ⟨bb,off,rfl,hbb,hcv⟩:=hrB.at hqy'
      have hv:=HY.out.2.1 _ (List.getElem_mem hqy')
      have HT:=Zh (Zga S4 y q hqy')
      have HOB:=Zh hoB
      have HWB:=Zh hwB
      have hqi:(q:Int) < (65535:Int):=by omega
      clear hrB hoB hwB
      generalize y[q] = v at *
      generalize putB S4 (y.take q) = SA at *
      have u3:(v:Int) % 4294967296 = (v:Int):=by omega
      go_wp2_with fail
      refine (Zau HWB.out v 8 (by decide) (by omega) (by omega)).mono ?_
      rintro e w6 ⟨rfl,ho6,hw6⟩
      have HO6:=Zh (HOB.out.trans ho6)
      have HW6:=Zh hw6
      clear ho6 hw6
      go_wp2
      go_roundw
      case rel=>exact ⟨q + 1,by omega,by go_num,HO6.out,by rw [HT.out];exact HW6.out⟩
      case measure=>simp [intOf];omega
     have hq65:q = 65535:=by omega
     have hqn:¬ ((q:Int) < 65535):=by omega
     rw [hq65] at hwB
     clear hq65 hq
     have hfin:putB S4 (y.take 65535) = stoBlk (begW S false 0) (y.take 65535):=by
      have e:(y.take 65535).length = 65535:=by rw [List.length_take];omega
      unfold stoBlk
      rw [e,HR.out,HS1.out,HS2.out,HS3.out,HS4.out]
     rw [hfin] at hwB
     have HOB:=Zh hoB
     have HWB:=Zh hwB
     have hch:∀ A,(Instr.sliceAt 24 (.slice a' y.length c') (some (.int .i64 (65535:Int))) none none).run Tryz.prog A = .ok (.slice (cutA a' c' 65535) (y.length - 65535) (c' - 65535)) A:=HCH.out
     obtain ⟨rest,hrest⟩:∃ rest,y.length - 65535 = rest:=⟨_,rfl⟩
     rw [hrest] at hch
     obtain ⟨cx,hcx⟩:∃ cx,c' - 65535 = cx:=⟨_,rfl⟩
     obtain ⟨ax,hax⟩:∃ ax,cutA a' c' 65535 = ax:=⟨_,rfl⟩
     rw [hax,hcx] at hch
     have HCX:=Zh hcx
     have HAX:=Zh hax
     have hne:((rest:Int) == 0) = false:=by simp;omega
     have HRE:=Zh hrest
     obtain ⟨_,hm⟩:=HE.out.2.1 (by omega)
     have HM:=Zh hm
     have HGN:=Zh HE.out.2.2
     clear hfin hoB hwB hlt hpz hrest hm hcx hax
     go_wp2
     go_roundw
     case rel =>
      have hcx:=HCX.out
      have hax:=HAX.out
      subst hcx hax
      have e0:(y.drop 65535).length = rest:=by rw [List.length_drop];exact HRE.out
      have hdc:decide (65535 = y.length) = false:=by simp;omega
      have hm2:=HM.out
      have hg2:=HGN.out
      rw [hdc,Bool.and_false] at hm2 hg2
      refine ⟨y.drop 65535,(stoBlk (begW S false 0) (y.take 65535)).1,(stoBlk (begW S false 0) (y.take 65535)).2,cutA a' c' 65535,c' - 65535,⟨rfl,e0.symm,rfl⟩,Zmp HY.out.1 65535 (by omega),fun c hc=>HY.out.2.1 c (List.mem_of_mem_drop hc),fun a h0 ha=>?_,hm2,hg2,HOB.out,HWB.out⟩
      obtain ⟨a0,e1,e2⟩:=Zgp ha
      rw [e2]
      exact HY.out.2.2 a0 (by omega) e1
     case measure=>have:=HRE.out;omega
end Go.Proofs.YtendielanacflaaGreat

namespace Go.Proofs.YtendielanacflaaGreat
open Go.RowKit Go.Shelf M01 M09 M10 M17 M18
theorem Zxl (l:List Tok) (hl:l.length <= 1100):(fixOut l).1 <= 1000003:=by
 unfold fixOut
 split
 ·next m h =>
  have h1:=Zrw fixF fixO Zqm Zqn _ (Zgo l) 0 m h
  have h2:=Zej l
  show 3 + m <= _
  omega
 ·show 0 <= _;omega
theorem Zxh (l:List Tok) (hl:l.length <= 1100):(dynOut l).1 <= 1200003:=by
 unfold dynOut
 split
 ·have h1:=Zsp l
  have h2:=Zlf (codF l) (codO l) l (fun x hx=>by have:=Zfg l x hx;omega) (fun x hx=>by have:=Zfh l x hx;omega) hl
  show 3 + headN l + _ <= _
  omega
 ·show 0 <= _;omega
theorem Znv (n e0:Nat) (w:World):Calls Tryz.prog 63 #[.int .i64 (n:Nat),.int .i64 (e0:Nat)] w fun e w'=>e = .returned (.int .i64 (n:Nat)) /\ w' = w:=by
 go_enter Tryz.func63,Tryz.ntmps63
 go_wp2
 go_ret
 trivial
theorem Zacr (n at_:Nat) (hn:n <= 10000000) (ha:at_ <= 100000000) (v0:Value) (ta:Option Addr) (tc:Nat) (last:Bool) (w:World) :
  Calls Tryz.prog 60 #[.agg #[v0,.slice ta n tc,.bool last],.int .i64 (at_:Nat)] w fun e w'=>e = .returned (.int .i64 (stoN n at_:Nat)) /\ Below w.heap.size w w':=by
 have hc:=World.alloc_heap_new w (.cells #[v0,.slice ta n tc,.bool last] 64)
 obtain ⟨k0,k1,k2⟩:=cells3 hc
 have HE:Hid (storedZ (n:Nat) (at_:Nat) = (stoN n at_:Nat)):=by
  unfold Hid storedZ stoN
  have:=Zafi n at_
  rw [if_neg (by omega),Int.toNat_natCast,Int.toNat_natCast]
  omega
 have HC:=Zh (fun W=>Zqg (n:Nat) (at_:Nat) W (by omega) (by omega))
 clear hc k0 k2
 go_enter Tryz.func60,Tryz.ntmps60
 go_wp2_with fail
 refine (HC.out _).mono ?_
 rintro e W2 ⟨rfl,rfl⟩
 go_wp2
 go_ret
 exact ⟨Zdm HE.out,Zai _ _⟩
theorem Zacp (a:Option Addr) (cap:Nat) (l:List Tok) (ta:Option Addr) (tn tc:Nat) (last:Bool) (at_:Value) (hl:l.length <= 1100) (hby:∀ t ∈ l,t.byte < 256) (w:World) (hr:RowS encT w a cap l) :
  Calls Tryz.prog 62 #[.agg #[.slice a l.length cap,.slice ta tn tc,.bool last],at_] w fun e w'=>e = .returned (.int .i64 ((fixOut l).1:Nat)) /\ Below w.heap.size w w':=by
 have hc:=World.alloc_heap_new w (.cells #[.slice a l.length cap,.slice ta tn tc,.bool last] 64)
 obtain ⟨k0,k1,k2⟩:=cells3 hc
 have hb:=Zai w (.cells #[.slice a l.length cap,.slice ta tn tc,.bool last] 64)
 have HC:=Zh (Zud a cap l _ hl hby (hr.below hb))
 have HB:=Zh hb
 clear hc k1 k2 hb hr hby
 go_enter Tryz.func62,Tryz.ntmps62
 go_wp2_with fail
 refine HC.out.mono ?_
 rintro e W2 ⟨rfl,hb2⟩
 have HB2:=Zh (HB.out.trans (hb2.mono HB.out.size))
 clear hb2 HC
 go_wp2_with fail
 refine (Znv _ _ _).mono ?_
 rintro e W3 ⟨rfl,rfl⟩
 go_wp2
 go_ret
 exact ⟨rfl,HB2.out⟩
theorem Zaco (a:Option Addr) (cap:Nat) (l:List Tok) (ta:Option Addr) (tn tc:Nat) (last:Bool) (at_:Value) (hl:l.length <= 1100) (hby:∀ t ∈ l,t.byte < 256) (w:World) (hr:RowS encT w a cap l) :
  Calls Tryz.prog 66 #[.agg #[.slice a l.length cap,.slice ta tn tc,.bool last],at_] w fun e w'=>e = .returned (.int .i64 ((dynOut l).1:Nat)) /\ Below w.heap.size w w':=by
 have hc:=World.alloc_heap_new w (.cells #[.slice a l.length cap,.slice ta tn tc,.bool last] 64)
 obtain ⟨k0,k1,k2⟩:=cells3 hc
 have hb:=Zai w (.cells #[.slice a l.length cap,.slice ta tn tc,.bool last] 64)
 have HC:=Zh (Znq a cap l _ hl hby (hr.below hb))
 have HB:=Zh hb
 clear hc k1 k2 hb hr hby
 go_enter Tryz.func66,Tryz.ntmps66
 go_wp2_with fail
 refine HC.out.mono ?_
 rintro e W2 ⟨rfl,hb2⟩
 have HB2:=Zh (HB.out.trans (hb2.mono HB.out.size))
 clear hb2 HC
 go_wp2_with fail
 refine (Znv _ _ _).mono ?_
 rintro e W3 ⟨rfl,rfl⟩
 go_wp2
 go_ret
 exact ⟨rfl,HB2.out⟩
theorem loadPart (b:Nat) (v0 v1 v2:Value) (w:World) (h:w.heap[b]? = some (.cells #[v0,v1,v2] 64)):(Instr.loadAt 64 (.pointer (some ⟨b,0,none⟩))).run Tryz.prog w = .ok (.agg #[v0,v1,v2]) w:=by
 obtain ⟨c0,c1,c2⟩:=cells3 h
 refine run_loadAt_mid w b 0 _ [v0,v1,v2] _ ?_ Tryz.underlying64 rfl (by kernel_rfl)
 intro j v hv
 match j with
 | 0=>cases hv;exact c0
 | 1=>cases hv;exact c1
 | 2=>cases hv;exact c2
 | (n + 3)=>simp at hv
theorem loadKind (b o:Nat) (v0 v1:Value) (w:World) (c0:w.cell? ⟨b,o,none⟩ = some v0) (c1:w.cell? ⟨b,o + 1,none⟩ = some v1):(Instr.loadAt 69 (.pointer (some ⟨b,o,none⟩))).run Tryz.prog w = .ok (.agg #[v0,v1]) w:=by
 refine run_loadAt_mid w b o _ [v0,v1] _ ?_ Tryz.underlying69 rfl (by kernel_rfl)
 intro j v hv
 match j with
 | 0=>cases hv;exact c0
 | 1=>cases hv;exact c1
 | (n + 2)=>simp at hv
theorem Ztu {w:World} {b:Nat} {x y:Value} {t:TypeId} (h:w.heap[b]? = some (.cells #[x,y] t)):w.cell? ⟨b,0,none⟩ = some x /\ w.cell? ⟨b,1,none⟩ = some y:=by
 simp [World.cell?,h]
theorem fldK0 (R:Nat) (w:World):(Instr.fieldAt 69 (.pointer (some ⟨R,0,none⟩)) 0).run Tryz.prog w = .ok (.pointer (some ⟨R,0,none⟩)) w:=by kernel_rfl
theorem ldFn (p:Addr) (v:Value) (w:World) (h:w.cell? p = some v):(Instr.loadAt 66 (.pointer (some p))).run Tryz.prog w = .ok v w:=by
 simp [Instr.loadAt,Instr.sureAddr,loadVar,isAgg,run_underlying Tryz.underlying66,h,go_sem]
set_option maxRecDepth 100000 in
set_option maxHeartbeats 3200000 in
theorem Zabi (fa fb:Nat) (ea:∀ args w,(callFunc fa args).run Tryz.prog w = .ok (.enter fa args) w) (eb:∀ args w,(callFunc fb args).run Tryz.prog w = .ok (.enter fb args) w) (ga gb pv:Value) (ca cb:Nat) (v0 v1 v2:Value) (at_:Value) (pb ab:Nat) (hpv:pv = .agg #[v0,v1,v2]) (w:World)
  (hp:w.heap[pb]? = some (.cells #[v0,v1,v2] 64)) (hat:w.heap[ab]? = some (.cells #[at_] 3)) (hca:ca <= 1000000000) (hcb:cb <= 1000000000)
  (HA:∀ W,Below w.heap.size w W -> Calls Tryz.prog fa #[pv,at_] W fun e w'=>e = .returned (.int .i64 (ca:Nat)) /\ Below W.heap.size W w')
  (HB:∀ W,Below w.heap.size w W -> Calls Tryz.prog fb #[pv,at_] W fun e w'=>e = .returned (.int .i64 (cb:Nat)) /\ Below W.heap.size W w') :
  Calls Tryz.prog 30 #[.agg #[.func (.func fa) #[] #[],ga],.agg #[.func (.func fb) #[] #[],gb],.pointer (some ⟨pb,0,none⟩),.pointer (some ⟨ab,0,none⟩)] w fun e w'=>e = .returned (.int .i64 ((ca:Int) - (cb:Int))) /\ Below w.heap.size w w':=by
 have e1:=Zai w (.cells #[.func (.func fa) #[] #[],ga] 69)
 have e2:=Zai (w.alloc (.cells #[.func (.func fa) #[] #[],ga] 69)) (.cells #[.func (.func fb) #[] #[],gb] 69)
 have h1:=e2.block _ (by simp) |>.trans (World.alloc_heap_new w (.cells #[.func (.func fa) #[] #[],ga] 69))
 have h2:=World.alloc_heap_new (w.alloc (.cells #[.func (.func fa) #[] #[],ga] 69)) (.cells #[.func (.func fb) #[] #[],gb] 69)
 have e3:=e1.trans (e2.mono e1.size)
 have HE:=Zh e3
 rw [World.size_alloc] at h2
 obtain ⟨W0,hW0⟩:∃ W0,(w.alloc (.cells #[.func (.func fa) #[] #[],ga] 69)).alloc (.cells #[.func (.func fb) #[] #[],gb] 69) = W0:=⟨_,rfl⟩
 rw [hW0] at h1 h2 HE
 have HK:Hid (∀ A,Below W0.heap.size W0 A -> A.cell? ⟨w.heap.size,0,none⟩ = some (.func (.func fa) #[] #[]) /\ A.cell? ⟨w.heap.size + 1,0,none⟩ = some (.func (.func fb) #[] #[]) /\ A.heap[pb]? = some (.cells #[v0,v1,v2] 64) /\ A.cell? ⟨ab,0,none⟩ = some at_):=Zh (fun A hA=>by
  have hb:=HE.out.trans (hA.mono HE.out.size)
  refine ⟨(Ztu ((hA.block _ (lt_of_block h1)).trans h1)).1,(Ztu ((hA.block _ (lt_of_block h2)).trans h2)).1,(hb.block _ (lt_of_block hp)).trans hp,cell_of_one ((hb.block _ (lt_of_block hat)).trans hat)⟩)
 have HCA:Hid (∀ A,Below W0.heap.size W0 A -> Calls Tryz.prog fa #[pv,at_] A fun e w'=>e = .returned (.int .i64 (ca:Nat)) /\ Below A.heap.size A w'):=Zh (fun A hA=>HA A (HE.out.trans (hA.mono HE.out.size)))
 have HCB:Hid (∀ A,Below W0.heap.size W0 A -> Calls Tryz.prog fb #[pv,at_] A fun e w'=>e = .returned (.int .i64 (cb:Nat)) /\ Below A.heap.size A w'):=Zh (fun A hA=>HB A (HE.out.trans (hA.mono HE.out.size)))
 have hsb:IntKind.i64.wrap ((ca:Int) - (cb:Int)) = (ca:Int) - (cb:Int):=IntWalk.i64_in _ (by omega)
 clear h1 h2 e1 e2 e3 hp hat HA HB
 go_enter Tryz.func30,Tryz.ntmps30
 go_wp2_with fail
 clear hW0
 refine Zbn [7,8,9,10,11,12,13,14,15,16,17,6] (fun j=>j == 11) (fun _ A=>Below W0.heap.size W0 A) (fun j v _=>match j with | 0=>v = .pointer (some ⟨w.heap.size,0,none⟩) | 1=>v = .func (.func fa) #[] #[] | 2=>v = pv | 3=>v = at_ | 4=>v = .int .i64 (ca:Nat) | 5=>v = .pointer (some ⟨w.heap.size + 1,0,none⟩) | 6=>v = .func (.func fb) #[] #[] | 7=>v = pv | 8=>v = at_ | 9=>v = .int .i64 (cb:Nat) | 10=>v = .int .i64 ((ca:Int) - (cb:Int)) | 11=>v = .int .i64 ((ca:Int) - (cb:Int)) | _=>True) (fun _ _ _ _=>True) (by kernel_rfl) (by kernel_rfl) (OneEach.mk' (by kernel_rfl) (by kernel_rfl)) (by kernel_rfl) (by kernel_rfl) ⟨rfl,rfl,rfl,Nat.le_refl _,fun _ _=>rfl⟩ ?_ ?_
 ·intro i0 o hi0 listed a1 w1 hR hil hunf hdes hanc hout hold hdep
  have hsz:i0 < 12:=(Array.getElem?_eq_some_iff.1 hi0).1
  obtain ⟨c0,c1,c2,c3⟩:=HK.out _ hR
  have hall:i0 = 0 \/ i0 = 1 \/ i0 = 2 \/ i0 = 3 \/ i0 = 4 \/ i0 = 5 \/ i0 = 6 \/ i0 = 7 \/ i0 = 8 \/ i0 = 9 \/ i0 = 10 \/ i0 = 11:=by omega
  clear hsz
  rcases hall with rfl | rfl | rfl | rfl | rfl | rfl | rfl | rfl | rfl | rfl | rfl | rfl <;> simp only [List.getElem?_toArray,List.getElem?_cons_zero,List.getElem?_cons_succ,Option.some.injEq] at hi0 <;> subst hi0
  ·have f4:a1.eval (.tmp 4) = .pointer (some ⟨w.heap.size,0,none⟩):=hout 4 (by decide)
   refine Zab (v:=.pointer (some ⟨w.heap.size,0,none⟩)) (w':=w1) (by simp [execOp,f4,fldK0]) ⟨_,rfl,hR,fun j u hu hV _=>⟨hV,trivial,trivial⟩,rfl⟩
  ·have e7:a1.eval (.tmp 7) = .pointer (some ⟨w.heap.size,0,none⟩):=hdep ⟨0,.data⟩ (by simp) rfl _ rfl
   refine Zab (v:=.func (.func fa) #[] #[]) (w':=w1) (by simp [execOp,e7,ldFn _ _ _ c0]) ⟨_,rfl,hR,fun j u hu hV _=>⟨hV,trivial,trivial⟩,rfl⟩
  ·have f2:a1.eval (.tmp 2) = .pointer (some ⟨pb,0,none⟩):=hout 2 (by decide)
   refine Zab (v:=pv) (w':=w1) (by rw [hpv];simp [execOp,f2,loadPart _ _ _ _ _ c2]) ⟨_,rfl,hR,fun j u hu hV _=>⟨hV,trivial,trivial⟩,rfl⟩
  ·have f3:a1.eval (.tmp 3) = .pointer (some ⟨ab,0,none⟩):=hout 3 (by decide)
   refine Zab (v:=at_) (w':=w1) (by simp [execOp,f3,ldInt _ _ _ c3]) ⟨_,rfl,hR,fun j u hu hV _=>⟨hV,trivial,trivial⟩,rfl⟩
  ·have e8:a1.eval (.tmp 8) = .func (.func fa) #[] #[]:=hdep ⟨1,.data⟩ (by simp) rfl _ rfl
   have e9:a1.eval (.tmp 9) = pv:=hdep ⟨2,.data⟩ (by simp) rfl _ rfl
   have e10:a1.eval (.tmp 10) = at_:=hdep ⟨3,.data⟩ (by simp) rfl _ rfl
   have x8:a1.tmps[8]?.getD undef = .func (.func fa) #[] #[]:=by simpa [Act.eval] using e8
   have x9:a1.tmps[9]?.getD undef = pv:=by simpa [Act.eval] using e9
   have x10:a1.tmps[10]?.getD undef = at_:=by simpa [Act.eval] using e10
   refine Zam (f:=fa) (args:=#[pv,at_]) (by simp [x8,x9,x10,ea,eb,go_sem]) ((HCA.out _ hR).mono ?_)
   rintro e w9 ⟨rfl,hb9⟩
   exact ⟨_,rfl,_,rfl,hR.trans (hb9.mono hR.size),fun j u hu hV _=>⟨hV,trivial,trivial⟩,rfl⟩
  ·have f5:a1.eval (.tmp 5) = .pointer (some ⟨w.heap.size + 1,0,none⟩):=hout 5 (by decide)
   refine Zab (v:=.pointer (some ⟨w.heap.size + 1,0,none⟩)) (w':=w1) (by simp [execOp,f5,fldK0]) ⟨_,rfl,hR,fun j u hu hV _=>⟨hV,trivial,trivial⟩,rfl⟩
  ·have e12:a1.eval (.tmp 12) = .pointer (some ⟨w.heap.size + 1,0,none⟩):=hdep ⟨5,.data⟩ (by simp) rfl _ rfl
   refine Zab (v:=.func (.func fb) #[] #[]) (w':=w1) (by simp [execOp,e12,ldFn _ _ _ c1]) ⟨_,rfl,hR,fun j u hu hV _=>⟨hV,trivial,trivial⟩,rfl⟩
  ·have f2:a1.eval (.tmp 2) = .pointer (some ⟨pb,0,none⟩):=hout 2 (by decide)
   refine Zab (v:=pv) (w':=w1) (by rw [hpv];simp [execOp,f2,loadPart _ _ _ _ _ c2]) ⟨_,rfl,hR,fun j u hu hV _=>⟨hV,trivial,trivial⟩,rfl⟩
  ·have f3:a1.eval (.tmp 3) = .pointer (some ⟨ab,0,none⟩):=hout 3 (by decide)
   refine Zab (v:=at_) (w':=w1) (by simp [execOp,f3,ldInt _ _ _ c3]) ⟨_,rfl,hR,fun j u hu hV _=>⟨hV,trivial,trivial⟩,rfl⟩
  ·have e13:a1.eval (.tmp 13) = .func (.func fb) #[] #[]:=hdep ⟨6,.data⟩ (by simp) rfl _ rfl
   have e14:a1.eval (.tmp 14) = pv:=hdep ⟨7,.data⟩ (by simp) rfl _ rfl
   have e15:a1.eval (.tmp 15) = at_:=hdep ⟨8,.data⟩ (by simp) rfl _ rfl
   have x13:a1.tmps[13]?.getD undef = .func (.func fb) #[] #[]:=by simpa [Act.eval] using e13
   have x14:a1.tmps[14]?.getD undef = pv:=by simpa [Act.eval] using e14
   have x15:a1.tmps[15]?.getD undef = at_:=by simpa [Act.eval] using e15
   refine Zam (f:=fb) (args:=#[pv,at_]) (by simp [x13,x14,x15,ea,eb,go_sem]) ((HCB.out _ hR).mono ?_)
   rintro e w9 ⟨rfl,hb9⟩
   exact ⟨_,rfl,_,rfl,hR.trans (hb9.mono hR.size),fun j u hu hV _=>⟨hV,trivial,trivial⟩,rfl⟩
  ·have e11:a1.eval (.tmp 11) = .int .i64 (ca:Nat):=hdep ⟨4,.data⟩ (by simp) rfl _ rfl
   have e16:a1.eval (.tmp 16) = .int .i64 (cb:Nat):=hdep ⟨9,.data⟩ (by simp) rfl _ rfl
   refine Zab (v:=.int .i64 ((ca:Int) - (cb:Int))) (w':=w1) (by simp [execOp,e11,e16,eqgS,subI,hsb]) ⟨_,rfl,hR,fun j u hu hV _=>⟨hV,trivial,trivial⟩,rfl⟩
  ·have e17:a1.eval (.tmp 17) = .int .i64 ((ca:Int) - (cb:Int)):=hdep ⟨10,.data⟩ (by simp) rfl _ rfl
   refine Zab (v:=.int .i64 ((ca:Int) - (cb:Int))) (w':=w1) (by simp [execOp,e17]) ⟨_,rfl,hR,fun j u hu hV _=>⟨hV,trivial,trivial⟩,rfl⟩
 ·intro listed fv w1 hR hall hV
  have HR:=Zh (HE.out.trans (hR.mono HE.out.size))
  have v11:fv 6 = .int .i64 ((ca:Int) - (cb:Int)):=hV 11 _ rfl rfl
  clear hR
  simp only [spread,List.contains_cons,List.contains_nil,Nat.reduceBEq,Bool.or_false,Bool.or_true,cond_true,cond_false,Nat.reduceAdd,Nat.zero_add,v11]
  go_wp2
  go_ret
  exact ⟨rfl,HR.out⟩
def mnK (c:Nat -> Nat):Nat -> Nat
 | 0=>0
 | k + 1=>if c k < c (mnK c k) then k else mnK c k
theorem Zaik (c:Nat -> Nat):∀ k,1 <= k -> mnK c k < k:=by
 intro k
 induction k with
 | zero=>intro h;omega
 | succ k ih =>
  intro _
  unfold mnK
  split
  ·omega
  ·cases k with
   | zero=>show 0 < 1;omega
   | succ k=>have:=ih (by omega);omega
theorem Zacx (c:Nat -> Nat):mnK c 3 = bestK (c 0) (c 1) (c 2):=by
 have h1:mnK c 1 = 0:=by unfold mnK;split <;> rfl
 have h2:mnK c 2 = if c 1 < c 0 then 1 else 0:=by show (if c 1 < c (mnK c 1) then 1 else mnK c 1) = _;rw [h1]
 show (if c 2 < c (mnK c 2) then 2 else mnK c 2) = _
 rw [h2]
 unfold bestK
 by_cases h:c 1 < c 0
 ·rw [if_pos h,if_pos h]
 ·rw [if_neg h,if_neg h]
abbrev fnV (f:Nat):Value:=.func (.func f) #[] #[]
def knd (F G:Nat -> Nat) (i:Nat):Value:=.agg #[fnV (F i),fnV (G i)]
abbrev kndO (F G:Nat -> Nat):Obj:=.cells #[fnV (F 0),fnV (G 0),fnV (F 1),fnV (G 1),fnV (F 2),fnV (G 2)] 69
theorem Zmc {F G:Nat -> Nat} {w:World} {g:Nat} (h:w.heap[g]? = some (kndO F G)) (k:Nat) (hk:k < 3):w.cell? ⟨g,2 * k,none⟩ = some (fnV (F k)) /\ w.cell? ⟨g,2 * k + 1,none⟩ = some (fnV (G k)):=by
 have hc:k = 0 \/ k = 1 \/ k = 2:=by omega
 rcases hc with rfl | rfl | rfl <;> simp [World.cell?,h]
theorem ixKind (g k:Nat) (h:k < 3) (w:World):(Instr.indexAt 71 (.slice (some ⟨g,0,none⟩) 3 3) (.int .i64 (k:Nat))).run Tryz.prog w = .ok (.pointer (some ⟨g,2 * k,none⟩)) w:=by
 have hc:k = 0 \/ k = 1 \/ k = 2:=by omega
 have s2:(Tryz.prog.info? 69).map (·.size) = some 2:=by kernel_rfl
 obtain ⟨i,hi,hz⟩:∃ i,Tryz.prog.info? 69 = some i /\ i.size = 2:=by
  cases h5:Tryz.prog.info? 69 with
  | none=>rw [h5] at s2;cases s2
  | some i=>rw [h5] at s2;exact ⟨i,rfl,by simpa using s2⟩
 simp [Instr.indexAt,asIntOf,run_underlying Tryz.underlying71,h,sizeOf,typeInfo,hi,hz,Addr.add,go_sem]
 split
 ·next h0=>rw [show 2 * k = 0 by omega]
 ·rw [Nat.mul_comm]
theorem lssI (t:TypeId) (x y:Int) (w:World):(binOp .lss t (.int .i64 x) (.int .i64 y):Sem Value).run Tryz.prog w = .ok (.bool (decide (x < y))) w:=by
 simp [binOp,go_sem]
theorem eqgL (t:TypeId) (x y:Operand) (u v:Value) (w:World):(eqGuard .lss t x y u v).run Tryz.prog w = .ok () w:=by simp [eqGuard,go_sem]
set_option maxRecDepth 100000 in
set_option maxHeartbeats 3200000 in
theorem Zacq (F G:Nat -> Nat) (c:Nat -> Nat) (fc:Nat) (ec:∀ args w,(callFunc fc args).run Tryz.prog w = .ok (.enter fc args) w) (x y:Value) (g:Nat) (w:World) (hk:w.heap[g]? = some (kndO F G)) (hc:∀ i,i < 3 -> c i <= 1000000000)
  (H:∀ i j,i < 3 -> j < 3 -> ∀ W,Below w.heap.size w W -> Calls Tryz.prog fc #[knd F G i,knd F G j,x,y] W fun e w'=>e = .returned (.int .i64 ((c i:Int) - (c j:Int))) /\ Below W.heap.size W w') :
  Calls Tryz.prog 28 #[.slice (some ⟨g,0,none⟩) 3 3,.func (.func fc) #[] #[x,y]] w fun e w'=>e = .returned (knd F G (bestK (c 0) (c 1) (c 2))) /\ Below w.heap.size w w':=by
 have hg:=lt_of_block hk
 have HC:=Zh (fun A (h:Below w.heap.size w A)=>(h.block g hg).trans hk)
 have HH:=Zh H
 have HS:=Zh hc
 obtain ⟨k0,k1⟩:=Zmc hk 0 (by decide)
 have hn:=World.alloc_heap_new (w.alloc (.cells #[.nilFunc,.nilFunc] 69)) (.cells #[.nilFunc,.nilFunc] 69)
 rw [World.size_alloc] at hn
 obtain ⟨x0,x1,x2,x3⟩:=Zae hn
 obtain ⟨_,y1,_,y3⟩:=Zae (Zaq (x:=fnV (F 0)) hn).1
 have HX:Hid (Below w.heap.size w ((w.alloc (.cells #[.nilFunc,.nilFunc] 69)).alloc (.cells #[fnV (F 0),fnV (G 0)] 69)) /\ ((w.alloc (.cells #[.nilFunc,.nilFunc] 69)).alloc (.cells #[fnV (F 0),fnV (G 0)] 69)).heap[w.heap.size]? = some (.cells #[.nilFunc,.nilFunc] 69) /\ ((w.alloc (.cells #[.nilFunc,.nilFunc] 69)).alloc (.cells #[fnV (F 0),fnV (G 0)] 69)).heap[w.heap.size + 1]? = some (.cells #[fnV (F (mnK c 1)),fnV (G (mnK c 1))] 69)):=by
  have h1:mnK c 1 = 0:=by unfold mnK;split <;> rfl
  rw [h1]
  have hn2:=World.alloc_heap_new (w.alloc (.cells #[.nilFunc,.nilFunc] 69)) (.cells #[fnV (F 0),fnV (G 0)] 69)
  rw [World.size_alloc] at hn2
  refine ⟨((Below.refl _ _).alloc (Nat.le_refl _) _).alloc (by simp) _,?_,hn2⟩
  rw [Below.heap_alloc _ _ _ (by simp)]
  exact World.alloc_heap_new w _
 clear H hc hk hn
 go_enter Tryz.func28,Tryz.ntmps28
 go_wp2
 go_loopw [6] (fun iv A=>∃ k:Nat,1 <= k /\ k <= 3 /\ iv = .int .i64 (k:Nat) /\ Below w.heap.size w A /\ A.heap[w.heap.size]? = some (.cells #[.nilFunc,.nilFunc] 69) /\ A.heap[w.heap.size + 1]? = some (.cells #[fnV (F (mnK c k)),fnV (G (mnK c k))] 69)) (fun iv _=>3 - (intOf iv).toNat)
 case atStart=>exact ⟨1,by omega,by omega,rfl,HX.out⟩
 case round =>
  clear HX k0 k1 x0 x1 x2 x3 y1 y3
  obtain ⟨k,hk1,hk3,rfl,hbel,hr4,hr5⟩:=hrel
  have HB:=Zh hbel
  have H4:=Zh hr4
  have H5:=Zh hr5
  by_cases hlt:k < 3
  ·have hms:=Zaik c k hk1
   have HMK:Hid (mnK c (k + 1) = if c k < c (mnK c k) then k else mnK c k):=Zh rfl
   have hci:=HS.out k hlt
   have hcm:=HS.out (mnK c k) (by omega)
   have HCL:=Zh (HH.out k (mnK c k) hlt (by omega))
   obtain ⟨c0,c1,c2,c3⟩:=Zae hr5
   obtain ⟨_,d1,_,d3⟩:=Zae (Zaq (x:=fnV (F k)) hr5).1
   have hqk:=Zmc (HC.out wr hbel) k hlt
   have HKC:Hid (∀ A,Below wr.heap.size wr A -> A.cell? ⟨g,2 * k,none⟩ = some (fnV (F k)) /\ A.cell? ⟨g,2 * k + 1,none⟩ = some (fnV (G k)) /\ A.cell? ⟨w.heap.size + 1,0,none⟩ = some (fnV (F (mnK c k))) /\ A.cell? ⟨w.heap.size + 1,1,none⟩ = some (fnV (G (mnK c k)))):=Zh (fun A hA=>by
    have h1:=Zmc (HC.out A (hbel.trans (hA.mono hbel.size))) k hlt
    have h2:=Zae ((hA.block _ (lt_of_block hr5)).trans hr5)
    exact ⟨h1.1,h1.2,h2.1,h2.2.1⟩)
   generalize mnK c k = m at *
   clear hbel hr4 hr5
   have hwi:IntKind.i64.wrap ((k:Int) + 1) = ((k + 1:Nat):Int):=by rw [IntWalk.i64_in _ (by omega)];omega
   have hki:(k:Int) < 3:=by omega
   go_wp2_with fail
   refine Zbn [20,21,22,23,24,25,26,27] (fun j=>j == 7) (fun _ A=>Below wr.heap.size wr A) (fun j v _=>match j with | 0=>v = .func (.func fc) #[] #[x,y] | 1=>v = .slice (some ⟨g,0,none⟩) 3 3 | 2=>v = .int .i64 (k:Nat) | 3=>v = .pointer (some ⟨g,2 * k,none⟩) | 4=>v = .agg #[fnV (F k),fnV (G k)] | 5=>v = .agg #[fnV (F m),fnV (G m)] | 6=>v = .int .i64 ((c k:Int) - (c m:Int)) | 7=>v = .bool (decide ((c k:Int) - (c m:Int) < 0)) | _=>True) (fun _ _ _ _=>True) (by kernel_rfl) (by kernel_rfl) (OneEach.mk' (by kernel_rfl) (by kernel_rfl)) (by kernel_rfl) (by kernel_rfl) ⟨rfl,rfl,rfl,Nat.le_refl _,fun _ _=>rfl⟩ ?_ ?_
   ·intro i0 o hi0 listed a1 w1 hR hil hunf hdes hanc hout hold hdep
    have hsz:i0 < 8:=(Array.getElem?_eq_some_iff.1 hi0).1
    obtain ⟨q0,q1,q2,q3⟩:=HKC.out _ hR
    have hall:i0 = 0 \/ i0 = 1 \/ i0 = 2 \/ i0 = 3 \/ i0 = 4 \/ i0 = 5 \/ i0 = 6 \/ i0 = 7:=by omega
    clear hsz
    rcases hall with rfl | rfl | rfl | rfl | rfl | rfl | rfl | rfl <;> simp only [List.getElem?_toArray,List.getElem?_cons_zero,List.getElem?_cons_succ,Option.some.injEq] at hi0 <;> subst hi0
    ·have f1:a1.eval (.tmp 1) = .func (.func fc) #[] #[x,y]:=hout 1 (by decide)
     refine Zab (v:=.func (.func fc) #[] #[x,y]) (w':=w1) (by simp [execOp,f1]) ⟨_,rfl,hR,fun j u hu hV _=>⟨hV,trivial,trivial⟩,rfl⟩
    ·have f0:a1.eval (.tmp 0) = .slice (some ⟨g,0,none⟩) 3 3:=hout 0 (by decide)
     refine Zab (v:=.slice (some ⟨g,0,none⟩) 3 3) (w':=w1) (by simp [execOp,f0]) ⟨_,rfl,hR,fun j u hu hV _=>⟨hV,trivial,trivial⟩,rfl⟩
    ·have f6:a1.eval (.tmp 6) = .int .i64 (k:Nat):=hout 6 (by decide)
     refine Zab (v:=.int .i64 (k:Nat)) (w':=w1) (by simp [execOp,f6]) ⟨_,rfl,hR,fun j u hu hV _=>⟨hV,trivial,trivial⟩,rfl⟩
    ·have e21:a1.eval (.tmp 21) = .slice (some ⟨g,0,none⟩) 3 3:=hdep ⟨1,.data⟩ (by simp) rfl _ rfl
     have e22:a1.eval (.tmp 22) = .int .i64 (k:Nat):=hdep ⟨2,.data⟩ (by simp) rfl _ rfl
     refine Zab (v:=.pointer (some ⟨g,2 * k,none⟩)) (w':=w1) (by simp [execOp,e21,e22,ixKind g k hlt]) ⟨_,rfl,hR,fun j u hu hV _=>⟨hV,trivial,trivial⟩,rfl⟩
    ·have e23:a1.eval (.tmp 23) = .pointer (some ⟨g,2 * k,none⟩):=hdep ⟨3,.data⟩ (by simp) rfl _ rfl
     refine Zab (v:=.agg #[fnV (F k),fnV (G k)]) (w':=w1) (by simp [execOp,e23,loadKind _ _ _ _ _ q0 q1]) ⟨_,rfl,hR,fun j u hu hV _=>⟨hV,trivial,trivial⟩,rfl⟩
    ·have f5:a1.eval (.tmp 5) = .pointer (some ⟨w.heap.size + 1,0,none⟩):=hout 5 (by decide)
     refine Zab (v:=.agg #[fnV (F m),fnV (G m)]) (w':=w1) (by simp [execOp,f5,loadKind _ _ _ _ _ q2 q3]) ⟨_,rfl,hR,fun j u hu hV _=>⟨hV,trivial,trivial⟩,rfl⟩
    ·have e20:a1.eval (.tmp 20) = .func (.func fc) #[] #[x,y]:=hdep ⟨0,.data⟩ (by simp) rfl _ rfl
     have e24:a1.eval (.tmp 24) = .agg #[fnV (F k),fnV (G k)]:=hdep ⟨4,.data⟩ (by simp) rfl _ rfl
     have e25:a1.eval (.tmp 25) = .agg #[fnV (F m),fnV (G m)]:=hdep ⟨5,.data⟩ (by simp) rfl _ rfl
     have x20:a1.tmps[20]?.getD undef = .func (.func fc) #[] #[x,y]:=by simpa [Act.eval] using e20
     have x24:a1.tmps[24]?.getD undef = .agg #[fnV (F k),fnV (G k)]:=by simpa [Act.eval] using e24
     have x25:a1.tmps[25]?.getD undef = .agg #[fnV (F m),fnV (G m)]:=by simpa [Act.eval] using e25
     refine Zam (f:=fc) (args:=#[.agg #[fnV (F k),fnV (G k)],.agg #[fnV (F m),fnV (G m)],x,y]) (by simp [x20,x24,x25,ec,go_sem]) ((HCL.out _ (HB.out.trans (hR.mono HB.out.size))).mono ?_)
     rintro e w9 ⟨rfl,hb9⟩
     exact ⟨_,rfl,_,rfl,hR.trans (hb9.mono hR.size),fun j u hu hV _=>⟨hV,trivial,trivial⟩,rfl⟩
    ·have e26:a1.eval (.tmp 26) = .int .i64 ((c k:Int) - (c m:Int)):=hdep ⟨6,.data⟩ (by simp) rfl _ rfl
     have e0:a1.eval (.const (.int .i64 0)) = .int .i64 0:=rfl
     refine Zab (v:=.bool (decide ((c k:Int) - (c m:Int) < 0))) (w':=w1) (by simp [execOp,e26,e0,eqgL,lssI]) ⟨_,rfl,hR,fun j u hu hV _=>⟨hV,trivial,trivial⟩,rfl⟩
   ·intro listed fv w1 hR hall hV
    have v7:fv 27 = .bool (decide ((c k:Int) - (c m:Int) < 0)):=hV 7 _ rfl rfl
    have HB1:=Zh (HB.out.trans (hR.mono HB.out.size))
    have H41:=Zh ((hR.block _ (lt_of_block H4.out)).trans H4.out)
    have h51:=(hR.block _ (lt_of_block H5.out)).trans H5.out
    clear c0 c1 c2 c3 d1 d3 HB H4 H5
    obtain ⟨c0,c1,c2,c3⟩:=Zae h51
    obtain ⟨_,d1,_,d3⟩:=Zae (Zaq (x:=fnV (F k)) h51).1
    have H51:=Zh h51
    obtain ⟨q0,q1,_,_⟩:=HKC.out _ hR
    clear h51 hR HKC hqk
    simp only [spread,List.contains_cons,List.contains_nil,Nat.reduceBEq,Bool.or_false,Bool.or_true,cond_true,cond_false,Nat.reduceAdd,Nat.zero_add,v7]
    by_cases hcc:c k < c m
    ·have hd:decide ((c k:Int) - (c m:Int) < 0) = true:=by simp;omega
     rw [if_pos hcc] at HMK
     have HK1:=Zh hk1
     have hkk:k = 1 \/ k = 2:=by omega
     rcases hkk with rfl | rfl
     ·go_wp2
      go_roundw
      case rel=>exact ⟨2,by omega,by omega,rfl,(HB1.out.setCell (by show w.heap.size <= w.heap.size + 1;omega) _).setCell (by show w.heap.size <= w.heap.size + 1;omega) _,(Below.heap_setCell _ _ _ _ (by show w.heap.size ≠ w.heap.size + 1;omega)).trans ((Below.heap_setCell _ _ _ _ (by show w.heap.size ≠ w.heap.size + 1;omega)).trans H41.out),by rw [HMK.out];exact (Zaq (Zaq H51.out).1).2⟩
      case measure=>simp [intOf]
     ·go_wp2
      go_roundw
      case rel=>exact ⟨3,by omega,by omega,rfl,(HB1.out.setCell (by show w.heap.size <= w.heap.size + 1;omega) _).setCell (by show w.heap.size <= w.heap.size + 1;omega) _,(Below.heap_setCell _ _ _ _ (by show w.heap.size ≠ w.heap.size + 1;omega)).trans ((Below.heap_setCell _ _ _ _ (by show w.heap.size ≠ w.heap.size + 1;omega)).trans H41.out),by rw [HMK.out];exact (Zaq (Zaq H51.out).1).2⟩
      case measure=>simp [intOf]
    ·have hd:decide ((c k:Int) - (c m:Int) < 0) = false:=by simp;omega
     rw [if_neg hcc] at HMK
     go_wp2
     go_roundw
     case rel=>exact ⟨k + 1,by omega,by omega,by go_num,HB1.out,H41.out,by rw [HMK.out];exact H51.out⟩
     case measure=>simp [intOf];omega
  ·obtain rfl:k = 3:=by omega
   obtain ⟨c0,c1,c2,c3⟩:=Zae hr5
   obtain ⟨z0,z1,z2,z3⟩:=Zae hr4
   obtain ⟨_,y1,_,y3⟩:=Zae (Zaq (x:=fnV (F (mnK c 3))) hr4).1
   have HE:Hid (mnK c 3 = bestK (c 0) (c 1) (c 2)):=Zh (Zacx c)
   clear hbel hr4 hr5 hlt
   go_wp2
   (try simp only [Exit.inBlock,Exit.then])
   refine bodyPost_ret (results_cell_row (P:=Tryz.prog) rfl _ _ w.heap.size 69 #[fnV (F (mnK c 3)),fnV (G (mnK c 3))] (0,0) _ rfl (Zaq (Zaq H4.out).1).2 Tryz.underlying69 rfl (by kernel_rfl)) rfl ?_
   exact ⟨by rw [<- HE.out];rfl,(HB.out.setCell (by show w.heap.size <= w.heap.size;omega) _).setCell (by show w.heap.size <= w.heap.size;omega) _⟩
end Go.Proofs.YtendielanacflaaGreat

namespace Go.Proofs.YtendielanacflaaGreat
open Go.RowKit
def NewKept (lo hi:Nat) (A B:World):Prop:=∀ k,lo <= k -> k < hi -> B.heap[k]? = A.heap[k]?
theorem NewKept.trans {lo hi:Nat} {A B C:World} (h:NewKept lo hi A B) (k:NewKept lo hi B C):NewKept lo hi A C:=fun i h1 h2=>(k i h1 h2).trans (h i h1 h2)
def YieldsF (P:Program) (gf:Nat) (lb:Array Value) (n:Nat) (row:Nat -> Array Value) (S T:Nat -> Prop) (w:World):Prop :=
 ∀ (l:Nat) (J Jx:Nat -> World -> Prop) (W:World),SameOn S w W →
  (∀ i A B,J i A -> Only T A B -> J i B) -> (∀ i A B,Jx i A -> Only T A B -> Jx i B) →
  (∀ i A0 A,i < n -> J i A0 -> Only T A0 A -> YieldAt Fence.wide 9 P l (row i) A fun e B =>
   (e = .returned (.bool true) /\ J (i + 1) B /\ SameOn S A B /\ NewKept A0.heap.size A.heap.size A B) \/ (e = .returned (.bool false) /\ Jx (i + 1) B)) →
  J 0 W →
  CallsIn Fence.wide 9 P gf (#[.func (.yield l) #[] #[]] ++ lb) W fun e B=>(∃ v,e = .returned v) /\ (J n B \/ ∃ i,i < n /\ Jx (i + 1) B)
def roundEndsF (N lo hi:Nat) (S:Nat -> Prop) (I:Nat -> World -> Prop) (Ix:Code -> Nat -> World -> Prop) (i:Nat) (A:World):Exit -> Act -> World -> Prop
 | .normal,_,B=>KeepsFrom N A B /\ SameOn S A B /\ NewKept lo hi A B /\ I (i + 1) B
 | .ret,_,B=>KeepsFrom N A B /\ Ix .ret (i + 1) B
 | .exit id,_,B=>KeepsFrom N A B /\ Ix (.exit id) (i + 1) B
 | .goto t,_,B=>KeepsFrom N A B /\ Ix (.goto t) (i + 1) B
 | .panic _,_,_=>False
 | .outgrown,_,_=>False
theorem Zvh {P:Program} {g:Operand} {ps:Array Tmp} {assign body:Code} {Q:Exit -> Act -> World -> Prop} {a:Act} {w:World}
  {gf:Nat} {lb:Array Value} (hg:a.eval g = .func (.func gf) #[] lb) (eg:∀ args w,(callFunc gf args).run P w = .ok (.enter gf args) w)
  {n:Nat} {row:Nat -> Array Value} {S T:Nat -> Prop} {w0:World} (hy:YieldsF P gf lb n row S T w0) (hsame:SameOn S w0 w) (hS:∀ b,S b -> b < w.heap.size) (hT:∀ b,T b -> b < w.heap.size)
  (hps:∀ i,(row i).size = ps.size)
  (I:Nat -> World -> Prop) (Ix:Code -> Nat -> World -> Prop)
  (hI:∀ i A B,I i A -> Only T A B -> I i B) (hIp:∀ i A l o o',I i A -> w.heap.size <= l -> A.heap[l]? = some o -> o.isCells = false -> I i (A.putObj l o'))
  (hX:∀ c i A B,Ix c i A -> Only T A B -> Ix c i B) (hXp:∀ c i A l o o',Ix c i A -> w.heap.size <= l -> A.heap[l]? = some o -> o.isCells = false -> Ix c i (A.putObj l o'))
  (h0:I 0 w) (Ax:Nat -> Nat -> Nat -> Act -> World -> Prop)
  (hAp:∀ i lo hi a' A l o o',Ax i lo hi a' A -> w.heap.size <= l -> A.heap[l]? = some o -> o.isCells = false -> Ax i lo hi a' (A.putObj l o'))
  (hassign:∀ (l i:Nat) (A0 W:World) (K:Act -> World -> Prop),i < n -> w.heap.size + 2 <= A0.heap.size -> I i A0 -> Only T A0 W -> (∀ a' W',KeepsFrom w.heap.size W W' -> SameOn S W W' -> NewKept A0.heap.size W.heap.size W W' -> Ax i A0.heap.size W.heap.size a' W' -> K a' W') →
   assign.wpIn (Fence.wide.inRound l) 9 P (Exit.then K (fun _ _ _=>False)) { tmps:=(ps.zip (row i)).foldl (fun t (p,v)=>t.setIfInBounds p v) a.tmps,defers:=[] } W)
  (hbody:∀ (l i:Nat) (hi:i < n) (lo hi':Nat) (a':Act) (A:World),w.heap.size + 2 <= lo -> lo <= hi' -> hi' <= A.heap.size -> Ax i lo hi' a' A -> body.wpIn (Fence.wide.inRound l) 9 P (roundEndsF w.heap.size lo hi' S I Ix i A) a' A)
  (hdone:∀ (A:World),I n A -> A.heap[w.heap.size]? = some (.deferred (some [])) -> Q .normal { a with defers:={ target:=.collected w.heap.size,args:=#[] } :: a.defers } A)
  (hstop:∀ (c:Code) (i:Nat) (A:World),i < n -> Ix c (i + 1) A -> A.heap[w.heap.size]? = some (.deferred (some [])) -> c.wpIn Fence.wide 9 P Q { a with defers:={ target:=.collected w.heap.size,args:=#[] } :: a.defers } A) :
  (Code.rangeFunc g ps assign body).wpIn Fence.wide 9 P Q a w:=by
 refine wpIn_rangeFunc ?_
 intro fn hfn
 obtain ⟨rec,hrec⟩:∃ rec:LoopState -> Option Code -> Loop,rec = fun st pe=>{ state:=st,pending:=pe,fn,tmps:=a.tmps,params:=ps,assign,body,defers:=w.heap.size }:=⟨_,rfl⟩
 obtain ⟨W1,hW1⟩:∃ W1,(w.alloc (.deferred (some []))).alloc (.loop (rec .ready none)) = W1:=⟨_,rfl⟩
 have hs1:W1.heap.size = w.heap.size + 2:=by rw [<- hW1];simp
 have hL1:W1.heap[w.heap.size + 1]? = some (.loop (rec .ready none)):=by
  rw [<- hW1];have:=World.alloc_heap_new (w.alloc (.deferred (some []))) (.loop (rec .ready none));rwa [World.size_alloc] at this
 have hK1:W1.heap[w.heap.size]? = some (.deferred (some [])):=by
  rw [<- hW1];exact (Below.heap_alloc _ _ _ (by simp)).trans (World.alloc_heap_new w _)
 have hI1:I 0 W1:=hI 0 w W1 h0 (by rw [<- hW1];exact ((Only.refl T w).alloc _).alloc _)
 have hsame1:SameOn S w0 W1:=⟨by have:=hsame.size;omega,fun b hb=>by
  rw [<- hW1,Below.heap_alloc _ _ _ (by have:=hS b hb;simp;omega),Below.heap_alloc _ _ _ (hS b hb)]
  exact hsame.same b hb⟩
 refine ⟨w.heap.size + 1,[{ target:=.collected w.heap.size,args:=#[] }],W1,{ target:=.fn (.func gf) lb,args:=#[.func (.yield (w.heap.size + 1)) #[] #[]] },W1,gf,
  #[.func (.yield (w.heap.size + 1)) #[] #[]] ++ lb,W1,?_,?_,?_,?_,fun h=>by simp [Fence.wide] at h,?_⟩
 ·rw [<- hW1,hrec];exact run_enterLoop_outer _ _ _ _ _
 ·simp only [resolve,hg]
  simp [go_sem]
 ·intro f' hf';trivial
 ·simp [invoke,go_sem,eg]
 ·have hyy:=hy (w.heap.size + 1)
   (fun i A=>I i A /\ w.heap.size + 2 <= A.heap.size /\ A.heap[w.heap.size + 1]? = some (.loop (rec .ready none)) /\ A.heap[w.heap.size]? = some (.deferred (some [])))
   (fun i A=>∃ c,Ix c i A /\ A.heap[w.heap.size + 1]? = some (.loop (rec .done (some c))) /\ A.heap[w.heap.size]? = some (.deferred (some [])))
   W1 hsame1
   (fun i A B h ho=>⟨hI i A B h.1 ho,Nat.le_trans h.2.1 ho.size,Zah h.2.2.1 ho (fun t=>by have:=hT _ t;omega),Zah h.2.2.2 ho (fun t=>by have:=hT _ t;omega)⟩)
   (fun i A B h ho=>by
    obtain ⟨c,hc,hl,hk⟩:=h
    exact ⟨c,hX c i A B hc ho,Zah hl ho (fun t=>by have:=hT _ t;omega),Zah hk ho (fun t=>by have:=hT _ t;omega)⟩)
   ?_ ⟨hI1,by omega,hL1,hK1⟩
  ·refine (callsIn_wide.2 (callsIn_wide.1 hyy)).mono ?_
   rintro e W2 ⟨⟨v,rfl⟩,(⟨hi,_,hl,hk⟩ | ⟨i,hlt,c,hi,hl,hk⟩)⟩
   ·exact ⟨none,_,by have:=run_endLoop (P:=P) hl (by rw [hrec];simp);rw [hrec] at this;exact this,hdone _ (hIp _ _ _ _ _ hi (by omega) hl rfl) ((World.putObj_heap_other (by omega)).trans hk)⟩
   ·exact ⟨some c,_,by have:=run_endLoop (P:=P) hl (by rw [hrec];simp);rw [hrec] at this;exact this,hstop c i _ hlt (hXp _ _ _ _ _ _ hi (by omega) hl rfl) ((World.putObj_heap_other (by omega)).trans hk)⟩
  ·rintro i A0 W hi ⟨hii,hsz,hl,hk⟩ hoT
   replace hl:=Zah hl hoT (fun t=>by have:=hT _ t;omega)
   replace hk:=Zah hk hoT (fun t=>by have:=hT _ t;omega)
   have hsz':=hoT.size
   have hy':=run_yield (P:=P) (args:=row i) hl (by rw [hrec];exact hps _)
   rw [hrec] at hy'
   refine Zhg (n:=9) ⟨fn,_,assign,body,hy',roundIn_of_wpIn hfn (hassign _ i A0 W _ hi hsz hii hoT fun a' W' hk0 hs0 hn0 hax=>⟨_,run_beginRound (hk0.same _ _ (by omega) hl rfl) (by rw [hrec]),?_⟩)⟩
   replace hl:=hk0.same _ _ (by omega) hl rfl
   replace hk:=hk0.same _ _ (by omega) hk rfl
   have hlt:w.heap.size + 1 < W'.heap.size:=by have:=hk0.size;omega
   have hl2:(W'.putObj (w.heap.size + 1) (.loop { rec .ready none with state:=.busy })).heap[w.heap.size + 1]? = some (.loop { rec .ready none with state:=.busy }):=World.putObj_heap_same hlt
   have hk2:(W'.putObj (w.heap.size + 1) (.loop { rec .ready none with state:=.busy })).heap[w.heap.size]? = some (.deferred (some [])):=(World.putObj_heap_other (by omega)).trans hk
   have hS2:∀ (A:World) (o:Obj),SameOn S A (A.putObj (w.heap.size + 1) o):=fun A o=>⟨by rw [World.putObj_size];exact Nat.le_refl _,fun b hb=>World.putObj_heap_other (by have:=hS b hb;omega)⟩
   have hpk:∀ (A:World) (o:Obj),NewKept A0.heap.size W.heap.size A (A.putObj (w.heap.size + 1) o):=fun A o k h1 h2=>World.putObj_heap_other (by omega)
   refine wpIn_mono (hbody _ i hi _ _ _ _ hsz hsz' (by rw [World.putObj_size];exact hk0.size) (hAp _ _ _ _ _ _ _ _ hax (by omega) hl rfl)) ?_
   have fin:∀ (jump:Option Code) (W3:World),KeepsFrom w.heap.size (W'.putObj (w.heap.size + 1) (.loop { rec .ready none with state:=.busy })) W3 →
     (Instr.endRound (w.heap.size + 1) jump).run P W3 = .ok (.bool jump.isNone) (W3.putObj (w.heap.size + 1) (.loop (rec (if jump.isNone then .ready else .done) jump))) ∧
     W3.heap[w.heap.size + 1]? = some (.loop { rec .ready none with state:=.busy }) ∧
     (W3.putObj (w.heap.size + 1) (.loop (rec (if jump.isNone then .ready else .done) jump))).heap[w.heap.size + 1]? = some (.loop (rec (if jump.isNone then .ready else .done) jump)) ∧
     (W3.putObj (w.heap.size + 1) (.loop (rec (if jump.isNone then .ready else .done) jump))).heap[w.heap.size]? = some (.deferred (some [])) /\ w.heap.size + 2 <= (W3.putObj (w.heap.size + 1) (.loop (rec (if jump.isNone then .ready else .done) jump))).heap.size:=fun jump W3 hk3=>by
    have hl3:=hk3.same _ _ (by omega) hl2 rfl
    have:=run_endRound (P:=P) jump hl3
    rw [hrec] at this ⊢
    exact ⟨this,by rw [hrec] at hl3;exact hl3,World.putObj_heap_same (Array.getElem?_eq_some_iff.1 hl3).1,(World.putObj_heap_other (by omega)).trans (hk3.same _ _ (by omega) hk2 rfl),by rw [World.putObj_size];have:=(Array.getElem?_eq_some_iff.1 hl3).1;omega⟩
   rintro e a3 W3 hp
   cases e with
   | normal =>
    obtain ⟨hk3,hkp3,hn3,hi3⟩:=hp
    obtain ⟨hr,hl3,hl4,hk4,hz4⟩:=fin none W3 hk3
    exact ⟨_,_,hr,.inl ⟨rfl,⟨hIp _ _ _ _ _ hi3 (by omega) hl3 rfl,hz4,hl4,hk4⟩,((hs0.trans (hS2 _ _)).trans hkp3).trans (hS2 _ _),((hn0.trans (hpk _ _)).trans hn3).trans (hpk _ _)⟩⟩
   | ret =>
    obtain ⟨hk3,hi3⟩:=hp
    obtain ⟨hr,hl3,hl4,hk4,_⟩:=fin (some .ret) W3 hk3
    exact ⟨_,_,hr,.inr ⟨rfl,.ret,hXp _ _ _ _ _ _ hi3 (by omega) hl3 rfl,hl4,hk4⟩⟩
   | exit id =>
    obtain ⟨hk3,hi3⟩:=hp
    obtain ⟨hr,hl3,hl4,hk4,_⟩:=fin (some (.exit id)) W3 hk3
    exact ⟨_,_,hr,.inr ⟨rfl,.exit id,hXp _ _ _ _ _ _ hi3 (by omega) hl3 rfl,hl4,hk4⟩⟩
   | goto t =>
    obtain ⟨hk3,hi3⟩:=hp
    obtain ⟨hr,hl3,hl4,hk4,_⟩:=fin (some (.goto t)) W3 hk3
    exact ⟨_,_,hr,.inr ⟨rfl,.goto t,hXp _ _ _ _ _ _ hi3 (by omega) hl3 rfl,hl4,hk4⟩⟩
   | panic ch=>exact hp.elim
   | outgrown=>exact hp.elim
end Go.Proofs.YtendielanacflaaGreat
