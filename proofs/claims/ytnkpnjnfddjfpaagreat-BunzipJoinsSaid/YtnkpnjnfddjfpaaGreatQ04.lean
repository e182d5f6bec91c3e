/- The reference of layer 26: the head of a block: plain. The reference of layer 26: the tables of a block's head. The reference of layer 24: GetLengths: contract. recover: the type assertions of a deferred closure. pressworkref26.head: contract. The reference of layer 22: Places: contract. The reference of layer 22: Digits, Put: contracts. The reference of layer 23: has, Row: contracts. -/
import Derived.Test.YtnkpnjnfddjfpaaGreatQ03
import Derived.Test.YtnkpnjnfddjfpaaGreatQ01
import Derived.Test.YtnkpnjnfddjfpaaGreatQ02
import Derived.Defers
import Derived.Recover
import Derived.Laws.Pointers
set_option linter.unusedVariables false
set_option linter.unusedSimpArgs false
namespace Go.Proofs.YtnkpnjnfddjfpaaGreat.M27
open M01 M02 M04 M06 M10
structure Hd where
 s:Nat
 m:Nat
 pl:Nat
 used:List Nat
 group:List Nat
 tabs:List (List Nat)
 at2:Nat
def hd6 (B:List Nat) (s m pl:Nat) (used:List Nat) (mn:Nat) (group:List Nat) (at_:Nat):Option Hd:=(tabsL B (used.length + 2) mn at_ []).bind fun t=>some ⟨s,m,pl,used,group,t.1,t.2⟩
def hd5 (B:List Nat) (s m pl:Nat) (used:List Nat) (mn at_:Nat):Option Hd:=if mn < 2 \/ 6 < mn then none else (selG B at_ mn).bind fun g=>hd6 B s m pl used mn g.1 g.2
def hd4 (B:List Nat) (s m pl:Nat) (used:List Nat) (at_:Nat):Option Hd:=(numG B at_ 3).bind fun mn=>hd5 B s m pl used mn.1 mn.2
def hd3 (B:List Nat) (s m pl at_:Nat):Option Hd:=(pickG B at_).bind fun u=>hd4 B s m pl u.1 u.2
def hd2 (B:List Nat) (s m at_:Nat):Option Hd:=(numG B at_ 24).bind fun pl=>hd3 B s m pl.1 pl.2
def hd1 (B:List Nat) (s at_:Nat):Option Hd:=(numG B at_ 1).bind fun m=>hd2 B s m.1 m.2
def headG (B:List Nat) (at_:Nat):Option Hd:=(numG B at_ 32).bind fun s=>hd1 B s.1 s.2
def blkH (B:List Nat) (most:Nat) (h:Hd):Option (List Nat × Nat × Nat):=blk7 B most h.s h.m h.pl h.used h.group h.tabs h.at2
theorem Zlg (B:List Nat) (at_ most:Nat):blkG B at_ most = (headG B at_).bind (blkH B most):=by
 unfold blkG headG
 rw [Option.bind_assoc]
 congr 1;funext s
 unfold blk1 hd1
 rw [Option.bind_assoc]
 congr 1;funext m
 unfold blk2 hd2
 rw [Option.bind_assoc]
 congr 1;funext pl
 unfold blk3 hd3
 rw [Option.bind_assoc]
 congr 1;funext u
 unfold blk4 hd4
 rw [Option.bind_assoc]
 congr 1;funext mn
 unfold blk5 hd5
 split
 ·rfl
 ·rw [Option.bind_assoc]
  congr 1;funext g
  unfold blk6 hd6
  rw [Option.bind_assoc]
  congr 1
theorem Zro (B:List Nat) (n m at_:Nat) (out:List (List Nat)) (h:lenG B at_ n = none):tabsL B n (m + 1) at_ out = none:=by
 unfold tabsL;rw [h];rfl
theorem Zvs (B:List Nat) (n m at_:Nat) (out:List (List Nat)) {l:List Nat} {a2:Nat} (h:lenG B at_ n = some (l,a2)) (h2:(wordsE l).2 ≠ 0):tabsL B n (m + 1) at_ out = none:=by
 unfold tabsL;rw [h];show (if _ then _ else _) = _;rw [if_neg h2]
theorem Zrp (B:List Nat) (n m at_:Nat) (out:List (List Nat)) {l:List Nat} {a2:Nat} (h:lenG B at_ n = some (l,a2)) (h2:(wordsE l).2 = 0):tabsL B n (m + 1) at_ out = tabsL B n m a2 (out ++ [l]):=by
 conv=>lhs;unfold tabsL
 rw [h];show (if _ then _ else _) = _;rw [if_pos h2]
end Go.Proofs.YtnkpnjnfddjfpaaGreat.M27

namespace Go.Proofs.YtnkpnjnfddjfpaaGreat
open Go.RowKit M01 M04 M10
def OffX (X:Nat -> Prop) (a:Option Addr) (n:Nat):Prop:=0 < n -> ∀ x,a = some x -> ¬ X x.block
def TabAt (w:World) (X:Nat -> Prop) (t:Option Addr × Nat × List Nat):Prop :=
 (M04.May t.2.2 /\ weight t.2.2 <= 2 ^ 20) /\ OffX X t.1 t.2.2.length /\ ∃ es,RowS encSl w t.1 t.2.1 es /\ RowsTo w t.2.2 t.2.2.length es /\ ∀ i (h:i < es.length),OffX X es[i].1 es[i].2.2.length
theorem OffX.mv {w:World} {X Y:Nat -> Prop} {a:Option Addr} {n:Nat} (h:OffX X a n) (hb:0 < n -> ∀ x,a = some x -> x.block < w.heap.size) (hY:∀ b,b < w.heap.size -> Y b -> X b):OffX Y a n :=
 fun h0 x hx hy=>h h0 x hx (hY _ (hb h0 x hx) hy)
theorem Zux {k:IntKind} {w:World} {a:Option Addr} {cap:Nat} {l:List Nat} (h:RowN k w a cap l):0 < l.length -> ∀ x,a = some x -> x.block < w.heap.size:=by
 intro h0 x hx
 obtain ⟨b,off,h1,h2,_⟩:=h.at h0
 rw [h1] at hx;cases hx;exact h2
theorem Zoa {α:Type} {c:Enc α} {w:World} {a:Option Addr} {cap:Nat} {l:List α} (h:RowS c w a cap l):0 < l.length -> ∀ x,a = some x -> x.block < w.heap.size:=by
 intro h0 x hx
 obtain ⟨b,off,h1,h2,_⟩:=h.at h0
 rw [h1] at hx;cases hx;exact h2
theorem TabAt.mv {w W:World} {X Y:Nat -> Prop} {t:Option Addr × Nat × List Nat} (h:TabAt w X t) (hs:w.heap.size <= W.heap.size) (hb:∀ b,b < w.heap.size -> ¬ X b -> W.heap[b]? = w.heap[b]?) (hY:∀ b,b < w.heap.size -> Y b -> X b):TabAt W Y t:=by
 obtain ⟨hm,ho,es,h1,h2,h3⟩:=h
 have hel:es.length = t.2.2.length:=h2.1
 refine ⟨hm,ho.mv (w:=w) (fun h0=>Zoa h1 (by omega)) hY,es,?_,⟨h2.1,fun i hi=>⟨(h2.2 i hi).1,?_⟩⟩,fun i hi=>(h3 i hi).mv (w:=w) (Zux (h2.2 i hi).2) hY⟩
 ·exact h1.same hs fun x h0 hx=>hb _ (Zoa h1 h0 x hx) (ho (by omega) x hx)
 ·exact (h2.2 i hi).2.same hs fun x h0 hx=>hb _ (Zux (h2.2 i hi).2 h0 x hx) (h3 i hi h0 x hx)
theorem TabAt.of {w:World} {X:Nat -> Prop} {g:Option Addr} {c q:Nat} {l:List Nat} {es:Es} (hm:M04.May l) (hw:weight l <= 2 ^ 20) (h1:RowS encSl w g c es) (h2:RowsTo w l l.length es) (h3:∀ x,g = some x -> q <= x.block) (h4:EsLo q es) (hX:∀ b,X b -> b < q):TabAt w X (g,c,l) :=
 ⟨⟨hm,hw⟩,fun _ x hx hX'=>by have:=h3 x hx;have:=hX _ hX';omega,es,h1,h2,fun i hi _ x hx hX'=>by have:=h4 i hi x hx;have:=hX _ hX';omega⟩
theorem Zwc {l:List Nat} (h:(wordsE l).2 = 0):M04.May l /\ weight l <= 2 ^ 20:=by
 unfold wordsE at h
 by_cases hm:M04.May l
 ·rw [if_neg (by simpa using hm)] at h
  by_cases hw:2 ^ 20 < weight l
  ·rw [if_pos hw] at h;simp at h
  ·exact ⟨hm,by omega⟩
 ·rw [if_pos hm] at h;simp at h
def TabsAt (w:World) (X:Nat -> Prop) (ts:List (Option Addr × Nat × List Nat)):Prop:=∀ t ∈ ts,TabAt w X t
theorem TabsAt.mv {w W:World} {X Y:Nat -> Prop} {ts:List (Option Addr × Nat × List Nat)} (h:TabsAt w X ts) (hs:w.heap.size <= W.heap.size) (hb:∀ b,b < w.heap.size -> ¬ X b -> W.heap[b]? = w.heap[b]?) (hY:∀ b,b < w.heap.size -> Y b -> X b):TabsAt W Y ts:=fun t ht=>(h t ht).mv hs hb hY
theorem Zvr:ElemS Tryz.prog 143 33 encSl (.slice none 0 0) 24:=⟨Tryz.underlying143,by kernel_rfl,by kernel_rfl⟩
end Go.Proofs.YtnkpnjnfddjfpaaGreat

namespace Go.Proofs.YtnkpnjnfddjfpaaGreat
open Go.RowKit M01 M02 M10 M27
theorem Zto (B:List Nat) (f k at_ n:Nat) (out:List Nat):lenL B (f + 1) k at_ n out = if n <= out.length then some (out,at_)
  else if k < 1 \/ 20 < k \/ nb B <= at_ then none
  else if bit B at_ = 0 then lenL B f k (at_ + 1) n (out ++ [k])
  else if nb B <= at_ + 1 then none
  else lenL B f (if bit B (at_ + 1) = 1 then k - 1 else k + 1) (at_ + 2) n out:=rfl
set_option maxRecDepth 100000 in
set_option maxHeartbeats 3200000 in
theorem Zuo (a:Option Addr) (cap:Nat) (B:List Nat) (at_ n:Nat) (w:World) (hr:RowB w a cap (bitL B)) (hl:B.length <= 1000) (ha:at_ <= 8 * B.length) (hn:n <= 258) :
  Calls Tryz.prog 137 #[.slice a (bitL B).length cap,.int .i64 (at_:Nat),.int .i64 (n:Nat)] w fun e w'=>Below w.heap.size w w' /\ Out23 w.heap.size (8 * B.length) (lenG B at_ n) e w':=by
 have hll:(bitL B).length = 8 * B.length:=Zbo B
 have HG:=Zh (Zfz a cap B at_ 5 w hr hl ha (by decide))
 have HBI:Hid (∀ i,i < (bitL B).length -> ∀ b off,a = some ⟨b,off,none⟩ -> ∀ A,Below w.heap.size w A -> A.cell? ⟨b,off + i,none⟩ = some (.bool (bit B i == 1))):=fun i hi b off hab A hA=>by
  obtain ⟨b',off',h1,h2,h3⟩:=(hr.below hA).atB hi
  rw [hab] at h1
  cases h1
  rw [Zea] at h3
  exact h3
 obtain ⟨q,hq⟩:∃ q,w.heap.size = q:=⟨_,rfl⟩
 rw [hq] at HBI ⊢
 have HQ:=Zh hq
 have HLL:=Zh hll
 obtain ⟨P,hP⟩:∃ P,P = lenG B at_ n:=⟨_,rfl⟩
 rw [<- hP]
 unfold lenG numG nb at hP
 have hform:(bitL B).length = 0 \/ ∃ b off,a = some ⟨b,off,none⟩:=by
  rcases hr.2.2 with h | ⟨b,off,h,_⟩
  ·exact .inl (by rw [h];rfl)
  ·exact .inr ⟨b,off,h⟩
 have hcap:=hr.1
 have hcap2:=hr.2.1.1
 have hL8:(bitL B).length <= 8000:=by omega
 have HBT:=Zh (fun i=>Zdy B i)
 have hN8:nb B = (bitL B).length:=by unfold nb;omega
 have HN8:=Zh hN8
 rw [<- hll] at HG hP ha ⊢
 generalize bitL B = L at *
 by_cases h5:at_ + 5 <= L.length
 case neg =>
  rw [if_neg h5] at hP
  subst hP
  rw [if_neg h5] at HG
  clear hr hll h5 hN8
  go_enter Tryz.func137,Tryz.ntmps137
  go_wp2_with fail
  refine HG.out.mono ?_
  rintro e w1 ⟨rfl,rfl⟩
  go_wp2_with fail
  go_ret3
  exact ⟨Below.refl _ _,_,rfl⟩
 rw [if_pos h5] at hP HG
 have hx:=Zbk B at_ 5
 have HP:Hid (P = lenL B (nb B + 2) (numH B at_ 5) (at_ + 5) n []):=by unfold Hid;rw [HN8.out];exact hP
 generalize numH B at_ 5 = x at *
 obtain ⟨b,off,rfl⟩:∃ b off,a = some ⟨b,off,none⟩:=by
  rcases hform with h | h
  ·omega
  ·exact h
 have u1:IntKind.i64.wrap (x:Int) = (x:Int):=IntWalk.i64_in _ (by omega)
 have HFU0:Hid (nb B + 2 <= nb B + 2 + (at_ + 5)):=Nat.le_add_right _ _
 clear hr hP hll ha hform hN8
 go_enter Tryz.func137,Tryz.ntmps137
 go_wp2_with fail
 refine HG.out.mono ?_
 rintro e w1 ⟨rfl,rfl⟩
 have hat5:((at_ + 5:Nat):Int) = (at_:Int) + 5:=by omega
 go_wp2_with fail
 go_loopw [1,11,12] (fun av kv x A=>∃ (at2 k f:Nat) (o:List Nat) (ga:Option Addr) (c:Nat),av = .int .i64 (at2:Nat) /\ kv = .int .i64 (k:Nat) /\ x = .slice ga o.length c /\ o.length <= n /\ at2 <= L.length /\ k <= 40 /\ OwnN 5 .u8 A q ga c o /\ Below q w1 A /\ Hid (nb B + 2 <= f + at2) /\ Hid (P = lenL B f k at2 n o)) (fun av _ _ _=>9000 - (intOf av).toNat)
 case atStart=>exact ⟨at_ + 5,x,nb B + 2,[],none,0,by first | rfl | exact Zbg (by omega),by first | rfl | trivial,rfl,Nat.zero_le _,h5,by omega,OwnN.nil _ _ _ _,Below.refl _ _,HFU0.out,HP.out⟩
 case round =>
  clear HP HFU0 hq HG hat5
  obtain ⟨at2,k,f,o,ga,c,rfl,rfl,rfl,hon,hat2,hk40,hown,hbe,hfu,HF⟩:=hrel
  have HO:=Zh hown
  have HE:=Zh hbe
  clear hown hbe
  obtain ⟨f,rfl⟩:∃ g,f = g + 1:=⟨f - 1,by have:=hfu.out;have:=HN8.out;omega⟩
  rw [Zto,HN8.out] at HF
  have hwr:q <= wr.heap.size:=by have:=HE.out.size;have:=HQ.out;omega
  have HWR:=Zh hwr
  clear hwr
  by_cases hno:n <= o.length
  case pos =>
   have t0:decide (o.length < n) = false:=by simp;omega
   rw [if_pos hno] at HF
   go_wp2_with fail
   go_ret3
   refine ⟨HE.out,?_⟩
   rw [show P = some (o,at2) from HF.out]
   exact ⟨ga,c,rfl,HO.out,hat2⟩
  have t0:decide (o.length < n) = true:=by simp;omega
  rw [if_neg hno] at HF
  by_cases hbad:k < 1 \/ 20 < k \/ L.length <= at2
  case pos =>
   rw [if_pos hbad] at HF
   have HPN:Hid (P = none):=HF
   by_cases k1:k < 1
   ·have t1:decide ((k:Int) < 1) = true:=by simp;omega
    clear hbad
    go_wp2_with fail
    go_ret3
    refine ⟨HE.out,?_⟩
    rw [HPN.out]
    exact ⟨_,rfl⟩
   ·have t1:decide ((k:Int) < 1) = false:=by simp;omega
    by_cases k2:20 < k
    ·have t2:decide ((20:Int) < (k:Int)) = true:=by simp;omega
     clear hbad
     go_wp2_with fail
     go_ret3
     refine ⟨HE.out,?_⟩
     rw [HPN.out]
     exact ⟨_,rfl⟩
    ·have t2:decide ((20:Int) < (k:Int)) = false:=by simp;omega
     have t3:((at2:Int) == (L.length:Int)) = true:=beq_iff_eq.2 (by omega)
     clear hbad
     go_wp2_with fail
     go_ret3
     refine ⟨HE.out,?_⟩
     rw [HPN.out]
     exact ⟨_,rfl⟩
  have k1:1 <= k:=by omega
  have k2:k <= 20:=by omega
  have k3:at2 < L.length:=by omega
  have t1:decide ((k:Int) < 1) = false:=by simp;omega
  have t2:decide ((20:Int) < (k:Int)) = false:=by simp;omega
  have t3:((at2:Int) == (L.length:Int)) = false:=beq_eq_false_iff_ne.2 (by omega)
  rw [if_neg hbad] at HF
  have hc0:=HBI.out at2 k3 b off rfl _ HE.out
  by_cases hb0:bit B at2 = 0
  ·rw [if_pos hb0] at HF
   rw [hb0,show ((0:Nat) == 1) = false from rfl] at hc0
   have hk8:(k:Int) % 256 = (k:Int):=by omega
   have HFU2:Hid (nb B + 2 <= f + (at2 + 1)):=by unfold Hid;have:=hfu.out;omega
   have HF2:Hid (P = lenL B f k (at2 + 1) n (o ++ [k])):=HF
   clear hb0 hbad hno HF
   go_wp2_with (at_builtin;refine app1N (y:=k) Zaz rfl (.tmp 47) (.tmp 50) rfl rfl HO.out rfl (by omega) (by omega) (by omega) (by omega) HWR.out ?_;intro a' c' w2 hown hg hb2;replace hown:=Zh hown;replace hb2:=Zh (HE.out.trans hb2);clear hg)
   go_wp2
   go_roundw
   case rel=>exact ⟨at2 + 1,k,f,o ++ [k],a',c',by go_num,by trivial,by rw [List.length_append];rfl,by rw [List.length_append];show o.length + 1 <= n;simp at t0;omega,by omega,by omega,hown.out,hb2.out,HFU2.out,HF2.out⟩
   case measure=>simp [intOf];omega
  ·have hb1:bit B at2 = 1:=by have:=HBT.out at2;omega
   rw [if_neg hb0] at HF
   rw [hb1,show ((1:Nat) == 1) = true from rfl] at hc0
   clear hb0 hb1
   by_cases h1:L.length <= at2 + 1
   ·rw [if_pos h1] at HF
    have HPN:Hid (P = none):=HF
    have t4:((at2:Int) + 1 == (L.length:Int)) = true:=beq_iff_eq.2 (by omega)
    clear hbad hno HF h1
    go_wp2_with fail
    go_ret3
    refine ⟨HE.out,?_⟩
    rw [HPN.out]
    exact ⟨_,rfl⟩
   ·rw [if_neg h1] at HF
    have t4:((at2:Int) + 1 == (L.length:Int)) = false:=beq_eq_false_iff_ne.2 (by omega)
    have hc1:=HBI.out (at2 + 1) (by omega) b off rfl _ HE.out
    have HFU2:Hid (nb B + 2 <= f + (at2 + 2)):=by unfold Hid;have:=hfu.out;omega
    obtain ⟨j,hj⟩:∃ j,at2 + 1 = j:=⟨_,rfl⟩
    have hji:(at2:Int) + 1 = (j:Int):=by omega
    have hjl:j < L.length:=by omega
    rw [hj] at hc1 HF
    clear hj
    by_cases hb1:bit B j = 1
    ·rw [hb1,show ((1:Nat) == 1) = true from rfl] at hc1
     rw [if_pos hb1] at HF
     have HF2:Hid (P = lenL B f (k - 1) (at2 + 2) n o):=HF
     clear hbad hno HF h1 hb1
     go_wp2_with fail
     go_roundw
     case rel=>exact ⟨at2 + 2,k - 1,f,o,ga,c,by go_num,Zbg (by omega),by trivial,hon,by omega,by omega,HO.out,HE.out,HFU2.out,HF2.out⟩
     case measure=>simp [intOf];omega
    ·have hb2:(bit B j == 1) = false:=by simpa using hb1
     rw [hb2] at hc1
     rw [if_neg hb1] at HF
     have HF2:Hid (P = lenL B f (k + 1) (at2 + 2) n o):=HF
     clear hbad hno HF h1 hb1 hb2
     go_wp2_with fail
     go_roundw
     case rel=>exact ⟨at2 + 2,k + 1,f,o,ga,c,by go_num,by go_num,by trivial,hon,by omega,by omega,HO.out,HE.out,HFU2.out,HF2.out⟩
     case measure=>simp [intOf];omega
end Go.Proofs.YtnkpnjnfddjfpaaGreat

namespace Go.Proofs.YtnkpnjnfddjfpaaGreat
open Go.RowKit Go.Shelf
theorem Zpj (w:World):(Instr.typeAssert Value.nilIface 20 25 true).run Tryz.prog w = .ok (.tuple #[.int .i64 0,.bool false]) w:=by kernel_rfl
theorem Zpi (n:Int) (w:World):(Instr.typeAssert (.iface 25 (.int .i64 n)) 20 25 true).run Tryz.prog w = .ok (.tuple #[.int .i64 n,.bool true]) w:=by kernel_rfl
def OneR (q:Nat) (A:World) (z:Value):Prop:=A.heap[q]? = some (.cells #[z] 25 (0,0))
theorem OneR.only {q:Nat} {A B:World} {z:Value} {T:Nat -> Prop} (h:OneR q A z) (ho:Only T A B) (hT:¬ T q):OneR q B z:=Zad h ho hT
theorem OneR.below {q:Nat} {A B:World} {z:Value} (h:OneR q A z) (ho:Below A.heap.size A B):OneR q B z:=(ho.block q (Array.getElem?_eq_some_iff.1 h).1).trans h
theorem OneR.belowAt {q n:Nat} {A B:World} {z:Value} (h:OneR q A z) (ho:Below n A B) (hq:q < n):OneR q B z:=(ho.block q hq).trans h
theorem OneR.set {q:Nat} {A:World} {z:Value} (h:OneR q A z) (y:Value):OneR q (A.setCell ⟨q,0,none⟩ y) y:=by
 show (A.heap.modify q _)[q]? = _
 rw [Array.getElem?_modify,if_pos rfl,h];rfl
theorem OneR.new (w:World) (z:Value):OneR w.heap.size (w.alloc (.cells #[z] 25)) z:=World.alloc_heap_new _ _
theorem Zao {A:World} {b i:Nat} {cs:Array Value} {x:Value} {t:TypeId} (h:A.heap[b]? = some (.cells cs t (0,0))):(A.setCell ⟨b,i,none⟩ x).heap[b]? = some (.cells (cs.setIfInBounds i x) t (0,0)):=by
 show (A.heap.modify b _)[b]? = _
 rw [Array.getElem?_modify,if_pos rfl,h];rfl
end Go.Proofs.YtnkpnjnfddjfpaaGreat

namespace Go.Proofs.YtnkpnjnfddjfpaaGreat
open Go.RowKit M01 M02 M04 M10 M27
theorem Zfu {α:Type} {B:List Nat} {at_ n v at2 er n8:Nat} (hn8:nb B = n8) {R:Option α} {k:Nat -> Nat -> Option α} (h:(er = 0 /\ at2 = at_ + n /\ v = numH B at_ n /\ at_ + n <= n8) \/ (er = 2 /\ n8 < at_ + n)) (hR:R = (numG B at_ n).bind fun s=>k s.1 s.2):(er = 0 /\ R = k v at2) \/ (er = 2 /\ R = none):=by
 subst hn8
 unfold numG at hR
 rcases h with ⟨h1,rfl,rfl,h4⟩ | ⟨h1,h2⟩
 ·rw [if_pos h4] at hR
  exact .inl ⟨h1,hR⟩
 ·rw [if_neg (by omega)] at hR
  exact .inr ⟨h1,hR⟩
theorem Zmd (a:Option Addr) (cap:Nat) (B:List Nat) (hl:B.length <= 1000) (n at_:Nat) (w:World) (hr:RowB w a cap (bitL B)) (ha:at_ <= nb B) (hn:n <= 32) :
  Calls Tryz.prog 56 #[.slice a (bitL B).length cap,.int .i64 (at_:Nat),.int .i64 (n:Nat)] w fun e w'=>∃ v at2 er:Nat,e = .returned (.tuple #[.int .u32 (v:Nat),.int .i64 (at2:Nat),.int .i64 (er:Nat)]) /\ w' = w /\ at2 <= nb B /\ v < 2 ^ n /\ ((er = 0 /\ at2 = at_ + n /\ v = numH B at_ n /\ at_ + n <= nb B) \/ (er = 2 /\ nb B < at_ + n)):=by
 unfold nb at *
 refine (Zfz a cap B at_ n w hr hl ha hn).mono ?_
 rintro e w' ⟨rfl,rfl⟩
 by_cases h:at_ + n <= 8 * B.length
 ·rw [if_pos h]
  exact ⟨_,_,0,rfl,rfl,h,Zbk B at_ n,.inl ⟨rfl,rfl,rfl,h⟩⟩
 ·rw [if_neg h]
  exact ⟨0,at_,2,rfl,rfl,ha,Nat.two_pow_pos n,.inr ⟨rfl,by omega⟩⟩
def Six (b:Nat) (A:World) (x0 x1 x2 x3 x4 x5:Value):Prop:=A.heap[b]? = some (.cells #[x0,x1,x2,x3,x4,x5] 145 (0,0))
theorem Zaj {w:World} {b:Nat} {x0 x1 x2 x3 x4 x5:Value} (h:Six b w x0 x1 x2 x3 x4 x5):w.cell? ⟨b,0,none⟩ = some x0 /\ w.cell? ⟨b,1,none⟩ = some x1 /\ w.cell? ⟨b,2,none⟩ = some x2 /\ w.cell? ⟨b,3,none⟩ = some x3 /\ w.cell? ⟨b,4,none⟩ = some x4 /\ w.cell? ⟨b,5,none⟩ = some x5:=by
 unfold Six at h
 simp [World.cell?,h]
theorem Zaq {w:World} {b:Nat} {x0 x1 x2 x3 x4 x5:Value} (h:Six b w x0 x1 x2 x3 x4 x5):w.frozen? ⟨b,0,none⟩ = false /\ w.frozen? ⟨b,1,none⟩ = false /\ w.frozen? ⟨b,2,none⟩ = false /\ w.frozen? ⟨b,3,none⟩ = false /\ w.frozen? ⟨b,4,none⟩ = false /\ w.frozen? ⟨b,5,none⟩ = false:=by
 unfold Six at h
 simp [World.frozen?,h]
theorem Zcl (w:World) (o:Obj) {n:Nat} (h:n = w.heap.size):(w.alloc o).heap[n]? = some o:=by subst h;show (w.heap.push o)[w.heap.size]? = _;simp
theorem Zmt (w:World) (o:Obj) {n:Nat} (h:n = w.heap.size) {o2:Obj}:((w.alloc o).alloc o2).heap[n]? = some o:=by
 subst h
 have h1:((w.alloc o).alloc o2).heap[w.heap.size]? = (w.alloc o).heap[w.heap.size]?:=Below.heap_alloc _ _ _ (by simp)
 exact h1.trans (Zcl w o rfl)
def XW (q:Nat) (wg:Option Addr) (b:Nat):Prop:=b = q \/ b = q + 1 \/ ∃ x,wg = some x /\ b = x.block
abbrev Ts:=List (Option Addr × Nat × List Nat)
def headK (s m pl:Nat) (used group:List Nat) (t:List (List Nat) × Nat):Option Hd:=some ⟨s,m,pl,used,group,t.1,t.2⟩
def Out26 (q n:Nat) (R:Option Hd) (e:Ending) (w':World):Prop :=
 match R with
 | some h=>∃ ua uc ga gc wa wc ts,e = .returned (.tuple #[.agg #[.int .u32 (h.s:Nat),.bool (h.m == 1),.int .i64 (h.pl:Nat),.slice ua h.used.length uc,.slice ga h.group.length gc,.slice wa h.tabs.length wc],.int .i64 (h.at2:Nat),.int .i64 0]) ∧
   OwnN 5 .u8 w' q ua uc h.used /\ OwnN 3 .i64 w' q ga gc h.group /\ ts.map (fun t=>t.2.2) = h.tabs /\ RowS encSl w' wa wc ts /\ TabsAt w' (fun _=>False) ts /\ h.at2 <= n
 | none=>∃ (s pl m er:Int) (b:Bool) (a1 a2 a3:Option Addr) (n1 c1 n2 c2 n3 c3:Nat),e = .returned (.tuple #[.agg #[.int .u32 s,.bool b,.int .i64 pl,.slice a1 n1 c1,.slice a2 n2 c2,.slice a3 n3 c3],.int .i64 m,.int .i64 er]) /\ er ≠ 0
theorem Zaan {b:Nat} {A:World} {y0 y1 y2 y3 y4 y5:Value} (h:Six b A y0 y1 y2 y3 y4 y5) (x0 x1 x2:Value):Six b (((A.setCell ⟨b,0,none⟩ x0).setCell ⟨b,1,none⟩ x1).setCell ⟨b,2,none⟩ x2) x0 x1 x2 y3 y4 y5:=by
 unfold Six at *
 have:=Zao (i:=2) (x:=x2) (Zao (i:=1) (x:=x1) (Zao (i:=0) (x:=x0) h))
 simpa using this
theorem Zacb {b:Nat} {A:World} {y0 y1 y2 y3 y4 y5:Value} (h:Six b A y0 y1 y2 y3 y4 y5) (x:Value):Six b (A.setCell ⟨b,3,none⟩ x) y0 y1 y2 x y4 y5:=by
 unfold Six at *
 simpa using Zao (i:=3) (x:=x) h
theorem Zacc {b:Nat} {A:World} {y0 y1 y2 y3 y4 y5:Value} (h:Six b A y0 y1 y2 y3 y4 y5) (x:Value):Six b (A.setCell ⟨b,4,none⟩ x) y0 y1 y2 y3 x y5:=by
 unfold Six at *
 simpa using Zao (i:=4) (x:=x) h
theorem Zacd {b:Nat} {A:World} {y0 y1 y2 y3 y4 y5:Value} (h:Six b A y0 y1 y2 y3 y4 y5) (x:Value):Six b (A.setCell ⟨b,5,none⟩ x) y0 y1 y2 y3 y4 x:=by
 unfold Six at *
 simpa using Zao (i:=5) (x:=x) h
theorem Zrd {b c i:Nat} {A:World} {y0 y1 y2 y3 y4 y5:Value} (h:Six b A y0 y1 y2 y3 y4 y5) (hn:b ≠ c) (x:Value):Six b (A.setCell ⟨c,i,none⟩ x) y0 y1 y2 y3 y4 y5:=by
 unfold Six at *
 rw [Below.heap_setCell _ _ _ _ hn];exact h
theorem Six.below {b:Nat} {A A':World} {y0 y1 y2 y3 y4 y5:Value} (h:Six b A y0 y1 y2 y3 y4 y5) (hb:Below A.heap.size A A'):Six b A' y0 y1 y2 y3 y4 y5:=by
 unfold Six at *
 exact (hb.block b (lt_of_block h)).trans h
def set6 (q:Nat) (A:World) (x0 x1 x2 x3 x4 x5:Value):World:=(((((A.setCell ⟨q,0,none⟩ x0).setCell ⟨q,1,none⟩ x1).setCell ⟨q,2,none⟩ x2).setCell ⟨q,3,none⟩ x3).setCell ⟨q,4,none⟩ x4).setCell ⟨q,5,none⟩ x5
theorem Zaao {q:Nat} {A:World} {y0 y1 y2 y3 y4 y5:Value} (h:Six q A y0 y1 y2 y3 y4 y5) (x0 x1 x2 x3 x4 x5:Value):Six q (set6 q A x0 x1 x2 x3 x4 x5) x0 x1 x2 x3 x4 x5:=by
 unfold Six set6 at *
 have:=Zao (i:=5) (x:=x5) (Zao (i:=4) (x:=x4) (Zao (i:=3) (x:=x3) (Zao (i:=2) (x:=x2) (Zao (i:=1) (x:=x1) (Zao (i:=0) (x:=x0) h)))))
 simpa using this
theorem Zjm {q:Nat} {A:World} (x0 x1 x2 x3 x4 x5:Value):Below q A (set6 q A x0 x1 x2 x3 x4 x5) :=
 ((((((Below.refl q A).setCell (p:=⟨q,0,none⟩) (Nat.le_refl _) _).setCell (p:=⟨q,1,none⟩) (Nat.le_refl _) _).setCell (p:=⟨q,2,none⟩) (Nat.le_refl _) _).setCell (p:=⟨q,3,none⟩) (Nat.le_refl _) _).setCell (p:=⟨q,4,none⟩) (Nat.le_refl _) _).setCell (p:=⟨q,5,none⟩) (Nat.le_refl _) _
theorem Zpc {E:TypeId} {k:IntKind} {q:Nat} {A:World} {a:Option Addr} {c:Nat} {l:List Nat} (h:OwnN E k A (q + 2) a c l) (x0 x1 x2 x3 x4 x5:Value):OwnN E k (set6 q A x0 x1 x2 x3 x4 x5) q a c l:=by
 have hn:∀ g,a = some ⟨g,0,none⟩ -> q ≠ g:=fun g hg=>by
  rcases h.form with ⟨h1,_⟩ | ⟨g2,h1,h2,_⟩ <;> rw [h1] at hg <;> cases hg
  omega
 unfold set6
 exact ((((((h.other (p:=⟨q,0,none⟩) hn _).other (p:=⟨q,1,none⟩) hn _).other (p:=⟨q,2,none⟩) hn _).other (p:=⟨q,3,none⟩) hn _).other (p:=⟨q,4,none⟩) hn _).other (p:=⟨q,5,none⟩) hn _).mono (by omega)
theorem Zca {q n8:Nat} {m er:Int} {w A:World} {y0 y1 y2 y3 y4 y5:Value} {R:Option Hd} {tmps:Array Value} (h:Six q A y0 y1 y2 y3 y4 y5) (hb:Below q w A) (x0 x1 x2 x3 x4 x5:Value) (t4:tmps.getD 4 undef = .pointer (some ⟨q,0,none⟩)) (t5:tmps.getD 5 undef = .int .i64 m) (t6:tmps.getD 6 undef = .int .i64 er)
  (hO:Out26 q n8 R (.returned (.tuple #[.agg #[x0,x1,x2,x3,x4,x5],.int .i64 m,.int .i64 er])) (set6 q A x0 x1 x2 x3 x4 x5)) :
  bodyPost Tryz.prog Tryz.f88 (fun e w'=>Below q w w' /\ Out26 q n8 R e w') .ret { tmps:=tmps,defers:=[] } (set6 q A x0 x1 x2 x3 x4 x5):=by
 have hs:=Zaao h x0 x1 x2 x3 x4 x5
 have hb6:=hb.trans (Zjm (q:=q) (A:=A) x0 x1 x2 x3 x4 x5)
 generalize set6 q A x0 x1 x2 x3 x4 x5 = A6 at *
 obtain ⟨c0,c1,c2,c3,c4,c5⟩:=Zaj hs
 have s4:tmps[4]?.getD undef = .pointer (some ⟨q,0,none⟩):=by simpa using t4
 have s5:tmps[5]?.getD undef = .int .i64 m:=by simpa using t5
 have s6:tmps[6]?.getD undef = .int .i64 er:=by simpa using t6
 exact bodyPost_ret (v:=.tuple #[.agg #[x0,x1,x2,x3,x4,x5],.int .i64 m,.int .i64 er]) (by simp [results,Tryz.results88,go_sem,s4,s5,s6,c0,c1,c2,c3,c4,c5]) rfl ⟨hb6,hO⟩
theorem app1SAt {P:Program} {T E:TypeId} {α:Type} {cc:Enc α} {z:Value} {bytes:Nat} (et:ElemS P T E cc z bytes) {w:World} {ops:Array Oper} {rest:List Oper} {o:Oper} {ac:Act} {Q:Exit -> Act -> World -> Prop} (hgd:o.guard = none) (s x:Operand)
  (ho:o.op = .call { callee:=.builtin .append,args:=#[s,x],argTypes:=#[T,T] }) {base:Nat} {a:Option Addr} {cap:Nat} {l:List α} (y:α) {cs:Array Value} {c E':Nat}
  (hs:ac.eval s = .slice a l.length cap) (hown:OwnS cc E w base a cap l) (hx:ac.eval x = .slice (some ⟨w.heap.size,0,none⟩) 1 c) (hcs:cs = (cc.cells y).toArray) (hc:1 <= c) (hc':c <= 9223372036854775807)
  (hn:l.length + 1 <= 9223372036854775807) (hbytes:(l.length + 1) * bytes <= 140737488355328) (hbase:base <= w.heap.size)
  (h:∀ a' cap' w',OwnS cc E w' base a' cap' (l ++ [y]) -> Below base w w' -> w.grownBy w' (Value.slice a l.length cap).ownBlock -> (∀ g,a' = some ⟨g,0,none⟩ -> a = some ⟨g,0,none⟩ \/ w.heap.size <= g) -> wpList P ops Q rest (ac.put o.dst (.slice a' (l.length + 1) cap')) w') :
  wpList P ops Q (o :: rest) ac (w.alloc (.cells cs E')):=by
 refine wpList_plain (by assumption) fun K hK'=>?_
 have hw:Region.wanted o (yielded ops ac.tmps) = true:=by simp [Region.wanted,hgd]
 have:=Zkg (ops:=ops) (K:=K) (Q:=Q) (G:=False) et hgd s x ho y (E':=E') hs hown hx hcs hc hc' hn hbytes hbase (fun a' cap' w' h1 h2 h3 h4=>hK' _ _ (h a' cap' w' h1 h2 h3 h4))
 rw [if_pos hw] at this
 exact this
structure HeadR (q:Nat) (A:World) (x0 x1 x2 x3 x4:Value) (ua:Option Addr) (uc:Nat) (used:List Nat) (ga:Option Addr) (gc:Nat) (group:List Nat) (wg:Option Addr) (wc:Nat) (ts:Ts):Prop where
 s0:Six q A (.int .u32 0) (.bool false) (.int .i64 0) (.slice none 0 0) (.slice none 0 0) (.slice none 0 0)
 s1:Six (q + 1) A x0 x1 x2 x3 x4 (.slice wg ts.length wc)
 ow:OwnS encSl 33 A (q + 2) wg wc ts
 tb:TabsAt A (XW q wg) ts
 us:OwnN 5 .u8 A (q + 2) ua uc used
 gr:OwnN 3 .i64 A (q + 2) ga gc group
 ne:∀ g,wg = some ⟨g,0,none⟩ -> ua ≠ some ⟨g,0,none⟩ /\ ga ≠ some ⟨g,0,none⟩
section
variable {q : Nat} {A : World} {x0 x1 x2 x3 x4 : Value} {ua : Option Addr} {uc : Nat} {used : List Nat} {ga : Option Addr} {gc : Nat} {group : List Nat} {wg : Option Addr} {wc : Nat} {ts : Ts}
theorem HeadR.below {W:World} (h:HeadR q A x0 x1 x2 x3 x4 ua uc used ga gc group wg wc ts) (hb:Below A.heap.size A W):HeadR q W x0 x1 x2 x3 x4 ua uc used ga gc group wg wc ts :=
 ⟨h.s0.below hb,h.s1.below hb,h.ow.below hb,h.tb.mv hb.size (fun b h1 _=>hb.block b h1) (fun b _ h2=>h2),h.us.below hb,h.gr.below hb,h.ne⟩
theorem HeadR.xw (h:HeadR q A x0 x1 x2 x3 x4 ua uc used ga gc group wg wc ts):∀ b,XW q wg b -> b < A.heap.size:=by
 rintro b (rfl | rfl | ⟨x,hx,rfl⟩)
 ·exact lt_of_block h.s0
 ·exact lt_of_block h.s1
 ·rcases h.ow.form with ⟨h1,_⟩ | ⟨g,h1,_,h3⟩ <;> rw [h1] at hx <;> cases hx
  exact h3
theorem Zbr {E:TypeId} {k:IntKind} {w:World} {base cap:Nat} {a:Option Addr} {l:List Nat} (h:OwnN E k w base a cap l) {g:Nat} (e:a = some ⟨g,0,none⟩):base <= g /\ g < w.heap.size:=by
 rcases h.form with ⟨h1,_⟩ | ⟨g2,h1,h2,h3⟩ <;> rw [h1] at e <;> cases e
 exact ⟨h2,h3⟩
theorem HeadR.six7 {W:World} (h:HeadR q A x0 x1 x2 x3 x4 ua uc used ga gc group wg wc ts) (hg:A.grownBy W (Value.slice wg ts.length wc).ownBlock):Six (q + 1) W x0 x1 x2 x3 x4 (.slice wg ts.length wc):=by
 refine (hg.block (q + 1) (lt_of_block h.s1) fun e=>?_).trans h.s1
 rcases h.ow.form with ⟨rfl,_⟩ | ⟨g,rfl,h1,h2⟩
 ·simp [Value.ownBlock] at e
 ·simp only [Value.ownBlock,Option.some.injEq] at e
  omega
theorem HeadR.next {W:World} {a7:Option Addr × Nat} {t:Option Addr × Nat × List Nat} (h:HeadR q A x0 x1 x2 x3 x4 ua uc used ga gc group wg wc ts) (ht:TabAt A (XW q wg) t)
  (hg:A.grownBy W (Value.slice wg ts.length wc).ownBlock) (hf:∀ g,a7.1 = some ⟨g,0,none⟩ -> wg = some ⟨g,0,none⟩ \/ A.heap.size <= g) (ho:OwnS encSl 33 W (q + 2) a7.1 a7.2 (ts ++ [t])) :
  HeadR q (W.setCell ⟨q + 1,5,none⟩ (.slice a7.1 (ts.length + 1) a7.2)) x0 x1 x2 x3 x4 ua uc used ga gc group a7.1 a7.2 (ts ++ [t]):=by
 have hwg:∀ k,(Value.slice wg ts.length wc).ownBlock = some k -> wg = some ⟨k,0,none⟩ /\ q + 2 <= k /\ k < A.heap.size:=by
  intro k hk
  rcases h.ow.form with ⟨rfl,_⟩ | ⟨g,rfl,h1,h2⟩
  ·simp [Value.ownBlock] at hk
  ·simp only [Value.ownBlock,Option.some.injEq] at hk
   subst hk
   exact ⟨rfl,h1,h2⟩
 have ha7:∀ x,a7.1 = some x -> ∃ g,x = ⟨g,0,none⟩ /\ q + 2 <= g:=by
  intro x hx
  rcases ho.form with ⟨h1,_⟩ | ⟨g,h1,h2,_⟩ <;> rw [h1] at hx <;> cases hx
  exact ⟨g,rfl,h2⟩
 have hbl:∀ b,b < A.heap.size -> ¬ XW q wg b -> W.heap[b]? = A.heap[b]?:=fun b hb hX=>hg.block b hb fun e=>hX (.inr (.inr ⟨_,(hwg b e.symm).1,rfl⟩))
 have hbl2:∀ b,b < q + 2 -> W.heap[b]? = A.heap[b]?:=fun b hb=>hg.block b (by have:=lt_of_block h.s1;omega) fun e=>by have:=(hwg b e.symm).2.1;omega
 have us':=h.us.kept hg fun g e e2=>(h.ne g (hwg g e2).1).1 e
 have gr':=h.gr.kept hg fun g e e2=>(h.ne g (hwg g e2).1).2 e
 have hls:(ts ++ [t]).length = ts.length + 1:=by simp
 refine ⟨Zrd (show Six q W _ _ _ _ _ _ from (hbl2 q (by omega)).trans h.s0) (by omega) _,by rw [hls];exact Zacd (show Six (q + 1) W _ _ _ _ _ _ from (hbl2 (q + 1) (by omega)).trans h.s1) _,
  ho.other (fun g hg2=>by obtain ⟨g3,e,h3⟩:=ha7 _ hg2;cases e;show q + 1 ≠ g;omega) _,?_,
  us'.other (fun g hg2=>by have:=(Zbr us' hg2).1;show q + 1 ≠ g;omega) _,gr'.other (fun g hg2=>by have:=(Zbr gr' hg2).1;show q + 1 ≠ g;omega) _,?_⟩
 ·have h1:TabsAt A (XW q wg) (ts ++ [t]):=by
   intro u hu
   rcases List.mem_append.1 hu with hu | hu
   ·exact h.tb u hu
   ·rw [List.mem_singleton.1 hu];exact ht
  refine h1.mv (Nat.le_trans hg.size (by simp)) (fun b hb hX=>?_) (fun b hb hX=>?_)
  ·rw [Below.heap_setCell _ _ _ _ (show b ≠ q + 1 from fun e=>hX (.inr (.inl e)))]
   exact hbl b hb hX
  ·rcases hX with rfl | rfl | ⟨x,hx,rfl⟩
   ·exact .inl rfl
   ·exact .inr (.inl rfl)
   ·obtain ⟨g,rfl,_⟩:=ha7 x hx
    rcases hf g hx with h2 | h2
    ·exact .inr (.inr ⟨_,h2,rfl⟩)
    ·exact absurd hb (by show ¬ g < _;omega)
 ·intro g hg7
  rcases hf g hg7 with h2 | h2
  ·exact h.ne g h2
  ·exact ⟨fun e=>by have:=(Zbr h.us e).2;omega,fun e=>by have:=(Zbr h.gr e).2;omega⟩
end
set_option maxRecDepth 100000 in
set_option maxHeartbeats 6400000 in
theorem Zqx (a:Option Addr) (cap:Nat) (B:List Nat) (at_:Nat) (w:World) (hr:RowB w a cap (bitL B)) (hl:B.length <= 1000) (ha:at_ <= nb B) :
  Calls Tryz.prog 88 #[.slice a (bitL B).length cap,.int .i64 (at_:Nat)] w fun e w'=>Below w.heap.size w w' /\ Out26 w.heap.size (nb B) (headG B at_) e w':=by
 have hll:(bitL B).length = nb B:=Zbo B
 have HG:=Zh (Zmd a cap B hl)
 have HV:=Zh (show ∀ at_ t A,RowB A a cap (bitL B) -> at_ <= nb B -> 2 <= t -> t <= 6 -> Calls Tryz.prog 136 #[.slice a (bitL B).length cap,.int .i64 (at_:Nat),.int .i64 (t:Nat)] A fun e w'=>Below A.heap.size A w' /\ Out24 A.heap.size (nb B) (selG B at_ t) e w' from fun at_ t A h ha h2 h6=>Zup a cap B at_ t A h hl ha h2 h6)
 have HLN:=Zh (show ∀ at_ n A,RowB A a cap (bitL B) -> at_ <= nb B -> n <= 258 -> Calls Tryz.prog 137 #[.slice a (bitL B).length cap,.int .i64 (at_:Nat),.int .i64 (n:Nat)] A fun e w'=>Below A.heap.size A w' /\ Out23 A.heap.size (nb B) (lenG B at_ n) e w' from fun at_ n A h ha hn=>Zuo a cap B at_ n A h hl ha hn)
 have HP:=Zh (show ∀ at_ A,RowB A a cap (bitL B) -> at_ <= nb B -> Calls Tryz.prog 135 #[.slice a (bitL B).length cap,.int .i64 (at_:Nat)] A fun e w'=>Below A.heap.size A w' /\ Out23 A.heap.size (nb B) (pickG B at_) e w' from fun at_ A h ha=>Zum a cap B at_ A h hl ha)
 obtain ⟨R,hR⟩:∃ R,R = headG B at_:=⟨_,rfl⟩
 rw [<- hR]
 have HF0:Hid (R = (numG B at_ 32).bind fun s=>hd1 B s.1 s.2):=hR
 have HR:=Zh hr
 obtain ⟨q,hq⟩:∃ q,w.heap.size = q:=⟨_,rfl⟩
 rw [hq]
 have HQ:=Zh hq
 have hn8l:nb B <= 8000:=by unfold nb;omega
 rw [hll] at HG HP HV HLN ⊢
 generalize hn8:nb B = n8 at *
 have HN8:=Zh hn8
 clear hn8
 have HA:=Zh ha
 generalize hBL:bitL B = BL at *
 obtain ⟨W,hW⟩:∃ W,W = (w.alloc (.cells #[.int .u32 0,.bool false,.int .i64 0,.slice none 0 0,.slice none 0 0,.slice none 0 0] 145)).alloc (.cells #[.int .u32 0,.bool false,.int .i64 0,.slice none 0 0,.slice none 0 0,.slice none 0 0] 145):=⟨_,rfl⟩
 have HS0:Hid (Six q W (.int .u32 0) (.bool false) (.int .i64 0) (.slice none 0 0) (.slice none 0 0) (.slice none 0 0)):=by unfold Hid Six;rw [hW,<- hq];exact Zmt _ _ (by simp)
 have HS1:Hid (Six (q + 1) W (.int .u32 0) (.bool false) (.int .i64 0) (.slice none 0 0) (.slice none 0 0) (.slice none 0 0)):=by unfold Hid Six;rw [hW,<- hq];exact Zcl _ _ (by simp)
 have HB0:Hid (Below q w W):=by rw [hW,<- hq];exact (Zai w _).trans ((Zai _ _).mono (by simp))
 have HW:=Zh hW
 clear hr hq hBL hl hll hR ha hW
 go_enter Tryz.func88,Tryz.ntmps88
 go_wp2_with fail
 rw [<- HW.out,HQ.out]
 refine (HG.out 32 _ _ (HR.out.below (HQ.out ▸ HB0.out)) HA.out (by decide)).mono ?_
 rintro e wz1 ⟨v1,at1,er1,rfl,rfl,hal1,hv1,hc1⟩
 have HC1:=Zh hc1
 have HAL1:=Zh hal1
 clear hc1 hal1
 go_wp2_with fail
 refine (HG.out 1 _ _ (HR.out.below (HQ.out ▸ HB0.out)) HAL1.out (by decide)).mono ?_
 rintro e wz2 ⟨v2,at2,er2,rfl,rfl,hal2,hv2,hc2⟩
 have HC2:=Zh hc2
 have HAL2:=Zh hal2
 clear hc2 hal2
 go_wp2_with fail
 refine (HG.out 24 _ _ (HR.out.below (HQ.out ▸ HB0.out)) HAL2.out (by decide)).mono ?_
 rintro e wz3 ⟨v3,at3,er3,rfl,rfl,hal3,hv3,hc3⟩
 have HC3:=Zh hc3
 have HAL3:=Zh hal3
 clear hc3 hal3
 rcases Zfu HN8.out HC1.out HF0.out with ⟨rfl,hF1⟩ | ⟨rfl,hF1⟩
 case inr =>
  have HFN:Hid (R = none):=hF1
  obtain ⟨c0,c1,c2,c3,c4,c5⟩:=Zaj HS1.out
  obtain ⟨d0,d1,d2,d3,d4,d5⟩:=Zaj HS0.out
  obtain ⟨f0,f1,f2,f3,f4,f5⟩:=Zaq HS0.out
  go_wp2_with fail
  refine Zca HS0.out HB0.out _ _ _ _ _ _ rfl rfl rfl ?_
  rw [HFN.out]
  exact ⟨_,_,_,_,_,_,_,_,_,_,_,_,_,_,rfl,by decide⟩
 have HF1:=Zh hF1
 clear hF1
 rcases Zfu HN8.out HC2.out HF1.out with ⟨rfl,hF2⟩ | ⟨rfl,hF2⟩
 case inr =>
  have HFN:Hid (R = none):=hF2
  obtain ⟨c0,c1,c2,c3,c4,c5⟩:=Zaj HS1.out
  obtain ⟨d0,d1,d2,d3,d4,d5⟩:=Zaj HS0.out
  obtain ⟨f0,f1,f2,f3,f4,f5⟩:=Zaq HS0.out
  go_wp2_with fail
  refine Zca HS0.out HB0.out _ _ _ _ _ _ rfl rfl rfl ?_
  rw [HFN.out]
  exact ⟨_,_,_,_,_,_,_,_,_,_,_,_,_,_,rfl,by decide⟩
 have HF2:=Zh hF2
 clear hF2
 rcases Zfu HN8.out HC3.out HF2.out with ⟨rfl,hF3⟩ | ⟨rfl,hF3⟩
 case inr =>
  have HFN:Hid (R = none):=hF3
  obtain ⟨c0,c1,c2,c3,c4,c5⟩:=Zaj HS1.out
  obtain ⟨d0,d1,d2,d3,d4,d5⟩:=Zaj HS0.out
  obtain ⟨f0,f1,f2,f3,f4,f5⟩:=Zaq HS0.out
  go_wp2_with fail
  refine Zca HS0.out HB0.out _ _ _ _ _ _ rfl rfl rfl ?_
  rw [HFN.out]
  exact ⟨_,_,_,_,_,_,_,_,_,_,_,_,_,_,rfl,by decide⟩
 have HF3:=Zh hF3
 clear hF3
 have u3:IntKind.i64.wrap (v3:Int) = (v3:Int):=IntWalk.i64_in _ (by omega)
 obtain ⟨b2,hb2⟩:∃ b2,(v2 == 1) = b2:=⟨_,rfl⟩
 have hb2i:((v2:Int) == 1) = b2:=by
  rw [<- hb2]
  by_cases h:v2 = 1
  ·subst h;rfl
  ·rw [beq_eq_false_iff_ne.2 h];exact beq_eq_false_iff_ne.2 (by omega)
 have HB2:=Zh hb2
 clear hb2
 obtain ⟨c0,c1,c2,c3,c4,c5⟩:=Zaj HS1.out
 obtain ⟨f0,f1,f2,f3,f4,f5⟩:=Zaq HS1.out
 go_wp2_with fail
 clear c0 c1 c2 c3 c4 c5 f0 f1 f2 f3 f4 f5
 have HSa:=Zh (Zaan HS1.out (.int .u32 (v1:Nat)) (.bool b2) (.int .i64 (v3:Nat)))
 have HSb:=Zh (Zrd (c:=q + 1) (i:=2) (Zrd (c:=q + 1) (i:=1) (Zrd (c:=q + 1) (i:=0) HS0.out (by omega) (.int .u32 (v1:Nat))) (by omega) (.bool b2)) (by omega) (.int .i64 (v3:Nat)))
 have HBa:=Zh (((HB0.out.setCell (p:=⟨q + 1,0,none⟩) (Nat.le_succ q) (.int .u32 (v1:Nat))).setCell (p:=⟨q + 1,1,none⟩) (Nat.le_succ q) (.bool b2)).setCell (p:=⟨q + 1,2,none⟩) (Nat.le_succ q) (.int .i64 (v3:Nat)))
 generalize ((wz3.setCell ⟨q + 1,0,none⟩ (.int .u32 (v1:Nat))).setCell ⟨q + 1,1,none⟩ (.bool b2)).setCell ⟨q + 1,2,none⟩ (.int .i64 (v3:Nat)) = W1 at *
 clear HS0 HS1 HB0 HF0 HF1 HF2 HC1 HC2 HC3 HW
 refine (HP.out _ _ (HR.out.below (HQ.out ▸ HBa.out)) HAL3.out).mono ?_
 rintro e w4 ⟨hb4,ho4⟩
 have hq4:q <= W1.heap.size:=by have:=HBa.out.size;have:=HQ.out;omega
 have HS0:=Zh (HSb.out.below hb4)
 have HS1:=Zh (HSa.out.below hb4)
 have HB0:=Zh (HBa.out.trans (hb4.mono hq4))
 have HF4:Hid (R = (pickG B at3).bind fun u=>hd4 B v1 v2 v3 u.1 u.2):=HF3.out
 have HSZ:Hid (Six (q + 1) W1 _ _ _ _ _ _):=HSa
 clear HSa HSb HBa HF3 hb4
 cases hpk:pickG B at3 with
 | none =>
  rw [hpk] at ho4 HF4
  obtain ⟨m4,rfl⟩:=ho4
  have HFN:Hid (R = none):=HF4.out
  obtain ⟨c0,c1,c2,c3,c4,c5⟩:=Zaj HS1.out
  obtain ⟨d0,d1,d2,d3,d4,d5⟩:=Zaj HS0.out
  obtain ⟨f0,f1,f2,f3,f4,f5⟩:=Zaq HS0.out
  go_wp2_with fail
  refine Zca HS0.out HB0.out _ _ _ _ _ _ rfl rfl rfl ?_
  rw [HFN.out]
  exact ⟨_,_,_,_,_,_,_,_,_,_,_,_,_,_,rfl,by decide⟩
 | some p4 =>
  obtain ⟨used,at4⟩:=p4
  rw [hpk] at ho4 HF4
  obtain ⟨ua,uc,rfl,hown4,hal4⟩:=ho4
  have HF5:Hid (R = hd4 B v1 v2 v3 used at4):=HF4.out
  have HU6:=Zh (Zhv hpk).2.2.1
  have HU:=Zh (hown4.mono (lt_of_block HSZ.out))
  have HAL4:=Zh hal4
  clear hown4 hal4 hpk HF4
  obtain ⟨c0,c1,c2,c3,c4,c5⟩:=Zaj HS1.out
  obtain ⟨f0,f1,f2,f3,f4,f5⟩:=Zaq HS1.out
  go_wp2_with fail
  clear c0 c1 c2 c3 c4 c5 f0 f1 f2 f3 f4 f5
  have HSa:=Zh (Zacb HS1.out (.slice ua used.length uc))
  have HSb:=Zh (Zrd (c:=q + 1) (i:=3) HS0.out (by omega) (.slice ua used.length uc))
  have HBa:=Zh (HB0.out.setCell (p:=⟨q + 1,3,none⟩) (Nat.le_succ q) (.slice ua used.length uc))
  have HUa:=Zh (HU.out.other (p:=⟨q + 1,3,none⟩) (fun g hg=>by rcases HU.out.form with ⟨h,_⟩ | ⟨g2,h,h2,_⟩ <;> rw [h] at hg <;> cases hg;show q + 1 ≠ g;omega) (.slice ua used.length uc))
  generalize w4.setCell ⟨q + 1,3,none⟩ (.slice ua used.length uc) = W4 at *
  clear HS0 HS1 HB0 HU HSZ
  refine (HG.out 3 _ _ (HR.out.below (HQ.out ▸ HBa.out)) HAL4.out (by decide)).mono ?_
  rintro e wz5 ⟨v5,at5,er5,rfl,rfl,hal5,hv5,hc5⟩
  have HC5:=Zh hc5
  have HAL5:=Zh hal5
  clear hc5 hal5
  have HS0:=HSb
  have HS1:=HSa
  have HB0:=HBa
  rcases Zfu HN8.out HC5.out (show R = (numG B at4 3).bind fun mn=>hd5 B v1 v2 v3 used mn.1 mn.2 from HF5.out) with ⟨rfl,hF6⟩ | ⟨rfl,hF6⟩
  case inr =>
   have HFN:Hid (R = none):=hF6
   obtain ⟨c0,c1,c2,c3,c4,c5⟩:=Zaj HS1.out
   obtain ⟨d0,d1,d2,d3,d4,d5⟩:=Zaj HS0.out
   obtain ⟨f0,f1,f2,f3,f4,f5⟩:=Zaq HS0.out
   go_wp2_with fail
   refine Zca HS0.out HB0.out _ _ _ _ _ _ rfl rfl rfl ?_
   rw [HFN.out]
   exact ⟨_,_,_,_,_,_,_,_,_,_,_,_,_,_,rfl,by decide⟩
  by_cases hmn:v5 < 2 \/ 6 < v5
  ·have HFN:Hid (R = none):=by unfold Hid;rw [hF6];unfold hd5;rw [if_pos hmn]
   rcases (show v5 < 2 \/ (6 < v5 /\ ¬ v5 < 2) by omega) with h | ⟨h,h2⟩
   ·have tm1:decide ((v5:Int) < 2) = true:=by simp;omega
    have tm2:decide ((6:Int) < (v5:Int)) = false:=by simp;omega
    clear h hmn hF6
    obtain ⟨c0,c1,c2,c3,c4,c5⟩:=Zaj HS1.out
    obtain ⟨d0,d1,d2,d3,d4,d5⟩:=Zaj HS0.out
    obtain ⟨f0,f1,f2,f3,f4,f5⟩:=Zaq HS0.out
    go_wp2_with fail
    refine Zca HS0.out HB0.out _ _ _ _ _ _ rfl rfl rfl ?_
    rw [HFN.out]
    exact ⟨_,_,_,_,_,_,_,_,_,_,_,_,_,_,rfl,by decide⟩
   ·have tm1:decide ((v5:Int) < 2) = false:=by simp;omega
    have tm2:decide ((6:Int) < (v5:Int)) = true:=by simp;omega
    clear h h2 hmn hF6
    obtain ⟨c0,c1,c2,c3,c4,c5⟩:=Zaj HS1.out
    obtain ⟨d0,d1,d2,d3,d4,d5⟩:=Zaj HS0.out
    obtain ⟨f0,f1,f2,f3,f4,f5⟩:=Zaq HS0.out
    go_wp2_with fail
    refine Zca HS0.out HB0.out _ _ _ _ _ _ rfl rfl rfl ?_
    rw [HFN.out]
    exact ⟨_,_,_,_,_,_,_,_,_,_,_,_,_,_,rfl,by decide⟩
  have tm1:decide ((v5:Int) < 2) = false:=by simp;omega
  have tm2:decide ((6:Int) < (v5:Int)) = false:=by simp;omega
  have HF7:Hid (R = (selG B at5 v5).bind fun g=>hd6 B v1 v2 v3 used v5 g.1 g.2):=by unfold Hid;rw [hF6];unfold hd5;rw [if_neg hmn]
  clear hF6
  go_wp2_with fail
  refine (HV.out _ _ _ (HR.out.below (HQ.out ▸ HB0.out)) HAL5.out (by omega) (by omega)).mono ?_
  rintro e w6 ⟨hb6,ho6⟩
  have hq5:q <= wz5.heap.size:=by have:=HB0.out.size;have:=HQ.out;omega
  have HSZ:=Zh (lt_of_block HS1.out)
  have HS0:=Zh (HS0.out.below hb6)
  have HS1:=Zh (HS1.out.below hb6)
  have HB0:=Zh (HB0.out.trans (hb6.mono hq5))
  have HU:=Zh (HUa.out.below hb6)
  clear HSa HSb HBa hb6 HUa HF5 HC5
  cases hse:selG B at5 v5 with
  | none =>
   rw [hse] at ho6 HF7
   obtain ⟨m6,rfl⟩:=ho6
   have HFN:Hid (R = none):=HF7.out
   obtain ⟨c0,c1,c2,c3,c4,c5⟩:=Zaj HS1.out
   obtain ⟨d0,d1,d2,d3,d4,d5⟩:=Zaj HS0.out
   obtain ⟨f0,f1,f2,f3,f4,f5⟩:=Zaq HS0.out
   go_wp2_with fail
   refine Zca HS0.out HB0.out _ _ _ _ _ _ rfl rfl rfl ?_
   rw [HFN.out]
   exact ⟨_,_,_,_,_,_,_,_,_,_,_,_,_,_,rfl,by decide⟩
  | some p6 =>
   obtain ⟨group,at6⟩:=p6
   rw [hse] at ho6 HF7
   obtain ⟨ga,gc,rfl,hown6,hal6⟩:=ho6
   have HF8:Hid (R = hd6 B v1 v2 v3 used v5 group at6):=HF7.out
   have HGR:=Zh (hown6.mono HSZ.out)
   have HAL6:=Zh hal6
   clear hown6 hal6 hse HF7
   obtain ⟨c0,c1,c2,c3,c4,c5⟩:=Zaj HS1.out
   obtain ⟨f0,f1,f2,f3,f4,f5⟩:=Zaq HS1.out
   go_wp2_with fail
   clear c0 c1 c2 c3 c4 c5 f0 f1 f2 f3 f4 f5
   have HSa:=Zh (Zacc HS1.out (.slice ga group.length gc))
   have HSb:=Zh (Zrd (c:=q + 1) (i:=4) HS0.out (by omega) (.slice ga group.length gc))
   have HBa:=Zh (HB0.out.setCell (p:=⟨q + 1,4,none⟩) (Nat.le_succ q) (.slice ga group.length gc))
   have HUa:=Zh (HU.out.other (p:=⟨q + 1,4,none⟩) (fun g hg=>by rcases HU.out.form with ⟨h,_⟩ | ⟨g2,h,h2,_⟩ <;> rw [h] at hg <;> cases hg;show q + 1 ≠ g;omega) (.slice ga group.length gc))
   have HGa:=Zh (HGR.out.other (p:=⟨q + 1,4,none⟩) (fun g hg=>by rcases HGR.out.form with ⟨h,_⟩ | ⟨g2,h,h2,_⟩ <;> rw [h] at hg <;> cases hg;show q + 1 ≠ g;omega) (.slice ga group.length gc))
   generalize w6.setCell ⟨q + 1,4,none⟩ (.slice ga group.length gc) = W6 at *
   clear HS0 HS1 HB0 HU HGR HSZ
   have HF9:Hid (R = (tabsL B (used.length + 2) (v5 - 0) at6 (([]:Ts).map fun t=>t.2.2)).bind (headK v1 v2 v3 used group)):=HF8.out
   clear HF8
   go_loopw [1,17] (fun av iv A=>∃ (i at2:Nat) (ts:Ts) (wg:Option Addr) (wc:Nat),i <= v5 /\ av = .int .i64 (at2:Nat) /\ iv = .int .i64 (i:Nat) /\ ts.length = i /\ Hid (at2 <= n8) /\ Hid (HeadR q A (.int .u32 (v1:Nat)) (.bool b2) (.int .i64 (v3:Nat)) (.slice ua used.length uc) (.slice ga group.length gc) ua uc used ga gc group wg wc ts) /\ Hid (Below q w A) /\ Hid (R = (tabsL B (used.length + 2) (v5 - i) at2 (ts.map fun t=>t.2.2)).bind (headK v1 v2 v3 used group))) (fun _ iv _=>v5 - (intOf iv).toNat)
   case atStart=>exact ⟨0,at6,[],none,0,Nat.zero_le _,rfl,rfl,rfl,HAL6.out,⟨HSb.out,HSa.out,OwnS.nil _ _ _ _,(fun t ht=>by cases ht),HUa.out,HGa.out,(fun g hg=>by cases hg)⟩,HBa.out,HF9.out⟩
   case round =>
    clear HAL6 HSa HSb HBa HUa HGa HF9
    obtain ⟨i,at2,ts,wg,wc,hi,rfl,rfl,htl,HAL,HH,HB0,HF⟩:=hrel
    by_cases hlt:i < v5
    case neg =>
     obtain rfl:i = v5:=by omega
     have t0:decide (i < i) = false:=by simp
     have HFS:Hid (R = some ⟨v1,v2,v3,used,group,ts.map fun t=>t.2.2,at2⟩):=by unfold Hid;rw [HF.out,Nat.sub_self];rfl
     obtain ⟨c0,c1,c2,c3,c4,c5⟩:=Zaj HH.out.s1
     obtain ⟨d0,d1,d2,d3,d4,d5⟩:=Zaj HH.out.s0
     obtain ⟨f0,f1,f2,f3,f4,f5⟩:=Zaq HH.out.s0
     have HTL:=Zh htl
     clear htl
     go_wp2_with fail
     refine Zca HH.out.s0 HB0.out _ _ _ _ _ _ rfl rfl rfl ?_
     rw [HFS.out]
     have hbq:∀ b,b ≠ q -> (set6 q wr (.int .u32 (v1:Nat)) (.bool b2) (.int .i64 (v3:Nat)) (.slice ua used.length uc) (.slice ga group.length gc) (.slice wg ts.length wc)).heap[b]? = wr.heap[b]?:=fun b hb=>by
      unfold set6
      rw [Below.heap_setCell _ _ _ _ hb,Below.heap_setCell _ _ _ _ hb,Below.heap_setCell _ _ _ _ hb,Below.heap_setCell _ _ _ _ hb,Below.heap_setCell _ _ _ _ hb,Below.heap_setCell _ _ _ _ hb]
     have hsz:wr.heap.size <= (set6 q wr (.int .u32 (v1:Nat)) (.bool b2) (.int .i64 (v3:Nat)) (.slice ua used.length uc) (.slice ga group.length gc) (.slice wg ts.length wc)).heap.size:=(Zjm _ _ _ _ _ _).size
     refine ⟨ua,uc,ga,gc,wg,wc,ts,?_,Zpc HH.out.us _ _ _ _ _ _,Zpc HH.out.gr _ _ _ _ _ _,rfl,?_,?_,HAL.out⟩
     ·rw [HB2.out,List.length_map]
     ·refine HH.out.ow.row.same hsz fun x h0 hx=>hbq _ ?_
      rcases HH.out.ow.form with ⟨h1,_⟩ | ⟨g2,h1,h2,_⟩ <;> rw [h1] at hx <;> cases hx
      show g2 ≠ q
      omega
     ·exact HH.out.tb.mv hsz (fun b _ hX=>hbq b (fun h=>hX (.inl h))) (fun b _ h=>h.elim)
    have t0:decide ((i:Int) < (v5:Int)) = true:=by simp;omega
    obtain ⟨m,hm⟩:∃ m,v5 - i = m + 1:=⟨v5 - i - 1,by omega⟩
    have HM:=Zh (show v5 - (i + 1) = m by omega)
    rw [hm] at HF
    have hi6:i < 6:=by omega
    have HTL:=Zh htl
    have HVI:Hid (i + 1 <= v5):=hlt
    clear hm htl hlt hi
    obtain ⟨k2,hk2⟩:∃ k2,used.length + 2 = k2:=⟨_,rfl⟩
    have uk:IntKind.i64.wrap ((used.length:Int) + 2) = (k2:Int):=by rw [IntWalk.i64_in _ (by have:=HU6.out;omega)];omega
    have HK2:=Zh (show k2 <= 258 by have:=HU6.out;omega)
    rw [hk2] at HF
    have HKE:=Zh hk2
    clear hk2
    go_wp2_with fail
    refine (HLN.out _ _ _ (HR.out.below (HQ.out ▸ HB0.out)) HAL.out HK2.out).mono ?_
    rintro e wl ⟨hbl,hol⟩
    have hql:q <= wr.heap.size:=by have:=HB0.out.size;have:=HQ.out;omega
    have HHl:=Zh (HH.out.below hbl)
    have HBl:=Zh (HB0.out.trans (hbl.mono hql))
    have HQR:=Zh hql
    have HSZ:=Zh hbl.size
    have HXW:=Zh HH.out.xw
    clear HH HB0 hbl hql
    cases hle:lenG B at2 k2 with
    | none =>
     rw [hle] at hol
     obtain ⟨m7,rfl⟩:=hol
     have HFN:Hid (R = none):=by unfold Hid;rw [HF.out,Zro _ _ _ _ _ hle];rfl
     have HS1:=Zh HHl.out.s1
     have HS0:=Zh HHl.out.s0
     have HB0:=HBl
     obtain ⟨c0,c1,c2,c3,c4,c5⟩:=Zaj HS1.out
     obtain ⟨d0,d1,d2,d3,d4,d5⟩:=Zaj HS0.out
     obtain ⟨f0,f1,f2,f3,f4,f5⟩:=Zaq HS0.out
     go_wp2_with fail
     refine Zca HS0.out HB0.out _ _ _ _ _ _ rfl rfl rfl ?_
     rw [HFN.out]
     exact ⟨_,_,_,_,_,_,_,_,_,_,_,_,_,_,rfl,by decide⟩
    | some pl =>
     obtain ⟨lens,at3⟩:=pl
     rw [hle] at hol
     obtain ⟨la,lc,rfl,hownl,hal7⟩:=hol
     have HLE:=Zh hle
     have HAL7:=Zh hal7
     have HRL:=Zh hownl.row
     clear hle hal7 hownl
     by_cases hbad:(wordsE lens).2 ≠ 0
     ·have HFN:Hid (R = none):=by unfold Hid;rw [HF.out,Zvs _ _ _ _ _ HLE.out hbad];rfl
      have HBD:=Zh (Zuh la lc lens wl HRL.out hbad)
      obtain ⟨er,her⟩:∃ er,(wordsE lens).2 = er:=⟨_,rfl⟩
      rw [her] at HBD hbad
      have t1:((er:Int) == 0) = false:=beq_eq_false_iff_ne.2 (by omega)
      clear her hbad
      go_wp2_with fail
      refine HBD.out.mono ?_
      rintro e wm ⟨rfl,hbm⟩
      have hqm:q <= wl.heap.size:=by have:=HQR.out;have:=HSZ.out;omega
      have HS1:=Zh (HHl.out.below hbm).s1
      have HS0:=Zh (HHl.out.below hbm).s0
      have HB0:=Zh (HBl.out.trans (hbm.mono hqm))
      clear HHl HBl hbm hqm HBD
      obtain ⟨c0,c1,c2,c3,c4,c5⟩:=Zaj HS1.out
      obtain ⟨d0,d1,d2,d3,d4,d5⟩:=Zaj HS0.out
      obtain ⟨f0,f1,f2,f3,f4,f5⟩:=Zaq HS0.out
      go_wp2_with fail
      refine Zca HS0.out HB0.out _ _ _ _ _ _ rfl rfl rfl ?_
      rw [HFN.out]
      exact ⟨_,_,_,_,_,_,_,_,_,_,_,_,_,_,rfl,by decide⟩
     have hgood:(wordsE lens).2 = 0:=by omega
     have HF10:Hid (R = (tabsL B k2 m at3 ((ts.map fun t=>t.2.2) ++ [lens])).bind (headK v1 v2 v3 used group)):=by unfold Hid;rw [HF.out,Zrp _ _ _ _ _ HLE.out hgood]
     obtain ⟨hmay,hwt⟩:=Zwc hgood
     have HMY:=Zh hmay
     have HWT:=Zh hwt
     clear hbad hgood hmay hwt HF HLE
     go_wp2_with fail
     refine (Znx la lc lens wl HRL.out HMY.out HWT.out).mono ?_
     rintro e wm ⟨g,c,es,rfl,hrs,hrt,hbm,hgl,hes⟩
     have hqm:q <= wl.heap.size:=by have:=HQR.out;have:=HSZ.out;omega
     have HH:=Zh (HHl.out.below hbm)
     have HB0:=Zh (HBl.out.trans (hbm.mono hqm))
     have HTA:Hid (TabAt wm (XW q wg) (g,c,lens)):=TabAt.of HMY.out HWT.out hrs hrt hgl hes (fun b hX=>Nat.lt_of_lt_of_le (HXW.out b hX) HSZ.out)
     have HQM:Hid (q + 2 <= wm.heap.size):=Nat.succ_le_of_lt (lt_of_block (HHl.out.below hbm).s1)
     have HTL2:=Zh HTL.out
     clear HHl HBl hbm hqm hrs hrt hgl hes HRL HMY HWT HXW
     obtain ⟨c0,c1,c2,c3,c4,c5⟩:=Zaj HH.out.s1
     obtain ⟨f0,f1,f2,f3,f4,f5⟩:=Zaq HH.out.s1
     have hts:ts.length < 6:=by have:=HTL.out;omega
     have HTS:=Zh hts
     clear hts
     go_wp2_with (at_builtin;refine app1SAt (cs:=#[.slice g lens.length c]) Zvr rfl (.tmp 144) (.tmp 146) rfl (g,c,lens) rfl HH.out.ow rfl rfl (by omega) (by omega) (by have:=HTS.out;omega) (by have:=HTS.out;omega) HQM.out ?_;intro a7 c7 w7 hown7 hb7 hg7 hf7;have HOW7:=Zh hown7;have HB7:=Zh (hb7.mono (show q <= q + 2 by omega));have HG7:=Zh hg7;have HF7:=Zh hf7;obtain ⟨d0,d1,d2,d3,d4,d5⟩:=Zaj (HH.out.six7 hg7);obtain ⟨e0,e1,e2,e3,e4,e5⟩:=Zaq (HH.out.six7 hg7);clear hown7 hb7 hg7 hf7 c0 c1 c2 c3 c4 c5 f0 f1 f2 f3 f4 f5)
     go_roundw
     case rel =>
      refine ⟨i + 1,at3,ts ++ [(g,c,lens)],a7,c7,HVI.out,by trivial,by go_num,by rw [List.length_append,HTL.out];rfl,HAL7.out,?_,(HB0.out.trans HB7.out).setCell (p:=⟨q + 1,5,none⟩) (Nat.le_succ q) _,?_⟩
      ·exact HH.out.next (a7:=(a7,c7)) HTA.out HG7.out HF7.out HOW7.out
      ·unfold Hid;rw [HM.out,HKE.out,List.map_append];exact HF10.out
     case measure=>simp [intOf];omega
end Go.Proofs.YtnkpnjnfddjfpaaGreat

namespace Go.Proofs.YtnkpnjnfddjfpaaGreat
open Go.RowKit M01 M02 M10 M27
def placesL:List Nat -> List Nat -> List Nat
 | l,[]=>[]
 | l,c :: r=>l.idxOf c :: placesL (toFront l (l.idxOf c)) r
theorem Zxl {l:List Nat} {c k:Nat} (hk:k < l.length) (h1:∀ j (h:j < l.length),j < k -> l[j] ≠ c) (h2:l[k] = c):l.idxOf c = k:=by
 unfold List.idxOf
 rw [List.findIdx_eq hk]
 exact ⟨by simpa using h2,fun j hj=>by simpa using h1 j (by omega) hj⟩
theorem Zff {l:List Nat} {k x:Nat} (hk:k < l.length) (h:x ∈ l):x ∈ toFront l k:=by
 unfold toFront
 have e:l = l.take k ++ l[k] :: l.drop (k + 1):=by rw [<- List.drop_eq_getElem_cons hk,List.take_append_drop]
 rw [e] at h
 rcases List.mem_append.1 h with h | h
 ·exact List.mem_cons.2 (.inr (List.mem_append.2 (.inl h)))
 ·rcases List.mem_cons.1 h with h | h
  ·refine List.mem_cons.2 (.inl ?_)
   rw [List.getD_eq_getElem?_getD,List.getElem?_eq_getElem hk];exact h
  ·exact List.mem_cons.2 (.inr (List.mem_append.2 (.inr h)))
theorem Zds:∀ (r l:List Nat),(placesL l r).length = r.length
 | [],l=>rfl
 | c :: r,l=>by unfold placesL;rw [List.length_cons,List.length_cons,Zds r]
set_option maxRecDepth 100000 in
set_option maxHeartbeats 3200000 in
theorem Zmi (ua ba:Option Addr) (uc bc:Nat) (used bl:List Nat) (w:World) (hu:RowN .u8 w ua uc used) (hb:RowN .u8 w ba bc bl) (hin:∀ x ∈ bl,x ∈ used) (hul:used.length <= 256) (hbl:bl.length <= 1000000) (h256:∀ x ∈ used,x < 256) :
  Calls Tryz.prog 146 #[.slice ua used.length uc,.slice ba bl.length bc] w fun e w'=>∃ g c,e = .returned (.slice g bl.length c) /\ OwnN 3 .i64 w' w.heap.size g c (placesL used bl) /\ Below w.heap.size w w':=by
 have HB:=Zh hb
 have HIN:=Zh hin
 obtain ⟨q,hq⟩:∃ q,w.heap.size = q:=⟨_,rfl⟩
 have HQ:=Zh hq
 have HU:=Zh (hu.below (Zai w (.cells #[] 5)))
 have HBX:=Zh (Zai w (.cells #[] 5))
 obtain ⟨P,hP⟩:∃ P,P = placesL used bl:=⟨_,rfl⟩
 have HP0:Hid ([] ++ placesL used (bl.drop 0) = P):=hP.symm
 have HPE:=Zh hP
 rw [<- hP]
 obtain ⟨n,hn⟩:∃ n,bl.length = n:=⟨_,rfl⟩
 have HLN:=Zh hn
 have HPL:Hid (P.length = n):=by unfold Hid;rw [hP,Zds,hn]
 rw [hn] at hbl ⊢
 rw [hq] at HBX
 clear hb hin hu hq hP hn
 go_enter Tryz.func146,Tryz.ntmps146
 go_wp2_with (at_builtin;refine appAnyN Zaz rfl (.tmp 9) (.tmp 10) rfl (a:=some ⟨w.heap.size,0,none⟩) (cap:=0) (l:=[]) (ys:=used) (base:=w.heap.size) rfl (OwnN.lit0 _ _ _ _ (Nat.le_refl _)) rfl rfl HU.out (by simp;omega) (by simp;omega) (by simp) ?_;intro a1 c1 w1 hown1 hg1 hb1;simp only [List.nil_append] at hown1;simp only [List.length_nil,Nat.zero_add];have HO1:=Zh hown1;have HB1:=Zh ((Zai w _).trans hb1);clear hown1 hg1 hb1)
 go_loopw [5,6,7] (fun lv ov iv A=>∃ (i:Nat) (lg:Option Addr) (lc:Nat) (fl:List Nat) (og:Option Addr) (oc:Nat) (o:List Nat),i <= n /\ iv = .int .i64 (i:Nat) /\ lv = .slice lg fl.length lc /\ ov = .slice og o.length oc /\ Hid (fl.length = used.length) /\ Hid (o.length = i) /\ Hid (∀ x ∈ bl,x ∈ fl) /\ Hid (OwnN 5 .u8 A q lg lc fl) /\ Hid (OwnN 3 .i64 A q og oc o) /\ Hid (∀ g,lg = some ⟨g,0,none⟩ -> og ≠ some ⟨g,0,none⟩) /\ Hid (Below q w A) /\ Hid (o ++ placesL fl (bl.drop i) = P)) (fun _ _ iv _=>n - (intOf iv).toNat)
 case atStart=>exact ⟨0,a1,c1,used,none,0,[],Nat.zero_le _,rfl,rfl,rfl,rfl,rfl,HIN.out,by rw [<- HQ.out];exact HO1.out,OwnN.nil _ _ _ _,(fun g _ h=>by cases h),by rw [<- HQ.out];exact HB1.out,HP0.out⟩
 case round =>
  clear HO1 HB1 HP0
  obtain ⟨i,lg,lc,fl,og,oc,o,hi,rfl,rfl,rfl,HFL,HOL,HFI,HL,HO,HNE,HE,HF⟩:=hrel
  generalize wr = W at *
  by_cases hlt:i < n
  case neg =>
   obtain rfl:i = n:=by omega
   have t0:decide (i < i) = false:=by simp
   go_wp2_with fail
   go_ret
   have he:o = P:=by have:=HF.out;rw [List.drop_eq_nil_of_le (by rw [HLN.out];exact Nat.le_refl _)] at this;simpa [placesL] using this
   rw [HQ.out]
   exact ⟨og,oc,by rw [HOL.out];rfl,by rw [<- he];exact HO.out,HE.out⟩
  have t0:decide ((i:Int) < (n:Int)) = true:=by simp;omega
  have hil:i < bl.length:=by rw [HLN.out];exact hlt
  obtain ⟨bb,boff,rfl,hbb,hbc⟩:=(HB.out.below (HQ.out ▸ HE.out)).at hil
  have hcf:=HFI.out _ (List.getElem_mem hil)
  have HDR:Hid (bl.drop i = bl[i] :: bl.drop (i + 1)):=List.drop_eq_getElem_cons hil
  generalize bl[i] = c at *
  have hio:fl.idxOf c < fl.length:=List.idxOf_lt_length_of_mem hcf
  have HIO:=Zh hio
  have HFLL:Hid (fl.length <= 256):=by have:=HFL.out;unfold Hid;omega
  clear hio hcf
  go_wp2_with fail
  go_loopw [8] (fun kv A=>∃ (k m:Nat),k < fl.length /\ kv = .int .i64 (k:Nat) /\ A = W.drewN m /\ Hid (∀ j (h:j < fl.length),j < k -> fl[j] ≠ c)) (fun kv _=>fl.length - (intOf kv).toNat)
  case atStart=>exact ⟨0,0,by have:=HIO.out;omega,rfl,rfl,fun j _ h=>absurd h (Nat.not_lt_zero j)⟩
  case round =>
   obtain ⟨k,m,hk,rfl,hwx,HNO⟩:=hrel
   subst hwx
   obtain ⟨gl,hlg,_,_,hlc,_⟩:=HL.out.at hk
   subst hlg
   have hbc2:(W.drewN m).cell? ⟨bb,boff + i,none⟩ = some (.int .u8 (c:Nat)):=hbc
   by_cases hc:fl[k] = c
   ·have t2:((fl[k]:Int) == (c:Int)) = true:=beq_iff_eq.2 (by omega)
    have t3:((fl[k]:Int) != (c:Int)) = false:=by rw [hc];simp
    have HIX:Hid (fl.idxOf c = k):=Zxl hk (fun j h hj=>HNO.out j h hj) hc
    generalize fl[k] = v at *
    clear HNO hc
    have hik:(i:Int) < (n:Int):=by omega
    have hkk:(k:Int) < (fl.length:Int):=by omega
    go_wp2_with fail
    go_quiet (fail)
    have HLX:=Zh (show OwnN 5 .u8 ((W.drewN m).drewN nq) q _ lc fl from HL.out)
    have HOX:=Zh (show OwnN 3 .i64 ((W.drewN m).drewN nq) q og oc o from HO.out)
    have HEX:=Zh (belDN (belDN HE.out m) nq)
    clear hbc hbc2 hlc
    simp only [World.drewN_drewN] at HLX HOX HEX ⊢
    generalize W.drewN (m + nq) = wx at *
    have HQX:Hid (q <= wx.heap.size):=by have:=HEX.out.size;have:=HQ.out;unfold Hid;omega
    have hol:o.length <= 1000000:=by have:=HOL.out;omega
    have HKF:=Zh hk
    go_wp2_with (at_builtin;refine app1At (y:=k) Zax rfl (.tmp 29) (.tmp 31) rfl rfl HOX.out rfl (by omega) (by omega) (by omega) (by omega) HQX.out ?_;intro a7 c7 w7 hown7 hg7 hb7 hf7;have HO7:=Zh hown7;have HB7:=Zh hb7;have HL7:=Zh (HLX.out.kept hg7 (fun g hg e=>HNE.out g hg (Zcc HOX.out e)));clear hown7 hg7 hb7 hf7)
    refine (Zir _ lc fl k w7 HL7.out.row HKF.out (by have:=HFLL.out;omega)).mono ?_
    rintro e w8 ⟨ng,nc,rfl,hmo,hb8⟩
    have HQ7:Hid (q <= w7.heap.size):=by have:=HB7.out.size;have:=HQX.out;unfold Hid;omega
    have HO8:=Zh (HO7.out.below hb8)
    have HL8:=Zh (hmo.mono HQ7.out)
    have HE8:=Zh ((HEX.out.trans HB7.out).trans (hb8.mono HQ7.out))
    have hne8:∀ g,ng = some ⟨g,0,none⟩ -> a7 ≠ some ⟨g,0,none⟩:=fun g hg e=>by
     have h1:=(Zbr hmo hg).1
     have h2:=(Zbr HO7.out e).2
     omega
    have HNE8:=Zh hne8
    have HF8:Hid ((o ++ [k]) ++ placesL (toFront fl k) (bl.drop (i + 1)) = P):=by
     have h:=HF.out
     rw [HDR.out,placesL,HIX.out] at h
     unfold Hid
     rw [List.append_assoc]
     exact h
    clear hmo hb8 hne8
    go_wp2_with fail
    go_roundw
    case rel =>
     refine ⟨i + 1,ng,nc,toFront fl k,a7,c7,o ++ [k],by omega,by go_num,?_,by rw [List.length_append];rfl,?_,(by unfold Hid;rw [List.length_append,HOL.out];rfl),fun x hx=>Zff HKF.out (HFI.out x hx),HL8.out,HO8.out,HNE8.out,HE8.out,HF8.out⟩
     ·rw [Zay HKF.out]
     ·unfold Hid;rw [Zay HKF.out];exact HFL.out
    case measure=>simp [intOf];omega
   ·have t2:((fl[k]:Int) == (c:Int)) = false:=beq_eq_false_iff_ne.2 (by omega)
    have t3:((fl[k]:Int) != (c:Int)) = true:=by simp;omega
    have hk1:k + 1 < fl.length:=by
     rcases Nat.lt_or_ge (k + 1) fl.length with h | h
     ·exact h
     ·exfalso
      have h3:=HIO.out
      have h4:fl[fl.idxOf c] = c:=List.getElem_idxOf h3
      rcases Nat.lt_or_ge (fl.idxOf c) k with h5 | h5
      ·exact HNO.out _ h3 h5 h4
      ·have h6:fl.idxOf c = k:=by omega
       simp only [h6] at h4
       exact hc h4
    have HNO2:Hid (∀ j (h:j < fl.length),j < k + 1 -> fl[j] ≠ c):=fun j h hj=>by
     rcases Nat.lt_or_ge j k with h2 | h2
     ·exact HNO.out j h h2
     ·obtain rfl:j = k:=by omega
      exact hc
    generalize fl[k] = v at *
    clear HNO hc
    have hik:(i:Int) < (n:Int):=by omega
    have hkk:(k:Int) < (fl.length:Int):=by omega
    have hfl2:=HFLL.out
    have uk1:wrap64 ((k:Int) + 1) = (k:Int) + 1:=IntWalk.wrap64_in _ (by omega)
    go_wp2_with fail
    go_quiet (fail)
    clear hbc hbc2 hlc t2 t3 hik hkk
    clear uk1
    simp only [World.drewN_drewN]
    go_wp2_with fail
    go_roundw
    case rel=>exact ⟨k + 1,m + nq,hk1,by go_num,by first | with_reducible rfl | exact World.drewN_drewN,HNO2.out⟩
    case measure=>simp [intOf];omega
end Go.Proofs.YtnkpnjnfddjfpaaGreat

namespace Go.Proofs.YtnkpnjnfddjfpaaGreat
open Go.RowKit M01 M02 M10 M27
def digL:Nat -> Nat -> List Nat
 | 0,_=>[]
 | f + 1,n=>if n = 0 then [] else if n % 2 = 1 then 0 :: digL f ((n - 1) / 2) else 1 :: digL f ((n - 2) / 2)
def digG (n:Nat):List Nat:=digL n n
theorem Zfo (f:Nat):digL f 0 = []:=by cases f <;> simp [digL]
theorem Zfn:∀ f g n,n <= f -> n <= g -> digL f n = digL g n
 | 0,g,n,h,_=>by
  obtain rfl:n = 0:=by omega
  rw [Zfo,Zfo]
 | f + 1,0,n,_,h=>by
  obtain rfl:n = 0:=by omega
  rw [Zfo,Zfo]
 | f + 1,g + 1,n,h1,h2=>by
  unfold digL
  by_cases h0:n = 0
  ·rw [if_pos h0,if_pos h0]
  ·rw [if_neg h0,if_neg h0,Zfn f g ((n - 1) / 2) (by omega) (by omega),Zfn f g ((n - 2) / 2) (by omega) (by omega)]
theorem Zxa {n:Nat} (h0:n ≠ 0) (h:n % 2 = 1):digG n = 0 :: digG ((n - 1) / 2):=by
 obtain ⟨m,rfl⟩:∃ m,n = m + 1:=⟨n - 1,by omega⟩
 conv=>lhs;unfold digG digL
 rw [if_neg h0,if_pos h]
 unfold digG
 rw [Zfn m _ _ (by omega) (Nat.le_refl _)]
theorem Zst {n:Nat} (h0:n ≠ 0) (h:¬ n % 2 = 1):digG n = 1 :: digG ((n - 2) / 2):=by
 obtain ⟨m,rfl⟩:∃ m,n = m + 1:=⟨n - 1,by omega⟩
 conv=>lhs;unfold digG digL
 rw [if_neg h0,if_neg h]
 unfold digG
 rw [Zfn m _ _ (by omega) (Nat.le_refl _)]
theorem Zfm:∀ f n,(digL f n).length <= n
 | 0,n=>by simp [digL]
 | f + 1,n=>by
  unfold digL
  by_cases h0:n = 0
  ·rw [if_pos h0];simp
  ·rw [if_neg h0]
   split
   ·rw [List.length_cons];have:=Zfm f ((n - 1) / 2);omega
   ·rw [List.length_cons];have:=Zfm f ((n - 2) / 2);omega
theorem Zko:∀ f n,∀ x ∈ digL f n,x <= 1
 | 0,n,x,h=>by simp [digL] at h
 | f + 1,n,x,h=>by
  unfold digL at h
  split at h
  ·cases h
  ·split at h
   ·rcases List.mem_cons.1 h with h | h
    ·omega
    ·exact Zko f _ x h
   ·rcases List.mem_cons.1 h with h | h
    ·omega
    ·exact Zko f _ x h
set_option maxRecDepth 100000 in
set_option maxHeartbeats 1600000 in
theorem Zhh (n:Nat) (w:World) (hn:n <= 1000000) :
  Calls Tryz.prog 147 #[.int .i64 (n:Nat)] w fun e w'=>∃ g c,e = .returned (.slice g (digG n).length c) /\ OwnN 3 .i64 w' w.heap.size g c (digG n) /\ Below w.heap.size w w':=by
 obtain ⟨P,hP⟩:∃ P,P = digG n:=⟨_,rfl⟩
 have HP0:Hid ([] ++ digG n = P):=hP.symm
 have HPL:Hid (P.length <= n):=by unfold Hid;rw [hP];exact Zfm n n
 rw [<- hP]
 have HNN:=Zh hn
 clear hP
 go_enter Tryz.func147,Tryz.ntmps147
 go_wp2_with fail
 go_loopw [0,3] (fun nv ov A=>∃ (k:Nat) (g:Option Addr) (c:Nat) (o:List Nat),nv = .int .i64 (k:Nat) /\ k <= n /\ ov = .slice g o.length c /\ Hid (OwnN 3 .i64 A w.heap.size g c o) /\ Hid (Below w.heap.size w A) /\ Hid (o ++ digG k = P)) (fun nv _ _=>(intOf nv).toNat)
 case atStart=>exact ⟨n,none,0,[],rfl,Nat.le_refl _,rfl,OwnN.nil _ _ _ _,Below.refl _ _,HP0.out⟩
 case round =>
  clear HP0
  obtain ⟨k,g,c,o,rfl,hk,rfl,HO,HE,HF⟩:=hrel
  by_cases h0:k = 0
  ·subst h0
   go_wp2_with fail
   go_ret
   have he:o = P:=by have:=HF.out;simpa [digG,digL] using this
   rw [<- he]
   exact ⟨g,c,rfl,HO.out,HE.out⟩
  have t0:decide ((0:Int) < (k:Int)) = true:=by simp;omega
  have t0':decide (0 < k) = true:=by simp;omega
  have HQ:Hid (w.heap.size <= wr.heap.size):=HE.out.size
  have hol:o.length <= 1000000:=by
   have h1:=congrArg List.length HF.out
   rw [List.length_append] at h1
   have:=HPL.out
   omega
  by_cases h1:k % 2 = 1
  ·have v1':(k:Int) % 2 = 1:=by omega
   obtain ⟨j,hj⟩:∃ j,(k - 1) / 2 = j:=⟨_,rfl⟩
   have v2:IntKind.i64.wrap ((k:Int) - 1) = ((k - 1:Nat):Int):=by rw [IntWalk.i64_in _ (by omega)];omega
   have v3:((k - 1:Nat):Int) / 2 = (j:Int):=by omega
   have HF2:Hid ((o ++ [0]) ++ digG j = P):=by have h:=HF.out;rw [Zxa h0 h1,hj] at h;unfold Hid;rw [List.append_assoc];exact h
   have hjk:j < k:=by omega
   clear hj h1 HF
   go_wp2_with (at_builtin;refine app1N (y:=0) Zax rfl (.tmp 9) (.tmp 10) rfl rfl HO.out rfl (by omega) (by omega) (by omega) (by omega) HQ.out ?_;intro a7 c7 w7 hown7 hg7 hb7;have HO7:=Zh hown7;have HB7:=Zh hb7;clear hown7 hg7 hb7)
   go_roundw
   case rel=>exact ⟨j,a7,c7,o ++ [0],by first | rfl | exact Zbg (by omega),by omega,by rw [List.length_append];rfl,HO7.out,HE.out.trans HB7.out,HF2.out⟩
   case measure=>simp [intOf];omega
  ·have v1':(k:Int) % 2 = 0:=by omega
   obtain ⟨j,hj⟩:∃ j,(k - 2) / 2 = j:=⟨_,rfl⟩
   have v2:IntKind.i64.wrap ((k:Int) - 2) = ((k - 2:Nat):Int):=by rw [IntWalk.i64_in _ (by omega)];omega
   have v3:((k - 2:Nat):Int) / 2 = (j:Int):=by omega
   have HF2:Hid ((o ++ [1]) ++ digG j = P):=by have h:=HF.out;rw [Zst h0 h1,hj] at h;unfold Hid;rw [List.append_assoc];exact h
   have hjk:j < k:=by omega
   clear hj h1 HF
   go_wp2_with (at_builtin;refine app1N (y:=1) Zax rfl (.tmp 15) (.tmp 16) rfl rfl HO.out rfl (by omega) (by omega) (by omega) (by omega) HQ.out ?_;intro a7 c7 w7 hown7 hg7 hb7;have HO7:=Zh hown7;have HB7:=Zh hb7;clear hown7 hg7 hb7)
   go_roundw
   case rel=>exact ⟨j,a7,c7,o ++ [1],by first | rfl | exact Zbg (by omega),by omega,by rw [List.length_append];rfl,HO7.out,HE.out.trans HB7.out,HF2.out⟩
   case measure=>simp [intOf];omega
def putS (e:Nat):List Nat -> Nat -> List Nat
 | [],run=>digG run ++ [e]
 | k :: r,run=>if k = 0 then putS e r (run + 1) else (digG run ++ [k + 1]) ++ putS e r 0
def fputG (b:List Nat):List Nat × List Nat:=(usedG b,putS ((usedG b).length + 1) (placesL (usedG b) b) 0)
theorem Zhw (e:Nat):∀ (l:List Nat) (run:Nat),(putS e l run).length <= l.length + run + 1
 | [],run=>by unfold putS;rw [List.length_append];have:=Zfm run run;unfold digG;simp;omega
 | k :: r,run=>by
  unfold putS
  split
  ·have:=Zhw e r (run + 1);rw [List.length_cons];omega
  ·have h1:=Zhw e r 0
   have h2:=Zfm run run
   rw [List.length_append,List.length_append,List.length_cons]
   unfold digG
   simp
   omega
theorem Zgv:∀ (r l:List Nat),∀ x ∈ placesL l r,x <= l.length + r.length
 | [],l,x,h=>by cases h
 | c :: r,l,x,h=>by
  unfold placesL at h
  have h1:l.idxOf c <= l.length:=List.idxOf_le_length
  rcases List.mem_cons.1 h with h | h
  ·rw [h,List.length_cons];omega
  ·have h2:=Zgv r _ x h
   have h3:(toFront l (l.idxOf c)).length <= l.length + 1:=by unfold toFront;simp;omega
   rw [List.length_cons]
   omega
theorem Zvw {l:List Nat} (h256:∀ x ∈ l,x < 256) {x:Nat} (h:x ∈ l):x ∈ usedG l:=by
 unfold usedG usedTo
 rw [List.mem_filter]
 exact ⟨List.mem_range.2 (h256 x h),by simpa using h⟩
theorem Zpm {l:List Nat} {x:Nat} (h:x ∈ usedG l):x < 256:=by
 unfold usedG usedTo at h
 rw [List.mem_filter] at h
 exact List.mem_range.1 h.1
set_option maxRecDepth 100000 in
set_option maxHeartbeats 3200000 in
theorem Zul (a:Option Addr) (cap:Nat) (b:List Nat) (w:World) (hr:RowN .u8 w a cap b) (h256:∀ x ∈ b,x < 256) (hl:b.length <= 100000) :
  Calls Tryz.prog 96 #[.slice a b.length cap] w fun e w'=>∃ ug uc sg sc,e = .returned (.tuple #[.slice ug (fputG b).1.length uc,.slice sg (fputG b).2.length sc]) /\ OwnN 5 .u8 w' w.heap.size ug uc (fputG b).1 /\ OwnN 3 .i64 w' w.heap.size sg sc (fputG b).2 /\ Below w.heap.size w w':=by
 have HUS:=Zh (Zqv a cap b w hr h256 (by omega))
 have hul:(usedG b).length <= 256:=Zgy b 256
 have HPC:=Zh (fun w1 ug uc (h1:RowN .u8 w1 ug uc (usedG b)) (h2:RowN .u8 w1 a cap b)=>Zmi ug a uc cap (usedG b) b w1 h1 h2 (fun x hx=>Zvw h256 hx) hul (by omega) (fun x hx=>Zpm hx))
 obtain ⟨q,hq⟩:∃ q,w.heap.size = q:=⟨_,rfl⟩
 have HQ:=Zh hq
 rw [hq] at HUS ⊢
 have HF1:Hid ((fputG b).1 = usedG b):=rfl
 obtain ⟨P,hP⟩:∃ P,(fputG b).2 = P:=⟨_,rfl⟩
 have HFP:=Zh hP
 have hP2:putS ((usedG b).length + 1) (placesL (usedG b) b) 0 = P:=hP
 generalize hu:usedG b = u at *
 have hpl:(placesL u b).length = b.length:=Zds b u
 have hple:=Zgv b u
 generalize hpc:placesL u b = pl at *
 obtain ⟨n,hn⟩:∃ n,b.length = n:=⟨_,rfl⟩
 rw [hn] at HUS HPC hpl hl ⊢
 have HPN:Hid (P.length <= n + 1):=by unfold Hid;rw [<- hP2];have:=Zhw (u.length + 1) pl 0;omega
 obtain ⟨e1,he1⟩:∃ e1,u.length + 1 = e1:=⟨_,rfl⟩
 rw [he1] at hP2
 have HE1:=Zh he1
 have HP0:Hid ([] ++ putS e1 (pl.drop 0) 0 = P):=hP2
 have HPL:=Zh hpl
 have HPLE:Hid (∀ x ∈ pl,x <= 200000):=fun x hx=>by have:=hple x hx;omega
 have HR:=Zh hr
 have hl2:=hl
 clear hr h256 hq hP hP2 hu hpc hn hpl he1 hl hple
 go_enter Tryz.func96,Tryz.ntmps96
 go_wp2_with fail
 refine HUS.out.mono ?_
 rintro e w1 ⟨ug,uc,rfl,hu1,hb1⟩
 have HU1:=Zh hu1
 have HB1:=Zh hb1
 have HQ1:Hid (q <= w1.heap.size):=by have:=hb1.size;have:=HQ.out;unfold Hid;omega
 go_wp2_with fail
 refine (HPC.out w1 ug uc hu1.row (HR.out.below (HQ.out ▸ hb1))).mono ?_
 rintro e w2 ⟨pg,pc,rfl,hp2,hb2⟩
 have HU2:=Zh (HU1.out.below hb2)
 have HB2:=Zh (HB1.out.trans (hb2.mono HQ1.out))
 have HP2:=Zh hp2.row
 have HQ2:Hid (q <= w2.heap.size):=by have:=hb2.size;have:=HQ1.out;unfold Hid;omega
 clear hu1 hb1 hp2 hb2 HU1 HB1 HPC HUS
 go_wp2_with fail
 go_loopw [6,7,8] (fun ov rv iv A=>∃ (i run:Nat) (og:Option Addr) (oc:Nat) (o:List Nat),i <= n /\ run <= i /\ iv = .int .i64 (i:Nat) /\ rv = .int .i64 (run:Nat) /\ ov = .slice og o.length oc /\ Hid (OwnN 3 .i64 A w2.heap.size og oc o) /\ Hid (Below w2.heap.size w2 A) /\ Hid (o ++ putS e1 (pl.drop i) run = P)) (fun _ _ iv _=>n - (intOf iv).toNat)
 case atStart=>exact ⟨0,0,none,0,[],Nat.zero_le _,Nat.le_refl _,rfl,rfl,rfl,OwnN.nil _ _ _ _,Below.refl _ _,HP0.out⟩
 case round =>
  clear HP0
  obtain ⟨i,run,og,oc,o,hi,hri,rfl,rfl,rfl,HO,HE,HF⟩:=hrel
  have HQW:Hid (w2.heap.size <= wr.heap.size):=HE.out.size
  by_cases hlt:i < n
  ·have t0:decide ((i:Int) < (n:Int)) = true:=by simp;omega
   have hip:i < pl.length:=by rw [HPL.out];exact hlt
   obtain ⟨gb,goff,rfl,hgb,hgc0⟩:=HP2.out.at hip
   have HGC:Hid (∀ A,Below w2.heap.size w2 A -> A.cell? ⟨gb,goff + i,none⟩ = some (.int .i64 (pl[i]:Nat))):=fun A hA=>(hA.cell (p:=⟨gb,goff + i,none⟩) hgb).trans hgc0
   have HDR:Hid (pl.drop i = pl[i] :: pl.drop (i + 1)):=List.drop_eq_getElem_cons hip
   have hkb:=HPLE.out _ (List.getElem_mem hip)
   generalize pl[i] = k at *
   have hgc:=HGC.out wr HE.out
   clear hgc0
   by_cases hk0:k = 0
   ·have t1:((k:Int) == 0) = true:=beq_iff_eq.2 (by omega)
    have HF2:Hid (o ++ putS e1 (pl.drop (i + 1)) (run + 1) = P):=by have h:=HF.out;rw [HDR.out,putS,if_pos hk0] at h;exact h
    clear hk0 HF
    go_wp2_with fail
    go_roundw
    case rel=>exact ⟨i + 1,run + 1,og,oc,o,hlt,by omega,by go_num,by go_num,by trivial,HO.out,HE.out,HF2.out⟩
    case measure=>simp [intOf];omega
   ·have t1:((k:Int) == 0) = false:=beq_eq_false_iff_ne.2 (by omega)
    have HF2:Hid (((o ++ digG run) ++ [k + 1]) ++ putS e1 (pl.drop (i + 1)) 0 = P):=by have h:=HF.out;rw [HDR.out,putS,if_neg hk0] at h;unfold Hid;simpa using h
    have hlen:o.length + (digG run).length + 1 <= 200000:=by
     have h1:=congrArg List.length HF2.out
     rw [List.length_append,List.length_append,List.length_append] at h1
     simp at h1
     have:=HPN.out
     omega
    have HDG:=Zh (Zhh run wr (by omega))
    generalize digG run = dg at *
    have HLE:=Zh hlen
    clear hk0 HF
    go_wp2_with fail
    refine HDG.out.mono ?_
    rintro e w3 ⟨dgg,dgc,rfl,hd3,hb3⟩
    have HO3:=Zh (HO.out.below hb3)
    have HE3:=Zh (HE.out.trans (hb3.mono HQW.out))
    have HD3:=Zh hd3.row
    have HQ3:Hid (w2.heap.size <= w3.heap.size):=HE3.out.size
    have hl4:o.length + dg.length <= 200000:=by have:=HLE.out;omega
    clear hd3 hb3 HDG
    obtain ⟨k1,hk1⟩:∃ k1,k + 1 = k1:=⟨_,rfl⟩
    rw [hk1] at HF2
    have u5:IntKind.i64.wrap ((k:Int) + 1) = (k1:Int):=by rw [IntWalk.i64_in _ (by omega)];omega
    clear hk1
    go_wp2_with (first | (at_builtin;refine appAnyN Zax rfl (.tmp 27) (.tmp 29) rfl rfl HO3.out rfl rfl HD3.out (by omega) (by omega) HQ3.out ?_;intro a4 c4 w4 hown4 hg4 hb4;have HO4:=Zh hown4;have HE4:=Zh (HE3.out.trans hb4);have hgc4:=HGC.out w4 (HE3.out.trans hb4);have HQ4:=Zh (HE3.out.trans hb4).size;clear hown4 hg4 hb4) | (at_builtin;refine app1N (y:=k1) Zax rfl (.tmp 31) (.tmp 37) rfl (show _ = Value.slice a4 (o ++ dg).length c4 by rw [List.length_append];rfl) HO4.out rfl (by omega) (by omega) (by rw [List.length_append];omega) (by rw [List.length_append];omega) HQ4.out ?_;intro a5 c5 w5 hown5 hg5 hb5;have HO5:=Zh hown5;have HE5:=Zh (HE4.out.trans hb5);clear hown5 hg5 hb5))
    go_roundw
    case rel=>exact ⟨i + 1,0,a5,c5,(o ++ dg) ++ [k1],hlt,Nat.zero_le _,by go_num,by trivial,by rw [List.length_append,List.length_append];rfl,HO5.out,HE5.out,HF2.out⟩
    case measure=>simp [intOf];omega
  ·obtain rfl:i = n:=by omega
   have t0:decide (i < i) = false:=by simp
   have HF2:Hid ((o ++ digG run) ++ [e1] = P):=by
    have h:=HF.out
    rw [List.drop_eq_nil_of_le (by rw [HPL.out];exact Nat.le_refl _),putS] at h
    unfold Hid
    simpa using h
   have hlen:o.length + (digG run).length + 1 <= 200000:=by
    have h1:=congrArg List.length HF2.out
    rw [List.length_append,List.length_append] at h1
    simp at h1
    have:=HPN.out
    omega
   have HDG:=Zh (Zhh run wr (by omega))
   generalize digG run = dg at *
   have HLE:=Zh hlen
   clear HF
   go_wp2_with fail
   refine HDG.out.mono ?_
   rintro e w3 ⟨dgg,dgc,rfl,hd3,hb3⟩
   have HO3:=Zh (HO.out.below hb3)
   have HE3:=Zh (HE.out.trans (hb3.mono HQW.out))
   have HD3:=Zh hd3.row
   have HQ3:Hid (w2.heap.size <= w3.heap.size):=HE3.out.size
   have hl4:o.length + dg.length <= 200000:=by have:=HLE.out;omega
   have u5:IntKind.i64.wrap ((u.length:Int) + 1) = (e1:Int):=by rw [IntWalk.i64_in _ (by omega)];have:=HE1.out;omega
   clear hd3 hb3 HDG
   go_wp2_with (first | (at_builtin;refine appAnyN Zax rfl (.tmp 39) (.tmp 41) rfl rfl HO3.out rfl rfl HD3.out (by omega) (by omega) HQ3.out ?_;intro a4 c4 w4 hown4 hg4 hb4;have HO4:=Zh hown4;have HE4:=Zh (HE3.out.trans hb4);have HQ4:=Zh (HE3.out.trans hb4).size;clear hown4 hg4 hb4) | (at_builtin;refine app1N (y:=e1) Zax rfl (.tmp 44) (.tmp 48) rfl (show _ = Value.slice a4 (o ++ dg).length c4 by rw [List.length_append];rfl) HO4.out rfl (by omega) (by omega) (by rw [List.length_append];omega) (by rw [List.length_append];omega) HQ4.out ?_;intro a5 c5 w5 hown5 hg5 hb5;have HO5:=Zh hown5;have HE5:=Zh (HE4.out.trans hb5);clear hown5 hg5 hb5))
   go_ret2
   rw [HF1.out,HFP.out]
   have hP:(o ++ dg) ++ [e1] = P:=HF2.out
   refine ⟨ug,uc,a5,c5,?_,HU2.out.below HE5.out,?_,HB2.out.trans (HE5.out.mono HQ2.out)⟩
   ·rw [<- hP,List.length_append,List.length_append];rfl
   ·rw [<- hP];exact HO5.out.mono HQ2.out
end Go.Proofs.YtnkpnjnfddjfpaaGreat

namespace Go.Proofs.YtnkpnjnfddjfpaaGreat
open Go.RowKit M01 M02 M10 M27
set_option maxRecDepth 100000 in
set_option maxHeartbeats 1600000 in
theorem Zun (a:Option Addr) (cap:Nat) (l:List Nat) (c:Nat) (w:World) (hr:RowN .u8 w a cap l) (h256:∀ x ∈ l,x < 256) (hl:l.length <= 100000) :
  Calls Tryz.prog 148 #[.slice a l.length cap,.int .i64 (c:Nat)] w fun e w'=>e = .returned (.bool (decide (c ∈ l))) /\ w' = w:=by
 have HR:=Zh hr
 have H256:=Zh h256
 obtain ⟨R,hR⟩:∃ R,decide (c ∈ l) = R:=⟨_,rfl⟩
 rw [hR]
 have HRE:=Zh hR
 clear hr h256 hR
 go_enter Tryz.func148,Tryz.ntmps148
 go_wp2_with fail
 go_loopw [5] (fun iv A=>∃ i:Nat,i <= l.length /\ iv = .int .i64 (i:Nat) /\ A = w /\ Hid (∀ j (h:j < l.length),j < i -> l[j] ≠ c)) (fun iv _=>l.length - (intOf iv).toNat)
 case atStart=>exact ⟨0,Nat.zero_le _,rfl,rfl,fun j _ h=>absurd h (Nat.not_lt_zero j)⟩
 case round =>
  obtain ⟨i,hi,rfl,hw,HNO⟩:=hrel
  subst hw
  by_cases hlt:i < l.length
  ·have t0:decide (i < l.length) = true:=by simp;omega
   obtain ⟨b,off,rfl,_,hc⟩:=HR.out.at hlt
   have hx:=H256.out _ (List.getElem_mem hlt)
   by_cases hxc:l[i] = c
   ·have HT:Hid (R = true):=by unfold Hid;rw [<- HRE.out];exact decide_eq_true (hxc ▸ List.getElem_mem hlt)
    have t1:((l[i]:Int) == (c:Int)) = true:=beq_iff_eq.2 (by omega)
    generalize l[i] = x at *
    clear hxc HNO
    go_wp2_with fail
    go_ret
    exact ⟨by rw [HT.out];rfl,rfl⟩
   ·have t1:((l[i]:Int) == (c:Int)) = false:=beq_eq_false_iff_ne.2 (by omega)
    have HNO2:Hid (∀ j (h:j < l.length),j < i + 1 -> l[j] ≠ c):=fun j h hj=>by
     rcases Nat.lt_or_ge j i with h2 | h2
     ·exact HNO.out j h h2
     ·obtain rfl:j = i:=by omega
      exact hxc
    generalize l[i] = x at *
    clear hxc HNO
    go_wp2_with fail
    go_roundw
    case rel=>exact ⟨i + 1,by omega,by go_num,by trivial,HNO2.out⟩
    case measure=>simp [intOf];omega
  ·obtain rfl:i = l.length:=by omega
   have t0:decide (l.length < l.length) = false:=by simp
   have HT:Hid (R = false):=by
    unfold Hid
    rw [<- HRE.out]
    refine decide_eq_false fun h=>?_
    obtain ⟨j,hj,he⟩:=List.getElem_of_mem h
    exact HNO.out j hj hj he
   go_wp2_with fail
   go_ret
   exact ⟨by rw [HT.out];rfl,rfl⟩
theorem appSomeSAt {P:Program} {T E:TypeId} {α:Type} {cc:Enc α} {z:Value} {bytes:Nat} (et:ElemS P T E cc z bytes) {w:World} {ops:Array Oper} {rest:List Oper} {o:Oper} {ac:Act} {Q:Exit -> Act -> World -> Prop} (hgd:o.guard = none) (s x:Operand)
  (ho:o.op = .call { callee:=.builtin .append,args:=#[s,x],argTypes:=#[T,T] }) {base:Nat} {a:Option Addr} {cap m c:Nat} {l ys:List α}
  (hs:ac.eval s = .slice a l.length cap) (hown:OwnS cc E w base a cap l) {b:Addr} (hm:m = ys.length) (hx:ac.eval x = .slice (some b) m c) (hy:RowS cc w (some b) c ys)
  (hn:l.length + m <= 9223372036854775807) (hbytes:(l.length + m) * bytes <= 140737488355328) (hbase:base <= w.heap.size)
  (h:∀ a' cap' w',OwnS cc E w' base a' cap' (l ++ ys) -> w.grownBy w' (Value.slice a l.length cap).ownBlock -> Below base w w' -> (∀ g,a' = some ⟨g,0,none⟩ -> a = some ⟨g,0,none⟩ \/ w.heap.size <= g) -> wpList P ops Q rest (ac.put o.dst (.slice a' (l.length + m) cap')) w') :
  wpList P ops Q (o :: rest) ac w:=by
 subst hm
 obtain ⟨i,h2,h3,h4,h5⟩:=info_parts et.info
 refine wpList_plain (by assumption) fun K hK'=>?_
 have hcl:∀ j u,(flat cc ys)[j]? = some u -> w.cell? (b.add j) = some u:=by
  intro j u hu
  obtain ⟨_,_,rfl | ⟨b',off,he,_,hc⟩⟩:=hy
  ·simp [flat] at hu
  ·cases he
   have:=hc j u hu
   unfold Addr.add
   split
   ·simp_all
   ·exact this
 obtain ⟨v',w',hr,h6,h7,h8,h9⟩:=run_append_own_at (P:=P) w base T o.type E i z cc.sz bytes et.und h2 h3 h4 h5 et.zs cc.pos _ l.length _ hown b ys.length c (flat cc ys) (Zcr _)
  hcl (Zhp _) (by simpa [maxLen] using hn) hbytes hbase
 have hv:∃ a' cap',v' = .slice a' (l.length + ys.length) cap':=by
  rcases h6.2 with ⟨h9,h10⟩ | ⟨g,c',cur,h9,_⟩
  ·exact ⟨none,0,by rw [h9,h10]⟩
  ·exact ⟨_,_,h9⟩
 obtain ⟨a',cap',rfl⟩:=hv
 have hown':OwnS cc E w' base a' cap' (l ++ ys):=by
  unfold OwnS;rw [List.length_append,Zdo];exact h6
 have hbel:Below base w w':=Below.of_grown h7 hbase (by
  intro g hg
  exact (World.ownsRow.lt hown g hg).1)
 unfold Oper.wp
 simp [execOp,ho,resolve,invoke,builtin,hs,hx,hr,Result.andThen]
 refine hK' _ _ (h a' cap' w' hown' h7 hbel ?_)
 rintro g rfl
 rcases h9 with h9 | h9
 ·left
  rcases hown.form with ⟨rfl,_,_⟩ | ⟨g',rfl,_⟩
  ·simp [Value.ownBlock] at h9
  ·simp [Value.ownBlock] at h9
   rw [h9]
 ·right
  simp [Value.ownBlock] at h9
  omega
theorem Zcb {α:Type} {cc:Enc α} {a:Option Addr} {n c g:Nat} {E:TypeId} {w:World} {base:Nat} {l:List α} (ho:OwnS cc E w base a c l) (h:(Value.slice a n c).ownBlock = some g):a = some ⟨g,0,none⟩:=by
 rcases ho.form with ⟨rfl,_⟩ | ⟨g0,rfl,_⟩
 ·simp [Value.ownBlock] at h
 ·simp [Value.ownBlock] at h
  rw [h]
theorem Zck {α:Type} {cc:Enc α} {E:TypeId} {w:World} {base cap:Nat} {a:Option Addr} {l:List α} (h:OwnS cc E w base a cap l) {g:Nat} (e:a = some ⟨g,0,none⟩):base <= g /\ g < w.heap.size:=by
 rcases h.form with ⟨h1,_⟩ | ⟨g2,h1,h2,h3⟩ <;> rw [h1] at e <;> cases e
 exact ⟨h2,h3⟩
def grpL (u:List Nat) (g n:Nat):List Nat:=(List.range n).map fun k=>if 16 * g + k ∈ u then 1 else 0
def someG (u:List Nat) (g n:Nat):Bool:=(List.range n).any fun k=>decide (16 * g + k ∈ u)
def firstL (u:List Nat) (n:Nat):List Nat:=(List.range n).map fun g=>if someG u g 16 then 1 else 0
def restL (u:List Nat):Nat -> List Nat
 | 0=>[]
 | g + 1=>restL u g ++ if someG u g 16 then grpL u g 16 else []
def mapG (u:List Nat):List Nat:=firstL u 16 ++ restL u 16
theorem Zth (u:List Nat) (g n:Nat):grpL u g (n + 1) = grpL u g n ++ [if 16 * g + n ∈ u then 1 else 0]:=by simp [grpL,List.range_succ]
theorem Zrf (u:List Nat) (g n:Nat):someG u g (n + 1) = (someG u g n || decide (16 * g + n ∈ u)):=by simp [someG,List.range_succ]
theorem Znk (u:List Nat) (n:Nat):firstL u (n + 1) = firstL u n ++ [if someG u n 16 then 1 else 0]:=by simp [firstL,List.range_succ]
theorem Zhq (u:List Nat) (g n:Nat):(grpL u g n).length = n:=by simp [grpL]
theorem Zcp (u:List Nat) (n:Nat):(firstL u n).length = n:=by simp [firstL]
theorem Zgd (u:List Nat):∀ g,(restL u g).length <= 16 * g
 | 0=>Nat.le_refl _
 | g + 1=>by
  unfold restL
  have:=Zgd u g
  rw [List.length_append]
  split
  ·rw [Zhq];omega
  ·simp;omega
set_option maxRecDepth 100000 in
set_option maxHeartbeats 3200000 in
theorem Zmj (a:Option Addr) (cap:Nat) (u:List Nat) (w:World) (hr:RowN .u8 w a cap u) (h256:∀ x ∈ u,x < 256) (hl:u.length <= 100000) :
  Calls Tryz.prog 97 #[.slice a u.length cap] w fun e w'=>∃ g c,e = .returned (.slice g (mapG u).length c) /\ OwnB w' w.heap.size g c (mapG u) /\ Below w.heap.size w w':=by
 have HH:=Zh (fun A c (h:Below w.heap.size w A)=>Zun a cap u c A (hr.below h) h256 hl)
 obtain ⟨q,hq⟩:∃ q,w.heap.size = q:=⟨_,rfl⟩
 rw [hq] at HH ⊢
 have HQ:=Zh hq
 clear hr hq h256
 go_enter Tryz.func97,Tryz.ntmps97
 go_wp2_with fail
 go_loopw [3,4,5] (fun fv rv gv A=>∃ (g:Nat) (fa ra:Option Addr) (fc rc:Nat) (rl:List Nat),g <= 16 /\ gv = .int .i64 (g:Nat) /\ fv = .slice fa (firstL u g).length fc /\ rv = .slice ra rl.length rc /\ Hid (rl = restL u g) /\ rl.length <= 16 * g /\ Hid (OwnB A q fa fc (firstL u g)) /\ Hid (OwnB A q ra rc rl) /\ Hid (∀ x,fa = some ⟨x,0,none⟩ -> ra ≠ some ⟨x,0,none⟩) /\ Hid (Below q w A)) (fun _ _ gv _=>16 - (intOf gv).toNat)
 case atStart=>exact ⟨0,none,none,0,0,[],Nat.zero_le _,rfl,rfl,rfl,rfl,Nat.le_refl _,OwnS.nil _ _ _ _,OwnS.nil _ _ _ _,(fun x h=>by cases h),Below.refl _ _⟩
 case round =>
  obtain ⟨g,fa,ra,fc,rc,rl,hg,rfl,rfl,rfl,HRE,hrl,HF,HRR,HNE,HE⟩:=hrel
  generalize wr = W at *
  rw [Zcp]
  by_cases hlt:g < 16
  case neg =>
   obtain rfl:g = 16:=by omega
   have t0:decide ((16:Int) < 16) = false:=by simp
   have HQW:Hid (q <= W.heap.size):=by have:=HE.out.size;have:=HQ.out;unfold Hid;omega
   have HRL:=Zh hrl
   have hrl4:rl.length <= 256:=by omega
   have HFL:Hid ((firstL u 16).length = 16):=Zcp u 16
   have HM:Hid (mapG u = firstL u 16 ++ rl):=by unfold Hid mapG;rw [<- HRE.out]
   generalize firstL u 16 = fl at *
   clear hrl
   go_wp2_with (at_builtin;refine appAnyS Zae rfl (.tmp 40) (.tmp 41) rfl (show _ = Value.slice fa fl.length fc by rw [HFL.out];rfl) HF.out rfl rfl (OwnS.row HRR.out) (by rw [HFL.out];omega) (by rw [HFL.out];omega) HQW.out ?_;intro a7 c7 w7 hown7 hg7 hb7;have HO7:=Zh hown7;have HB7:=Zh hb7;clear hown7 hg7 hb7)
   go_ret
   rw [HM.out]
   exact ⟨a7,c7,by rw [List.length_append,HFL.out];rfl,HO7.out,HE.out.trans HB7.out⟩
  have t0:decide ((g:Int) < 16) = true:=by simp;omega
  have t0':decide (g < 16) = true:=by simp;omega
  have HQW:Hid (q <= W.heap.size):=by have:=HE.out.size;have:=HQ.out;unfold Hid;omega
  have HRL:=Zh hrl
  clear hrl
  go_wp2_with fail
  go_loopw [6,7,8] (fun bv sv kv A=>∃ (k:Nat) (ba:Option Addr) (bc:Nat),k <= 16 /\ kv = .int .i64 (k:Nat) /\ sv = .bool (someG u g k) /\ bv = .slice ba (grpL u g k).length bc /\ Hid (OwnB A W.heap.size ba bc (grpL u g k)) /\ Hid (Below W.heap.size W A)) (fun _ _ kv _=>16 - (intOf kv).toNat)
  case atStart=>exact ⟨0,none,0,Nat.zero_le _,rfl,rfl,rfl,OwnS.nil _ _ _ _,Below.refl _ _⟩
  case round =>
   obtain ⟨k,ba,bc,hk,rfl,rfl,rfl,HB,HE2⟩:=hrel
   rw [Zhq]
   have HQ2:Hid (W.heap.size <= wr.heap.size):=HE2.out.size
   by_cases hlt2:k < 16
   ·have t1:decide ((k:Int) < 16) = true:=by simp;omega
    have t1':decide (k < 16) = true:=by simp;omega
    obtain ⟨c,hc⟩:∃ c,16 * g + k = c:=⟨_,rfl⟩
    have u1:IntKind.i64.wrap ((16:Int) * (g:Int)) = ((16 * g:Nat):Int):=by rw [IntWalk.i64_in _ (by omega)];omega
    have u2:(16:Int) * (g:Int) + (k:Int) = (c:Int):=by omega
    have HHC:=Zh (HH.out wr c (HE.out.trans (HE2.out.mono HQW.out)))
    have HGS:=Zh (Zth u g k)
    have HSS:=Zh (Zrf u g k)
    rw [hc] at HGS HSS
    obtain ⟨m,hm⟩:∃ m,decide (c ∈ u) = m:=⟨_,rfl⟩
    rw [hm] at HHC HSS
    have HY:Hid (((if c ∈ u then 1 else 0:Nat) == 1) = m):=by
     unfold Hid
     rw [<- hm]
     by_cases h:c ∈ u <;> simp [h]
    obtain ⟨y,hy⟩:∃ y,(if c ∈ u then 1 else 0:Nat) = y:=⟨_,rfl⟩
    rw [hy] at HY HGS
    have HCS:Hid (#[Value.bool m] = (encB.cells y).toArray):=by unfold Hid;simp [encB,HY.out]
    have HGL:Hid ((grpL u g k).length = k):=Zhq u g k
    clear hm hy
    generalize grpL u g k = bl at *
    obtain ⟨b,hb⟩:∃ b,someG u g k = b:=⟨_,rfl⟩
    rw [hb] at HSS ⊢
    have HHB:=Zh hb
    clear hb
    cases b
    case false =>
     have HSV:Hid (someG u g (k + 1) = m):=by unfold Hid;rw [HSS.out];simp
     go_wp2_with fail
     refine HHC.out.mono ?_
     rintro e w3 ⟨rfl,hw3⟩
     replace hw3:=hw3.symm
     subst hw3
     go_wp2_with (at_builtin;refine app1S (cs:=#[.bool m]) Zae rfl (.tmp 28) (.tmp 30) rfl y (show _ = Value.slice ba bl.length bc by rw [HGL.out];rfl) HB.out rfl HCS.out (by omega) (by omega) (by rw [HGL.out];omega) (by rw [HGL.out];omega) HQ2.out ?_;intro a7 c7 w7 hown7 hg7 hb7;have HO7:=Zh hown7;have HB7:=Zh hb7;clear hown7 hg7 hb7)
     go_roundw
     case rel=>exact ⟨k + 1,a7,c7,by omega,by go_num,by rw [HSV.out],by rw [HGS.out,List.length_append];rfl,by rw [HGS.out];exact HO7.out,HE2.out.trans HB7.out⟩
     case measure=>simp [intOf];omega
    case true =>
     have HSV:Hid (someG u g (k + 1) = true):=by unfold Hid;rw [HSS.out];simp
     go_wp2_with fail
     refine HHC.out.mono ?_
     rintro e w3 ⟨rfl,hw3⟩
     replace hw3:=hw3.symm
     subst hw3
     go_wp2_with (at_builtin;refine app1S (cs:=#[.bool m]) Zae rfl (.tmp 28) (.tmp 30) rfl y (show _ = Value.slice ba bl.length bc by rw [HGL.out];rfl) HB.out rfl HCS.out (by omega) (by omega) (by rw [HGL.out];omega) (by rw [HGL.out];omega) HQ2.out ?_;intro a7 c7 w7 hown7 hg7 hb7;have HO7:=Zh hown7;have HB7:=Zh hb7;clear hown7 hg7 hb7)
     go_roundw
     case rel=>exact ⟨k + 1,a7,c7,by omega,by go_num,by rw [HSV.out],by rw [HGS.out,List.length_append];rfl,by rw [HGS.out];exact HO7.out,HE2.out.trans HB7.out⟩
     case measure=>simp [intOf];omega
   ·obtain rfl:k = 16:=by omega
    have t1:decide ((16:Int) < 16) = false:=by simp
    have HBR:=Zh (OwnS.row HB.out)
    have HBL:Hid (16 = (grpL u g 16).length):=(Zhq u g 16).symm
    obtain ⟨bb,rfl⟩:∃ bb,ba = some ⟨bb,0,none⟩:=by
     rcases OwnS.form HB.out with ⟨_,_,h⟩ | ⟨gg,h,_⟩
     ·have:=HBL.out;rw [h] at this;simp at this
     ·exact ⟨gg,h⟩
    have HB2:=HB
    have HFW:=Zh (OwnS.below HF.out HE2.out)
    have HRW:=Zh (OwnS.below HRR.out HE2.out)
    have HQR:Hid (q <= wr.heap.size):=Nat.le_trans HQW.out HQ2.out
    have HEW:=Zh (HE.out.trans (HE2.out.mono HQW.out))
    have HFS:=Zh (Znk u g)
    have HFL:Hid ((firstL u g).length = g):=Zcp u g
    have HRS:Hid (restL u (g + 1) = restL u g ++ if someG u g 16 then grpL u g 16 else []):=rfl
    generalize grpL u g 16 = gl at *
    generalize firstL u g = fl at *
    obtain ⟨b,hb⟩:∃ b,someG u g 16 = b:=⟨_,rfl⟩
    rw [hb] at HFS HRS ⊢
    have hrl4:rl.length <= 256:=by have:=HRL.out;omega
    clear hb
    cases b
    case false =>
     have HFS2:Hid (firstL u (g + 1) = fl ++ [0]):=by unfold Hid;rw [HFS.out];rfl
     go_wp2_with (first | (at_builtin;refine app1SAt (cs:=#[.bool false]) Zae rfl (.tmp 32) (.tmp 34) rfl 0 (show _ = Value.slice fa fl.length fc by rw [HFL.out];rfl) HFW.out rfl rfl (by omega) (by omega) (by rw [HFL.out];omega) (by rw [HFL.out];omega) HQR.out ?_;intro a7 c7 w7 hown7 hb7 hg7 hf7;have HO7:=Zh hown7;have HB7:=Zh hb7;have HR7:=Zh (OwnS.kept HRW.out hg7 (fun x hx e=>HNE.out x (Zcb HFW.out e.symm.symm) hx));have HF7:=Zh hf7;have HQ7:=Zh (Nat.le_trans HQR.out hg7.size);have HBL7:=Zh (OwnS.kept HB2.out hg7 (fun x hx e=>by have h1:=(Zck HB2.out hx).1;have h2:=(Zck HF.out (Zcb HFW.out e)).2;omega));clear hown7 hg7 hb7 hf7))
     have HRS2:Hid (restL u (g + 1) = rl):=by unfold Hid;rw [HRS.out,<- HRE.out];simp
     have hne7:∀ x,a7 = some ⟨x,0,none⟩ -> ra ≠ some ⟨x,0,none⟩:=fun x hx e=>by
      rcases HF7.out x hx with h4 | h4
      ·exact HNE.out x h4 e
      ·have h5:=(Zck HRW.out e).2;omega
     go_roundw
     case rel=>exact ⟨g + 1,a7,ra,c7,rc,rl,by omega,by go_num,by rw [HFS2.out,List.length_append];rfl,rfl,HRS2.out.symm,by have:=HRL.out;omega,by rw [HFS2.out];exact HO7.out,HR7.out,hne7,HEW.out.trans HB7.out⟩
     case measure=>simp [intOf];omega
    case true =>
     have HFS2:Hid (firstL u (g + 1) = fl ++ [1]):=by unfold Hid;rw [HFS.out];rfl
     go_wp2_with (first | (at_builtin;refine app1SAt (cs:=#[.bool true]) Zae rfl (.tmp 32) (.tmp 34) rfl 1 (show _ = Value.slice fa fl.length fc by rw [HFL.out];rfl) HFW.out rfl rfl (by omega) (by omega) (by rw [HFL.out];omega) (by rw [HFL.out];omega) HQR.out ?_;intro a7 c7 w7 hown7 hb7 hg7 hf7;have HO7:=Zh hown7;have HB7:=Zh hb7;have HR7:=Zh (OwnS.kept HRW.out hg7 (fun x hx e=>HNE.out x (Zcb HFW.out e.symm.symm) hx));have HF7:=Zh hf7;have HQ7:=Zh (Nat.le_trans HQR.out hg7.size);have HBL7:=Zh (OwnS.kept HB2.out hg7 (fun x hx e=>by have h1:=(Zck HB2.out hx).1;have h2:=(Zck HF.out (Zcb HFW.out e)).2;omega));clear hown7 hg7 hb7 hf7) | (at_builtin;refine appSomeSAt Zae rfl (.tmp 37) (.tmp 38) rfl rfl HR7.out HBL.out rfl (OwnS.row HBL7.out) (by omega) (by omega) HQ7.out ?_;intro a8 c8 w8 hown8 hg8 hb8 hf8;have HO8:=Zh hown8;have HB8:=Zh hb8;have HF8:=Zh hf8;have HFI8:=Zh (OwnS.kept HO7.out hg8 (fun x hx e=>by have h3:=Zcb HR7.out e;rcases HF7.out x hx with h4 | h4;exact HNE.out x h4 h3;have h5:=(Zck HRW.out h3).2;omega));clear hown8 hg8 hb8 hf8))
     have HRS2:Hid (restL u (g + 1) = rl ++ gl):=by unfold Hid;rw [HRS.out,<- HRE.out];simp
     have hne8:∀ x,a7 = some ⟨x,0,none⟩ -> a8 ≠ some ⟨x,0,none⟩:=fun x hx e=>by
      rcases HF8.out x e with h6 | h6
      ·rcases HF7.out x hx with h4 | h4
       ·exact HNE.out x h4 h6
       ·have h5:=(Zck HRW.out h6).2;omega
      ·have h7:=(Zck HO7.out hx).2;omega
     go_roundw
     case rel=>exact ⟨g + 1,a7,a8,c7,c8,rl ++ gl,by omega,by go_num,by rw [HFS2.out,List.length_append];rfl,by rw [List.length_append,<- HBL.out],HRS2.out.symm,by have:=HRL.out;rw [List.length_append,<- HBL.out];omega,by rw [HFS2.out];exact HFI8.out,HO8.out,hne8,HEW.out.trans (HB7.out.trans HB8.out)⟩
     case measure=>simp [intOf];omega
end Go.Proofs.YtnkpnjnfddjfpaaGreat
