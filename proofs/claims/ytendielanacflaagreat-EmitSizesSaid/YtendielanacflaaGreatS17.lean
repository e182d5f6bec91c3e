/- layer 18's reference: parts of tokens; what they cost. law18.EmitSizes: as many bytes as the document reckons. -/
import Derived.Test.YtendielanacflaaGreatS01
import Derived.Test.YtendielanacflaaGreatS02
import Derived.Test.YtendielanacflaaGreatS13
import Derived.Test.YtendielanacflaaGreatS16
set_option linter.unusedVariables false
set_option linter.unusedSimpArgs false
namespace Go.Proofs.YtendielanacflaaGreat
open Go.RowKit Go.Shelf M01 M09 M10 M17 M18
theorem Zin (n:Nat) (hn:n <= 1000000000) (w:World):Calls Tryz.prog 16 #[.int .i64 (n:Nat)] w fun e w'=>e = .returned (.int .i64 (plainN n:Nat)) /\ w' = w:=by
 have HP:Hid (plainN n = n + 5 * max 1 ((n + 65534) / 65535)):=Zh rfl
 go_enter Tryz.func16,Tryz.ntmps16
 go_wp2
 all_goals
  go_ret
  refine ⟨Zav ?_,rfl⟩
  rw [HP.out]
  omega
theorem Zpi (a:Option Addr) (cap:Nat) (l:List Tok) (w:World) (hl:l.length <= 1100) (ho:Oks l) (hr:RowS encT w a cap l) :
  Calls Tryz.prog 15 #[.slice a l.length cap] w fun e w'=>e = .returned (.int .i64 ((fixOut l).1:Nat)) /\ Below w.heap.size w w':=by
 have hsm:=Zhg l hl
 have HQ:Hid ((fixOut l).1 = 3 + (symOut fixR fixQ l).1):=Zh (by
  have h1:=Zou ho
  unfold fixOut symOut at *
  rw [Ztm l ho.2] at h1 ⊢
  cases h:symU fixR fixQ (useU l) 0 with
  | none=>rw [h] at h1;exact absurd (congrArg Prod.snd h1) (fun h=>by cases h)
  | some n=>rfl)
 have HR:=Zh hr
 have HO:=Zh ho
 clear hr ho
 go_enter Tryz.func15,Tryz.ntmps15
 go_wp2_with fail
 refine (Zpg w).mono ?_
 rintro e w1 ⟨g1,g2,rfl,r1,r2,hb⟩
 have HS:=Zh (Zlf a (some ⟨g1,0,none⟩) (some ⟨g2,0,none⟩) cap 286 30 l fixR fixQ w1 hl HO.out.2 (HR.out.below hb) r1 r2 Zadb Zada)
 rw [Zzc,Zzb] at HS
 have HB:=Zh hb
 have hq2:=HQ.out
 generalize symOut fixR fixQ l = so at *
 obtain ⟨s1,s2⟩:=so
 (try simp only at HQ hq2)
 clear r1 r2 hb
 go_wp2_with fail
 refine HS.out.mono ?_
 rintro e w2 ⟨rfl,hb2⟩
 have HB2:=Zh (HB.out.trans (hb2.mono HB.out.size))
 have hs1:s1 <= 2000000:=by omega
 clear HS hb2 HB hq2
 go_wp2
 go_ret
 exact ⟨Zav (by rw [HQ.out];simp),HB2.out⟩
structure RPt where
 a:Option Addr
 cap:Nat
 l:List Tok
def encP:Enc RPt where
 sz:=2
 cells p:=[.slice p.a p.l.length p.cap,.int .i64 (sizL p.l:Nat)]
 len _:=rfl
 one x u hu:=by
  simp only [List.mem_cons,List.not_mem_nil,or_false] at hu
  rcases hu with rfl | rfl <;> rfl
 pos:=by decide
theorem Znj:ElemS Tryz.prog 29 34 encP (.agg #[.slice none 0 0,.int .i64 0]) 32:=⟨Tryz.underlying29,by kernel_rfl,by kernel_rfl⟩
def Pst.rp (s:Pst):RPt:=⟨s.a,s.cap,s.l.take s.n⟩
def prts (s:Pst) (n:Nat):List RPt:=(List.range n).map fun i=>(s.ath i).rp
theorem Zca (s:Pst) (n:Nat):(prts s n).length = n:=by simp [prts]
theorem Znk (s:Pst) (n:Nat):prts s (n + 1) = prts s n ++ [(s.ath n).rp]:=by simp [prts,List.range_succ]
set_option maxRecDepth 100000 in
set_option maxHeartbeats 1600000 in
theorem Zpj (a:Option Addr) (cap:Nat) (l:List Tok) (w:World) (hr:RowS encT w a cap l) (ho:Oks l) (hl:l.length <= 100000) :
  Calls Tryz.prog 12 #[.slice a l.length cap] w fun e w'=>∃ a' c',e = .returned (.slice a' (partN l.length) c') /\ RowS encP w' a' c' (prts ⟨a,cap,l,none,0,[]⟩ (partN l.length)) /\ Below w.heap.size w w':=by
 obtain ⟨s0,hs0⟩:∃ s0,Pst.mk a cap l none 0 [] = s0:=⟨_,rfl⟩
 have HR:Hid (∀ i A,Below w.heap.size w A -> RowS encT A (s0.ath i).a (s0.ath i).cap (s0.ath i).l):=Zh (by
  have h:∀ i,RowS encT w (s0.ath i).a (s0.ath i).cap (s0.ath i).l:=by
   intro i
   induction i with
   | zero=>rw [<- hs0];exact hr
   | succ i ih=>exact Zli ih _ (by unfold Pst.n;omega)
  exact fun i A hb=>(h i).below hb)
 have HL:Hid (∀ i,(s0.ath i).l = l.drop (1024 * i)):=Zh (fun i=>by rw [Pst.ath_l,<- hs0])
 have HO:=Zh ho
 rw [hs0]
 have e0:a = (s0.ath 0).a /\ cap = (s0.ath 0).cap /\ l.length = (s0.ath 0).l.length:=by rw [<- hs0];exact ⟨rfl,rfl,rfl⟩
 have hN:=Zkz l.length hl
 obtain ⟨NP,hNP⟩:∃ n,partN l.length = n:=⟨_,rfl⟩
 have HPN:Hid (∀ i,i < NP -> ((s0.ath i).l.length <= 1024 -> i + 1 = NP) /\ (1024 < (s0.ath i).l.length -> i + 1 < NP \/ (i + 1 = NP /\ (s0.ath i).l.length - 1024 = 0))):=Zh (fun i hi=>by
  rw [HL.out,List.length_drop]
  rcases Nat.lt_or_ge 1024 l.length with hh | hh
  ·rw [partN,if_neg (by omega)] at hNP;omega
  ·rw [partN,if_pos (by omega)] at hNP;omega)
 have hll:=hl
 rw [hNP] at hN ⊢
 clear hr ho hs0 hNP
 go_enter Tryz.func12,Tryz.ntmps12
 go_wp2
 go_loopw [0,3] (fun lv ov A=>∃ (i:Nat) (a':Option Addr) (c':Nat),i < NP /\ lv = .slice (s0.ath i).a (s0.ath i).l.length (s0.ath i).cap /\ ov = .slice a' i c' /\ OwnS encP 34 A w.heap.size a' c' (prts s0 i) /\ Below w.heap.size w A) (fun lv _ _=>match lv with | .slice _ n _=>n | _=>0)
 case atStart=>exact ⟨0,none,0,by omega,by rw [<- e0.1,<- e0.2.1,<- e0.2.2],rfl,OwnS.nil _ _ _ _,Below.refl _ _⟩
 case round =>
  obtain ⟨i,a1,c1,hi,rfl,rfl,how,hb⟩:=hrel
  have HLE:Hid ((s0.ath i).l.length = (s0.ath i).l.length):=Zh rfl
  have hrl:=HR.out i wr hb
  have hol:Oks (s0.ath i).l:=by rw [HL.out];exact HO.out.drop _
  have HMOREX:Hid (1024 < (s0.ath i).l.length -> i + 1 < NP):=Zh (fun h=>by rcases (HPN.out i hi).2 h with h1 | h1 <;> omega)
  have HNX':Hid ((s0.ath (i + 1)).a = cutT (s0.ath i).a (s0.ath i).cap (s0.ath i).n /\ (s0.ath (i + 1)).cap = (s0.ath i).cap - (s0.ath i).n /\ (s0.ath (i + 1)).l.length = (s0.ath i).l.length - (s0.ath i).n):=Zh ⟨rfl,rfl,by show ((s0.ath i).l.drop (s0.ath i).n).length = _;rw [List.length_drop]⟩
  have HRP':Hid ((s0.ath i).rp = ⟨(s0.ath i).a,(s0.ath i).cap,(s0.ath i).l.take (min (s0.ath i).l.length 1024)⟩):=Zh rfl
  have hnn:(s0.ath i).n = min (s0.ath i).l.length 1024:=rfl
  rw [hnn] at HNX'
  have HLA:Hid ((s0.ath i).l.length <= 1024 -> i + 1 = NP):=Zh (fun h=>(HPN.out i hi).1 h)
  have HOW:=Zh how
  have HB:=Zh hb
  clear hb how hnn e0 HLE
  generalize (s0.ath i).a = ai at *
  generalize (s0.ath i).cap = ci at *
  generalize (s0.ath i).l = L at *
  have HRL:=Zh hrl
  have HOL:=Zh hol
  have hcap:=hrl.1
  have hlen:=hrl.len
  generalize wr = w0 at *
  clear hrl hol
  by_cases hc:L.length <= 1024
  ·have HRP:Hid ((s0.ath i).rp = ⟨ai,ci,L.take L.length⟩):=Zh (by rw [HRP'.out,Nat.min_eq_left hc])
   clear HRP' HNX' HMOREX
   ·go_wp2
    go_loopw [5,6] (fun sv iv A=>∃ k:Nat,k <= L.length /\ iv = .int .i64 (k:Nat) /\ sv = .int .i64 (sizL (L.take k):Nat) /\ A = w0) (fun _ iv _=>L.length - (intOf iv).toNat)
    case atStart=>exact ⟨0,by omega,rfl,by simp [sizL],rfl⟩
    case round =>
     obtain ⟨k,hk,rfl,rfl,rfl⟩:=hrel
     by_cases hlt:k < L.length
     ·have hkl:k < L.length:=by omega
      obtain ⟨b,off,rfl,hb,hcl⟩:=HRL.out.at hkl
      have c0:=hcl 0 _ rfl
      have hst:=Zid (HOL.out.1 _ (List.getElem_mem hkl))
      have HSN:=Zh (Zfa L k hkl)
      have hsl:=Zds (L.take k) (fun t ht=>HOL.out.1 t (List.mem_of_mem_take ht))
      rw [List.length_take] at hsl
      have hsl2:sizL (L.take k) <= 264192:=by omega
      clear hcl hsl
      generalize sizL (L.take k) = q at *
      generalize L[k] = t at *
      generalize sizT t = m at *
      obtain ⟨Ln,D,bt⟩:=t
      simp only [encT,Nat.add_zero] at c0 hst
      have HSUM:Hid (wrap64 ((q:Int) + if 1 < Ln then Ln else 1) = ((q + m:Nat):Int)):=Zh (by
       have h1:(if 1 < Ln then Ln else 1) = (m:Int):=by split <;> omega
       rw [h1]
       unfold wrap64
       omega)
      have hwi:IntKind.i64.wrap ((k:Int) + 1) = ((k + 1:Nat):Int):=by rw [IntWalk.i64_in _ (by omega)];omega
      clear hst
      go_wp2
      go_roundw
      case rel=>exact ⟨k + 1,by omega,by go_num,by rw [HSN.out,HSUM.out],(by first | rfl | trivial)⟩
      case measure=>simp [intOf];omega
     ·obtain rfl:k = L.length:=by omega
      have hcl:∀ A,(Instr.sliceAt 22 (.slice ai L.length ci) none (some (.int .i64 (L.length:Nat))) none).run Tryz.prog A = .ok (.slice ai L.length ci) A:=fun A=>by have hh:=cutLoT ai L.length ci L.length (by omega) A;(try simp only [Int.cast_ofNat_Int] at hh);exact hh
      have hch:∀ A,(Instr.sliceAt 22 (.slice ai L.length ci) (some (.int .i64 (L.length:Nat))) none none).run Tryz.prog A = .ok (.slice (cutT ai ci L.length) (L.length - L.length) (ci - L.length)) A:=fun A=>by have hh:=cutHiT ai L.length ci L.length (by omega) (by omega) A;(try simp only [Int.cast_ofNat_Int] at hh);exact hh
      obtain ⟨rest,hrest⟩:∃ rest,L.length - L.length = rest:=⟨_,rfl⟩
      rw [hrest] at hch
      have HREST:=Zh hrest
      obtain rfl:rest = 0:=by omega
      obtain ⟨z,hz⟩:∃ z,sizL (L.take L.length) = z:=⟨_,rfl⟩
      have HZ:=Zh hz
      rw [hz]
      have HCS:Hid (#[.slice ai L.length ci,.int .i64 (z:Nat)] = (encP.cells (⟨ai,ci,L.take L.length⟩:RPt)).toArray):=Zh (by
       have h2:(L.take L.length).length = L.length:=by rw [List.length_take];omega
       show _ = #[Value.slice ai (L.take L.length).length ci,.int .i64 (sizL (L.take L.length):Nat)]
       rw [h2,HZ.out])
      clear hlt hrest hz
      go_wp2_with (at_builtin;refine app1S Znj rfl (.tmp 23) (.tmp 29) rfl (⟨ai,ci,L.take L.length⟩:RPt) (base:=w.heap.size) (a:=a1) (cap:=c1) (l:=prts s0 i) (by rw [Zca];rfl) HOW.out rfl HCS.out (by decide) (by decide) (by rw [Zca];omega) (by rw [Zca];omega) HB.out.size ?_;intro a3 c3 w3 o3 hg3 hb3;simp only [Zca])
      have HO3:=Zh (show OwnS encP 34 w3 w.heap.size a3 c3 (prts s0 (i + 1)) by rw [Znk,HRP.out];exact o3)
      have HB3:=Zh (HB.out.trans hb3)
      clear o3 hg3 hb3
      go_wp2
      go_ret
      obtain rfl:i + 1 = NP:=HLA.out hc
      exact ⟨a3,c3,rfl,HO3.out.row,HB3.out⟩
  ·have HRP:Hid ((s0.ath i).rp = ⟨ai,ci,L.take 1024⟩):=Zh (by rw [HRP'.out,Nat.min_eq_right (by omega)])
   rw [Nat.min_eq_right (by omega)] at HNX'
   have HMORE:Hid (i + 1 < NP):=Zh (HMOREX.out (by omega))
   clear HRP' HLA HMOREX
   ·have hc':1024 < L.length:=by omega
    go_wp2
    go_loopw [5,6] (fun sv iv A=>∃ k:Nat,k <= 1024 /\ iv = .int .i64 (k:Nat) /\ sv = .int .i64 (sizL (L.take k):Nat) /\ A = w0) (fun _ iv _=>1024 - (intOf iv).toNat)
    case atStart=>exact ⟨0,by omega,rfl,by simp [sizL],rfl⟩
    case round =>
     obtain ⟨k,hk,rfl,rfl,rfl⟩:=hrel
     by_cases hlt:k < 1024
     ·have hkl:k < L.length:=by omega
      obtain ⟨b,off,rfl,hb,hcl⟩:=HRL.out.at hkl
      have c0:=hcl 0 _ rfl
      have hst:=Zid (HOL.out.1 _ (List.getElem_mem hkl))
      have HSN:=Zh (Zfa L k hkl)
      have hsl:=Zds (L.take k) (fun t ht=>HOL.out.1 t (List.mem_of_mem_take ht))
      rw [List.length_take] at hsl
      have hsl2:sizL (L.take k) <= 264192:=by omega
      clear hcl hsl
      generalize sizL (L.take k) = q at *
      generalize L[k] = t at *
      generalize sizT t = m at *
      obtain ⟨Ln,D,bt⟩:=t
      simp only [encT,Nat.add_zero] at c0 hst
      have HSUM:Hid (wrap64 ((q:Int) + if 1 < Ln then Ln else 1) = ((q + m:Nat):Int)):=Zh (by
       have h1:(if 1 < Ln then Ln else 1) = (m:Int):=by split <;> omega
       rw [h1]
       unfold wrap64
       omega)
      have hwi:IntKind.i64.wrap ((k:Int) + 1) = ((k + 1:Nat):Int):=by rw [IntWalk.i64_in _ (by omega)];omega
      clear hst
      go_wp2
      go_roundw
      case rel=>exact ⟨k + 1,by omega,by go_num,by rw [HSN.out,HSUM.out],(by first | rfl | trivial)⟩
      case measure=>simp [intOf];omega
     ·obtain rfl:k = 1024:=by omega
      have hcl:∀ A,(Instr.sliceAt 22 (.slice ai L.length ci) none (some (.int .i64 (1024))) none).run Tryz.prog A = .ok (.slice ai 1024 ci) A:=fun A=>by have hh:=cutLoT ai L.length ci 1024 (by omega) A;(try simp only [Int.cast_ofNat_Int] at hh);exact hh
      have hch:∀ A,(Instr.sliceAt 22 (.slice ai L.length ci) (some (.int .i64 (1024))) none none).run Tryz.prog A = .ok (.slice (cutT ai ci 1024) (L.length - 1024) (ci - 1024)) A:=fun A=>by have hh:=cutHiT ai L.length ci 1024 (by omega) (by omega) A;(try simp only [Int.cast_ofNat_Int] at hh);exact hh
      obtain ⟨rest,hrest⟩:∃ rest,L.length - 1024 = rest:=⟨_,rfl⟩
      rw [hrest] at hch
      have HREST:=Zh hrest
      have hr0:((rest:Int) == 0) = false:=by simp;omega
      obtain ⟨z,hz⟩:∃ z,sizL (L.take 1024) = z:=⟨_,rfl⟩
      have HZ:=Zh hz
      rw [hz]
      have HCS:Hid (#[.slice ai 1024 ci,.int .i64 (z:Nat)] = (encP.cells (⟨ai,ci,L.take 1024⟩:RPt)).toArray):=Zh (by
       have h2:(L.take 1024).length = 1024:=by rw [List.length_take];omega
       show _ = #[Value.slice ai (L.take 1024).length ci,.int .i64 (sizL (L.take 1024):Nat)]
       rw [h2,HZ.out])
      clear hlt hrest hz
      go_wp2_with (at_builtin;refine app1S Znj rfl (.tmp 23) (.tmp 29) rfl (⟨ai,ci,L.take 1024⟩:RPt) (base:=w.heap.size) (a:=a1) (cap:=c1) (l:=prts s0 i) (by rw [Zca];rfl) HOW.out rfl HCS.out (by decide) (by decide) (by rw [Zca];omega) (by rw [Zca];omega) HB.out.size ?_;intro a3 c3 w3 o3 hg3 hb3;simp only [Zca])
      have HO3:=Zh (show OwnS encP 34 w3 w.heap.size a3 c3 (prts s0 (i + 1)) by rw [Znk,HRP.out];exact o3)
      have HB3:=Zh (HB.out.trans hb3)
      clear o3 hg3 hb3
      go_wp2
      go_roundw
      case rel=>exact ⟨i + 1,a3,c3,HMORE.out,by rw [HNX'.out.1,HNX'.out.2.1,HNX'.out.2.2,HREST.out],rfl,HO3.out,HB3.out⟩
      case measure=>simp;have:=HREST.out;omega
end Go.Proofs.YtendielanacflaaGreat

namespace Go.Proofs.YtendielanacflaaGreat
open Go.RowKit Go.Shelf M01 M09 M10 M17 M18
theorem min3 (x y z:Nat) (w:World):(Builtin.min_ #[3,3,3] 3 #[.int .i64 (x:Nat),.int .i64 (y:Nat),.int .i64 (z:Nat)]).run Tryz.prog w = .ok (.int .i64 ((min (min x y) z:Nat):Int)) w:=by
 simp [go_sem]
 split <;> split at * <;> omega
theorem ixPart (b off i n c:Nat) (h:i < n) (w:World):(Instr.indexAt 29 (.slice (some ⟨b,off,none⟩) n c) (.int .i64 (i:Nat))).run Tryz.prog w = .ok (.pointer (some ⟨b,off + i * 2,none⟩)) w:=by
 have s2:(Tryz.prog.info? 34).map (·.size) = some 2:=by kernel_rfl
 obtain ⟨k,hi,hz⟩:∃ k,Tryz.prog.info? 34 = some k /\ k.size = 2:=by
  cases h5:Tryz.prog.info? 34 with
  | none=>rw [h5] at s2;cases s2
  | some k=>rw [h5] at s2;exact ⟨k,rfl,by simpa using s2⟩
 simp [Instr.indexAt,asIntOf,run_underlying Tryz.underlying29,h,sizeOf,typeInfo,hi,hz,Addr.add,go_sem]
theorem fldR1 (b o:Nat) (w:World):(Instr.fieldAt 34 (.pointer (some ⟨b,o,none⟩)) 1).run Tryz.prog w = .ok (.pointer (some ⟨b,o + 1,none⟩)) w:=by kernel_rfl
theorem fldR0 (b o:Nat) (w:World):(Instr.fieldAt 34 (.pointer (some ⟨b,o,none⟩)) 0).run Tryz.prog w = .ok (.pointer (some ⟨b,o,none⟩)) w:=by kernel_rfl
theorem Zaet:∀ (n:Nat) (l:List Tok) (at_:Nat),l.length <= n -> at_ <= emN l at_:=by
 intro n
 induction n using Nat.strongRecOn with
 | _ n ih =>
  intro l at_ hn
  by_cases hl:l.length <= 1024
  ·rw [Zkm l at_ hl];omega
  ·rw [Zgr l at_ (by omega)]
   have:=ih (n - 1) (by omega) (l.drop 1024) (at_ + min (min (stoN (sizL (l.take 1024)) at_) (fixOut (l.take 1024)).1) (dynOut (l.take 1024)).1) (by rw [List.length_drop];omega)
   omega
def AtI (l:List Tok) (k x:Nat):Prop:=(k < partN l.length -> emN l 0 = emN (l.drop (1024 * k)) x) /\ (k = partN l.length -> emN l 0 = x)
theorem AtI.next {l:List Tok} {k x:Nat} {r:List Tok} (h:AtI l k x) (hk:k < partN l.length) (hr:r = (l.drop (1024 * k)).take (min (l.drop (1024 * k)).length 1024)):AtI l (k + 1) (x + min (min (stoN (sizL r) x) (fixOut r).1) (dynOut r).1):=by
 have h1:=h.1 hk
 have hlen:(l.drop (1024 * k)).length = l.length - 1024 * k:=List.length_drop
 have hlast:(l.drop (1024 * k)).length <= 1024 ↔ k + 1 = partN l.length:=by
  rw [hlen]
  rcases Nat.lt_or_ge 1024 l.length with hh | hh
  ·rw [partN,if_neg (by omega)] at hk ⊢;omega
  ·rw [partN,if_pos (by omega)] at hk ⊢;omega
 by_cases hl:(l.drop (1024 * k)).length <= 1024
 ·have hr':r = l.drop (1024 * k):=by rw [hr,Nat.min_eq_left hl,List.take_length]
  refine ⟨fun h2=>?_,fun _=>?_⟩
  ·have:=hlast.1 hl;omega
  ·rw [h1,Zkm _ _ hl,hr']
 ·have hr':r = (l.drop (1024 * k)).take 1024:=by rw [hr,Nat.min_eq_right (by omega)]
  refine ⟨fun _=>?_,fun h2=>absurd (hlast.2 h2) hl⟩
  rw [h1,Zgr _ _ (by omega),List.drop_drop,hr']
  congr 1
theorem AtI.le {l:List Tok} {k x:Nat} (h:AtI l k x) (hk:k <= partN l.length):x <= emN l 0:=by
 by_cases h1:k < partN l.length
 ·rw [h.1 h1];exact Zaet _ _ _ (Nat.le_refl _)
 ·rw [h.2 (by omega)];exact Nat.le_refl _
set_option maxRecDepth 100000 in
set_option maxHeartbeats 3200000 in
theorem Zox (a:Option Addr) (cap:Nat) (l:List Tok) (times:Nat) (w:World) (hr:RowS encT w a cap l) (hby:∀ t ∈ l,t.byte < 256) (ht:times < 256) :
  Calls Tryz.prog 3 #[.slice a l.length cap,.int .u8 (times:Nat)] w fun e w'=>e = .returned (.bool true) /\ Below w.heap.size w w':=by
 by_cases hl:l.length <= 400
 case neg =>
  have hd:decide (400 < l.length) = true:=by simp;omega
  have:=hr.len
  go_enter Tryz.func3,Tryz.ntmps3
  go_wp2
  go_ret
  exact ⟨rfl,Below.refl _ _⟩
 have hd:decide (400 < l.length) = false:=by simp;omega
 have HM:=Zh (Zso a cap l times w hr hl ht)
 obtain ⟨L,hL⟩:∃ L,repT l (times % 8 + 1) = L:=⟨_,rfl⟩
 have hLl:L.length <= 3200:=by
  rw [<- hL,Zlg]
  have:(times % 8 + 1) * l.length <= 8 * 400:=Nat.mul_le_mul (by omega) hl
  omega
 have hLb:∀ t ∈ L,t.byte < 256:=fun t h=>hby t (Zrh l _ t (by rw [hL];exact h))
 rw [hL] at HM
 have HLB:=Zh hLb
 clear hr hby hL hLb
 go_enter Tryz.func3,Tryz.ntmps3
 go_wp2_with fail
 refine HM.out.mono ?_
 rintro e w1 ⟨a3,c3,rfl,o3,hb1⟩
 have HB1:=Zh hb1
 have HR1:=Zh o3.row
 clear hb1 o3 HM
 go_wp2_with fail
 refine (Zyp a3 c3 L w1 HR1.out HLB.out hLl).mono ?_
 rintro e w3 ⟨hb3,ad,nd,cd,rfl,hn3,hx3⟩
 have HR3:=Zh (HR1.out.below hb3)
 have HB3:=Zh (HB1.out.trans (hb3.mono HB1.out.size))
 have HN3:=Zh hn3
 have HX3:Hid (∀ x,codeT L = 0 -> expL [] L = some x -> nd = (deflB L x).length):=Zh (fun x h0 h=>(hx3 x h0 h).1)
 have HE3:=Zh (Zacy a3 c3 L w3 HR3.out HLB.out (by omega))
 clear hb3 hn3 hx3 HR1 HB1
 go_wp2_with fail
 refine HE3.out.mono ?_
 rintro e w4 ⟨hb4,ax,nx,cx,rfl,hx4⟩
 have HR4:=Zh (HR3.out.below hb4)
 have HB4:=Zh (HB3.out.trans (hb4.mono HB3.out.size))
 have HX4:Hid (∀ x,codeT L = 0 -> expL [] L = some x -> nx = x.length):=Zh (fun x h0 h=>(hx4 x h0 h).1)
 clear hb4 hx4 HE3 HR3 HB3
 obtain ⟨ee,hee⟩:∃ ee,codeT L = ee:=⟨_,rfl⟩
 have HEE:=Zh hee
 rw [hee] at HX3 HX4 HN3 ⊢
 clear hee
 by_cases h0:ee = 0
 case neg =>
  have hz:=HN3.out h0
  subst hz
  have hne:((ee:Int) != 0) = true:=by simp;omega
  have HT:=Zh (Zhl w4)
  clear HX3 HX4
  go_wp2_with fail
  refine HT.out.mono ?_
  rintro e w6 ⟨rfl,hb6⟩
  have HB6:=Zh (HB4.out.trans (hb6.mono HB4.out.size))
  clear hb6
  go_wp2
  go_ret
  exact ⟨rfl,HB6.out⟩
 subst h0
 obtain ⟨hok,x,hx⟩:=Zsa HEE.out
 obtain rfl:=HX3.out x rfl hx
 obtain rfl:=HX4.out x rfl hx
 have hoks:Oks L:=⟨hok,HLB.out⟩
 have hxl:=Zabu hLl hok hx
 have hem:emN L 0 <= 1000000:=by
  have:=Zaeu L.length L 0 (Nat.le_refl _) hoks
  omega
 have HDL:Hid ((deflB L x).length = min ((emN L 0 + 7) / 8) (plainN x.length)):=Zh (Zyr hoks hx)
 have HPT:=Zh (Zpj a3 c3 L w4 HR4.out hoks (by omega))
 have hpn:=Zkz L.length (by omega)
 have hrows:Hid (∀ k A,Below w4.heap.size w4 A -> RowS encT A ((Pst.mk a3 c3 L none 0 []).ath k).a ((Pst.mk a3 c3 L none 0 []).ath k).cap ((Pst.mk a3 c3 L none 0 []).ath k).l):=Zh (by
  have h:∀ k,RowS encT w4 ((Pst.mk a3 c3 L none 0 []).ath k).a ((Pst.mk a3 c3 L none 0 []).ath k).cap ((Pst.mk a3 c3 L none 0 []).ath k).l:=by
   intro k
   induction k with
   | zero=>exact HR4.out
   | succ k ih=>exact Zli ih _ (by unfold Pst.n;omega)
  exact fun k A hb=>(h k).below hb)
 have HOKS:=Zh hoks
 have HLL:Hid (∀ k,((Pst.mk a3 c3 L none 0 []).ath k).l = L.drop (1024 * k)):=Zh (fun k=>Pst.ath_l _ k)
 clear hok hx HX3 HX4 HN3 HEE hoks
 obtain ⟨s0,hs0⟩:∃ s0,Pst.mk a3 c3 L none 0 [] = s0:=⟨_,rfl⟩
 rw [hs0] at HPT hrows HLL
 obtain ⟨NP,hNP⟩:∃ n,partN L.length = n:=⟨_,rfl⟩
 have HNP:=Zh hNP
 rw [hNP] at HPT hpn
 generalize (deflB L x).length = nb at *
 generalize x.length = nx at *
 clear hs0 hNP
 go_wp2_with fail
 refine HPT.out.mono ?_
 rintro e w5 ⟨ap,cp,rfl,rp,hb5⟩
 have HRP:=Zh rp
 have HB5:=Zh (HB4.out.trans (hb5.mono HB4.out.size))
 have HB45:=Zh hb5
 clear rp hb5 HPT
 go_wp2
 go_loopw [10,12] (fun xv iv A=>∃ k x:Nat,k <= NP /\ iv = .int .i64 (k:Nat) /\ xv = .int .i64 (x:Nat) /\ AtI L k x /\ Below w5.heap.size w5 A) (fun _ iv _=>NP - (intOf iv).toNat)
 case atStart=>exact ⟨0,0,by omega,rfl,rfl,⟨fun _=>rfl,fun h=>by rw [HNP.out] at h;omega⟩,Below.refl _ _⟩
 case round =>
  obtain ⟨k,x,hk,rfl,rfl,hat,hb⟩:=hrel
  by_cases hlt:k < NP
  ·have hxe:=hat.le (by rw [HNP.out];omega)
   have hrp:=HRP.out.below hb
   have hkl:k < (prts s0 NP).length:=by rw [Zca];exact hlt
   obtain ⟨b,off,rfl,hbb,hcl⟩:=hrp.at hkl
   have hpk:(prts s0 NP)[k] = (s0.ath k).rp:=by simp [prts]
   rw [hpk] at hcl
   have c0:wr.cell? ⟨b,off + k * 2,none⟩ = some (.slice (s0.ath k).a (s0.ath k).rp.l.length (s0.ath k).cap):=hcl 0 _ rfl
   have c1:wr.cell? ⟨b,off + k * 2 + 1,none⟩ = some (.int .i64 (sizL (s0.ath k).rp.l:Nat)):=by
    have:=hcl 1 _ rfl
    rw [<- Nat.add_assoc] at this
    exact this
   have hl2:(s0.ath k).rp.l.length <= 1024:=by show ((s0.ath k).l.take (s0.ath k).n).length <= _;rw [List.length_take];unfold Pst.n;omega
   have hrt:∀ A,Below wr.heap.size wr A -> RowS encT A (s0.ath k).a (s0.ath k).cap (s0.ath k).rp.l:=fun A hA=>Znu (hrows.out k A (HB45.out.trans ((hb.trans (hA.mono hb.size)).mono HB45.out.size))) _
   have hok2:Oks (s0.ath k).rp.l:=by show Oks ((s0.ath k).l.take _);rw [HLL.out];exact (HOKS.out.drop _).take _
   have HAT:Hid (AtI L (k + 1) (x + min (min (stoN (sizL (s0.ath k).rp.l) x) (fixOut (s0.ath k).rp.l).1) (dynOut (s0.ath k).rp.l).1)):=Zh (hat.next (by rw [HNP.out];exact hlt) (by show (s0.ath k).l.take (s0.ath k).n = _;unfold Pst.n;rw [HLL.out]))
   have hzz:=Zds (s0.ath k).rp.l hok2.1
   have HB:=Zh hb
   generalize (s0.ath k).rp.l = R at *
   generalize (s0.ath k).a = ra at *
   generalize (s0.ath k).cap = rc at *
   have HRT:=Zh hrt
   have HOK2:=Zh hok2
   have HC:Hid (∀ A,Below wr.heap.size wr A -> A.cell? ⟨b,off + k * 2,none⟩ = some (.slice ra R.length rc) /\ A.cell? ⟨b,off + k * 2 + 1,none⟩ = some (.int .i64 (sizL R:Nat))):=Zh (fun A hA=>⟨(hA.cell (p:=⟨b,off + k * 2,none⟩) hbb).trans c0,(hA.cell (p:=⟨b,off + k * 2 + 1,none⟩) hbb).trans c1⟩)
   have HDY:=Zh (Zge ra rc R wr (by omega) hok2.2 (hrt _ (Below.refl _ _)))
   have hdy2:(dynOut R).2 = 0:=by rw [Zoq hok2]
   have hdys:=Zmn R (by omega)
   have hfxs:=Zhg R (by omega)
   rw [hdy2] at HDY
   generalize sizL R = z at *
   have HST:Hid (∀ A,Calls Tryz.prog 14 #[.int .i64 (z:Nat),.int .i64 (x:Nat)] A fun e w'=>e = .returned (.int .i64 (stoN z x:Nat)) /\ w' = A):=Zh (fun A=>by
    refine (Znq (z:Nat) (x:Nat) A (by omega) (by omega)).mono ?_
    rintro e w' ⟨rfl,rfl⟩
    refine ⟨?_,rfl⟩
    have:storedZ (z:Nat) (x:Nat) = (stoN z x:Nat):=by
     unfold storedZ stoN
     have:=Zxj z x
     rw [if_neg (by omega),Int.toNat_natCast,Int.toNat_natCast]
     omega
    rw [this])
   have HFX:Hid (∀ A,Below wr.heap.size wr A -> Calls Tryz.prog 15 #[.slice ra R.length rc] A fun e w'=>e = .returned (.int .i64 ((fixOut R).1:Nat)) /\ Below A.heap.size A w'):=Zh (fun A hA=>Zpi ra rc R A (by omega) HOK2.out (HRT.out A hA))
   have hsb:stoN z x <= 10000000:=by
    have:=(M17.Ziq z x).2.1
    unfold stoN
    omega
   generalize (dynOut R).1 = dn at *
   generalize (fixOut R).1 = fn at *
   generalize stoN z x = sn at *
   clear hat hb hrp hcl hpk hrt hok2 hdy2
   have hwi:IntKind.i64.wrap ((k:Int) + 1) = ((k + 1:Nat):Int):=by rw [IntWalk.i64_in _ (by omega)];omega
   go_wp2_with fail
   refine HDY.out.mono ?_
   rintro e w6 ⟨rfl,hb6⟩
   have HB6:=Zh hb6
   clear hb6 HDY c0 c1
   go_wp2
   refine Zbb [63,64,65,66,67,68,69,70,71,72,73,74,75,76,77,78,79,10] (fun j=>j == 17) (fun _ A=>Below w6.heap.size w6 A) (fun j v _=>match j with | 0=>v = .int .i64 (x:Nat) | 1=>v = .slice (some ⟨b,off,none⟩) NP cp | 2=>v = .int .i64 (k:Nat) | 3=>v = .pointer (some ⟨b,off + k * 2,none⟩) | 4=>v = .pointer (some ⟨b,off + k * 2 + 1,none⟩) | 5=>v = .int .i64 (z:Nat) | 6=>v = .int .i64 (x:Nat) | 7=>v = .int .i64 (sn:Nat) | 8=>v = .slice (some ⟨b,off,none⟩) NP cp | 9=>v = .int .i64 (k:Nat) | 10=>v = .pointer (some ⟨b,off + k * 2,none⟩) | 11=>v = .pointer (some ⟨b,off + k * 2,none⟩) | 12=>v = .slice ra R.length rc | 13=>v = .int .i64 (fn:Nat) | 14=>v = .int .i64 (dn:Nat) | 15=>v = .int .i64 ((min (min sn fn) dn:Nat):Int) | 16=>v = .int .i64 ((x + min (min sn fn) dn:Nat):Int) | 17=>v = .int .i64 ((x + min (min sn fn) dn:Nat):Int) | _=>True) (fun _ _ _ _=>True) (by kernel_rfl) (by kernel_rfl) (OneEach.mk' (by kernel_rfl) (by kernel_rfl)) (by kernel_rfl) (by kernel_rfl) ⟨rfl,rfl,rfl,Nat.le_refl _,fun _ _=>rfl⟩ ?_ ?_
   ·intro i0 o hi0 listed a1 w1 hR hil hunf hdes hanc hout hold hdep
    have hsz:i0 < 18:=(Array.getElem?_eq_some_iff.1 hi0).1
    have hRw:=HB6.out.trans (hR.mono HB6.out.size)
    obtain ⟨q0,q1⟩:=HC.out _ hRw
    have hall:i0 = 0 \/ i0 = 1 \/ i0 = 2 \/ i0 = 3 \/ i0 = 4 \/ i0 = 5 \/ i0 = 6 \/ i0 = 7 \/ i0 = 8 \/ i0 = 9 \/ i0 = 10 \/ i0 = 11 \/ i0 = 12 \/ i0 = 13 \/ i0 = 14 \/ i0 = 15 \/ i0 = 16 \/ i0 = 17:=by omega
    clear hsz
    rcases hall with rfl | rfl | rfl | rfl | rfl | rfl | rfl | rfl | rfl | rfl | rfl | rfl | rfl | rfl | rfl | rfl | rfl | rfl <;> simp only [List.getElem?_toArray,List.getElem?_cons_zero,List.getElem?_cons_succ,Option.some.injEq] at hi0 <;> subst hi0
    ·have f10:a1.eval (.tmp 10) = .int .i64 (x:Nat):=hold 17 _ 10 rfl rfl (hdes 17 (by kernel_rfl))
     refine Zab (v:=.int .i64 (x:Nat)) (w':=w1) (by simp [execOp,f10]) ⟨_,rfl,hR,fun j u hu hV _=>⟨hV,trivial,trivial⟩,rfl⟩
    ·have f11:a1.eval (.tmp 11) = .slice (some ⟨b,off,none⟩) NP cp:=hout 11 (by decide)
     refine Zab (v:=.slice (some ⟨b,off,none⟩) NP cp) (w':=w1) (by simp [execOp,f11]) ⟨_,rfl,hR,fun j u hu hV _=>⟨hV,trivial,trivial⟩,rfl⟩
    ·have f12:a1.eval (.tmp 12) = .int .i64 (k:Nat):=hout 12 (by decide)
     refine Zab (v:=.int .i64 (k:Nat)) (w':=w1) (by simp [execOp,f12]) ⟨_,rfl,hR,fun j u hu hV _=>⟨hV,trivial,trivial⟩,rfl⟩
    ·have e64:a1.eval (.tmp 64) = .slice (some ⟨b,off,none⟩) NP cp:=hdep ⟨1,.data⟩ (by simp) rfl _ rfl
     have e65:a1.eval (.tmp 65) = .int .i64 (k:Nat):=hdep ⟨2,.data⟩ (by simp) rfl _ rfl
     refine Zab (v:=.pointer (some ⟨b,off + k * 2,none⟩)) (w':=w1) (by simp [execOp,e64,e65,ixPart b off k NP cp hlt]) ⟨_,rfl,hR,fun j u hu hV _=>⟨hV,trivial,trivial⟩,rfl⟩
    ·have e66:a1.eval (.tmp 66) = .pointer (some ⟨b,off + k * 2,none⟩):=hdep ⟨3,.data⟩ (by simp) rfl _ rfl
     refine Zab (v:=.pointer (some ⟨b,off + k * 2 + 1,none⟩)) (w':=w1) (by simp [execOp,e66,fldR1]) ⟨_,rfl,hR,fun j u hu hV _=>⟨hV,trivial,trivial⟩,rfl⟩
    ·have e67:a1.eval (.tmp 67) = .pointer (some ⟨b,off + k * 2 + 1,none⟩):=hdep ⟨4,.data⟩ (by simp) rfl _ rfl
     refine Zab (v:=.int .i64 (z:Nat)) (w':=w1) (by simp [execOp,e67,ldInt _ _ _ q1]) ⟨_,rfl,hR,fun j u hu hV _=>⟨hV,trivial,trivial⟩,rfl⟩
    ·have f10:a1.eval (.tmp 10) = .int .i64 (x:Nat):=hold 17 _ 10 rfl rfl (hdes 17 (by kernel_rfl))
     refine Zab (v:=.int .i64 (x:Nat)) (w':=w1) (by simp [execOp,f10]) ⟨_,rfl,hR,fun j u hu hV _=>⟨hV,trivial,trivial⟩,rfl⟩
    ·have e68:a1.eval (.tmp 68) = .int .i64 (z:Nat):=hdep ⟨5,.data⟩ (by simp) rfl _ rfl
     have e69:a1.eval (.tmp 69) = .int .i64 (x:Nat):=hdep ⟨6,.data⟩ (by simp) rfl _ rfl
     have x68:a1.tmps[68]?.getD undef = .int .i64 (z:Nat):=by simpa [Act.eval] using e68
     have x69:a1.tmps[69]?.getD undef = .int .i64 (x:Nat):=by simpa [Act.eval] using e69
     refine Zaj (f:=14) (args:=#[.int .i64 (z:Nat),.int .i64 (x:Nat)]) (by simp [x68,x69,go_sem]) ((HST.out w1).mono ?_)
     rintro e w9 ⟨rfl,rfl⟩
     exact ⟨_,rfl,_,rfl,hR,fun j u hu hV _=>⟨hV,trivial,trivial⟩,rfl⟩
    ·have f11:a1.eval (.tmp 11) = .slice (some ⟨b,off,none⟩) NP cp:=hout 11 (by decide)
     refine Zab (v:=.slice (some ⟨b,off,none⟩) NP cp) (w':=w1) (by simp [execOp,f11]) ⟨_,rfl,hR,fun j u hu hV _=>⟨hV,trivial,trivial⟩,rfl⟩
    ·have f12:a1.eval (.tmp 12) = .int .i64 (k:Nat):=hout 12 (by decide)
     refine Zab (v:=.int .i64 (k:Nat)) (w':=w1) (by simp [execOp,f12]) ⟨_,rfl,hR,fun j u hu hV _=>⟨hV,trivial,trivial⟩,rfl⟩
    ·have e71:a1.eval (.tmp 71) = .slice (some ⟨b,off,none⟩) NP cp:=hdep ⟨8,.data⟩ (by simp) rfl _ rfl
     have e72:a1.eval (.tmp 72) = .int .i64 (k:Nat):=hdep ⟨9,.data⟩ (by simp) rfl _ rfl
     refine Zab (v:=.pointer (some ⟨b,off + k * 2,none⟩)) (w':=w1) (by simp [execOp,e71,e72,ixPart b off k NP cp hlt]) ⟨_,rfl,hR,fun j u hu hV _=>⟨hV,trivial,trivial⟩,rfl⟩
    ·have e73:a1.eval (.tmp 73) = .pointer (some ⟨b,off + k * 2,none⟩):=hdep ⟨10,.data⟩ (by simp) rfl _ rfl
     refine Zab (v:=.pointer (some ⟨b,off + k * 2,none⟩)) (w':=w1) (by simp [execOp,e73,fldR0]) ⟨_,rfl,hR,fun j u hu hV _=>⟨hV,trivial,trivial⟩,rfl⟩
    ·have e74:a1.eval (.tmp 74) = .pointer (some ⟨b,off + k * 2,none⟩):=hdep ⟨11,.data⟩ (by simp) rfl _ rfl
     refine Zab (v:=.slice ra R.length rc) (w':=w1) (by simp [execOp,e74,ldTokS _ _ _ q0]) ⟨_,rfl,hR,fun j u hu hV _=>⟨hV,trivial,trivial⟩,rfl⟩
    ·have e75:a1.eval (.tmp 75) = .slice ra R.length rc:=hdep ⟨12,.data⟩ (by simp) rfl _ rfl
     have x75:a1.tmps[75]?.getD undef = .slice ra R.length rc:=by simpa [Act.eval] using e75
     refine Zaj (f:=15) (args:=#[.slice ra R.length rc]) (by simp [x75,go_sem]) ((HFX.out w1 hRw).mono ?_)
     rintro e w9 ⟨rfl,hb9⟩
     exact ⟨_,rfl,_,rfl,hR.trans (hb9.mono hR.size),fun j u hu hV _=>⟨hV,trivial,trivial⟩,rfl⟩
    ·have f13:a1.eval (.tmp 13) = .int .i64 (dn:Nat):=hout 13 (by decide)
     refine Zab (v:=.int .i64 (dn:Nat)) (w':=w1) (by simp [execOp,f13]) ⟨_,rfl,hR,fun j u hu hV _=>⟨hV,trivial,trivial⟩,rfl⟩
    ·have e70:a1.eval (.tmp 70) = .int .i64 (sn:Nat):=hdep ⟨7,.data⟩ (by simp) rfl _ rfl
     have e76:a1.eval (.tmp 76) = .int .i64 (fn:Nat):=hdep ⟨13,.data⟩ (by simp) rfl _ rfl
     have e77:a1.eval (.tmp 77) = .int .i64 (dn:Nat):=hdep ⟨14,.data⟩ (by simp) rfl _ rfl
     have x70:a1.tmps[70]?.getD undef = .int .i64 (sn:Nat):=by simpa [Act.eval] using e70
     have x76:a1.tmps[76]?.getD undef = .int .i64 (fn:Nat):=by simpa [Act.eval] using e76
     have x77:a1.tmps[77]?.getD undef = .int .i64 (dn:Nat):=by simpa [Act.eval] using e77
     have hh:=min3 sn fn dn w1
     refine Zab (v:=.int .i64 ((min (min sn fn) dn:Nat):Int)) (w':=w1) (by simp only [execOp];simp [e70,e76,e77,resolve,invoke,builtin,hh]) ⟨_,rfl,hR,fun j u hu hV _=>⟨hV,trivial,trivial⟩,rfl⟩
    ·have e63:a1.eval (.tmp 63) = .int .i64 (x:Nat):=hdep ⟨0,.data⟩ (by simp) rfl _ rfl
     have e78:a1.eval (.tmp 78) = .int .i64 ((min (min sn fn) dn:Nat):Int):=hdep ⟨15,.data⟩ (by simp) rfl _ rfl
     have hws:IntKind.i64.wrap ((x:Int) + ((min (min sn fn) dn:Nat):Int)) = ((x + min (min sn fn) dn:Nat):Int):=by rw [IntWalk.i64_in _ (by omega)];omega
     refine Zab (v:=.int .i64 ((x + min (min sn fn) dn:Nat):Int)) (w':=w1) (by simp only [execOp,e63,e78];simp only [Sem.run_bind,eqgA,addI,hws];simp) ⟨_,rfl,hR,fun j u hu hV _=>⟨hV,trivial,trivial⟩,rfl⟩
    ·have e79:a1.eval (.tmp 79) = .int .i64 ((x + min (min sn fn) dn:Nat):Int):=hdep ⟨16,.data⟩ (by simp) rfl _ rfl
     refine Zab (v:=.int .i64 ((x + min (min sn fn) dn:Nat):Int)) (w':=w1) (by simp only [execOp,e79];simp) ⟨_,rfl,hR,fun j u hu hV _=>⟨hV,trivial,trivial⟩,rfl⟩
   ·intro listed fv w1 hR hall hV
    have v17:fv 10 = .int .i64 ((x + min (min sn fn) dn:Nat):Int):=hV 17 _ rfl rfl
    have HB7:=Zh (HB.out.trans ((HB6.out.trans (hR.mono HB6.out.size)).mono HB.out.size))
    clear hR hall hV HC HST HFX
    simp only [spread,List.contains_cons,List.contains_nil,Nat.reduceBEq,Bool.or_false,Bool.or_true,cond_true,cond_false,Nat.reduceAdd,Nat.zero_add,v17]
    obtain ⟨x2,hx2⟩:∃ x2,x + min (min sn fn) dn = x2:=⟨_,rfl⟩
    rw [hx2] at HAT ⊢
    clear hx2
    go_wp2
    go_roundw
    case rel=>exact ⟨k + 1,x2,by omega,by go_num,rfl,HAT.out,HB7.out⟩
    case measure=>simp [intOf];omega
  ·obtain rfl:k = NP:=by omega
   obtain rfl:=hat.2 HNP.out.symm
   have HB:=Zh (HB5.out.trans (hb.mono HB5.out.size))
   clear hat hb
   have hq:((emN L 0:Int) + 7) / 8 = (((emN L 0 + 7) / 8:Nat):Int):=by omega
   generalize emN L 0 = EM at *
   generalize wr = W8 at *
   have HPL:=Zh (Zin nx (by omega) W8)
   have HT:=Zh (Zhl W8)
   have hpl:plainN nx <= 100000000:=by unfold plainN;omega
   generalize plainN nx = pn at *
   obtain ⟨eq8,heq8⟩:∃ eq8,(EM + 7) / 8 = eq8:=⟨_,rfl⟩
   rw [heq8] at hq HDL
   have HEQ8:=Zh heq8
   clear heq8
   go_wp2_with fail
   refine HPL.out.mono ?_
   rintro e w9 ⟨rfl,h9⟩
   rw [h9]
   clear h9 HPL
   by_cases hle:pn < eq8
   ·obtain rfl:nb = pn:=by have:=HDL.out;omega
    have hli:(nb:Int) < (eq8:Int):=by omega
    clear HDL
    go_wp2_with fail
    refine HT.out.mono ?_
    rintro e w9 ⟨rfl,hb10⟩
    have HB10:=Zh (HB.out.trans (hb10.mono HB.out.size))
    clear hb10 HB HT
    go_wp2
    go_ret
    exact ⟨rfl,HB10.out⟩
   ·obtain rfl:nb = eq8:=by have:=HDL.out;omega
    have hli:¬ (pn:Int) < (nb:Int):=by omega
    clear HDL
    go_wp2_with fail
    refine HT.out.mono ?_
    rintro e w9 ⟨rfl,hb10⟩
    have HB10:=Zh (HB.out.trans (hb10.mono HB.out.size))
    clear hb10 HB HT
    go_wp2
    go_ret
    exact ⟨rfl,HB10.out⟩
end Go.Proofs.YtendielanacflaaGreat
