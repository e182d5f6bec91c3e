/- The reference of layer 26: Row: contract. Plain: how far a block's reading goes, and what a block keeps to. The reference of layer 20: Say: contract. crc.High: contract. -/
import Derived.Test.YtnkpnjnfddjfpaaW01
import Derived.Test.YtnkpnjnfddjfpaaW03
import Derived.Test.YtnkpnjnfddjfpaaW04
import Derived.Test.YtnkpnjnfddjfpaaW07
import Derived.Test.YtnkpnjnfddjfpaaW02
import Derived.Test.YtnkpnjnfddjfpaaW06
set_option linter.unusedVariables false
set_option linter.unusedSimpArgs false
namespace Go.Proofs.Ytnkpnjnfddjfpaa
open Go.RowKit M01 M02 M10 M27
def kOf (n:Nat):Nat:=(List.range 20).findIdx fun k=>decide (n <= 2 ^ k)
theorem Zxj {n k:Nat} (hk:k < 20) (h1:∀ j,j < k -> 2 ^ j < n) (h2:n <= 2 ^ k):kOf n = k:=by
 unfold kOf
 rw [List.findIdx_eq (by simpa using hk)]
 simp only [List.getElem_range,decide_eq_true_eq,decide_eq_false_iff_not,Nat.not_le]
 exact ⟨h2,fun j hj=>h1 j hj⟩
def symB (k:Nat) (l:List Nat):List Nat:=l.flatMap fun s=>hbits s k
def rowB (b:List Nat) (sum v first gl:Nat):List Nat :=
 hbits sum 32 ++ hbits v 1 ++ hbits (turnG b).2 24 ++ mapG (fputG (turnG b).1).1 ++ hbits 2 3 ++ selectorsG ((List.range gl).map fun i=>(first + i) % 2) ++ lengthsG (List.replicate ((fputG (turnG b).1).1.length + 2) (kOf ((fputG (turnG b).1).1.length + 2))) ++ lengthsG (List.replicate ((fputG (turnG b).1).1.length + 2) (kOf ((fputG (turnG b).1).1.length + 2))) ++ symB (kOf ((fputG (turnG b).1).1.length + 2)) (fputG (turnG b).1).2
def maskIf (m:Bool) (p:List Nat):List Nat:=if m then masked p else p
def rowG (packed:List Nat) (sum:Nat) (m:Bool) (first gl:Nat):List Nat:=rowB (maskIf m packed) sum (if m then 1 else 0) first gl
theorem Zby (b:List Nat):(turnG b).1.length = b.length:=by unfold turnG;rw [List.length_map,Zef]
theorem Zpb {b:List Nat} (h:0 < b.length):(turnG b).2 < b.length:=Zxf h
theorem Zpc {b:List Nat} (h:∀ x ∈ b,x < 256):∀ x ∈ (turnG b).1,x < 256:=by
 intro y hy
 unfold turnG at hy
 obtain ⟨x,_,rfl⟩:=List.mem_map.1 hy
 unfold lastF
 rw [List.getD_eq_getElem?_getD]
 cases e:(rotL b x)[b.length - 1]? with
 | none=>simp
 | some z =>
  obtain ⟨h1,h2⟩:=List.getElem?_eq_some_iff.1 e
  have:=h z (Zfl (h2 ▸ List.getElem_mem h1))
  simpa using this
theorem Znj {e B:Nat} (h1:1 <= B) (he:e <= B):∀ (l:List Nat) (run:Nat),(∀ y ∈ l,y + 1 <= B) -> ∀ x ∈ putS e l run,x <= B
 | [],run,_,x,hx=>by
  unfold putS at hx
  rcases List.mem_append.1 hx with hx | hx
  ·have:=Zfy run run x hx;omega
  ·rw [List.mem_singleton.1 hx];exact he
 | k :: r,run,h,x,hx=>by
  unfold putS at hx
  split at hx
  ·exact Znj h1 he r (run + 1) (fun y hy=>h y (by simp [hy])) x hx
  ·rcases List.mem_append.1 hx with hx | hx
   ·rcases List.mem_append.1 hx with hx | hx
    ·have:=Zfy run run x hx;omega
    ·rw [List.mem_singleton.1 hx];exact h k (by simp)
   ·exact Znj h1 he r 0 (fun y hy=>h y (by simp [hy])) x hx
theorem Zvo (b:List Nat):∀ x ∈ (fputG b).2,x <= 300 + b.length:=by
 have h1:(usedG b).length <= 256:=Zgl b 256
 refine Znj (by omega) (by omega) _ 0 fun y hy=>?_
 have:=Zgh b (usedG b) y hy
 omega
theorem Zhm (k:Nat) (l:List Nat):(symB k l).length = k * l.length:=by
 unfold symB
 induction l with
 | nil=>rfl
 | cons x r ih=>rw [List.flatMap_cons,List.length_append,Zae,ih,List.length_cons,Nat.mul_succ,Nat.add_comm]
theorem Zcd (b:List Nat):(fputG b).1.length <= 256 /\ (fputG b).2.length <= b.length + 1:=by
 refine ⟨Zgl b 256,?_⟩
 have:=Zhg ((usedG b).length + 1) (placesL (usedG b) b) 0
 rw [Zde] at this
 exact this
set_option maxRecDepth 100000 in
set_option maxHeartbeats 6400000 in
theorem Zmc (a:Option Addr) (cap:Nat) (packed:List Nat) (sum first gl:Nat) (m:Bool) (more:Int) (w:World) (hr:RowN .u8 w a cap packed) (h256:∀ x ∈ packed,x < 256) (hl:packed.length <= 1000) (h0:0 < packed.length) (hs:sum < 4294967296) (hf:first <= 1000)
  (hgl:((((fputG (turnG (maskIf m packed)).1).2.length + 49) / 50:Nat):Int) + more = (gl:Int)) (hgl2:gl <= 20000) (hm:-1000 <= more /\ more <= 1000) :
  Calls Try.prog 40 #[.slice a packed.length cap,.int .u32 (sum:Nat),.bool m,.int .i64 (first:Nat),.int .i64 more] w fun e w'=>∃ g c,e = .returned (.slice g (rowG packed sum m first gl).length c) /\ OwnB w' w.heap.size g c (rowG packed sum m first gl) /\ Below w.heap.size w w':=by
 have HR:=Zh hr
 have HMA:=Zh (Zmb a cap packed w hr h256 (by omega))
 obtain ⟨q,hq⟩:∃ q,w.heap.size = q:=⟨_,rfl⟩
 rw [hq] at HMA ⊢
 have HQ:=Zh hq
 have H256:=Zh h256
 obtain ⟨n0,hn0⟩:∃ n0,packed.length = n0:=⟨_,rfl⟩
 have HN0:=Zh hn0
 have HM3:=Zh hm
 rw [hn0] at HMA hl h0 ⊢
 obtain ⟨P,hP⟩:∃ P,P = rowG packed sum m first gl:=⟨_,rfl⟩
 rw [<- hP]
 unfold rowG at hP
 obtain ⟨b,hb⟩:∃ b,b = maskIf m packed:=⟨_,rfl⟩
 rw [<- hb] at hP hgl
 have HBL:Hid (b.length = n0):=by unfold Hid;rw [hb,<- hn0];unfold maskIf;split;exact Zaw _ _;rfl
 have HB256:Hid (∀ x ∈ b,x < 256):=by rw [hb];unfold maskIf;split;exact Zch _ h256 _;exact h256
 have HTL:Hid ((turnG b).1.length = n0):=by unfold Hid;rw [Zby];exact HBL.out
 have HTA:Hid ((turnG b).2 < n0):=by have:=Zpb (b:=b) (by have:=HBL.out;omega);have:=HBL.out;unfold Hid;omega
 have HTLT:=Zh (Zpc HB256.out)
 have HTU:=Zh (fun ba bc A (h:RowN .u8 A ba bc b)=>Zqg ba bc b A h (by have:=HBL.out;omega) HB256.out)
 unfold rowB at hP
 rw [HBL.out] at HTU
 generalize (turnG b).2 = ta at *
 generalize (turnG b).1 = last at *
 have HFL:=Zh (Zcd last)
 have HUL:Hid (∀ x ∈ (fputG last).1,x < 256):=fun x hx=>Zpd hx
 have HPU:=Zh (fun ba bc A (h:RowN .u8 A ba bc last)=>Ztf ba bc last A h HTLT.out (by have:=HTL.out;omega))
 have HSY:=Zh (Zvo last)
 rw [HTL.out] at HPU HFL HSY
 generalize (fputG last).1 = used at *
 generalize (fputG last).2 = syms at *
 have HPP:=Zh hP
 have HBE:=Zh hb
 have HGL:=Zh hgl
 clear hr hq h256 hn0 hm hP hb hgl
 cases m
 case false =>
  go_enter Try.func40,Try.ntmps40
  go_wp2_with fail
  have HBR:Hid (RowN .u8 w a cap b):=by rw [show b = packed from HBE.out];exact HR.out
  have HEB:Hid (Below q w w):=Below.refl _ _
  have HQB:Hid (q <= w.heap.size):=Nat.le_of_eq HQ.out.symm
  refine (HTU.out a cap w HBR.out).mono ?_
  rintro e w1 ⟨tg,tc,rfl,ht1,hb1⟩
  have HE1:=Zh (HEB.out.trans (hb1.mono HQB.out))
  have HQ1:Hid (q <= w1.heap.size):=by have:=HE1.out.size;have:=HQ.out;unfold Hid;omega
  have HT1:=Zh ht1.row
  clear ht1 hb1
  go_wp2_with fail
  refine (HPU.out tg tc w1 HT1.out).mono ?_
  rintro e w2 ⟨ug,uc,sg,sc,rfl,hu2,hs2,hb2⟩
  have HE2:=Zh (HE1.out.trans (hb2.mono HQ1.out))
  have HQ22:Hid (q <= w2.heap.size):=by have:=HE2.out.size;have:=HQ.out;unfold Hid;omega
  have HU2:=Zh hu2.row
  have HS2:=Zh hs2.row
  clear hu2 hs2 hb2 HTU HPU HMA
  obtain ⟨n,hn⟩:∃ n,used.length + 2 = n:=⟨_,rfl⟩
  have hn258:n <= 258:=by have:=HFL.out.1;omega
  have un:IntKind.i64.wrap ((used.length:Int) + 2) = (n:Int):=by rw [IntWalk.i64_in _ (by omega)];omega
  have HNE:=Zh hn
  clear hn
  go_wp2_with fail
  go_loopw [18] (fun kv A=>∃ k:Nat,k <= 9 /\ kv = .int .i64 (k:Nat) /\ A = w2 /\ Hid (∀ j,j < k -> 2 ^ j < n)) (fun kv _=>10 - (intOf kv).toNat)
  case atStart=>exact ⟨0,by decide,rfl,rfl,fun j h=>absurd h (Nat.not_lt_zero j)⟩
  case round =>
   obtain ⟨k,hk,rfl,hw2,HJ⟩:=hrel
   replace hw2:=hw2.symm
   subst hw2
   obtain ⟨p,hp⟩:∃ p,2 ^ k = p:=⟨_,rfl⟩
   have hp512:p <= 512:=by rw [<- hp];exact Nat.pow_le_pow_right (by decide) (show k <= 9 from hk)
   have hpi:(2:Int) ^ k = (p:Int):=by rw [<- hp];simp
   have hpw:wrap64 ((2:Int) ^ k) = (p:Int):=by rw [hpi];exact IntWalk.wrap64_in _ (by omega)
   have HPW:=Zh hp
   clear hp hpi
   by_cases hkn:n <= p
   case neg =>
    have t1:decide ((p:Int) < (n:Int)) = true:=by simp;omega
    have t1':decide (p < n) = true:=by simp;omega
    have hk9:k + 1 <= 9:=by
     rcases Nat.lt_or_ge k 9 with h | h
     ·exact h
     ·exfalso
      have h9:2 ^ 9 <= 2 ^ k:=Nat.pow_le_pow_right (by decide) h
      rw [HPW.out] at h9
      have:512 <= p:=h9
      omega
    have HJ2:Hid (∀ j,j < k + 1 -> 2 ^ j < n):=fun j hj=>by
     rcases Nat.lt_or_ge j k with h2 | h2
     ·exact HJ.out j h2
     ·obtain rfl:j = k:=by omega
      rw [HPW.out];omega
    clear hkn
    go_wp2_with fail
    go_roundw
    case rel=>exact ⟨k + 1,hk9,by go_num,by trivial,HJ2.out⟩
    case measure=>simp [intOf];omega
   have t1:decide ((p:Int) < (n:Int)) = false:=by simp;omega
   have t1':decide (p < n) = false:=by simp;omega
   have hta0:ta <= 1000:=by have:=HTA.out;omega
   have hta3:(ta:Int) % 4294967296 = (ta:Int):=by omega
   go_wp2_with fail
   have HK:Hid (kOf n = k):=Zxj (by omega) HJ.out (by rw [HPW.out];exact hkn)
   refine (Zar sum 32 w2 hs (by decide)).mono ?_
   rintro e w0x ⟨g0,rfl,hoc,hbc⟩
   obtain ⟨o0,ho0⟩:∃ o,o = hbits sum 32:=⟨_,rfl⟩
   rw [<- ho0] at hoc
   have HO0:=Zh hoc
   have HOE0:=Zh ho0
   have HB0:=Zh hbc
   have HQ0:Hid (w2.heap.size <= w0x.heap.size):=HB0.out.size
   have HOL0:Hid (o0.length = 32):=by unfold Hid;rw [ho0,Zae]
   clear hoc hbc ho0
   go_wp2_with fail
   refine (Zar 0 1 w0x (by decide) (by decide)).mono ?_
   rintro e wc1 ⟨gc1,rfl,hoc,hbc⟩
   have HOc1:=Zh (OwnS.below HO0.out hbc)
   have HBc1:=Zh (HB0.out.trans (hbc.mono HQ0.out))
   have HQc1:Hid (w2.heap.size <= wc1.heap.size):=HBc1.out.size
   have HYR1:=Zh (OwnS.row hoc)
   have HYL1:Hid (1 = (hbits 0 1).length):=(Zae _ _).symm
   clear hbc hoc
   go_wp2_with ((at_builtin;refine appAnyS Zad rfl (.tmp 49) (.tmp 51) rfl (show _ = Value.slice (some ⟨g0,0,none⟩) o0.length 32 by rw [HOL0.out];rfl) HOc1.out HYL1.out rfl HYR1.out (by rw [HOL0.out];omega) (by rw [HOL0.out];omega) HQc1.out ?_;intro oa1 oc1 w1x hown hg hb;have HGR1:=Zh hg;obtain ⟨L1,hL⟩:∃ L,o0.length + 1 = L:=⟨_,rfl⟩;rw [hL];have hlb:L1 <= 33:=(by have h1:=HOL0.out;omega);have HOL1:Hid ((o0 ++ hbits 0 1).length = L1):=(by unfold Hid;rw [List.length_append,<- HYL1.out];exact hL);obtain ⟨o1,ho⟩:∃ o,o = o0 ++ hbits 0 1:=⟨_,rfl⟩;rw [<- ho] at hown HOL1;have HOE1:=Zh ho;have HO1:=Zh hown;have HB1:=Zh (HBc1.out.trans hb);have HQ1:Hid (w2.heap.size <= w1x.heap.size):=HB1.out.size;clear hown hg hb hL ho))
   refine (Zar ta 24 w1x (by have:=HTA.out;omega) (by decide)).mono ?_
   rintro e wc2 ⟨gc2,rfl,hoc,hbc⟩
   have HOc2:=Zh (OwnS.below HO1.out hbc)
   have HBc2:=Zh (HB1.out.trans (hbc.mono HQ1.out))
   have HQc2:Hid (w2.heap.size <= wc2.heap.size):=HBc2.out.size
   have HYR2:=Zh (OwnS.row hoc)
   have HYL2:Hid (24 = (hbits ta 24).length):=(Zae _ _).symm
   clear hbc hoc
   go_wp2_with ((at_builtin;refine appAnyS Zad rfl (.tmp 53) (.tmp 56) rfl (show _ = Value.slice oa1 o1.length oc1 by rw [HOL1.out];rfl) HOc2.out HYL2.out rfl HYR2.out (by rw [HOL1.out];omega) (by rw [HOL1.out];omega) HQc2.out ?_;intro oa2 oc2 w2x hown hg hb;have HGR2:=Zh hg;obtain ⟨L2,hL⟩:∃ L,o1.length + 24 = L:=⟨_,rfl⟩;rw [hL];have hlb:L2 <= 57:=(by have h1:=HOL1.out;omega);have HOL2:Hid ((o1 ++ hbits ta 24).length = L2):=(by unfold Hid;rw [List.length_append,<- HYL2.out];exact hL);obtain ⟨o2,ho⟩:∃ o,o = o1 ++ hbits ta 24:=⟨_,rfl⟩;rw [<- ho] at hown HOL2;have HOE2:=Zh ho;have HO2:=Zh hown;have HB2:=Zh (HBc2.out.trans hb);have HQ2:Hid (w2.heap.size <= w2x.heap.size):=HB2.out.size;clear hown hg hb hL ho))
   have HMU:Hid ((mapG used).length <= 272):=by unfold Hid mapG;rw [List.length_append,Zbf];have:=Zfk used 16;omega
   obtain ⟨mu,hmu⟩:∃ mu,(mapG used).length = mu:=⟨_,rfl⟩
   have hmu2:mu <= 272:=by have:=HMU.out;omega
   have HRU:=Zh (Zma ug uc used w2x (HU2.out.below HB2.out) HUL.out (by have:=HFL.out.1;omega))
   rw [hmu] at HRU
   have HMUL:=Zh hmu
   clear hmu
   refine HRU.out.mono ?_
   rintro e wc3 ⟨gc3,cc3,rfl,hoc,hbc⟩
   have HOc3:=Zh (OwnS.below HO2.out hbc)
   have HBc3:=Zh (HB2.out.trans (hbc.mono HQ2.out))
   have HQc3:Hid (w2.heap.size <= wc3.heap.size):=HBc3.out.size
   have HYR3:=Zh (OwnS.row hoc)
   have HYL3:Hid (mu = (mapG used).length):=HMUL.out.symm
   clear hbc hoc
   go_wp2_with ((at_builtin;refine appAnyS Zad rfl (.tmp 58) (.tmp 60) rfl (show _ = Value.slice oa2 o2.length oc2 by rw [HOL2.out];rfl) HOc3.out HYL3.out rfl HYR3.out (by rw [HOL2.out];omega) (by rw [HOL2.out];omega) HQc3.out ?_;intro oa3 oc3 w3x hown hg hb;have HGR3:=Zh hg;obtain ⟨L3,hL⟩:∃ L,o2.length + mu = L:=⟨_,rfl⟩;rw [hL];have hlb:L3 <= 329:=(by have h1:=HOL2.out;omega);have HOL3:Hid ((o2 ++ mapG used).length = L3):=(by unfold Hid;rw [List.length_append,<- HYL3.out];exact hL);obtain ⟨o3,ho⟩:∃ o,o = o2 ++ mapG used:=⟨_,rfl⟩;rw [<- ho] at hown HOL3;have HOE3:=Zh ho;have HO3:=Zh hown;have HB3:=Zh (HBc3.out.trans hb);have HQ3:Hid (w2.heap.size <= w3x.heap.size):=HB3.out.size;clear hown hg hb hL ho))
   have hgl3:=HGL.out
   have hm3:=HM3.out
   have u6:IntKind.i64.wrap ((syms.length:Int) + 49) = ((syms.length + 49:Nat):Int):=by rw [IntWalk.i64_in _ (by have:=HFL.out.2;omega)];omega
   have hsy:syms.length <= 1001:=by have:=HFL.out.2;omega
   obtain ⟨G,hG⟩:∃ G,(syms.length + 49) / 50 = G:=⟨_,rfl⟩
   have u7b:((syms.length:Int) + 49) / 50 = (G:Int):=by omega
   have u7c:wrap64 ((G:Int) + more) = (gl:Int):=by rw [hG] at hgl3;rw [hgl3];exact IntWalk.wrap64_in _ (by omega)
   have u7:((syms.length + 49:Nat):Int) / 50 = (G:Int):=by omega
   rw [hG] at hgl3
   clear hG
   refine (Zar 2 3 w3x (by decide) (by decide)).mono ?_
   rintro e wc4 ⟨gc4,rfl,hoc,hbc⟩
   have HOc4:=Zh (OwnS.below HO3.out hbc)
   have HBc4:=Zh (HB3.out.trans (hbc.mono HQ3.out))
   have HQc4:Hid (w2.heap.size <= wc4.heap.size):=HBc4.out.size
   have HYR4:=Zh (OwnS.row hoc)
   have HYL4:Hid (3 = (hbits 2 3).length):=(Zae _ _).symm
   clear hbc hoc
   go_wp2_with (first | (at_builtin;refine appAnyS Zad rfl (.tmp 62) (.tmp 63) rfl (show _ = Value.slice oa3 o3.length oc3 by rw [HOL3.out];rfl) HOc4.out HYL4.out rfl HYR4.out (by rw [HOL3.out];omega) (by rw [HOL3.out];omega) HQc4.out ?_;intro oa4 oc4 w4x hown hg hb;have HGR4:=Zh hg;obtain ⟨L4,hL⟩:∃ L,o3.length + 3 = L:=⟨_,rfl⟩;rw [hL];have hlb:L4 <= 332:=(by have h1:=HOL3.out;omega);have HOL4:Hid ((o3 ++ hbits 2 3).length = L4):=(by unfold Hid;rw [List.length_append,<- HYL4.out];exact hL);obtain ⟨o4,ho⟩:∃ o,o = o3 ++ hbits 2 3:=⟨_,rfl⟩;rw [<- ho] at hown HOL4;have HOE4:=Zh ho;have HO4:=Zh hown;have HB4:=Zh (HBc4.out.trans hb);have HQ4:Hid (w2.heap.size <= w4x.heap.size):=HB4.out.size;clear hown hg hb hL ho) | (at_make;go_loud (refine makeN (n:=gl) Zaz rfl _ _ rfl w4x.heap.size rfl rfl (by omega) (by omega) (Nat.le_refl _) ?_);intro w5g hown5 hg5;have HG5:=Zh hown5;have HGB5:=Zh (Below.of_grown hg5 (Nat.le_refl _) (fun k e=>by cases e));clear hown5 hg5))
   clear hgl3 hm3 u6 u7 u7b u7c
   rw [<- Zei (fun i=>(first + i) % 2) gl] at HG5
   obtain ⟨g5,hg5⟩:∃ g,w4x.heap.size = g:=⟨_,rfl⟩
   have HGS5:=Zh hg5
   rw [hg5] at HG5 HGB5 ⊢
   clear hg5
   go_loopw [21] (fun iv A=>∃ i:Nat,i <= gl /\ iv = .int .i64 (i:Nat) /\ Hid (OwnN 3 .i64 A g5 (some ⟨g5,0,none⟩) gl (partL (fun i=>(first + i) % 2) gl i)) /\ Hid (Below g5 w4x A)) (fun iv _=>gl - (intOf iv).toNat)
   case atStart=>exact ⟨0,Nat.zero_le _,rfl,HG5.out,HGB5.out⟩
   case round =>
    clear HG5 HGB5
    obtain ⟨i,hi,rfl,HG,HGB⟩:=hrel
    by_cases hlt:i < gl
    case pos =>
     have t2:decide ((i:Int) < (gl:Int)) = true:=by simp;omega
     have t2':decide (i < gl) = true:=by simp;omega
     obtain ⟨v,hv⟩:∃ v,(first + i) % 2 = v:=⟨_,rfl⟩
     have u8:((first:Int) + (i:Int)) % 2 = (v:Int):=by omega
     have HV:=Zh hv
     clear hv
     obtain ⟨g',he,_,_,hc,hf⟩:=HG.out.at (i:=i) (by rw [Zdr];exact hlt)
     cases he
     have HPT:Hid (OwnN 3 .i64 (wr.setCell ⟨g5,i,none⟩ (.int .i64 (v:Nat))) g5 (some ⟨g5,0,none⟩) gl (partL (fun i=>(first + i) % 2) gl (i + 1))):=by
      unfold Hid
      have h2:(fun i=>(first + i) % 2) i = v:=HV.out
      have h:(partL (fun i=>(first + i) % 2) gl i).set i v = partL (fun i=>(first + i) % 2) gl (i + 1):=(congrArg (fun z=>(partL (fun i=>(first + i) % 2) gl i).set i z) h2).symm.trans (Zeh (fun i=>(first + i) % 2) gl i hlt)
      rw [<- h]
      exact (OwnN.stored HG.out i _).1
     have HBT:=Zh (HGB.out.setCell (p:=⟨g5,i,none⟩) (Nat.le_refl g5) (.int .i64 (v:Nat)))
     clear HG HGB
     go_wp2_with fail
     go_roundw
     case rel=>exact ⟨i + 1,by omega,by go_num,HPT.out,HBT.out⟩
     case measure=>simp [intOf];omega
    obtain rfl:i = gl:=by omega
    have t2:decide (i < i) = false:=by simp
    rw [Zeg] at HG
    have HGA:=Zh (show Below w4x.heap.size w4x wr by rw [HGS5.out];exact HGB.out)
    have HGR:=Zh HG.out.row
    have HGRL:Hid (((List.range i).map fun i=>(first + i) % 2).length = i):=by unfold Hid;simp
    obtain ⟨grp,hgrp⟩:∃ grp,grp = (List.range i).map fun i=>(first + i) % 2:=⟨_,rfl⟩
    rw [<- hgrp] at HGR HGRL
    have HGE:=Zh hgrp
    have HG6:Hid (∀ x ∈ grp,x < 6):=fun x hx=>by
     rw [hgrp] at hx
     obtain ⟨y,_,rfl⟩:=List.mem_map.1 hx
     omega
    have HSE:=Zh (Zds (some ⟨g5,0,none⟩) i grp wr HGR.out HG6.out (by rw [HGRL.out];omega))
    have hse:(selectorsG grp).length <= 15 + 7 * i:=by
     unfold selectorsG
     rw [List.length_append,Zae]
     have:=Zfq grp [0,1,2,3,4,5] (by decide) (fun x hx=>by have:=HG6.out x hx;simp;omega)
     rw [HGRL.out] at this
     omega
    rw [HGRL.out] at HSE
    obtain ⟨sl,hsl⟩:∃ sl,(selectorsG grp).length = sl:=⟨_,rfl⟩
    rw [hsl] at HSE hse
    have HSL:=Zh hsl
    clear hgrp hsl
    go_wp2_with fail
    refine HSE.out.mono ?_
    rintro e wc5 ⟨gc5,cc5,rfl,hoc,hbc⟩
    replace hbc:=HGA.out.trans (hbc.mono HGA.out.size)
    have HOc5:=Zh (OwnS.below HO4.out hbc)
    have HBc5:=Zh (HB4.out.trans (hbc.mono HQ4.out))
    have HQc5:Hid (w2.heap.size <= wc5.heap.size):=HBc5.out.size
    have HYR5:=Zh (OwnS.row hoc)
    have HYL5:Hid (sl = (selectorsG grp).length):=HSL.out.symm
    clear hbc hoc
    go_wp2_with (first | (at_builtin;refine appAnyS Zad rfl (.tmp 85) (.tmp 87) rfl (show _ = Value.slice oa4 o4.length oc4 by rw [HOL4.out];rfl) HOc5.out HYL5.out rfl HYR5.out (by rw [HOL4.out];omega) (by rw [HOL4.out];omega) HQc5.out ?_;intro oa5 oc5 w5x hown hg hb;have HGR5:=Zh hg;obtain ⟨L5,hL⟩:∃ L,o4.length + sl = L:=⟨_,rfl⟩;rw [hL];have hlb:L5 <= 140400:=(by have h1:=HOL4.out;omega);have HOL5:Hid ((o4 ++ selectorsG grp).length = L5):=(by unfold Hid;rw [List.length_append,<- HYL5.out];exact hL);obtain ⟨o5,ho⟩:∃ o,o = o4 ++ selectorsG grp:=⟨_,rfl⟩;rw [<- ho] at hown HOL5;have HOE5:=Zh ho;have HO5:=Zh hown;have HB5:=Zh (HBc5.out.trans hb);have HQ5:Hid (w2.heap.size <= w5x.heap.size):=HB5.out.size;clear hown hg hb hL ho) | (at_make;go_loud (refine makeN (n:=n) Zbl rfl _ _ rfl w5x.heap.size rfl rfl (by omega) (by omega) (Nat.le_refl _) ?_);intro w6g hown6 hg6;have HG6:=Zh hown6;have HGB6:=Zh (Below.of_grown hg6 (Nat.le_refl _) (fun k e=>by cases e));clear hown6 hg6))
    rw [<- Zei (fun _=>k) n] at HG6
    obtain ⟨g6,hg6⟩:∃ g,w5x.heap.size = g:=⟨_,rfl⟩
    have HGS6:=Zh hg6
    rw [hg6] at HG6 HGB6 ⊢
    clear hg6
    go_loopw [23] (fun iv A=>∃ i:Nat,i <= n /\ iv = .int .i64 (i:Nat) /\ Hid (OwnN 5 .u8 A g6 (some ⟨g6,0,none⟩) n (partL (fun _=>k) n i)) /\ Hid (Below g6 w5x A)) (fun iv _=>n - (intOf iv).toNat)
    case atStart=>exact ⟨0,Nat.zero_le _,rfl,HG6.out,HGB6.out⟩
    case round =>
     clear HG6 HGB6
     obtain ⟨i,hi,rfl,HG,HGB⟩:=hrel
     by_cases hlt:i < n
     case pos =>
      have t2:decide ((i:Int) < (n:Int)) = true:=by simp;omega
      have t2':decide (i < n) = true:=by simp;omega
      have u9:(k:Int) % 256 = (k:Int):=by omega
      obtain ⟨g',he,_,_,hc,hf⟩:=HG.out.at (i:=i) (by rw [Zdr];exact hlt)
      cases he
      have HPT:Hid (OwnN 5 .u8 (wr.setCell ⟨g6,i,none⟩ (.int .u8 (k:Nat))) g6 (some ⟨g6,0,none⟩) n (partL (fun _=>k) n (i + 1))):=by
       unfold Hid
       have h2:(fun _=>k) i = k:=rfl
       have h:(partL (fun _=>k) n i).set i k = partL (fun _=>k) n (i + 1):=(congrArg (fun z=>(partL (fun _=>k) n i).set i z) h2).symm.trans (Zeh (fun _=>k) n i hlt)
       rw [<- h]
       exact (OwnN.stored HG.out i _).1
      have HBT:=Zh (HGB.out.setCell (p:=⟨g6,i,none⟩) (Nat.le_refl g6) (.int .u8 (k:Nat)))
      clear HG HGB
      go_wp2_with fail
      go_roundw
      case rel=>exact ⟨i + 1,by omega,by go_num,HPT.out,HBT.out⟩
      case measure=>simp [intOf];omega
     obtain rfl:i = n:=by omega
     have t2:decide (i < i) = false:=by simp
     rw [Zeg] at HG
     have HGA:=Zh (show Below w5x.heap.size w5x wr by rw [HGS6.out];exact HGB.out)
     have HLR:=Zh HG.out
     have HLE:Hid ((List.range i).map (fun _=>k) = List.replicate i k):=by
      unfold Hid
      rw [List.map_const',List.length_range]
     rw [HLE.out] at HLR
     have HLL:Hid ((List.replicate i k).length = i):=List.length_replicate
     have HL256:Hid (∀ x ∈ List.replicate i k,x < 256):=fun x hx=>by rw [List.eq_of_mem_replicate hx];omega
     have hi0:2 <= i:=by have:=HNE.out;omega
     have HLG:=Zh (fun A (h:RowN .u8 A (some ⟨g6,0,none⟩) i (List.replicate i k))=>Zfj (some ⟨g6,0,none⟩) i (List.replicate i k) A h HL256.out (by rw [HLL.out];omega) (by rw [HLL.out];omega))
     have hlg:(lengthsG (List.replicate i k)).length <= 5 + 512 * i:=by
      unfold lengthsG
      rw [List.length_append,Zae]
      have hk256:(List.replicate i k).getD 0 0 < 256:=by
       rw [List.getD_eq_getElem?_getD]
       cases e:(List.replicate i k)[0]? with
       | none=>simp
       | some y=>exact HL256.out y (List.mem_of_getElem? e)
      have:=Zff (List.replicate i k) _ hk256 HL256.out
      rw [HLL.out] at this
      omega
     rw [HLL.out] at HLG
     obtain ⟨ln,hln⟩:∃ ln,lengthsG (List.replicate i k) = ln:=⟨_,rfl⟩
     rw [hln] at HLG hlg
     have HLN:=Zh hln
     obtain ⟨ll,hll⟩:∃ ll,ln.length = ll:=⟨_,rfl⟩
     rw [hll] at HLG hlg
     have HLLN:=Zh hll
     clear hln hll
     go_wp2_with fail
     refine (HLG.out wr HLR.out.row).mono ?_
     rintro e wc6 ⟨gc6,cc6,rfl,hoc,hbc⟩
     have HLc:=Zh (HLR.out.below hbc)
     replace hbc:=HGA.out.trans (hbc.mono HGA.out.size)
     have HOc6:=Zh (OwnS.below HO5.out hbc)
     have HBc6:=Zh (HB5.out.trans (hbc.mono HQ5.out))
     have HQc6:Hid (w2.heap.size <= wc6.heap.size):=HBc6.out.size
     have HYR6:=Zh (OwnS.row hoc)
     have HYL6:Hid (ll = (ln).length):=HLLN.out.symm
     clear hbc hoc
     go_wp2_with ((at_builtin;refine appAnyS Zad rfl (.tmp 101) (.tmp 103) rfl (show _ = Value.slice oa5 o5.length oc5 by rw [HOL5.out];rfl) HOc6.out HYL6.out rfl HYR6.out (by rw [HOL5.out];omega) (by rw [HOL5.out];omega) HQc6.out ?_;intro oa6 oc6 w6x hown hg hb;have HGR6:=Zh hg;obtain ⟨L6,hL⟩:∃ L,o5.length + ll = L:=⟨_,rfl⟩;rw [hL];have hlb:L6 <= 272800:=(by have h1:=HOL5.out;omega);have HOL6:Hid ((o5 ++ ln).length = L6):=(by unfold Hid;rw [List.length_append,<- HYL6.out];exact hL);obtain ⟨o6,ho⟩:∃ o,o = o5 ++ ln:=⟨_,rfl⟩;rw [<- ho] at hown HOL6;have HOE6:=Zh ho;have HO6:=Zh hown;have HB6:=Zh (HBc6.out.trans hb);have HQ6:Hid (w2.heap.size <= w6x.heap.size):=HB6.out.size;have HLN6:=Zh (HLc.out.kept hg (fun x hx e=>by cases hx;have h1:=(Zbz HO5.out (Zbr HOc6.out e)).2;have h2:=HGS6.out;omega));clear hown hg hb hL ho))
     refine (HLG.out w6x HLN6.out.row).mono ?_
     rintro e wc7 ⟨gc7,cc7,rfl,hoc,hbc⟩
     have HOc7:=Zh (OwnS.below HO6.out hbc)
     have HBc7:=Zh (HB6.out.trans (hbc.mono HQ6.out))
     have HQc7:Hid (w2.heap.size <= wc7.heap.size):=HBc7.out.size
     have HYR7:=Zh (OwnS.row hoc)
     have HYL7:Hid (ll = (ln).length):=HLLN.out.symm
     clear hbc hoc
     go_wp2_with ((at_builtin;refine appAnyS Zad rfl (.tmp 105) (.tmp 107) rfl (show _ = Value.slice oa6 o6.length oc6 by rw [HOL6.out];rfl) HOc7.out HYL7.out rfl HYR7.out (by rw [HOL6.out];omega) (by rw [HOL6.out];omega) HQc7.out ?_;intro oa7 oc7 w7x hown hg hb;have HGR7:=Zh hg;obtain ⟨L7,hL⟩:∃ L,o6.length + ll = L:=⟨_,rfl⟩;rw [hL];have hlb:L7 <= 405200:=(by have h1:=HOL6.out;omega);have HOL7:Hid ((o6 ++ ln).length = L7):=(by unfold Hid;rw [List.length_append,<- HYL7.out];exact hL);obtain ⟨o7,ho⟩:∃ o,o = o6 ++ ln:=⟨_,rfl⟩;rw [<- ho] at hown HOL7;have HOE7:=Zh ho;have HO7:=Zh hown;have HB7:=Zh (HBc7.out.trans hb);have HQ7:Hid (w2.heap.size <= w7x.heap.size):=HB7.out.size;clear hown hg hb hL ho))
     have HP7:Hid (o7 ++ symB k (syms.drop 0) = P):=by
      unfold Hid
      rw [HPP.out,HNE.out,HK.out,HLN.out,HOE7.out,HOE6.out,HOE5.out,HOE4.out,HOE3.out,HOE2.out,HOE1.out,HOE0.out,HGE.out]
      rfl
     have HPB:Hid (P.length <= 450000):=by
      unfold Hid
      rw [<- HP7.out,List.length_append,Zhm,List.drop_zero]
      have h1:=HOL7.out
      have:k * syms.length <= 9 * 1001:=Nat.mul_le_mul hk hsy
      omega
     go_loopw [19,24] (fun ov jv A=>∃ (j:Nat) (og:Option Addr) (oc:Nat) (o:List Nat),j <= syms.length /\ jv = .int .i64 (j:Nat) /\ ov = .slice og o.length oc /\ Hid (OwnB A w2.heap.size og oc o) /\ Hid (Below w2.heap.size w2 A) /\ Hid (o ++ symB k (syms.drop j) = P)) (fun _ jv _=>syms.length - (intOf jv).toNat)
     case atStart=>exact ⟨0,oa7,oc7,o7,Nat.zero_le _,rfl,by rw [HOL7.out],HO7.out,HB7.out,HP7.out⟩
     case round =>
      clear HP7
      obtain ⟨j,og,oc,o,hj,rfl,rfl,HO,HE,HF⟩:=hrel
      by_cases hlt:j < syms.length
      case neg =>
       obtain rfl:j = syms.length:=by omega
       have t3:decide (syms.length < syms.length) = false:=by simp
       go_wp2_with fail
       go_ret
       have he:o = P:=by have h:=HF.out;rw [List.drop_length] at h;simpa [symB] using h
       rw [<- he]
       exact ⟨og,oc,rfl,HO.out.mono HQ22.out,HE2.out.trans (HE.out.mono HQ22.out)⟩
      have t3:decide (j < syms.length) = true:=by simp;omega
      obtain ⟨sb,soff,rfl,_,hc⟩:=(HS2.out.below HE.out).at hlt
      have hxb:=HSY.out _ (List.getElem_mem hlt)
      have HDR:Hid (syms.drop j = syms[j] :: syms.drop (j + 1)):=List.drop_eq_getElem_cons hlt
      generalize syms[j] = x at *
      have HF2:Hid ((o ++ hbits x k) ++ symB k (syms.drop (j + 1)) = P):=by have h:=HF.out;rw [HDR.out] at h;unfold Hid;rw [List.append_assoc];exact h
      have hol:o.length + k <= 450000:=by
       have h1:=congrArg List.length HF2.out
       rw [List.length_append,List.length_append,Zae] at h1
       have:=HPB.out
       omega
      have HQW:Hid (w2.heap.size <= wr.heap.size):=HE.out.size
      have ux:(x:Int) % 4294967296 = (x:Int):=by omega
      have HBX:=Zh (Zar x k wr (by omega) (by omega))
      have HHL:Hid (k = (hbits x k).length):=(Zae _ _).symm
      clear HF
      go_wp2_with fail
      refine HBX.out.mono ?_
      rintro e wy ⟨gy,rfl,hoy,hby⟩
      have HOY:=Zh (OwnS.below HO.out hby)
      have HEY:=Zh (HE.out.trans (hby.mono HQW.out))
      have HQY:Hid (w2.heap.size <= wy.heap.size):=HEY.out.size
      have HRY:=Zh (OwnS.row hoy)
      clear hoy hby
      go_wp2_with (at_builtin;refine appAnyS Zad rfl (.tmp 115) (.tmp 122) rfl rfl HOY.out HHL.out rfl HRY.out (by omega) (by omega) HQY.out ?_;intro a7 c7 w7 hown7 hg7 hb7;have HO7:=Zh hown7;have HB7:=Zh hb7;clear hown7 hg7 hb7)
      go_roundw
      case rel=>exact ⟨j + 1,a7,c7,o ++ hbits x k,hlt,by go_num,by rw [List.length_append,<- HHL.out],HO7.out,HEY.out.trans HB7.out,HF2.out⟩
      case measure=>simp [intOf];omega
 case true =>
  have HMB:Hid (b = masked packed):=HBE.out
  rw [<- HMB.out] at HMA
  go_enter Try.func40,Try.ntmps40
  go_wp2_with fail
  refine HMA.out.mono ?_
  rintro e wm ⟨mg,mc,rfl,hom,hbm⟩
  have HBR:Hid (RowN .u8 wm mg mc b):=hom.row
  have HEB:Hid (Below q w wm):=hbm
  have HQB:Hid (q <= wm.heap.size):=by have:=hbm.size;have:=HQ.out;unfold Hid;omega
  clear hom hbm
  go_wp2_with fail
  refine (HTU.out mg mc wm HBR.out).mono ?_
  rintro e w1 ⟨tg,tc,rfl,ht1,hb1⟩
  have HE1:=Zh (HEB.out.trans (hb1.mono HQB.out))
  have HQ1:Hid (q <= w1.heap.size):=by have:=HE1.out.size;have:=HQ.out;unfold Hid;omega
  have HT1:=Zh ht1.row
  clear ht1 hb1
  go_wp2_with fail
  refine (HPU.out tg tc w1 HT1.out).mono ?_
  rintro e w2 ⟨ug,uc,sg,sc,rfl,hu2,hs2,hb2⟩
  have HE2:=Zh (HE1.out.trans (hb2.mono HQ1.out))
  have HQ22:Hid (q <= w2.heap.size):=by have:=HE2.out.size;have:=HQ.out;unfold Hid;omega
  have HU2:=Zh hu2.row
  have HS2:=Zh hs2.row
  clear hu2 hs2 hb2 HTU HPU HMA
  obtain ⟨n,hn⟩:∃ n,used.length + 2 = n:=⟨_,rfl⟩
  have hn258:n <= 258:=by have:=HFL.out.1;omega
  have un:IntKind.i64.wrap ((used.length:Int) + 2) = (n:Int):=by rw [IntWalk.i64_in _ (by omega)];omega
  have HNE:=Zh hn
  clear hn
  go_wp2_with fail
  go_loopw [18] (fun kv A=>∃ k:Nat,k <= 9 /\ kv = .int .i64 (k:Nat) /\ A = w2 /\ Hid (∀ j,j < k -> 2 ^ j < n)) (fun kv _=>10 - (intOf kv).toNat)
  case atStart=>exact ⟨0,by decide,rfl,rfl,fun j h=>absurd h (Nat.not_lt_zero j)⟩
  case round =>
   obtain ⟨k,hk,rfl,hw2,HJ⟩:=hrel
   replace hw2:=hw2.symm
   subst hw2
   obtain ⟨p,hp⟩:∃ p,2 ^ k = p:=⟨_,rfl⟩
   have hp512:p <= 512:=by rw [<- hp];exact Nat.pow_le_pow_right (by decide) (show k <= 9 from hk)
   have hpi:(2:Int) ^ k = (p:Int):=by rw [<- hp];simp
   have hpw:wrap64 ((2:Int) ^ k) = (p:Int):=by rw [hpi];exact IntWalk.wrap64_in _ (by omega)
   have HPW:=Zh hp
   clear hp hpi
   by_cases hkn:n <= p
   case neg =>
    have t1:decide ((p:Int) < (n:Int)) = true:=by simp;omega
    have t1':decide (p < n) = true:=by simp;omega
    have hk9:k + 1 <= 9:=by
     rcases Nat.lt_or_ge k 9 with h | h
     ·exact h
     ·exfalso
      have h9:2 ^ 9 <= 2 ^ k:=Nat.pow_le_pow_right (by decide) h
      rw [HPW.out] at h9
      have:512 <= p:=h9
      omega
    have HJ2:Hid (∀ j,j < k + 1 -> 2 ^ j < n):=fun j hj=>by
     rcases Nat.lt_or_ge j k with h2 | h2
     ·exact HJ.out j h2
     ·obtain rfl:j = k:=by omega
      rw [HPW.out];omega
    clear hkn
    go_wp2_with fail
    go_roundw
    case rel=>exact ⟨k + 1,hk9,by go_num,by trivial,HJ2.out⟩
    case measure=>simp [intOf];omega
   have t1:decide ((p:Int) < (n:Int)) = false:=by simp;omega
   have t1':decide (p < n) = false:=by simp;omega
   have hta0:ta <= 1000:=by have:=HTA.out;omega
   have hta3:(ta:Int) % 4294967296 = (ta:Int):=by omega
   go_wp2_with fail
   have HK:Hid (kOf n = k):=Zxj (by omega) HJ.out (by rw [HPW.out];exact hkn)
   refine (Zar sum 32 w2 hs (by decide)).mono ?_
   rintro e w0x ⟨g0,rfl,hoc,hbc⟩
   obtain ⟨o0,ho0⟩:∃ o,o = hbits sum 32:=⟨_,rfl⟩
   rw [<- ho0] at hoc
   have HO0:=Zh hoc
   have HOE0:=Zh ho0
   have HB0:=Zh hbc
   have HQ0:Hid (w2.heap.size <= w0x.heap.size):=HB0.out.size
   have HOL0:Hid (o0.length = 32):=by unfold Hid;rw [ho0,Zae]
   clear hoc hbc ho0
   go_wp2_with fail
   refine (Zar 1 1 w0x (by decide) (by decide)).mono ?_
   rintro e wc1 ⟨gc1,rfl,hoc,hbc⟩
   have HOc1:=Zh (OwnS.below HO0.out hbc)
   have HBc1:=Zh (HB0.out.trans (hbc.mono HQ0.out))
   have HQc1:Hid (w2.heap.size <= wc1.heap.size):=HBc1.out.size
   have HYR1:=Zh (OwnS.row hoc)
   have HYL1:Hid (1 = (hbits 1 1).length):=(Zae _ _).symm
   clear hbc hoc
   go_wp2_with ((at_builtin;refine appAnyS Zad rfl (.tmp 49) (.tmp 51) rfl (show _ = Value.slice (some ⟨g0,0,none⟩) o0.length 32 by rw [HOL0.out];rfl) HOc1.out HYL1.out rfl HYR1.out (by rw [HOL0.out];omega) (by rw [HOL0.out];omega) HQc1.out ?_;intro oa1 oc1 w1x hown hg hb;have HGR1:=Zh hg;obtain ⟨L1,hL⟩:∃ L,o0.length + 1 = L:=⟨_,rfl⟩;rw [hL];have hlb:L1 <= 33:=(by have h1:=HOL0.out;omega);have HOL1:Hid ((o0 ++ hbits 1 1).length = L1):=(by unfold Hid;rw [List.length_append,<- HYL1.out];exact hL);obtain ⟨o1,ho⟩:∃ o,o = o0 ++ hbits 1 1:=⟨_,rfl⟩;rw [<- ho] at hown HOL1;have HOE1:=Zh ho;have HO1:=Zh hown;have HB1:=Zh (HBc1.out.trans hb);have HQ1:Hid (w2.heap.size <= w1x.heap.size):=HB1.out.size;clear hown hg hb hL ho))
   refine (Zar ta 24 w1x (by have:=HTA.out;omega) (by decide)).mono ?_
   rintro e wc2 ⟨gc2,rfl,hoc,hbc⟩
   have HOc2:=Zh (OwnS.below HO1.out hbc)
   have HBc2:=Zh (HB1.out.trans (hbc.mono HQ1.out))
   have HQc2:Hid (w2.heap.size <= wc2.heap.size):=HBc2.out.size
   have HYR2:=Zh (OwnS.row hoc)
   have HYL2:Hid (24 = (hbits ta 24).length):=(Zae _ _).symm
   clear hbc hoc
   go_wp2_with ((at_builtin;refine appAnyS Zad rfl (.tmp 53) (.tmp 56) rfl (show _ = Value.slice oa1 o1.length oc1 by rw [HOL1.out];rfl) HOc2.out HYL2.out rfl HYR2.out (by rw [HOL1.out];omega) (by rw [HOL1.out];omega) HQc2.out ?_;intro oa2 oc2 w2x hown hg hb;have HGR2:=Zh hg;obtain ⟨L2,hL⟩:∃ L,o1.length + 24 = L:=⟨_,rfl⟩;rw [hL];have hlb:L2 <= 57:=(by have h1:=HOL1.out;omega);have HOL2:Hid ((o1 ++ hbits ta 24).length = L2):=(by unfold Hid;rw [List.length_append,<- HYL2.out];exact hL);obtain ⟨o2,ho⟩:∃ o,o = o1 ++ hbits ta 24:=⟨_,rfl⟩;rw [<- ho] at hown HOL2;have HOE2:=Zh ho;have HO2:=Zh hown;have HB2:=Zh (HBc2.out.trans hb);have HQ2:Hid (w2.heap.size <= w2x.heap.size):=HB2.out.size;clear hown hg hb hL ho))
   have HMU:Hid ((mapG used).length <= 272):=by unfold Hid mapG;rw [List.length_append,Zbf];have:=Zfk used 16;omega
   obtain ⟨mu,hmu⟩:∃ mu,(mapG used).length = mu:=⟨_,rfl⟩
   have hmu2:mu <= 272:=by have:=HMU.out;omega
   have HRU:=Zh (Zma ug uc used w2x (HU2.out.below HB2.out) HUL.out (by have:=HFL.out.1;omega))
   rw [hmu] at HRU
   have HMUL:=Zh hmu
   clear hmu
   refine HRU.out.mono ?_
   rintro e wc3 ⟨gc3,cc3,rfl,hoc,hbc⟩
   have HOc3:=Zh (OwnS.below HO2.out hbc)
   have HBc3:=Zh (HB2.out.trans (hbc.mono HQ2.out))
   have HQc3:Hid (w2.heap.size <= wc3.heap.size):=HBc3.out.size
   have HYR3:=Zh (OwnS.row hoc)
   have HYL3:Hid (mu = (mapG used).length):=HMUL.out.symm
   clear hbc hoc
   go_wp2_with ((at_builtin;refine appAnyS Zad rfl (.tmp 58) (.tmp 60) rfl (show _ = Value.slice oa2 o2.length oc2 by rw [HOL2.out];rfl) HOc3.out HYL3.out rfl HYR3.out (by rw [HOL2.out];omega) (by rw [HOL2.out];omega) HQc3.out ?_;intro oa3 oc3 w3x hown hg hb;have HGR3:=Zh hg;obtain ⟨L3,hL⟩:∃ L,o2.length + mu = L:=⟨_,rfl⟩;rw [hL];have hlb:L3 <= 329:=(by have h1:=HOL2.out;omega);have HOL3:Hid ((o2 ++ mapG used).length = L3):=(by unfold Hid;rw [List.length_append,<- HYL3.out];exact hL);obtain ⟨o3,ho⟩:∃ o,o = o2 ++ mapG used:=⟨_,rfl⟩;rw [<- ho] at hown HOL3;have HOE3:=Zh ho;have HO3:=Zh hown;have HB3:=Zh (HBc3.out.trans hb);have HQ3:Hid (w2.heap.size <= w3x.heap.size):=HB3.out.size;clear hown hg hb hL ho))
   have hgl3:=HGL.out
   have hm3:=HM3.out
   have u6:IntKind.i64.wrap ((syms.length:Int) + 49) = ((syms.length + 49:Nat):Int):=by rw [IntWalk.i64_in _ (by have:=HFL.out.2;omega)];omega
   have hsy:syms.length <= 1001:=by have:=HFL.out.2;omega
   obtain ⟨G,hG⟩:∃ G,(syms.length + 49) / 50 = G:=⟨_,rfl⟩
   have u7b:((syms.length:Int) + 49) / 50 = (G:Int):=by omega
   have u7c:wrap64 ((G:Int) + more) = (gl:Int):=by rw [hG] at hgl3;rw [hgl3];exact IntWalk.wrap64_in _ (by omega)
   have u7:((syms.length + 49:Nat):Int) / 50 = (G:Int):=by omega
   rw [hG] at hgl3
   clear hG
   refine (Zar 2 3 w3x (by decide) (by decide)).mono ?_
   rintro e wc4 ⟨gc4,rfl,hoc,hbc⟩
   have HOc4:=Zh (OwnS.below HO3.out hbc)
   have HBc4:=Zh (HB3.out.trans (hbc.mono HQ3.out))
   have HQc4:Hid (w2.heap.size <= wc4.heap.size):=HBc4.out.size
   have HYR4:=Zh (OwnS.row hoc)
   have HYL4:Hid (3 = (hbits 2 3).length):=(Zae _ _).symm
   clear hbc hoc
   go_wp2_with (first | (at_builtin;refine appAnyS Zad rfl (.tmp 62) (.tmp 63) rfl (show _ = Value.slice oa3 o3.length oc3 by rw [HOL3.out];rfl) HOc4.out HYL4.out rfl HYR4.out (by rw [HOL3.out];omega) (by rw [HOL3.out];omega) HQc4.out ?_;intro oa4 oc4 w4x hown hg hb;have HGR4:=Zh hg;obtain ⟨L4,hL⟩:∃ L,o3.length + 3 = L:=⟨_,rfl⟩;rw [hL];have hlb:L4 <= 332:=(by have h1:=HOL3.out;omega);have HOL4:Hid ((o3 ++ hbits 2 3).length = L4):=(by unfold Hid;rw [List.length_append,<- HYL4.out];exact hL);obtain ⟨o4,ho⟩:∃ o,o = o3 ++ hbits 2 3:=⟨_,rfl⟩;rw [<- ho] at hown HOL4;have HOE4:=Zh ho;have HO4:=Zh hown;have HB4:=Zh (HBc4.out.trans hb);have HQ4:Hid (w2.heap.size <= w4x.heap.size):=HB4.out.size;clear hown hg hb hL ho) | (at_make;go_loud (refine makeN (n:=gl) Zaz rfl _ _ rfl w4x.heap.size rfl rfl (by omega) (by omega) (Nat.le_refl _) ?_);intro w5g hown5 hg5;have HG5:=Zh hown5;have HGB5:=Zh (Below.of_grown hg5 (Nat.le_refl _) (fun k e=>by cases e));clear hown5 hg5))
   clear hgl3 hm3 u6 u7 u7b u7c
   rw [<- Zei (fun i=>(first + i) % 2) gl] at HG5
   obtain ⟨g5,hg5⟩:∃ g,w4x.heap.size = g:=⟨_,rfl⟩
   have HGS5:=Zh hg5
   rw [hg5] at HG5 HGB5 ⊢
   clear hg5
   go_loopw [21] (fun iv A=>∃ i:Nat,i <= gl /\ iv = .int .i64 (i:Nat) /\ Hid (OwnN 3 .i64 A g5 (some ⟨g5,0,none⟩) gl (partL (fun i=>(first + i) % 2) gl i)) /\ Hid (Below g5 w4x A)) (fun iv _=>gl - (intOf iv).toNat)
   case atStart=>exact ⟨0,Nat.zero_le _,rfl,HG5.out,HGB5.out⟩
   case round =>
    clear HG5 HGB5
    obtain ⟨i,hi,rfl,HG,HGB⟩:=hrel
    by_cases hlt:i < gl
    case pos =>
     have t2:decide ((i:Int) < (gl:Int)) = true:=by simp;omega
     have t2':decide (i < gl) = true:=by simp;omega
     obtain ⟨v,hv⟩:∃ v,(first + i) % 2 = v:=⟨_,rfl⟩
     have u8:((first:Int) + (i:Int)) % 2 = (v:Int):=by omega
     have HV:=Zh hv
     clear hv
     obtain ⟨g',he,_,_,hc,hf⟩:=HG.out.at (i:=i) (by rw [Zdr];exact hlt)
     cases he
     have HPT:Hid (OwnN 3 .i64 (wr.setCell ⟨g5,i,none⟩ (.int .i64 (v:Nat))) g5 (some ⟨g5,0,none⟩) gl (partL (fun i=>(first + i) % 2) gl (i + 1))):=by
      unfold Hid
      have h2:(fun i=>(first + i) % 2) i = v:=HV.out
      have h:(partL (fun i=>(first + i) % 2) gl i).set i v = partL (fun i=>(first + i) % 2) gl (i + 1):=(congrArg (fun z=>(partL (fun i=>(first + i) % 2) gl i).set i z) h2).symm.trans (Zeh (fun i=>(first + i) % 2) gl i hlt)
      rw [<- h]
      exact (OwnN.stored HG.out i _).1
     have HBT:=Zh (HGB.out.setCell (p:=⟨g5,i,none⟩) (Nat.le_refl g5) (.int .i64 (v:Nat)))
     clear HG HGB
     go_wp2_with fail
     go_roundw
     case rel=>exact ⟨i + 1,by omega,by go_num,HPT.out,HBT.out⟩
     case measure=>simp [intOf];omega
    obtain rfl:i = gl:=by omega
    have t2:decide (i < i) = false:=by simp
    rw [Zeg] at HG
    have HGA:=Zh (show Below w4x.heap.size w4x wr by rw [HGS5.out];exact HGB.out)
    have HGR:=Zh HG.out.row
    have HGRL:Hid (((List.range i).map fun i=>(first + i) % 2).length = i):=by unfold Hid;simp
    obtain ⟨grp,hgrp⟩:∃ grp,grp = (List.range i).map fun i=>(first + i) % 2:=⟨_,rfl⟩
    rw [<- hgrp] at HGR HGRL
    have HGE:=Zh hgrp
    have HG6:Hid (∀ x ∈ grp,x < 6):=fun x hx=>by
     rw [hgrp] at hx
     obtain ⟨y,_,rfl⟩:=List.mem_map.1 hx
     omega
    have HSE:=Zh (Zds (some ⟨g5,0,none⟩) i grp wr HGR.out HG6.out (by rw [HGRL.out];omega))
    have hse:(selectorsG grp).length <= 15 + 7 * i:=by
     unfold selectorsG
     rw [List.length_append,Zae]
     have:=Zfq grp [0,1,2,3,4,5] (by decide) (fun x hx=>by have:=HG6.out x hx;simp;omega)
     rw [HGRL.out] at this
     omega
    rw [HGRL.out] at HSE
    obtain ⟨sl,hsl⟩:∃ sl,(selectorsG grp).length = sl:=⟨_,rfl⟩
    rw [hsl] at HSE hse
    have HSL:=Zh hsl
    clear hgrp hsl
    go_wp2_with fail
    refine HSE.out.mono ?_
    rintro e wc5 ⟨gc5,cc5,rfl,hoc,hbc⟩
    replace hbc:=HGA.out.trans (hbc.mono HGA.out.size)
    have HOc5:=Zh (OwnS.below HO4.out hbc)
    have HBc5:=Zh (HB4.out.trans (hbc.mono HQ4.out))
    have HQc5:Hid (w2.heap.size <= wc5.heap.size):=HBc5.out.size
    have HYR5:=Zh (OwnS.row hoc)
    have HYL5:Hid (sl = (selectorsG grp).length):=HSL.out.symm
    clear hbc hoc
    go_wp2_with (first | (at_builtin;refine appAnyS Zad rfl (.tmp 85) (.tmp 87) rfl (show _ = Value.slice oa4 o4.length oc4 by rw [HOL4.out];rfl) HOc5.out HYL5.out rfl HYR5.out (by rw [HOL4.out];omega) (by rw [HOL4.out];omega) HQc5.out ?_;intro oa5 oc5 w5x hown hg hb;have HGR5:=Zh hg;obtain ⟨L5,hL⟩:∃ L,o4.length + sl = L:=⟨_,rfl⟩;rw [hL];have hlb:L5 <= 140400:=(by have h1:=HOL4.out;omega);have HOL5:Hid ((o4 ++ selectorsG grp).length = L5):=(by unfold Hid;rw [List.length_append,<- HYL5.out];exact hL);obtain ⟨o5,ho⟩:∃ o,o = o4 ++ selectorsG grp:=⟨_,rfl⟩;rw [<- ho] at hown HOL5;have HOE5:=Zh ho;have HO5:=Zh hown;have HB5:=Zh (HBc5.out.trans hb);have HQ5:Hid (w2.heap.size <= w5x.heap.size):=HB5.out.size;clear hown hg hb hL ho) | (at_make;go_loud (refine makeN (n:=n) Zbl rfl _ _ rfl w5x.heap.size rfl rfl (by omega) (by omega) (Nat.le_refl _) ?_);intro w6g hown6 hg6;have HG6:=Zh hown6;have HGB6:=Zh (Below.of_grown hg6 (Nat.le_refl _) (fun k e=>by cases e));clear hown6 hg6))
    rw [<- Zei (fun _=>k) n] at HG6
    obtain ⟨g6,hg6⟩:∃ g,w5x.heap.size = g:=⟨_,rfl⟩
    have HGS6:=Zh hg6
    rw [hg6] at HG6 HGB6 ⊢
    clear hg6
    go_loopw [23] (fun iv A=>∃ i:Nat,i <= n /\ iv = .int .i64 (i:Nat) /\ Hid (OwnN 5 .u8 A g6 (some ⟨g6,0,none⟩) n (partL (fun _=>k) n i)) /\ Hid (Below g6 w5x A)) (fun iv _=>n - (intOf iv).toNat)
    case atStart=>exact ⟨0,Nat.zero_le _,rfl,HG6.out,HGB6.out⟩
    case round =>
     clear HG6 HGB6
     obtain ⟨i,hi,rfl,HG,HGB⟩:=hrel
     by_cases hlt:i < n
     case pos =>
      have t2:decide ((i:Int) < (n:Int)) = true:=by simp;omega
      have t2':decide (i < n) = true:=by simp;omega
      have u9:(k:Int) % 256 = (k:Int):=by omega
      obtain ⟨g',he,_,_,hc,hf⟩:=HG.out.at (i:=i) (by rw [Zdr];exact hlt)
      cases he
      have HPT:Hid (OwnN 5 .u8 (wr.setCell ⟨g6,i,none⟩ (.int .u8 (k:Nat))) g6 (some ⟨g6,0,none⟩) n (partL (fun _=>k) n (i + 1))):=by
       unfold Hid
       have h2:(fun _=>k) i = k:=rfl
       have h:(partL (fun _=>k) n i).set i k = partL (fun _=>k) n (i + 1):=(congrArg (fun z=>(partL (fun _=>k) n i).set i z) h2).symm.trans (Zeh (fun _=>k) n i hlt)
       rw [<- h]
       exact (OwnN.stored HG.out i _).1
      have HBT:=Zh (HGB.out.setCell (p:=⟨g6,i,none⟩) (Nat.le_refl g6) (.int .u8 (k:Nat)))
      clear HG HGB
      go_wp2_with fail
      go_roundw
      case rel=>exact ⟨i + 1,by omega,by go_num,HPT.out,HBT.out⟩
      case measure=>simp [intOf];omega
     obtain rfl:i = n:=by omega
     have t2:decide (i < i) = false:=by simp
     rw [Zeg] at HG
     have HGA:=Zh (show Below w5x.heap.size w5x wr by rw [HGS6.out];exact HGB.out)
     have HLR:=Zh HG.out
     have HLE:Hid ((List.range i).map (fun _=>k) = List.replicate i k):=by
      unfold Hid
      rw [List.map_const',List.length_range]
     rw [HLE.out] at HLR
     have HLL:Hid ((List.replicate i k).length = i):=List.length_replicate
     have HL256:Hid (∀ x ∈ List.replicate i k,x < 256):=fun x hx=>by rw [List.eq_of_mem_replicate hx];omega
     have hi0:2 <= i:=by have:=HNE.out;omega
     have HLG:=Zh (fun A (h:RowN .u8 A (some ⟨g6,0,none⟩) i (List.replicate i k))=>Zfj (some ⟨g6,0,none⟩) i (List.replicate i k) A h HL256.out (by rw [HLL.out];omega) (by rw [HLL.out];omega))
     have hlg:(lengthsG (List.replicate i k)).length <= 5 + 512 * i:=by
      unfold lengthsG
      rw [List.length_append,Zae]
      have hk256:(List.replicate i k).getD 0 0 < 256:=by
       rw [List.getD_eq_getElem?_getD]
       cases e:(List.replicate i k)[0]? with
       | none=>simp
       | some y=>exact HL256.out y (List.mem_of_getElem? e)
      have:=Zff (List.replicate i k) _ hk256 HL256.out
      rw [HLL.out] at this
      omega
     rw [HLL.out] at HLG
     obtain ⟨ln,hln⟩:∃ ln,lengthsG (List.replicate i k) = ln:=⟨_,rfl⟩
     rw [hln] at HLG hlg
     have HLN:=Zh hln
     obtain ⟨ll,hll⟩:∃ ll,ln.length = ll:=⟨_,rfl⟩
     rw [hll] at HLG hlg
     have HLLN:=Zh hll
     clear hln hll
     go_wp2_with fail
     refine (HLG.out wr HLR.out.row).mono ?_
     rintro e wc6 ⟨gc6,cc6,rfl,hoc,hbc⟩
     have HLc:=Zh (HLR.out.below hbc)
     replace hbc:=HGA.out.trans (hbc.mono HGA.out.size)
     have HOc6:=Zh (OwnS.below HO5.out hbc)
     have HBc6:=Zh (HB5.out.trans (hbc.mono HQ5.out))
     have HQc6:Hid (w2.heap.size <= wc6.heap.size):=HBc6.out.size
     have HYR6:=Zh (OwnS.row hoc)
     have HYL6:Hid (ll = (ln).length):=HLLN.out.symm
     clear hbc hoc
     go_wp2_with ((at_builtin;refine appAnyS Zad rfl (.tmp 101) (.tmp 103) rfl (show _ = Value.slice oa5 o5.length oc5 by rw [HOL5.out];rfl) HOc6.out HYL6.out rfl HYR6.out (by rw [HOL5.out];omega) (by rw [HOL5.out];omega) HQc6.out ?_;intro oa6 oc6 w6x hown hg hb;have HGR6:=Zh hg;obtain ⟨L6,hL⟩:∃ L,o5.length + ll = L:=⟨_,rfl⟩;rw [hL];have hlb:L6 <= 272800:=(by have h1:=HOL5.out;omega);have HOL6:Hid ((o5 ++ ln).length = L6):=(by unfold Hid;rw [List.length_append,<- HYL6.out];exact hL);obtain ⟨o6,ho⟩:∃ o,o = o5 ++ ln:=⟨_,rfl⟩;rw [<- ho] at hown HOL6;have HOE6:=Zh ho;have HO6:=Zh hown;have HB6:=Zh (HBc6.out.trans hb);have HQ6:Hid (w2.heap.size <= w6x.heap.size):=HB6.out.size;have HLN6:=Zh (HLc.out.kept hg (fun x hx e=>by cases hx;have h1:=(Zbz HO5.out (Zbr HOc6.out e)).2;have h2:=HGS6.out;omega));clear hown hg hb hL ho))
     refine (HLG.out w6x HLN6.out.row).mono ?_
     rintro e wc7 ⟨gc7,cc7,rfl,hoc,hbc⟩
     have HOc7:=Zh (OwnS.below HO6.out hbc)
     have HBc7:=Zh (HB6.out.trans (hbc.mono HQ6.out))
     have HQc7:Hid (w2.heap.size <= wc7.heap.size):=HBc7.out.size
     have HYR7:=Zh (OwnS.row hoc)
     have HYL7:Hid (ll = (ln).length):=HLLN.out.symm
     clear hbc hoc
     go_wp2_with ((at_builtin;refine appAnyS Zad rfl (.tmp 105) (.tmp 107) rfl (show _ = Value.slice oa6 o6.length oc6 by rw [HOL6.out];rfl) HOc7.out HYL7.out rfl HYR7.out (by rw [HOL6.out];omega) (by rw [HOL6.out];omega) HQc7.out ?_;intro oa7 oc7 w7x hown hg hb;have HGR7:=Zh hg;obtain ⟨L7,hL⟩:∃ L,o6.length + ll = L:=⟨_,rfl⟩;rw [hL];have hlb:L7 <= 405200:=(by have h1:=HOL6.out;omega);have HOL7:Hid ((o6 ++ ln).length = L7):=(by unfold Hid;rw [List.length_append,<- HYL7.out];exact hL);obtain ⟨o7,ho⟩:∃ o,o = o6 ++ ln:=⟨_,rfl⟩;rw [<- ho] at hown HOL7;have HOE7:=Zh ho;have HO7:=Zh hown;have HB7:=Zh (HBc7.out.trans hb);have HQ7:Hid (w2.heap.size <= w7x.heap.size):=HB7.out.size;clear hown hg hb hL ho))
     have HP7:Hid (o7 ++ symB k (syms.drop 0) = P):=by
      unfold Hid
      rw [HPP.out,HNE.out,HK.out,HLN.out,HOE7.out,HOE6.out,HOE5.out,HOE4.out,HOE3.out,HOE2.out,HOE1.out,HOE0.out,HGE.out]
      rfl
     have HPB:Hid (P.length <= 450000):=by
      unfold Hid
      rw [<- HP7.out,List.length_append,Zhm,List.drop_zero]
      have h1:=HOL7.out
      have:k * syms.length <= 9 * 1001:=Nat.mul_le_mul hk hsy
      omega
     go_loopw [19,24] (fun ov jv A=>∃ (j:Nat) (og:Option Addr) (oc:Nat) (o:List Nat),j <= syms.length /\ jv = .int .i64 (j:Nat) /\ ov = .slice og o.length oc /\ Hid (OwnB A w2.heap.size og oc o) /\ Hid (Below w2.heap.size w2 A) /\ Hid (o ++ symB k (syms.drop j) = P)) (fun _ jv _=>syms.length - (intOf jv).toNat)
     case atStart=>exact ⟨0,oa7,oc7,o7,Nat.zero_le _,rfl,by rw [HOL7.out],HO7.out,HB7.out,HP7.out⟩
     case round =>
      clear HP7
      obtain ⟨j,og,oc,o,hj,rfl,rfl,HO,HE,HF⟩:=hrel
      by_cases hlt:j < syms.length
      case neg =>
       obtain rfl:j = syms.length:=by omega
       have t3:decide (syms.length < syms.length) = false:=by simp
       go_wp2_with fail
       go_ret
       have he:o = P:=by have h:=HF.out;rw [List.drop_length] at h;simpa [symB] using h
       rw [<- he]
       exact ⟨og,oc,rfl,HO.out.mono HQ22.out,HE2.out.trans (HE.out.mono HQ22.out)⟩
      have t3:decide (j < syms.length) = true:=by simp;omega
      obtain ⟨sb,soff,rfl,_,hc⟩:=(HS2.out.below HE.out).at hlt
      have hxb:=HSY.out _ (List.getElem_mem hlt)
      have HDR:Hid (syms.drop j = syms[j] :: syms.drop (j + 1)):=List.drop_eq_getElem_cons hlt
      generalize syms[j] = x at *
      have HF2:Hid ((o ++ hbits x k) ++ symB k (syms.drop (j + 1)) = P):=by have h:=HF.out;rw [HDR.out] at h;unfold Hid;rw [List.append_assoc];exact h
      have hol:o.length + k <= 450000:=by
       have h1:=congrArg List.length HF2.out
       rw [List.length_append,List.length_append,Zae] at h1
       have:=HPB.out
       omega
      have HQW:Hid (w2.heap.size <= wr.heap.size):=HE.out.size
      have ux:(x:Int) % 4294967296 = (x:Int):=by omega
      have HBX:=Zh (Zar x k wr (by omega) (by omega))
      have HHL:Hid (k = (hbits x k).length):=(Zae _ _).symm
      clear HF
      go_wp2_with fail
      refine HBX.out.mono ?_
      rintro e wy ⟨gy,rfl,hoy,hby⟩
      have HOY:=Zh (OwnS.below HO.out hby)
      have HEY:=Zh (HE.out.trans (hby.mono HQW.out))
      have HQY:Hid (w2.heap.size <= wy.heap.size):=HEY.out.size
      have HRY:=Zh (OwnS.row hoy)
      clear hoy hby
      go_wp2_with (at_builtin;refine appAnyS Zad rfl (.tmp 115) (.tmp 122) rfl rfl HOY.out HHL.out rfl HRY.out (by omega) (by omega) HQY.out ?_;intro a7 c7 w7 hown7 hg7 hb7;have HO7:=Zh hown7;have HB7:=Zh hb7;clear hown7 hg7 hb7)
      go_roundw
      case rel=>exact ⟨j + 1,a7,c7,o ++ hbits x k,hlt,by go_num,by rw [List.length_append,<- HHL.out],HO7.out,HEY.out.trans HB7.out,HF2.out⟩
      case measure=>simp [intOf];omega
end Go.Proofs.Ytnkpnjnfddjfpaa

namespace Go.Proofs.Ytnkpnjnfddjfpaa.M27
open M01 M02 M04 M06 M10
theorem Zcy {B:List Nat} {a n x a2:Nat} (h:numG B a n = some (x,a2)):a + n = a2 /\ x < 2 ^ n:=by
 unfold numG at h
 split at h
 ·simp only [Option.some.injEq,Prod.mk.injEq] at h
  exact ⟨h.2,h.1 ▸ Zbq _ _ _⟩
 ·cases h
theorem Zgg (B:List Nat) (f0:Nat):∀ m g a out l a2,pickL B f0 m g a out = some (l,a2) -> a <= a2
 | 0,g,a,out,l,a2,h=>by simp only [pickL,Option.some.injEq,Prod.mk.injEq] at h;omega
 | m + 1,g,a,out,l,a2,h=>by
  unfold pickL at h
  split at h
  ·split at h
   ·have:=Zgg B f0 m _ _ _ l a2 h;omega
   ·cases h
  ·exact Zgg B f0 m _ _ _ l a2 h
theorem Zqb {B:List Nat} {a a2:Nat} {l:List Nat} (h:pickG B a = some (l,a2)):a <= a2:=by
 unfold pickG at h
 split at h
 ·split at h
  ·rename_i out at2 heq
   have:=Zgg _ _ _ _ _ _ _ _ heq
   split at h
   ·cases h
   ·simp only [Option.some.injEq,Prod.mk.injEq] at h;omega
  ·cases h
 ·cases h
theorem Zhy (B:List Nat) (n:Nat):∀ f k a out l a2,lenL B f k a n out = some (l,a2) -> a <= a2
 | 0,k,a,out,l,a2,h=>by simp [lenL] at h
 | f + 1,k,a,out,l,a2,h=>by
  unfold lenL at h
  split at h
  ·simp only [Option.some.injEq,Prod.mk.injEq] at h;omega
  ·split at h
   ·cases h
   ·split at h
    ·have:=Zhy B n f _ _ _ l a2 h;omega
    ·split at h
     ·cases h
     ·have:=Zhy B n f _ _ _ l a2 h;omega
theorem Zsm {B:List Nat} {a n a2:Nat} {l:List Nat} (h:lenG B a n = some (l,a2)):a <= a2:=by
 unfold lenG at h
 obtain ⟨p,h1,h2⟩:=Option.bind_eq_some_iff.1 h
 have:=(Zcy (x:=p.1) (a2:=p.2) h1).1
 have:=Zhy _ _ _ _ _ _ _ _ h2
 omega
theorem Zji (B:List Nat) (tables:Nat):∀ f k a r a2,onesG B tables f k a = some (r,a2) -> a <= a2
 | 0,k,a,r,a2,h=>by simp [onesG] at h
 | f + 1,k,a,r,a2,h=>by
  unfold onesG at h
  split at h
  ·cases h
  ·split at h
   ·simp only [Option.some.injEq,Prod.mk.injEq] at h;omega
   ·split at h
    ·cases h
    ·have:=Zji B tables f _ _ r a2 h;omega
theorem Zmi (B:List Nat) (tables:Nat):∀ n l a out r a2,selL B tables n l a out = some (r,a2) -> a <= a2
 | 0,l,a,out,r,a2,h=>by simp only [selL,Option.some.injEq,Prod.mk.injEq] at h;omega
 | n + 1,l,a,out,r,a2,h=>by
  unfold selL at h
  obtain ⟨p,h1,h2⟩:=Option.bind_eq_some_iff.1 h
  have:=Zji B tables _ _ _ p.1 p.2 h1
  have:=Zmi B tables n _ _ _ r a2 h2
  omega
theorem Zts {B:List Nat} {a n a2:Nat} {l:List Nat} (h:selG B a n = some (l,a2)):a <= a2:=by
 unfold selG at h
 obtain ⟨p,h1,h2⟩:=Option.bind_eq_some_iff.1 h
 have:=(Zcy (x:=p.1) (a2:=p.2) h1).1
 split at h2
 ·cases h2
 ·have:=Zmi _ _ _ _ _ _ _ _ h2
  omega
theorem Zld {F:TF} {B:List Nat}:∀ f x k a s a2,decF F B f x k a = some (s,a2) -> a <= a2
 | 0,x,k,a,s,a2,h=>by simp [decF] at h
 | f + 1,x,k,a,s,a2,h=>by
  unfold decF at h
  split at h
  ·cases h
  ·split at h
   ·simp only [Option.some.injEq,Prod.mk.injEq] at h;omega
   ·split at h
    ·have:=Zld f _ _ _ s a2 h;omega
    ·cases h
theorem Zjx (B:List Nat) (n:Nat):∀ m a out r a2,tabsL B n m a out = some (r,a2) -> a <= a2
 | 0,a,out,r,a2,h=>by simp only [tabsL,Option.some.injEq,Prod.mk.injEq] at h;omega
 | m + 1,a,out,r,a2,h=>by
  unfold tabsL at h
  obtain ⟨p,h1,h2⟩:=Option.bind_eq_some_iff.1 h
  have:=Zsm (l:=p.1) (a2:=p.2) h1
  split at h2
  ·have:=Zjx B n m _ _ r a2 h2;omega
  ·cases h2
theorem Zjw (B:List Nat) (tabs:List (List Nat)) (group:List Nat) (e:Nat):∀ f a out r a2,symsG B tabs group e f a out = some (r,a2) -> a <= a2
 | 0,a,out,r,a2,h=>by simp [symsG] at h
 | f + 1,a,out,r,a2,h=>by
  unfold symsG at h
  obtain ⟨p,h1,h2⟩:=Option.bind_eq_some_iff.1 h
  have h3:a <= p.2:=by
   unfold nextG sym at h1
   split at h1
   ·exact Zld _ _ _ _ p.1 p.2 h1
   ·cases h1
  split at h2
  ·simp only [Option.some.injEq,Prod.mk.injEq] at h2;omega
  ·have:=Zjw B tabs group e f _ _ r a2 h2;omega
theorem Zqz {B l:List Nat} {a most s a2:Nat} (h:blkG B a most = some (l,s,a2)) (hm:most <= 1000000):a < a2 /\ l.length <= most /\ (∀ x ∈ l,x < 256) /\ s < 4294967296:=by
 unfold blkG at h
 obtain ⟨p0,g0,h⟩:=Option.bind_eq_some_iff.1 h
 unfold blk1 at h
 obtain ⟨p1,g1,h⟩:=Option.bind_eq_some_iff.1 h
 unfold blk2 at h
 obtain ⟨p2,g2,h⟩:=Option.bind_eq_some_iff.1 h
 unfold blk3 at h
 obtain ⟨p3,g3,h⟩:=Option.bind_eq_some_iff.1 h
 unfold blk4 at h
 obtain ⟨p4,g4,h⟩:=Option.bind_eq_some_iff.1 h
 unfold blk5 at h
 split at h
 ·cases h
 obtain ⟨p5,g5,h⟩:=Option.bind_eq_some_iff.1 h
 unfold blk6 at h
 obtain ⟨p6,g6,h⟩:=Option.bind_eq_some_iff.1 h
 unfold blk7 at h
 obtain ⟨p7,g7,h⟩:=Option.bind_eq_some_iff.1 h
 unfold blk8 at h
 obtain ⟨f,g8,h⟩:=Option.bind_eq_some_iff.1 h
 obtain ⟨b,g9,h⟩:=Option.bind_eq_some_iff.1 h
 simp only [Option.some.injEq,Prod.mk.injEq] at h
 obtain ⟨h1,h2,h3⟩:=h
 have k0:=Zcy (x:=p0.1) (a2:=p0.2) g0
 have k1:=(Zcy (x:=p1.1) (a2:=p1.2) g1).1
 have k2:=(Zcy (x:=p2.1) (a2:=p2.2) g2).1
 have k3:=Zqb (l:=p3.1) (a2:=p3.2) g3
 have k4:=(Zcy (x:=p4.1) (a2:=p4.2) g4).1
 have k5:=Zts (l:=p5.1) (a2:=p5.2) g5
 have k6:=Zjx _ _ _ _ _ p6.1 p6.2 g6
 have k7:=Zjw _ _ _ _ _ _ _ p7.1 p7.2 g7
 obtain ⟨u1,u2,u3,u4⟩:=Zos (l:=p3.1) (at2:=p3.2) g3
 obtain ⟨v1,v2⟩:=Zlj u1 g8
 obtain ⟨w1,w2⟩:=Zny (fun x hx=>u4 x (v2 x hx)) g9
 refine ⟨by omega,?_,?_,by have:=k0.2;omega⟩
 ·rw [<- h1]
  split
  ·unfold masked;rw [Zaw];omega
  ·omega
 ·rw [<- h1]
  split
  ·exact Zch b w2 _
  ·exact w2
end Go.Proofs.Ytnkpnjnfddjfpaa.M27

namespace Go.Proofs.Ytnkpnjnfddjfpaa.M27
theorem Ztq (l:List Nat) (p:Nat):sayL l p 0 = say l:=by
 cases l with
 | nil=>rfl
 | cons c r=>simp [say,sayL]
theorem Zdt (c:Nat) (r:List Nat) (p run:Nat):sayL (c :: r) p run = if run = 4 then List.replicate c p ++ sayL r c 0 else c :: sayL r c (if run = 0 \/ c = p then run + 1 else 1):=rfl
theorem Zox (c:Nat) (r:List Nat):∀ n k,k + n <= 4 -> 1 <= k -> sayL (List.replicate n c ++ r) c k = List.replicate n c ++ sayL r c (k + n)
 | 0,k,_,_=>rfl
 | n + 1,k,h,h1=>by
  rw [List.replicate_succ,List.cons_append,List.cons_append,Zdt,if_neg (by omega),if_pos (.inr rfl),Zox c r n (k + 1) (by omega) (by omega),Nat.add_assoc,Nat.add_comm 1 n]
theorem Zno (c n:Nat) (r:List Nat) (h1:1 <= n) (h4:n <= 4):say (List.replicate n c ++ r) = List.replicate n c ++ sayL r c n:=by
 obtain ⟨m,rfl⟩:∃ m,n = m + 1:=⟨n - 1,by omega⟩
 rw [List.replicate_succ,List.cons_append,List.cons_append]
 show sayL _ 0 0 = _
 rw [Zdt,if_neg (by decide),if_pos (.inl rfl),Zox c r m 1 (by omega) (by omega),Nat.add_comm 1 m]
theorem Ztr (c n:Nat) (r:List Nat) (h1:1 <= n) (h4:n < 4) (hr:∀ d r',r = d :: r' -> d ≠ c):say (List.replicate n c ++ r) = List.replicate n c ++ say r:=by
 rw [Zno c n r h1 (by omega)]
 congr 1
 cases r with
 | nil=>rfl
 | cons d r' =>
  have:=hr d r' rfl
  show sayL _ c n = sayL _ 0 0
  rw [Zdt,Zdt,if_neg (by omega),if_neg (by omega),if_neg (by decide),if_pos (.inl rfl)]
theorem Zhk (c x:Nat) (r:List Nat):say (List.replicate 4 c ++ x :: r) = List.replicate 4 c ++ (List.replicate x c ++ say r):=by
 rw [Zno c 4 _ (by omega) (by omega)]
 congr 1
 rw [Zdt,if_pos rfl,Ztq]
theorem Zfp (c:Nat):say (List.replicate 4 c) = List.replicate 4 c:=by
 have:=Zno c 4 [] (by omega) (by omega)
 simpa [sayL] using this
theorem Zfo (K:Nat) (hK:1 <= K):∀ (l:List Nat) p run,(∀ x ∈ l,x <= K) -> (sayL l p run).length <= K * l.length
 | [],p,run,_=>by simp [sayL]
 | c :: r,p,run,h=>by
  unfold sayL
  have h1:=h c (by simp)
  have h2:=fun q k=>Zfo K hK r q k (fun x hx=>h x (by simp [hx]))
  split
  ·simp only [List.length_append,List.length_replicate,List.length_cons,Nat.mul_add]
   have:=h2 c 0
   omega
  ·simp only [List.length_cons,Nat.mul_add]
   have:=h2 c (if run = 0 \/ c = p then run + 1 else 1)
   omega
theorem Zdu (l:List Nat) (h:∀ x ∈ l,x < 256):(say l).length <= 255 * l.length:=Zfo 255 (by decide) l 0 0 (fun x hx=>by have:=h x hx;omega)
theorem Ztp (K:Nat):∀ (l:List Nat) p run,p < K -> (∀ x ∈ l,x < K) -> ∀ x ∈ sayL l p run,x < K
 | [],p,run,_,_=>by simp [sayL]
 | c :: r,p,run,hp,h=>by
  unfold sayL
  have h1:=h c (by simp)
  have h2:=fun q k hq=>Ztp K r q k hq (fun x hx=>h x (by simp [hx]))
  intro x hx
  split at hx
  ·rcases List.mem_append.1 hx with h3 | h3
   ·rw [List.eq_of_mem_replicate h3];exact hp
   ·exact h2 c 0 h1 x h3
  ·rcases List.mem_cons.1 hx with rfl | h3
   ·exact h1
   ·exact h2 c _ h1 x h3
theorem Zxn (l:List Nat) (h:∀ x ∈ l,x < 256):∀ x ∈ say l,x < 256:=Ztp 256 l 0 0 (by decide) h
theorem Zfe (p:List Nat) (c:Nat):∀ n i,i + n <= p.length -> (∀ j,j < n -> p.getD (i + j) 0 = c) -> p.drop i = List.replicate n c ++ p.drop (i + n)
 | 0,i,_,_=>rfl
 | n + 1,i,h,hj=>by
  have h0:=hj 0 (by omega)
  rw [Nat.add_zero,List.getD_eq_getElem?_getD,List.getElem?_eq_getElem (by omega:i < p.length)] at h0
  rw [List.drop_eq_getElem_cons (by omega:i < p.length),Zfe p c n (i + 1) (by omega) (fun j h=>by have:=hj (j + 1) (by omega);rwa [show i + (j + 1) = i + 1 + j by omega] at this),List.replicate_succ,List.cons_append,show i + 1 + n = i + (n + 1) by omega]
  congr 1
end Go.Proofs.Ytnkpnjnfddjfpaa.M27
namespace Go.Proofs.Ytnkpnjnfddjfpaa
open Go.RowKit M01 M02 M27
set_option maxRecDepth 100000 in
set_option maxHeartbeats 3200000 in
theorem Zte (a:Option Addr) (cap:Nat) (p:List Nat) (w:World) (hr:RowN .u8 w a cap p) (h256:∀ x ∈ p,x < 256) (hl:p.length <= 1000000) :
  Calls Try.prog 37 #[.slice a p.length cap] w fun e w'=>∃ g c,e = .returned (.slice g (say p).length c) /\ OwnN 5 .u8 w' w.heap.size g c (say p) /\ Below w.heap.size w w':=by
 have hsl:=Zdu p h256
 have HR:=Zh hr
 have H256:=Zh h256
 obtain ⟨q,hq⟩:∃ q,w.heap.size = q:=⟨_,rfl⟩
 rw [hq]
 have HQ:=Zh hq
 clear hr h256
 obtain ⟨S,hS⟩:∃ S,S = say p:=⟨_,rfl⟩
 rw [<- hS] at hsl ⊢
 have HSL:Hid (S.length <= 255000000):=by unfold Hid;omega
 have HS:Hid (S = [] ++ say (p.drop 0)):=by unfold Hid;simpa using hS
 have HPL:=Zh hl
 clear hS hsl
 go_enter Try.func37,Try.ntmps37
 go_wp2
 go_loopw [3,4] (fun x iv A=>∃ (i:Nat) (o:List Nat) (g:Option Addr) (c:Nat),i <= p.length /\ iv = .int .i64 (i:Nat) /\ x = .slice g o.length c /\ OwnN 5 .u8 A q g c o /\ Below q w A /\ Hid (S = o ++ say (p.drop i))) (fun x iv _=>p.length - (intOf iv).toNat)
 case atStart=>exact ⟨0,[],none,0,by omega,rfl,rfl,OwnN.nil _ _ _ _,Below.refl _ _,HS.out⟩
 case round =>
  clear hq HS
  obtain ⟨i,o,g,c,hi,rfl,rfl,hown,hbe,HF⟩:=hrel
  have HO:=Zh hown
  have HE:=Zh hbe
  clear hown hbe
  by_cases hlt:i < p.length
  ·have t0:decide (i < p.length) = true:=by simp;omega
   obtain ⟨y,hy⟩:∃ y,p.getD i 0 = y:=⟨_,rfl⟩
   have hPA:∀ k,k < p.length -> ∀ A,Below q w A -> ∃ b off,a = some ⟨b,off,none⟩ /\ A.cell? ⟨b,off + k,none⟩ = some (.int .u8 (p.getD k 0:Nat)):=fun k hk A hA=>by
    obtain ⟨b,off,h1,_,h2⟩:=(HR.out.below (HQ.out ▸ hA)).at hk
    refine ⟨b,off,h1,?_⟩
    rw [List.getD_eq_getElem?_getD,List.getElem?_eq_getElem hk]
    exact h2
   have HPA:=Zh hPA
   obtain ⟨b,off,rfl,_⟩:=hPA i hlt _ HE.out
   have HC:Hid (∀ k,k < p.length -> ∀ A,Below q w A -> A.cell? ⟨b,off + k,none⟩ = some (.int .u8 (p.getD k 0:Nat))):=fun k hk A hA=>by
    obtain ⟨b',off',h1,h2⟩:=HPA.out k hk A hA
    simp only [Option.some.injEq,Addr.mk.injEq,and_true] at h1
    obtain ⟨rfl,rfl⟩:=h1
    exact h2
   have hcap:=HR.out.1
   have hcap2:=HR.out.2.1.1
   clear hPA HPA
   go_wp2
   go_loopw [5] (fun nv A=>∃ n:Nat,nv = .int .i64 (n:Nat) /\ n <= 4 /\ i + n <= p.length /\ (∀ j,j < n -> p.getD (i + j) 0 = p.getD i 0) /\ Below q w A /\ OwnN 5 .u8 A q g c o) (fun nv _=>5 - (intOf nv).toNat)
   case atStart=>exact ⟨0,rfl,by omega,by omega,fun j hj=>by omega,HE.out,HO.out⟩
   case round =>
    clear HO HE
    obtain ⟨n,rfl,hn4,hin,hall,hbe,hown⟩:=hrel
    have HALL:=Zh hall
    have HE:=Zh hbe
    have HO:=Zh hown
    clear hall hbe hown
    have hw1:i + n < 9223372036854775807:=by omega
    obtain ⟨m,hm⟩:∃ m,i + n = m:=⟨_,rfl⟩
    have hmi:(i:Int) + (n:Int) = (m:Int):=by omega
    have hmw:IntKind.i64.wrap ((i:Int) + (n:Int)) = (m:Int):=by rw [hmi];exact IntWalk.i64_in _ (by omega)
    have HM:=Zh hm
    have HIN:=Zh hin
    have HI:=Zh hlt
    have cy:=HC.out i hlt _ HE.out
    rw [hy] at cy
    have key:(n = 4 \/ m = p.length \/ (m < p.length /\ p.getD m 0 ≠ y)) \/ (n < 4 /\ m < p.length /\ p.getD m 0 = y):=by omega
    have HKEY:=Zh key
    clear key
    have hin2:m <= p.length:=by omega
    clear hin hm
    rcases HKEY.out with hstop | ⟨h4,hml,he⟩
    ·rcases hstop with rfl | hstop
     ·rw [show ((4:Nat):Int) = 4 from rfl]
      have HM2:=Zh hin2
      have HY:=Zh hy
      have HSD:Hid (p.drop i = List.replicate 4 y ++ p.drop m):=by
       unfold Hid
       rw [Zfe p y 4 i HIN.out (fun j hj=>by rw [HALL.out j hj,hy]),HM.out]
      have HSF:Hid (∃ r,S = o ++ (List.replicate 4 y ++ r)):=by
       unfold Hid
       cases hd:p.drop m with
       | nil=>exact ⟨[],by rw [HF.out,HSD.out,hd,List.append_nil,Zfp]⟩
       | cons x r=>exact ⟨_,by rw [HF.out,HSD.out,hd,Zhk]⟩
      obtain ⟨rS,hrS⟩:=HSF.out
      replace HSF:=Zh hrS
      have t1:decide ((4:Int) < 4) = false:=rfl
      clear HKEY hy hrS
      go_wp2_with fail
      go_quiet (fail)
      have HO2:Hid (OwnN 5 .u8 (wr.drewN nq) q g c o):=HO.out
      have HE2:Hid (Below q w (wr.drewN nq)):=belDN HE.out _
      clear HO HE
      generalize wr.drewN nq = wr at *
      have HOB:=Zh (show o = o ++ List.replicate 0 y by simp)
      go_wp2
      go_loopw [3,6] (fun x kv A=>∃ (k:Nat) (o2:List Nat) (g2:Option Addr) (c2:Nat),k <= 4 /\ kv = .int .i64 (k:Nat) /\ x = .slice g2 o2.length c2 /\ OwnN 5 .u8 A q g2 c2 o2 /\ Below q w A /\ Hid (o2 = o ++ List.replicate k y)) (fun x kv _=>4 - (intOf kv).toNat)
      case atStart=>exact ⟨0,o,g,c,by omega,rfl,rfl,HO2.out,HE2.out,HOB.out⟩
      case round =>
       clear HOB HO2 HE2
       obtain ⟨k,o2,g2,c2,hk,rfl,rfl,hown,hbe,HOB⟩:=hrel
       have HO:=Zh hown
       have HE:=Zh hbe
       clear hown hbe
       have hol2:o2.length <= 255000000:=by have:=congrArg List.length HSF.out;have:=HSL.out;rw [HOB.out] ;simp only [List.length_append,List.length_replicate] at *;omega
       have hwr:q <= wr.heap.size:=by have:=HE.out.size;have:=HQ.out;omega
       have HWR:=Zh hwr
       clear hwr
       have cy:=HC.out i HI.out _ HE.out
       rw [HY.out] at cy
       have hil:i < p.length:=HI.out
       by_cases hkn:k < 4
       ·have t3:decide ((k:Int) < 4) = true:=by simp;omega
        go_wp2_with (at_builtin;refine app1N (y:=y) Zbl rfl (.tmp 42) (.tmp 47) rfl rfl HO.out rfl (by omega) (by omega) (by omega) (by omega) HWR.out ?_;intro a' c' w2 hown hg hb2;replace hown:=Zh hown;replace hb2:=Zh (HE.out.trans hb2);clear hg)
        go_wp2
        go_roundw
        case rel=>exact ⟨k + 1,o2 ++ [y],a',c',by omega,by go_num,by rw [List.length_append];rfl,hown.out,hb2.out,by rw [HOB.out,List.append_assoc,<- List.replicate_succ'];rfl⟩
        case measure=>simp [intOf];omega
       ·obtain rfl:k = 4:=by omega
        rw [show ((4:Nat):Int) = 4 from rfl]
        have t3:decide ((4:Int) < 4) = false:=by simp
        have t4:((4:Int) == 4) = true:=rfl
        have hi4:(i:Int) + 4 = (m:Int):=by have:=HM.out;omega
        have hi4w:IntKind.i64.wrap ((i:Int) + 4) = (m:Int):=by rw [hi4];exact IntWalk.i64_in _ (by have:=HPL.out;omega)
        by_cases hml:m < p.length
        ·have t5:decide (m < p.length) = true:=by simp;omega
         obtain ⟨z,hz⟩:∃ z,p.getD m 0 = z:=⟨_,rfl⟩
         have hz256:z < 256:=by
          rw [<- hz,List.getD_eq_getElem?_getD,List.getElem?_eq_getElem hml]
          exact H256.out _ (List.getElem_mem hml)
         have HFN:Hid (S = o2 ++ (List.replicate z y ++ say (p.drop (m + 1)))):=by
          unfold Hid
          rw [HF.out,HSD.out,List.drop_eq_getElem_cons hml,Zhk,HOB.out,List.append_assoc]
          rw [List.getD_eq_getElem?_getD,List.getElem?_eq_getElem hml] at hz
          rw [<- hz];rfl
         have HZ:=Zh hz
         clear hol2 cy hkn t3 hz
         go_wp2_with fail
         have HO3:Hid (OwnN 5 .u8 wr q g2 c2 o2):=HO.out
         have HE3:Hid (Below q w wr):=HE.out
         have HOB3:=Zh (show o2 = o2 ++ List.replicate 0 y by simp)
         clear HO HE HOB
         go_loopw [3,7] (fun x kv A=>∃ (k:Nat) (o3:List Nat) (g3:Option Addr) (c3:Nat),k <= z /\ kv = .int .i64 (k:Nat) /\ x = .slice g3 o3.length c3 /\ OwnN 5 .u8 A q g3 c3 o3 /\ Below q w A /\ Hid (o3 = o2 ++ List.replicate k y)) (fun x kv _=>z - (intOf kv).toNat)
         case atStart=>exact ⟨0,o2,g2,c2,by omega,rfl,rfl,HO3.out,HE3.out,HOB3.out⟩
         case round =>
          clear HOB3 HO3 HE3
          obtain ⟨k,o3,g3,c3,hk,rfl,rfl,hown,hbe,HOB⟩:=hrel
          have HO:=Zh hown
          have HE:=Zh hbe
          clear hown hbe
          have hol3:o3.length <= 255000000:=by have:=congrArg List.length HFN.out;have:=HSL.out;rw [HOB.out] ;simp only [List.length_append,List.length_replicate] at *;omega
          have hwr:q <= wr.heap.size:=by have:=HE.out.size;have:=HQ.out;omega
          have HWR:=Zh hwr
          clear hwr
          have cy:=HC.out i HI.out _ HE.out
          rw [HY.out] at cy
          have cz:=HC.out m hml _ HE.out
          rw [HZ.out] at cz
          have hil:i < p.length:=HI.out
          by_cases hkn:k < z
          ·have t6:decide (k < z) = true:=by simp;omega
           go_wp2_with (at_builtin;refine app1N (y:=y) Zbl rfl (.tmp 68) (.tmp 73) rfl rfl HO.out rfl (by omega) (by omega) (by omega) (by omega) HWR.out ?_;intro a' c' w2 hown hg hb2;replace hown:=Zh hown;replace hb2:=Zh (HE.out.trans hb2);clear hg)
           go_wp2
           go_roundw
           case rel=>exact ⟨k + 1,o3 ++ [y],a',c',by omega,by go_num,by rw [List.length_append];rfl,hown.out,hb2.out,by rw [HOB.out,List.append_assoc,<- List.replicate_succ'];rfl⟩
           case measure=>simp [intOf];omega
          ·obtain rfl:k = z:=by omega
           have t6:decide (k < k) = false:=by simp
           have hi5:(i:Int) + 5 = ((m + 1:Nat):Int):=by have:=HM.out;omega
           have hi5w:IntKind.i64.wrap ((i:Int) + 5) = ((m + 1:Nat):Int):=by rw [hi5];exact IntWalk.i64_in _ (by have:=HPL.out;omega)
           go_wp2
           go_roundw
           case rel=>exact ⟨m + 1,o3,g3,c3,by omega,by first | trivial | (rw [<- hi5]),by trivial,HO.out,HE.out,by unfold Hid;rw [HFN.out,HOB.out,List.append_assoc]⟩
           case measure=>simp [intOf];have:=HM.out;omega
        ·have t5:decide (m < p.length) = false:=by simp;omega
         have HFN:Hid (S = o2 ++ say (p.drop m)):=by
          unfold Hid
          rw [HF.out,HSD.out,List.drop_eq_nil_of_le (by omega),HOB.out,List.append_nil,Zfp]
          simp [say,sayL]
         clear hol2 cy hkn t3
         go_wp2_with fail
         go_roundw
         case rel=>exact ⟨m,o2,g2,c2,HM2.out,by trivial,by trivial,HO.out,HE.out,HFN.out⟩
         case measure=>simp [intOf];have:=HM.out;omega
     ·by_cases hn4':n = 4
      ·subst hn4'
       rw [show ((4:Nat):Int) = 4 from rfl]
       have HM2:=Zh hin2
       have HY:=Zh hy
       have HSD:Hid (p.drop i = List.replicate 4 y ++ p.drop m):=by
        unfold Hid
        rw [Zfe p y 4 i HIN.out (fun j hj=>by rw [HALL.out j hj,hy]),HM.out]
       have HSF:Hid (∃ r,S = o ++ (List.replicate 4 y ++ r)):=by
        unfold Hid
        cases hd:p.drop m with
        | nil=>exact ⟨[],by rw [HF.out,HSD.out,hd,List.append_nil,Zfp]⟩
        | cons x r=>exact ⟨_,by rw [HF.out,HSD.out,hd,Zhk]⟩
       obtain ⟨rS,hrS⟩:=HSF.out
       replace HSF:=Zh hrS
       have t1:decide ((4:Int) < 4) = false:=rfl
       clear HKEY hy hrS
       go_wp2_with fail
       go_quiet (fail)
       have HO2:Hid (OwnN 5 .u8 (wr.drewN nq) q g c o):=HO.out
       have HE2:Hid (Below q w (wr.drewN nq)):=belDN HE.out _
       clear HO HE
       generalize wr.drewN nq = wr at *
       have HOB:=Zh (show o = o ++ List.replicate 0 y by simp)
       go_wp2
       go_loopw [3,6] (fun x kv A=>∃ (k:Nat) (o2:List Nat) (g2:Option Addr) (c2:Nat),k <= 4 /\ kv = .int .i64 (k:Nat) /\ x = .slice g2 o2.length c2 /\ OwnN 5 .u8 A q g2 c2 o2 /\ Below q w A /\ Hid (o2 = o ++ List.replicate k y)) (fun x kv _=>4 - (intOf kv).toNat)
       case atStart=>exact ⟨0,o,g,c,by omega,rfl,rfl,HO2.out,HE2.out,HOB.out⟩
       case round =>
        clear HOB HO2 HE2
        obtain ⟨k,o2,g2,c2,hk,rfl,rfl,hown,hbe,HOB⟩:=hrel
        have HO:=Zh hown
        have HE:=Zh hbe
        clear hown hbe
        have hol2:o2.length <= 255000000:=by have:=congrArg List.length HSF.out;have:=HSL.out;rw [HOB.out] ;simp only [List.length_append,List.length_replicate] at *;omega
        have hwr:q <= wr.heap.size:=by have:=HE.out.size;have:=HQ.out;omega
        have HWR:=Zh hwr
        clear hwr
        have cy:=HC.out i HI.out _ HE.out
        rw [HY.out] at cy
        have hil:i < p.length:=HI.out
        by_cases hkn:k < 4
        ·have t3:decide ((k:Int) < 4) = true:=by simp;omega
         go_wp2_with (at_builtin;refine app1N (y:=y) Zbl rfl (.tmp 42) (.tmp 47) rfl rfl HO.out rfl (by omega) (by omega) (by omega) (by omega) HWR.out ?_;intro a' c' w2 hown hg hb2;replace hown:=Zh hown;replace hb2:=Zh (HE.out.trans hb2);clear hg)
         go_wp2
         go_roundw
         case rel=>exact ⟨k + 1,o2 ++ [y],a',c',by omega,by go_num,by rw [List.length_append];rfl,hown.out,hb2.out,by rw [HOB.out,List.append_assoc,<- List.replicate_succ'];rfl⟩
         case measure=>simp [intOf];omega
        ·obtain rfl:k = 4:=by omega
         rw [show ((4:Nat):Int) = 4 from rfl]
         have t3:decide ((4:Int) < 4) = false:=by simp
         have t4:((4:Int) == 4) = true:=rfl
         have hi4:(i:Int) + 4 = (m:Int):=by have:=HM.out;omega
         have hi4w:IntKind.i64.wrap ((i:Int) + 4) = (m:Int):=by rw [hi4];exact IntWalk.i64_in _ (by have:=HPL.out;omega)
         by_cases hml:m < p.length
         ·have t5:decide (m < p.length) = true:=by simp;omega
          obtain ⟨z,hz⟩:∃ z,p.getD m 0 = z:=⟨_,rfl⟩
          have hz256:z < 256:=by
           rw [<- hz,List.getD_eq_getElem?_getD,List.getElem?_eq_getElem hml]
           exact H256.out _ (List.getElem_mem hml)
          have HFN:Hid (S = o2 ++ (List.replicate z y ++ say (p.drop (m + 1)))):=by
           unfold Hid
           rw [HF.out,HSD.out,List.drop_eq_getElem_cons hml,Zhk,HOB.out,List.append_assoc]
           rw [List.getD_eq_getElem?_getD,List.getElem?_eq_getElem hml] at hz
           rw [<- hz];rfl
          have HZ:=Zh hz
          clear hol2 cy hkn t3 hz
          go_wp2_with fail
          have HO3:Hid (OwnN 5 .u8 wr q g2 c2 o2):=HO.out
          have HE3:Hid (Below q w wr):=HE.out
          have HOB3:=Zh (show o2 = o2 ++ List.replicate 0 y by simp)
          clear HO HE HOB
          go_loopw [3,7] (fun x kv A=>∃ (k:Nat) (o3:List Nat) (g3:Option Addr) (c3:Nat),k <= z /\ kv = .int .i64 (k:Nat) /\ x = .slice g3 o3.length c3 /\ OwnN 5 .u8 A q g3 c3 o3 /\ Below q w A /\ Hid (o3 = o2 ++ List.replicate k y)) (fun x kv _=>z - (intOf kv).toNat)
          case atStart=>exact ⟨0,o2,g2,c2,by omega,rfl,rfl,HO3.out,HE3.out,HOB3.out⟩
          case round =>
           clear HOB3 HO3 HE3
           obtain ⟨k,o3,g3,c3,hk,rfl,rfl,hown,hbe,HOB⟩:=hrel
           have HO:=Zh hown
           have HE:=Zh hbe
           clear hown hbe
           have hol3:o3.length <= 255000000:=by have:=congrArg List.length HFN.out;have:=HSL.out;rw [HOB.out] ;simp only [List.length_append,List.length_replicate] at *;omega
           have hwr:q <= wr.heap.size:=by have:=HE.out.size;have:=HQ.out;omega
           have HWR:=Zh hwr
           clear hwr
           have cy:=HC.out i HI.out _ HE.out
           rw [HY.out] at cy
           have cz:=HC.out m hml _ HE.out
           rw [HZ.out] at cz
           have hil:i < p.length:=HI.out
           by_cases hkn:k < z
           ·have t6:decide (k < z) = true:=by simp;omega
            go_wp2_with (at_builtin;refine app1N (y:=y) Zbl rfl (.tmp 68) (.tmp 73) rfl rfl HO.out rfl (by omega) (by omega) (by omega) (by omega) HWR.out ?_;intro a' c' w2 hown hg hb2;replace hown:=Zh hown;replace hb2:=Zh (HE.out.trans hb2);clear hg)
            go_wp2
            go_roundw
            case rel=>exact ⟨k + 1,o3 ++ [y],a',c',by omega,by go_num,by rw [List.length_append];rfl,hown.out,hb2.out,by rw [HOB.out,List.append_assoc,<- List.replicate_succ'];rfl⟩
            case measure=>simp [intOf];omega
           ·obtain rfl:k = z:=by omega
            have t6:decide (k < k) = false:=by simp
            have hi5:(i:Int) + 5 = ((m + 1:Nat):Int):=by have:=HM.out;omega
            have hi5w:IntKind.i64.wrap ((i:Int) + 5) = ((m + 1:Nat):Int):=by rw [hi5];exact IntWalk.i64_in _ (by have:=HPL.out;omega)
            go_wp2
            go_roundw
            case rel=>exact ⟨m + 1,o3,g3,c3,by omega,by first | trivial | (rw [<- hi5]),by trivial,HO.out,HE.out,by unfold Hid;rw [HFN.out,HOB.out,List.append_assoc]⟩
            case measure=>simp [intOf];have:=HM.out;omega
         ·have t5:decide (m < p.length) = false:=by simp;omega
          have HFN:Hid (S = o2 ++ say (p.drop m)):=by
           unfold Hid
           rw [HF.out,HSD.out,List.drop_eq_nil_of_le (by omega),HOB.out,List.append_nil,Zfp]
           simp [say,sayL]
          clear hol2 cy hkn t3
          go_wp2_with fail
          go_roundw
          case rel=>exact ⟨m,o2,g2,c2,HM2.out,by trivial,by trivial,HO.out,HE.out,HFN.out⟩
          case measure=>simp [intOf];have:=HM.out;omega
      have hn4:n < 4:=by omega
      rcases hstop with hml | ⟨hml,hne⟩
      ·have hy1:1 <= n:=by
        rcases Nat.eq_zero_or_pos n with e | e
        ·subst e
         exfalso
         have:=HM.out
         omega
        ·exact e
       have HN1:=Zh hy1
       have HN4:=Zh hn4
       have HM2:=Zh hin2
       have HY:=Zh hy
       have HSF:Hid (S = o ++ (List.replicate n y ++ say (p.drop m))):=by
        unfold Hid
        rw [HF.out,Zfe p y n i HIN.out (fun j hj=>by rw [HALL.out j hj,hy]),Ztr y n _ hy1 hn4 (fun d r' h=>by rw [List.drop_eq_nil_of_le (by have:=HM.out;omega)] at h;cases h),HM.out]
       have t1:decide ((n:Int) < 4) = true:=by simp;omega
       have t2:decide (m < p.length) = false:=by simp;omega
       clear HKEY hy hy1 hn4 HF
       go_wp2_with fail
       go_quiet (fail)
       have HO2:Hid (OwnN 5 .u8 (wr.drewN nq) q g c o):=HO.out
       have HE2:Hid (Below q w (wr.drewN nq)):=belDN HE.out _
       clear HO HE
       generalize wr.drewN nq = wr at *
       have HOB:=Zh (show o = o ++ List.replicate 0 y by simp)
       go_wp2
       go_loopw [3,6] (fun x kv A=>∃ (k:Nat) (o2:List Nat) (g2:Option Addr) (c2:Nat),k <= n /\ kv = .int .i64 (k:Nat) /\ x = .slice g2 o2.length c2 /\ OwnN 5 .u8 A q g2 c2 o2 /\ Below q w A /\ Hid (o2 = o ++ List.replicate k y)) (fun x kv _=>n - (intOf kv).toNat)
       case atStart=>exact ⟨0,o,g,c,by omega,rfl,rfl,HO2.out,HE2.out,HOB.out⟩
       case round =>
        clear HOB HO2 HE2
        obtain ⟨k,o2,g2,c2,hk,rfl,rfl,hown,hbe,HOB⟩:=hrel
        have HO:=Zh hown
        have HE:=Zh hbe
        clear hown hbe
        have hol2:o2.length <= 255000000:=by have:=congrArg List.length HSF.out;have:=HSL.out;rw [HOB.out] ;simp only [List.length_append,List.length_replicate] at *;omega
        have hwr:q <= wr.heap.size:=by have:=HE.out.size;have:=HQ.out;omega
        have HWR:=Zh hwr
        clear hwr
        have cy:=HC.out i HI.out _ HE.out
        rw [HY.out] at cy
        have hil:i < p.length:=HI.out
        by_cases hkn:k < n
        ·have t3:decide (k < n) = true:=by simp;omega
         go_wp2_with (at_builtin;refine app1N (y:=y) Zbl rfl (.tmp 42) (.tmp 47) rfl rfl HO.out rfl (by omega) (by omega) (by omega) (by omega) HWR.out ?_;intro a' c' w2 hown hg hb2;replace hown:=Zh hown;replace hb2:=Zh (HE.out.trans hb2);clear hg)
         go_wp2
         go_roundw
         case rel=>exact ⟨k + 1,o2 ++ [y],a',c',by omega,by go_num,by rw [List.length_append];rfl,hown.out,hb2.out,by rw [HOB.out,List.append_assoc,<- List.replicate_succ'];rfl⟩
         case measure=>simp [intOf];omega
        ·obtain rfl:k = n:=by omega
         skip
         have t3:decide (k < k) = false:=by simp
         have t4:((k:Int) == 4) = false:=beq_eq_false_iff_ne.2 (by have:=HN4.out;omega)
         have HFN:Hid (S = o2 ++ say (p.drop m)):=by unfold Hid;rw [HSF.out,HOB.out,List.append_assoc]
         clear hol2 cy hkn t3
         go_wp2_with fail
         go_roundw
         case rel=>exact ⟨m,o2,g2,c2,HM2.out,by first | trivial | exact Zcw (by omega),by trivial,HO.out,HE.out,HFN.out⟩
         case measure=>simp [intOf];have:=HN1.out;have:=HM.out;omega
      ·have hy1:1 <= n:=by
        rcases Nat.eq_zero_or_pos n with e | e
        ·subst e
         exfalso
         have:=HM.out
         exact hne (by rw [show m = i by omega];exact hy)
        ·exact e
       have HN1:=Zh hy1
       have HN4:=Zh hn4
       have HM2:=Zh hin2
       have HY:=Zh hy
       have HSF:Hid (S = o ++ (List.replicate n y ++ say (p.drop m))):=by
        unfold Hid
        rw [HF.out,Zfe p y n i HIN.out (fun j hj=>by rw [HALL.out j hj,hy]),Ztr y n _ hy1 hn4 (fun d r' h=>by rw [HM.out,List.drop_eq_getElem_cons hml] at h;cases h;rw [List.getD_eq_getElem?_getD,List.getElem?_eq_getElem hml] at hne;exact hne),HM.out]
       have t1:decide ((n:Int) < 4) = true:=by simp;omega
       have t2:decide (m < p.length) = true:=by simp;omega
       have cm:=HC.out m hml _ HE.out
       obtain ⟨z,hz⟩:∃ z,p.getD m 0 = z:=⟨_,rfl⟩
       rw [hz] at cm hne
       have t7:((z:Int) == (y:Int)) = false:=beq_eq_false_iff_ne.2 (by omega)
       clear HKEY hz hne hy hy1 hn4 HF
       go_wp2_with fail
       go_quiet (fail)
       have HO2:Hid (OwnN 5 .u8 (wr.drewN nq) q g c o):=HO.out
       have HE2:Hid (Below q w (wr.drewN nq)):=belDN HE.out _
       clear HO HE
       generalize wr.drewN nq = wr at *
       have HOB:=Zh (show o = o ++ List.replicate 0 y by simp)
       go_wp2
       go_loopw [3,6] (fun x kv A=>∃ (k:Nat) (o2:List Nat) (g2:Option Addr) (c2:Nat),k <= n /\ kv = .int .i64 (k:Nat) /\ x = .slice g2 o2.length c2 /\ OwnN 5 .u8 A q g2 c2 o2 /\ Below q w A /\ Hid (o2 = o ++ List.replicate k y)) (fun x kv _=>n - (intOf kv).toNat)
       case atStart=>exact ⟨0,o,g,c,by omega,rfl,rfl,HO2.out,HE2.out,HOB.out⟩
       case round =>
        clear HOB HO2 HE2
        obtain ⟨k,o2,g2,c2,hk,rfl,rfl,hown,hbe,HOB⟩:=hrel
        have HO:=Zh hown
        have HE:=Zh hbe
        clear hown hbe
        have hol2:o2.length <= 255000000:=by have:=congrArg List.length HSF.out;have:=HSL.out;rw [HOB.out] ;simp only [List.length_append,List.length_replicate] at *;omega
        have hwr:q <= wr.heap.size:=by have:=HE.out.size;have:=HQ.out;omega
        have HWR:=Zh hwr
        clear hwr
        have cy:=HC.out i HI.out _ HE.out
        rw [HY.out] at cy
        have hil:i < p.length:=HI.out
        by_cases hkn:k < n
        ·have t3:decide (k < n) = true:=by simp;omega
         go_wp2_with (at_builtin;refine app1N (y:=y) Zbl rfl (.tmp 42) (.tmp 47) rfl rfl HO.out rfl (by omega) (by omega) (by omega) (by omega) HWR.out ?_;intro a' c' w2 hown hg hb2;replace hown:=Zh hown;replace hb2:=Zh (HE.out.trans hb2);clear hg)
         go_wp2
         go_roundw
         case rel=>exact ⟨k + 1,o2 ++ [y],a',c',by omega,by go_num,by rw [List.length_append];rfl,hown.out,hb2.out,by rw [HOB.out,List.append_assoc,<- List.replicate_succ'];rfl⟩
         case measure=>simp [intOf];omega
        ·obtain rfl:k = n:=by omega
         skip
         have t3:decide (k < k) = false:=by simp
         have t4:((k:Int) == 4) = false:=beq_eq_false_iff_ne.2 (by have:=HN4.out;omega)
         have HFN:Hid (S = o2 ++ say (p.drop m)):=by unfold Hid;rw [HSF.out,HOB.out,List.append_assoc]
         clear hol2 cy hkn t3
         go_wp2_with fail
         go_roundw
         case rel=>exact ⟨m,o2,g2,c2,HM2.out,by first | trivial | exact Zcw (by omega),by trivial,HO.out,HE.out,HFN.out⟩
         case measure=>simp [intOf];have:=HN1.out;have:=HM.out;omega
    ·have t1:decide ((n:Int) < 4) = true:=by simp;omega
     have t2:decide (m < p.length) = true:=by simp;omega
     have cm:=HC.out m hml _ HE.out
     rw [he] at cm
     have HAL2:Hid (∀ j,j < n + 1 -> p.getD (i + j) 0 = p.getD i 0):=fun j hj=>by
      by_cases e:j < n
      ·exact HALL.out j e
      ·rw [show i + j = m by have:=HM.out;omega,he,hy]
     clear HKEY he
     go_wp2_with fail
     go_quiet (fail)
     go_wp2
     go_roundw
     case rel=>exact ⟨n + 1,by go_num,by omega,by have:=HM.out;omega,HAL2.out,belDN HE.out _,HO.out⟩
     case measure=>simp [intOf];omega
  ·obtain rfl:i = p.length:=by omega
   have t0:decide (p.length < p.length) = false:=by simp
   have HSE:Hid (S = o):=by unfold Hid;rw [HF.out,List.drop_length];simp [say,sayL]
   go_wp2
   go_ret
   exact ⟨g,c,by rw [HSE.out];rfl,by rw [HSE.out];exact HO.out,HE.out⟩
end Go.Proofs.Ytnkpnjnfddjfpaa

namespace Go.Proofs.Ytnkpnjnfddjfpaa
open Go.RowKit Go.Shelf M01 M02 M27
theorem Zss (v:Nat) (hv:v < 4294967296):bits .xor .u32 IntKind.u32.max (v:Int) = ((4294967295 - v:Nat):Int):=by
 have h1:IntKind.u32.max = ((4294967295:Nat):Int):=rfl
 rw [h1,Zao _ _ (by omega) hv]
 congr 1
 apply Nat.eq_of_testBit_eq
 intro i
 have e1:(4294967295:Nat) = 2 ^ 32 - 1:=rfl
 have e2:4294967295 - v = 2 ^ 32 - (v + 1):=by omega
 rw [e2,Nat.testBit_two_pow_sub_succ (by omega),Nat.testBit_xor,e1,Nat.testBit_two_pow_sub_one]
 by_cases h:i < 32
 ·simp [h]
 ·have:v.testBit i = false:=Nat.testBit_lt_two_pow (Nat.lt_of_lt_of_le hv (show 2 ^ 32 <= 2 ^ i from Nat.pow_le_pow_right (by decide) (by omega)))
  simp [h,this]
set_option maxRecDepth 100000 in
set_option maxHeartbeats 6400000 in
theorem Zvi (w:World) (a:Option Addr) (cap:Nat) (l:List Nat) (hr:RowN .u8 w a cap l) (hl:l.length <= 100000000000) (h256:∀ x ∈ l,x < 256) :
  Calls Try.prog 30 #[.slice a l.length cap] w fun e w'=>e = .returned (.int .u32 (crcHigh l:Nat)) /\ Below w.heap.size w w':=by
 have HR:=Zh hr
 have H256:=Zh h256
 clear hr h256
 go_enter Try.func30,Try.ntmps30
 go_wp2_with fail
 refine (Zrt w).mono ?_
 rintro e w1 ⟨rfl,hb⟩
 have HB:=Zh hb
 have hs1:(crcCells 256).toArray.size = 256:=by simp [Zbg]
 have hs0:(crcCells 0).toArray.size = 256:=by simp [Zbg]
 have ho1:=Zgr 256
 have HC:=Zh (Zhs 256)
 have hzz:=zeros256
 obtain ⟨cs,hcs⟩:∃ cs,(crcCells 256).toArray = cs:=⟨_,rfl⟩
 have HCS:=Zh hcs
 rw [hcs] at hs1 ho1
 simp only [hcs]
 clear hb hcs
 have hn:=World.alloc_heap_new w1 (.cells Try.zeroCells97 97)
 have hst:=stc256 (w1.alloc (.cells Try.zeroCells97 97)) w1.heap.size _ _ cs (by rw [hzz,hs0,hs1]) ho1 hn
 have HN:=Zh (setRow_heap (w1.alloc (.cells Try.zeroCells97 97)) w1.heap.size _ cs _ _ hn)
 have HB2:=Zh (below_setRow ((HB.out).trans ((Zai w1 (.cells Try.zeroCells97 97)).mono HB.out.size)) HB.out.size cs)
 obtain ⟨tb,htb⟩:∃ tb,w1.heap.size = tb:=⟨_,rfl⟩
 simp only [htb] at hst HN HB2
 clear hn hzz
 go_wp2_with fail
 generalize (w1.alloc (.cells Try.zeroCells97 97)).setRow tb cs = w2 at *
 have hww:w.heap.size <= w1.heap.size:=HB.out.size
 clear hst
 go_loopw [4,10] (fun vv iv A=>∃ i:Nat,iv = .int .i64 (i:Nat) /\ i <= l.length /\ vv = .int .u32 (crcAt l i:Nat) /\ A = w2) (fun _ iv _=>l.length - (intOf iv).toNat)
 case atStart=>exact ⟨0,rfl,by omega,rfl,rfl⟩
 case round =>
  obtain ⟨i,rfl,hi,rfl,hwr⟩:=hrel
  subst hwr
  by_cases hlt:i < l.length
  ·have t0:decide (i < l.length) = true:=decide_eq_true hlt
   have hc:=H256.out _ (List.getElem_mem hlt)
   have hv:=Zfa l H256.out i
   obtain ⟨sb,soff,rfl,hsb,hsc⟩:=(HR.out.below HB2.out).at hlt
   have HSU:=Zh (Ziv l i hlt)
   generalize crcAt l i = v at *
   generalize l[i] = c at *
   have hsp:crcStep v c = (v * 256 % 4294967296) ^^^ crcTab ((v / 16777216) ^^^ c):=rfl
   obtain ⟨d,hd⟩:∃ d,v / 16777216 = d:=⟨_,rfl⟩
   obtain ⟨q,hq⟩:∃ q,v * 256 % 4294967296 = q:=⟨_,rfl⟩
   have hd8:d < 2 ^ 8:=by omega
   have hx:d ^^^ c < 256:=Nat.xor_lt_two_pow (n:=8) hd8 hc
   have e3:(v:Int) / 16777216 = (d:Int):=by omega
   have e4:(v:Int) * 256 % 4294967296 = (q:Int):=by omega
   have e1:IntKind.u8.wrap (d:Int) = (d:Int):=by rw [IntKind.wrap_u8];omega
   have e1':(d:Int) % 256 = (d:Int):=by omega
   have e2:=Zdb d c (by omega) hc
   rw [hd,hq] at hsp
   have hck:=HC.out (d ^^^ c) hx
   rw [if_pos hx] at hck
   have e5:wr.cell? ⟨tb,d ^^^ c,none⟩ = some (.int .u32 (crcTab (d ^^^ c):Nat)):=by
    rw [<- HCS.out] at HN
    simp [World.cell?,HN.out,hck]
   have e6:=Zao q (crcTab (d ^^^ c)) (by omega) (Zrr _ hx)
   rw [<- hsp] at e6
   generalize crcStep v c = v' at *
   generalize d ^^^ c = ix at *
   generalize crcTab ix = tv at *
   have e8:(ix:Int) < 256:=by omega
   clear hck hsp hd hq
   go_wp2_with fail
   go_roundw
   case rel=>exact ⟨i + 1,by go_num,by omega,by rw [HSU.out],trivial⟩
   case measure=>simp [intOf];omega
  ·obtain rfl:i = l.length:=by omega
   have HA:=Zh (Zla l)
   have hv:=Zfa l H256.out l.length
   generalize crcAt l l.length = v at *
   have e1:(4294967295:Int) - (v:Int) = ((4294967295 - v:Nat):Int):=by omega
   clear hlt hi
   go_wp2_with fail
   go_ret
   exact ⟨by rw [HA.out,<- Zss v hv];rfl,HB2.out⟩
end Go.Proofs.Ytnkpnjnfddjfpaa
