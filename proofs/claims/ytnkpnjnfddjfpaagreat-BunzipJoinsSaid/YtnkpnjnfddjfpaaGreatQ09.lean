/- The reference of layer 26: Row: contract. The reference of layer 21: Way, Back: contracts. The reference of layer 22: Get: contract. -/
import Derived.Test.YtnkpnjnfddjfpaaGreatQ05
import Derived.Test.YtnkpnjnfddjfpaaGreatQ08
import Derived.Test.YtnkpnjnfddjfpaaGreatQ01
import Derived.Test.YtnkpnjnfddjfpaaGreatQ02
import Derived.Test.YtnkpnjnfddjfpaaGreatQ03
set_option linter.unusedVariables false
set_option linter.unusedSimpArgs false
namespace Go.Proofs.YtnkpnjnfddjfpaaGreat
open Go.RowKit M01 M02 M10 M27
def kOf (n:Nat):Nat:=(List.range 20).findIdx fun k=>decide (n <= 2 ^ k)
theorem Zyx {n k:Nat} (hk:k < 20) (h1:∀ j,j < k -> 2 ^ j < n) (h2:n <= 2 ^ k):kOf n = k:=by
 unfold kOf
 rw [List.findIdx_eq (by simpa using hk)]
 simp only [List.getElem_range,decide_eq_true_eq,decide_eq_false_iff_not,Nat.not_le]
 exact ⟨h2,fun j hj=>h1 j hj⟩
def symB (k:Nat) (l:List Nat):List Nat:=l.flatMap fun s=>hbits s k
def rowB (b:List Nat) (sum v first gl:Nat):List Nat :=
 hbits sum 32 ++ hbits v 1 ++ hbits (turnG b).2 24 ++ mapG (fputG (turnG b).1).1 ++ hbits 2 3 ++ selectorsG ((List.range gl).map fun i=>(first + i) % 2) ++ lengthsG (List.replicate ((fputG (turnG b).1).1.length + 2) (kOf ((fputG (turnG b).1).1.length + 2))) ++ lengthsG (List.replicate ((fputG (turnG b).1).1.length + 2) (kOf ((fputG (turnG b).1).1.length + 2))) ++ symB (kOf ((fputG (turnG b).1).1.length + 2)) (fputG (turnG b).1).2
def maskIf (m:Bool) (p:List Nat):List Nat:=if m then masked p else p
def rowG (packed:List Nat) (sum:Nat) (m:Bool) (first gl:Nat):List Nat:=rowB (maskIf m packed) sum (if m then 1 else 0) first gl
theorem Zgj (b:List Nat):(turnG b).1.length = b.length:=by unfold turnG;rw [List.length_map,Zhu]
theorem Zyn {b:List Nat} (h:0 < b.length):(turnG b).2 < b.length:=Zyt h
theorem Zyo {b:List Nat} (h:∀ x ∈ b,x < 256):∀ x ∈ (turnG b).1,x < 256:=by
 intro y hy
 unfold turnG at hy
 obtain ⟨x,_,rfl⟩:=List.mem_map.1 hy
 unfold lastF
 rw [List.getD_eq_getElem?_getD]
 cases e:(rotL b x)[b.length - 1]? with
 | none=>simp
 | some z =>
  obtain ⟨h1,h2⟩:=List.getElem?_eq_some_iff.1 e
  have:=h z (Zkz (h2 ▸ List.getElem_mem h1))
  simpa using this
theorem Znv {e B:Nat} (h1:1 <= B) (he:e <= B):∀ (l:List Nat) (run:Nat),(∀ y ∈ l,y + 1 <= B) -> ∀ x ∈ putS e l run,x <= B
 | [],run,_,x,hx=>by
  unfold putS at hx
  rcases List.mem_append.1 hx with hx | hx
  ·have:=Zko run run x hx;omega
  ·rw [List.mem_singleton.1 hx];exact he
 | k :: r,run,h,x,hx=>by
  unfold putS at hx
  split at hx
  ·exact Znv h1 he r (run + 1) (fun y hy=>h y (by simp [hy])) x hx
  ·rcases List.mem_append.1 hx with hx | hx
   ·rcases List.mem_append.1 hx with hx | hx
    ·have:=Zko run run x hx;omega
    ·rw [List.mem_singleton.1 hx];exact h k (by simp)
   ·exact Znv h1 he r 0 (fun y hy=>h y (by simp [hy])) x hx
theorem Zxi (b:List Nat):∀ x ∈ (fputG b).2,x <= 300 + b.length:=by
 have h1:(usedG b).length <= 256:=Zgy b 256
 refine Znv (by omega) (by omega) _ 0 fun y hy=>?_
 have:=Zgv b (usedG b) y hy
 omega
theorem Zlb (k:Nat) (l:List Nat):(symB k l).length = k * l.length:=by
 unfold symB
 induction l with
 | nil=>rfl
 | cons x r ih=>rw [List.flatMap_cons,List.length_append,Zak,ih,List.length_cons,Nat.mul_succ,Nat.add_comm]
theorem Zfr (b:List Nat):(fputG b).1.length <= 256 /\ (fputG b).2.length <= b.length + 1:=by
 refine ⟨Zgy b 256,?_⟩
 have:=Zhw ((usedG b).length + 1) (placesL (usedG b) b) 0
 rw [Zds] at this
 exact this
set_option maxRecDepth 100000 in
set_option maxHeartbeats 6400000 in
theorem Zmk (a:Option Addr) (cap:Nat) (packed:List Nat) (sum first gl:Nat) (m:Bool) (more:Int) (w:World) (hr:RowN .u8 w a cap packed) (h256:∀ x ∈ packed,x < 256) (hl:packed.length <= 1000) (h0:0 < packed.length) (hs:sum < 4294967296) (hf:first <= 1000)
  (hgl:((((fputG (turnG (maskIf m packed)).1).2.length + 49) / 50:Nat):Int) + more = (gl:Int)) (hgl2:gl <= 20000) (hm:-1000 <= more /\ more <= 1000) :
  Calls Tryz.prog 57 #[.slice a packed.length cap,.int .u32 (sum:Nat),.bool m,.int .i64 (first:Nat),.int .i64 more] w fun e w'=>∃ g c,e = .returned (.slice g (rowG packed sum m first gl).length c) /\ OwnB w' w.heap.size g c (rowG packed sum m first gl) /\ Below w.heap.size w w':=by
 have HR:=Zh hr
 have HMA:=Zh (Zhi a cap packed w hr h256 (by omega))
 obtain ⟨q,hq⟩:∃ q,w.heap.size = q:=⟨_,rfl⟩
 rw [hq] at HMA ⊢
 have HQ:=Zh hq
 have H256:=Zh h256
 obtain ⟨n0,hn0⟩:∃ n0,packed.length = n0:=⟨_,rfl⟩
 have HN0:=Zh hn0
 have HM3:=Zh hm
 rw [hn0] at HMA hl h0 ⊢
 obtain ⟨P,hP⟩:∃ P,P = rowG packed sum m first gl:=⟨_,rfl⟩
 rw [<- hP]
 unfold rowG at hP
 obtain ⟨b,hb⟩:∃ b,b = maskIf m packed:=⟨_,rfl⟩
 rw [<- hb] at hP hgl
 have HBL:Hid (b.length = n0):=by unfold Hid;rw [hb,<- hn0];unfold maskIf;split;exact Zbc _ _;rfl
 have HB256:Hid (∀ x ∈ b,x < 256):=by rw [hb];unfold maskIf;split;exact Zdl _ h256 _;exact h256
 have HTL:Hid ((turnG b).1.length = n0):=by unfold Hid;rw [Zgj];exact HBL.out
 have HTA:Hid ((turnG b).2 < n0):=by have:=Zyn (b:=b) (by have:=HBL.out;omega);have:=HBL.out;unfold Hid;omega
 have HTLT:=Zh (Zyo HB256.out)
 have HTU:=Zh (fun ba bc A (h:RowN .u8 A ba bc b)=>Zqu ba bc b A h (by have:=HBL.out;omega) HB256.out)
 unfold rowB at hP
 rw [HBL.out] at HTU
 generalize (turnG b).2 = ta at *
 generalize (turnG b).1 = last at *
 have HFL:=Zh (Zfr last)
 have HUL:Hid (∀ x ∈ (fputG last).1,x < 256):=fun x hx=>Zpm hx
 have HPU:=Zh (fun ba bc A (h:RowN .u8 A ba bc last)=>Zul ba bc last A h HTLT.out (by have:=HTL.out;omega))
 have HSY:=Zh (Zxi last)
 rw [HTL.out] at HPU HFL HSY
 generalize (fputG last).1 = used at *
 generalize (fputG last).2 = syms at *
 have HPP:=Zh hP
 have HBE:=Zh hb
 have HGL:=Zh hgl
 clear hr hq h256 hn0 hm hP hb hgl
 cases m
 case false =>
  go_enter Tryz.func57,Tryz.ntmps57
  go_wp2_with fail
  have HBR:Hid (RowN .u8 w a cap b):=by rw [show b = packed from HBE.out];exact HR.out
  have HEB:Hid (Below q w w):=Below.refl _ _
  have HQB:Hid (q <= w.heap.size):=Nat.le_of_eq HQ.out.symm
  refine (HTU.out a cap w HBR.out).mono ?_
  rintro e w1 ⟨tg,tc,rfl,ht1,hb1⟩
  have HE1:=Zh (HEB.out.trans (hb1.mono HQB.out))
  have HQ1:Hid (q <= w1.heap.size):=by have:=HE1.out.size;have:=HQ.out;unfold Hid;omega
  have HT1:=Zh ht1.row
  clear ht1 hb1
  go_wp2_with fail
  refine (HPU.out tg tc w1 HT1.out).mono ?_
  rintro e w2 ⟨ug,uc,sg,sc,rfl,hu2,hs2,hb2⟩
  have HE2:=Zh (HE1.out.trans (hb2.mono HQ1.out))
  have HQ22:Hid (q <= w2.heap.size):=by have:=HE2.out.size;have:=HQ.out;unfold Hid;omega
  have HU2:=Zh hu2.row
  have HS2:=Zh hs2.row
  clear hu2 hs2 hb2 HTU HPU HMA
  obtain ⟨n,hn⟩:∃ n,used.length + 2 = n:=⟨_,rfl⟩
  have hn258:n <= 258:=by have:=HFL.out.1;omega
  have un:IntKind.i64.wrap ((used.length:Int) + 2) = (n:Int):=by rw [IntWalk.i64_in _ (by omega)];omega
  have HNE:=Zh hn
  clear hn
  go_wp2_with fail
  go_loopw [18] (fun kv A=>∃ k:Nat,k <= 9 /\ kv = .int .i64 (k:Nat) /\ A = w2 /\ Hid (∀ j,j < k -> 2 ^ j < n)) (fun kv _=>10 - (intOf kv).toNat)
  case atStart=>exact ⟨0,by decide,rfl,rfl,fun j h=>absurd h (Nat.not_lt_zero j)⟩
  case round =>
   obtain ⟨k,hk,rfl,hw2,HJ⟩:=hrel
   replace hw2:=hw2.symm
   subst hw2
   obtain ⟨p,hp⟩:∃ p,2 ^ k = p:=⟨_,rfl⟩
   have hp512:p <= 512:=by rw [<- hp];exact Nat.pow_le_pow_right (by decide) (show k <= 9 from hk)
   have hpi:(2:Int) ^ k = (p:Int):=by rw [<- hp];simp
   have hpw:wrap64 ((2:Int) ^ k) = (p:Int):=by rw [hpi];exact IntWalk.wrap64_in _ (by omega)
   have HPW:=Zh hp
   clear hp hpi
   by_cases hkn:n <= p
   case neg =>
    have t1:decide ((p:Int) < (n:Int)) = true:=by simp;omega
    have t1':decide (p < n) = true:=by simp;omega
    have hk9:k + 1 <= 9:=by
     rcases Nat.lt_or_ge k 9 with h | h
     ·exact h
     ·exfalso
      have h9:2 ^ 9 <= 2 ^ k:=Nat.pow_le_pow_right (by decide) h
      rw [HPW.out] at h9
      have:512 <= p:=h9
      omega
    have HJ2:Hid (∀ j,j < k + 1 -> 2 ^ j < n):=fun j hj=>by
     rcases Nat.lt_or_ge j k with h2 | h2
     ·exact HJ.out j h2
     ·obtain rfl:j = k:=by omega
      rw [HPW.out];omega
    clear hkn
    go_wp2_with fail
    go_roundw
    case rel=>exact ⟨k + 1,hk9,by go_num,by trivial,HJ2.out⟩
    case measure=>simp [intOf];omega
   have t1:decide ((p:Int) < (n:Int)) = false:=by simp;omega
   have t1':decide (p < n) = false:=by simp;omega
   have hta0:ta <= 1000:=by have:=HTA.out;omega
   have hta3:(ta:Int) % 4294967296 = (ta:Int):=by omega
   go_wp2_with fail
   have HK:Hid (kOf n = k):=Zyx (by omega) HJ.out (by rw [HPW.out];exact hkn)
   refine (Zat sum 32 w2 hs (by decide)).mono ?_
   rintro e w0x ⟨g0,rfl,hoc,hbc⟩
   obtain ⟨o0,ho0⟩:∃ o,o = hbits sum 32:=⟨_,rfl⟩
   rw [<- ho0] at hoc
   have HO0:=Zh hoc
   have HOE0:=Zh ho0
   have HB0:=Zh hbc
   have HQ0:Hid (w2.heap.size <= w0x.heap.size):=HB0.out.size
   have HOL0:Hid (o0.length = 32):=by unfold Hid;rw [ho0,Zak]
   clear hoc hbc ho0
   go_wp2_with fail
   refine (Zat 0 1 w0x (by decide) (by decide)).mono ?_
   rintro e wc1 ⟨gc1,rfl,hoc,hbc⟩
   have HOc1:=Zh (OwnS.below HO0.out hbc)
   have HBc1:=Zh (HB0.out.trans (hbc.mono HQ0.out))
   have HQc1:Hid (w2.heap.size <= wc1.heap.size):=HBc1.out.size
   have HYR1:=Zh (OwnS.row hoc)
   have HYL1:Hid (1 = (hbits 0 1).length):=(Zak _ _).symm
   clear hbc hoc
   go_wp2_with ((at_builtin;refine appAnyS Zae rfl (.tmp 49) (.tmp 51) rfl (show _ = Value.slice (some ⟨g0,0,none⟩) o0.length 32 by rw [HOL0.out];rfl) HOc1.out HYL1.out rfl HYR1.out (by rw [HOL0.out];omega) (by rw [HOL0.out];omega) HQc1.out ?_;intro oa1 oc1 w1x hown hg hb;have HGR1:=Zh hg;obtain ⟨L1,hL⟩:∃ L,o0.length + 1 = L:=⟨_,rfl⟩;rw [hL];have hlb:L1 <= 33:=(by have h1:=HOL0.out;omega);have HOL1:Hid ((o0 ++ hbits 0 1).length = L1):=(by unfold Hid;rw [List.length_append,<- HYL1.out];exact hL);obtain ⟨o1,ho⟩:∃ o,o = o0 ++ hbits 0 1:=⟨_,rfl⟩;rw [<- ho] at hown HOL1;have HOE1:=Zh ho;have HO1:=Zh hown;have HB1:=Zh (HBc1.out.trans hb);have HQ1:Hid (w2.heap.size <= w1x.heap.size):=HB1.out.size;clear hown hg hb hL ho))
   refine (Zat ta 24 w1x (by have:=HTA.out;omega) (by decide)).mono ?_
   rintro e wc2 ⟨gc2,rfl,hoc,hbc⟩
   have HOc2:=Zh (OwnS.below HO1.out hbc)
   have HBc2:=Zh (HB1.out.trans (hbc.mono HQ1.out))
   have HQc2:Hid (w2.heap.size <= wc2.heap.size):=HBc2.out.size
   have HYR2:=Zh (OwnS.row hoc)
   have HYL2:Hid (24 = (hbits ta 24).length):=(Zak _ _).symm
   clear hbc hoc
   go_wp2_with ((at_builtin;refine appAnyS Zae rfl (.tmp 53) (.tmp 56) rfl (show _ = Value.slice oa1 o1.length oc1 by rw [HOL1.out];rfl) HOc2.out HYL2.out rfl HYR2.out (by rw [HOL1.out];omega) (by rw [HOL1.out];omega) HQc2.out ?_;intro oa2 oc2 w2x hown hg hb;have HGR2:=Zh hg;obtain ⟨L2,hL⟩:∃ L,o1.length + 24 = L:=⟨_,rfl⟩;rw [hL];have hlb:L2 <= 57:=(by have h1:=HOL1.out;omega);have HOL2:Hid ((o1 ++ hbits ta 24).length = L2):=(by unfold Hid;rw [List.length_append,<- HYL2.out];exact hL);obtain ⟨o2,ho⟩:∃ o,o = o1 ++ hbits ta 24:=⟨_,rfl⟩;rw [<- ho] at hown HOL2;have HOE2:=Zh ho;have HO2:=Zh hown;have HB2:=Zh (HBc2.out.trans hb);have HQ2:Hid (w2.heap.size <= w2x.heap.size):=HB2.out.size;clear hown hg hb hL ho))
   have HMU:Hid ((mapG used).length <= 272):=by unfold Hid mapG;rw [List.length_append,Zcp];have:=Zgd used 16;omega
   obtain ⟨mu,hmu⟩:∃ mu,(mapG used).length = mu:=⟨_,rfl⟩
   have hmu2:mu <= 272:=by have:=HMU.out;omega
   have HRU:=Zh (Zmj ug uc used w2x (HU2.out.below HB2.out) HUL.out (by have:=HFL.out.1;omega))
   rw [hmu] at HRU
   have HMUL:=Zh hmu
   clear hmu
   refine HRU.out.mono ?_
   rintro e wc3 ⟨gc3,cc3,rfl,hoc,hbc⟩
   have HOc3:=Zh (OwnS.below HO2.out hbc)
   have HBc3:=Zh (HB2.out.trans (hbc.mono HQ2.out))
   have HQc3:Hid (w2.heap.size <= wc3.heap.size):=HBc3.out.size
   have HYR3:=Zh (OwnS.row hoc)
   have HYL3:Hid (mu = (mapG used).length):=HMUL.out.symm
   clear hbc hoc
   go_wp2_with ((at_builtin;refine appAnyS Zae rfl (.tmp 58) (.tmp 60) rfl (show _ = Value.slice oa2 o2.length oc2 by rw [HOL2.out];rfl) HOc3.out HYL3.out rfl HYR3.out (by rw [HOL2.out];omega) (by rw [HOL2.out];omega) HQc3.out ?_;intro oa3 oc3 w3x hown hg hb;have HGR3:=Zh hg;obtain ⟨L3,hL⟩:∃ L,o2.length + mu = L:=⟨_,rfl⟩;rw [hL];have hlb:L3 <= 329:=(by have h1:=HOL2.out;omega);have HOL3:Hid ((o2 ++ mapG used).length = L3):=(by unfold Hid;rw [List.length_append,<- HYL3.out];exact hL);obtain ⟨o3,ho⟩:∃ o,o = o2 ++ mapG used:=⟨_,rfl⟩;rw [<- ho] at hown HOL3;have HOE3:=Zh ho;have HO3:=Zh hown;have HB3:=Zh (HBc3.out.trans hb);have HQ3:Hid (w2.heap.size <= w3x.heap.size):=HB3.out.size;clear hown hg hb hL ho))
   have hgl3:=HGL.out
   have hm3:=HM3.out
   have u6:IntKind.i64.wrap ((syms.length:Int) + 49) = ((syms.length + 49:Nat):Int):=by rw [IntWalk.i64_in _ (by have:=HFL.out.2;omega)];omega
   have hsy:syms.length <= 1001:=by have:=HFL.out.2;omega
   obtain ⟨G,hG⟩:∃ G,(syms.length + 49) / 50 = G:=⟨_,rfl⟩
   have u7b:((syms.length:Int) + 49) / 50 = (G:Int):=by omega
   have u7c:wrap64 ((G:Int) + more) = (gl:Int):=by rw [hG] at hgl3;rw [hgl3];exact IntWalk.wrap64_in _ (by omega)
   have u7:((syms.length + 49:Nat):Int) / 50 = (G:Int):=by omega
   rw [hG] at hgl3
   clear hG
   refine (Zat 2 3 w3x (by decide) (by decide)).mono ?_
   rintro e wc4 ⟨gc4,rfl,hoc,hbc⟩
   have HOc4:=Zh (OwnS.below HO3.out hbc)
   have HBc4:=Zh (HB3.out.trans (hbc.mono HQ3.out))
   have HQc4:Hid (w2.heap.size <= wc4.heap.size):=HBc4.out.size
   have HYR4:=Zh (OwnS.row hoc)
   have HYL4:Hid (3 = (hbits 2 3).length):=(Zak _ _).symm
   clear hbc hoc
   go_wp2_with (first | (at_builtin;refine appAnyS Zae rfl (.tmp 62) (.tmp 63) rfl (show _ = Value.slice oa3 o3.length oc3 by rw [HOL3.out];rfl) HOc4.out HYL4.out rfl HYR4.out (by rw [HOL3.out];omega) (by rw [HOL3.out];omega) HQc4.out ?_;intro oa4 oc4 w4x hown hg hb;have HGR4:=Zh hg;obtain ⟨L4,hL⟩:∃ L,o3.length + 3 = L:=⟨_,rfl⟩;rw [hL];have hlb:L4 <= 332:=(by have h1:=HOL3.out;omega);have HOL4:Hid ((o3 ++ hbits 2 3).length = L4):=(by unfold Hid;rw [List.length_append,<- HYL4.out];exact hL);obtain ⟨o4,ho⟩:∃ o,o = o3 ++ hbits 2 3:=⟨_,rfl⟩;rw [<- ho] at hown HOL4;have HOE4:=Zh ho;have HO4:=Zh hown;have HB4:=Zh (HBc4.out.trans hb);have HQ4:Hid (w2.heap.size <= w4x.heap.size):=HB4.out.size;clear hown hg hb hL ho) | (at_make;go_loud (refine makeN (n:=gl) Zax rfl _ _ rfl w4x.heap.size rfl rfl (by omega) (by omega) (Nat.le_refl _) ?_);intro w5g hown5 hg5;have HG5:=Zh hown5;have HGB5:=Zh (Below.of_grown hg5 (Nat.le_refl _) (fun k e=>by cases e));clear hown5 hg5))
   clear hgl3 hm3 u6 u7 u7b u7c
   rw [<- Zew (fun i=>(first + i) % 2) gl] at HG5
   obtain ⟨g5,hg5⟩:∃ g,w4x.heap.size = g:=⟨_,rfl⟩
   have HGS5:=Zh hg5
   rw [hg5] at HG5 HGB5 ⊢
   clear hg5
   go_loopw [21] (fun iv A=>∃ i:Nat,i <= gl /\ iv = .int .i64 (i:Nat) /\ Hid (OwnN 3 .i64 A g5 (some ⟨g5,0,none⟩) gl (partL (fun i=>(first + i) % 2) gl i)) /\ Hid (Below g5 w4x A)) (fun iv _=>gl - (intOf iv).toNat)
   case atStart=>exact ⟨0,Nat.zero_le _,rfl,HG5.out,HGB5.out⟩
   case round =>
    clear HG5 HGB5
    obtain ⟨i,hi,rfl,HG,HGB⟩:=hrel
    by_cases hlt:i < gl
    case pos =>
     have t2:decide ((i:Int) < (gl:Int)) = true:=by simp;omega
     have t2':decide (i < gl) = true:=by simp;omega
     obtain ⟨v,hv⟩:∃ v,(first + i) % 2 = v:=⟨_,rfl⟩
     have u8:((first:Int) + (i:Int)) % 2 = (v:Int):=by omega
     have HV:=Zh hv
     clear hv
     obtain ⟨g',he,_,_,hc,hf⟩:=HG.out.at (i:=i) (by rw [Zeh];exact hlt)
     cases he
     have HPT:Hid (OwnN 3 .i64 (wr.setCell ⟨g5,i,none⟩ (.int .i64 (v:Nat))) g5 (some ⟨g5,0,none⟩) gl (partL (fun i=>(first + i) % 2) gl (i + 1))):=by
      unfold Hid
      have h2:(fun i=>(first + i) % 2) i = v:=HV.out
      have h:(partL (fun i=>(first + i) % 2) gl i).set i v = partL (fun i=>(first + i) % 2) gl (i + 1):=(congrArg (fun z=>(partL (fun i=>(first + i) % 2) gl i).set i z) h2).symm.trans (Zev (fun i=>(first + i) % 2) gl i hlt)
      rw [<- h]
      exact (OwnN.stored HG.out i _).1
     have HBT:=Zh (HGB.out.setCell (p:=⟨g5,i,none⟩) (Nat.le_refl g5) (.int .i64 (v:Nat)))
     clear HG HGB
     go_wp2_with fail
     go_roundw
     case rel=>exact ⟨i + 1,by omega,by go_num,HPT.out,HBT.out⟩
     case measure=>simp [intOf];omega
    obtain rfl:i = gl:=by omega
    have t2:decide (i < i) = false:=by simp
    rw [Zeu] at HG
    have HGA:=Zh (show Below w4x.heap.size w4x wr by rw [HGS5.out];exact HGB.out)
    have HGR:=Zh HG.out.row
    have HGRL:Hid (((List.range i).map fun i=>(first + i) % 2).length = i):=by unfold Hid;simp
    obtain ⟨grp,hgrp⟩:∃ grp,grp = (List.range i).map fun i=>(first + i) % 2:=⟨_,rfl⟩
    rw [<- hgrp] at HGR HGRL
    have HGE:=Zh hgrp
    have HG6:Hid (∀ x ∈ grp,x < 6):=fun x hx=>by
     rw [hgrp] at hx
     obtain ⟨y,_,rfl⟩:=List.mem_map.1 hx
     omega
    have HSE:=Zh (Zei (some ⟨g5,0,none⟩) i grp wr HGR.out HG6.out (by rw [HGRL.out];omega))
    have hse:(selectorsG grp).length <= 15 + 7 * i:=by
     unfold selectorsG
     rw [List.length_append,Zak]
     have:=Zgg grp [0,1,2,3,4,5] (by decide) (fun x hx=>by have:=HG6.out x hx;simp;omega)
     rw [HGRL.out] at this
     omega
    rw [HGRL.out] at HSE
    obtain ⟨sl,hsl⟩:∃ sl,(selectorsG grp).length = sl:=⟨_,rfl⟩
    rw [hsl] at HSE hse
    have HSL:=Zh hsl
    clear hgrp hsl
    go_wp2_with fail
    refine HSE.out.mono ?_
    rintro e wc5 ⟨gc5,cc5,rfl,hoc,hbc⟩
    replace hbc:=HGA.out.trans (hbc.mono HGA.out.size)
    have HOc5:=Zh (OwnS.below HO4.out hbc)
    have HBc5:=Zh (HB4.out.trans (hbc.mono HQ4.out))
    have HQc5:Hid (w2.heap.size <= wc5.heap.size):=HBc5.out.size
    have HYR5:=Zh (OwnS.row hoc)
    have HYL5:Hid (sl = (selectorsG grp).length):=HSL.out.symm
    clear hbc hoc
    go_wp2_with (first | (at_builtin;refine appAnyS Zae rfl (.tmp 85) (.tmp 87) rfl (show _ = Value.slice oa4 o4.length oc4 by rw [HOL4.out];rfl) HOc5.out HYL5.out rfl HYR5.out (by rw [HOL4.out];omega) (by rw [HOL4.out];omega) HQc5.out ?_;intro oa5 oc5 w5x hown hg hb;have HGR5:=Zh hg;obtain ⟨L5,hL⟩:∃ L,o4.length + sl = L:=⟨_,rfl⟩;rw [hL];have hlb:L5 <= 140400:=(by have h1:=HOL4.out;omega);have HOL5:Hid ((o4 ++ selectorsG grp).length = L5):=(by unfold Hid;rw [List.length_append,<- HYL5.out];exact hL);obtain ⟨o5,ho⟩:∃ o,o = o4 ++ selectorsG grp:=⟨_,rfl⟩;rw [<- ho] at hown HOL5;have HOE5:=Zh ho;have HO5:=Zh hown;have HB5:=Zh (HBc5.out.trans hb);have HQ5:Hid (w2.heap.size <= w5x.heap.size):=HB5.out.size;clear hown hg hb hL ho) | (at_make;go_loud (refine makeN (n:=n) Zaz rfl _ _ rfl w5x.heap.size rfl rfl (by omega) (by omega) (Nat.le_refl _) ?_);intro w6g hown6 hg6;have HG6:=Zh hown6;have HGB6:=Zh (Below.of_grown hg6 (Nat.le_refl _) (fun k e=>by cases e));clear hown6 hg6))
    rw [<- Zew (fun _=>k) n] at HG6
    obtain ⟨g6,hg6⟩:∃ g,w5x.heap.size = g:=⟨_,rfl⟩
    have HGS6:=Zh hg6
    rw [hg6] at HG6 HGB6 ⊢
    clear hg6
    go_loopw [23] (fun iv A=>∃ i:Nat,i <= n /\ iv = .int .i64 (i:Nat) /\ Hid (OwnN 5 .u8 A g6 (some ⟨g6,0,none⟩) n (partL (fun _=>k) n i)) /\ Hid (Below g6 w5x A)) (fun iv _=>n - (intOf iv).toNat)
    case atStart=>exact ⟨0,Nat.zero_le _,rfl,HG6.out,HGB6.out⟩
    case round =>
     clear HG6 HGB6
     obtain ⟨i,hi,rfl,HG,HGB⟩:=hrel
     by_cases hlt:i < n
     case pos =>
      have t2:decide ((i:Int) < (n:Int)) = true:=by simp;omega
      have t2':decide (i < n) = true:=by simp;omega
      have u9:(k:Int) % 256 = (k:Int):=by omega
      obtain ⟨g',he,_,_,hc,hf⟩:=HG.out.at (i:=i) (by rw [Zeh];exact hlt)
      cases he
      have HPT:Hid (OwnN 5 .u8 (wr.setCell ⟨g6,i,none⟩ (.int .u8 (k:Nat))) g6 (some ⟨g6,0,none⟩) n (partL (fun _=>k) n (i + 1))):=by
       unfold Hid
       have h2:(fun _=>k) i = k:=rfl
       have h:(partL (fun _=>k) n i).set i k = partL (fun _=>k) n (i + 1):=(congrArg (fun z=>(partL (fun _=>k) n i).set i z) h2).symm.trans (Zev (fun _=>k) n i hlt)
       rw [<- h]
       exact (OwnN.stored HG.out i _).1
      have HBT:=Zh (HGB.out.setCell (p:=⟨g6,i,none⟩) (Nat.le_refl g6) (.int .u8 (k:Nat)))
      clear HG HGB
      go_wp2_with fail
      go_roundw
      case rel=>exact ⟨i + 1,by omega,by go_num,HPT.out,HBT.out⟩
      case measure=>simp [intOf];omega
     obtain rfl:i = n:=by omega
     have t2:decide (i < i) = false:=by simp
     rw [Zeu] at HG
     have HGA:=Zh (show Below w5x.heap.size w5x wr by rw [HGS6.out];exact HGB.out)
     have HLR:=Zh HG.out
     have HLE:Hid ((List.range i).map (fun _=>k) = List.replicate i k):=by
      unfold Hid
      rw [List.map_const',List.length_range]
     rw [HLE.out] at HLR
     have HLL:Hid ((List.replicate i k).length = i):=List.length_replicate
     have HL256:Hid (∀ x ∈ List.replicate i k,x < 256):=fun x hx=>by rw [List.eq_of_mem_replicate hx];omega
     have hi0:2 <= i:=by have:=HNE.out;omega
     have HLG:=Zh (fun A (h:RowN .u8 A (some ⟨g6,0,none⟩) i (List.replicate i k))=>Zgb (some ⟨g6,0,none⟩) i (List.replicate i k) A h HL256.out (by rw [HLL.out];omega) (by rw [HLL.out];omega))
     have hlg:(lengthsG (List.replicate i k)).length <= 5 + 512 * i:=by
      unfold lengthsG
      rw [List.length_append,Zak]
      have hk256:(List.replicate i k).getD 0 0 < 256:=by
       rw [List.getD_eq_getElem?_getD]
       cases e:(List.replicate i k)[0]? with
       | none=>simp
       | some y=>exact HL256.out y (List.mem_of_getElem? e)
      have:=Zft (List.replicate i k) _ hk256 HL256.out
      rw [HLL.out] at this
      omega
     rw [HLL.out] at HLG
     obtain ⟨ln,hln⟩:∃ ln,lengthsG (List.replicate i k) = ln:=⟨_,rfl⟩
     rw [hln] at HLG hlg
     have HLN:=Zh hln
     obtain ⟨ll,hll⟩:∃ ll,ln.length = ll:=⟨_,rfl⟩
     rw [hll] at HLG hlg
     have HLLN:=Zh hll
     clear hln hll
     go_wp2_with fail
     refine (HLG.out wr HLR.out.row).mono ?_
     rintro e wc6 ⟨gc6,cc6,rfl,hoc,hbc⟩
     have HLc:=Zh (HLR.out.below hbc)
     replace hbc:=HGA.out.trans (hbc.mono HGA.out.size)
     have HOc6:=Zh (OwnS.below HO5.out hbc)
     have HBc6:=Zh (HB5.out.trans (hbc.mono HQ5.out))
     have HQc6:Hid (w2.heap.size <= wc6.heap.size):=HBc6.out.size
     have HYR6:=Zh (OwnS.row hoc)
     have HYL6:Hid (ll = (ln).length):=HLLN.out.symm
     clear hbc hoc
     go_wp2_with ((at_builtin;refine appAnyS Zae rfl (.tmp 101) (.tmp 103) rfl (show _ = Value.slice oa5 o5.length oc5 by rw [HOL5.out];rfl) HOc6.out HYL6.out rfl HYR6.out (by rw [HOL5.out];omega) (by rw [HOL5.out];omega) HQc6.out ?_;intro oa6 oc6 w6x hown hg hb;have HGR6:=Zh hg;obtain ⟨L6,hL⟩:∃ L,o5.length + ll = L:=⟨_,rfl⟩;rw [hL];have hlb:L6 <= 272800:=(by have h1:=HOL5.out;omega);have HOL6:Hid ((o5 ++ ln).length = L6):=(by unfold Hid;rw [List.length_append,<- HYL6.out];exact hL);obtain ⟨o6,ho⟩:∃ o,o = o5 ++ ln:=⟨_,rfl⟩;rw [<- ho] at hown HOL6;have HOE6:=Zh ho;have HO6:=Zh hown;have HB6:=Zh (HBc6.out.trans hb);have HQ6:Hid (w2.heap.size <= w6x.heap.size):=HB6.out.size;have HLN6:=Zh (HLc.out.kept hg (fun x hx e=>by cases hx;have h1:=(Zck HO5.out (Zcb HOc6.out e)).2;have h2:=HGS6.out;omega));clear hown hg hb hL ho))
     refine (HLG.out w6x HLN6.out.row).mono ?_
     rintro e wc7 ⟨gc7,cc7,rfl,hoc,hbc⟩
     have HOc7:=Zh (OwnS.below HO6.out hbc)
     have HBc7:=Zh (HB6.out.trans (hbc.mono HQ6.out))
     have HQc7:Hid (w2.heap.size <= wc7.heap.size):=HBc7.out.size
     have HYR7:=Zh (OwnS.row hoc)
     have HYL7:Hid (ll = (ln).length):=HLLN.out.symm
     clear hbc hoc
     go_wp2_with ((at_builtin;refine appAnyS Zae rfl (.tmp 105) (.tmp 107) rfl (show _ = Value.slice oa6 o6.length oc6 by rw [HOL6.out];rfl) HOc7.out HYL7.out rfl HYR7.out (by rw [HOL6.out];omega) (by rw [HOL6.out];omega) HQc7.out ?_;intro oa7 oc7 w7x hown hg hb;have HGR7:=Zh hg;obtain ⟨L7,hL⟩:∃ L,o6.length + ll = L:=⟨_,rfl⟩;rw [hL];have hlb:L7 <= 405200:=(by have h1:=HOL6.out;omega);have HOL7:Hid ((o6 ++ ln).length = L7):=(by unfold Hid;rw [List.length_append,<- HYL7.out];exact hL);obtain ⟨o7,ho⟩:∃ o,o = o6 ++ ln:=⟨_,rfl⟩;rw [<- ho] at hown HOL7;have HOE7:=Zh ho;have HO7:=Zh hown;have HB7:=Zh (HBc7.out.trans hb);have HQ7:Hid (w2.heap.size <= w7x.heap.size):=HB7.out.size;clear hown hg hb hL ho))
     have HP7:Hid (o7 ++ symB k (syms.drop 0) = P):=by
      unfold Hid
      rw [HPP.out,HNE.out,HK.out,HLN.out,HOE7.out,HOE6.out,HOE5.out,HOE4.out,HOE3.out,HOE2.out,HOE1.out,HOE0.out,HGE.out]
      rfl
     have HPB:Hid (P.length <= 450000):=by
      unfold Hid
      rw [<- HP7.out,List.length_append,Zlb,List.drop_zero]
      have h1:=HOL7.out
      have:k * syms.length <= 9 * 1001:=Nat.mul_le_mul hk hsy
      omega
     go_loopw [19,24] (fun ov jv A=>∃ (j:Nat) (og:Option Addr) (oc:Nat) (o:List Nat),j <= syms.length /\ jv = .int .i64 (j:Nat) /\ ov = .slice og o.length oc /\ Hid (OwnB A w2.heap.size og oc o) /\ Hid (Below w2.heap.size w2 A) /\ Hid (o ++ symB k (syms.drop j) = P)) (fun _ jv _=>syms.length - (intOf jv).toNat)
     case atStart=>exact ⟨0,oa7,oc7,o7,Nat.zero_le _,rfl,by rw [HOL7.out],HO7.out,HB7.out,HP7.out⟩
     case round =>
      clear HP7
      obtain ⟨j,og,oc,o,hj,rfl,rfl,HO,HE,HF⟩:=hrel
      by_cases hlt:j < syms.length
      case neg =>
       obtain rfl:j = syms.length:=by omega
       have t3:decide (syms.length < syms.length) = false:=by simp
       go_wp2_with fail
       go_ret
       have he:o = P:=by have h:=HF.out;rw [List.drop_length] at h;simpa [symB] using h
       rw [<- he]
       exact ⟨og,oc,rfl,HO.out.mono HQ22.out,HE2.out.trans (HE.out.mono HQ22.out)⟩
      have t3:decide (j < syms.length) = true:=by simp;omega
      obtain ⟨sb,soff,rfl,_,hc⟩:=(HS2.out.below HE.out).at hlt
      have hxb:=HSY.out _ (List.getElem_mem hlt)
      have HDR:Hid (syms.drop j = syms[j] :: syms.drop (j + 1)):=List.drop_eq_getElem_cons hlt
      generalize syms[j] = x at *
      have HF2:Hid ((o ++ hbits x k) ++ symB k (syms.drop (j + 1)) = P):=by have h:=HF.out;rw [HDR.out] at h;unfold Hid;rw [List.append_assoc];exact h
      have hol:o.length + k <= 450000:=by
       have h1:=congrArg List.length HF2.out
       rw [List.length_append,List.length_append,Zak] at h1
       have:=HPB.out
       omega
      have HQW:Hid (w2.heap.size <= wr.heap.size):=HE.out.size
      have ux:(x:Int) % 4294967296 = (x:Int):=by omega
      have HBX:=Zh (Zat x k wr (by omega) (by omega))
      have HHL:Hid (k = (hbits x k).length):=(Zak _ _).symm
      clear HF
      go_wp2_with fail
      refine HBX.out.mono ?_
      rintro e wy ⟨gy,rfl,hoy,hby⟩
      have HOY:=Zh (OwnS.below HO.out hby)
      have HEY:=Zh (HE.out.trans (hby.mono HQW.out))
      have HQY:Hid (w2.heap.size <= wy.heap.size):=HEY.out.size
      have HRY:=Zh (OwnS.row hoy)
      clear hoy hby
      go_wp2_with (at_builtin;refine appAnyS Zae rfl (.tmp 115) (.tmp 122) rfl rfl HOY.out HHL.out rfl HRY.out (by omega) (by omega) HQY.out ?_;intro a7 c7 w7 hown7 hg7 hb7;have HO7:=Zh hown7;have HB7:=Zh hb7;clear hown7 hg7 hb7)
      go_roundw
      case rel=>exact ⟨j + 1,a7,c7,o ++ hbits x k,hlt,by go_num,by rw [List.length_append,<- HHL.out],HO7.out,HEY.out.trans HB7.out,HF2.out⟩
      case measure=>simp [intOf];omega
 case true =>
  have HMB:Hid (b = masked packed):=HBE.out
  rw [<- HMB.out] at HMA
  go_enter Tryz.func57,Tryz.ntmps57
  go_wp2_with fail
  refine HMA.out.mono ?_
  rintro e wm ⟨mg,mc,rfl,hom,hbm⟩
  have HBR:Hid (RowN .u8 wm mg mc b):=hom.row
  have HEB:Hid (Below q w wm):=hbm
  have HQB:Hid (q <= wm.heap.size):=by have:=hbm.size;have:=HQ.out;unfold Hid;omega
  clear hom hbm
  go_wp2_with fail
  refine (HTU.out mg mc wm HBR.out).mono ?_
  rintro e w1 ⟨tg,tc,rfl,ht1,hb1⟩
  have HE1:=Zh (HEB.out.trans (hb1.mono HQB.out))
  have HQ1:Hid (q <= w1.heap.size):=by have:=HE1.out.size;have:=HQ.out;unfold Hid;omega
  have HT1:=Zh ht1.row
  clear ht1 hb1
  go_wp2_with fail
  refine (HPU.out tg tc w1 HT1.out).mono ?_
  rintro e w2 ⟨ug,uc,sg,sc,rfl,hu2,hs2,hb2⟩
  have HE2:=Zh (HE1.out.trans (hb2.mono HQ1.out))
  have HQ22:Hid (q <= w2.heap.size):=by have:=HE2.out.size;have:=HQ.out;unfold Hid;omega
  have HU2:=Zh hu2.row
  have HS2:=Zh hs2.row
  clear hu2 hs2 hb2 HTU HPU HMA
  obtain ⟨n,hn⟩:∃ n,used.length + 2 = n:=⟨_,rfl⟩
  have hn258:n <= 258:=by have:=HFL.out.1;omega
  have un:IntKind.i64.wrap ((used.length:Int) + 2) = (n:Int):=by rw [IntWalk.i64_in _ (by omega)];omega
  have HNE:=Zh hn
  clear hn
  go_wp2_with fail
  go_loopw [18] (fun kv A=>∃ k:Nat,k <= 9 /\ kv = .int .i64 (k:Nat) /\ A = w2 /\ Hid (∀ j,j < k -> 2 ^ j < n)) (fun kv _=>10 - (intOf kv).toNat)
  case atStart=>exact ⟨0,by decide,rfl,rfl,fun j h=>absurd h (Nat.not_lt_zero j)⟩
  case round =>
   obtain ⟨k,hk,rfl,hw2,HJ⟩:=hrel
   replace hw2:=hw2.symm
   subst hw2
   obtain ⟨p,hp⟩:∃ p,2 ^ k = p:=⟨_,rfl⟩
   have hp512:p <= 512:=by rw [<- hp];exact Nat.pow_le_pow_right (by decide) (show k <= 9 from hk)
   have hpi:(2:Int) ^ k = (p:Int):=by rw [<- hp];simp
   have hpw:wrap64 ((2:Int) ^ k) = (p:Int):=by rw [hpi];exact IntWalk.wrap64_in _ (by omega)
   have HPW:=Zh hp
   clear hp hpi
   by_cases hkn:n <= p
   case neg =>
    have t1:decide ((p:Int) < (n:Int)) = true:=by simp;omega
    have t1':decide (p < n) = true:=by simp;omega
    have hk9:k + 1 <= 9:=by
     rcases Nat.lt_or_ge k 9 with h | h
     ·exact h
     ·exfalso
      have h9:2 ^ 9 <= 2 ^ k:=Nat.pow_le_pow_right (by decide) h
      rw [HPW.out] at h9
      have:512 <= p:=h9
      omega
    have HJ2:Hid (∀ j,j < k + 1 -> 2 ^ j < n):=fun j hj=>by
     rcases Nat.lt_or_ge j k with h2 | h2
     ·exact HJ.out j h2
     ·obtain rfl:j = k:=by omega
      rw [HPW.out];omega
    clear hkn
    go_wp2_with fail
    go_roundw
    case rel=>exact ⟨k + 1,hk9,by go_num,by trivial,HJ2.out⟩
    case measure=>simp [intOf];omega
   have t1:decide ((p:Int) < (n:Int)) = false:=by simp;omega
   have t1':decide (p < n) = false:=by simp;omega
   have hta0:ta <= 1000:=by have:=HTA.out;omega
   have hta3:(ta:Int) % 4294967296 = (ta:Int):=by omega
   go_wp2_with fail
   have HK:Hid (kOf n = k):=Zyx (by omega) HJ.out (by rw [HPW.out];exact hkn)
   refine (Zat sum 32 w2 hs (by decide)).mono ?_
   rintro e w0x ⟨g0,rfl,hoc,hbc⟩
   obtain ⟨o0,ho0⟩:∃ o,o = hbits sum 32:=⟨_,rfl⟩
   rw [<- ho0] at hoc
   have HO0:=Zh hoc
   have HOE0:=Zh ho0
   have HB0:=Zh hbc
   have HQ0:Hid (w2.heap.size <= w0x.heap.size):=HB0.out.size
   have HOL0:Hid (o0.length = 32):=by unfold Hid;rw [ho0,Zak]
   clear hoc hbc ho0
   go_wp2_with fail
   refine (Zat 1 1 w0x (by decide) (by decide)).mono ?_
   rintro e wc1 ⟨gc1,rfl,hoc,hbc⟩
   have HOc1:=Zh (OwnS.below HO0.out hbc)
   have HBc1:=Zh (HB0.out.trans (hbc.mono HQ0.out))
   have HQc1:Hid (w2.heap.size <= wc1.heap.size):=HBc1.out.size
   have HYR1:=Zh (OwnS.row hoc)
   have HYL1:Hid (1 = (hbits 1 1).length):=(Zak _ _).symm
   clear hbc hoc
   go_wp2_with ((at_builtin;refine appAnyS Zae rfl (.tmp 49) (.tmp 51) rfl (show _ = Value.slice (some ⟨g0,0,none⟩) o0.length 32 by rw [HOL0.out];rfl) HOc1.out HYL1.out rfl HYR1.out (by rw [HOL0.out];omega) (by rw [HOL0.out];omega) HQc1.out ?_;intro oa1 oc1 w1x hown hg hb;have HGR1:=Zh hg;obtain ⟨L1,hL⟩:∃ L,o0.length + 1 = L:=⟨_,rfl⟩;rw [hL];have hlb:L1 <= 33:=(by have h1:=HOL0.out;omega);have HOL1:Hid ((o0 ++ hbits 1 1).length = L1):=(by unfold Hid;rw [List.length_append,<- HYL1.out];exact hL);obtain ⟨o1,ho⟩:∃ o,o = o0 ++ hbits 1 1:=⟨_,rfl⟩;rw [<- ho] at hown HOL1;have HOE1:=Zh ho;have HO1:=Zh hown;have HB1:=Zh (HBc1.out.trans hb);have HQ1:Hid (w2.heap.size <= w1x.heap.size):=HB1.out.size;clear hown hg hb hL ho))
   refine (Zat ta 24 w1x (by have:=HTA.out;omega) (by decide)).mono ?_
   rintro e wc2 ⟨gc2,rfl,hoc,hbc⟩
   have HOc2:=Zh (OwnS.below HO1.out hbc)
   have HBc2:=Zh (HB1.out.trans (hbc.mono HQ1.out))
   have HQc2:Hid (w2.heap.size <= wc2.heap.size):=HBc2.out.size
   have HYR2:=Zh (OwnS.row hoc)
   have HYL2:Hid (24 = (hbits ta 24).length):=(Zak _ _).symm
   clear hbc hoc
   go_wp2_with ((at_builtin;refine appAnyS Zae rfl (.tmp 53) (.tmp 56) rfl (show _ = Value.slice oa1 o1.length oc1 by rw [HOL1.out];rfl) HOc2.out HYL2.out rfl HYR2.out (by rw [HOL1.out];omega) (by rw [HOL1.out];omega) HQc2.out ?_;intro oa2 oc2 w2x hown hg hb;have HGR2:=Zh hg;obtain ⟨L2,hL⟩:∃ L,o1.length + 24 = L:=⟨_,rfl⟩;rw [hL];have hlb:L2 <= 57:=(by have h1:=HOL1.out;omega);have HOL2:Hid ((o1 ++ hbits ta 24).length = L2):=(by unfold Hid;rw [List.length_append,<- HYL2.out];exact hL);obtain ⟨o2,ho⟩:∃ o,o = o1 ++ hbits ta 24:=⟨_,rfl⟩;rw [<- ho] at hown HOL2;have HOE2:=Zh ho;have HO2:=Zh hown;have HB2:=Zh (HBc2.out.trans hb);have HQ2:Hid (w2.heap.size <= w2x.heap.size):=HB2.out.size;clear hown hg hb hL ho))
   have HMU:Hid ((mapG used).length <= 272):=by unfold Hid mapG;rw [List.length_append,Zcp];have:=Zgd used 16;omega
   obtain ⟨mu,hmu⟩:∃ mu,(mapG used).length = mu:=⟨_,rfl⟩
   have hmu2:mu <= 272:=by have:=HMU.out;omega
   have HRU:=Zh (Zmj ug uc used w2x (HU2.out.below HB2.out) HUL.out (by have:=HFL.out.1;omega))
   rw [hmu] at HRU
   have HMUL:=Zh hmu
   clear hmu
   refine HRU.out.mono ?_
   rintro e wc3 ⟨gc3,cc3,rfl,hoc,hbc⟩
   have HOc3:=Zh (OwnS.below HO2.out hbc)
   have HBc3:=Zh (HB2.out.trans (hbc.mono HQ2.out))
   have HQc3:Hid (w2.heap.size <= wc3.heap.size):=HBc3.out.size
   have HYR3:=Zh (OwnS.row hoc)
   have HYL3:Hid (mu = (mapG used).length):=HMUL.out.symm
   clear hbc hoc
   go_wp2_with ((at_builtin;refine appAnyS Zae rfl (.tmp 58) (.tmp 60) rfl (show _ = Value.slice oa2 o2.length oc2 by rw [HOL2.out];rfl) HOc3.out HYL3.out rfl HYR3.out (by rw [HOL2.out];omega) (by rw [HOL2.out];omega) HQc3.out ?_;intro oa3 oc3 w3x hown hg hb;have HGR3:=Zh hg;obtain ⟨L3,hL⟩:∃ L,o2.length + mu = L:=⟨_,rfl⟩;rw [hL];have hlb:L3 <= 329:=(by have h1:=HOL2.out;omega);have HOL3:Hid ((o2 ++ mapG used).length = L3):=(by unfold Hid;rw [List.length_append,<- HYL3.out];exact hL);obtain ⟨o3,ho⟩:∃ o,o = o2 ++ mapG used:=⟨_,rfl⟩;rw [<- ho] at hown HOL3;have HOE3:=Zh ho;have HO3:=Zh hown;have HB3:=Zh (HBc3.out.trans hb);have HQ3:Hid (w2.heap.size <= w3x.heap.size):=HB3.out.size;clear hown hg hb hL ho))
   have hgl3:=HGL.out
   have hm3:=HM3.out
   have u6:IntKind.i64.wrap ((syms.length:Int) + 49) = ((syms.length + 49:Nat):Int):=by rw [IntWalk.i64_in _ (by have:=HFL.out.2;omega)];omega
   have hsy:syms.length <= 1001:=by have:=HFL.out.2;omega
   obtain ⟨G,hG⟩:∃ G,(syms.length + 49) / 50 = G:=⟨_,rfl⟩
   have u7b:((syms.length:Int) + 49) / 50 = (G:Int):=by omega
   have u7c:wrap64 ((G:Int) + more) = (gl:Int):=by rw [hG] at hgl3;rw [hgl3];exact IntWalk.wrap64_in _ (by omega)
   have u7:((syms.length + 49:Nat):Int) / 50 = (G:Int):=by omega
   rw [hG] at hgl3
   clear hG
   refine (Zat 2 3 w3x (by decide) (by decide)).mono ?_
   rintro e wc4 ⟨gc4,rfl,hoc,hbc⟩
   have HOc4:=Zh (OwnS.below HO3.out hbc)
   have HBc4:=Zh (HB3.out.trans (hbc.mono HQ3.out))
   have HQc4:Hid (w2.heap.size <= wc4.heap.size):=HBc4.out.size
   have HYR4:=Zh (OwnS.row hoc)
   have HYL4:Hid (3 = (hbits 2 3).length):=(Zak _ _).symm
   clear hbc hoc
   go_wp2_with (first | (at_builtin;refine appAnyS Zae rfl (.tmp 62) (.tmp 63) rfl (show _ = Value.slice oa3 o3.length oc3 by rw [HOL3.out];rfl) HOc4.out HYL4.out rfl HYR4.out (by rw [HOL3.out];omega) (by rw [HOL3.out];omega) HQc4.out ?_;intro oa4 oc4 w4x hown hg hb;have HGR4:=Zh hg;obtain ⟨L4,hL⟩:∃ L,o3.length + 3 = L:=⟨_,rfl⟩;rw [hL];have hlb:L4 <= 332:=(by have h1:=HOL3.out;omega);have HOL4:Hid ((o3 ++ hbits 2 3).length = L4):=(by unfold Hid;rw [List.length_append,<- HYL4.out];exact hL);obtain ⟨o4,ho⟩:∃ o,o = o3 ++ hbits 2 3:=⟨_,rfl⟩;rw [<- ho] at hown HOL4;have HOE4:=Zh ho;have HO4:=Zh hown;have HB4:=Zh (HBc4.out.trans hb);have HQ4:Hid (w2.heap.size <= w4x.heap.size):=HB4.out.size;clear hown hg hb hL ho) | (at_make;go_loud (refine makeN (n:=gl) Zax rfl _ _ rfl w4x.heap.size rfl rfl (by omega) (by omega) (Nat.le_refl _) ?_);intro w5g hown5 hg5;have HG5:=Zh hown5;have HGB5:=Zh (Below.of_grown hg5 (Nat.le_refl _) (fun k e=>by cases e));clear hown5 hg5))
   clear hgl3 hm3 u6 u7 u7b u7c
   rw [<- Zew (fun i=>(first + i) % 2) gl] at HG5
   obtain ⟨g5,hg5⟩:∃ g,w4x.heap.size = g:=⟨_,rfl⟩
   have HGS5:=Zh hg5
   rw [hg5] at HG5 HGB5 ⊢
   clear hg5
   go_loopw [21] (fun iv A=>∃ i:Nat,i <= gl /\ iv = .int .i64 (i:Nat) /\ Hid (OwnN 3 .i64 A g5 (some ⟨g5,0,none⟩) gl (partL (fun i=>(first + i) % 2) gl i)) /\ Hid (Below g5 w4x A)) (fun iv _=>gl - (intOf iv).toNat)
   case atStart=>exact ⟨0,Nat.zero_le _,rfl,HG5.out,HGB5.out⟩
   case round =>
    clear HG5 HGB5
    obtain ⟨i,hi,rfl,HG,HGB⟩:=hrel
    by_cases hlt:i < gl
    case pos =>
     have t2:decide ((i:Int) < (gl:Int)) = true:=by simp;omega
     have t2':decide (i < gl) = true:=by simp;omega
     obtain ⟨v,hv⟩:∃ v,(first + i) % 2 = v:=⟨_,rfl⟩
     have u8:((first:Int) + (i:Int)) % 2 = (v:Int):=by omega
     have HV:=Zh hv
     clear hv
     obtain ⟨g',he,_,_,hc,hf⟩:=HG.out.at (i:=i) (by rw [Zeh];exact hlt)
     cases he
     have HPT:Hid (OwnN 3 .i64 (wr.setCell ⟨g5,i,none⟩ (.int .i64 (v:Nat))) g5 (some ⟨g5,0,none⟩) gl (partL (fun i=>(first + i) % 2) gl (i + 1))):=by
      unfold Hid
      have h2:(fun i=>(first + i) % 2) i = v:=HV.out
      have h:(partL (fun i=>(first + i) % 2) gl i).set i v = partL (fun i=>(first + i) % 2) gl (i + 1):=(congrArg (fun z=>(partL (fun i=>(first + i) % 2) gl i).set i z) h2).symm.trans (Zev (fun i=>(first + i) % 2) gl i hlt)
      rw [<- h]
      exact (OwnN.stored HG.out i _).1
     have HBT:=Zh (HGB.out.setCell (p:=⟨g5,i,none⟩) (Nat.le_refl g5) (.int .i64 (v:Nat)))
     clear HG HGB
     go_wp2_with fail
     go_roundw
     case rel=>exact ⟨i + 1,by omega,by go_num,HPT.out,HBT.out⟩
     case measure=>simp [intOf];omega
    obtain rfl:i = gl:=by omega
    have t2:decide (i < i) = false:=by simp
    rw [Zeu] at HG
    have HGA:=Zh (show Below w4x.heap.size w4x wr by rw [HGS5.out];exact HGB.out)
    have HGR:=Zh HG.out.row
    have HGRL:Hid (((List.range i).map fun i=>(first + i) % 2).length = i):=by unfold Hid;simp
    obtain ⟨grp,hgrp⟩:∃ grp,grp = (List.range i).map fun i=>(first + i) % 2:=⟨_,rfl⟩
    rw [<- hgrp] at HGR HGRL
    have HGE:=Zh hgrp
    have HG6:Hid (∀ x ∈ grp,x < 6):=fun x hx=>by
     rw [hgrp] at hx
     obtain ⟨y,_,rfl⟩:=List.mem_map.1 hx
     omega
    have HSE:=Zh (Zei (some ⟨g5,0,none⟩) i grp wr HGR.out HG6.out (by rw [HGRL.out];omega))
    have hse:(selectorsG grp).length <= 15 + 7 * i:=by
     unfold selectorsG
     rw [List.length_append,Zak]
     have:=Zgg grp [0,1,2,3,4,5] (by decide) (fun x hx=>by have:=HG6.out x hx;simp;omega)
     rw [HGRL.out] at this
     omega
    rw [HGRL.out] at HSE
    obtain ⟨sl,hsl⟩:∃ sl,(selectorsG grp).length = sl:=⟨_,rfl⟩
    rw [hsl] at HSE hse
    have HSL:=Zh hsl
    clear hgrp hsl
    go_wp2_with fail
    refine HSE.out.mono ?_
    rintro e wc5 ⟨gc5,cc5,rfl,hoc,hbc⟩
    replace hbc:=HGA.out.trans (hbc.mono HGA.out.size)
    have HOc5:=Zh (OwnS.below HO4.out hbc)
    have HBc5:=Zh (HB4.out.trans (hbc.mono HQ4.out))
    have HQc5:Hid (w2.heap.size <= wc5.heap.size):=HBc5.out.size
    have HYR5:=Zh (OwnS.row hoc)
    have HYL5:Hid (sl = (selectorsG grp).length):=HSL.out.symm
    clear hbc hoc
    go_wp2_with (first | (at_builtin;refine appAnyS Zae rfl (.tmp 85) (.tmp 87) rfl (show _ = Value.slice oa4 o4.length oc4 by rw [HOL4.out];rfl) HOc5.out HYL5.out rfl HYR5.out (by rw [HOL4.out];omega) (by rw [HOL4.out];omega) HQc5.out ?_;intro oa5 oc5 w5x hown hg hb;have HGR5:=Zh hg;obtain ⟨L5,hL⟩:∃ L,o4.length + sl = L:=⟨_,rfl⟩;rw [hL];have hlb:L5 <= 140400:=(by have h1:=HOL4.out;omega);have HOL5:Hid ((o4 ++ selectorsG grp).length = L5):=(by unfold Hid;rw [List.length_append,<- HYL5.out];exact hL);obtain ⟨o5,ho⟩:∃ o,o = o4 ++ selectorsG grp:=⟨_,rfl⟩;rw [<- ho] at hown HOL5;have HOE5:=Zh ho;have HO5:=Zh hown;have HB5:=Zh (HBc5.out.trans hb);have HQ5:Hid (w2.heap.size <= w5x.heap.size):=HB5.out.size;clear hown hg hb hL ho) | (at_make;go_loud (refine makeN (n:=n) Zaz rfl _ _ rfl w5x.heap.size rfl rfl (by omega) (by omega) (Nat.le_refl _) ?_);intro w6g hown6 hg6;have HG6:=Zh hown6;have HGB6:=Zh (Below.of_grown hg6 (Nat.le_refl _) (fun k e=>by cases e));clear hown6 hg6))
    rw [<- Zew (fun _=>k) n] at HG6
    obtain ⟨g6,hg6⟩:∃ g,w5x.heap.size = g:=⟨_,rfl⟩
    have HGS6:=Zh hg6
    rw [hg6] at HG6 HGB6 ⊢
    clear hg6
    go_loopw [23] (fun iv A=>∃ i:Nat,i <= n /\ iv = .int .i64 (i:Nat) /\ Hid (OwnN 5 .u8 A g6 (some ⟨g6,0,none⟩) n (partL (fun _=>k) n i)) /\ Hid (Below g6 w5x A)) (fun iv _=>n - (intOf iv).toNat)
    case atStart=>exact ⟨0,Nat.zero_le _,rfl,HG6.out,HGB6.out⟩
    case round =>
     clear HG6 HGB6
     obtain ⟨i,hi,rfl,HG,HGB⟩:=hrel
     by_cases hlt:i < n
     case pos =>
      have t2:decide ((i:Int) < (n:Int)) = true:=by simp;omega
      have t2':decide (i < n) = true:=by simp;omega
      have u9:(k:Int) % 256 = (k:Int):=by omega
      obtain ⟨g',he,_,_,hc,hf⟩:=HG.out.at (i:=i) (by rw [Zeh];exact hlt)
      cases he
      have HPT:Hid (OwnN 5 .u8 (wr.setCell ⟨g6,i,none⟩ (.int .u8 (k:Nat))) g6 (some ⟨g6,0,none⟩) n (partL (fun _=>k) n (i + 1))):=by
       unfold Hid
       have h2:(fun _=>k) i = k:=rfl
       have h:(partL (fun _=>k) n i).set i k = partL (fun _=>k) n (i + 1):=(congrArg (fun z=>(partL (fun _=>k) n i).set i z) h2).symm.trans (Zev (fun _=>k) n i hlt)
       rw [<- h]
       exact (OwnN.stored HG.out i _).1
      have HBT:=Zh (HGB.out.setCell (p:=⟨g6,i,none⟩) (Nat.le_refl g6) (.int .u8 (k:Nat)))
      clear HG HGB
      go_wp2_with fail
      go_roundw
      case rel=>exact ⟨i + 1,by omega,by go_num,HPT.out,HBT.out⟩
      case measure=>simp [intOf];omega
     obtain rfl:i = n:=by omega
     have t2:decide (i < i) = false:=by simp
     rw [Zeu] at HG
     have HGA:=Zh (show Below w5x.heap.size w5x wr by rw [HGS6.out];exact HGB.out)
     have HLR:=Zh HG.out
     have HLE:Hid ((List.range i).map (fun _=>k) = List.replicate i k):=by
      unfold Hid
      rw [List.map_const',List.length_range]
     rw [HLE.out] at HLR
     have HLL:Hid ((List.replicate i k).length = i):=List.length_replicate
     have HL256:Hid (∀ x ∈ List.replicate i k,x < 256):=fun x hx=>by rw [List.eq_of_mem_replicate hx];omega
     have hi0:2 <= i:=by have:=HNE.out;omega
     have HLG:=Zh (fun A (h:RowN .u8 A (some ⟨g6,0,none⟩) i (List.replicate i k))=>Zgb (some ⟨g6,0,none⟩) i (List.replicate i k) A h HL256.out (by rw [HLL.out];omega) (by rw [HLL.out];omega))
     have hlg:(lengthsG (List.replicate i k)).length <= 5 + 512 * i:=by
      unfold lengthsG
      rw [List.length_append,Zak]
      have hk256:(List.replicate i k).getD 0 0 < 256:=by
       rw [List.getD_eq_getElem?_getD]
       cases e:(List.replicate i k)[0]? with
       | none=>simp
       | some y=>exact HL256.out y (List.mem_of_getElem? e)
      have:=Zft (List.replicate i k) _ hk256 HL256.out
      rw [HLL.out] at this
      omega
     rw [HLL.out] at HLG
     obtain ⟨ln,hln⟩:∃ ln,lengthsG (List.replicate i k) = ln:=⟨_,rfl⟩
     rw [hln] at HLG hlg
     have HLN:=Zh hln
     obtain ⟨ll,hll⟩:∃ ll,ln.length = ll:=⟨_,rfl⟩
     rw [hll] at HLG hlg
     have HLLN:=Zh hll
     clear hln hll
     go_wp2_with fail
     refine (HLG.out wr HLR.out.row).mono ?_
     rintro e wc6 ⟨gc6,cc6,rfl,hoc,hbc⟩
     have HLc:=Zh (HLR.out.below hbc)
     replace hbc:=HGA.out.trans (hbc.mono HGA.out.size)
     have HOc6:=Zh (OwnS.below HO5.out hbc)
     have HBc6:=Zh (HB5.out.trans (hbc.mono HQ5.out))
     have HQc6:Hid (w2.heap.size <= wc6.heap.size):=HBc6.out.size
     have HYR6:=Zh (OwnS.row hoc)
     have HYL6:Hid (ll = (ln).length):=HLLN.out.symm
     clear hbc hoc
     go_wp2_with ((at_builtin;refine appAnyS Zae rfl (.tmp 101) (.tmp 103) rfl (show _ = Value.slice oa5 o5.length oc5 by rw [HOL5.out];rfl) HOc6.out HYL6.out rfl HYR6.out (by rw [HOL5.out];omega) (by rw [HOL5.out];omega) HQc6.out ?_;intro oa6 oc6 w6x hown hg hb;have HGR6:=Zh hg;obtain ⟨L6,hL⟩:∃ L,o5.length + ll = L:=⟨_,rfl⟩;rw [hL];have hlb:L6 <= 272800:=(by have h1:=HOL5.out;omega);have HOL6:Hid ((o5 ++ ln).length = L6):=(by unfold Hid;rw [List.length_append,<- HYL6.out];exact hL);obtain ⟨o6,ho⟩:∃ o,o = o5 ++ ln:=⟨_,rfl⟩;rw [<- ho] at hown HOL6;have HOE6:=Zh ho;have HO6:=Zh hown;have HB6:=Zh (HBc6.out.trans hb);have HQ6:Hid (w2.heap.size <= w6x.heap.size):=HB6.out.size;have HLN6:=Zh (HLc.out.kept hg (fun x hx e=>by cases hx;have h1:=(Zck HO5.out (Zcb HOc6.out e)).2;have h2:=HGS6.out;omega));clear hown hg hb hL ho))
     refine (HLG.out w6x HLN6.out.row).mono ?_
     rintro e wc7 ⟨gc7,cc7,rfl,hoc,hbc⟩
     have HOc7:=Zh (OwnS.below HO6.out hbc)
     have HBc7:=Zh (HB6.out.trans (hbc.mono HQ6.out))
     have HQc7:Hid (w2.heap.size <= wc7.heap.size):=HBc7.out.size
     have HYR7:=Zh (OwnS.row hoc)
     have HYL7:Hid (ll = (ln).length):=HLLN.out.symm
     clear hbc hoc
     go_wp2_with ((at_builtin;refine appAnyS Zae rfl (.tmp 105) (.tmp 107) rfl (show _ = Value.slice oa6 o6.length oc6 by rw [HOL6.out];rfl) HOc7.out HYL7.out rfl HYR7.out (by rw [HOL6.out];omega) (by rw [HOL6.out];omega) HQc7.out ?_;intro oa7 oc7 w7x hown hg hb;have HGR7:=Zh hg;obtain ⟨L7,hL⟩:∃ L,o6.length + ll = L:=⟨_,rfl⟩;rw [hL];have hlb:L7 <= 405200:=(by have h1:=HOL6.out;omega);have HOL7:Hid ((o6 ++ ln).length = L7):=(by unfold Hid;rw [List.length_append,<- HYL7.out];exact hL);obtain ⟨o7,ho⟩:∃ o,o = o6 ++ ln:=⟨_,rfl⟩;rw [<- ho] at hown HOL7;have HOE7:=Zh ho;have HO7:=Zh hown;have HB7:=Zh (HBc7.out.trans hb);have HQ7:Hid (w2.heap.size <= w7x.heap.size):=HB7.out.size;clear hown hg hb hL ho))
     have HP7:Hid (o7 ++ symB k (syms.drop 0) = P):=by
      unfold Hid
      rw [HPP.out,HNE.out,HK.out,HLN.out,HOE7.out,HOE6.out,HOE5.out,HOE4.out,HOE3.out,HOE2.out,HOE1.out,HOE0.out,HGE.out]
      rfl
     have HPB:Hid (P.length <= 450000):=by
      unfold Hid
      rw [<- HP7.out,List.length_append,Zlb,List.drop_zero]
      have h1:=HOL7.out
      have:k * syms.length <= 9 * 1001:=Nat.mul_le_mul hk hsy
      omega
     go_loopw [19,24] (fun ov jv A=>∃ (j:Nat) (og:Option Addr) (oc:Nat) (o:List Nat),j <= syms.length /\ jv = .int .i64 (j:Nat) /\ ov = .slice og o.length oc /\ Hid (OwnB A w2.heap.size og oc o) /\ Hid (Below w2.heap.size w2 A) /\ Hid (o ++ symB k (syms.drop j) = P)) (fun _ jv _=>syms.length - (intOf jv).toNat)
     case atStart=>exact ⟨0,oa7,oc7,o7,Nat.zero_le _,rfl,by rw [HOL7.out],HO7.out,HB7.out,HP7.out⟩
     case round =>
      clear HP7
      obtain ⟨j,og,oc,o,hj,rfl,rfl,HO,HE,HF⟩:=hrel
      by_cases hlt:j < syms.length
      case neg =>
       obtain rfl:j = syms.length:=by omega
       have t3:decide (syms.length < syms.length) = false:=by simp
       go_wp2_with fail
       go_ret
       have he:o = P:=by have h:=HF.out;rw [List.drop_length] at h;simpa [symB] using h
       rw [<- he]
       exact ⟨og,oc,rfl,HO.out.mono HQ22.out,HE2.out.trans (HE.out.mono HQ22.out)⟩
      have t3:decide (j < syms.length) = true:=by simp;omega
      obtain ⟨sb,soff,rfl,_,hc⟩:=(HS2.out.below HE.out).at hlt
      have hxb:=HSY.out _ (List.getElem_mem hlt)
      have HDR:Hid (syms.drop j = syms[j] :: syms.drop (j + 1)):=List.drop_eq_getElem_cons hlt
      generalize syms[j] = x at *
      have HF2:Hid ((o ++ hbits x k) ++ symB k (syms.drop (j + 1)) = P):=by have h:=HF.out;rw [HDR.out] at h;unfold Hid;rw [List.append_assoc];exact h
      have hol:o.length + k <= 450000:=by
       have h1:=congrArg List.length HF2.out
       rw [List.length_append,List.length_append,Zak] at h1
       have:=HPB.out
       omega
      have HQW:Hid (w2.heap.size <= wr.heap.size):=HE.out.size
      have ux:(x:Int) % 4294967296 = (x:Int):=by omega
      have HBX:=Zh (Zat x k wr (by omega) (by omega))
      have HHL:Hid (k = (hbits x k).length):=(Zak _ _).symm
      clear HF
      go_wp2_with fail
      refine HBX.out.mono ?_
      rintro e wy ⟨gy,rfl,hoy,hby⟩
      have HOY:=Zh (OwnS.below HO.out hby)
      have HEY:=Zh (HE.out.trans (hby.mono HQW.out))
      have HQY:Hid (w2.heap.size <= wy.heap.size):=HEY.out.size
      have HRY:=Zh (OwnS.row hoy)
      clear hoy hby
      go_wp2_with (at_builtin;refine appAnyS Zae rfl (.tmp 115) (.tmp 122) rfl rfl HOY.out HHL.out rfl HRY.out (by omega) (by omega) HQY.out ?_;intro a7 c7 w7 hown7 hg7 hb7;have HO7:=Zh hown7;have HB7:=Zh hb7;clear hown7 hg7 hb7)
      go_roundw
      case rel=>exact ⟨j + 1,a7,c7,o ++ hbits x k,hlt,by go_num,by rw [List.length_append,<- HHL.out],HO7.out,HEY.out.trans HB7.out,HF2.out⟩
      case measure=>simp [intOf];omega
end Go.Proofs.YtnkpnjnfddjfpaaGreat

namespace Go.Proofs.YtnkpnjnfddjfpaaGreat.M27
theorem Zpo (last:List Nat) (c i:Nat):∀ K,c < K -> i <= last.length -> (wayK last last.length c ++ eqs last c i).length <= below last last.length K
 | 0,h,_=>by omega
 | K + 1,h,hi=>by
  rcases Nat.lt_or_ge c K with h1 | h1
  ·have:=Zpo last c i K h1 hi
   have e:below last last.length (K + 1) = below last last.length K + cnt last K last.length:=rfl
   omega
  ·obtain rfl:c = K:=by omega
   rw [List.length_append,Zgk,Zih]
   have:=Zoo last c i last.length hi
   have e:below last last.length (c + 1) = below last last.length c + cnt last c last.length:=rfl
   omega
end Go.Proofs.YtnkpnjnfddjfpaaGreat.M27
namespace Go.Proofs.YtnkpnjnfddjfpaaGreat
open Go.RowKit M01 M02 M27
set_option maxRecDepth 100000 in
set_option maxHeartbeats 1600000 in
theorem Zuj (a:Option Addr) (cap:Nat) (l:List Nat) (w:World) (hr:RowN .u8 w a cap l) (h256:∀ x ∈ l,x < 256) (hl:l.length <= 1000000) :
  Calls Tryz.prog 141 #[.slice a l.length cap] w fun e w'=>∃ g c,e = .returned (.slice g (wayL l).length c) /\ OwnN 3 .i64 w' w.heap.size g c (wayL l) /\ Below w.heap.size w w':=by
 have HR:=Zh hr
 have H256:=Zh h256
 have HL:=Zh hl
 have HTOT:Hid (below l l.length 256 = l.length):=Zh (Zfg l 256 h256 l.length (Nat.le_refl _))
 obtain ⟨q,hq⟩:∃ q,w.heap.size = q:=⟨_,rfl⟩
 rw [hq]
 have HQ:=Zh hq
 clear hr h256
 go_enter Tryz.func141,Tryz.ntmps141
 go_wp2
 go_loopw [3,4] (fun x cv A=>∃ (c:Nat) (o:List Nat) (g:Option Addr) (cp:Nat),c <= 256 /\ cv = .int .i64 (c:Nat) /\ x = .slice g o.length cp /\ OwnN 3 .i64 A q g cp o /\ Below q w A /\ Hid (o = wayK l l.length c)) (fun x cv _=>256 - (intOf cv).toNat)
 case atStart=>exact ⟨0,[],none,0,by omega,rfl,rfl,OwnN.nil _ _ _ _,Below.refl _ _,rfl⟩
 case round =>
  clear hq
  obtain ⟨c,o,g,cp,hc,rfl,rfl,hown,hbe,HF⟩:=hrel
  have HO:=Zh hown
  have HE:=Zh hbe
  clear hown hbe
  by_cases hlt:c < 256
  ·have t0:decide ((c:Int) < 256) = true:=by simp;omega
   have HF0:Hid (o = wayK l l.length c ++ eqs l c 0):=by unfold Hid;rw [HF.out];simp [eqs]
   go_wp2
   go_loopw [3,5] (fun x iv A=>∃ (i:Nat) (o2:List Nat) (g2:Option Addr) (c2:Nat),i <= l.length /\ iv = .int .i64 (i:Nat) /\ x = .slice g2 o2.length c2 /\ OwnN 3 .i64 A q g2 c2 o2 /\ Below q w A /\ Hid (o2 = wayK l l.length c ++ eqs l c i)) (fun x iv _=>l.length - (intOf iv).toNat)
   case atStart=>exact ⟨0,o,g,cp,by omega,rfl,rfl,HO.out,HE.out,HF0.out⟩
   case round =>
    clear HF HF0 HO HE
    obtain ⟨i,o2,g2,c2,hi,rfl,rfl,hown,hbe,HF⟩:=hrel
    have HO:=Zh hown
    have HE:=Zh hbe
    clear hown hbe
    have ho2:o2.length <= 1000000:=by
     rw [HF.out]
     have:=Zpo l c i 256 hlt hi
     rw [HTOT.out] at this
     have:=HL.out
     omega
    have hwr:q <= wr.heap.size:=by have:=HE.out.size;have:=HQ.out;omega
    have HWR:=Zh hwr
    clear hwr
    by_cases hil:i < l.length
    ·obtain ⟨b,off,rfl,hbs,hc0⟩:=(HR.out.below (HQ.out ▸ HE.out)).at hil
     have t1:decide (i < l.length) = true:=by simp;omega
     obtain ⟨v,hv⟩:∃ v,l[i] = v:=⟨_,rfl⟩
     have hgd:l.getD i 0 = v:=by rw [List.getD_eq_getElem?_getD,List.getElem?_eq_getElem hil];exact hv
     rw [hv] at hc0
     have hv256:v < 256:=by rw [<- hv];exact H256.out _ (List.getElem_mem hil)
     have u1:IntKind.i64.wrap (v:Int) = (v:Int):=IntWalk.i64_in _ (by omega)
     have HS:=Zh (Zkp l c i)
     rw [hgd] at HS
     clear hv hgd
     by_cases hvc:v = c
     ·have t2:((v:Int) == (c:Int)) = true:=beq_iff_eq.2 (by omega)
      rw [if_pos hvc] at HS
      clear hvc
      go_wp2_with (at_builtin;refine app1N (y:=i) Zax rfl (.tmp 23) (.tmp 25) rfl rfl HO.out rfl (by omega) (by omega) (by omega) (by omega) HWR.out ?_;intro a' c' w2 hown hg hb2;replace hown:=Zh hown;replace hb2:=Zh (HE.out.trans hb2);clear hg)
      go_wp2
      go_roundw
      case rel=>exact ⟨i + 1,o2 ++ [i],a',c',by omega,by go_num,by rw [List.length_append];rfl,hown.out,hb2.out,by unfold Hid;rw [HF.out,HS.out,List.append_assoc]⟩
      case measure=>simp [intOf];omega
     ·have t2:((v:Int) == (c:Int)) = false:=beq_eq_false_iff_ne.2 (by omega)
      rw [if_neg hvc,List.append_nil] at HS
      clear hvc
      go_wp2
      go_roundw
      case rel=>exact ⟨i + 1,o2,g2,c2,by omega,by go_num,by trivial,HO.out,HE.out,by unfold Hid;rw [HF.out,HS.out]⟩
      case measure=>simp [intOf];omega
    ·obtain rfl:i = l.length:=by omega
     have t1:decide (l.length < l.length) = false:=by simp
     go_wp2
     go_roundw
     case rel=>exact ⟨c + 1,o2,g2,c2,by omega,by go_num,by trivial,HO.out,HE.out,by unfold Hid;rw [HF.out,Zix]⟩
     case measure=>simp [intOf];omega
  ·obtain rfl:c = 256:=by omega
   have t0:decide ((256:Int) < 256) = false:=rfl
   go_wp2
   go_ret
   have e:o = wayL l:=HF.out
   exact ⟨g,cp,by rw [<- e];rfl,by rw [<- e];exact HO.out,HE.out⟩
set_option maxRecDepth 100000 in
set_option maxHeartbeats 1600000 in
theorem Zqt (a:Option Addr) (cap:Nat) (l:List Nat) (at_:Nat) (w:World) (hr:RowN .u8 w a cap l) (h256:∀ x ∈ l,x < 256) (hl:l.length <= 1000000) :
  Calls Tryz.prog 92 #[.slice a l.length cap,.int .i64 (at_:Nat)] w fun e w'=>Below w.heap.size w w' /\ match backG l at_ with
   | some r=>∃ g c,e = .returned (.tuple #[.slice g r.length c,.int .i64 0]) /\ OwnN 5 .u8 w' w.heap.size g c r
   | none=>e = .returned (.tuple #[.slice none 0 0,.int .i64 2]):=by
 have HR:=Zh hr
 have H256:=Zh h256
 have HL:=Zh hl
 have t0:decide ((at_:Int) < 0) = false:=by simp
 obtain ⟨q,hq⟩:∃ q,w.heap.size = q:=⟨_,rfl⟩
 rw [hq]
 have HQ:=Zh hq
 unfold backG
 by_cases ha:at_ < l.length
 case neg =>
  rw [if_neg ha]
  have t1:decide (l.length <= at_) = true:=by simp;omega
  clear hr h256 ha
  go_enter Tryz.func92,Tryz.ntmps92
  go_wp2_with fail
  go_ret2
  exact ⟨Below.refl _ _,rfl⟩
 rw [if_pos ha]
 have t1:decide (l.length <= at_) = false:=by simp;omega
 have HW:=Zh (Zuj a cap l w hr h256 hl)
 have HWL:=Zh (Zdw l h256)
 have HWK:=Zh (fun i=>Zem l h256 at_ ha i)
 have hwk0:Hid (walkAt (wayL l) at_ 0 = at_):=rfl
 have HA:=Zh ha
 clear hr h256 ha
 go_enter Tryz.func92,Tryz.ntmps92
 go_wp2_with fail
 refine HW.out.mono ?_
 rintro e w1 ⟨wg,wc,rfl,hown,hb1⟩
 rw [hq] at hown hb1
 have HWR:=Zh hown.row
 have HB1:=Zh hb1
 have hq1:q <= w1.heap.size:=by have:=hb1.size;omega
 have HQ1:=Zh hq1
 have HLR:=Zh (HR.out.below (HQ.out ▸ hb1))
 clear hown hb1 hq HW hq1
 go_wp2
 go_loopw [1,7,8] (fun av x iv A=>∃ (i:Nat) (o:List Nat) (g:Option Addr) (c:Nat),i <= l.length /\ iv = .int .i64 (i:Nat) /\ av = .int .i64 (walkAt (wayL l) at_ i:Nat) /\ x = .slice g o.length c /\ o.length = i /\ OwnN 5 .u8 A w1.heap.size g c o /\ Below w1.heap.size w1 A /\ Hid (o = walked l at_ i)) (fun _ x iv _=>l.length - (intOf iv).toNat)
 case atStart=>exact ⟨0,[],none,0,by omega,rfl,by rw [hwk0.out],rfl,rfl,OwnN.nil _ _ _ _,Below.refl _ _,rfl⟩
 case round =>
  obtain ⟨i,o,g,c,hi,rfl,rfl,rfl,hol,hown,hbe,HF⟩:=hrel
  have HO:=Zh hown
  have HE:=Zh hbe
  clear hown hbe
  by_cases hlt:i < l.length
  ·have t2:decide (i < l.length) = true:=by simp;omega
   have hx:=HWK.out i
   have hy:=HWK.out (i + 1)
   have hstep:walkAt (wayL l) at_ (i + 1) = (wayL l).getD (walkAt (wayL l) at_ i) 0:=by first | rfl | (rw [<- Zen];rfl)
   have HNX:=Zh (Ziw l at_ i)
   generalize walkAt (wayL l) at_ i = x at *
   generalize hyy:walkAt (wayL l) at_ (i + 1) = y at *
   have HYY:=Zh hyy
   clear hyy
   obtain ⟨b,off,hb,hbs,hc0⟩:=(HWR.out.below HE.out).at (i:=x) (by rw [HWL.out];exact hx)
   have hgx:(wayL l)[x]'(by rw [HWL.out];exact hx) = y:=by
    rw [hstep,List.getD_eq_getElem?_getD,List.getElem?_eq_getElem (by rw [HWL.out];exact hx)];rfl
   rw [hgx] at hc0
   obtain ⟨b2,off2,hb2',hbs2,hc2⟩:=(HLR.out.below HE.out).at (i:=y) hy
   obtain ⟨v,hv⟩:∃ v,l[y] = v:=⟨_,rfl⟩
   have hgd:l.getD y 0 = v:=by rw [List.getD_eq_getElem?_getD,List.getElem?_eq_getElem hy];exact hv
   rw [hv] at hc2
   rw [hgd] at HNX
   have hwl:(wayL l).length = l.length:=HWL.out
   have hwr:w1.heap.size <= wr.heap.size:=HE.out.size
   have HWR2:=Zh hwr
   have HOL:=Zh hol
   have hol2:o.length <= 1000000:=by have:=HL.out;omega
   subst hb hb2'
   rw [hwl]
   have HWL2:=HWL
   clear hstep hgx hv hgd hwr hwl hol
   go_wp2_with (at_builtin;refine app1N (y:=v) Zaz rfl (.tmp 29) (.tmp 34) rfl rfl HO.out rfl (by omega) (by omega) (by omega) (by omega) HWR2.out ?_;intro a' c' w2 hown hg hb2;replace hown:=Zh hown;replace hb2:=Zh (HE.out.trans hb2);clear hg)
   go_wp2
   go_roundw
   case rel=>exact ⟨i + 1,o ++ [v],a',c',by omega,by go_num,by rw [HYY.out],by rw [List.length_append];rfl,by rw [List.length_append,HOL.out];rfl,hown.out,hb2.out,by unfold Hid;rw [HNX.out,<- HF.out]⟩
   case measure=>simp [intOf];omega
  ·obtain rfl:i = l.length:=by omega
   have t2:decide (l.length < l.length) = false:=by simp
   have hw:o = backL l l.length at_:=by rw [HF.out,Zdv]
   have HW:=Zh hw
   clear hw
   go_wp2
   go_ret2
   refine ⟨HB1.out.trans (HE.out.mono HQ1.out),g,c,by rw [<- HW.out];rfl,?_⟩
   rw [<- HW.out]
   exact HO.out.mono HQ1.out
end Go.Proofs.YtnkpnjnfddjfpaaGreat

namespace Go.Proofs.YtnkpnjnfddjfpaaGreat.M27
theorem Zdp (used:List Nat) (most s:Nat) (r l out:List Nat) (worth:Nat):frL used most (s :: r) l out worth = if used.length + 1 < s \/ (s = used.length + 1) ≠ (r = []) then none
  else if s <= 1 then (if most < out.length + worth * (s + 1) then none else frL used most r l (out ++ List.replicate (worth * (s + 1)) (l.getD 0 0)) (2 * worth))
  else if s = used.length + 1 then (if most < out.length then none else some out)
  else if most < out.length + 1 then none else frL used most r (toFront l (s - 1)) (out ++ [l.getD (s - 1) 0]) 1:=rfl
theorem Zcy {used:List Nat} {most:Nat} {syms l out:List Nat} {worth:Nat} (h:most < out.length):frL used most syms l out worth = none:=by
 cases syms with
 | nil=>rfl
 | cons s r =>
  rw [Zdp]
  split
  ·rfl
  ·split
   ·rw [if_pos (by omega)]
   ·split
    ·first | rfl | rw [if_pos h]
    ·first | rfl | rw [if_pos (by omega)]
theorem Zzu {used:List Nat} {most s:Nat} {r l out:List Nat} {worth:Nat} (h0:used ≠ []) (h1:s <= 1):frL used most (s :: r) l out worth = frL used most r l (out ++ List.replicate (worth * (s + 1)) (l.getD 0 0)) (2 * worth):=by
 have hu:0 < used.length:=List.length_pos_iff.2 h0
 rw [Zdp]
 by_cases hr:r = []
 ·subst hr
  rw [if_pos (.inr (by simp;omega))];rfl
 ·rw [if_neg (by simp [hr];omega),if_pos h1]
  split
  ·rw [Zcy (by simp;omega)]
  ·rfl
theorem Zzt {used:List Nat} {most s:Nat} {r l out:List Nat} {worth:Nat} (h1:1 < s) (h2:s < used.length + 1):frL used most (s :: r) l out worth = frL used most r (toFront l (s - 1)) (out ++ [l.getD (s - 1) 0]) 1:=by
 rw [Zdp]
 by_cases hr:r = []
 ·subst hr
  rw [if_pos (.inr (by simp;omega))];rfl
 ·rw [if_neg (by simp [hr];omega),if_neg (by omega),if_neg (by omega)]
  split
  ·rw [Zcy (by simp;omega)]
  ·rfl
theorem Zzs {used:List Nat} {most s:Nat} {r l out:List Nat} {worth:Nat} (h:used.length + 1 < s):frL used most (s :: r) l out worth = none:=by rw [Zdp,if_pos (.inl h)]
theorem Zxj {used:List Nat} {most:Nat} {r l out:List Nat} {worth:Nat} (h0:used ≠ []):frL used most ((used.length + 1) :: r) l out worth = if r = [] then (if most < out.length then none else some out) else none:=by
 have hu:0 < used.length:=List.length_pos_iff.2 h0
 rw [Zdp]
 by_cases hr:r = []
 ·rw [if_neg (by simp [hr]),if_neg (by omega),if_pos rfl,if_pos hr]
 ·rw [if_pos (.inr (by simp [hr])),if_neg hr]
theorem Zlr {used:List Nat} {most:Nat} {syms l out:List Nat} (w1 w2:Nat) (h:∀ s r,syms = s :: r -> 1 < s):frL used most syms l out w1 = frL used most syms l out w2:=by
 cases syms with
 | nil=>rfl
 | cons s r =>
  have:=h s r rfl
  rw [Zdp,Zdp,if_neg (show ¬ s <= 1 by omega),if_neg (show ¬ s <= 1 by omega)]
theorem Zsu {l:List Nat} {i:Nat} (h:i < l.length):l.drop i = l.getD i 0 :: l.drop (i + 1):=by
 rw [List.drop_eq_getElem_cons h,List.getD_eq_getElem?_getD,List.getElem?_eq_getElem h];rfl
end Go.Proofs.YtnkpnjnfddjfpaaGreat.M27
namespace Go.Proofs.YtnkpnjnfddjfpaaGreat
open Go.RowKit M01 M02 M10 M27
def Out22 (q:Nat) (R:Option (List Nat)) (e:Ending) (w':World):Prop :=
 match R with
 | some out=>∃ g c,e = .returned (.tuple #[.slice g out.length c,.int .i64 0]) /\ OwnN 5 .u8 w' q g c out
 | none=>e = .returned (.tuple #[.slice none 0 0,.int .i64 2])
theorem Znz {l:List Nat} (h:rising l = true):∀ i,i + 1 < l.length -> l.getD i 0 < l.getD (i + 1) 0:=by
 induction l with
 | nil=>intro i hi;simp at hi
 | cons a l ih =>
  intro i hi
  cases l with
  | nil=>simp at hi
  | cons b l =>
   unfold rising at h
   rw [Bool.and_eq_true] at h
   cases i with
   | zero=>simpa using h.1
   | succ i=>exact ih h.2 i (by simpa using hi)
set_option maxRecDepth 100000 in
set_option maxHeartbeats 6400000 in
theorem Zuk (ua sa:Option Addr) (uc sc:Nat) (used syms:List Nat) (most:Nat) (w:World) (hu:RowN .u8 w ua uc used) (hs:RowN .i64 w sa sc syms) (h0:used ≠ []) (hri:rising used = true) (hul:used.length <= 256) (hm:most <= 900000) (hsl:syms.length <= 2000000) (hsb:∀ x ∈ syms,x <= 1000) :
  Calls Tryz.prog 91 #[.slice ua used.length uc,.slice sa syms.length sc,.int .i64 (most:Nat)] w fun e w'=>Below w.heap.size w w' /\ Out22 w.heap.size (frontG used syms most) e w':=by
 have hu1:0 < used.length:=List.length_pos_iff.2 h0
 obtain ⟨q,hq⟩:∃ q,w.heap.size = q:=⟨_,rfl⟩
 rw [hq]
 have HQ:=Zh hq
 have HU:=Zh hu
 have HS:=Zh hs
 have HU0:=Zh h0
 have HRI:=Zh (Znz hri)
 have HSB:=Zh hsb
 have HU1:=Zh hu1
 obtain ⟨F,hF⟩:∃ F,F = frontG used syms most:=⟨_,rfl⟩
 rw [<- hF]
 have HF0:Hid (F = frL used most (syms.drop 0) used [] 1):=hF
 obtain ⟨ub,uoff,rfl,hub,_⟩:=hu.at hu1
 have t1:((used.length:Int) == 0) = false:=beq_eq_false_iff_ne.2 (by omega)
 have t2:decide ((most:Int) < 0) = false:=by simp
 have t3:decide ((900000:Int) < (most:Int)) = false:=by simp;omega
 have HMO:=Zh hm
 have hm2:most <= 1000000:=by omega
 clear hu hs h0 hri hsb hF hq hm hub
 go_enter Tryz.func91,Tryz.ntmps91
 go_wp2_with fail
 go_loopw [8] (fun iv A=>∃ i:Nat,iv = .int .i64 (i:Nat) /\ 1 <= i /\ i <= used.length /\ Below q w A) (fun iv _=>used.length - (intOf iv).toNat)
 case atStart=>exact ⟨1,rfl,Nat.le_refl _,by omega,Below.refl _ _⟩
 case round =>
  obtain ⟨i,rfl,hi1,hi,hbe⟩:=hrel
  have HE:=Zh hbe
  clear hbe
  by_cases hlt:i < used.length
  ·have t0:decide (i < used.length) = true:=by simp;omega
   obtain ⟨j,rfl⟩:∃ j,i = j + 1:=⟨i - 1,by omega⟩
   have hj:j < used.length:=by omega
   obtain ⟨b1,o1,e1,_,hc1⟩:=(HU.out.below (HQ.out ▸ HE.out)).at hj
   obtain ⟨b2,o2,e2,_,hc2⟩:=(HU.out.below (HQ.out ▸ HE.out)).at hlt
   cases e1
   cases e2
   have hr:=HRI.out j hlt
   rw [List.getD_eq_getElem?_getD,List.getElem?_eq_getElem hj,List.getD_eq_getElem?_getD,List.getElem?_eq_getElem hlt] at hr
   simp only [Option.getD_some] at hr
   generalize used[j] = x at *
   generalize used[j + 1] = y at *
   obtain ⟨j1,hj1⟩:∃ j1,j + 1 = j1:=⟨_,rfl⟩
   rw [hj1] at hc2 hlt t0 ⊢
   have hji:(j1:Int) - 1 = (j:Int):=by omega
   have tge:decide (y <= x) = false:=by simp;omega
   clear hj1
   go_wp2_with fail
   go_quiet (fail)
   go_wp2
   go_roundw
   case rel=>exact ⟨j1 + 1,by go_num,by omega,by omega,belDN HE.out _⟩
   case measure=>simp [intOf];omega
  ·obtain rfl:i = used.length:=by omega
   have t0:decide (used.length < used.length) = false:=by simp
   clear HRI
   have HUW:=Zh (HU.out.below (HQ.out ▸ HE.out))
   have hqw:q <= wr.heap.size:=by have:=HE.out.size;have:=HQ.out;omega
   go_wp2_with (at_builtin;refine appAnyN Zaz rfl (.tmp 44) (.tmp 45) rfl (a:=some ⟨wr.heap.size,0,none⟩) (cap:=0) (l:=[]) (ys:=used) (base:=wr.heap.size) rfl (OwnN.lit0 _ _ _ _ (Nat.le_refl _)) rfl rfl (HUW.out.below (Zai wr _)) (by simp;omega) (by simp;omega) (by simp) ?_;intro a1 cap1 w1 hown1 hg1 hb1;simp only [List.nil_append] at hown1;simp only [List.length_nil,Nat.zero_add];have HO1:=Zh hown1;have HB1:=Zh ((Zai wr _).trans hb1);clear hown1 hg1 hb1)
   obtain ⟨lg0,rfl,hlg1,hlg2⟩:∃ g,a1 = some ⟨g,0,none⟩ /\ wr.heap.size <= g /\ g < w1.heap.size:=by
    rcases HO1.out.form with ⟨_,_,h⟩ | ⟨g,h1,h2,h3⟩
    ·exact absurd h HU0.out
    ·exact ⟨g,h1,h2,h3⟩
   have HLR0:=Zh HO1.out.row
   have HLG0:=Zh hlg2
   have HE1:=Zh (HE.out.trans (HB1.out.mono hqw))
   clear hlg1 hlg2 HO1 HB1 HE HUW hqw
   go_wp2_with fail
   go_loopw [9,11,12] (fun lv x iv A=>∃ (i:Nat) (l:List Nat) (lg lc:Nat) (o:List Nat) (og:Option Addr) (oc:Nat),i <= syms.length /\ iv = .int .i64 (i:Nat) /\ lv = .slice (some ⟨lg,0,none⟩) used.length lc /\ x = .slice og o.length oc /\ Hid (o.length <= most) /\ Hid (l.length = used.length) /\ Hid (RowN .u8 A (some ⟨lg,0,none⟩) lc l) /\ Hid (lg < A.heap.size) /\ Hid (OwnN 5 .u8 A q og oc o) /\ Hid (∀ g,og = some ⟨g,0,none⟩ -> g ≠ lg) /\ Hid (Below q w A) /\ Hid (F = frL used most (syms.drop i) l o 1)) (fun _ _ iv _=>syms.length - (intOf iv).toNat)
   case atStart=>exact ⟨0,used,lg0,cap1,[],none,0,Nat.zero_le _,rfl,rfl,rfl,Nat.zero_le _,rfl,HLR0.out,HLG0.out,OwnN.nil _ _ _ _,(fun g h=>by cases h),HE1.out,HF0.out⟩
   case round =>
    clear HLR0 HLG0 HE1 HF0 hi1 hi
    obtain ⟨i,l,lg,lc,o,og,oc,hi,rfl,rfl,rfl,HOM,HLL,HLR,HLG,HO,HNE,HE,HF⟩:=hrel
    have ho1:o.length <= 1000000:=Nat.le_trans HOM.out hm2
    have tlen:((syms.length:Int) - 1:Int) = (syms.length:Int) - 1:=rfl
    by_cases hlt:i < syms.length
    case neg =>
     obtain rfl:i = syms.length:=by omega
     have ta:decide (syms.length < syms.length) = false:=by simp
     have tb:((syms.length:Int) == (syms.length:Int) - 1) = false:=beq_eq_false_iff_ne.2 (by omega)
     have HPN:Hid (F = none):=by unfold Hid;rw [HF.out,List.drop_length];rfl
     clear hlt tlen
     go_wp2_with fail
     go_ret2
     refine ⟨HE.out,?_⟩
     rw [HPN.out]
     rfl
    have ta:decide (i < syms.length) = true:=by simp;omega
    obtain ⟨sb,soff,rfl,_,hcs⟩:=(HS.out.below (HQ.out ▸ HE.out)).at hlt
    obtain ⟨s,hsv⟩:∃ s,syms[i] = s:=⟨_,rfl⟩
    have hsd:syms.getD i 0 = s:=by rw [List.getD_eq_getElem?_getD,List.getElem?_eq_getElem hlt];exact hsv
    have hs1000:s <= 1000:=by rw [<- hsv];exact HSB.out _ (List.getElem_mem hlt)
    rw [hsv] at hcs
    have HF1:Hid (F = frL used most (s :: syms.drop (i + 1)) l o 1):=by unfold Hid;rw [HF.out,Zsu hlt,hsd]
    have HSD:=Zh hsd
    have hil:(i:Int) < (syms.length:Int):=by omega
    clear hsv hsd tlen
    by_cases hse:s = used.length + 1
    ·have tb:((s:Int) == (used.length:Int) + 1) = true:=beq_iff_eq.2 (by omega)
     have HFE:Hid (F = if syms.drop (i + 1) = [] then some o else none):=by
      unfold Hid
      rw [HF1.out,hse,Zxj HU0.out,if_neg (show ¬ most < o.length by have:=HOM.out;omega)]
     by_cases hlast:i + 1 = syms.length
     ·have tc:((i:Int) == (syms.length:Int) - 1) = true:=beq_iff_eq.2 (by omega)
      have HPS:Hid (F = some o):=by unfold Hid;rw [HFE.out,if_pos (List.drop_eq_nil_of_le (by omega))]
      clear hse hlast
      go_wp2_with fail
      go_ret2
      refine ⟨HE.out,?_⟩
      rw [HPS.out]
      exact ⟨og,oc,rfl,HO.out⟩
     ·have tc:((i:Int) == (syms.length:Int) - 1) = false:=beq_eq_false_iff_ne.2 (by omega)
      have HPN:Hid (F = none):=by
       unfold Hid
       rw [HFE.out,if_neg (fun h=>by have:=congrArg List.length h;simp at this;omega)]
      clear hse hlast
      go_wp2_with fail
      go_ret2
      refine ⟨HE.out,?_⟩
      rw [HPN.out]
      rfl
    have tb:((s:Int) == (used.length:Int) + 1) = false:=beq_eq_false_iff_ne.2 (by omega)
    have tbn:((s:Int) != (used.length:Int) + 1) = true:=by rw [bne,tb];rfl
    by_cases hbig:used.length + 1 < s
    ·have td:decide ((used.length:Int) + 1 < (s:Int)) = true:=by simp;omega
     have HPN:Hid (F = none):=by unfold Hid;rw [HF1.out];exact Zzs hbig
     clear hbig hse
     go_wp2_with fail
     go_ret2
     refine ⟨HE.out,?_⟩
     rw [HPN.out]
     rfl
    have td:decide ((used.length:Int) + 1 < (s:Int)) = false:=by simp;omega
    have te:decide ((s:Int) < 0) = false:=by simp
    by_cases h1s:1 < s
    ·have tf:decide ((1:Int) < (s:Int)) = true:=by simp;omega
     obtain ⟨j,hj⟩:∃ j,s - 1 = j:=⟨_,rfl⟩
     have hji:(s:Int) - 1 = (j:Int):=by omega
     have hjl:j < l.length:=by rw [HLL.out];omega
     have HF2:Hid (F = frL used most (syms.drop (i + 1)) (toFront l j) (o ++ [l.getD j 0]) 1):=by unfold Hid;rw [HF1.out,Zzt h1s (by omega),hj]
     have HMV:=Zh (fun B' (h:RowN .u8 B' (some ⟨lg,0,none⟩) lc l)=>Zir (some ⟨lg,0,none⟩) lc l j B' h hjl (by rw [HLL.out];omega))
     rw [HLL.out] at HMV
     have HTL:Hid ((toFront l j).length = used.length):=by unfold Hid;rw [Zay hjl];exact HLL.out
     have HT0:Hid ((toFront l j)[0]'(by rw [HTL.out];exact HU1.out) = l.getD j 0):=rfl
     clear hj hjl h1s hse hbig
     go_wp2_with fail
     refine (HMV.out _ HLR.out).mono ?_
     rintro e w2 ⟨g2,c2,rfl,hown2,hb2⟩
     have hqw:q <= wr.heap.size:=by have:=HE.out.size;have:=HQ.out;omega
     have HR2:=Zh hown2.row
     have HE2:=Zh (HE.out.trans (hb2.mono hqw))
     have HO2:=Zh (HO.out.below hb2)
     obtain ⟨g3,hg3,hlo3,hhi3,hc3,_⟩:=hown2.at (i:=0) (by rw [HTL.out];exact HU1.out)
     rw [HT0.out] at hc3
     subst hg3
     have hog:∀ g,og = some ⟨g,0,none⟩ -> g < wr.heap.size:=fun g hg=>by
      rcases HO.out.form with ⟨h,_⟩ | ⟨g0,h,_,h2⟩
      ·rw [h] at hg;cases hg
      ·rw [h] at hg;cases hg;exact h2
     have HOG:=Zh hog
     have HLO3:=Zh hlo3
     have HHI3:=Zh hhi3
     have hwr2:q <= w2.heap.size:=by have:=HE2.out.size;have:=HQ.out;omega
     have HWR2:=Zh hwr2
     obtain ⟨v,hv⟩:∃ v,l.getD j 0 = v:=⟨_,rfl⟩
     rw [hv] at hc3 HF2
     have hu1':0 < used.length:=HU1.out
     clear hown2 hb2 hlo3 hhi3 hog hwr2 hv hqw
     by_cases hom:o.length + 1 <= most
     case neg =>
      have tm:decide ((most:Int) < (o.length:Int) + 1) = true:=by simp;omega
      have HPN:Hid (F = none):=by unfold Hid;rw [HF2.out];exact Zcy (by simp;omega)
      clear hom
      go_wp2_with (at_builtin;refine app1At (y:=v) Zaz rfl (.tmp 79) (.tmp 83) rfl rfl HO2.out rfl (by omega) (by omega) (by omega) (by omega) HWR2.out ?_;intro a' c' w3 hown3 hg3 hb3 hat;have HE3:=Zh (HE2.out.trans hb3);clear hown3 hg3 hb3 hat)
      go_wp2_with fail
      go_ret2
      refine ⟨HE3.out,?_⟩
      rw [HPN.out]
      rfl
     have tm:decide ((most:Int) < (o.length:Int) + 1) = false:=by simp;omega
     have HOM2:Hid ((o ++ [v]).length <= most):=by unfold Hid;rw [List.length_append];exact hom
     clear hom
     go_wp2_with (at_builtin;refine app1At (y:=v) Zaz rfl (.tmp 79) (.tmp 83) rfl rfl HO2.out rfl (by omega) (by omega) (by omega) (by omega) HWR2.out ?_;intro a' c' w3 hown3 hg3 hb3 hat;have HOWN3:=Zh hown3;have HE3:=Zh (HE2.out.trans hb3);have HGR:=Zh hg3;have HAT:=Zh hat;clear hown3 hg3 hb3 hat)
     go_wp2_with fail
     go_roundw
     case rel =>
      have hne:∀ g,og = some ⟨g,0,none⟩ -> g ≠ g3:=fun g hg=>by have:=HOG.out g hg;have:=HLO3.out;omega
      refine ⟨i + 1,toFront l j,g3,c2,o ++ [v],a',c',by omega,by go_num,by trivial,by rw [List.length_append];rfl,HOM2.out,HTL.out,?_,Nat.lt_of_lt_of_le HHI3.out HGR.out.size,HOWN3.out,fun g hg=>?_,HE3.out,HF2.out⟩
      ·refine HR2.out.same HGR.out.size (fun x h0 hx=>HGR.out.block _ (by cases hx;exact HHI3.out) (fun e=>?_))
       cases hx
       exact hne _ (Zcc HO.out e.symm) rfl
      ·rcases HAT.out g hg with h | h
       ·exact hne g h
       ·have:=HHI3.out;omega
     case measure=>simp [intOf];omega
    ·have tf:decide ((1:Int) < (s:Int)) = false:=by simp;omega
     obtain ⟨c,hc⟩:∃ c,l.getD 0 0 = c:=⟨_,rfl⟩
     have HC0:Hid (∀ h:0 < l.length,l[0] = c):=fun h=>by rw [<- hc,List.getD_eq_getElem?_getD,List.getElem?_eq_getElem h];rfl
     have HCE:=Zh hc
     have HFR0:Hid (F = frL used most (syms.drop i) l (o ++ List.replicate 0 c) 1):=by unfold Hid;rw [HF.out];simp
     have hs1:s <= 1:=by omega
     have HS1:=Zh hs1
     clear hc h1s hse hbig hs1
     go_wp2_with fail
     go_loopw [12,14,15] (fun iv nv wv A=>∃ i2 n wo:Nat,iv = .int .i64 (i2:Nat) /\ nv = .int .i64 (n:Nat) /\ wv = .int .i64 (wo:Nat) /\ i <= i2 /\ i2 <= syms.length /\ A = wr /\ n <= 3000000 /\ wo <= n + 1 /\ Hid (i2 = i -> n = 0) /\ Hid (F = frL used most (syms.drop i2) l (o ++ List.replicate n c) wo)) (fun iv _ _ _=>syms.length - (intOf iv).toNat)
     case atStart=>exact ⟨i,0,1,rfl,rfl,rfl,Nat.le_refl _,hi,by trivial,Nat.zero_le _,by omega,fun _=>rfl,HFR0.out⟩
     case round =>
      clear HFR0
      obtain ⟨i2,n,wo,rfl,rfl,rfl,hii,hi2,hwr,hn3,hwo,HI0,HF3⟩:=hrel
      subst hwr
      by_cases hl2:i2 < syms.length
      case neg =>
       have tg:decide (i2 < syms.length) = false:=by simp;omega
       have HHD:Hid (∀ s r,syms.drop i2 = s :: r -> 1 < s):=fun s r h=>by rw [List.drop_eq_nil_of_le (by omega)] at h;cases h
       have HADV:Hid (i < i2):=by unfold Hid;omega
       clear hl2
       by_cases hnm:most < n
       ·have tn:decide (most < n) = true:=by simp;omega
        have HPN:Hid (F = none):=by unfold Hid;rw [HF3.out];exact Zcy (by simp;omega)
        clear hnm
        go_wp2_with fail
        go_ret2
        refine ⟨HE.out,?_⟩
        rw [HPN.out]
        rfl
       ·have HLN:Hid (F = frL used most (syms.drop i2) l (o ++ List.replicate n c) 1):=by
         unfold Hid;rw [HF3.out];exact Zlr _ _ HHD.out
        have tn:decide (most < n) = false:=by simp;omega
        have hadv:i < i2:=HADV.out
        have HADV2:=Zh hadv
        clear hadv
        go_wp2_with fail
        go_loopw [11,16] (fun x kv A=>∃ (k:Nat) (o2:List Nat) (g2:Option Addr) (c2:Nat),k <= n /\ kv = .int .i64 (k:Nat) /\ x = .slice g2 o2.length c2 /\ Hid (OwnN 5 .u8 A q g2 c2 o2) /\ Hid (∀ g,g2 = some ⟨g,0,none⟩ -> g ≠ lg) /\ Hid (RowN .u8 A (some ⟨lg,0,none⟩) lc l) /\ Hid (lg < A.heap.size) /\ Hid (Below q w A) /\ Hid (o2 = o ++ List.replicate k c)) (fun _ kv _=>n - (intOf kv).toNat)
        case atStart=>exact ⟨0,o,og,oc,Nat.zero_le _,rfl,rfl,HO.out,HNE.out,HLR.out,HLG.out,HE.out,by unfold Hid;simp⟩
        case round =>
         clear HO HNE HLR HLG HE
         obtain ⟨k,o2,g2,c2,hk,rfl,rfl,HO,HNE,HLR,HLG,HE,HO2⟩:=hrel
         have ho2:o2.length <= 2000000:=by rw [HO2.out,List.length_append,List.length_replicate];omega
         by_cases hkn:k < n
         ·have tk:decide (k < n) = true:=by simp;omega
          have hl0:0 < l.length:=by rw [HLL.out];exact HU1.out
          obtain ⟨b2,off2,hb2,_,hc2⟩:=HLR.out.at hl0
          cases hb2
          rw [HC0.out hl0] at hc2
          have hwr2:q <= wr.heap.size:=by have:=HE.out.size;have:=HQ.out;omega
          have HWR2:=Zh hwr2
          clear hwr2 hl0
          go_wp2_with (at_builtin;refine app1At (y:=c) Zaz rfl (.tmp 131) (.tmp 135) rfl rfl HO.out rfl (by omega) (by omega) (by omega) (by omega) HWR2.out ?_;intro a' c' w3 hown3 hg3 hb3 hat;have HOWN3:=Zh hown3;have HE3:=Zh (HE.out.trans hb3);have HGR:=Zh hg3;have HAT:=Zh hat;clear hown3 hg3 hb3 hat)
          go_wp2
          go_roundw
          case rel =>
           refine ⟨k + 1,o2 ++ [c],a',c',by omega,by go_num,by rw [List.length_append];rfl,HOWN3.out,fun g hg=>?_,?_,Nat.lt_of_lt_of_le HLG.out HGR.out.size,HE3.out,by unfold Hid;rw [HO2.out,List.append_assoc,<- List.replicate_succ']⟩
           ·rcases HAT.out g hg with h | h
            ·exact HNE.out g h
            ·have:=HLG.out;omega
           ·refine HLR.out.same HGR.out.size (fun x h0 hx=>HGR.out.block _ (by cases hx;exact HLG.out) (fun e=>?_))
            cases hx
            exact HNE.out _ (Zcc HO.out e.symm) rfl
          case measure=>simp [intOf];omega
         ·obtain rfl:k = n:=by omega
          have tk:decide (k < k) = false:=by simp
          have HLN2:Hid (F = frL used most (syms.drop i2) l o2 1):=by unfold Hid;rw [HO2.out];exact HLN.out
          by_cases hom:most < o2.length
          ·have tm:decide (most < o2.length) = true:=by simp;omega
           have HPN:Hid (F = none):=by unfold Hid;rw [HLN2.out];exact Zcy hom
           clear hom
           go_wp2_with fail
           go_ret2
           refine ⟨HE.out,?_⟩
           rw [HPN.out]
           rfl
          ·have tm:decide (most < o2.length) = false:=by simp;omega
           have hom2:o2.length <= most:=by omega
           have HOM2:=Zh hom2
           clear hom hom2
           go_wp2_with fail
           go_roundw
           case rel=>exact ⟨i2,l,lg,lc,o2,g2,c2,hi2,by trivial,by trivial,by trivial,HOM2.out,HLL.out,HLR.out,HLG.out,HO.out,HNE.out,HE.out,HLN2.out⟩
           case measure=>simp [intOf];have:=HADV2.out;omega
      have tg:decide (i2 < syms.length) = true:=by simp;omega
      obtain ⟨sb2,soff2,e2,_,hcs2⟩:=(HS.out.below (HQ.out ▸ HE.out)).at hl2
      cases e2
      obtain ⟨s2,hsv2⟩:∃ s2,syms[i2] = s2:=⟨_,rfl⟩
      have hsd2:syms.getD i2 0 = s2:=by rw [List.getD_eq_getElem?_getD,List.getElem?_eq_getElem hl2];exact hsv2
      have hs2000:s2 <= 1000:=by rw [<- hsv2];exact HSB.out _ (List.getElem_mem hl2)
      rw [hsv2] at hcs2
      have HDR:Hid (syms.drop i2 = s2 :: syms.drop (i2 + 1)):=by unfold Hid;rw [Zsu hl2,hsd2]
      have HSD2:=Zh hsd2
      clear hsv2 hsd2
      by_cases h2s:1 < s2
      case pos =>
       have tj:((s2:Int) == 0) = false:=beq_eq_false_iff_ne.2 (by omega)
       have tk1:((s2:Int) == 1) = false:=beq_eq_false_iff_ne.2 (by omega)
       have HHD:Hid (∀ s r,syms.drop i2 = s :: r -> 1 < s):=fun s r h=>by rw [HDR.out] at h;cases h;exact h2s
       have HADV:Hid (i < i2):=by
        unfold Hid
        rcases Nat.lt_or_ge i i2 with h | h
        ·exact h
        ·have e:i2 = i:=by omega
         have h1:=HSD2.out
         rw [e,HSD.out] at h1
         have:=HS1.out
         omega
       clear h2s
       by_cases hnm:most < n
       ·have tn:decide (most < n) = true:=by simp;omega
        have HPN:Hid (F = none):=by unfold Hid;rw [HF3.out];exact Zcy (by simp;omega)
        clear hnm
        go_wp2_with fail
        go_ret2
        refine ⟨HE.out,?_⟩
        rw [HPN.out]
        rfl
       ·have HLN:Hid (F = frL used most (syms.drop i2) l (o ++ List.replicate n c) 1):=by
         unfold Hid;rw [HF3.out];exact Zlr _ _ HHD.out
        have tn:decide (most < n) = false:=by simp;omega
        have hadv:i < i2:=HADV.out
        have HADV2:=Zh hadv
        clear hadv
        go_wp2_with fail
        go_loopw [11,16] (fun x kv A=>∃ (k:Nat) (o2:List Nat) (g2:Option Addr) (c2:Nat),k <= n /\ kv = .int .i64 (k:Nat) /\ x = .slice g2 o2.length c2 /\ Hid (OwnN 5 .u8 A q g2 c2 o2) /\ Hid (∀ g,g2 = some ⟨g,0,none⟩ -> g ≠ lg) /\ Hid (RowN .u8 A (some ⟨lg,0,none⟩) lc l) /\ Hid (lg < A.heap.size) /\ Hid (Below q w A) /\ Hid (o2 = o ++ List.replicate k c)) (fun _ kv _=>n - (intOf kv).toNat)
        case atStart=>exact ⟨0,o,og,oc,Nat.zero_le _,rfl,rfl,HO.out,HNE.out,HLR.out,HLG.out,HE.out,by unfold Hid;simp⟩
        case round =>
         clear HO HNE HLR HLG HE
         obtain ⟨k,o2,g2,c2,hk,rfl,rfl,HO,HNE,HLR,HLG,HE,HO2⟩:=hrel
         have ho2:o2.length <= 2000000:=by rw [HO2.out,List.length_append,List.length_replicate];omega
         by_cases hkn:k < n
         ·have tk:decide (k < n) = true:=by simp;omega
          have hl0:0 < l.length:=by rw [HLL.out];exact HU1.out
          obtain ⟨b2,off2,hb2,_,hc2⟩:=HLR.out.at hl0
          cases hb2
          rw [HC0.out hl0] at hc2
          have hwr2:q <= wr.heap.size:=by have:=HE.out.size;have:=HQ.out;omega
          have HWR2:=Zh hwr2
          clear hwr2 hl0
          go_wp2_with (at_builtin;refine app1At (y:=c) Zaz rfl (.tmp 131) (.tmp 135) rfl rfl HO.out rfl (by omega) (by omega) (by omega) (by omega) HWR2.out ?_;intro a' c' w3 hown3 hg3 hb3 hat;have HOWN3:=Zh hown3;have HE3:=Zh (HE.out.trans hb3);have HGR:=Zh hg3;have HAT:=Zh hat;clear hown3 hg3 hb3 hat)
          go_wp2
          go_roundw
          case rel =>
           refine ⟨k + 1,o2 ++ [c],a',c',by omega,by go_num,by rw [List.length_append];rfl,HOWN3.out,fun g hg=>?_,?_,Nat.lt_of_lt_of_le HLG.out HGR.out.size,HE3.out,by unfold Hid;rw [HO2.out,List.append_assoc,<- List.replicate_succ']⟩
           ·rcases HAT.out g hg with h | h
            ·exact HNE.out g h
            ·have:=HLG.out;omega
           ·refine HLR.out.same HGR.out.size (fun x h0 hx=>HGR.out.block _ (by cases hx;exact HLG.out) (fun e=>?_))
            cases hx
            exact HNE.out _ (Zcc HO.out e.symm) rfl
          case measure=>simp [intOf];omega
         ·obtain rfl:k = n:=by omega
          have tk:decide (k < k) = false:=by simp
          have HLN2:Hid (F = frL used most (syms.drop i2) l o2 1):=by unfold Hid;rw [HO2.out];exact HLN.out
          by_cases hom:most < o2.length
          ·have tm:decide (most < o2.length) = true:=by simp;omega
           have HPN:Hid (F = none):=by unfold Hid;rw [HLN2.out];exact Zcy hom
           clear hom
           go_wp2_with fail
           go_ret2
           refine ⟨HE.out,?_⟩
           rw [HPN.out]
           rfl
          ·have tm:decide (most < o2.length) = false:=by simp;omega
           have hom2:o2.length <= most:=by omega
           have HOM2:=Zh hom2
           clear hom hom2
           go_wp2_with fail
           go_roundw
           case rel=>exact ⟨i2,l,lg,lc,o2,g2,c2,hi2,by trivial,by trivial,by trivial,HOM2.out,HLL.out,HLR.out,HLG.out,HO.out,HNE.out,HE.out,HLN2.out⟩
           case measure=>simp [intOf];have:=HADV2.out;omega
      by_cases hnm:n <= most
      case neg =>
       have tl:decide (n <= most) = false:=by simp;omega
       have tn:decide (most < n) = true:=by simp;omega
       have HPN:Hid (F = none):=by unfold Hid;rw [HF3.out];exact Zcy (by simp;omega)
       clear hnm
       rcases (show s2 = 0 \/ s2 = 1 by omega) with rfl | rfl
       ·clear h2s
        go_wp2_with fail
        go_ret2
        refine ⟨HE.out,?_⟩
        rw [HPN.out]
        rfl
       ·clear h2s
        go_wp2_with fail
        go_ret2
        refine ⟨HE.out,?_⟩
        rw [HPN.out]
        rfl
      have tl:decide (n <= most) = true:=by simp;omega
      obtain ⟨n2,hn2⟩:∃ n2,n + wo * (s2 + 1) = n2:=⟨_,rfl⟩
      have HFN:Hid (F = frL used most (syms.drop (i2 + 1)) l (o ++ List.replicate n2 c) (2 * wo)):=by
       unfold Hid
       rw [HF3.out,HDR.out,Zzu HU0.out (by omega),HCE.out,List.append_assoc,List.replicate_append_replicate,hn2]
      rcases (show s2 = 0 \/ s2 = 1 by omega) with rfl | rfl
      ·have e1:(n:Int) + (wo:Int) * 1 = (n2:Int):=by omega
       have e2:(n:Int) + (wo:Int) = (n2:Int):=by omega
       have hb1:n2 <= 3000000:=by have:=HMO.out;omega
       have hb2:2 * wo <= n2 + 1:=by omega
       clear h2s hn2
       go_wp2_with fail
       go_roundw
       case rel=>exact ⟨i2 + 1,n2,2 * wo,by go_num,by first | trivial | exact Zbg (by omega),by first | trivial | exact Zbg (by omega),by omega,by omega,by trivial,hb1,hb2,fun h=>by omega,HFN.out⟩
       case measure=>simp [intOf];omega
      ·have e1:(n:Int) + (wo:Int) * 2 = (n2:Int):=by omega
       have hb1:n2 <= 3000000:=by have:=HMO.out;omega
       have hb2:2 * wo <= n2 + 1:=by omega
       clear h2s hn2
       go_wp2_with fail
       go_roundw
       case rel=>exact ⟨i2 + 1,n2,2 * wo,by go_num,by first | trivial | exact Zbg (by omega),by first | trivial | exact Zbg (by omega),by omega,by omega,by trivial,hb1,hb2,fun h=>by omega,HFN.out⟩
       case measure=>simp [intOf];omega
end Go.Proofs.YtnkpnjnfddjfpaaGreat
