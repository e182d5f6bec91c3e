/- The reference of layer 24: Lengths: contract. The reference of layer 24: Selectors: contract. The reference of layer 2: Align, Bytes: contracts. The reference of layer 13: Rotation, Order: contracts. The reference of layer 21: Turn: contract. Contracts of package msb: a reader. prefix.get, GetHigh: contracts. -/
import Derived.Test.YtnkpnjnfddjfpaaGreatQ01
import Derived.Test.YtnkpnjnfddjfpaaGreatQ04
import Derived.Test.YtnkpnjnfddjfpaaGreatQ02
import Derived.Test.YtnkpnjnfddjfpaaGreatQ03
set_option linter.unusedVariables false
set_option linter.unusedSimpArgs false
namespace Go.Proofs.YtnkpnjnfddjfpaaGreat
open Go.RowKit M01 M02 M10 M27
def stepsL (a x:Nat):List Nat:=(List.replicate (x - a) [1,0] ++ List.replicate (a - x) [1,1]).flatten
theorem Zmv (a:Nat):stepsL a a = []:=by simp [stepsL]
theorem Zvo {a x:Nat} (h:a < x):stepsL a x = [1,0] ++ stepsL (a + 1) x:=by
 obtain ⟨d,hd⟩:∃ d,x - a = d + 1:=⟨x - a - 1,by omega⟩
 unfold stepsL
 rw [hd,show x - (a + 1) = d by omega,show a - x = 0 by omega,show a + 1 - x = 0 by omega,List.replicate_succ]
 simp
theorem Zvn {a x:Nat} (h:x < a):stepsL a x = [1,1] ++ stepsL (a - 1) x:=by
 obtain ⟨d,hd⟩:∃ d,a - x = d + 1:=⟨a - x - 1,by omega⟩
 unfold stepsL
 rw [hd,show a - 1 - x = d by omega,show x - a = 0 by omega,show x - (a - 1) = 0 by omega,List.replicate_succ]
 simp
theorem Zrg (a x:Nat):(stepsL a x).length = 2 * ((x - a) + (a - x)):=by
 unfold stepsL
 rw [List.length_flatten]
 simp
 omega
def lensR:Nat -> List Nat -> List Nat
 | _,[]=>[]
 | a,x :: r=>stepsL a x ++ 0 :: lensR x r
def lengthsG (l:List Nat):List Nat:=hbits (l.getD 0 0) 5 ++ lensR (l.getD 0 0) l
theorem Zft:∀ (l:List Nat) (a:Nat),a < 256 -> (∀ x ∈ l,x < 256) -> (lensR a l).length <= 512 * l.length
 | [],a,_,_=>by simp [lensR]
 | x :: r,a,ha,h=>by
  unfold lensR
  have h1:=h x (by simp)
  have h2:=Zft r x h1 (fun y hy=>h y (by simp [hy]))
  rw [List.length_append,List.length_cons,Zrg,List.length_cons]
  omega
set_option maxRecDepth 100000 in
set_option maxHeartbeats 3200000 in
theorem Zgb (a:Option Addr) (cap:Nat) (l:List Nat) (w:World) (hr:RowN .u8 w a cap l) (h256:∀ x ∈ l,x < 256) (hl:l.length <= 300) (h0:0 < l.length) :
  Calls Tryz.prog 99 #[.slice a l.length cap] w fun e w'=>∃ g c,e = .returned (.slice g (lengthsG l).length c) /\ OwnB w' w.heap.size g c (lengthsG l) /\ Below w.heap.size w w':=by
 have HR:=Zh hr
 have H256:=Zh h256
 obtain ⟨b,off,rfl,hb,hc0⟩:=hr.at h0
 have HGD:Hid (l.getD 0 0 = l[0]):=by unfold Hid;simp [h0]
 have hx0:=h256 _ (List.getElem_mem h0)
 have HCL:Hid (∀ A,Below w.heap.size w A -> ∀ i (h:i < l.length),A.cell? ⟨b,off + i,none⟩ = some (.int .u8 (l[i]:Nat))):=fun A hA i h=>by
  obtain ⟨b',off',he,_,hc⟩:=(hr.below hA).at h
  cases he
  exact hc
 obtain ⟨q,hq⟩:∃ q,w.heap.size = q:=⟨_,rfl⟩
 obtain ⟨P,hP⟩:∃ P,P = lengthsG l:=⟨_,rfl⟩
 rw [<- hP]
 unfold lengthsG at hP
 rw [HGD.out] at hP
 have hpl:P.length <= 5 + 512 * l.length:=by
  rw [hP,List.length_append,Zak]
  have:=Zft l l[0] hx0 h256
  omega
 have HPL:=Zh hpl
 have hP':P = hbits l[0] 5 ++ lensR l[0] (l.drop 0):=hP
 generalize l[0] = x0 at *
 have HB5:=Zh (Zat x0 5 w (by omega) (by decide))
 rw [hq] at HB5 HCL ⊢
 have HQ:=Zh hq
 have HP0:Hid (hbits x0 5 ++ lensR x0 (l.drop 0) = P):=hP'.symm
 have HBL:Hid ((hbits x0 5).length = 5):=Zak _ _
 generalize hbits x0 5 = hb5 at *
 have hc0':w.cell? ⟨b,off,none⟩ = some (.int .u8 (x0:Nat)):=hc0
 obtain ⟨n,hn⟩:∃ n,l.length = n:=⟨_,rfl⟩
 have HLN:=Zh hn
 have HC0:Hid (∀ A,Below q w A -> A.cell? ⟨b,off,none⟩ = some (.int .u8 (x0:Nat))):=fun A hA=>(hA.cell (p:=⟨b,off,none⟩) (by rw [<- hq];exact hb)).trans hc0
 rw [hn] at hl h0 hpl ⊢
 clear hr h256 hq hP hP' hn hc0
 go_enter Tryz.func99,Tryz.ntmps99
 go_wp2_with fail
 refine HB5.out.mono ?_
 rintro e w1 ⟨g1,rfl,ho1,hb1⟩
 have hc1:=HC0.out w1 hb1
 have HO1:=Zh ho1
 have HE1:=Zh hb1
 clear ho1 hb1 HB5 hc0'
 go_wp2_with fail
 go_loopw [3,4,5] (fun ov av iv A=>∃ (i at_:Nat) (og:Option Addr) (oc:Nat) (o:List Nat),i <= n /\ at_ < 256 /\ iv = .int .i64 (i:Nat) /\ av = .int .u8 (at_:Nat) /\ ov = .slice og o.length oc /\ Hid (OwnB A q og oc o) /\ Hid (Below q w A) /\ Hid (o ++ lensR at_ (l.drop i) = P)) (fun _ _ iv _=>n - (intOf iv).toNat)
 case atStart=>exact ⟨0,x0,some ⟨g1,0,none⟩,5,hb5,Nat.zero_le _,hx0,rfl,rfl,by rw [HBL.out],HO1.out,HE1.out,HP0.out⟩
 case round =>
  clear HO1 HE1 HP0 hc1
  obtain ⟨i,at_,og,oc,o,hi,hat,rfl,rfl,rfl,HO,HE,HF⟩:=hrel
  by_cases hlt:i < n
  case neg =>
   obtain rfl:i = n:=by omega
   have t0:decide (i < i) = false:=by simp
   go_wp2_with fail
   go_ret
   have he:o = P:=by have:=HF.out;rw [List.drop_eq_nil_of_le (by rw [HLN.out];exact Nat.le_refl _)] at this;simpa [lensR] using this
   rw [<- he]
   exact ⟨og,oc,rfl,HO.out,HE.out⟩
  have t0:decide ((i:Int) < (n:Int)) = true:=by simp;omega
  have hil:i < l.length:=by rw [HLN.out];exact hlt
  have HCI:Hid (∀ A,Below q w A -> A.cell? ⟨b,off + i,none⟩ = some (.int .u8 (l[i]:Nat))):=fun A hA=>HCL.out A hA i hil
  have hx:=H256.out _ (List.getElem_mem hil)
  have HDR:Hid (l.drop i = l[i] :: l.drop (i + 1)):=List.drop_eq_getElem_cons hil
  generalize l[i] = x at *
  obtain ⟨rest,hrest⟩:∃ rest,rest = lensR x (l.drop (i + 1)):=⟨_,rfl⟩
  have HRE:=Zh hrest
  have HF2:Hid (o ++ (stepsL at_ x ++ 0 :: rest) = P):=by have h:=HF.out;rw [HDR.out,lensR] at h;unfold Hid;rw [hrest];exact h
  clear hrest HF
  go_wp2_with fail
  go_loopw [3,4] (fun ov av A=>∃ (a2:Nat) (og:Option Addr) (oc:Nat) (o:List Nat),a2 < 256 /\ av = .int .u8 (a2:Nat) /\ ov = .slice og o.length oc /\ Hid (OwnB A q og oc o) /\ Hid (Below q w A) /\ Hid (o ++ (stepsL a2 x ++ 0 :: rest) = P)) (fun _ av _=>((intOf av).toNat - x) + (x - (intOf av).toNat))
  case atStart=>exact ⟨at_,og,oc,o,hat,rfl,rfl,HO.out,HE.out,HF2.out⟩
  case round =>
   clear HO HE HF2 hat
   obtain ⟨a2,og,oc,o,hat,rfl,rfl,HO,HE,HF⟩:=hrel
   have HQW:Hid (q <= wr.heap.size):=by have:=HE.out.size;have:=HQ.out;unfold Hid;omega
   have hcx:=HCI.out wr HE.out
   have hol:o.length + 2 <= 1000000:=by
    have h1:=congrArg List.length HF.out
    rw [List.length_append,List.length_append,List.length_cons] at h1
    have:=HPL.out
    have:=HLN.out
    omega
   by_cases he:a2 = x
   ·have t1:((a2:Int) == (x:Int)) = true:=beq_iff_eq.2 (by omega)
    have t2:((a2:Int) != (x:Int)) = false:=by rw [he];simp
    have HF2:Hid ((o ++ [0]) ++ lensR a2 (l.drop (i + 1)) = P):=by have h:=HF.out;rw [he,Zmv,HRE.out] at h;unfold Hid;rw [he,List.append_assoc];exact h
    clear he HF
    go_wp2_with (at_builtin;refine app1S (cs:=#[.bool false]) Zae rfl (.tmp 42) (.tmp 43) rfl 0 rfl HO.out rfl rfl (by omega) (by omega) (by omega) (by omega) HQW.out ?_;intro a7 c7 w7 hown7 hg7 hb7;have HO7:=Zh hown7;have HB7:=Zh hb7;clear hown7 hg7 hb7)
    go_roundw
    case rel=>exact ⟨i + 1,a2,a7,c7,o ++ [0],hlt,hat,by go_num,by trivial,by rw [List.length_append];rfl,HO7.out,HE.out.trans HB7.out,HF2.out⟩
    case measure=>simp [intOf];omega
   have t1:((a2:Int) == (x:Int)) = false:=beq_eq_false_iff_ne.2 (by omega)
   have t2:((a2:Int) != (x:Int)) = true:=by simp;omega
   by_cases hup:a2 < x
   ·have t3:decide ((a2:Int) < (x:Int)) = true:=by simp;omega
    have t3':decide (a2 < x) = true:=by simp;omega
    have HF2:Hid ((o ++ [1,0]) ++ (stepsL (a2 + 1) x ++ 0 :: rest) = P):=by have h:=HF.out;rw [Zvo hup] at h;unfold Hid;simpa using h
    clear he HF
    go_wp2_with (at_builtin;refine appAnyS Zae rfl (.tmp 32) (.tmp 33) rfl (m:=2) (ys:=[1,0]) rfl (OwnS.alloc HO.out _) rfl rfl (RowS.lit encB wr [1,0] 4 #[.bool true,.bool false] wr.heap.size rfl rfl (by simp)) (by omega) (by omega) (by simp;exact Nat.le_succ_of_le HQW.out) ?_;intro a7 c7 w7 hown7 hg7 hb7;have HO7:=Zh hown7;have HB7:=Zh (((Zai wr (.cells #[.bool true,.bool false] 4)).mono HQW.out).trans hb7);clear hown7 hg7 hb7)
    go_roundw
    case rel=>exact ⟨a2 + 1,a7,c7,o ++ [1,0],by omega,by go_num,by rw [List.length_append];rfl,HO7.out,HE.out.trans HB7.out,HF2.out⟩
    case measure=>simp [intOf];omega
   ·have t3:decide ((a2:Int) < (x:Int)) = false:=by simp;omega
    have t3':decide (a2 < x) = false:=by simp;omega
    have HF2:Hid ((o ++ [1,1]) ++ (stepsL (a2 - 1) x ++ 0 :: rest) = P):=by have h:=HF.out;rw [Zvn (show x < a2 by omega)] at h;unfold Hid;simpa using h
    obtain ⟨a3,ha3⟩:∃ a3,a2 - 1 = a3:=⟨_,rfl⟩
    rw [ha3] at HF2
    have u3:(a2:Int) - 1 = (a3:Int):=by omega
    have hxa:x <= a3:=by omega
    have ha3':a3 < 256:=by omega
    have hm3:a3 < a2:=by omega
    clear he HF ha3
    go_wp2_with (at_builtin;refine appAnyS Zae rfl (.tmp 37) (.tmp 38) rfl (m:=2) (ys:=[1,1]) rfl (OwnS.alloc HO.out _) rfl rfl (RowS.lit encB wr [1,1] 4 #[.bool true,.bool true] wr.heap.size rfl rfl (by simp)) (by omega) (by omega) (by simp;exact Nat.le_succ_of_le HQW.out) ?_;intro a7 c7 w7 hown7 hg7 hb7;have HO7:=Zh hown7;have HB7:=Zh (((Zai wr (.cells #[.bool true,.bool true] 4)).mono HQW.out).trans hb7);clear hown7 hg7 hb7)
    go_roundw
    case rel=>exact ⟨a3,a7,c7,o ++ [1,1],ha3',by first | trivial | exact Zbg (by omega),by rw [List.length_append];rfl,HO7.out,HE.out.trans HB7.out,HF2.out⟩
    case measure=>simp [intOf];omega
end Go.Proofs.YtnkpnjnfddjfpaaGreat

namespace Go.Proofs.YtnkpnjnfddjfpaaGreat
open Go.RowKit M01 M02 M10 M27
def selR:List Nat -> List Nat -> List Nat
 | _,[]=>[]
 | fl,x :: r=>List.replicate (fl.idxOf x) 1 ++ 0 :: selR (toFront fl (fl.idxOf x)) r
def selectorsG (l:List Nat):List Nat:=hbits l.length 15 ++ selR [0,1,2,3,4,5] l
theorem Zgg:∀ (l fl:List Nat),fl.length <= 6 -> (∀ x ∈ l,x ∈ fl) -> (selR fl l).length <= 7 * l.length
 | [],fl,_,_=>by simp [selR]
 | x :: r,fl,h6,h=>by
  unfold selR
  have h1:fl.idxOf x < fl.length:=List.idxOf_lt_length_of_mem (h x (by simp))
  have h2:=Zgg r (toFront fl (fl.idxOf x)) (by rw [Zay h1];exact h6) (fun y hy=>Zff h1 (h y (by simp [hy])))
  rw [List.length_append,List.length_cons,List.length_replicate,List.length_cons]
  omega
set_option maxRecDepth 100000 in
set_option maxHeartbeats 3200000 in
theorem Zei (a:Option Addr) (cap:Nat) (l:List Nat) (w:World) (hr:RowN .i64 w a cap l) (h6:∀ x ∈ l,x < 6) (hl:l.length <= 30000) :
  Calls Tryz.prog 98 #[.slice a l.length cap] w fun e w'=>∃ g c,e = .returned (.slice g (selectorsG l).length c) /\ OwnB w' w.heap.size g c (selectorsG l) /\ Below w.heap.size w w':=by
 have HR:=Zh hr
 have HB15:=Zh (Zat l.length 15 w (by omega) (by decide))
 obtain ⟨q,hq⟩:∃ q,w.heap.size = q:=⟨_,rfl⟩
 obtain ⟨P,hP⟩:∃ P,P = selectorsG l:=⟨_,rfl⟩
 rw [<- hP]
 unfold selectorsG at hP
 have hmem:∀ x ∈ l,x ∈ [0,1,2,3,4,5]:=fun x hx=>by
  have:=h6 x hx
  simp
  omega
 have HMEM:=Zh hmem
 have hpl:P.length <= 15 + 7 * l.length:=by
  rw [hP,List.length_append,Zak]
  have:=Zgg l [0,1,2,3,4,5] (by decide) hmem
  omega
 have HPL:=Zh hpl
 have HP0:Hid (hbits l.length 15 ++ selR [0,1,2,3,4,5] (l.drop 0) = P):=hP.symm
 have HBL:Hid ((hbits l.length 15).length = 15):=Zak _ _
 generalize hbits l.length 15 = hb5 at *
 obtain ⟨n,hn⟩:∃ n,l.length = n:=⟨_,rfl⟩
 have HLN:=Zh hn
 rw [hn] at hl hpl HB15 ⊢
 rw [hq] at HB15 ⊢
 have HQ:=Zh hq
 have u0:(n:Int) % 4294967296 = (n:Int):=by omega
 clear hr h6 hq hP hn hmem
 go_enter Tryz.func98,Tryz.ntmps98
 go_wp2_with fail
 refine HB15.out.mono ?_
 rintro e w1 ⟨g1,rfl,ho1,hb1⟩
 have HQ1:Hid (q <= w1.heap.size):=by have:=hb1.size;have:=HQ.out;unfold Hid;omega
 have HLIT:=Zh ((OwnN.lit (k:=.i64) 3 w1 w1.heap.size [0,1,2,3,4,5] #[.int .i64 0,.int .i64 1,.int .i64 2,.int .i64 3,.int .i64 4,.int .i64 5] w1.heap.size rfl rfl (Nat.le_refl _) (by simp [maxLen])).mono HQ1.out)
 have HO1:=Zh (OwnS.alloc ho1 (.cells #[.int .i64 0,.int .i64 1,.int .i64 2,.int .i64 3,.int .i64 4,.int .i64 5] 3))
 have HE1:=Zh (hb1.trans ((Zai w1 (.cells #[.int .i64 0,.int .i64 1,.int .i64 2,.int .i64 3,.int .i64 4,.int .i64 5] 3)).mono HQ1.out))
 have HG1:Hid (g1 < w1.heap.size):=(Zck ho1 rfl).2
 clear ho1 hb1 HB15
 go_wp2_with fail
 obtain ⟨lg0,hlg0⟩:∃ lg0,w1.heap.size = lg0:=⟨_,rfl⟩
 rw [hlg0] at HLIT HG1
 simp only [hlg0]
 generalize w1.alloc (.cells #[.int .i64 0,.int .i64 1,.int .i64 2,.int .i64 3,.int .i64 4,.int .i64 5] 3) = W0 at *
 clear hlg0
 go_loopw [3,4,5] (fun ov lv iv A=>∃ (i:Nat) (fl:List Nat) (lg:Nat) (lc:Nat) (og:Option Addr) (oc:Nat) (o:List Nat),i <= n /\ iv = .int .i64 (i:Nat) /\ lv = .slice (some ⟨lg,0,none⟩) 6 lc /\ ov = .slice og o.length oc /\ Hid (fl.length = 6) /\ Hid (∀ x ∈ l,x ∈ fl) /\ Hid (OwnN 3 .i64 A q (some ⟨lg,0,none⟩) lc fl) /\ Hid (OwnB A q og oc o) /\ Hid (∀ g,og = some ⟨g,0,none⟩ -> g ≠ lg) /\ Hid (Below q w A) /\ Hid (o ++ selR fl (l.drop i) = P)) (fun _ _ iv _=>n - (intOf iv).toNat)
 case atStart=>exact ⟨0,[0,1,2,3,4,5],lg0,6,some ⟨g1,0,none⟩,15,hb5,Nat.zero_le _,rfl,rfl,by rw [HBL.out],rfl,HMEM.out,HLIT.out,HO1.out,(fun g h=>by cases h;have:=HG1.out;omega),HE1.out,HP0.out⟩
 case round =>
  clear HO1 HE1 HP0 HLIT HG1
  obtain ⟨i,fl,lg,lc,og,oc,o,hi,rfl,rfl,rfl,HF6,HFI,HL,HO,HNE,HE,HF⟩:=hrel
  by_cases hlt:i < n
  case neg =>
   obtain rfl:i = n:=by omega
   have t0:decide (i < i) = false:=by simp
   go_wp2_with fail
   go_ret
   have he:o = P:=by have:=HF.out;rw [List.drop_eq_nil_of_le (by rw [HLN.out];exact Nat.le_refl _)] at this;simpa [selR] using this
   rw [<- he]
   exact ⟨og,oc,rfl,HO.out,HE.out⟩
  have t0:decide ((i:Int) < (n:Int)) = true:=by simp;omega
  have hil:i < l.length:=by rw [HLN.out];exact hlt
  obtain ⟨bb,boff,rfl,hbb,hbc0⟩:=HR.out.at hil
  have HCI:Hid (∀ A,Below q w A -> A.cell? ⟨bb,boff + i,none⟩ = some (.int .i64 (l[i]:Nat))):=fun A hA=>(hA.cell (p:=⟨bb,boff + i,none⟩) (by rw [<- HQ.out];exact hbb)).trans hbc0
  have hxf:=HFI.out _ (List.getElem_mem hil)
  have HDR:Hid (l.drop i = l[i] :: l.drop (i + 1)):=List.drop_eq_getElem_cons hil
  clear hbc0
  generalize l[i] = x at *
  have hio:fl.idxOf x < fl.length:=List.idxOf_lt_length_of_mem hxf
  have HIO:=Zh hio
  have HIX:Hid (∀ h:fl.idxOf x < fl.length,fl[fl.idxOf x]'h = x):=fun h=>List.getElem_idxOf h
  have HNX:Hid (∀ j (h:j < fl.length),j < fl.idxOf x -> fl[j] ≠ x):=fun j h hj e=>by
   have:=List.not_of_lt_findIdx (p:=(· == x)) (xs:=fl) (i:=j) hj
   simp [e] at this
  have hF:=HF.out
  rw [HDR.out,selR] at hF
  clear HF
  generalize fl.idxOf x = ix at *
  obtain ⟨rest,hrest⟩:∃ rest,rest = selR (toFront fl ix) (l.drop (i + 1)):=⟨_,rfl⟩
  have HRE:=Zh hrest
  have HF2:Hid (o ++ (List.replicate (ix - 0) 1 ++ 0 :: rest) = P):=by unfold Hid;rw [hrest];exact hF
  have HI6:Hid (ix < 6):=by have:=HF6.out;have:=HIO.out;unfold Hid;omega
  clear hio hrest hF hxf
  go_wp2_with fail
  go_loopw [3,6] (fun ov kv A=>∃ (k:Nat) (og:Option Addr) (oc:Nat) (o:List Nat),k <= ix /\ kv = .int .i64 (k:Nat) /\ ov = .slice og o.length oc /\ Hid (OwnN 3 .i64 A q (some ⟨lg,0,none⟩) lc fl) /\ Hid (OwnB A q og oc o) /\ Hid (∀ g,og = some ⟨g,0,none⟩ -> g ≠ lg) /\ Hid (Below q w A) /\ Hid (o ++ (List.replicate (ix - k) 1 ++ 0 :: rest) = P)) (fun _ kv _=>ix - (intOf kv).toNat)
  case atStart=>exact ⟨0,og,oc,o,Nat.zero_le _,rfl,rfl,HL.out,HO.out,HNE.out,HE.out,HF2.out⟩
  case round =>
   clear HL HO HNE HE HF2
   obtain ⟨k,og,oc,o,hk,rfl,rfl,HL,HO,HNE,HE,HF⟩:=hrel
   generalize wr = W at *
   have hk6:k < 6:=by have:=HI6.out;omega
   have hkf:k < fl.length:=by rw [HF6.out];exact hk6
   obtain ⟨g2,hg2,_,_,hlc,_⟩:=HL.out.at hkf
   cases hg2
   have hcx:=HCI.out W HE.out
   have hol:o.length + 1 <= 1000000:=by
    have h1:=congrArg List.length HF.out
    rw [List.length_append,List.length_append,List.length_cons] at h1
    have:=HPL.out
    omega
   have hii:(i:Int) < (n:Int):=by omega
   by_cases he:k = ix
   ·have hfe:fl[k] = x:=by simp only [he];exact HIX.out _
    have t1:((fl[k]:Int) == (x:Int)) = true:=beq_iff_eq.2 (by omega)
    have t2:((fl[k]:Int) != (x:Int)) = false:=by rw [hfe];simp
    have HF2:Hid ((o ++ [0]) ++ selR (toFront fl k) (l.drop (i + 1)) = P):=by have h:=HF.out;rw [he,Nat.sub_self,HRE.out] at h;unfold Hid;rw [he];simpa using h
    generalize fl[k] = v at *
    have HKF:=Zh hkf
    clear he HF hfe hkf
    go_wp2_with fail
    go_quiet (fail)
    have HLX:=Zh (show OwnN 3 .i64 (W.drewN nq) q (some ⟨lg,0,none⟩) lc fl from HL.out)
    have HOX:=Zh (show OwnB (W.drewN nq) q og oc o from HO.out)
    have HEX:=Zh (belDN HE.out nq)
    clear hlc hcx
    generalize W.drewN nq = wx at *
    have HQX:Hid (q <= wx.heap.size):=by have:=HEX.out.size;have:=HQ.out;unfold Hid;omega
    have HFR:=Zh (fun A c (h:RowN .i64 A (some ⟨lg,0,none⟩) c fl)=>Zis (some ⟨lg,0,none⟩) c fl k A h HKF.out (by rw [HF6.out];decide))
    rw [HF6.out] at HFR
    have HT6:Hid ((toFront fl k).length = 6):=by unfold Hid;rw [Zay HKF.out];exact HF6.out
    go_wp2_with (at_builtin;refine app1SAt (cs:=#[.bool false]) Zae rfl (.tmp 32) (.tmp 33) rfl 0 rfl HOX.out rfl rfl (by omega) (by omega) (by omega) (by omega) HQX.out ?_;intro a7 c7 w7 hown7 hb7 hg7 hf7;have HO7:=Zh hown7;have HB7:=Zh hb7;have HL7:=Zh (HLX.out.kept hg7 (fun g hg e=>by cases hg;exact HNE.out _ (Zcb HOX.out e) rfl));clear hown7 hg7 hb7 hf7)
    refine (HFR.out w7 lc HL7.out.row).mono ?_
    rintro e w8 ⟨ng,nc,rfl,hmo,hb8⟩
    have HQ7:Hid (q <= w7.heap.size):=by have:=HB7.out.size;have:=HQX.out;unfold Hid;omega
    obtain ⟨ng2,rfl⟩:∃ ng2,ng = some ⟨ng2,0,none⟩:=by
     rcases hmo.form with ⟨_,_,h⟩ | ⟨g,h,_⟩
     ·have:=HT6.out;rw [h] at this;simp at this
     ·exact ⟨g,h⟩
    have HO8:=Zh (OwnS.below HO7.out hb8)
    have HL8:=Zh (hmo.mono HQ7.out)
    have HE8:=Zh ((HEX.out.trans HB7.out).trans (hb8.mono HQ7.out))
    have hne8:∀ g,a7 = some ⟨g,0,none⟩ -> g ≠ ng2:=fun g hg e=>by
     have h1:=(Zbr hmo rfl).1
     have h2:=(Zck HO7.out hg).2
     omega
    have HNE8:=Zh hne8
    clear hmo hb8 hne8
    go_wp2_with fail
    go_roundw
    case rel=>exact ⟨i + 1,toFront fl k,ng2,nc,a7,c7,o ++ [0],hlt,by go_num,by trivial,by rw [List.length_append];rfl,HT6.out,(fun y hy=>Zff HKF.out (HFI.out y hy)),HL8.out,HO8.out,HNE8.out,HE8.out,HF2.out⟩
    case measure=>simp [intOf];omega
   ·have hki:k < ix:=by omega
    have hne:fl[k] ≠ x:=HNX.out k hkf hki
    have t1:((fl[k]:Int) == (x:Int)) = false:=beq_eq_false_iff_ne.2 (by omega)
    have t2:((fl[k]:Int) != (x:Int)) = true:=by simp;omega
    obtain ⟨d,hd⟩:∃ d,ix - k = d + 1:=⟨ix - k - 1,by omega⟩
    have HF2:Hid ((o ++ [1]) ++ (List.replicate (ix - (k + 1)) 1 ++ 0 :: rest) = P):=by have h:=HF.out;rw [hd,List.replicate_succ] at h;unfold Hid;rw [show ix - (k + 1) = d by omega];simpa using h
    generalize fl[k] = v at *
    clear he HF hne hd
    go_wp2_with fail
    go_quiet (fail)
    have HLX:=Zh (show OwnN 3 .i64 (W.drewN nq) q (some ⟨lg,0,none⟩) lc fl from HL.out)
    have HOX:=Zh (show OwnB (W.drewN nq) q og oc o from HO.out)
    have HEX:=Zh (belDN HE.out nq)
    clear hlc hcx
    generalize W.drewN nq = wx at *
    have HQX:Hid (q <= wx.heap.size):=by have:=HEX.out.size;have:=HQ.out;unfold Hid;omega
    go_wp2_with (at_builtin;refine app1SAt (cs:=#[.bool true]) Zae rfl (.tmp 27) (.tmp 28) rfl 1 rfl HOX.out rfl rfl (by omega) (by omega) (by omega) (by omega) HQX.out ?_;intro a7 c7 w7 hown7 hb7 hg7 hf7;have HO7:=Zh hown7;have HB7:=Zh hb7;have HL7:=Zh (HLX.out.kept hg7 (fun g hg e=>by cases hg;exact HNE.out _ (Zcb HOX.out e) rfl));have HNE7:Hid (∀ g,a7 = some ⟨g,0,none⟩ -> g ≠ lg):=(fun g hg e=>by rcases hf7 g hg with h | h;exact HNE.out g h e;have h2:=(Zbr HLX.out rfl).2;omega);clear hown7 hg7 hb7 hf7)
    go_roundw
    case rel=>exact ⟨k + 1,a7,c7,o ++ [1],hki,by go_num,by rw [List.length_append];rfl,HL7.out,HO7.out,HNE7.out,HEX.out.trans HB7.out,HF2.out⟩
    case measure=>simp [intOf];omega
end Go.Proofs.YtnkpnjnfddjfpaaGreat

namespace Go.Proofs.YtnkpnjnfddjfpaaGreat
open Go.RowKit M01 M02 M10 M27
def alignL (l:List Nat):List Nat:=l ++ List.replicate ((8 - l.length % 8) % 8) 0
def packH (l:List Nat):List Nat:=(List.range ((alignL l).length / 8)).map fun j=>numHL (((alignL l).drop (8 * j)).take 8)
theorem Zpr (l:List Nat):(alignL l).length % 8 = 0 /\ (alignL l).length <= l.length + 7:=by
 unfold alignL
 rw [List.length_append,List.length_replicate]
 omega
theorem Ztv {l:List Nat} (h:∀ x ∈ l,x < 2) (hl:l.length <= 8):numHL l < 256:=by
 have aux:∀ (m:List Nat) (v k:Nat),v < 2 ^ k -> (∀ x ∈ m,x < 2) -> m.foldl (fun v b=>2 * v + b) v < 2 ^ (k + m.length):=by
  intro m
  induction m with
  | nil=>intro v k hv _;exact hv
  | cons x xs ih =>
   intro v k hv h2
   have h4:=h2 x (by simp)
   have:=ih (2 * v + x) (k + 1) (by rw [Nat.pow_succ];omega) (fun y hy=>h2 y (by simp [hy]))
   rw [List.length_cons,show k + (xs.length + 1) = k + 1 + xs.length by omega]
   exact this
 have h5:numHL l < 2 ^ l.length:=by have:=aux l 0 0 (by decide) h;rw [Nat.zero_add] at this;exact this
 have h6:2 ^ l.length <= 2 ^ 8:=Nat.pow_le_pow_right (by decide) hl
 omega
set_option maxRecDepth 100000 in
set_option maxHeartbeats 1600000 in
theorem Znw (a:Option Addr) (cap:Nat) (l:List Nat) (w:World) (hr:RowB w a cap l) (hl:l.length <= 1000000) :
  Calls Tryz.prog 100 #[.slice a l.length cap] w fun e w'=>∃ g c,e = .returned (.slice g (alignL l).length c) /\ OwnB w' w.heap.size g c (alignL l) /\ Below w.heap.size w w':=by
 have HR:=Zh (RowS.below hr (Zai w (.cells #[] 4)))
 obtain ⟨q,hq⟩:∃ q,w.heap.size = q:=⟨_,rfl⟩
 have HQ:=Zh hq
 obtain ⟨P,hP⟩:∃ P,P = alignL l:=⟨_,rfl⟩
 rw [<- hP]
 have HP:Hid (P = l ++ List.replicate ((8 - l.length % 8) % 8) 0):=hP
 obtain ⟨n,hn⟩:∃ n,l.length = n:=⟨_,rfl⟩
 have HLN:=Zh hn
 rw [hn] at HP hl ⊢
 clear hr hq hP hn
 go_enter Tryz.func100,Tryz.ntmps100
 go_wp2_with (at_builtin;refine appAnyS Zae rfl (.tmp 4) (.tmp 5) rfl (a:=some ⟨w.heap.size,0,none⟩) (cap:=0) (m:=n) (l:=[]) (ys:=l) (base:=w.heap.size) rfl (OwnS.lit0 _ _ _ _ (Nat.le_refl _)) HLN.out.symm rfl HR.out (by simp;omega) (by simp;omega) (by simp) ?_;intro a1 c1 w1 hown1 hg1 hb1;simp only [List.nil_append] at hown1;simp only [List.length_nil,Nat.zero_add];have HO1:=Zh hown1;have HB1:=Zh ((Zai w _).trans hb1);clear hown1 hg1 hb1)
 have HQ1:Hid (w.heap.size <= w1.heap.size):=HB1.out.size
 go_loopw [3] (fun ov A=>∃ (j:Nat) (og:Option Addr) (oc:Nat) (o:List Nat),j <= (8 - n % 8) % 8 /\ ov = .slice og (n + j) oc /\ Hid (o = l ++ List.replicate j 0) /\ Hid (OwnB A w.heap.size og oc o) /\ Hid (Below w.heap.size w A)) (fun ov _=>n + 8 - (match ov with | .slice _ m _=>m | _=>0))
 case atStart=>exact ⟨0,a1,c1,l,Nat.zero_le _,rfl,by unfold Hid;simp,HO1.out,HB1.out⟩
 case round =>
  clear HO1 HB1 HQ1
  obtain ⟨j,og,oc,o,hj,rfl,HOE,HO,HE⟩:=hrel
  have HOL:Hid (o.length = n + j):=by unfold Hid;rw [HOE.out,List.length_append,List.length_replicate,HLN.out]
  by_cases he:j = (8 - n % 8) % 8
  ·have t1:((n:Int) + (j:Int)) % 8 = 0:=by omega
   have HT:Hid (o = P):=by unfold Hid;rw [HP.out,HOE.out,<- he]
   clear he
   obtain ⟨nj,hnj⟩:∃ nj,n + j = nj:=⟨_,rfl⟩
   rw [hnj] at HOL ⊢
   have t2:(nj:Int) % 8 = 0:=by omega
   clear t1 hnj
   go_wp2_with fail
   go_ret
   rw [<- HT.out]
   exact ⟨og,oc,by rw [HOL.out];rfl,HO.out,HE.out⟩
  ·have HQW:Hid (w.heap.size <= wr.heap.size):=HE.out.size
   have hj2:j + 1 <= (8 - n % 8) % 8:=by omega
   have HOE2:Hid (o ++ [0] = l ++ List.replicate (j + 1) 0):=by unfold Hid;rw [HOE.out,List.replicate_succ',List.append_assoc]
   obtain ⟨nj,hnj⟩:∃ nj,n + j = nj:=⟨_,rfl⟩
   have HNJ:=Zh hnj
   rw [hnj] at HOL ⊢
   have t2:((nj:Int) % 8 == 0) = false:=beq_eq_false_iff_ne.2 (by omega)
   have t3:((nj:Int) % 8 != 0) = true:=by simp;omega
   have hnj2:nj <= 2000000:=by omega
   clear he hnj
   go_wp2_with (at_builtin;refine app1S (cs:=#[.bool false]) Zae rfl (.tmp 11) (.tmp 12) rfl 0 (show _ = Value.slice og o.length oc by rw [HOL.out];rfl) HO.out rfl rfl (by omega) (by omega) (by rw [HOL.out];omega) (by rw [HOL.out];omega) HQW.out ?_;intro a7 c7 w7 hown7 hg7 hb7;have HO7:=Zh hown7;have HB7:=Zh hb7;clear hown7 hg7 hb7)
   go_roundw
   case rel=>exact ⟨j + 1,a7,c7,o ++ [0],hj2,by rw [HOL.out,<- HNJ.out,Nat.add_assoc],HOE2.out,HO7.out,HE.out.trans HB7.out⟩
   case measure=>have:=HNJ.out;have:=HOL.out;simp;omega
set_option maxRecDepth 100000 in
set_option maxHeartbeats 1600000 in
theorem Zio (a:Option Addr) (cap:Nat) (l:List Nat) (w:World) (hr:RowB w a cap l) (hb2:∀ x ∈ l,x < 2) (hl:l.length <= 1000000) :
  Calls Tryz.prog 58 #[.slice a l.length cap] w fun e w'=>∃ g c,e = .returned (.slice g (packH l).length c) /\ OwnN 5 .u8 w' w.heap.size g c (packH l) /\ Below w.heap.size w w':=by
 have HAL:=Zh (Znw a cap l w hr hl)
 obtain ⟨q,hq⟩:∃ q,w.heap.size = q:=⟨_,rfl⟩
 rw [hq] at HAL ⊢
 have HQ:=Zh hq
 have HPE:Hid (packH l = (List.range ((alignL l).length / 8)).map fun j=>numHL (((alignL l).drop (8 * j)).take 8)):=rfl
 have hal:=Zpr l
 have hlt:∀ x ∈ alignL l,x < 2:=fun x hx=>by
  unfold alignL at hx
  rcases List.mem_append.1 hx with hx | hx
  ·exact hb2 x hx
  ·rw [List.eq_of_mem_replicate hx];decide
 have HLT:=Zh hlt
 generalize alignL l = al at *
 have HA8:=Zh hal.1
 have hal2:al.length <= 1000007:=by omega
 obtain ⟨m,hm⟩:∃ m,al.length / 8 = m:=⟨_,rfl⟩
 have HM:Hid (al.length = 8 * m):=by have:=HA8.out;unfold Hid;omega
 rw [hm] at HPE
 have HPL:Hid ((packH l).length = m):=by unfold Hid;rw [HPE.out];simp
 generalize packH l = P at *
 have hm2:m <= 130000:=by omega
 clear hr hq hal hlt hm hb2
 go_enter Tryz.func58,Tryz.ntmps58
 go_wp2_with fail
 refine HAL.out.mono ?_
 rintro e w1 ⟨ag,ac,rfl,hal1,hb1⟩
 have HR1:=Zh (OwnS.row hal1)
 have HE1:=Zh hb1
 have HQ1:Hid (q <= w1.heap.size):=by have:=hb1.size;have:=HQ.out;unfold Hid;omega
 have hacap:=HR1.out.1
 have hacap2:=HR1.out.2.1.1
 obtain ⟨n8,hn8⟩:∃ n8,al.length = n8:=⟨_,rfl⟩
 rw [hn8] at HM hacap hal2 ⊢
 have HN8:=Zh hn8
 clear hal1 hb1 HAL hn8
 go_wp2_with fail
 go_loopw [4,5] (fun ov iv A=>∃ (j i8:Nat) (og:Option Addr) (oc:Nat) (o:List Nat),j <= m /\ i8 = 8 * j /\ iv = .int .i64 (i8:Nat) /\ ov = .slice og o.length oc /\ Hid (o.length = j) /\ Hid (o = (List.range j).map fun j=>numHL ((al.drop (8 * j)).take 8)) /\ Hid (OwnN 5 .u8 A w1.heap.size og oc o) /\ Hid (Below w1.heap.size w1 A)) (fun _ iv _=>8 * m - (intOf iv).toNat)
 case atStart=>exact ⟨0,0,none,0,[],Nat.zero_le _,rfl,rfl,rfl,rfl,rfl,OwnN.nil _ _ _ _,Below.refl _ _⟩
 case round =>
  obtain ⟨j,i8,og,oc,o,hj,hi8,rfl,rfl,HOL,HOE,HO,HE⟩:=hrel
  have HI8:=Zh hi8
  clear hi8
  by_cases hlt:j < m
  ·have t0:decide ((i8:Int) < (n8:Int)) = true:=by have:=HI8.out;have:=HM.out;simp;omega
   have t0':decide (i8 < n8) = true:=by have:=HI8.out;have:=HM.out;simp;omega
   have hi8n:i8 + 8 <= n8:=by have:=HI8.out;have:=HM.out;omega
   obtain ⟨ab,aoff,rfl,_⟩:=HR1.out.at (i:=i8) (by rw [HN8.out];omega)
   have HSB:=Zh (fun A (h:Below w1.heap.size w1 A)=>RowS.subB (RowS.below HR1.out h) i8 8 (by rw [HN8.out];omega))
   have HSL:Hid (8 = ((al.drop i8).take 8).length):=by unfold Hid;rw [List.length_take,List.length_drop,HN8.out];omega
   have HSX:Hid (∀ x ∈ (al.drop i8).take 8,x < 2):=fun x hx=>HLT.out x (List.mem_of_mem_drop (List.mem_of_mem_take hx))
   have HOE2:Hid (o ++ [numHL ((al.drop i8).take 8)] = (List.range (j + 1)).map fun j=>numHL ((al.drop (8 * j)).take 8)):=by unfold Hid;rw [List.range_succ,List.map_append,<- HOE.out,HI8.out];rfl
   have hvl:=Ztv HSX.out (by rw [<- HSL.out];exact Nat.le_refl _)
   have HNM:=Zh (fun A c (h:RowB A (some ⟨ab,aoff + i8,none⟩) c ((al.drop i8).take 8))=>Zdc (some ⟨ab,aoff + i8,none⟩) c ((al.drop i8).take 8) A h (by rw [<- HSL.out];decide) HSX.out)
   rw [<- HSL.out] at HNM
   generalize numHL ((al.drop i8).take 8) = v at *
   have uv:(v:Int) % 256 = (v:Int):=by omega
   have k1:(i8:Int) <= (n8:Int):=by omega
   have k2:(i8:Int) + 8 <= (ac:Int):=by omega
   have k3:i8 + 8 <= ac:=by omega
   have k4:(i8:Int) + 8 - (i8:Int) = 8:=by omega
   have k5:(ac:Int) - (i8:Int) = ((ac - i8:Nat):Int):=by omega
   have HQW:Hid (w1.heap.size <= wr.heap.size):=HE.out.size
   have hol6:o.length <= 200000:=by have:=HOL.out;omega
   have k6:i8 <= 2000000:=by omega
   go_wp2_with fail
   refine (HNM.out wr _ (HSB.out wr HE.out)).mono ?_
   rintro e w3 ⟨rfl,hw3⟩
   replace hw3:=hw3.symm
   subst hw3
   go_wp2_with (at_builtin;refine app1N (y:=v) Zaz rfl (.tmp 14) (.tmp 22) rfl rfl HO.out rfl (by omega) (by omega) (by omega) (by omega) HQW.out ?_;intro a7 c7 w7 hown7 hg7 hb7;have HO7:=Zh hown7;have HB7:=Zh hb7;clear hown7 hg7 hb7)
   go_roundw
   case rel=>exact ⟨j + 1,i8 + 8,a7,c7,o ++ [v],hlt,by have:=HI8.out;omega,by go_num,by rw [List.length_append];rfl,(by unfold Hid;rw [List.length_append,HOL.out];rfl),HOE2.out,HO7.out,HE.out.trans HB7.out⟩
   case measure=>have:=HI8.out;simp [intOf];omega
  ·obtain rfl:j = m:=by omega
   have t0:decide ((i8:Int) < (n8:Int)) = false:=by have:=HI8.out;have:=HM.out;simp;omega
   have t0':decide (i8 < n8) = false:=by have:=HI8.out;have:=HM.out;simp;omega
   have HT:Hid (P = o):=by unfold Hid;rw [HPE.out,HOE.out]
   go_wp2_with fail
   go_ret
   rw [HT.out]
   exact ⟨og,oc,rfl,HO.out.mono HQ1.out,HE1.out.trans (HE.out.mono HQ1.out)⟩
end Go.Proofs.YtnkpnjnfddjfpaaGreat

namespace Go.Proofs.YtnkpnjnfddjfpaaGreat
open Go.RowKit M01 M02 M10
def rotL (l:List Nat) (i:Nat):List Nat:=l.drop i ++ l.take i
theorem OwnN.take {E:TypeId} {k:IntKind} {w:World} {base:Nat} {a:Option Addr} {cap:Nat} {l:List Nat} (h:OwnN E k w base a cap l) (n:Nat) (hn:n <= l.length):OwnN E k w base a cap (l.take n):=by
 obtain ⟨h1,h2⟩:=h
 have e:(l.take n).length = n:=by rw [List.length_take];omega
 refine ⟨by simp,?_⟩
 rw [e]
 rcases h2 with ⟨h3,h4⟩ | ⟨g,c,cur,h3,h4,h5,h6,h7,h8,h9⟩
 ·simp only [Value.slice.injEq] at h3
  left
  have:n = 0:=by omega
  subst this
  simp [h3]
 ·simp only [Value.slice.injEq] at h3
  obtain ⟨rfl,_,rfl⟩:=h3
  refine .inr ⟨g,cap,cur,rfl,h4,h5,by omega,h7,h8,?_⟩
  rw [Nat.mul_one] at h9 ⊢
  rw [List.map_take,<- h9,List.take_take,Nat.min_eq_left hn]
theorem Zmg (a:Option Addr) (cap:Nat) (l:List Nat) (i:Nat) (w:World) (hr:RowN .u8 w a cap l) (hi:i < l.length) (hl:l.length <= 100000) :
  Calls Tryz.prog 144 #[.slice a l.length cap,.int .i64 (i:Nat)] w fun e w'=>e = .returned (.string (strOf (rotL l i))) /\ ∃ m,w' = w.drewN m:=by
 have hcap:=hr.1
 have hcap2:=hr.2.1.1
 obtain ⟨b,off,rfl,hb,_⟩:=hr.at hi
 have hcv1:∀ q,(convert 22 9 (.slice (some ⟨b,off + i,none⟩) (l.length - i) (cap - i))).run Tryz.prog (w.drewN q) = .ok (.string (strOf (l.drop i))) (w.drewN q):=fun q=>Zbs Tryz.underlying22 Tryz.underlying5 Tryz.underlying9 (by rw [List.length_drop]) (show RowN .u8 (w.drewN q) _ _ _ from Zcq hr i (by omega) (by omega))
 have hcv2:∀ q,(convert 22 9 (.slice (some ⟨b,off,none⟩) i cap)).run Tryz.prog (w.drewN q) = .ok (.string (strOf (l.take i))) (w.drewN q):=fun q=>Zbs Tryz.underlying22 Tryz.underlying5 Tryz.underlying9 (by rw [List.length_take];omega) (Zcu (w:=w.drewN q) hr i)
 have happ:strOf (l.drop i) ++ strOf (l.take i) = strOf (rotL l i):=(Zek _ _).symm
 have hsz:¬ (9223372036854775807 < (strOf (l.drop i)).size + (strOf (l.take i)).size):=by rw [Zby,Zby,List.length_drop,List.length_take];omega
 obtain ⟨n,hn⟩:∃ n,l.length = n:=⟨_,rfl⟩
 rw [hn] at hcap hi hcv1 ⊢
 obtain ⟨s,hs⟩:∃ s,strOf (l.drop i) = s:=⟨_,rfl⟩
 obtain ⟨t,ht⟩:∃ t,strOf (l.take i) = t:=⟨_,rfl⟩
 rw [hs] at hcv1 happ hsz
 rw [ht] at hcv2 happ hsz
 obtain ⟨u,hu⟩:∃ u,strOf (rotL l i) = u:=⟨_,rfl⟩
 rw [hu] at happ ⊢
 clear hr hl hn hs ht hu
 have hni:(n:Int) - (i:Int) = ((n - i:Nat):Int):=by omega
 have hci:(cap:Int) - (i:Int) = ((cap - i:Nat):Int):=by omega
 have k1:(i:Int) <= (n:Int):=by omega
 have k2:(i:Int) <= (cap:Int):=by omega
 have k3:i <= n:=by omega
 have k4:i <= cap:=by omega
 have k5:i < cap:=by omega
 go_enter Tryz.func144,Tryz.ntmps144
 go_wp2_with fail
 go_quiet (fail)
 go_wp2
 go_ret
 exact ⟨rfl,_,rfl⟩
def strGt (x y:List Nat):Bool:=!(Op.bytesLess (strOf x).toList (strOf y).toList || (strOf x).toList == (strOf y).toList)
def posO (l o:List Nat) (i:Nat):Nat:=o.findIdx fun x=>strGt (rotL l x) (rotL l i)
def insO (l o:List Nat) (i:Nat):List Nat:=o.take (posO l o i) ++ i :: o.drop (posO l o i)
def ordG (l:List Nat):Nat -> List Nat
 | 0=>[]
 | i + 1=>insO l (ordG l i) i
theorem Zaah (l o:List Nat) (i:Nat):posO l o i <= o.length:=List.findIdx_le_length
theorem Zcn (l o:List Nat) (i:Nat):(insO l o i).length = o.length + 1:=by
 have:=Zaah l o i
 unfold insO
 simp
 omega
theorem Zhu (l:List Nat):∀ i,(ordG l i).length = i
 | 0=>rfl
 | i + 1=>by unfold ordG;rw [Zcn,Zhu l i]
theorem Zkt (l:List Nat):∀ i x,x ∈ ordG l i -> x < i
 | 0,x,h=>by cases h
 | i + 1,x,h=>by
  unfold ordG insO at h
  rcases List.mem_append.1 h with h | h
  ·have:=Zkt l i x (List.mem_of_mem_take h);omega
  ·rcases List.mem_cons.1 h with h | h
   ·omega
   ·have:=Zkt l i x (List.mem_of_mem_drop h);omega
theorem Zaag {l o:List Nat} {i k:Nat} (hk:k < o.length) (h1:∀ j (h:j < o.length),j < k -> strGt (rotL l o[j]) (rotL l i) = false) (h2:strGt (rotL l o[k]) (rotL l i) = true):posO l o i = k:=by
 unfold posO
 rw [List.findIdx_eq hk]
 exact ⟨h2,fun j hj=>h1 j (by omega) hj⟩
theorem Zxy {l o:List Nat} {i:Nat} (h1:∀ j (h:j < o.length),strGt (rotL l o[j]) (rotL l i) = false):posO l o i = o.length:=by
 unfold posO
 rw [List.findIdx_eq_length]
 intro x hx
 obtain ⟨j,hj,rfl⟩:=List.getElem_of_mem hx
 exact h1 j hj
theorem Zui (a:Option Addr) (cap:Nat) (l:List Nat) (i:Nat) (w:World) (hr:RowN .u8 w a cap l) (hi:i < l.length) (hl:l.length <= 100000) :
  Calls Tryz.prog 187 #[.slice a l.length cap,.int .i64 (i:Nat)] w fun e w'=>(∃ s,e = .returned (.string s)) /\ w' = w:=by
 have hcap:=hr.1
 have hcap2:=hr.2.1.1
 obtain ⟨b,off,rfl,hb,_⟩:=hr.at hi
 have hcv1:(convert 22 9 (.slice (some ⟨b,off + i,none⟩) (l.length - i) (cap - i))).run Tryz.prog w = .ok (.string (strOf (l.drop i))) w:=Zbs Tryz.underlying22 Tryz.underlying5 Tryz.underlying9 (by rw [List.length_drop]) (Zcq hr i (by omega) (by omega))
 obtain ⟨n,hn⟩:∃ n,l.length = n:=⟨_,rfl⟩
 rw [hn] at hcap hi hcv1 ⊢
 obtain ⟨s,hs⟩:∃ s,strOf (l.drop i) = s:=⟨_,rfl⟩
 rw [hs] at hcv1
 clear hr hl hn hs
 have hni:(n:Int) - (i:Int) = ((n - i:Nat):Int):=by omega
 have hci:(cap:Int) - (i:Int) = ((cap - i:Nat):Int):=by omega
 have k1:(i:Int) <= (n:Int):=by omega
 have k2:(i:Int) <= (cap:Int):=by omega
 have k3:i <= n:=by omega
 have k4:i <= cap:=by omega
 have k5:i < cap:=by omega
 go_enter Tryz.func187,Tryz.ntmps187
 go_wp2_with fail
 go_ret
 exact ⟨⟨_,rfl⟩,rfl⟩
set_option maxRecDepth 100000 in
set_option maxHeartbeats 3200000 in
theorem Zny (a:Option Addr) (cap:Nat) (l:List Nat) (w:World) (hr:RowN .u8 w a cap l) (hl:l.length <= 100000) :
  Calls Tryz.prog 143 #[.slice a l.length cap,.bool true] w fun e w'=>∃ g c,e = .returned (.slice g l.length c) /\ OwnN 3 .i64 w' w.heap.size g c (ordG l l.length) /\ Below w.heap.size w w':=by
 have HR:=Zh (fun A i (h:Below w.heap.size w A) hi=>Zmg a cap l i A (hr.below h) hi hl)
 have HEN:=Zh (fun A i (h:Below w.heap.size w A) hi=>Zui a cap l i A (hr.below h) hi hl)
 obtain ⟨q,hq⟩:∃ q,w.heap.size = q:=⟨_,rfl⟩
 rw [hq] at HR HEN ⊢
 have HQ:=Zh hq
 have HFIN:Hid ((ordG l l.length).length = l.length):=Zhu _ _
 obtain ⟨n,hn⟩:∃ n,l.length = n:=⟨_,rfl⟩
 rw [hn] at HR HEN HFIN hl ⊢
 have HLN:=Zh hl
 clear hr hq hn
 go_enter Tryz.func143,Tryz.ntmps143
 go_wp2_with fail
 go_loopw [5,6] (fun ov iv A=>∃ (i:Nat) (og:Option Addr) (oc:Nat) (o:List Nat),i <= n /\ iv = .int .i64 (i:Nat) /\ ov = .slice og o.length oc /\ Hid (o = ordG l i) /\ Hid (o.length = i) /\ Hid (OwnN 3 .i64 A q og oc o) /\ Hid (Below q w A)) (fun _ iv _=>n - (intOf iv).toNat)
 case atStart=>exact ⟨0,none,0,[],Nat.zero_le _,rfl,rfl,rfl,rfl,OwnN.nil _ _ _ _,Below.refl _ _⟩
 case round =>
  obtain ⟨i,og,oc,o,hi,rfl,rfl,HOE,HOL,HO,HE⟩:=hrel
  generalize wr = W at *
  by_cases hlt:i < n
  case neg =>
   obtain rfl:i = n:=by omega
   have t0:decide (i < i) = false:=by simp
   go_wp2_with fail
   go_ret
   exact ⟨og,oc,by rw [HOL.out];rfl,by rw [<- HOE.out];exact HO.out,HE.out⟩
  have t0:decide ((i:Int) < (n:Int)) = true:=by simp;omega
  go_wp2_with fail
  refine (HEN.out _ i HE.out hlt).mono ?_
  rintro e w1 ⟨⟨s0,rfl⟩,hw1⟩
  replace hw1:=hw1.symm
  subst hw1
  go_wp2_with fail
  refine (HR.out _ i HE.out hlt).mono ?_
  rintro e w1 ⟨rfl,m0,rfl⟩
  obtain ⟨S,hS⟩:∃ S,strOf (rotL l i) = S:=⟨_,rfl⟩
  rw [hS]
  have HS:=Zh hS
  clear hS
  go_wp2_with fail
  go_loopw [8] (fun kv A=>∃ (k m:Nat),k <= o.length /\ kv = .int .i64 (k:Nat) /\ A = W.drewN m /\ Hid (∀ j (h:j < o.length),j < k -> strGt (rotL l o[j]) (rotL l i) = false)) (fun kv _=>o.length - (intOf kv).toNat)
  case atStart=>exact ⟨0,m0,Nat.zero_le _,rfl,rfl,fun j _ h=>absurd h (Nat.not_lt_zero j)⟩
  case round =>
   obtain ⟨k,m,hk,rfl,hwx,HNO⟩:=hrel
   subst hwx
   by_cases hko:k < o.length
   case neg =>
    have hk0:k = o.length:=by omega
    have t1:decide ((k:Int) < (o.length:Int)) = false:=by simp;omega
    have t1':decide (k < o.length) = false:=by simp;omega
    have HPOS:Hid (posO l o i = k):=by unfold Hid;rw [hk0];exact Zxy fun j h=>HNO.out j h (by omega)
    have HKL:Hid (k <= o.length):=Nat.le_of_eq hk0
    have HK0:=Zh hk0
    clear HNO hko hk hk0
    by_cases hnn:og = none
    ·subst hnn
     have HKC:Hid (k = oc):=by
      rcases HO.out.form with ⟨_,h1,h2⟩ | ⟨g,h,_⟩
      ·have:=HKL.out
       rw [h2] at this
       simp at this
       show k = oc
       omega
      ·cases h
     have HOW:=Zh (show OwnN 3 .i64 (W.drewN m) q (none:Option Addr) oc o from HO.out)
     have HEW:=Zh (belDN HE.out m)
     have HSZW:Hid (∀ g,(none:Option Addr) = some ⟨g,0,none⟩ -> g < (W.drewN m).heap.size):=fun g hg=>(Zbr HO.out hg).2
     have HQWR:=Zh (show q <= (W.drewN m).heap.size from HEW.out.size |> Nat.le_trans (Nat.le_of_eq HQ.out.symm))
     generalize W.drewN m = wx at *
     have HTK:=Zh (HOW.out.take k HKL.out)
     have HTL:Hid ((o.take k).length = k):=by unfold Hid;rw [List.length_take];have:=HKL.out;omega
     obtain ⟨tk,htk⟩:∃ tk,o.take k = tk:=⟨_,rfl⟩
     obtain ⟨dk,hdk⟩:∃ dk,o.drop k = dk:=⟨_,rfl⟩
     have HDLN:Hid (o.length - k = dk.length):=by unfold Hid;rw [<- hdk,List.length_drop]
     have HDN:Hid (∀ A (p:Option Addr) c',c' <= 9223372036854775807 -> (p = none -> c' = 0) -> RowN .i64 A p c' dk):=by
      unfold Hid
      intro A p c' h1 h2
      have:dk = []:=List.eq_nil_of_length_eq_zero (by have:=HDLN.out;have:=HKC.out;have:=HOW.out.caps;omega)
      rw [this]
      exact ⟨by simp,⟨h1,h2⟩,.inl rfl⟩
     rw [htk] at HTK HTL
     have HTKE:=Zh htk
     have HDKE:=Zh hdk
     have hcap:=HOW.out.caps
     have hkl:=HKL.out
     clear htk hdk
     have hno:(o.length:Int) - (k:Int) = ((o.length - k:Nat):Int):=by omega
     have hkc1:k <= oc:=Nat.le_of_eq HKC.out
     have hkc2:oc <= k:=Nat.le_of_eq HKC.out.symm
     have hco:(oc:Int) - (k:Int) = ((oc - k:Nat):Int):=by omega
     have hl5:o.length <= 100000:=by have:=HLN.out;have:=HOL.out;omega
     go_wp2_with (first | (at_builtin;refine appAnyN Zax rfl (.tmp 46) (.tmp 49) rfl (a:=some ⟨wx.heap.size,0,none⟩) (cap:=0) (l:=[]) (ys:=dk) (base:=wx.heap.size) rfl (OwnN.lit0 _ _ _ _ (Nat.le_refl _)) HDLN.out rfl (HDN.out _ _ _ (by omega) (fun _=>by omega)) (by simp;omega) (by simp;omega) (by simp) ?_;intro a1 c1 w1 hown1 hg1 hb1;simp only [List.nil_append] at hown1;simp only [List.length_nil,Nat.zero_add];have HO1:=Zh hown1;have HB1:=Zh ((Zai wx _).trans hb1);have HT1:=Zh (HTK.out.below ((Zai wx _).trans hb1));have HQ1:=Zh (Nat.le_trans HQWR.out ((Zai wx _).trans hb1).size);clear hown1 hg1 hb1) | (at_builtin;refine app1At (y:=i) Zax rfl (.tmp 53) (.tmp 55) rfl (show _ = Value.slice (none:Option Addr) tk.length oc by rw [HTL.out];rfl) HT1.out rfl (by omega) (by omega) (by rw [HTL.out];omega) (by rw [HTL.out];omega) HQ1.out ?_;intro a2 c2 w2 hown2 hg2 hb2 hf2;have HO2:=Zh hown2;have HG2:=Zh hg2;have HB2:=Zh hb2;have HQ2:=Zh (Nat.le_trans HQ1.out hg2.size);have HR2:=Zh (HO1.out.kept hg2 (fun g hg e=>by have h1:=(Zbr HO1.out hg).1;have h2:=HSZW.out g (Zcc HT1.out e);omega));clear hown2 hg2 hb2 hf2) | (at_builtin;refine appAnyN Zax rfl (.tmp 56) (.tmp 57) rfl (show _ = Value.slice a2 (tk ++ [i]).length c2 by rw [List.length_append,HTL.out];rfl) HO2.out HDLN.out rfl HR2.out.row (by rw [List.length_append,HTL.out];show k + 1 + _ <= _;omega) (by rw [List.length_append,HTL.out];show (k + 1 + _) * 8 <= _;omega) HQ2.out ?_;intro a3 c3 w3 hown3 hg3 hb3;have HO3:=Zh hown3;have HB3:=Zh hb3;clear hown3 hg3 hb3))
     have HINS:Hid (tk ++ [i] ++ dk = insO l o i):=by unfold Hid insO;rw [HPOS.out,HTKE.out,HDKE.out];simp
     go_roundw
     case rel =>
      refine ⟨i + 1,a3,c3,insO l o i,by omega,by go_num,?_,(by unfold Hid;rw [HOE.out];rfl),(by unfold Hid;rw [Zcn,HOL.out]),?_,HEW.out.trans ((HB1.out.mono HQWR.out).trans (HB2.out.trans HB3.out))⟩
      ·rw [Zcn]
       show Value.slice a3 (tk.length + 1 + (o.length - k)) c3 = _
       rw [HTL.out,show k + 1 + (o.length - k) = o.length + 1 by omega]
      ·unfold Hid;rw [<- HINS.out];exact HO3.out
     case measure=>simp [intOf];omega
    obtain ⟨gb,rfl⟩:∃ gb,og = some ⟨gb,0,none⟩:=by
     rcases HO.out.form with ⟨h,_⟩ | ⟨g,h,_⟩
     ·exact absurd h hnn
     ·exact ⟨g,h⟩
    clear hnn
    by_cases hkc:k = oc
    ·have HKC:=Zh hkc
     clear hkc
     have HOW:=Zh (show OwnN 3 .i64 (W.drewN m) q (some ⟨gb,0,none⟩:Option Addr) oc o from HO.out)
     have HEW:=Zh (belDN HE.out m)
     have HSZW:Hid (∀ g,(some ⟨gb,0,none⟩:Option Addr) = some ⟨g,0,none⟩ -> g < (W.drewN m).heap.size):=fun g hg=>(Zbr HO.out hg).2
     have HQWR:=Zh (show q <= (W.drewN m).heap.size from HEW.out.size |> Nat.le_trans (Nat.le_of_eq HQ.out.symm))
     generalize W.drewN m = wx at *
     have HTK:=Zh (HOW.out.take k HKL.out)
     have HTL:Hid ((o.take k).length = k):=by unfold Hid;rw [List.length_take];have:=HKL.out;omega
     obtain ⟨tk,htk⟩:∃ tk,o.take k = tk:=⟨_,rfl⟩
     obtain ⟨dk,hdk⟩:∃ dk,o.drop k = dk:=⟨_,rfl⟩
     have HDLN:Hid (o.length - k = dk.length):=by unfold Hid;rw [<- hdk,List.length_drop]
     have HDN:Hid (∀ A (p:Option Addr) c',c' <= 9223372036854775807 -> (p = none -> c' = 0) -> RowN .i64 A p c' dk):=by
      unfold Hid
      intro A p c' h1 h2
      have:dk = []:=List.eq_nil_of_length_eq_zero (by have:=HDLN.out;have:=HKC.out;have:=HOW.out.caps;omega)
      rw [this]
      exact ⟨by simp,⟨h1,h2⟩,.inl rfl⟩
     rw [htk] at HTK HTL
     have HTKE:=Zh htk
     have HDKE:=Zh hdk
     have hcap:=HOW.out.caps
     have hkl:=HKL.out
     clear htk hdk
     have hno:(o.length:Int) - (k:Int) = ((o.length - k:Nat):Int):=by omega
     have hkc1:k <= oc:=Nat.le_of_eq HKC.out
     have hkc2:oc <= k:=Nat.le_of_eq HKC.out.symm
     have hco:(oc:Int) - (k:Int) = ((oc - k:Nat):Int):=by omega
     have hl5:o.length <= 100000:=by have:=HLN.out;have:=HOL.out;omega
     go_wp2_with (first | (at_builtin;refine appAnyN Zax rfl (.tmp 46) (.tmp 49) rfl (a:=some ⟨wx.heap.size,0,none⟩) (cap:=0) (l:=[]) (ys:=dk) (base:=wx.heap.size) rfl (OwnN.lit0 _ _ _ _ (Nat.le_refl _)) HDLN.out rfl (HDN.out _ _ _ (by omega) (fun _=>by omega)) (by simp;omega) (by simp;omega) (by simp) ?_;intro a1 c1 w1 hown1 hg1 hb1;simp only [List.nil_append] at hown1;simp only [List.length_nil,Nat.zero_add];have HO1:=Zh hown1;have HB1:=Zh ((Zai wx _).trans hb1);have HT1:=Zh (HTK.out.below ((Zai wx _).trans hb1));have HQ1:=Zh (Nat.le_trans HQWR.out ((Zai wx _).trans hb1).size);clear hown1 hg1 hb1) | (at_builtin;refine app1At (y:=i) Zax rfl (.tmp 53) (.tmp 55) rfl (show _ = Value.slice (some ⟨gb,0,none⟩:Option Addr) tk.length oc by rw [HTL.out];rfl) HT1.out rfl (by omega) (by omega) (by rw [HTL.out];omega) (by rw [HTL.out];omega) HQ1.out ?_;intro a2 c2 w2 hown2 hg2 hb2 hf2;have HO2:=Zh hown2;have HG2:=Zh hg2;have HB2:=Zh hb2;have HQ2:=Zh (Nat.le_trans HQ1.out hg2.size);have HR2:=Zh (HO1.out.kept hg2 (fun g hg e=>by have h1:=(Zbr HO1.out hg).1;have h2:=HSZW.out g (Zcc HT1.out e);omega));clear hown2 hg2 hb2 hf2) | (at_builtin;refine appAnyN Zax rfl (.tmp 56) (.tmp 57) rfl (show _ = Value.slice a2 (tk ++ [i]).length c2 by rw [List.length_append,HTL.out];rfl) HO2.out HDLN.out rfl HR2.out.row (by rw [List.length_append,HTL.out];show k + 1 + _ <= _;omega) (by rw [List.length_append,HTL.out];show (k + 1 + _) * 8 <= _;omega) HQ2.out ?_;intro a3 c3 w3 hown3 hg3 hb3;have HO3:=Zh hown3;have HB3:=Zh hb3;clear hown3 hg3 hb3))
     have HINS:Hid (tk ++ [i] ++ dk = insO l o i):=by unfold Hid insO;rw [HPOS.out,HTKE.out,HDKE.out];simp
     go_roundw
     case rel =>
      refine ⟨i + 1,a3,c3,insO l o i,by omega,by go_num,?_,(by unfold Hid;rw [HOE.out];rfl),(by unfold Hid;rw [Zcn,HOL.out]),?_,HEW.out.trans ((HB1.out.mono HQWR.out).trans (HB2.out.trans HB3.out))⟩
      ·rw [Zcn]
       show Value.slice a3 (tk.length + 1 + (o.length - k)) c3 = _
       rw [HTL.out,show k + 1 + (o.length - k) = o.length + 1 by omega]
      ·unfold Hid;rw [<- HINS.out];exact HO3.out
     case measure=>simp [intOf];omega
    ·have HKC:Hid (k < oc):=by have:=HO.out.caps;have:=HKL.out;unfold Hid;omega
     clear hkc
     have HOW:=Zh (show OwnN 3 .i64 (W.drewN m) q (some ⟨gb,0,none⟩:Option Addr) oc o from HO.out)
     have HEW:=Zh (belDN HE.out m)
     have HSZW:Hid (∀ g,(some ⟨gb,0,none⟩:Option Addr) = some ⟨g,0,none⟩ -> g < (W.drewN m).heap.size):=fun g hg=>(Zbr HO.out hg).2
     have HQWR:=Zh (show q <= (W.drewN m).heap.size from HEW.out.size |> Nat.le_trans (Nat.le_of_eq HQ.out.symm))
     generalize W.drewN m = wx at *
     have HTK:=Zh (HOW.out.take k HKL.out)
     have HTL:Hid ((o.take k).length = k):=by unfold Hid;rw [List.length_take];have:=HKL.out;omega
     obtain ⟨tk,htk⟩:∃ tk,o.take k = tk:=⟨_,rfl⟩
     obtain ⟨dk,hdk⟩:∃ dk,o.drop k = dk:=⟨_,rfl⟩
     have HDLN:Hid (o.length - k = dk.length):=by unfold Hid;rw [<- hdk,List.length_drop]
     have hdr:=Zcq HOW.out.row k HKL.out HKC.out
     rw [hdk,Nat.zero_add] at hdr
     have HDR:=Zh hdr
     clear hdr
     rw [htk] at HTK HTL
     have HTKE:=Zh htk
     have HDKE:=Zh hdk
     have hcap:=HOW.out.caps
     have hkl:=HKL.out
     clear htk hdk
     have hno:(o.length:Int) - (k:Int) = ((o.length - k:Nat):Int):=by omega
     have hkc:=HKC.out
     have hco:(oc:Int) - (k:Int) = ((oc - k:Nat):Int):=by omega
     have hl5:o.length <= 100000:=by have:=HLN.out;have:=HOL.out;omega
     go_wp2_with (first | (at_builtin;refine appAnyN Zax rfl (.tmp 46) (.tmp 49) rfl (a:=some ⟨wx.heap.size,0,none⟩) (cap:=0) (l:=[]) (ys:=dk) (base:=wx.heap.size) rfl (OwnN.lit0 _ _ _ _ (Nat.le_refl _)) HDLN.out rfl (HDR.out.below (Zai wx _)) (by simp;omega) (by simp;omega) (by simp) ?_;intro a1 c1 w1 hown1 hg1 hb1;simp only [List.nil_append] at hown1;simp only [List.length_nil,Nat.zero_add];have HO1:=Zh hown1;have HB1:=Zh ((Zai wx _).trans hb1);have HT1:=Zh (HTK.out.below ((Zai wx _).trans hb1));have HQ1:=Zh (Nat.le_trans HQWR.out ((Zai wx _).trans hb1).size);clear hown1 hg1 hb1) | (at_builtin;refine app1At (y:=i) Zax rfl (.tmp 53) (.tmp 55) rfl (show _ = Value.slice (some ⟨gb,0,none⟩:Option Addr) tk.length oc by rw [HTL.out];rfl) HT1.out rfl (by omega) (by omega) (by rw [HTL.out];omega) (by rw [HTL.out];omega) HQ1.out ?_;intro a2 c2 w2 hown2 hg2 hb2 hf2;have HO2:=Zh hown2;have HG2:=Zh hg2;have HB2:=Zh hb2;have HQ2:=Zh (Nat.le_trans HQ1.out hg2.size);have HR2:=Zh (HO1.out.kept hg2 (fun g hg e=>by have h1:=(Zbr HO1.out hg).1;have h2:=HSZW.out g (Zcc HT1.out e);omega));clear hown2 hg2 hb2 hf2) | (at_builtin;refine appAnyN Zax rfl (.tmp 56) (.tmp 57) rfl (show _ = Value.slice a2 (tk ++ [i]).length c2 by rw [List.length_append,HTL.out];rfl) HO2.out HDLN.out rfl HR2.out.row (by rw [List.length_append,HTL.out];show k + 1 + _ <= _;omega) (by rw [List.length_append,HTL.out];show (k + 1 + _) * 8 <= _;omega) HQ2.out ?_;intro a3 c3 w3 hown3 hg3 hb3;have HO3:=Zh hown3;have HB3:=Zh hb3;clear hown3 hg3 hb3))
     have HINS:Hid (tk ++ [i] ++ dk = insO l o i):=by unfold Hid insO;rw [HPOS.out,HTKE.out,HDKE.out];simp
     go_roundw
     case rel =>
      refine ⟨i + 1,a3,c3,insO l o i,by omega,by go_num,?_,(by unfold Hid;rw [HOE.out];rfl),(by unfold Hid;rw [Zcn,HOL.out]),?_,HEW.out.trans ((HB1.out.mono HQWR.out).trans (HB2.out.trans HB3.out))⟩
      ·rw [Zcn]
       show Value.slice a3 (tk.length + 1 + (o.length - k)) c3 = _
       rw [HTL.out,show k + 1 + (o.length - k) = o.length + 1 by omega]
      ·unfold Hid;rw [<- HINS.out];exact HO3.out
     case measure=>simp [intOf];omega
   have t1:decide ((k:Int) < (o.length:Int)) = true:=by simp;omega
   have hol:o.length <= 100000:=by have:=HOL.out;have:=HLN.out;omega
   have uk1:wrap64 ((k:Int) + 1) = (k:Int) + 1:=IntWalk.wrap64_in _ (by omega)
   obtain ⟨gb,rfl,_,_,hgc,_⟩:=(show OwnN 3 .i64 (W.drewN m) q og oc o from HO.out).at hko
   have hxi:o[k] < n:=by have h:=Zkt l i o[k] (by rw [<- HOE.out];exact List.getElem_mem hko);omega
   have HXK:Hid (∀ b,strGt (rotL l o[k]) (rotL l i) = b -> strGt (rotL l o[k]) (rotL l i) = b):=fun b h=>h
   obtain ⟨x,hx⟩:∃ x,o[k] = x:=⟨_,rfl⟩
   rw [hx] at hgc hxi HXK
   have HX:=Zh hx
   clear hx
   go_wp2_with fail
   refine (HEN.out _ x (belDN HE.out m) hxi).mono ?_
   rintro e w1 ⟨⟨s1,rfl⟩,hw1⟩
   replace hw1:=hw1.symm
   subst hw1
   go_wp2_with fail
   refine (HR.out _ x (belDN HE.out m) hxi).mono ?_
   rintro e w1 ⟨rfl,m1,hw1⟩
   obtain ⟨T,hT⟩:∃ T,strOf (rotL l x) = T:=⟨_,rfl⟩
   rw [hT]
   have HT:=Zh hT
   clear hT
   obtain ⟨b1,hb1⟩:∃ b1,Op.bytesLess T.toList S.toList = b1:=⟨_,rfl⟩
   obtain ⟨b2,hb2⟩:∃ b2,(T.toList == S.toList) = b2:=⟨_,rfl⟩
   have HGT:Hid (strGt (rotL l x) (rotL l i) = !(b1 || b2)):=by unfold Hid strGt;rw [HT.out,HS.out,hb1,hb2]
   subst hw1
   rw [World.drewN_drewN]
   cases b1
   case true =>
    go_wp2_with fail
    go_roundw
    case rel =>
     refine ⟨k + 1,m + m1,by omega,by go_num,by trivial,fun j h hj=>?_⟩
     rcases Nat.lt_or_ge j k with h2 | h2
     ·exact HNO.out j h h2
     ·obtain rfl:j = k:=by omega
      rw [HX.out,HGT.out];rfl
    case measure=>simp [intOf];omega
   cases b2
   case true =>
    go_wp2_with fail
    go_roundw
    case rel =>
     refine ⟨k + 1,m + m1,by omega,by go_num,by trivial,fun j h hj=>?_⟩
     rcases Nat.lt_or_ge j k with h2 | h2
     ·exact HNO.out j h h2
     ·obtain rfl:j = k:=by omega
      rw [HX.out,HGT.out];rfl
    case measure=>simp [intOf];omega
   have HPOS:Hid (posO l o i = k):=Zaag hko (fun j h hj=>HNO.out j h hj) (by rw [HX.out,HGT.out];rfl)
   have HKL:Hid (k <= o.length):=Nat.le_of_lt hko
   have HKC:Hid (k < oc):=by have:=HO.out.caps;unfold Hid;omega
   clear HNO hk HX
   have HOW:=Zh (show OwnN 3 .i64 (W.drewN (m + m1)) q (some ⟨gb,0,none⟩:Option Addr) oc o from HO.out)
   have HEW:=Zh (belDN HE.out (m + m1))
   have HSZW:Hid (∀ g,(some ⟨gb,0,none⟩:Option Addr) = some ⟨g,0,none⟩ -> g < (W.drewN (m + m1)).heap.size):=fun g hg=>(Zbr HO.out hg).2
   have HQWR:=Zh (show q <= (W.drewN (m + m1)).heap.size from HEW.out.size |> Nat.le_trans (Nat.le_of_eq HQ.out.symm))
   generalize W.drewN (m + m1) = wx at *
   have HTK:=Zh (HOW.out.take k HKL.out)
   have HTL:Hid ((o.take k).length = k):=by unfold Hid;rw [List.length_take];have:=HKL.out;omega
   obtain ⟨tk,htk⟩:∃ tk,o.take k = tk:=⟨_,rfl⟩
   obtain ⟨dk,hdk⟩:∃ dk,o.drop k = dk:=⟨_,rfl⟩
   have HDLN:Hid (o.length - k = dk.length):=by unfold Hid;rw [<- hdk,List.length_drop]
   have hdr:=Zcq HOW.out.row k HKL.out HKC.out
   rw [hdk,Nat.zero_add] at hdr
   have HDR:=Zh hdr
   clear hdr
   rw [htk] at HTK HTL
   have HTKE:=Zh htk
   have HDKE:=Zh hdk
   have hcap:=HOW.out.caps
   have hkl:=HKL.out
   clear htk hdk
   have hno:(o.length:Int) - (k:Int) = ((o.length - k:Nat):Int):=by omega
   have hkc:=HKC.out
   have hco:(oc:Int) - (k:Int) = ((oc - k:Nat):Int):=by omega
   have hl5:o.length <= 100000:=by have:=HLN.out;have:=HOL.out;omega
   go_wp2_with (first | (at_builtin;refine appAnyN Zax rfl (.tmp 46) (.tmp 49) rfl (a:=some ⟨wx.heap.size,0,none⟩) (cap:=0) (l:=[]) (ys:=dk) (base:=wx.heap.size) rfl (OwnN.lit0 _ _ _ _ (Nat.le_refl _)) HDLN.out rfl (HDR.out.below (Zai wx _)) (by simp;omega) (by simp;omega) (by simp) ?_;intro a1 c1 w1 hown1 hg1 hb1;simp only [List.nil_append] at hown1;simp only [List.length_nil,Nat.zero_add];have HO1:=Zh hown1;have HB1:=Zh ((Zai wx _).trans hb1);have HT1:=Zh (HTK.out.below ((Zai wx _).trans hb1));have HQ1:=Zh (Nat.le_trans HQWR.out ((Zai wx _).trans hb1).size);clear hown1 hg1 hb1) | (at_builtin;refine app1At (y:=i) Zax rfl (.tmp 53) (.tmp 55) rfl (show _ = Value.slice (some ⟨gb,0,none⟩:Option Addr) tk.length oc by rw [HTL.out];rfl) HT1.out rfl (by omega) (by omega) (by rw [HTL.out];omega) (by rw [HTL.out];omega) HQ1.out ?_;intro a2 c2 w2 hown2 hg2 hb2 hf2;have HO2:=Zh hown2;have HG2:=Zh hg2;have HB2:=Zh hb2;have HQ2:=Zh (Nat.le_trans HQ1.out hg2.size);have HR2:=Zh (HO1.out.kept hg2 (fun g hg e=>by have h1:=(Zbr HO1.out hg).1;have h2:=HSZW.out g (Zcc HT1.out e);omega));clear hown2 hg2 hb2 hf2) | (at_builtin;refine appAnyN Zax rfl (.tmp 56) (.tmp 57) rfl (show _ = Value.slice a2 (tk ++ [i]).length c2 by rw [List.length_append,HTL.out];rfl) HO2.out HDLN.out rfl HR2.out.row (by rw [List.length_append,HTL.out];show k + 1 + _ <= _;omega) (by rw [List.length_append,HTL.out];show (k + 1 + _) * 8 <= _;omega) HQ2.out ?_;intro a3 c3 w3 hown3 hg3 hb3;have HO3:=Zh hown3;have HB3:=Zh hb3;clear hown3 hg3 hb3))
   have HINS:Hid (tk ++ [i] ++ dk = insO l o i):=by unfold Hid insO;rw [HPOS.out,HTKE.out,HDKE.out];simp
   go_roundw
   case rel =>
    refine ⟨i + 1,a3,c3,insO l o i,by omega,by go_num,?_,(by unfold Hid;rw [HOE.out];rfl),(by unfold Hid;rw [Zcn,HOL.out]),?_,HEW.out.trans ((HB1.out.mono HQWR.out).trans (HB2.out.trans HB3.out))⟩
    ·rw [Zcn]
     show Value.slice a3 (tk.length + 1 + (o.length - k)) c3 = _
     rw [HTL.out,show k + 1 + (o.length - k) = o.length + 1 by omega]
    ·unfold Hid;rw [<- HINS.out];exact HO3.out
   case measure=>simp [intOf];omega
end Go.Proofs.YtnkpnjnfddjfpaaGreat

namespace Go.Proofs.YtnkpnjnfddjfpaaGreat
open Go.RowKit M01 M02 M10
def lastF (l:List Nat) (x:Nat):Nat:=(rotL l x).getD (l.length - 1) 0
def atT (o:List Nat):Nat -> Nat
 | 0=>0
 | p + 1=>if o.getD p 1 = 0 then p else atT o p
def turnG (l:List Nat):List Nat × Nat:=((ordG l l.length).map (lastF l),atT (ordG l l.length) l.length)
theorem Zyc (l:List Nat) (i:Nat):(rotL l i).length = l.length:=by unfold rotL;simp;omega
theorem Zri {l:List Nat} {i:Nat} (hi:i < l.length) (h256:∀ x ∈ l,x < 256):∀ h,((strOf l)[i]'h).toNat = l.getD i 0:=by
 rw [Zbt]
 intro h
 show ((l.map UInt8.ofNat).toArray[i]'(by simpa using hi)).toNat = _
 simp only [List.getElem_toArray,List.getElem_map,UInt8.toNat_ofNat']
 have:=h256 _ (List.getElem_mem hi)
 rw [List.getD_eq_getElem?_getD,List.getElem?_eq_getElem hi]
 simp;omega
theorem Zkz {l:List Nat} {i x:Nat} (h:x ∈ rotL l i):x ∈ l:=by
 unfold rotL at h
 rcases List.mem_append.1 h with h | h
 ·exact List.mem_of_mem_drop h
 ·exact List.mem_of_mem_take h
theorem Zyt {o:List Nat}:∀ {n:Nat},0 < n -> atT o n < n
 | p + 1,_=>by
  unfold atT
  split
  ·omega
  ·cases p with
   | zero=>exact Nat.zero_lt_one
   | succ p=>have:=Zyt (o:=o) (n:=p + 1) (Nat.succ_pos p);omega
set_option maxRecDepth 100000 in
set_option maxHeartbeats 1600000 in
theorem Zqu (a:Option Addr) (cap:Nat) (l:List Nat) (w:World) (hr:RowN .u8 w a cap l) (hl:l.length <= 100000) (h256:∀ x ∈ l,x < 256) :
  Calls Tryz.prog 95 #[.slice a l.length cap] w fun e w'=>∃ g c,e = .returned (.tuple #[.slice g l.length c,.int .i64 ((turnG l).2:Nat)]) /\ OwnN 5 .u8 w' w.heap.size g c (turnG l).1 /\ Below w.heap.size w w':=by
 have HOR:=Zh (Zny a cap l w hr hl)
 have HRT:=Zh (fun A i (h:Below w.heap.size w A) hi=>Zmg a cap l i A (hr.below h) hi hl)
 have H256:=Zh h256
 obtain ⟨q,hq⟩:∃ q,w.heap.size = q:=⟨_,rfl⟩
 rw [hq] at HOR HRT ⊢
 have HQ:=Zh hq
 obtain ⟨o,ho⟩:∃ o,o = ordG l l.length:=⟨_,rfl⟩
 have HOL:Hid (o.length = l.length):=by unfold Hid;rw [ho,Zhu]
 have HOM:Hid (∀ x ∈ o,x < l.length):=by unfold Hid;rw [ho];exact Zkt l _
 have HT:Hid (turnG l = (o.map (lastF l),atT o l.length)):=by unfold Hid turnG;rw [ho]
 rw [<- ho] at HOR
 have HLF:Hid (∀ x h,((strOf (rotL l x))[l.length - 1]'h).toNat = lastF l x):=by
  intro x h
  have h2:l.length - 1 < (rotL l x).length:=by
   have h3:=h
   rw [Zby] at h3
   exact h3
  exact Zri h2 (fun y hy=>h256 y (Zkz hy)) h
 have HLS:Hid (∀ x,(strOf (rotL l x)).size = l.length):=fun x=>by rw [Zby,Zyc]
 have HLB:Hid (∀ x,lastF l x < 256):=fun x=>by
  unfold lastF
  rw [List.getD_eq_getElem?_getD]
  cases h:(rotL l x)[l.length - 1]? with
  | none=>simp
  | some y =>
   obtain ⟨h1,h2⟩:=List.getElem?_eq_some_iff.1 h
   have:=h256 y (Zkz (h2 ▸ List.getElem_mem h1))
   simpa using this
 obtain ⟨n,hn⟩:∃ n,l.length = n:=⟨_,rfl⟩
 rw [hn] at HOR HRT HOL HOM HT HLF HLS hl ⊢
 have HLN:=Zh hn
 clear hr hq hn ho h256
 go_enter Tryz.func95,Tryz.ntmps95
 go_wp2_with fail
 refine HOR.out.mono ?_
 rintro e w1 ⟨og,oc,rfl,hown,hb1⟩
 have HB1:=Zh hb1
 have HOW:=Zh hown.row
 have HQ1:Hid (q <= w1.heap.size):=by have:=hb1.size;have:=HQ.out;unfold Hid;omega
 clear hown hb1
 go_wp2_with fail
 go_loopw [5,6,7] (fun lv av pv A=>∃ (p at_:Nat) (lg:Option Addr) (lc:Nat) (r:List Nat),p <= n /\ pv = .int .i64 (p:Nat) /\ av = .int .i64 (at_:Nat) /\ lv = .slice lg r.length lc /\ Hid (r = (o.take p).map (lastF l)) /\ r.length = p /\ Hid (at_ = atT o p) /\ Hid (OwnN 5 .u8 A w1.heap.size lg lc r) /\ Hid (Below w1.heap.size w1 A)) (fun _ _ pv _=>n - (intOf pv).toNat)
 case atStart=>exact ⟨0,0,none,0,[],Nat.zero_le _,rfl,rfl,rfl,rfl,rfl,rfl,OwnN.nil _ _ _ _,Below.refl _ _⟩
 case round =>
  obtain ⟨p,at_,lg,lc,r,hp,rfl,rfl,rfl,HRE,hrl,HAE,HR,HE⟩:=hrel
  by_cases hlt:p < n
  case neg =>
   obtain rfl:p = n:=by omega
   have t0:decide (p < p) = false:=by simp
   have HRL:=Zh hrl
   clear hrl
   go_wp2_with fail
   go_ret2
   rw [HT.out]
   refine ⟨lg,lc,by rw [HRL.out,HAE.out];rfl,?_,HB1.out.trans (HE.out.mono HQ1.out)⟩
   have:o.take p = o:=List.take_of_length_le (by rw [HOL.out];exact Nat.le_refl p)
   rw [HRE.out,this] at HR
   exact HR.out.mono HQ1.out
  have t0:decide ((p:Int) < (n:Int)) = true:=by simp;omega
  have hpo:p < o.length:=by rw [HOL.out];exact hlt
  obtain ⟨gb,goff,rfl,hgb,hgc0⟩:=HOW.out.at hpo
  have HGC:Hid (∀ A,Below w1.heap.size w1 A -> A.cell? ⟨gb,goff + p,none⟩ = some (.int .i64 (o[p]:Nat))):=fun A hA=>(hA.cell (p:=⟨gb,goff + p,none⟩) hgb).trans hgc0
  have hgc:=HGC.out wr HE.out
  clear hgc0
  have hx:=HOM.out _ (List.getElem_mem hpo)
  have HXE:Hid (o.getD p 1 = o[p]):=by unfold Hid;simp [hpo]
  have HTS:Hid (o.take (p + 1) = o.take p ++ [o[p]]):=M04.Zbm o p hpo
  generalize o[p] = x at *
  have hls:=HLS.out x
  have hlf:=HLF.out x
  have hlb:=HLB.out x
  obtain ⟨v,hv⟩:∃ v,lastF l x = v:=⟨_,rfl⟩
  rw [hv] at hlf hlb
  have HV:=Zh hv
  obtain ⟨S,hS⟩:∃ S,strOf (rotL l x) = S:=⟨_,rfl⟩
  have HRX:=Zh (HRT.out wr x (HB1.out.trans (HE.out.mono HQ1.out)) hx)
  rw [hS] at hls HRX
  simp only [hS] at hlf
  have hmS:n - 1 < S.size:=by rw [hls];omega
  have hlf2:(S[n - 1]'hmS).toNat = v:=hlf hmS
  have hn1:n - 1 < n:=by omega
  have HRL:=Zh hrl
  have HQW:Hid (w1.heap.size <= wr.heap.size):=HE.out.size
  clear hlf hS hv
  have hrl2:r.length <= 100000:=by omega
  clear hrl
  go_wp2_with fail
  refine HRX.out.mono ?_
  rintro e w2 ⟨rfl,mm,rfl⟩
  have HR2:=Zh (show OwnN 5 .u8 (wr.drewN mm) w1.heap.size lg lc r from HR.out)
  have HE2:=Zh (belDN HE.out mm)
  have HQW2:Hid (w1.heap.size <= (wr.drewN mm).heap.size):=HQW.out
  have hgc2:(wr.drewN mm).cell? ⟨gb,goff + p,none⟩ = some (.int .i64 (x:Nat)):=hgc
  clear hgc HRX
  generalize wr.drewN mm = wx at *
  have HRE7:Hid (r ++ [v] = (o.take (p + 1)).map (lastF l)):=by unfold Hid;rw [HTS.out,List.map_append,<- HRE.out,<- HV.out];rfl
  by_cases hx0:x = 0
  ·have t2:((x:Int) == 0) = true:=beq_iff_eq.2 (by omega)
   have HA7:Hid (p = atT o (p + 1)):=by unfold Hid atT;rw [HXE.out,if_pos hx0]
   clear hx0
   go_wp2_with (at_builtin;refine app1N (y:=v) Zaz rfl (.tmp 23) (.tmp 29) rfl rfl HR2.out rfl (by omega) (by omega) (by omega) (by omega) HQW2.out ?_;intro a7 c7 w7 hown7 hg7 hb7;have HO7:=Zh hown7;have HB7:=Zh hb7;have hgc7:=HGC.out w7 (HE2.out.trans hb7);clear hown7 hg7 hb7)
   go_roundw
   case rel=>exact ⟨p + 1,p,a7,c7,r ++ [v],hlt,by go_num,by trivial,by rw [List.length_append];rfl,HRE7.out,by rw [List.length_append,HRL.out];rfl,HA7.out,HO7.out,HE2.out.trans HB7.out⟩
   case measure=>simp [intOf];omega
  ·have t2:((x:Int) == 0) = false:=beq_eq_false_iff_ne.2 (by omega)
   have HA7:Hid (at_ = atT o (p + 1)):=by unfold Hid atT;rw [HXE.out,if_neg hx0];exact HAE.out
   clear hx0
   go_wp2_with (at_builtin;refine app1N (y:=v) Zaz rfl (.tmp 23) (.tmp 29) rfl rfl HR2.out rfl (by omega) (by omega) (by omega) (by omega) HQW2.out ?_;intro a7 c7 w7 hown7 hg7 hb7;have HO7:=Zh hown7;have HB7:=Zh hb7;have hgc7:=HGC.out w7 (HE2.out.trans hb7);clear hown7 hg7 hb7)
   go_roundw
   case rel=>exact ⟨p + 1,at_,a7,c7,r ++ [v],hlt,by go_num,by trivial,by rw [List.length_append];rfl,HRE7.out,by rw [List.length_append,HRL.out];rfl,HA7.out,HO7.out,HE2.out.trans HB7.out⟩
   case measure=>simp [intOf];omega
end Go.Proofs.YtnkpnjnfddjfpaaGreat

namespace Go.Proofs.YtnkpnjnfddjfpaaGreat
open Go.RowKit Go.Shelf M01 M02
theorem Zaaf (v b k:Nat) (hv:v < 2 ^ k) (hb:b < 2) (hk:k < 32):bits .or .u32 ((v:Int) * 2 % 4294967296) (b:Int) = ((2 * v + b:Nat):Int):=by
 have hp:2 ^ k <= 2 ^ 31:=Nat.pow_le_pow_right (by decide) (by omega)
 have h1:((v:Int) * 2 % 4294967296) = ((2 * v:Nat):Int):=by omega
 rw [h1,Zid (2 * v) b (by omega) (by omega)]
 have h2:=Zyy b v 1 (by omega)
 rw [Nat.or_comm,Nat.mul_comm 2 v]
 have h3:v * 2 ^ 1 = v * 2:=rfl
 rw [h3] at h2
 rw [h2,Nat.add_comm]
def RdM (w:World) (p:Nat) (bs:List Nat) (at_:Nat):Prop :=
 ∃ a cap,w.heap[p]? = some (.cells #[.slice a bs.length cap,.int .i64 (at_:Nat)] 80 (0,0)) /\ RowN .u8 w a cap bs /\ (∀ x ∈ bs,x < 256) /\ bs.length <= 100000000 /\ at_ <= 8 * bs.length /\ ∀ x,a = some x -> x.block < p /\ (0 < bs.length -> x.block + 1 = p)
theorem Zpe {A:World} {p m cap:Nat} {bs:List Nat} {a:Option Addr} (hc:A.heap[p]? = some (.cells #[.slice a bs.length cap,.int .i64 (m:Nat)] 80 (0,0))) (hr:RowN .u8 A a cap bs) (hb:∀ x ∈ bs,x < 256) (hl:bs.length <= 100000000) (hne:∀ x,a = some x -> x.block < p /\ (0 < bs.length -> x.block + 1 = p)) (m':Nat) (hm:m' <= 8 * bs.length) (q:Nat) :
  RdM ((A.drewN q).setCell ⟨p,1,none⟩ (.int .i64 (m':Nat))) p bs m' /\ Only (fun b=>b = p) A ((A.drewN q).setCell ⟨p,1,none⟩ (.int .i64 (m':Nat))):=by
 refine ⟨⟨a,cap,(Zaaw (w:=A.drewN q) hc).2,?_,hb,hl,hm,hne⟩,?_⟩
 ·refine hr.same (by simp [World.setCell,World.drewN]) (fun x h0 hx=>?_)
  exact Below.heap_setCell (A.drewN q) ⟨p,1,none⟩ _ _ (Nat.ne_of_lt (hne x hx).1)
 ·exact (⟨rfl,rfl,rfl,Nat.le_refl _,fun _ _ _=>rfl⟩:Only (fun b=>b = p) A (A.drewN q)).setCell (.inl rfl) _
set_option maxRecDepth 100000 in
set_option maxHeartbeats 1600000 in
theorem Zhs (w:World) (p:Nat) (bs:List Nat) (at_:Nat) (h:RdM w p bs at_) :
  Calls Tryz.prog 18 #[.pointer (some ⟨p,0,none⟩)] w fun e w'=>e = .returned (.int .i64 ((8 * bs.length - at_:Nat):Int)) /\ ∃ q,w' = w.drewN q:=by
 obtain ⟨a,cap,hc,hr,hb,hl,ha,hne⟩:=h
 obtain ⟨c0,c1,_,_⟩:=Zdu hc
 have HV:Hid (Ending.returned (.int .i64 (8 * (bs.length:Int) - (at_:Int))) = Ending.returned (.int .i64 ((8 * bs.length - at_:Nat):Int))):=by
  unfold Hid;rw [show ((8 * bs.length - at_:Nat):Int) = 8 * (bs.length:Int) - (at_:Int) by omega]
 clear hc hr hb hne
 go_enter Tryz.func18,Tryz.ntmps18
 go_wp2_with fail
 go_quiet (fail)
 go_wp2
 go_ret
 exact ⟨HV.out,_,rfl⟩
set_option maxRecDepth 100000 in
set_option maxHeartbeats 1600000 in
theorem Zbv (w:World) (p:Nat) (bs:List Nat) (at_ n:Nat) (hn:n <= 32) (h:RdM w p bs at_) (hle:at_ + n <= 8 * bs.length) :
  Calls Tryz.prog 25 #[.pointer (some ⟨p,0,none⟩),.int .i64 (n:Nat)] w fun e w'=>e = .returned (.tuple #[.int .u32 (numH (rv bs) at_ n:Nat),.int .i64 0]) /\ RdM w' p bs (at_ + n) /\ Only (fun b=>b = p) w w':=by
 have HL:=Zh (Zhs w p bs at_ h)
 have t1:decide ((n:Int) < 0) = false:=by simp
 have t2:decide ((32:Int) < (n:Int)) = false:=by simp;omega
 have t3:decide (((8 * bs.length - at_:Nat):Int) < (n:Int)) = false:=by simp;omega
 have H:=Zh h
 have HLE:=Zh hle
 clear h hle
 go_enter Tryz.func25,Tryz.ntmps25
 go_wp2_with fail
 refine HL.out.mono ?_
 rintro e w1 ⟨rfl,q,rfl⟩
 generalize hd:((8 * bs.length - at_:Nat):Int) = lf at *
 clear HL hd
 go_wp2_with fail
 go_loopw [6,24] (fun v i A=>∃ k:Nat,k <= n /\ i = .int .i64 k /\ v = .int .u32 (numH (rv bs) at_ k:Nat) /\ RdM A p bs (at_ + k) /\ Only (fun b=>b = p) w A) (fun _ i _=>n - (intOf i).toNat)
 case atStart=>exact ⟨0,by omega,rfl,rfl,H.out,⟨rfl,rfl,rfl,Nat.le_refl _,fun _ _ _=>rfl⟩⟩
 case round =>
  obtain ⟨k,hk,rfl,rfl,hrd,honly⟩:=hrel
  have HON:=Zh honly
  clear honly
  by_cases hlt:k < n
  ·have hle:=HLE.out
   obtain ⟨a,cap,hc,hr,hb,hl,ha,hne⟩:=hrd
   obtain ⟨c0,c1,d0,d1⟩:=Zdu hc
   have hil:(at_ + k) / 8 < bs.length:=by omega
   obtain ⟨bl,off,rfl,hbl,hck⟩:=hr.at hil
   have hx:=hb _ (List.getElem_mem hil)
   have hbit:bit (rv bs) (at_ + k) = bs[(at_ + k) / 8] / 2 ^ (7 - (at_ + k) % 8) % 2:=by
    rw [Zabf bs hb _ (by omega)];simp [hil]
   have HNUM:=Zh (show numH (rv bs) at_ (k + 1) = 2 * numH (rv bs) at_ k + bit (rv bs) (at_ + k) from rfl)
   have hnl:=Zbk (rv bs) at_ k
   have HB:=Zh hb
   have HC:=Zh hc
   have HR:=Zh hr
   have HNE:=Zh hne
   have HAT:=Zh (show at_ + k + 1 = at_ + (k + 1) from rfl)
   have hmle:at_ + k + 1 <= 8 * bs.length:=by omega
   generalize hm:at_ + k = m at *
   clear hb hc hr hne hle ha HLE
   generalize bs[m / 8] = x at *
   obtain ⟨t,ht⟩:∃ t,m / 8 = t:=⟨_,rfl⟩
   obtain ⟨r,hr8⟩:∃ r,m % 8 = r:=⟨_,rfl⟩
   rw [ht] at hck hil
   rw [hr8] at hbit
   have hq1:(m:Int) / 8 = (t:Int):=by omega
   have hq2:(m:Int) % 8 = (r:Int):=by omega
   have hr7:r < 8:=by omega
   obtain ⟨s,hs⟩:∃ s,7 - r = s:=⟨_,rfl⟩
   rw [hs] at hbit
   have hq3:IntKind.i64.wrap (7 - (r:Int)) = (s:Int):=by rw [IntWalk.i64_in _ (by omega)];omega
   have hq4:(7:Int) - (r:Int) = (s:Int):=by omega
   have hs8:s < 8:=by omega
   have hml:m <= 800000000:=by omega
   have hti:(t:Int) < (bs.length:Int):=by omega
   clear ht hr8 hm hs
   go_wp2_with fail
   go_quiet (fail)
   simp only [Zzg x s hx]
   rw [<- hbit]
   have hbv:=Zdy (rv bs) m
   generalize bit (rv bs) m = bv at *
   have HOR:=Zh (Zaaf _ bv k hnl hbv (by omega))
   generalize numH (rv bs) at_ k = v at *
   have hc1':(wr.drewN nq).cell? ⟨p,1,none⟩ = some (.int .i64 (m:Nat)):=c1
   have hd1':(wr.drewN nq).frozen? ⟨p,1,none⟩ = false:=d1
   clear c0 c1 d0 d1 hck hq1 hq2 hq3 hq4 hbit hbv hnl
   go_wp2
   go_roundw
   case rel =>
    obtain ⟨k1,k2⟩:=Zpe HC.out HR.out HB.out hl HNE.out (m + 1) hmle nq
    rw [show ((m + 1:Nat):Int) = (m:Int) + 1 by simp] at k1 k2
    exact ⟨k + 1,by omega,by go_num,by rw [HOR.out,HNUM.out],by rw [<- HAT.out];exact k1,HON.out.trans k2⟩
   case measure=>simp [intOf];omega
  ·obtain rfl:k = n:=by omega
   have HRD:=Zh hrd
   clear hrd
   go_wp2
   go_ret2
   exact ⟨rfl,HRD.out,HON.out⟩
set_option maxRecDepth 100000 in
theorem Zas (w:World) (p:Nat) (bs:List Nat) (at_ n:Nat) (hn:n <= 32) (h:RdM w p bs at_) (hle:8 * bs.length < at_ + n) :
  Calls Tryz.prog 25 #[.pointer (some ⟨p,0,none⟩),.int .i64 (n:Nat)] w fun e w'=>e = .returned (.tuple #[.int .u32 0,.int .i64 2]) /\ ∃ q,w' = w.drewN q:=by
 have HL:=Zh (Zhs w p bs at_ h)
 have hat:at_ <= 8 * bs.length:=by obtain ⟨_,_,_,_,_,_,ha,_⟩:=h;exact ha
 have t1:decide ((n:Int) < 0) = false:=by simp
 have t2:decide ((32:Int) < (n:Int)) = false:=by simp;omega
 have t3:decide (((8 * bs.length - at_:Nat):Int) < (n:Int)) = true:=by simp;omega
 clear h hle
 go_enter Tryz.func25,Tryz.ntmps25
 go_wp2_with fail
 refine HL.out.mono ?_
 rintro e w1 ⟨rfl,q,rfl⟩
 generalize hd:((8 * bs.length - at_:Nat):Int) = lf at *
 clear HL hd
 go_wp2
 go_ret2
 exact ⟨rfl,q,rfl⟩
theorem Zlf (w:World) (x:Addr) (cap:Nat) (l:List Nat) (hr:RowN .u8 w (some x) cap l) (hl:l.length <= 100000000) (ty:TypeId):∃ a' c' w',(Builtin.append_ #[22,22] ty #[.slice (some ⟨w.heap.size,0,none⟩) 0 0,.slice (some x) l.length cap]).run Tryz.prog (w.alloc (.cells #[] 5)) = .ok (.slice a' l.length c') w' ∧
  OwnN 5 .u8 w' w.heap.size a' c' l /\ Below w.heap.size w w' /\ ∀ y,a' = some y -> 0 < l.length -> y.block + 1 = w'.heap.size:=by
 obtain ⟨i,h2,h3,h4,h5⟩:=info_parts Zaz.info
 have hr2:=hr.below ((Below.refl w.heap.size w).alloc (Nat.le_refl _) (.cells #[] 5))
 have hcl:=Zbi hr2 _ rfl
 have hone:∀ u ∈ (l.map fun (n:Nat)=>Value.int .u8 n),u.oneCell' = true:=by intro u hu;simp only [List.mem_map] at hu;obtain ⟨n,_,rfl⟩:=hu;rfl
 obtain ⟨v',w',hrn,h6,h7,h8⟩:=run_append_own (P:=Tryz.prog) (w.alloc (.cells #[] 5)) w.heap.size 22 ty 5 i (.int .u8 0) 1 1 Zaz.und h2 h3 h4 h5 rfl (by decide) _ 0 _ (OwnN.lit0 (k:=.u8) _ _ _ (Nat.le_refl _)) x l.length cap (l.map fun (n:Nat)=>Value.int .u8 n) (by simp)
  hcl hone (by simp [maxLen];omega) (by omega) (by simp)
 have hv:∃ a' cap',v' = .slice a' l.length cap':=by
  rcases h6.2 with ⟨h9,h10⟩ | ⟨g,c',cur,h9,_⟩
  ·exact ⟨none,0,by rw [h9];simp at h10;rw [h10];rfl⟩
  ·exact ⟨_,_,by rw [h9,Nat.zero_add]⟩
 obtain ⟨a',cap',rfl⟩:=hv
 refine ⟨a',cap',w',hrn,?_,?_,?_⟩
 ·unfold OwnN;simpa using h6
 ·refine ((Below.refl w.heap.size w).alloc (Nat.le_refl _) _).trans (Below.of_grown h7 (by simp) (by intro g hg;simp [Value.ownBlock] at hg;omega))
 ·rintro y rfl h0
  have hg:=run_append_grow (P:=Tryz.prog) (w.alloc (.cells #[] 5)) 22 ty 5 i (.int .u8 0) Zaz.und h2 h3 ⟨w.heap.size,0,none⟩ 0 0 [] (by simp) (by simp) x l.length cap (l.map fun (n:Nat)=>Value.int .u8 n) (by rw [h4];simp) hcl (by omega) (by omega) (growslice_fits (by omega) (by rw [h5];omega))
  replace hg:=hrn.symm.trans hg
  simp only [Result.ok.injEq,Value.slice.injEq,Option.some.injEq] at hg
  obtain ⟨⟨rfl,_⟩,rfl⟩:=hg
  simp
theorem Zzh {P:Program} {T:TypeId} {w w':World} {ops:Array Oper} {rest:List Oper} {o:Oper} {ac:Act} {Q:Exit -> Act -> World -> Prop} (hgd:o.guard = none) (s x:Operand)
  (ho:o.op = .call { callee:=.builtin .append,args:=#[s,x],argTypes:=#[T,T] }) {v u v':Value} (hs:ac.eval s = v) (hx:ac.eval x = u) (hr:(Builtin.append_ #[T,T] o.type #[v,u]).run P w = .ok v' w')
  (h:wpList P ops Q rest (ac.put o.dst v') w'):wpList P ops Q (o :: rest) ac w:=by
 refine wpList_plain (by assumption) fun K hK'=>?_
 unfold Oper.wp
 simp [execOp,ho,resolve,invoke,builtin,hs,hx,hr,Result.andThen]
 exact hK' _ _ h
set_option maxRecDepth 100000 in
theorem Zla (w:World) (a:Option Addr) (cap:Nat) (l:List Nat) (hr:RowN .u8 w a cap l) (hl:l.length <= 100000000) :
  Calls Tryz.prog 32 #[.slice a l.length cap] w fun e w'=>∃ a' c',e = .returned (.slice a' l.length c') /\ OwnN 5 .u8 w' w.heap.size a' c' l /\ Below w.heap.size w w' /\ ∀ y,a' = some y -> 0 < l.length -> y.block + 1 = w'.heap.size:=by
 by_cases ha:a = none
 ·subst ha
  have h0:cap = 0:=hr.2.1.2 rfl
  subst h0
  have hl0:l = []:=List.eq_nil_of_length_eq_zero (by have:=hr.1;omega)
  subst hl0
  clear hr
  go_enter Tryz.func32,Tryz.ntmps32
  go_wp2_with fail
  rw [eqNilT]
  go_wp2
  go_ret
  exact ⟨none,0,rfl,OwnN.nil _ _ _ _,Below.refl _ _,fun y h=>by cases h⟩
 ·obtain ⟨x,rfl⟩:=Option.ne_none_iff_exists'.1 ha
  clear ha
  by_cases h0:0 < l.length
  case neg=>exact (Zhj w _ cap l hr hl).mono fun e w' ⟨a',c',h1,h2,h3⟩=>⟨a',c',h1,h2,h3,fun y _ h=>absurd h h0⟩
  obtain ⟨a1,c1,w1,hrun,ho,hb,hy⟩:=Zlf w x cap l hr hl 22
  have HO:=Zh ho
  have HB:=Zh hb
  have HY:=Zh hy
  clear ho hb hy hr
  go_enter Tryz.func32,Tryz.ntmps32
  go_wp2_with fail
  rw [eqNilF]
  go_wp2_with (at_builtin;refine Zzh rfl (.tmp 5) (.tmp 6) rfl rfl rfl hrun ?_)
  go_ret
  exact ⟨a1,c1,rfl,HO.out,HB.out,HY.out⟩
theorem Zaab (w:World) (a:Option Addr) (cap:Nat) (l:List Nat) (hr:RowN .u8 w a cap l) (hb:∀ x ∈ l,x < 256) (hl:l.length <= 100000000) :
  Calls Tryz.prog 17 #[.slice a l.length cap] w fun e w'=>∃ p,e = .returned (.pointer (some ⟨p,0,none⟩)) /\ RdM w' p l 0 /\ Below w.heap.size w w' /\ w.heap.size <= p:=by
 go_enter Tryz.func17,Tryz.ntmps17
 go_wp2_with fail
 refine (Zla _ _ _ _ hr hl).mono ?_
 rintro e w1 ⟨a1,c1,rfl,ho,hbw,hy⟩
 have HY:=Zh hy
 have HO:=Zh ho
 have HB:=Zh hbw
 clear ho hbw hy
 go_wp2
 go_ret
 refine ⟨w1.heap.size,rfl,⟨a1,c1,World.alloc_heap_new _ _,(HO.out.alloc _).row,hb,hl,by omega,fun x hx=>⟨?_,fun h0=>HY.out x hx h0⟩⟩,HB.out.alloc HB.out.size _,HB.out.size⟩
 rcases HO.out.form with ⟨h1,_⟩ | ⟨g,h1,_,h2⟩
 ·rw [h1] at hx;cases hx
 ·rw [h1] at hx;cases hx;exact h2
theorem Zlu (w:World) (p:Nat) (bs:List Nat) (at_:Nat) (h:RdM w p bs at_) :
  Calls Tryz.prog 26 #[.pointer (some ⟨p,0,none⟩)] w fun e w'=>e = .returned (.tuple #[]) /\ RdM w' p bs ((at_ + 7) / 8 * 8) /\ Only (fun b=>b = p) w w':=by
 obtain ⟨a,cap,hc,hr,hb,hl,ha,hne⟩:=h
 obtain ⟨c0,c1,d0,d1⟩:=Zdu hc
 obtain ⟨m,hm⟩:∃ m,(at_ + 7) / 8 * 8 = m:=⟨_,rfl⟩
 have hm2:((at_:Int) + 7) / 8 * 8 = (m:Int):=by omega
 have HR:=Zh (Zpe hc hr hb hl hne m (by omega) 0)
 rw [hm]
 clear hc hr hb hne hm
 go_enter Tryz.func26,Tryz.ntmps26
 go_wp2
 (try simp only [hm2])
 go_end0
 exact ⟨rfl,HR.out⟩
end Go.Proofs.YtnkpnjnfddjfpaaGreat

namespace Go.Proofs.YtnkpnjnfddjfpaaGreat
open Go.RowKit Go.Shelf M01 M02 M04 M06 M10
theorem RdM.lt {w:World} {p at_:Nat} {bs:List Nat} (h:RdM w p bs at_):p < w.heap.size:=by
 obtain ⟨a,cap,h1,h2,h3⟩:=h
 exact (Array.getElem?_eq_some_iff.1 h1).1
theorem RdM.only {T:Nat -> Prop} {w w':World} {p at_:Nat} {bs:List Nat} (h:RdM w p bs at_) (ho:Only T w w') (hT:∀ b,b <= p -> ¬ T b):RdM w' p bs at_:=by
 have hlt:=h.lt
 obtain ⟨a,cap,h1,h2,h3,h4,h5,h6⟩:=h
 exact ⟨a,cap,(ho.block p hlt (hT p (Nat.le_refl _))).trans h1,h2.same ho.size (fun x _ hx=>ho.block _ (by have:=h6 x hx;omega) (hT _ (by have:=h6 x hx;omega))),h3,h4,h5,h6⟩
theorem RdM.only2 {T:Nat -> Prop} {w w':World} {p at_:Nat} {bs:List Nat} (h:RdM w p bs at_) (ho:Only T w w') (h1:¬ T p) (h2:∀ b,b + 1 = p -> ¬ T b):RdM w' p bs at_:=by
 have hlt:=h.lt
 obtain ⟨a,cap,g1,g2,g3,g4,g5,g6⟩:=h
 exact ⟨a,cap,(ho.block p hlt h1).trans g1,g2.same ho.size (fun x h0 hx=>ho.block _ (by have:=(g6 x hx).1;omega) (h2 _ ((g6 x hx).2 h0))),g3,g4,g5,g6⟩
theorem RdM.below {w w':World} {p at_:Nat} {bs:List Nat} (h:RdM w p bs at_) (hb:Below w.heap.size w w'):RdM w' p bs at_:=by
 obtain ⟨a,cap,h1,h2,h3⟩:=h
 refine ⟨a,cap,?_,h2.below hb,h3⟩
 have hlt:p < w.heap.size:=(Array.getElem?_eq_some_iff.1 h1).1
 exact (hb.block p hlt).trans h1
theorem RdM.belowAt {w w':World} {p at_ n:Nat} {bs:List Nat} (h:RdM w p bs at_) (hb:Below n w w') (hp:p < n):RdM w' p bs at_:=by
 obtain ⟨a,cap,h1,h2,h3,h4,h5,h6⟩:=h
 exact ⟨a,cap,(hb.block p hp).trans h1,h2.same hb.size (fun x _ hx=>hb.block _ (by have:=h6 x hx;omega)),h3,h4,h5,h6⟩
theorem Zpx (w1:World) (nb:Nat) (u v:Value) (t:TypeId) :
  (((w1.setCell ⟨nb,0,none⟩ u).setCell ⟨nb,1,none⟩ v).alloc (.cells #[u,v] t)).heap[w1.heap.size]? = some (.cells #[u,v] t (0,0)) /\ Only (fun b=>b = nb) w1 (((w1.setCell ⟨nb,0,none⟩ u).setCell ⟨nb,1,none⟩ v).alloc (.cells #[u,v] t)):=by
 refine ⟨?_,(((Only.refl (fun b=>b = nb) w1).setCell (p:=⟨nb,0,none⟩) (.inl rfl) u).setCell (p:=⟨nb,1,none⟩) (.inl rfl) v).alloc _⟩
 have:=World.alloc_heap_new ((w1.setCell ⟨nb,0,none⟩ u).setCell ⟨nb,1,none⟩ v) (.cells #[u,v] t)
 simpa [World.setCell] using this
theorem Zxs (x b k:Nat) (hx:x < 2 ^ k) (hb:b < 2) (hk:k <= 20):bits .or .u32 ((x:Int) * 2 % 4294967296) (b:Int) = ((2 * x + b:Nat):Int):=by
 have hp:2 ^ k <= 2 ^ 20:=Nat.pow_le_pow_right (by decide) hk
 have h1:((x:Int) * 2 % 4294967296) = ((2 * x:Nat):Int):=by omega
 rw [h1,Zid (2 * x) b (by omega) (by omega)]
 have h2:=Zyy b x 1 (by omega)
 rw [Nat.or_comm,Nat.mul_comm 2 x]
 have h3:x * 2 ^ 1 = x * 2:=rfl
 rw [h3] at h2
 rw [h2,Nat.add_comm]
theorem RdM.drewN {w:World} {p at_:Nat} {bs:List Nat} (h:RdM w p bs at_) (q:Nat):RdM (w.drewN q) p bs at_:=h
theorem World.cell?_ltH {w:World} {a:Addr} {v:Value} (h:w.cell? a = some v):a.block < w.heap.size:=by
 unfold World.cell? at h
 rcases Nat.lt_or_ge a.block w.heap.size with h1 | h1
 ·exact h1
 ·rw [Array.getElem?_eq_none h1] at h
  simp at h
def SymOutH (rp:Nat) (bs:List Nat) (R:Option (Nat × Nat)) (e:Ending) (w':World):Prop :=
 match R with
 | some (s,at2)=>e = .returned (.tuple #[.int .i64 (s:Nat),.int .i64 0]) /\ RdM w' rp bs at2
 | none=>e = .returned (.tuple #[.int .i64 0,.int .i64 2])
def wordKH (A:World) (c:Value):Nat :=
 match c with
 | .pointer (some a)=>match A.cell? ⟨a.block,1,none⟩ with
  | some v=>(intOf v).toNat
  | none=>0
 | _=>0
theorem Znb {A:World} {nb x k:Nat} (h:A.heap[nb]? = some (.cells #[.int .u32 (x:Nat),.int .u8 (k:Nat)] 192 (0,0))):wordKH A (.pointer (some ⟨nb,0,none⟩)) = k:=by
 unfold wordKH
 simp only [(Zdm h).2]
 simp [intOf]
set_option maxRecDepth 100000 in
set_option maxHeartbeats 1600000 in
theorem Znu (w:World) (lo hi p rp:Nat) (l bs:List Nat) (at_:Nat) (h20:∀ x ∈ l,x <= 20) (hT:Tb lo hi w p l) (hR:RdM w rp bs at_) (hrp:rp < lo \/ hi <= rp) :
  Calls Tryz.prog 128 #[.pointer (some ⟨p,0,none⟩),.pointer (some ⟨rp,0,none⟩),.func (Fn.func 25) #[.pointer (some ⟨rp,0,none⟩)] #[]] w fun e w' =>
   Only (fun b=>b = rp) w w' /\ SymOutH rp bs (sym l (rv bs) at_) e w':=by
 have HT:=Zh hT
 have HR:=Zh hR
 have HG:=Zh (Zor l h20)
 have HRP:=Zh hrp
 clear hT hR h20 hrp
 unfold sym
 obtain ⟨R,hR0⟩:∃ R,R = decF (tabOf l) (rv bs) 22 0 0 at_:=⟨_,rfl⟩
 rw [<- hR0]
 have HR0:=Zh hR0
 clear hR0
 go_enter Tryz.func128,Tryz.ntmps128
 go_wp2_with fail
 have HN:=Zh (World.alloc_heap_new w (.cells #[.int .u32 0,.int .u8 0] 192))
 go_loopw [8,9,10,11,12] (fun c _ _ _ _ A=>∃ x k at2 f nb:Nat,c = .pointer (some ⟨nb,0,none⟩) /\ A.heap[nb]? = some (.cells #[.int .u32 (x:Nat),.int .u8 (k:Nat)] 192 (0,0)) /\ w.heap.size <= nb /\ RdM A rp bs at2 /\ Only (fun b=>b = rp) w A /\ x < 2 ^ k /\ k <= 21 /\ f + k = 22 /\ R = decF (tabOf l) (rv bs) f x k at2) (fun c _ _ _ _ A=>22 - wordKH A c)
 case atStart=>exact ⟨0,0,at_,22,w.heap.size,rfl,HN.out,Nat.le_refl _,HR.out.below (Zai w _),(Only.refl _ w).alloc _,by decide,by decide,rfl,HR0.out⟩
 case round =>
  obtain ⟨x,k,at2,f,nb,rfl,hc,hnb,hrd,hon,hx,hk,hf,he⟩:=hrel
  have HWK:=Zh (Znb hc)
  obtain ⟨c0,c1,d0,d1⟩:=Zdu hc
  have hT:=HT.out.only hon (fun b h1 h2 e=>by subst e;have:=HRP.out;omega)
  obtain ⟨a1,n1,a2,n2,mb,n,hp,_,_,hM,_⟩:=hT
  have hpt:wr.cell? ⟨p,2,none⟩ = some (.map (some mb)):=cells3' hp
  have hx32:x < 4294967296:=Nat.lt_of_lt_of_le hx (Nat.le_trans (Nat.pow_le_pow_right (by decide) hk) (by decide))
  have hL:∀ q,(Instr.lookup 188 (.map (some mb)) (.agg #[.int .u32 (x:Nat),.int .u8 (k:Nat)]) true).run Tryz.prog (wr.drewN q) = .ok (.tuple #[.int .i64 ((tabOf l x k).getD 0),.bool (tabOf l x k).isSome]) (wr.drewN q):=fun q=>(hM.same rfl:MapF (wr.drewN q) mb n (tabOf l)).look x k hx32 (by omega)
  have HE:=Zh he
  have HRD:=Zh hrd
  have HON:=Zh hon
  have HX:=Zh hx
  clear hp hM he hrd hon hx hc
  have hgd:=HG.out x k
  obtain ⟨f,rfl⟩:∃ f',f = f' + 1:=⟨f - 1,by omega⟩
  unfold decF at HE
  generalize tabOf l x k = r at *
  rcases r with _ | v
  ·clear hgd
   simp only [Option.getD_none,Option.isSome_none] at hL
   go_wp2_with fail
   go_quiet (fail)
   go_wp2
   go_ret2
   rw [HE.out]
   exact ⟨HON.out.trans (Zah _ _ _),rfl⟩
  ·obtain ⟨hk20,hv⟩:=hgd v rfl
   clear hgd
   simp only [Option.getD_some,Option.isSome_some] at hL
   rcases hv with rfl | ⟨s,rfl,hs⟩
   ·have HRP1:=HRD.out.lt
    have hrpw:rp < w.heap.size:=HR.out.lt
    by_cases hlt:at2 + 1 <= 8 * bs.length
    ·have HGET:=fun q=>Zbv (wr.drewN q) rp bs at2 1 (by decide) (HRD.out.drewN q) hlt
     have HE2:Hid (R = decF (tabOf l) (rv bs) f (2 * x + bit (rv bs) at2) (k + 1) (at2 + 1)):=by
      unfold Hid
      have:=HE.out
      simpa [hlt,Zba] using this
     have hnum:numH (rv bs) at2 1 = bit (rv bs) at2:=by simp [numH]
     simp only [hnum] at HGET
     have HGET:=Zh HGET
     have hbl:=Zdy (rv bs) at2
     have HLT:=Zh hlt
     clear HE hlt hnum HT HG
     generalize hbe:bit (rv bs) at2 = b at *
     clear hbe
     go_wp2_with fail
     go_quiet (fail)
     go_wp2_with fail
     refine (HGET.out _).mono ?_
     rintro e w1 ⟨rfl,hrd1,hon1⟩
     have c0':w1.cell? ⟨nb,0,none⟩ = some (.int .u32 (x:Nat)):=(World.cell?_of_block (a:=⟨nb,0,none⟩) (hon1.block nb (World.cell?_ltH c0) (by show nb ≠ rp;omega))).trans c0
     have c1':w1.cell? ⟨nb,1,none⟩ = some (.int .u8 (k:Nat)):=(World.cell?_of_block (a:=⟨nb,1,none⟩) (hon1.block nb (World.cell?_ltH c0) (by show nb ≠ rp;omega))).trans c1
     have d0':w1.frozen? ⟨nb,0,none⟩ = false:=(World.frozen?_of_block (a:=⟨nb,0,none⟩) (hon1.block nb (World.cell?_ltH c0) (by show nb ≠ rp;omega))).trans d0
     have d1':w1.frozen? ⟨nb,1,none⟩ = false:=(World.frozen?_of_block (a:=⟨nb,1,none⟩) (hon1.block nb (World.cell?_ltH c0) (by show nb ≠ rp;omega))).trans d1
     have hor:=Zxs x b k HX.out hbl hk20
     have HRD1:=Zh hrd1
     have HON1:=Zh ((HON.out.trans (Zah _ _ _)).trans hon1)
     clear hrd1 hon1 c0 c1 d0 d1 hL HON HRD
     go_wp2_with fail
     have hq1:(2 * (x:Int) + (b:Int)) = ((2 * x + b:Nat):Int):=by omega
     have hq2:((k:Int) + 1) = ((k + 1:Nat):Int):=by omega
     rw [hq1,hq2,HWK.out]
     obtain ⟨g1,g2⟩:=Zpx w1 nb (.int .u32 ((2 * x + b:Nat):Int)) (.int .u8 ((k + 1:Nat):Int)) 192
     generalize ((w1.setCell ⟨nb,0,none⟩ (.int .u32 ((2 * x + b:Nat):Int))).setCell ⟨nb,1,none⟩ (.int .u8 ((k + 1:Nat):Int))).alloc (.cells #[.int .u32 ((2 * x + b:Nat):Int),.int .u8 ((k + 1:Nat):Int)] 192) = W at *
     have hb1:Below w.heap.size w1 W:=⟨g2.os,g2.tape,g2.output,g2.size,fun b' hb'=>g2.block b' (by have:=HON1.out.size;omega) (by show b' ≠ nb;omega)⟩
     rw [Znb g1]
     have hpow:2 * x + b < 2 ^ (k + 1):=by have:=HX.out;rw [Nat.pow_succ];omega
     have hws:=HON1.out.size
     exact ⟨⟨2 * x + b,k + 1,at2 + 1,f,w1.heap.size,rfl,g1,hws,HRD1.out.belowAt hb1 hrpw,⟨hb1.os.trans HON1.out.os,hb1.tape.trans HON1.out.tape,hb1.output.trans HON1.out.output,Nat.le_trans hws hb1.size,fun b' hb' hn=>(hb1.block b' hb').trans (HON1.out.block b' hb' hn)⟩,hpow,by omega,by omega,HE2.out⟩,by omega⟩
    ·have HGET:=fun q=>Zas (wr.drewN q) rp bs at2 1 (by decide) (HRD.out.drewN q) (by omega)
     have HE2:Hid (R = none):=by
      unfold Hid
      have:=HE.out
      simpa [hlt,Zba] using this
     have HGET:=Zh HGET
     clear HE hlt HT HG
     go_wp2_with fail
     go_quiet (fail)
     go_wp2_with fail
     refine (HGET.out _).mono ?_
     rintro e w1 ⟨rfl,q,rfl⟩
     go_wp2
     go_ret2
     rw [HE2.out]
     exact ⟨HON.out.trans (Zah _ _ _),rfl⟩
   ·clear hs
    have HE2:Hid (R = some (s,at2)):=by
     unfold Hid
     have:=HE.out
     simpa using this
    have t1:decide ((0:Int) <= (s:Int)) = true:=by simp
    clear HE HT HG
    go_wp2_with fail
    go_quiet (fail)
    go_wp2
    go_ret2
    rw [HE2.out]
    exact ⟨HON.out.trans (Zah _ _ _),rfl,HRD.out.drewN _⟩
theorem Zjj (w:World) (lo hi p rp:Nat) (l bs:List Nat) (at_:Nat) (h20:∀ x ∈ l,x <= 20) (hT:Tb lo hi w p l) (hR:RdM w rp bs at_) (hrp:rp < lo \/ hi <= rp) :
  Calls Tryz.prog 82 #[.pointer (some ⟨p,0,none⟩),.pointer (some ⟨rp,0,none⟩)] w fun e w' =>
   Only (fun b=>b = rp) w w' /\ SymOutH rp bs (sym l (rv bs) at_) e w':=by
 have HP:=Zh (Znu w lo hi p rp l bs at_ h20 hT hR hrp)
 have hmf:∀ (fn:Fn) (first cap:Array Value) (w:World),(Instr.makeFunc fn first cap).run Tryz.prog w = .ok (.func fn first cap) w:=fun _ _ _ _=>rfl
 clear h20 hT hR hrp
 generalize sym l (rv bs) at_ = R at *
 go_enter Tryz.func82,Tryz.ntmps82
 go_wp2_with fail
 refine HP.out.mono ?_
 rintro e w1 ⟨hon,hs⟩
 have HON:=Zh hon
 clear hon HP
 rcases R with _ | ⟨s,at2⟩
 ·obtain rfl:e = _:=hs
  go_wp2
  go_ret2
  exact ⟨HON.out,rfl⟩
 ·obtain ⟨rfl,hrd⟩:e = _ /\ _:=hs
  have HRD:=Zh hrd
  clear hrd
  go_wp2
  go_ret2
  exact ⟨HON.out,rfl,HRD.out⟩
end Go.Proofs.YtnkpnjnfddjfpaaGreat
