/- The reference of layer 13: Rotation, Order: contracts. The reference of layer 21: Turn: contract. Contracts of package msb: a reader. prefix.get, GetHigh: contracts. pick.Get: contract. tables.must, the deferred closures of tables.lengths and tables.chosen: contracts. tables.lengths, GetLengths: contracts. -/
import Derived.Test.YtnkpnjnfddjfpaaW01
import Derived.Test.YtnkpnjnfddjfpaaW03
import Derived.Test.YtnkpnjnfddjfpaaW02
set_option linter.unusedVariables false
set_option linter.unusedSimpArgs false
namespace Go.Proofs.Ytnkpnjnfddjfpaa
open Go.RowKit M01 M02 M10
def rotL (l:List Nat) (i:Nat):List Nat:=l.drop i ++ l.take i
theorem OwnN.take {E:TypeId} {k:IntKind} {w:World} {base:Nat} {a:Option Addr} {cap:Nat} {l:List Nat} (h:OwnN E k w base a cap l) (n:Nat) (hn:n <= l.length):OwnN E k w base a cap (l.take n):=by
 obtain ⟨h1,h2⟩:=h
 have e:(l.take n).length = n:=by rw [List.length_take];omega
 refine ⟨by simp,?_⟩
 rw [e]
 rcases h2 with ⟨h3,h4⟩ | ⟨g,c,cur,h3,h4,h5,h6,h7,h8,h9⟩
 ·simp only [Value.slice.injEq] at h3
  left
  have:n = 0:=by omega
  subst this
  simp [h3]
 ·simp only [Value.slice.injEq] at h3
  obtain ⟨rfl,_,rfl⟩:=h3
  refine .inr ⟨g,cap,cur,rfl,h4,h5,by omega,h7,h8,?_⟩
  rw [Nat.mul_one] at h9 ⊢
  rw [List.map_take,<- h9,List.take_take,Nat.min_eq_left hn]
theorem Zly (a:Option Addr) (cap:Nat) (l:List Nat) (i:Nat) (w:World) (hr:RowN .u8 w a cap l) (hi:i < l.length) (hl:l.length <= 100000) :
  Calls Try.prog 127 #[.slice a l.length cap,.int .i64 (i:Nat)] w fun e w'=>e = .returned (.string (strOf (rotL l i))) /\ ∃ m,w' = w.drewN m:=by
 have hcap:=hr.1
 have hcap2:=hr.2.1.1
 obtain ⟨b,off,rfl,hb,_⟩:=hr.at hi
 have hcv1:∀ q,(convert 22 9 (.slice (some ⟨b,off + i,none⟩) (l.length - i) (cap - i))).run Try.prog (w.drewN q) = .ok (.string (strOf (l.drop i))) (w.drewN q):=fun q=>Zey Try.underlying22 Try.underlying5 Try.underlying9 (by rw [List.length_drop]) (show RowN .u8 (w.drewN q) _ _ _ from Zcc hr i (by omega) (by omega))
 have hcv2:∀ q,(convert 22 9 (.slice (some ⟨b,off,none⟩) i cap)).run Try.prog (w.drewN q) = .ok (.string (strOf (l.take i))) (w.drewN q):=fun q=>Zey Try.underlying22 Try.underlying5 Try.underlying9 (by rw [List.length_take];omega) (Zie (w:=w.drewN q) hr i)
 have happ:strOf (l.drop i) ++ strOf (l.take i) = strOf (rotL l i):=(Zgv _ _).symm
 have hsz:¬ (9223372036854775807 < (strOf (l.drop i)).size + (strOf (l.take i)).size):=by rw [Zcz,Zcz,List.length_drop,List.length_take];omega
 obtain ⟨n,hn⟩:∃ n,l.length = n:=⟨_,rfl⟩
 rw [hn] at hcap hi hcv1 ⊢
 obtain ⟨s,hs⟩:∃ s,strOf (l.drop i) = s:=⟨_,rfl⟩
 obtain ⟨t,ht⟩:∃ t,strOf (l.take i) = t:=⟨_,rfl⟩
 rw [hs] at hcv1 happ hsz
 rw [ht] at hcv2 happ hsz
 obtain ⟨u,hu⟩:∃ u,strOf (rotL l i) = u:=⟨_,rfl⟩
 rw [hu] at happ ⊢
 clear hr hl hn hs ht hu
 have hni:(n:Int) - (i:Int) = ((n - i:Nat):Int):=by omega
 have hci:(cap:Int) - (i:Int) = ((cap - i:Nat):Int):=by omega
 have k1:(i:Int) <= (n:Int):=by omega
 have k2:(i:Int) <= (cap:Int):=by omega
 have k3:i <= n:=by omega
 have k4:i <= cap:=by omega
 have k5:i < cap:=by omega
 go_enter Try.func127,Try.ntmps127
 go_wp2_with fail
 go_quiet (fail)
 go_wp2
 go_ret
 exact ⟨rfl,_,rfl⟩
def strGt (x y:List Nat):Bool:=!(Op.bytesLess (strOf x).toList (strOf y).toList || (strOf x).toList == (strOf y).toList)
def posO (l o:List Nat) (i:Nat):Nat:=o.findIdx fun x=>strGt (rotL l x) (rotL l i)
def insO (l o:List Nat) (i:Nat):List Nat:=o.take (posO l o i) ++ i :: o.drop (posO l o i)
def ordG (l:List Nat):Nat -> List Nat
 | 0=>[]
 | i + 1=>insO l (ordG l i) i
theorem Zyr (l o:List Nat) (i:Nat):posO l o i <= o.length:=List.findIdx_le_length
theorem Zca (l o:List Nat) (i:Nat):(insO l o i).length = o.length + 1:=by
 have:=Zyr l o i
 unfold insO
 simp
 omega
theorem Zef (l:List Nat):∀ i,(ordG l i).length = i
 | 0=>rfl
 | i + 1=>by unfold ordG;rw [Zca,Zef l i]
theorem Zgf (l:List Nat):∀ i x,x ∈ ordG l i -> x < i
 | 0,x,h=>by cases h
 | i + 1,x,h=>by
  unfold ordG insO at h
  rcases List.mem_append.1 h with h | h
  ·have:=Zgf l i x (List.mem_of_mem_take h);omega
  ·rcases List.mem_cons.1 h with h | h
   ·omega
   ·have:=Zgf l i x (List.mem_of_mem_drop h);omega
theorem Zyq {l o:List Nat} {i k:Nat} (hk:k < o.length) (h1:∀ j (h:j < o.length),j < k -> strGt (rotL l o[j]) (rotL l i) = false) (h2:strGt (rotL l o[k]) (rotL l i) = true):posO l o i = k:=by
 unfold posO
 rw [List.findIdx_eq hk]
 exact ⟨h2,fun j hj=>h1 j (by omega) hj⟩
theorem Zwl {l o:List Nat} {i:Nat} (h1:∀ j (h:j < o.length),strGt (rotL l o[j]) (rotL l i) = false):posO l o i = o.length:=by
 unfold posO
 rw [List.findIdx_eq_length]
 intro x hx
 obtain ⟨j,hj,rfl⟩:=List.getElem_of_mem hx
 exact h1 j hj
theorem Ztd (a:Option Addr) (cap:Nat) (l:List Nat) (i:Nat) (w:World) (hr:RowN .u8 w a cap l) (hi:i < l.length) (hl:l.length <= 100000) :
  Calls Try.prog 162 #[.slice a l.length cap,.int .i64 (i:Nat)] w fun e w'=>(∃ s,e = .returned (.string s)) /\ w' = w:=by
 have hcap:=hr.1
 have hcap2:=hr.2.1.1
 obtain ⟨b,off,rfl,hb,_⟩:=hr.at hi
 have hcv1:(convert 22 9 (.slice (some ⟨b,off + i,none⟩) (l.length - i) (cap - i))).run Try.prog w = .ok (.string (strOf (l.drop i))) w:=Zey Try.underlying22 Try.underlying5 Try.underlying9 (by rw [List.length_drop]) (Zcc hr i (by omega) (by omega))
 obtain ⟨n,hn⟩:∃ n,l.length = n:=⟨_,rfl⟩
 rw [hn] at hcap hi hcv1 ⊢
 obtain ⟨s,hs⟩:∃ s,strOf (l.drop i) = s:=⟨_,rfl⟩
 rw [hs] at hcv1
 clear hr hl hn hs
 have hni:(n:Int) - (i:Int) = ((n - i:Nat):Int):=by omega
 have hci:(cap:Int) - (i:Int) = ((cap - i:Nat):Int):=by omega
 have k1:(i:Int) <= (n:Int):=by omega
 have k2:(i:Int) <= (cap:Int):=by omega
 have k3:i <= n:=by omega
 have k4:i <= cap:=by omega
 have k5:i < cap:=by omega
 go_enter Try.func162,Try.ntmps162
 go_wp2_with fail
 go_ret
 exact ⟨⟨_,rfl⟩,rfl⟩
set_option maxRecDepth 100000 in
set_option maxHeartbeats 3200000 in
theorem Znl (a:Option Addr) (cap:Nat) (l:List Nat) (w:World) (hr:RowN .u8 w a cap l) (hl:l.length <= 100000) :
  Calls Try.prog 126 #[.slice a l.length cap,.bool true] w fun e w'=>∃ g c,e = .returned (.slice g l.length c) /\ OwnN 3 .i64 w' w.heap.size g c (ordG l l.length) /\ Below w.heap.size w w':=by
 have HR:=Zh (fun A i (h:Below w.heap.size w A) hi=>Zly a cap l i A (hr.below h) hi hl)
 have HEN:=Zh (fun A i (h:Below w.heap.size w A) hi=>Ztd a cap l i A (hr.below h) hi hl)
 obtain ⟨q,hq⟩:∃ q,w.heap.size = q:=⟨_,rfl⟩
 rw [hq] at HR HEN ⊢
 have HQ:=Zh hq
 have HFIN:Hid ((ordG l l.length).length = l.length):=Zef _ _
 obtain ⟨n,hn⟩:∃ n,l.length = n:=⟨_,rfl⟩
 rw [hn] at HR HEN HFIN hl ⊢
 have HLN:=Zh hl
 clear hr hq hn
 go_enter Try.func126,Try.ntmps126
 go_wp2_with fail
 go_loopw [5,6] (fun ov iv A=>∃ (i:Nat) (og:Option Addr) (oc:Nat) (o:List Nat),i <= n /\ iv = .int .i64 (i:Nat) /\ ov = .slice og o.length oc /\ Hid (o = ordG l i) /\ Hid (o.length = i) /\ Hid (OwnN 3 .i64 A q og oc o) /\ Hid (Below q w A)) (fun _ iv _=>n - (intOf iv).toNat)
 case atStart=>exact ⟨0,none,0,[],Nat.zero_le _,rfl,rfl,rfl,rfl,OwnN.nil _ _ _ _,Below.refl _ _⟩
 case round =>
  obtain ⟨i,og,oc,o,hi,rfl,rfl,HOE,HOL,HO,HE⟩:=hrel
  generalize wr = W at *
  by_cases hlt:i < n
  case neg =>
   obtain rfl:i = n:=by omega
   have t0:decide (i < i) = false:=by simp
   go_wp2_with fail
   go_ret
   exact ⟨og,oc,by rw [HOL.out];rfl,by rw [<- HOE.out];exact HO.out,HE.out⟩
  have t0:decide ((i:Int) < (n:Int)) = true:=by simp;omega
  go_wp2_with fail
  refine (HEN.out _ i HE.out hlt).mono ?_
  rintro e w1 ⟨⟨s0,rfl⟩,hw1⟩
  replace hw1:=hw1.symm
  subst hw1
  go_wp2_with fail
  refine (HR.out _ i HE.out hlt).mono ?_
  rintro e w1 ⟨rfl,m0,rfl⟩
  obtain ⟨S,hS⟩:∃ S,strOf (rotL l i) = S:=⟨_,rfl⟩
  rw [hS]
  have HS:=Zh hS
  clear hS
  go_wp2_with fail
  go_loopw [8] (fun kv A=>∃ (k m:Nat),k <= o.length /\ kv = .int .i64 (k:Nat) /\ A = W.drewN m /\ Hid (∀ j (h:j < o.length),j < k -> strGt (rotL l o[j]) (rotL l i) = false)) (fun kv _=>o.length - (intOf kv).toNat)
  case atStart=>exact ⟨0,m0,Nat.zero_le _,rfl,rfl,fun j _ h=>absurd h (Nat.not_lt_zero j)⟩
  case round =>
   obtain ⟨k,m,hk,rfl,hwx,HNO⟩:=hrel
   subst hwx
   by_cases hko:k < o.length
   case neg =>
    have hk0:k = o.length:=by omega
    have t1:decide ((k:Int) < (o.length:Int)) = false:=by simp;omega
    have t1':decide (k < o.length) = false:=by simp;omega
    have HPOS:Hid (posO l o i = k):=by unfold Hid;rw [hk0];exact Zwl fun j h=>HNO.out j h (by omega)
    have HKL:Hid (k <= o.length):=Nat.le_of_eq hk0
    have HK0:=Zh hk0
    clear HNO hko hk hk0
    by_cases hnn:og = none
    ·subst hnn
     have HKC:Hid (k = oc):=by
      rcases HO.out.form with ⟨_,h1,h2⟩ | ⟨g,h,_⟩
      ·have:=HKL.out
       rw [h2] at this
       simp at this
       show k = oc
       omega
      ·cases h
     have HOW:=Zh (show OwnN 3 .i64 (W.drewN m) q (none:Option Addr) oc o from HO.out)
     have HEW:=Zh (belDN HE.out m)
     have HSZW:Hid (∀ g,(none:Option Addr) = some ⟨g,0,none⟩ -> g < (W.drewN m).heap.size):=fun g hg=>(Zdh HO.out hg).2
     have HQWR:=Zh (show q <= (W.drewN m).heap.size from HEW.out.size |> Nat.le_trans (Nat.le_of_eq HQ.out.symm))
     generalize W.drewN m = wx at *
     have HTK:=Zh (HOW.out.take k HKL.out)
     have HTL:Hid ((o.take k).length = k):=by unfold Hid;rw [List.length_take];have:=HKL.out;omega
     obtain ⟨tk,htk⟩:∃ tk,o.take k = tk:=⟨_,rfl⟩
     obtain ⟨dk,hdk⟩:∃ dk,o.drop k = dk:=⟨_,rfl⟩
     have HDLN:Hid (o.length - k = dk.length):=by unfold Hid;rw [<- hdk,List.length_drop]
     have HDN:Hid (∀ A (p:Option Addr) c',c' <= 9223372036854775807 -> (p = none -> c' = 0) -> RowN .i64 A p c' dk):=by
      unfold Hid
      intro A p c' h1 h2
      have:dk = []:=List.eq_nil_of_length_eq_zero (by have:=HDLN.out;have:=HKC.out;have:=HOW.out.caps;omega)
      rw [this]
      exact ⟨by simp,⟨h1,h2⟩,.inl rfl⟩
     rw [htk] at HTK HTL
     have HTKE:=Zh htk
     have HDKE:=Zh hdk
     have hcap:=HOW.out.caps
     have hkl:=HKL.out
     clear htk hdk
     have hno:(o.length:Int) - (k:Int) = ((o.length - k:Nat):Int):=by omega
     have hkc1:k <= oc:=Nat.le_of_eq HKC.out
     have hkc2:oc <= k:=Nat.le_of_eq HKC.out.symm
     have hco:(oc:Int) - (k:Int) = ((oc - k:Nat):Int):=by omega
     have hl5:o.length <= 100000:=by have:=HLN.out;have:=HOL.out;omega
     go_wp2_with (first | (at_builtin;refine appAnyN Zaz rfl (.tmp 46) (.tmp 49) rfl (a:=some ⟨wx.heap.size,0,none⟩) (cap:=0) (l:=[]) (ys:=dk) (base:=wx.heap.size) rfl (OwnN.lit0 _ _ _ _ (Nat.le_refl _)) HDLN.out rfl (HDN.out _ _ _ (by omega) (fun _=>by omega)) (by simp;omega) (by simp;omega) (by simp) ?_;intro a1 c1 w1 hown1 hg1 hb1;simp only [List.nil_append] at hown1;simp only [List.length_nil,Nat.zero_add];have HO1:=Zh hown1;have HB1:=Zh ((Zai wx _).trans hb1);have HT1:=Zh (HTK.out.below ((Zai wx _).trans hb1));have HQ1:=Zh (Nat.le_trans HQWR.out ((Zai wx _).trans hb1).size);clear hown1 hg1 hb1) | (at_builtin;refine app1At (y:=i) Zaz rfl (.tmp 53) (.tmp 55) rfl (show _ = Value.slice (none:Option Addr) tk.length oc by rw [HTL.out];rfl) HT1.out rfl (by omega) (by omega) (by rw [HTL.out];omega) (by rw [HTL.out];omega) HQ1.out ?_;intro a2 c2 w2 hown2 hg2 hb2 hf2;have HO2:=Zh hown2;have HG2:=Zh hg2;have HB2:=Zh hb2;have HQ2:=Zh (Nat.le_trans HQ1.out hg2.size);have HR2:=Zh (HO1.out.kept hg2 (fun g hg e=>by have h1:=(Zdh HO1.out hg).1;have h2:=HSZW.out g (Zdq HT1.out e);omega));clear hown2 hg2 hb2 hf2) | (at_builtin;refine appAnyN Zaz rfl (.tmp 56) (.tmp 57) rfl (show _ = Value.slice a2 (tk ++ [i]).length c2 by rw [List.length_append,HTL.out];rfl) HO2.out HDLN.out rfl HR2.out.row (by rw [List.length_append,HTL.out];show k + 1 + _ <= _;omega) (by rw [List.length_append,HTL.out];show (k + 1 + _) * 8 <= _;omega) HQ2.out ?_;intro a3 c3 w3 hown3 hg3 hb3;have HO3:=Zh hown3;have HB3:=Zh hb3;clear hown3 hg3 hb3))
     have HINS:Hid (tk ++ [i] ++ dk = insO l o i):=by unfold Hid insO;rw [HPOS.out,HTKE.out,HDKE.out];simp
     go_roundw
     case rel =>
      refine ⟨i + 1,a3,c3,insO l o i,by omega,by go_num,?_,(by unfold Hid;rw [HOE.out];rfl),(by unfold Hid;rw [Zca,HOL.out]),?_,HEW.out.trans ((HB1.out.mono HQWR.out).trans (HB2.out.trans HB3.out))⟩
      ·rw [Zca]
       show Value.slice a3 (tk.length + 1 + (o.length - k)) c3 = _
       rw [HTL.out,show k + 1 + (o.length - k) = o.length + 1 by omega]
      ·unfold Hid;rw [<- HINS.out];exact HO3.out
     case measure=>simp [intOf];omega
    obtain ⟨gb,rfl⟩:∃ gb,og = some ⟨gb,0,none⟩:=by
     rcases HO.out.form with ⟨h,_⟩ | ⟨g,h,_⟩
     ·exact absurd h hnn
     ·exact ⟨g,h⟩
    clear hnn
    by_cases hkc:k = oc
    ·have HKC:=Zh hkc
     clear hkc
     have HOW:=Zh (show OwnN 3 .i64 (W.drewN m) q (some ⟨gb,0,none⟩:Option Addr) oc o from HO.out)
     have HEW:=Zh (belDN HE.out m)
     have HSZW:Hid (∀ g,(some ⟨gb,0,none⟩:Option Addr) = some ⟨g,0,none⟩ -> g < (W.drewN m).heap.size):=fun g hg=>(Zdh HO.out hg).2
     have HQWR:=Zh (show q <= (W.drewN m).heap.size from HEW.out.size |> Nat.le_trans (Nat.le_of_eq HQ.out.symm))
     generalize W.drewN m = wx at *
     have HTK:=Zh (HOW.out.take k HKL.out)
     have HTL:Hid ((o.take k).length = k):=by unfold Hid;rw [List.length_take];have:=HKL.out;omega
     obtain ⟨tk,htk⟩:∃ tk,o.take k = tk:=⟨_,rfl⟩
     obtain ⟨dk,hdk⟩:∃ dk,o.drop k = dk:=⟨_,rfl⟩
     have HDLN:Hid (o.length - k = dk.length):=by unfold Hid;rw [<- hdk,List.length_drop]
     have HDN:Hid (∀ A (p:Option Addr) c',c' <= 9223372036854775807 -> (p = none -> c' = 0) -> RowN .i64 A p c' dk):=by
      unfold Hid
      intro A p c' h1 h2
      have:dk = []:=List.eq_nil_of_length_eq_zero (by have:=HDLN.out;have:=HKC.out;have:=HOW.out.caps;omega)
      rw [this]
      exact ⟨by simp,⟨h1,h2⟩,.inl rfl⟩
     rw [htk] at HTK HTL
     have HTKE:=Zh htk
     have HDKE:=Zh hdk
     have hcap:=HOW.out.caps
     have hkl:=HKL.out
     clear htk hdk
     have hno:(o.length:Int) - (k:Int) = ((o.length - k:Nat):Int):=by omega
     have hkc1:k <= oc:=Nat.le_of_eq HKC.out
     have hkc2:oc <= k:=Nat.le_of_eq HKC.out.symm
     have hco:(oc:Int) - (k:Int) = ((oc - k:Nat):Int):=by omega
     have hl5:o.length <= 100000:=by have:=HLN.out;have:=HOL.out;omega
     go_wp2_with (first | (at_builtin;refine appAnyN Zaz rfl (.tmp 46) (.tmp 49) rfl (a:=some ⟨wx.heap.size,0,none⟩) (cap:=0) (l:=[]) (ys:=dk) (base:=wx.heap.size) rfl (OwnN.lit0 _ _ _ _ (Nat.le_refl _)) HDLN.out rfl (HDN.out _ _ _ (by omega) (fun _=>by omega)) (by simp;omega) (by simp;omega) (by simp) ?_;intro a1 c1 w1 hown1 hg1 hb1;simp only [List.nil_append] at hown1;simp only [List.length_nil,Nat.zero_add];have HO1:=Zh hown1;have HB1:=Zh ((Zai wx _).trans hb1);have HT1:=Zh (HTK.out.below ((Zai wx _).trans hb1));have HQ1:=Zh (Nat.le_trans HQWR.out ((Zai wx _).trans hb1).size);clear hown1 hg1 hb1) | (at_builtin;refine app1At (y:=i) Zaz rfl (.tmp 53) (.tmp 55) rfl (show _ = Value.slice (some ⟨gb,0,none⟩:Option Addr) tk.length oc by rw [HTL.out];rfl) HT1.out rfl (by omega) (by omega) (by rw [HTL.out];omega) (by rw [HTL.out];omega) HQ1.out ?_;intro a2 c2 w2 hown2 hg2 hb2 hf2;have HO2:=Zh hown2;have HG2:=Zh hg2;have HB2:=Zh hb2;have HQ2:=Zh (Nat.le_trans HQ1.out hg2.size);have HR2:=Zh (HO1.out.kept hg2 (fun g hg e=>by have h1:=(Zdh HO1.out hg).1;have h2:=HSZW.out g (Zdq HT1.out e);omega));clear hown2 hg2 hb2 hf2) | (at_builtin;refine appAnyN Zaz rfl (.tmp 56) (.tmp 57) rfl (show _ = Value.slice a2 (tk ++ [i]).length c2 by rw [List.length_append,HTL.out];rfl) HO2.out HDLN.out rfl HR2.out.row (by rw [List.length_append,HTL.out];show k + 1 + _ <= _;omega) (by rw [List.length_append,HTL.out];show (k + 1 + _) * 8 <= _;omega) HQ2.out ?_;intro a3 c3 w3 hown3 hg3 hb3;have HO3:=Zh hown3;have HB3:=Zh hb3;clear hown3 hg3 hb3))
     have HINS:Hid (tk ++ [i] ++ dk = insO l o i):=by unfold Hid insO;rw [HPOS.out,HTKE.out,HDKE.out];simp
     go_roundw
     case rel =>
      refine ⟨i + 1,a3,c3,insO l o i,by omega,by go_num,?_,(by unfold Hid;rw [HOE.out];rfl),(by unfold Hid;rw [Zca,HOL.out]),?_,HEW.out.trans ((HB1.out.mono HQWR.out).trans (HB2.out.trans HB3.out))⟩
      ·rw [Zca]
       show Value.slice a3 (tk.length + 1 + (o.length - k)) c3 = _
       rw [HTL.out,show k + 1 + (o.length - k) = o.length + 1 by omega]
      ·unfold Hid;rw [<- HINS.out];exact HO3.out
     case measure=>simp [intOf];omega
    ·have HKC:Hid (k < oc):=by have:=HO.out.caps;have:=HKL.out;unfold Hid;omega
     clear hkc
     have HOW:=Zh (show OwnN 3 .i64 (W.drewN m) q (some ⟨gb,0,none⟩:Option Addr) oc o from HO.out)
     have HEW:=Zh (belDN HE.out m)
     have HSZW:Hid (∀ g,(some ⟨gb,0,none⟩:Option Addr) = some ⟨g,0,none⟩ -> g < (W.drewN m).heap.size):=fun g hg=>(Zdh HO.out hg).2
     have HQWR:=Zh (show q <= (W.drewN m).heap.size from HEW.out.size |> Nat.le_trans (Nat.le_of_eq HQ.out.symm))
     generalize W.drewN m = wx at *
     have HTK:=Zh (HOW.out.take k HKL.out)
     have HTL:Hid ((o.take k).length = k):=by unfold Hid;rw [List.length_take];have:=HKL.out;omega
     obtain ⟨tk,htk⟩:∃ tk,o.take k = tk:=⟨_,rfl⟩
     obtain ⟨dk,hdk⟩:∃ dk,o.drop k = dk:=⟨_,rfl⟩
     have HDLN:Hid (o.length - k = dk.length):=by unfold Hid;rw [<- hdk,List.length_drop]
     have hdr:=Zcc HOW.out.row k HKL.out HKC.out
     rw [hdk,Nat.zero_add] at hdr
     have HDR:=Zh hdr
     clear hdr
     rw [htk] at HTK HTL
     have HTKE:=Zh htk
     have HDKE:=Zh hdk
     have hcap:=HOW.out.caps
     have hkl:=HKL.out
     clear htk hdk
     have hno:(o.length:Int) - (k:Int) = ((o.length - k:Nat):Int):=by omega
     have hkc:=HKC.out
     have hco:(oc:Int) - (k:Int) = ((oc - k:Nat):Int):=by omega
     have hl5:o.length <= 100000:=by have:=HLN.out;have:=HOL.out;omega
     go_wp2_with (first | (at_builtin;refine appAnyN Zaz rfl (.tmp 46) (.tmp 49) rfl (a:=some ⟨wx.heap.size,0,none⟩) (cap:=0) (l:=[]) (ys:=dk) (base:=wx.heap.size) rfl (OwnN.lit0 _ _ _ _ (Nat.le_refl _)) HDLN.out rfl (HDR.out.below (Zai wx _)) (by simp;omega) (by simp;omega) (by simp) ?_;intro a1 c1 w1 hown1 hg1 hb1;simp only [List.nil_append] at hown1;simp only [List.length_nil,Nat.zero_add];have HO1:=Zh hown1;have HB1:=Zh ((Zai wx _).trans hb1);have HT1:=Zh (HTK.out.below ((Zai wx _).trans hb1));have HQ1:=Zh (Nat.le_trans HQWR.out ((Zai wx _).trans hb1).size);clear hown1 hg1 hb1) | (at_builtin;refine app1At (y:=i) Zaz rfl (.tmp 53) (.tmp 55) rfl (show _ = Value.slice (some ⟨gb,0,none⟩:Option Addr) tk.length oc by rw [HTL.out];rfl) HT1.out rfl (by omega) (by omega) (by rw [HTL.out];omega) (by rw [HTL.out];omega) HQ1.out ?_;intro a2 c2 w2 hown2 hg2 hb2 hf2;have HO2:=Zh hown2;have HG2:=Zh hg2;have HB2:=Zh hb2;have HQ2:=Zh (Nat.le_trans HQ1.out hg2.size);have HR2:=Zh (HO1.out.kept hg2 (fun g hg e=>by have h1:=(Zdh HO1.out hg).1;have h2:=HSZW.out g (Zdq HT1.out e);omega));clear hown2 hg2 hb2 hf2) | (at_builtin;refine appAnyN Zaz rfl (.tmp 56) (.tmp 57) rfl (show _ = Value.slice a2 (tk ++ [i]).length c2 by rw [List.length_append,HTL.out];rfl) HO2.out HDLN.out rfl HR2.out.row (by rw [List.length_append,HTL.out];show k + 1 + _ <= _;omega) (by rw [List.length_append,HTL.out];show (k + 1 + _) * 8 <= _;omega) HQ2.out ?_;intro a3 c3 w3 hown3 hg3 hb3;have HO3:=Zh hown3;have HB3:=Zh hb3;clear hown3 hg3 hb3))
     have HINS:Hid (tk ++ [i] ++ dk = insO l o i):=by unfold Hid insO;rw [HPOS.out,HTKE.out,HDKE.out];simp
     go_roundw
     case rel =>
      refine ⟨i + 1,a3,c3,insO l o i,by omega,by go_num,?_,(by unfold Hid;rw [HOE.out];rfl),(by unfold Hid;rw [Zca,HOL.out]),?_,HEW.out.trans ((HB1.out.mono HQWR.out).trans (HB2.out.trans HB3.out))⟩
      ·rw [Zca]
       show Value.slice a3 (tk.length + 1 + (o.length - k)) c3 = _
       rw [HTL.out,show k + 1 + (o.length - k) = o.length + 1 by omega]
      ·unfold Hid;rw [<- HINS.out];exact HO3.out
     case measure=>simp [intOf];omega
   have t1:decide ((k:Int) < (o.length:Int)) = true:=by simp;omega
   have hol:o.length <= 100000:=by have:=HOL.out;have:=HLN.out;omega
   have uk1:wrap64 ((k:Int) + 1) = (k:Int) + 1:=IntWalk.wrap64_in _ (by omega)
   obtain ⟨gb,rfl,_,_,hgc,_⟩:=(show OwnN 3 .i64 (W.drewN m) q og oc o from HO.out).at hko
   have hxi:o[k] < n:=by have h:=Zgf l i o[k] (by rw [<- HOE.out];exact List.getElem_mem hko);omega
   have HXK:Hid (∀ b,strGt (rotL l o[k]) (rotL l i) = b -> strGt (rotL l o[k]) (rotL l i) = b):=fun b h=>h
   obtain ⟨x,hx⟩:∃ x,o[k] = x:=⟨_,rfl⟩
   rw [hx] at hgc hxi HXK
   have HX:=Zh hx
   clear hx
   go_wp2_with fail
   refine (HEN.out _ x (belDN HE.out m) hxi).mono ?_
   rintro e w1 ⟨⟨s1,rfl⟩,hw1⟩
   replace hw1:=hw1.symm
   subst hw1
   go_wp2_with fail
   refine (HR.out _ x (belDN HE.out m) hxi).mono ?_
   rintro e w1 ⟨rfl,m1,hw1⟩
   obtain ⟨T,hT⟩:∃ T,strOf (rotL l x) = T:=⟨_,rfl⟩
   rw [hT]
   have HT:=Zh hT
   clear hT
   obtain ⟨b1,hb1⟩:∃ b1,Op.bytesLess T.toList S.toList = b1:=⟨_,rfl⟩
   obtain ⟨b2,hb2⟩:∃ b2,(T.toList == S.toList) = b2:=⟨_,rfl⟩
   have HGT:Hid (strGt (rotL l x) (rotL l i) = !(b1 || b2)):=by unfold Hid strGt;rw [HT.out,HS.out,hb1,hb2]
   subst hw1
   rw [World.drewN_drewN]
   cases b1
   case true =>
    go_wp2_with fail
    go_roundw
    case rel =>
     refine ⟨k + 1,m + m1,by omega,by go_num,by trivial,fun j h hj=>?_⟩
     rcases Nat.lt_or_ge j k with h2 | h2
     ·exact HNO.out j h h2
     ·obtain rfl:j = k:=by omega
      rw [HX.out,HGT.out];rfl
    case measure=>simp [intOf];omega
   cases b2
   case true =>
    go_wp2_with fail
    go_roundw
    case rel =>
     refine ⟨k + 1,m + m1,by omega,by go_num,by trivial,fun j h hj=>?_⟩
     rcases Nat.lt_or_ge j k with h2 | h2
     ·exact HNO.out j h h2
     ·obtain rfl:j = k:=by omega
      rw [HX.out,HGT.out];rfl
    case measure=>simp [intOf];omega
   have HPOS:Hid (posO l o i = k):=Zyq hko (fun j h hj=>HNO.out j h hj) (by rw [HX.out,HGT.out];rfl)
   have HKL:Hid (k <= o.length):=Nat.le_of_lt hko
   have HKC:Hid (k < oc):=by have:=HO.out.caps;unfold Hid;omega
   clear HNO hk HX
   have HOW:=Zh (show OwnN 3 .i64 (W.drewN (m + m1)) q (some ⟨gb,0,none⟩:Option Addr) oc o from HO.out)
   have HEW:=Zh (belDN HE.out (m + m1))
   have HSZW:Hid (∀ g,(some ⟨gb,0,none⟩:Option Addr) = some ⟨g,0,none⟩ -> g < (W.drewN (m + m1)).heap.size):=fun g hg=>(Zdh HO.out hg).2
   have HQWR:=Zh (show q <= (W.drewN (m + m1)).heap.size from HEW.out.size |> Nat.le_trans (Nat.le_of_eq HQ.out.symm))
   generalize W.drewN (m + m1) = wx at *
   have HTK:=Zh (HOW.out.take k HKL.out)
   have HTL:Hid ((o.take k).length = k):=by unfold Hid;rw [List.length_take];have:=HKL.out;omega
   obtain ⟨tk,htk⟩:∃ tk,o.take k = tk:=⟨_,rfl⟩
   obtain ⟨dk,hdk⟩:∃ dk,o.drop k = dk:=⟨_,rfl⟩
   have HDLN:Hid (o.length - k = dk.length):=by unfold Hid;rw [<- hdk,List.length_drop]
   have hdr:=Zcc HOW.out.row k HKL.out HKC.out
   rw [hdk,Nat.zero_add] at hdr
   have HDR:=Zh hdr
   clear hdr
   rw [htk] at HTK HTL
   have HTKE:=Zh htk
   have HDKE:=Zh hdk
   have hcap:=HOW.out.caps
   have hkl:=HKL.out
   clear htk hdk
   have hno:(o.length:Int) - (k:Int) = ((o.length - k:Nat):Int):=by omega
   have hkc:=HKC.out
   have hco:(oc:Int) - (k:Int) = ((oc - k:Nat):Int):=by omega
   have hl5:o.length <= 100000:=by have:=HLN.out;have:=HOL.out;omega
   go_wp2_with (first | (at_builtin;refine appAnyN Zaz rfl (.tmp 46) (.tmp 49) rfl (a:=some ⟨wx.heap.size,0,none⟩) (cap:=0) (l:=[]) (ys:=dk) (base:=wx.heap.size) rfl (OwnN.lit0 _ _ _ _ (Nat.le_refl _)) HDLN.out rfl (HDR.out.below (Zai wx _)) (by simp;omega) (by simp;omega) (by simp) ?_;intro a1 c1 w1 hown1 hg1 hb1;simp only [List.nil_append] at hown1;simp only [List.length_nil,Nat.zero_add];have HO1:=Zh hown1;have HB1:=Zh ((Zai wx _).trans hb1);have HT1:=Zh (HTK.out.below ((Zai wx _).trans hb1));have HQ1:=Zh (Nat.le_trans HQWR.out ((Zai wx _).trans hb1).size);clear hown1 hg1 hb1) | (at_builtin;refine app1At (y:=i) Zaz rfl (.tmp 53) (.tmp 55) rfl (show _ = Value.slice (some ⟨gb,0,none⟩:Option Addr) tk.length oc by rw [HTL.out];rfl) HT1.out rfl (by omega) (by omega) (by rw [HTL.out];omega) (by rw [HTL.out];omega) HQ1.out ?_;intro a2 c2 w2 hown2 hg2 hb2 hf2;have HO2:=Zh hown2;have HG2:=Zh hg2;have HB2:=Zh hb2;have HQ2:=Zh (Nat.le_trans HQ1.out hg2.size);have HR2:=Zh (HO1.out.kept hg2 (fun g hg e=>by have h1:=(Zdh HO1.out hg).1;have h2:=HSZW.out g (Zdq HT1.out e);omega));clear hown2 hg2 hb2 hf2) | (at_builtin;refine appAnyN Zaz rfl (.tmp 56) (.tmp 57) rfl (show _ = Value.slice a2 (tk ++ [i]).length c2 by rw [List.length_append,HTL.out];rfl) HO2.out HDLN.out rfl HR2.out.row (by rw [List.length_append,HTL.out];show k + 1 + _ <= _;omega) (by rw [List.length_append,HTL.out];show (k + 1 + _) * 8 <= _;omega) HQ2.out ?_;intro a3 c3 w3 hown3 hg3 hb3;have HO3:=Zh hown3;have HB3:=Zh hb3;clear hown3 hg3 hb3))
   have HINS:Hid (tk ++ [i] ++ dk = insO l o i):=by unfold Hid insO;rw [HPOS.out,HTKE.out,HDKE.out];simp
   go_roundw
   case rel =>
    refine ⟨i + 1,a3,c3,insO l o i,by omega,by go_num,?_,(by unfold Hid;rw [HOE.out];rfl),(by unfold Hid;rw [Zca,HOL.out]),?_,HEW.out.trans ((HB1.out.mono HQWR.out).trans (HB2.out.trans HB3.out))⟩
    ·rw [Zca]
     show Value.slice a3 (tk.length + 1 + (o.length - k)) c3 = _
     rw [HTL.out,show k + 1 + (o.length - k) = o.length + 1 by omega]
    ·unfold Hid;rw [<- HINS.out];exact HO3.out
   case measure=>simp [intOf];omega
end Go.Proofs.Ytnkpnjnfddjfpaa

namespace Go.Proofs.Ytnkpnjnfddjfpaa
open Go.RowKit M01 M02 M10
def lastF (l:List Nat) (x:Nat):Nat:=(rotL l x).getD (l.length - 1) 0
def atT (o:List Nat):Nat -> Nat
 | 0=>0
 | p + 1=>if o.getD p 1 = 0 then p else atT o p
def turnG (l:List Nat):List Nat × Nat:=((ordG l l.length).map (lastF l),atT (ordG l l.length) l.length)
theorem Zhj (l:List Nat) (i:Nat):(rotL l i).length = l.length:=by unfold rotL;simp;omega
theorem Zqo {l:List Nat} {i:Nat} (hi:i < l.length) (h256:∀ x ∈ l,x < 256):∀ h,((strOf l)[i]'h).toNat = l.getD i 0:=by
 rw [Zdf]
 intro h
 show ((l.map UInt8.ofNat).toArray[i]'(by simpa using hi)).toNat = _
 simp only [List.getElem_toArray,List.getElem_map,UInt8.toNat_ofNat']
 have:=h256 _ (List.getElem_mem hi)
 rw [List.getD_eq_getElem?_getD,List.getElem?_eq_getElem hi]
 simp;omega
theorem Zfl {l:List Nat} {i x:Nat} (h:x ∈ rotL l i):x ∈ l:=by
 unfold rotL at h
 rcases List.mem_append.1 h with h | h
 ·exact List.mem_of_mem_drop h
 ·exact List.mem_of_mem_take h
theorem Zxf {o:List Nat}:∀ {n:Nat},0 < n -> atT o n < n
 | p + 1,_=>by
  unfold atT
  split
  ·omega
  ·cases p with
   | zero=>exact Nat.zero_lt_one
   | succ p=>have:=Zxf (o:=o) (n:=p + 1) (Nat.succ_pos p);omega
set_option maxRecDepth 100000 in
set_option maxHeartbeats 1600000 in
theorem Zqg (a:Option Addr) (cap:Nat) (l:List Nat) (w:World) (hr:RowN .u8 w a cap l) (hl:l.length <= 100000) (h256:∀ x ∈ l,x < 256) :
  Calls Try.prog 71 #[.slice a l.length cap] w fun e w'=>∃ g c,e = .returned (.tuple #[.slice g l.length c,.int .i64 ((turnG l).2:Nat)]) /\ OwnN 5 .u8 w' w.heap.size g c (turnG l).1 /\ Below w.heap.size w w':=by
 have HOR:=Zh (Znl a cap l w hr hl)
 have HRT:=Zh (fun A i (h:Below w.heap.size w A) hi=>Zly a cap l i A (hr.below h) hi hl)
 have H256:=Zh h256
 obtain ⟨q,hq⟩:∃ q,w.heap.size = q:=⟨_,rfl⟩
 rw [hq] at HOR HRT ⊢
 have HQ:=Zh hq
 obtain ⟨o,ho⟩:∃ o,o = ordG l l.length:=⟨_,rfl⟩
 have HOL:Hid (o.length = l.length):=by unfold Hid;rw [ho,Zef]
 have HOM:Hid (∀ x ∈ o,x < l.length):=by unfold Hid;rw [ho];exact Zgf l _
 have HT:Hid (turnG l = (o.map (lastF l),atT o l.length)):=by unfold Hid turnG;rw [ho]
 rw [<- ho] at HOR
 have HLF:Hid (∀ x h,((strOf (rotL l x))[l.length - 1]'h).toNat = lastF l x):=by
  intro x h
  have h2:l.length - 1 < (rotL l x).length:=by
   have h3:=h
   rw [Zcz] at h3
   exact h3
  exact Zqo h2 (fun y hy=>h256 y (Zfl hy)) h
 have HLS:Hid (∀ x,(strOf (rotL l x)).size = l.length):=fun x=>by rw [Zcz,Zhj]
 have HLB:Hid (∀ x,lastF l x < 256):=fun x=>by
  unfold lastF
  rw [List.getD_eq_getElem?_getD]
  cases h:(rotL l x)[l.length - 1]? with
  | none=>simp
  | some y =>
   obtain ⟨h1,h2⟩:=List.getElem?_eq_some_iff.1 h
   have:=h256 y (Zfl (h2 ▸ List.getElem_mem h1))
   simpa using this
 obtain ⟨n,hn⟩:∃ n,l.length = n:=⟨_,rfl⟩
 rw [hn] at HOR HRT HOL HOM HT HLF HLS hl ⊢
 have HLN:=Zh hn
 clear hr hq hn ho h256
 go_enter Try.func71,Try.ntmps71
 go_wp2_with fail
 refine HOR.out.mono ?_
 rintro e w1 ⟨og,oc,rfl,hown,hb1⟩
 have HB1:=Zh hb1
 have HOW:=Zh hown.row
 have HQ1:Hid (q <= w1.heap.size):=by have:=hb1.size;have:=HQ.out;unfold Hid;omega
 clear hown hb1
 go_wp2_with fail
 go_loopw [5,6,7] (fun lv av pv A=>∃ (p at_:Nat) (lg:Option Addr) (lc:Nat) (r:List Nat),p <= n /\ pv = .int .i64 (p:Nat) /\ av = .int .i64 (at_:Nat) /\ lv = .slice lg r.length lc /\ Hid (r = (o.take p).map (lastF l)) /\ r.length = p /\ Hid (at_ = atT o p) /\ Hid (OwnN 5 .u8 A w1.heap.size lg lc r) /\ Hid (Below w1.heap.size w1 A)) (fun _ _ pv _=>n - (intOf pv).toNat)
 case atStart=>exact ⟨0,0,none,0,[],Nat.zero_le _,rfl,rfl,rfl,rfl,rfl,rfl,OwnN.nil _ _ _ _,Below.refl _ _⟩
 case round =>
  obtain ⟨p,at_,lg,lc,r,hp,rfl,rfl,rfl,HRE,hrl,HAE,HR,HE⟩:=hrel
  by_cases hlt:p < n
  case neg =>
   obtain rfl:p = n:=by omega
   have t0:decide (p < p) = false:=by simp
   have HRL:=Zh hrl
   clear hrl
   go_wp2_with fail
   go_ret2
   rw [HT.out]
   refine ⟨lg,lc,by rw [HRL.out,HAE.out];rfl,?_,HB1.out.trans (HE.out.mono HQ1.out)⟩
   have:o.take p = o:=List.take_of_length_le (by rw [HOL.out];exact Nat.le_refl p)
   rw [HRE.out,this] at HR
   exact HR.out.mono HQ1.out
  have t0:decide ((p:Int) < (n:Int)) = true:=by simp;omega
  have hpo:p < o.length:=by rw [HOL.out];exact hlt
  obtain ⟨gb,goff,rfl,hgb,hgc0⟩:=HOW.out.at hpo
  have HGC:Hid (∀ A,Below w1.heap.size w1 A -> A.cell? ⟨gb,goff + p,none⟩ = some (.int .i64 (o[p]:Nat))):=fun A hA=>(hA.cell (p:=⟨gb,goff + p,none⟩) hgb).trans hgc0
  have hgc:=HGC.out wr HE.out
  clear hgc0
  have hx:=HOM.out _ (List.getElem_mem hpo)
  have HXE:Hid (o.getD p 1 = o[p]):=by unfold Hid;simp [hpo]
  have HTS:Hid (o.take (p + 1) = o.take p ++ [o[p]]):=M04.Zbx o p hpo
  generalize o[p] = x at *
  have hls:=HLS.out x
  have hlf:=HLF.out x
  have hlb:=HLB.out x
  obtain ⟨v,hv⟩:∃ v,lastF l x = v:=⟨_,rfl⟩
  rw [hv] at hlf hlb
  have HV:=Zh hv
  obtain ⟨S,hS⟩:∃ S,strOf (rotL l x) = S:=⟨_,rfl⟩
  have HRX:=Zh (HRT.out wr x (HB1.out.trans (HE.out.mono HQ1.out)) hx)
  rw [hS] at hls HRX
  simp only [hS] at hlf
  have hmS:n - 1 < S.size:=by rw [hls];omega
  have hlf2:(S[n - 1]'hmS).toNat = v:=hlf hmS
  have hn1:n - 1 < n:=by omega
  have HRL:=Zh hrl
  have HQW:Hid (w1.heap.size <= wr.heap.size):=HE.out.size
  clear hlf hS hv
  have hrl2:r.length <= 100000:=by omega
  clear hrl
  go_wp2_with fail
  refine HRX.out.mono ?_
  rintro e w2 ⟨rfl,mm,rfl⟩
  have HR2:=Zh (show OwnN 5 .u8 (wr.drewN mm) w1.heap.size lg lc r from HR.out)
  have HE2:=Zh (belDN HE.out mm)
  have HQW2:Hid (w1.heap.size <= (wr.drewN mm).heap.size):=HQW.out
  have hgc2:(wr.drewN mm).cell? ⟨gb,goff + p,none⟩ = some (.int .i64 (x:Nat)):=hgc
  clear hgc HRX
  generalize wr.drewN mm = wx at *
  have HRE7:Hid (r ++ [v] = (o.take (p + 1)).map (lastF l)):=by unfold Hid;rw [HTS.out,List.map_append,<- HRE.out,<- HV.out];rfl
  by_cases hx0:x = 0
  ·have t2:((x:Int) == 0) = true:=beq_iff_eq.2 (by omega)
   have HA7:Hid (p = atT o (p + 1)):=by unfold Hid atT;rw [HXE.out,if_pos hx0]
   clear hx0
   go_wp2_with (at_builtin;refine app1N (y:=v) Zbl rfl (.tmp 23) (.tmp 29) rfl rfl HR2.out rfl (by omega) (by omega) (by omega) (by omega) HQW2.out ?_;intro a7 c7 w7 hown7 hg7 hb7;have HO7:=Zh hown7;have HB7:=Zh hb7;have hgc7:=HGC.out w7 (HE2.out.trans hb7);clear hown7 hg7 hb7)
   go_roundw
   case rel=>exact ⟨p + 1,p,a7,c7,r ++ [v],hlt,by go_num,by trivial,by rw [List.length_append];rfl,HRE7.out,by rw [List.length_append,HRL.out];rfl,HA7.out,HO7.out,HE2.out.trans HB7.out⟩
   case measure=>simp [intOf];omega
  ·have t2:((x:Int) == 0) = false:=beq_eq_false_iff_ne.2 (by omega)
   have HA7:Hid (at_ = atT o (p + 1)):=by unfold Hid atT;rw [HXE.out,if_neg hx0];exact HAE.out
   clear hx0
   go_wp2_with (at_builtin;refine app1N (y:=v) Zbl rfl (.tmp 23) (.tmp 29) rfl rfl HR2.out rfl (by omega) (by omega) (by omega) (by omega) HQW2.out ?_;intro a7 c7 w7 hown7 hg7 hb7;have HO7:=Zh hown7;have HB7:=Zh hb7;have hgc7:=HGC.out w7 (HE2.out.trans hb7);clear hown7 hg7 hb7)
   go_roundw
   case rel=>exact ⟨p + 1,at_,a7,c7,r ++ [v],hlt,by go_num,by trivial,by rw [List.length_append];rfl,HRE7.out,by rw [List.length_append,HRL.out];rfl,HA7.out,HO7.out,HE2.out.trans HB7.out⟩
   case measure=>simp [intOf];omega
end Go.Proofs.Ytnkpnjnfddjfpaa

namespace Go.Proofs.Ytnkpnjnfddjfpaa
open Go.RowKit Go.Shelf M01 M02
theorem Zyp (v b k:Nat) (hv:v < 2 ^ k) (hb:b < 2) (hk:k < 32):bits .or .u32 ((v:Int) * 2 % 4294967296) (b:Int) = ((2 * v + b:Nat):Int):=by
 have hp:2 ^ k <= 2 ^ 31:=Nat.pow_le_pow_right (by decide) (by omega)
 have h1:((v:Int) * 2 % 4294967296) = ((2 * v:Nat):Int):=by omega
 rw [h1,Zhr (2 * v) b (by omega) (by omega)]
 have h2:=Zxk b v 1 (by omega)
 rw [Nat.or_comm,Nat.mul_comm 2 v]
 have h3:v * 2 ^ 1 = v * 2:=rfl
 rw [h3] at h2
 rw [h2,Nat.add_comm]
def RdM (w:World) (p:Nat) (bs:List Nat) (at_:Nat):Prop :=
 ∃ a cap,w.heap[p]? = some (.cells #[.slice a bs.length cap,.int .i64 (at_:Nat)] 87 (0,0)) /\ RowN .u8 w a cap bs /\ (∀ x ∈ bs,x < 256) /\ bs.length <= 100000000 /\ at_ <= 8 * bs.length /\ ∀ x,a = some x -> x.block < p /\ (0 < bs.length -> x.block + 1 = p)
theorem Zou {A:World} {p m cap:Nat} {bs:List Nat} {a:Option Addr} (hc:A.heap[p]? = some (.cells #[.slice a bs.length cap,.int .i64 (m:Nat)] 87 (0,0))) (hr:RowN .u8 A a cap bs) (hb:∀ x ∈ bs,x < 256) (hl:bs.length <= 100000000) (hne:∀ x,a = some x -> x.block < p /\ (0 < bs.length -> x.block + 1 = p)) (m':Nat) (hm:m' <= 8 * bs.length) (q:Nat) :
  RdM ((A.drewN q).setCell ⟨p,1,none⟩ (.int .i64 (m':Nat))) p bs m' /\ Only (fun b=>b = p) A ((A.drewN q).setCell ⟨p,1,none⟩ (.int .i64 (m':Nat))):=by
 refine ⟨⟨a,cap,(Zzj (w:=A.drewN q) hc).2,?_,hb,hl,hm,hne⟩,?_⟩
 ·refine hr.same (by simp [World.setCell,World.drewN]) (fun x h0 hx=>?_)
  exact Below.heap_setCell (A.drewN q) ⟨p,1,none⟩ _ _ (Nat.ne_of_lt (hne x hx).1)
 ·exact (⟨rfl,rfl,rfl,Nat.le_refl _,fun _ _ _=>rfl⟩:Only (fun b=>b = p) A (A.drewN q)).setCell (.inl rfl) _
set_option maxRecDepth 100000 in
set_option maxHeartbeats 1600000 in
theorem Zhe (w:World) (p:Nat) (bs:List Nat) (at_:Nat) (h:RdM w p bs at_) :
  Calls Try.prog 26 #[.pointer (some ⟨p,0,none⟩)] w fun e w'=>e = .returned (.int .i64 ((8 * bs.length - at_:Nat):Int)) /\ ∃ q,w' = w.drewN q:=by
 obtain ⟨a,cap,hc,hr,hb,hl,ha,hne⟩:=h
 obtain ⟨c0,c1,_,_⟩:=Zdg hc
 have HV:Hid (Ending.returned (.int .i64 (8 * (bs.length:Int) - (at_:Int))) = Ending.returned (.int .i64 ((8 * bs.length - at_:Nat):Int))):=by
  unfold Hid;rw [show ((8 * bs.length - at_:Nat):Int) = 8 * (bs.length:Int) - (at_:Int) by omega]
 clear hc hr hb hne
 go_enter Try.func26,Try.ntmps26
 go_wp2_with fail
 go_quiet (fail)
 go_wp2
 go_ret
 exact ⟨HV.out,_,rfl⟩
set_option maxRecDepth 100000 in
set_option maxHeartbeats 1600000 in
theorem Zbn (w:World) (p:Nat) (bs:List Nat) (at_ n:Nat) (hn:n <= 32) (h:RdM w p bs at_) (hle:at_ + n <= 8 * bs.length) :
  Calls Try.prog 33 #[.pointer (some ⟨p,0,none⟩),.int .i64 (n:Nat)] w fun e w'=>e = .returned (.tuple #[.int .u32 (numH (rv bs) at_ n:Nat),.int .i64 0]) /\ RdM w' p bs (at_ + n) /\ Only (fun b=>b = p) w w':=by
 have HL:=Zh (Zhe w p bs at_ h)
 have t1:decide ((n:Int) < 0) = false:=by simp
 have t2:decide ((32:Int) < (n:Int)) = false:=by simp;omega
 have t3:decide (((8 * bs.length - at_:Nat):Int) < (n:Int)) = false:=by simp;omega
 have H:=Zh h
 have HLE:=Zh hle
 clear h hle
 go_enter Try.func33,Try.ntmps33
 go_wp2_with fail
 refine HL.out.mono ?_
 rintro e w1 ⟨rfl,q,rfl⟩
 generalize hd:((8 * bs.length - at_:Nat):Int) = lf at *
 clear HL hd
 go_wp2_with fail
 go_loopw [6,24] (fun v i A=>∃ k:Nat,k <= n /\ i = .int .i64 k /\ v = .int .u32 (numH (rv bs) at_ k:Nat) /\ RdM A p bs (at_ + k) /\ Only (fun b=>b = p) w A) (fun _ i _=>n - (intOf i).toNat)
 case atStart=>exact ⟨0,by omega,rfl,rfl,H.out,⟨rfl,rfl,rfl,Nat.le_refl _,fun _ _ _=>rfl⟩⟩
 case round =>
  obtain ⟨k,hk,rfl,rfl,hrd,honly⟩:=hrel
  have HON:=Zh honly
  clear honly
  by_cases hlt:k < n
  ·have hle:=HLE.out
   obtain ⟨a,cap,hc,hr,hb,hl,ha,hne⟩:=hrd
   obtain ⟨c0,c1,d0,d1⟩:=Zdg hc
   have hil:(at_ + k) / 8 < bs.length:=by omega
   obtain ⟨bl,off,rfl,hbl,hck⟩:=hr.at hil
   have hx:=hb _ (List.getElem_mem hil)
   have hbit:bit (rv bs) (at_ + k) = bs[(at_ + k) / 8] / 2 ^ (7 - (at_ + k) % 8) % 2:=by
    rw [Zoa bs hb _ (by omega)];simp [hil]
   have HNUM:=Zh (show numH (rv bs) at_ (k + 1) = 2 * numH (rv bs) at_ k + bit (rv bs) (at_ + k) from rfl)
   have hnl:=Zbq (rv bs) at_ k
   have HB:=Zh hb
   have HC:=Zh hc
   have HR:=Zh hr
   have HNE:=Zh hne
   have HAT:=Zh (show at_ + k + 1 = at_ + (k + 1) from rfl)
   have hmle:at_ + k + 1 <= 8 * bs.length:=by omega
   generalize hm:at_ + k = m at *
   clear hb hc hr hne hle ha HLE
   generalize bs[m / 8] = x at *
   obtain ⟨t,ht⟩:∃ t,m / 8 = t:=⟨_,rfl⟩
   obtain ⟨r,hr8⟩:∃ r,m % 8 = r:=⟨_,rfl⟩
   rw [ht] at hck hil
   rw [hr8] at hbit
   have hq1:(m:Int) / 8 = (t:Int):=by omega
   have hq2:(m:Int) % 8 = (r:Int):=by omega
   have hr7:r < 8:=by omega
   obtain ⟨s,hs⟩:∃ s,7 - r = s:=⟨_,rfl⟩
   rw [hs] at hbit
   have hq3:IntKind.i64.wrap (7 - (r:Int)) = (s:Int):=by rw [IntWalk.i64_in _ (by omega)];omega
   have hq4:(7:Int) - (r:Int) = (s:Int):=by omega
   have hs8:s < 8:=by omega
   have hml:m <= 800000000:=by omega
   have hti:(t:Int) < (bs.length:Int):=by omega
   clear ht hr8 hm hs
   go_wp2_with fail
   go_quiet (fail)
   simp only [Zxt x s hx]
   rw [<- hbit]
   have hbv:=Zgq (rv bs) m
   generalize bit (rv bs) m = bv at *
   have HOR:=Zh (Zyp _ bv k hnl hbv (by omega))
   generalize numH (rv bs) at_ k = v at *
   have hc1':(wr.drewN nq).cell? ⟨p,1,none⟩ = some (.int .i64 (m:Nat)):=c1
   have hd1':(wr.drewN nq).frozen? ⟨p,1,none⟩ = false:=d1
   clear c0 c1 d0 d1 hck hq1 hq2 hq3 hq4 hbit hbv hnl
   go_wp2
   go_roundw
   case rel =>
    obtain ⟨k1,k2⟩:=Zou HC.out HR.out HB.out hl HNE.out (m + 1) hmle nq
    rw [show ((m + 1:Nat):Int) = (m:Int) + 1 by simp] at k1 k2
    exact ⟨k + 1,by omega,by go_num,by rw [HOR.out,HNUM.out],by rw [<- HAT.out];exact k1,HON.out.trans k2⟩
   case measure=>simp [intOf];omega
  ·obtain rfl:k = n:=by omega
   have HRD:=Zh hrd
   clear hrd
   go_wp2
   go_ret2
   exact ⟨rfl,HRD.out,HON.out⟩
set_option maxRecDepth 100000 in
theorem Zaq (w:World) (p:Nat) (bs:List Nat) (at_ n:Nat) (hn:n <= 32) (h:RdM w p bs at_) (hle:8 * bs.length < at_ + n) :
  Calls Try.prog 33 #[.pointer (some ⟨p,0,none⟩),.int .i64 (n:Nat)] w fun e w'=>e = .returned (.tuple #[.int .u32 0,.int .i64 2]) /\ ∃ q,w' = w.drewN q:=by
 have HL:=Zh (Zhe w p bs at_ h)
 have hat:at_ <= 8 * bs.length:=by obtain ⟨_,_,_,_,_,_,ha,_⟩:=h;exact ha
 have t1:decide ((n:Int) < 0) = false:=by simp
 have t2:decide ((32:Int) < (n:Int)) = false:=by simp;omega
 have t3:decide (((8 * bs.length - at_:Nat):Int) < (n:Int)) = true:=by simp;omega
 clear h hle
 go_enter Try.func33,Try.ntmps33
 go_wp2_with fail
 refine HL.out.mono ?_
 rintro e w1 ⟨rfl,q,rfl⟩
 generalize hd:((8 * bs.length - at_:Nat):Int) = lf at *
 clear HL hd
 go_wp2
 go_ret2
 exact ⟨rfl,q,rfl⟩
theorem Zkw (w:World) (x:Addr) (cap:Nat) (l:List Nat) (hr:RowN .u8 w (some x) cap l) (hl:l.length <= 100000000) (ty:TypeId):∃ a' c' w',(Builtin.append_ #[22,22] ty #[.slice (some ⟨w.heap.size,0,none⟩) 0 0,.slice (some x) l.length cap]).run Try.prog (w.alloc (.cells #[] 5)) = .ok (.slice a' l.length c') w' ∧
  OwnN 5 .u8 w' w.heap.size a' c' l /\ Below w.heap.size w w' /\ ∀ y,a' = some y -> 0 < l.length -> y.block + 1 = w'.heap.size:=by
 obtain ⟨i,h2,h3,h4,h5⟩:=info_parts Zbl.info
 have hr2:=hr.below ((Below.refl w.heap.size w).alloc (Nat.le_refl _) (.cells #[] 5))
 have hcl:=Zbi hr2 _ rfl
 have hone:∀ u ∈ (l.map fun (n:Nat)=>Value.int .u8 n),u.oneCell' = true:=by intro u hu;simp only [List.mem_map] at hu;obtain ⟨n,_,rfl⟩:=hu;rfl
 obtain ⟨v',w',hrn,h6,h7,h8⟩:=run_append_own (P:=Try.prog) (w.alloc (.cells #[] 5)) w.heap.size 22 ty 5 i (.int .u8 0) 1 1 Zbl.und h2 h3 h4 h5 rfl (by decide) _ 0 _ (OwnN.lit0 (k:=.u8) _ _ _ (Nat.le_refl _)) x l.length cap (l.map fun (n:Nat)=>Value.int .u8 n) (by simp)
  hcl hone (by simp [maxLen];omega) (by omega) (by simp)
 have hv:∃ a' cap',v' = .slice a' l.length cap':=by
  rcases h6.2 with ⟨h9,h10⟩ | ⟨g,c',cur,h9,_⟩
  ·exact ⟨none,0,by rw [h9];simp at h10;rw [h10];rfl⟩
  ·exact ⟨_,_,by rw [h9,Nat.zero_add]⟩
 obtain ⟨a',cap',rfl⟩:=hv
 refine ⟨a',cap',w',hrn,?_,?_,?_⟩
 ·unfold OwnN;simpa using h6
 ·refine ((Below.refl w.heap.size w).alloc (Nat.le_refl _) _).trans (Below.of_grown h7 (by simp) (by intro g hg;simp [Value.ownBlock] at hg;omega))
 ·rintro y rfl h0
  have hg:=run_append_grow (P:=Try.prog) (w.alloc (.cells #[] 5)) 22 ty 5 i (.int .u8 0) Zbl.und h2 h3 ⟨w.heap.size,0,none⟩ 0 0 [] (by simp) (by simp) x l.length cap (l.map fun (n:Nat)=>Value.int .u8 n) (by rw [h4];simp) hcl (by omega) (by omega) (growslice_fits (by omega) (by rw [h5];omega))
  replace hg:=hrn.symm.trans hg
  simp only [Result.ok.injEq,Value.slice.injEq,Option.some.injEq] at hg
  obtain ⟨⟨rfl,_⟩,rfl⟩:=hg
  simp
theorem Zxu {P:Program} {T:TypeId} {w w':World} {ops:Array Oper} {rest:List Oper} {o:Oper} {ac:Act} {Q:Exit -> Act -> World -> Prop} (hgd:o.guard = none) (s x:Operand)
  (ho:o.op = .call { callee:=.builtin .append,args:=#[s,x],argTypes:=#[T,T] }) {v u v':Value} (hs:ac.eval s = v) (hx:ac.eval x = u) (hr:(Builtin.append_ #[T,T] o.type #[v,u]).run P w = .ok v' w')
  (h:wpList P ops Q rest (ac.put o.dst v') w'):wpList P ops Q (o :: rest) ac w:=by
 refine wpList_plain (by assumption) fun K hK'=>?_
 unfold Oper.wp
 simp [execOp,ho,resolve,invoke,builtin,hs,hx,hr,Result.andThen]
 exact hK' _ _ h
set_option maxRecDepth 100000 in
theorem Zkq (w:World) (a:Option Addr) (cap:Nat) (l:List Nat) (hr:RowN .u8 w a cap l) (hl:l.length <= 100000000) :
  Calls Try.prog 44 #[.slice a l.length cap] w fun e w'=>∃ a' c',e = .returned (.slice a' l.length c') /\ OwnN 5 .u8 w' w.heap.size a' c' l /\ Below w.heap.size w w' /\ ∀ y,a' = some y -> 0 < l.length -> y.block + 1 = w'.heap.size:=by
 by_cases ha:a = none
 ·subst ha
  have h0:cap = 0:=hr.2.1.2 rfl
  subst h0
  have hl0:l = []:=List.eq_nil_of_length_eq_zero (by have:=hr.1;omega)
  subst hl0
  clear hr
  go_enter Try.func44,Try.ntmps44
  go_wp2_with fail
  rw [eqNilT]
  go_wp2
  go_ret
  exact ⟨none,0,rfl,OwnN.nil _ _ _ _,Below.refl _ _,fun y h=>by cases h⟩
 ·obtain ⟨x,rfl⟩:=Option.ne_none_iff_exists'.1 ha
  clear ha
  by_cases h0:0 < l.length
  case neg=>exact (Zgt w _ cap l hr hl).mono fun e w' ⟨a',c',h1,h2,h3⟩=>⟨a',c',h1,h2,h3,fun y _ h=>absurd h h0⟩
  obtain ⟨a1,c1,w1,hrun,ho,hb,hy⟩:=Zkw w x cap l hr hl 22
  have HO:=Zh ho
  have HB:=Zh hb
  have HY:=Zh hy
  clear ho hb hy hr
  go_enter Try.func44,Try.ntmps44
  go_wp2_with fail
  rw [eqNilF]
  go_wp2_with (at_builtin;refine Zxu rfl (.tmp 5) (.tmp 6) rfl rfl rfl hrun ?_)
  go_ret
  exact ⟨a1,c1,rfl,HO.out,HB.out,HY.out⟩
theorem Zyk (w:World) (a:Option Addr) (cap:Nat) (l:List Nat) (hr:RowN .u8 w a cap l) (hb:∀ x ∈ l,x < 256) (hl:l.length <= 100000000) :
  Calls Try.prog 25 #[.slice a l.length cap] w fun e w'=>∃ p,e = .returned (.pointer (some ⟨p,0,none⟩)) /\ RdM w' p l 0 /\ Below w.heap.size w w' /\ w.heap.size <= p:=by
 go_enter Try.func25,Try.ntmps25
 go_wp2_with fail
 refine (Zkq _ _ _ _ hr hl).mono ?_
 rintro e w1 ⟨a1,c1,rfl,ho,hbw,hy⟩
 have HY:=Zh hy
 have HO:=Zh ho
 have HB:=Zh hbw
 clear ho hbw hy
 go_wp2
 go_ret
 refine ⟨w1.heap.size,rfl,⟨a1,c1,World.alloc_heap_new _ _,(HO.out.alloc _).row,hb,hl,by omega,fun x hx=>⟨?_,fun h0=>HY.out x hx h0⟩⟩,HB.out.alloc HB.out.size _,HB.out.size⟩
 rcases HO.out.form with ⟨h1,_⟩ | ⟨g,h1,_,h2⟩
 ·rw [h1] at hx;cases hx
 ·rw [h1] at hx;cases hx;exact h2
theorem Zll (w:World) (p:Nat) (bs:List Nat) (at_:Nat) (h:RdM w p bs at_) :
  Calls Try.prog 34 #[.pointer (some ⟨p,0,none⟩)] w fun e w'=>e = .returned (.tuple #[]) /\ RdM w' p bs ((at_ + 7) / 8 * 8) /\ Only (fun b=>b = p) w w':=by
 obtain ⟨a,cap,hc,hr,hb,hl,ha,hne⟩:=h
 obtain ⟨c0,c1,d0,d1⟩:=Zdg hc
 obtain ⟨m,hm⟩:∃ m,(at_ + 7) / 8 * 8 = m:=⟨_,rfl⟩
 have hm2:((at_:Int) + 7) / 8 * 8 = (m:Int):=by omega
 have HR:=Zh (Zou hc hr hb hl hne m (by omega) 0)
 rw [hm]
 clear hc hr hb hne hm
 go_enter Try.func34,Try.ntmps34
 go_wp2
 (try simp only [hm2])
 go_end0
 exact ⟨rfl,HR.out⟩
end Go.Proofs.Ytnkpnjnfddjfpaa

namespace Go.Proofs.Ytnkpnjnfddjfpaa
open Go.RowKit Go.Shelf M01 M02 M04 M06 M10
theorem RdM.lt {w:World} {p at_:Nat} {bs:List Nat} (h:RdM w p bs at_):p < w.heap.size:=by
 obtain ⟨a,cap,h1,h2,h3⟩:=h
 exact (Array.getElem?_eq_some_iff.1 h1).1
theorem RdM.only {T:Nat -> Prop} {w w':World} {p at_:Nat} {bs:List Nat} (h:RdM w p bs at_) (ho:Only T w w') (hT:∀ b,b <= p -> ¬ T b):RdM w' p bs at_:=by
 have hlt:=h.lt
 obtain ⟨a,cap,h1,h2,h3,h4,h5,h6⟩:=h
 exact ⟨a,cap,(ho.block p hlt (hT p (Nat.le_refl _))).trans h1,h2.same ho.size (fun x _ hx=>ho.block _ (by have:=h6 x hx;omega) (hT _ (by have:=h6 x hx;omega))),h3,h4,h5,h6⟩
theorem RdM.only2 {T:Nat -> Prop} {w w':World} {p at_:Nat} {bs:List Nat} (h:RdM w p bs at_) (ho:Only T w w') (h1:¬ T p) (h2:∀ b,b + 1 = p -> ¬ T b):RdM w' p bs at_:=by
 have hlt:=h.lt
 obtain ⟨a,cap,g1,g2,g3,g4,g5,g6⟩:=h
 exact ⟨a,cap,(ho.block p hlt h1).trans g1,g2.same ho.size (fun x h0 hx=>ho.block _ (by have:=(g6 x hx).1;omega) (h2 _ ((g6 x hx).2 h0))),g3,g4,g5,g6⟩
theorem RdM.below {w w':World} {p at_:Nat} {bs:List Nat} (h:RdM w p bs at_) (hb:Below w.heap.size w w'):RdM w' p bs at_:=by
 obtain ⟨a,cap,h1,h2,h3⟩:=h
 refine ⟨a,cap,?_,h2.below hb,h3⟩
 have hlt:p < w.heap.size:=(Array.getElem?_eq_some_iff.1 h1).1
 exact (hb.block p hlt).trans h1
theorem RdM.belowAt {w w':World} {p at_ n:Nat} {bs:List Nat} (h:RdM w p bs at_) (hb:Below n w w') (hp:p < n):RdM w' p bs at_:=by
 obtain ⟨a,cap,h1,h2,h3,h4,h5,h6⟩:=h
 exact ⟨a,cap,(hb.block p hp).trans h1,h2.same hb.size (fun x _ hx=>hb.block _ (by have:=h6 x hx;omega)),h3,h4,h5,h6⟩
theorem Zpk (w1:World) (nb:Nat) (u v:Value) (t:TypeId) :
  (((w1.setCell ⟨nb,0,none⟩ u).setCell ⟨nb,1,none⟩ v).alloc (.cells #[u,v] t)).heap[w1.heap.size]? = some (.cells #[u,v] t (0,0)) /\ Only (fun b=>b = nb) w1 (((w1.setCell ⟨nb,0,none⟩ u).setCell ⟨nb,1,none⟩ v).alloc (.cells #[u,v] t)):=by
 refine ⟨?_,(((Only.refl (fun b=>b = nb) w1).setCell (p:=⟨nb,0,none⟩) (.inl rfl) u).setCell (p:=⟨nb,1,none⟩) (.inl rfl) v).alloc _⟩
 have:=World.alloc_heap_new ((w1.setCell ⟨nb,0,none⟩ u).setCell ⟨nb,1,none⟩ v) (.cells #[u,v] t)
 simpa [World.setCell] using this
theorem Zwa (x b k:Nat) (hx:x < 2 ^ k) (hb:b < 2) (hk:k <= 20):bits .or .u32 ((x:Int) * 2 % 4294967296) (b:Int) = ((2 * x + b:Nat):Int):=by
 have hp:2 ^ k <= 2 ^ 20:=Nat.pow_le_pow_right (by decide) hk
 have h1:((x:Int) * 2 % 4294967296) = ((2 * x:Nat):Int):=by omega
 rw [h1,Zhr (2 * x) b (by omega) (by omega)]
 have h2:=Zxk b x 1 (by omega)
 rw [Nat.or_comm,Nat.mul_comm 2 x]
 have h3:x * 2 ^ 1 = x * 2:=rfl
 rw [h3] at h2
 rw [h2,Nat.add_comm]
theorem RdM.drewN {w:World} {p at_:Nat} {bs:List Nat} (h:RdM w p bs at_) (q:Nat):RdM (w.drewN q) p bs at_:=h
theorem World.cell?_ltH {w:World} {a:Addr} {v:Value} (h:w.cell? a = some v):a.block < w.heap.size:=by
 unfold World.cell? at h
 rcases Nat.lt_or_ge a.block w.heap.size with h1 | h1
 ·exact h1
 ·rw [Array.getElem?_eq_none h1] at h
  simp at h
def SymOutH (rp:Nat) (bs:List Nat) (R:Option (Nat × Nat)) (e:Ending) (w':World):Prop :=
 match R with
 | some (s,at2)=>e = .returned (.tuple #[.int .i64 (s:Nat),.int .i64 0]) /\ RdM w' rp bs at2
 | none=>e = .returned (.tuple #[.int .i64 0,.int .i64 2])
def wordKH (A:World) (c:Value):Nat :=
 match c with
 | .pointer (some a)=>match A.cell? ⟨a.block,1,none⟩ with
  | some v=>(intOf v).toNat
  | none=>0
 | _=>0
theorem Zms {A:World} {nb x k:Nat} (h:A.heap[nb]? = some (.cells #[.int .u32 (x:Nat),.int .u8 (k:Nat)] 172 (0,0))):wordKH A (.pointer (some ⟨nb,0,none⟩)) = k:=by
 unfold wordKH
 simp only [(Zda h).2]
 simp [intOf]
set_option maxRecDepth 100000 in
set_option maxHeartbeats 1600000 in
theorem Zni (w:World) (lo hi p rp:Nat) (l bs:List Nat) (at_:Nat) (h20:∀ x ∈ l,x <= 20) (hT:Tb lo hi w p l) (hR:RdM w rp bs at_) (hrp:rp < lo \/ hi <= rp) :
  Calls Try.prog 156 #[.pointer (some ⟨p,0,none⟩),.pointer (some ⟨rp,0,none⟩),.func (Fn.func 33) #[.pointer (some ⟨rp,0,none⟩)] #[]] w fun e w' =>
   Only (fun b=>b = rp) w w' /\ SymOutH rp bs (sym l (rv bs) at_) e w':=by
 have HT:=Zh hT
 have HR:=Zh hR
 have HG:=Zh (Zvq l h20)
 have HRP:=Zh hrp
 clear hT hR h20 hrp
 unfold sym
 obtain ⟨R,hR0⟩:∃ R,R = decF (tabOf l) (rv bs) 22 0 0 at_:=⟨_,rfl⟩
 rw [<- hR0]
 have HR0:=Zh hR0
 clear hR0
 go_enter Try.func156,Try.ntmps156
 go_wp2_with fail
 have HN:=Zh (World.alloc_heap_new w (.cells #[.int .u32 0,.int .u8 0] 172))
 go_loopw [8,9,10,11,12] (fun c _ _ _ _ A=>∃ x k at2 f nb:Nat,c = .pointer (some ⟨nb,0,none⟩) /\ A.heap[nb]? = some (.cells #[.int .u32 (x:Nat),.int .u8 (k:Nat)] 172 (0,0)) /\ w.heap.size <= nb /\ RdM A rp bs at2 /\ Only (fun b=>b = rp) w A /\ x < 2 ^ k /\ k <= 21 /\ f + k = 22 /\ R = decF (tabOf l) (rv bs) f x k at2) (fun c _ _ _ _ A=>22 - wordKH A c)
 case atStart=>exact ⟨0,0,at_,22,w.heap.size,rfl,HN.out,Nat.le_refl _,HR.out.below (Zai w _),(Only.refl _ w).alloc _,by decide,by decide,rfl,HR0.out⟩
 case round =>
  obtain ⟨x,k,at2,f,nb,rfl,hc,hnb,hrd,hon,hx,hk,hf,he⟩:=hrel
  have HWK:=Zh (Zms hc)
  obtain ⟨c0,c1,d0,d1⟩:=Zdg hc
  have hT:=HT.out.only hon (fun b h1 h2 e=>by subst e;have:=HRP.out;omega)
  obtain ⟨a1,n1,a2,n2,mb,n,hp,_,_,hM,_⟩:=hT
  have hpt:wr.cell? ⟨p,2,none⟩ = some (.map (some mb)):=cells3' hp
  have hx32:x < 4294967296:=Nat.lt_of_lt_of_le hx (Nat.le_trans (Nat.pow_le_pow_right (by decide) hk) (by decide))
  have hL:∀ q,(Instr.lookup 168 (.map (some mb)) (.agg #[.int .u32 (x:Nat),.int .u8 (k:Nat)]) true).run Try.prog (wr.drewN q) = .ok (.tuple #[.int .i64 ((tabOf l x k).getD 0),.bool (tabOf l x k).isSome]) (wr.drewN q):=fun q=>(hM.same rfl:MapF (wr.drewN q) mb n (tabOf l)).look x k hx32 (by omega)
  have HE:=Zh he
  have HRD:=Zh hrd
  have HON:=Zh hon
  have HX:=Zh hx
  clear hp hM he hrd hon hx hc
  have hgd:=HG.out x k
  obtain ⟨f,rfl⟩:∃ f',f = f' + 1:=⟨f - 1,by omega⟩
  unfold decF at HE
  generalize tabOf l x k = r at *
  rcases r with _ | v
  ·clear hgd
   simp only [Option.getD_none,Option.isSome_none] at hL
   go_wp2_with fail
   go_quiet (fail)
   go_wp2
   go_ret2
   rw [HE.out]
   exact ⟨HON.out.trans (Zah _ _ _),rfl⟩
  ·obtain ⟨hk20,hv⟩:=hgd v rfl
   clear hgd
   simp only [Option.getD_some,Option.isSome_some] at hL
   rcases hv with rfl | ⟨s,rfl,hs⟩
   ·have HRP1:=HRD.out.lt
    have hrpw:rp < w.heap.size:=HR.out.lt
    by_cases hlt:at2 + 1 <= 8 * bs.length
    ·have HGET:=fun q=>Zbn (wr.drewN q) rp bs at2 1 (by decide) (HRD.out.drewN q) hlt
     have HE2:Hid (R = decF (tabOf l) (rv bs) f (2 * x + bit (rv bs) at2) (k + 1) (at2 + 1)):=by
      unfold Hid
      have:=HE.out
      simpa [hlt,Zap] using this
     have hnum:numH (rv bs) at2 1 = bit (rv bs) at2:=by simp [numH]
     simp only [hnum] at HGET
     have HGET:=Zh HGET
     have hbl:=Zgq (rv bs) at2
     have HLT:=Zh hlt
     clear HE hlt hnum HT HG
     generalize hbe:bit (rv bs) at2 = b at *
     clear hbe
     go_wp2_with fail
     go_quiet (fail)
     go_wp2_with fail
     refine (HGET.out _).mono ?_
     rintro e w1 ⟨rfl,hrd1,hon1⟩
     have c0':w1.cell? ⟨nb,0,none⟩ = some (.int .u32 (x:Nat)):=(World.cell?_of_block (a:=⟨nb,0,none⟩) (hon1.block nb (World.cell?_ltH c0) (by show nb ≠ rp;omega))).trans c0
     have c1':w1.cell? ⟨nb,1,none⟩ = some (.int .u8 (k:Nat)):=(World.cell?_of_block (a:=⟨nb,1,none⟩) (hon1.block nb (World.cell?_ltH c0) (by show nb ≠ rp;omega))).trans c1
     have d0':w1.frozen? ⟨nb,0,none⟩ = false:=(World.frozen?_of_block (a:=⟨nb,0,none⟩) (hon1.block nb (World.cell?_ltH c0) (by show nb ≠ rp;omega))).trans d0
     have d1':w1.frozen? ⟨nb,1,none⟩ = false:=(World.frozen?_of_block (a:=⟨nb,1,none⟩) (hon1.block nb (World.cell?_ltH c0) (by show nb ≠ rp;omega))).trans d1
     have hor:=Zwa x b k HX.out hbl hk20
     have HRD1:=Zh hrd1
     have HON1:=Zh ((HON.out.trans (Zah _ _ _)).trans hon1)
     clear hrd1 hon1 c0 c1 d0 d1 hL HON HRD
     go_wp2_with fail
     have hq1:(2 * (x:Int) + (b:Int)) = ((2 * x + b:Nat):Int):=by omega
     have hq2:((k:Int) + 1) = ((k + 1:Nat):Int):=by omega
     rw [hq1,hq2,HWK.out]
     obtain ⟨g1,g2⟩:=Zpk w1 nb (.int .u32 ((2 * x + b:Nat):Int)) (.int .u8 ((k + 1:Nat):Int)) 172
     generalize ((w1.setCell ⟨nb,0,none⟩ (.int .u32 ((2 * x + b:Nat):Int))).setCell ⟨nb,1,none⟩ (.int .u8 ((k + 1:Nat):Int))).alloc (.cells #[.int .u32 ((2 * x + b:Nat):Int),.int .u8 ((k + 1:Nat):Int)] 172) = W at *
     have hb1:Below w.heap.size w1 W:=⟨g2.os,g2.tape,g2.output,g2.size,fun b' hb'=>g2.block b' (by have:=HON1.out.size;omega) (by show b' ≠ nb;omega)⟩
     rw [Zms g1]
     have hpow:2 * x + b < 2 ^ (k + 1):=by have:=HX.out;rw [Nat.pow_succ];omega
     have hws:=HON1.out.size
     exact ⟨⟨2 * x + b,k + 1,at2 + 1,f,w1.heap.size,rfl,g1,hws,HRD1.out.belowAt hb1 hrpw,⟨hb1.os.trans HON1.out.os,hb1.tape.trans HON1.out.tape,hb1.output.trans HON1.out.output,Nat.le_trans hws hb1.size,fun b' hb' hn=>(hb1.block b' hb').trans (HON1.out.block b' hb' hn)⟩,hpow,by omega,by omega,HE2.out⟩,by omega⟩
    ·have HGET:=fun q=>Zaq (wr.drewN q) rp bs at2 1 (by decide) (HRD.out.drewN q) (by omega)
     have HE2:Hid (R = none):=by
      unfold Hid
      have:=HE.out
      simpa [hlt,Zap] using this
     have HGET:=Zh HGET
     clear HE hlt HT HG
     go_wp2_with fail
     go_quiet (fail)
     go_wp2_with fail
     refine (HGET.out _).mono ?_
     rintro e w1 ⟨rfl,q,rfl⟩
     go_wp2
     go_ret2
     rw [HE2.out]
     exact ⟨HON.out.trans (Zah _ _ _),rfl⟩
   ·clear hs
    have HE2:Hid (R = some (s,at2)):=by
     unfold Hid
     have:=HE.out
     simpa using this
    have t1:decide ((0:Int) <= (s:Int)) = true:=by simp
    clear HE HT HG
    go_wp2_with fail
    go_quiet (fail)
    go_wp2
    go_ret2
    rw [HE2.out]
    exact ⟨HON.out.trans (Zah _ _ _),rfl,HRD.out.drewN _⟩
theorem Zis (w:World) (lo hi p rp:Nat) (l bs:List Nat) (at_:Nat) (h20:∀ x ∈ l,x <= 20) (hT:Tb lo hi w p l) (hR:RdM w rp bs at_) (hrp:rp < lo \/ hi <= rp) :
  Calls Try.prog 120 #[.pointer (some ⟨p,0,none⟩),.pointer (some ⟨rp,0,none⟩)] w fun e w' =>
   Only (fun b=>b = rp) w w' /\ SymOutH rp bs (sym l (rv bs) at_) e w':=by
 have HP:=Zh (Zni w lo hi p rp l bs at_ h20 hT hR hrp)
 have hmf:∀ (fn:Fn) (first cap:Array Value) (w:World),(Instr.makeFunc fn first cap).run Try.prog w = .ok (.func fn first cap) w:=fun _ _ _ _=>rfl
 clear h20 hT hR hrp
 generalize sym l (rv bs) at_ = R at *
 go_enter Try.func120,Try.ntmps120
 go_wp2_with fail
 refine HP.out.mono ?_
 rintro e w1 ⟨hon,hs⟩
 have HON:=Zh hon
 clear hon HP
 rcases R with _ | ⟨s,at2⟩
 ·obtain rfl:e = _:=hs
  go_wp2
  go_ret2
  exact ⟨HON.out,rfl⟩
 ·obtain ⟨rfl,hrd⟩:e = _ /\ _:=hs
  have HRD:=Zh hrd
  clear hrd
  go_wp2
  go_ret2
  exact ⟨HON.out,rfl,HRD.out⟩
end Go.Proofs.Ytnkpnjnfddjfpaa

namespace Go.Proofs.Ytnkpnjnfddjfpaa
open Go.RowKit Go.Shelf M01 M02 M27
theorem Zol (B:List Nat) (at_:Nat):∀ n k,k < n -> numH B at_ n / 2 ^ (n - 1 - k) % 2 = bit B (at_ + k):=by
 intro n
 induction n with
 | zero=>intro k h;omega
 | succ n ih =>
  intro k hk
  have hb:=Zgq B (at_ + n)
  by_cases h:k = n
  ·subst h
   simp only [numH,Nat.add_sub_cancel,Nat.sub_self,Nat.pow_zero,Nat.div_one]
   omega
  ·have e:n + 1 - 1 - k = (n - 1 - k) + 1:=by omega
   rw [<- ih k (by omega),e,Nat.pow_succ,Nat.mul_comm,<- Nat.div_div_eq_div_mul]
   have:numH B at_ (n + 1) / 2 = numH B at_ n:=by simp only [numH];omega
   rw [this]
theorem Zxs (v s:Nat) (hv:v < 4294967296):bits .and .u32 ((v:Int) / 2 ^ s) 1 = ((v / 2 ^ s % 2:Nat):Int):=by
 have h0:v / 2 ^ s <= v:=Nat.div_le_self _ _
 have h2:(2:Int) ^ s = ((2 ^ s:Nat):Int):=by simp
 have:=Zcj (v / 2 ^ s) 1 (by omega) (by omega)
 rw [Nat.and_one_is_mod] at this
 rw [h2,<- Int.natCast_ediv]
 exact this
theorem Zot (v k:Nat) (hv:v < 65536) (hk:k < 16) (w:World):Calls Try.prog 153 #[.int .u32 (v:Nat),.int .i64 (k:Nat)] w fun e w'=>e = .returned (.bool (decide (v / 2 ^ (15 - k) % 2 = 1))) /\ w' = w:=by
 obtain ⟨s,hs⟩:∃ s,15 - k = s:=⟨_,rfl⟩
 have hsb:IntKind.i64.wrap (15 - (k:Int)) = (s:Int):=by rw [IntWalk.i64_in _ (by omega)];omega
 have hs2:(15:Int) - (k:Int) = (s:Int):=by omega
 have hs16:s < 16:=by omega
 have HA:=Zh (Zxs v s (by omega))
 rw [hs]
 clear hs
 obtain ⟨b,hb⟩:∃ b,v / 2 ^ s % 2 = b:=⟨_,rfl⟩
 rw [hb] at HA ⊢
 have HD:Hid ((((b:Nat):Int) == 1) = decide (b = 1)):=Zh (by by_cases h:b = 1 <;> simp [h] <;> omega)
 clear hb
 go_enter Try.func153,Try.ntmps153
 go_wp2
 go_ret
 rw [HA.out,HD.out]
 exact ⟨rfl,rfl⟩
def pickK (B:List Nat) (at_ g k:Nat):List Nat:=((List.range k).filter fun k=>bit B (at_ + k) = 1).map fun k=>16 * g + k
theorem Zqc (B:List Nat) (at_ g k:Nat):pickK B at_ g (k + 1) = pickK B at_ g k ++ (if bit B (at_ + k) = 1 then [16 * g + k] else []):=by
 unfold pickK
 rw [List.range_succ,List.filter_append,List.map_append]
 by_cases h:bit B (at_ + k) = 1 <;> simp [h]
theorem Ztb (B:List Nat) (at_ g k:Nat):(pickK B at_ g k).length <= k:=by
 unfold pickK
 rw [List.length_map]
 exact Nat.le_trans (List.length_filter_le _ _) (by simp)
def PickOut (w:World) (rp:Nat) (bs:List Nat) (R:Option (List Nat × Nat)) (e:Ending) (w':World):Prop :=
 match R with
 | some (l,at2)=>∃ a c,e = .returned (.tuple #[.slice a l.length c,.int .i64 0]) /\ OwnN 5 .u8 w' w.heap.size a c l /\ RdM w' rp bs at2
 | none=>e = .returned (.tuple #[.slice none 0 0,.int .i64 2])
set_option maxRecDepth 100000 in
set_option maxHeartbeats 3200000 in
theorem Zwj (w:World) (rp:Nat) (bs:List Nat) (at_:Nat) (hR:RdM w rp bs at_) :
  Calls Try.prog 113 #[.pointer (some ⟨rp,0,none⟩)] w fun e w'=>Only (fun b=>b = rp) w w' /\ PickOut w rp bs (pickG (rv bs) at_) e w':=by
 have HR:=Zh hR
 have hrp:=hR.lt
 have hlen:=Zap bs
 by_cases hle:at_ + 16 <= 8 * bs.length
 case neg =>
  have HG:=Zh (Zaq w rp bs at_ 16 (by decide) hR (by omega))
  have HP:Hid (pickG (rv bs) at_ = none):=Zh (by unfold pickG nb;rw [if_neg (by omega)])
  clear hR
  go_enter Try.func113,Try.ntmps113
  go_wp2_with fail
  refine HG.out.mono ?_
  rintro e w1 ⟨rfl,q,rfl⟩
  go_wp2
  go_ret2
  rw [HP.out]
  exact ⟨Zah _ _ _,rfl⟩
 have HG:=Zh (Zbn w rp bs at_ 16 (by decide) hR hle)
 have HP:Hid (pickG (rv bs) at_ = match pickL (rv bs) at_ 16 0 (at_ + 16) [] with | some (out,at2)=>if out = [] then none else some (out,at2) | none=>none):=Zh (by unfold pickG nb;rw [if_pos (by omega)];rfl)
 have HBIT:=Zh (fun k (hk:k < 16)=>Zol (rv bs) at_ 16 k hk)
 have hv:=Zbq (rv bs) at_ 16
 generalize numH (rv bs) at_ 16 = v at *
 have HAS:=Zh (fun k (hk:k < 16) (W:World)=>Zot v k hv hk W)
 clear hR hle
 rw [HP.out]
 obtain ⟨R,hRR⟩:∃ R,(match pickL (rv bs) at_ 16 0 (at_ + 16) [] with | some (out,at2)=>if out = [] then none else some (out,at2) | none=>none) = R:=⟨_,rfl⟩
 have HRR:=Zh hRR
 rw [hRR]
 clear hRR HP
 go_enter Try.func113,Try.ntmps113
 go_wp2_with fail
 refine HG.out.mono ?_
 rintro e w1 ⟨rfl,hr1,ho1⟩
 have HR1:=Zh hr1
 have HO1:=Zh ho1
 clear hr1 ho1 HG
 go_wp2
 go_loopw [6,21] (fun ov gv A=>∃ (g at2:Nat) (a':Option Addr) (c':Nat) (out:List Nat),g <= 16 /\ gv = .int .i64 (g:Nat) /\ ov = .slice a' out.length c' /\ OwnN 5 .u8 A w.heap.size a' c' out /\ RdM A rp bs at2 /\ Only (fun b=>b = rp) w A /\ pickL (rv bs) at_ 16 0 (at_ + 16) [] = pickL (rv bs) at_ (16 - g) g at2 out /\ out.length <= 16 * g) (fun _ gv _=>16 - (intOf gv).toNat)
 case atStart=>exact ⟨0,at_ + 16,none,0,[],by omega,rfl,rfl,OwnN.nil _ _ _ _,HR1.out,HO1.out,rfl,by simp⟩
 case round =>
  obtain ⟨g,at2,a1,c1,out,hg,rfl,rfl,how,hrd,hon,heq,hol⟩:=hrel
  have HOW:=Zh how
  have HRD:=Zh hrd
  have HON:=Zh hon
  have HEQ:=Zh heq
  have hws:=hon.size
  clear how hon heq
  by_cases hlt:g < 16
  ·have hwi:IntKind.i64.wrap ((g:Int) + 1) = ((g + 1:Nat):Int):=by rw [IntWalk.i64_in _ (by omega)];omega
   obtain ⟨m,hm⟩:∃ m,16 - g = m + 1:=⟨15 - g,by omega⟩
   have hm2:16 - (g + 1) = m:=by omega
   have HM2:=Zh hm2
   rw [hm] at HEQ
   have hbit:=HBIT.out g hlt
   rw [show 16 - 1 - g = 15 - g by omega] at hbit
   have HA:=Zh (HAS.out g hlt wr)
   rw [hbit] at HA
   clear hm hm2 hbit
   by_cases hb:bit (rv bs) (at_ + g) = 1
   case neg =>
    have HE2:Hid (pickL (rv bs) at_ 16 0 (at_ + 16) [] = pickL (rv bs) at_ (16 - (g + 1)) (g + 1) at2 out):=Zh (by
     rw [HEQ.out,HM2.out]
     simp only [pickL,if_neg hb])
    rw [decide_eq_false hb] at HA
    clear HEQ hb
    go_wp2_with fail
    refine HA.out.mono ?_
    rintro e w2 ⟨rfl,h2⟩
    rw [h2]
    clear h2 HA
    go_wp2
    go_roundw
    case rel=>exact ⟨g + 1,at2,a1,c1,out,by omega,by go_num,rfl,HOW.out,HRD.out,HON.out,HE2.out,by omega⟩
    case measure=>simp [intOf];omega
   rw [decide_eq_true hb] at HA
   by_cases hle2:at2 + 16 <= 8 * bs.length
   case neg =>
    have HNO:=Zh (Zaq wr rp bs at2 16 (by decide) hrd (by omega))
    have HE2:Hid (pickL (rv bs) at_ 16 0 (at_ + 16) [] = none):=Zh (by
     rw [HEQ.out]
     simp only [pickL,if_pos hb]
     unfold nb
     rw [if_neg (by omega)])
    clear HEQ hb hrd
    go_wp2_with fail
    refine HA.out.mono ?_
    rintro e w2 ⟨rfl,h2⟩
    rw [h2]
    clear h2 HA
    go_wp2_with fail
    refine HNO.out.mono ?_
    rintro e w2 ⟨rfl,q,rfl⟩
    clear HNO
    go_wp2
    (try simp only [Exit.inBlock,Exit.then])
    refine bodyPost_ret (results_tmp2 rfl _ _ _) rfl ?_
    have hrn:R = none:=by rw [<- HRR.out,HE2.out]
    rw [hrn]
    exact ⟨HON.out.trans (Zah _ _ _),rfl⟩
   have HGT:=Zh (Zbn wr rp bs at2 16 (by decide) hrd hle2)
   have HE2:Hid (pickL (rv bs) at_ 16 0 (at_ + 16) [] = pickL (rv bs) at_ (16 - (g + 1)) (g + 1) (at2 + 16) (out ++ pickB (rv bs) at2 g)):=Zh (by
    rw [HEQ.out,HM2.out]
    simp only [pickL,if_pos hb]
    unfold nb
    rw [if_pos (by omega)])
   have HBIT2:=Zh (fun k (hk:k < 16)=>Zol (rv bs) at2 16 k hk)
   have hv2:=Zbq (rv bs) at2 16
   generalize numH (rv bs) at2 16 = v2 at *
   have HAS2:=Zh (fun k (hk:k < 16) (W:World)=>Zot v2 k hv2 hk W)
   clear HEQ hb hrd
   go_wp2_with fail
   refine HA.out.mono ?_
   rintro e w2 ⟨rfl,h2⟩
   rw [h2]
   clear h2 HA
   go_wp2_with fail
   refine HGT.out.mono ?_
   rintro e w3 ⟨rfl,hr3,ho3⟩
   have HR3:=Zh hr3
   have HO3:=Zh (HON.out.trans ho3)
   have HOW3:=Zh (HOW.out.only ho3 (fun b hb=>by show b ≠ rp;omega))
   have hz3:=Nat.le_trans hws ho3.size
   clear hr3 ho3 HGT HOW HON HRD
   go_wp2
   go_loopw [6,36] (fun ov kv A=>∃ (k:Nat) (a':Option Addr) (c':Nat),k <= 16 /\ kv = .int .i64 (k:Nat) /\ ov = .slice a' (out ++ pickK (rv bs) at2 g k).length c' /\ OwnN 5 .u8 A w.heap.size a' c' (out ++ pickK (rv bs) at2 g k) /\ Below w.heap.size w3 A) (fun _ kv _=>16 - (intOf kv).toNat)
   case atStart=>exact ⟨0,a1,c1,by omega,rfl,by simp [pickK],by simpa [pickK] using HOW3.out,Below.refl _ _⟩
   case round =>
    obtain ⟨k,a4,c4,hk,rfl,rfl,how4,hb4⟩:=hrel
    have HOW4:=Zh how4
    have HB4:=Zh hb4
    have hl4:=Ztb (rv bs) at2 g k
    have hz4:=Nat.le_trans hz3 hb4.size
    clear how4 hb4
    by_cases hlk:k < 16
    ·have hwk:IntKind.i64.wrap ((k:Int) + 1) = ((k + 1:Nat):Int):=by rw [IntWalk.i64_in _ (by omega)];omega
     have hbit:=HBIT2.out k hlk
     rw [show 16 - 1 - k = 15 - k by omega] at hbit
     have HA:=Zh (HAS2.out k hlk wr)
     rw [hbit] at HA
     have HPS:=Zh (Zqc (rv bs) at2 g k)
     clear hbit
     by_cases hb:bit (rv bs) (at2 + k) = 1
     ·rw [decide_eq_true hb] at HA
      rw [if_pos hb] at HPS
      obtain ⟨cc,hcc⟩:∃ cc,16 * g + k = cc:=⟨_,rfl⟩
      have hc1:IntKind.i64.wrap (16 * (g:Int)) = 16 * (g:Int):=IntWalk.i64_in _ (by omega)
      have hc2:IntKind.i64.wrap (16 * (g:Int) + (k:Int)) = (cc:Int):=by rw [IntWalk.i64_in _ (by omega)];omega
      have hc4:16 * (g:Int) + (k:Int) = (cc:Int):=by omega
      have hc3:IntKind.u8.wrap (cc:Int) = (cc:Int):=by simp only [IntKind.wrap,IntKind.bits,IntKind.signed];simp;omega
      rw [hcc] at HPS
      clear hb hcc
      go_wp2_with fail
      refine HA.out.mono ?_
      rintro e w5 ⟨rfl,h2⟩
      rw [h2]
      clear h2 HA
      generalize pickK (rv bs) at2 g k = pk at *
      go_wp2_with (at_builtin;refine app1N Zbl rfl (.tmp 43) (.tmp 49) rfl (y:=cc) (l:=out ++ pk) (base:=w.heap.size) (by rw [List.length_append];rfl) HOW4.out rfl (Nat.le_refl _) (by decide) (by rw [List.length_append];omega) (by rw [List.length_append];omega) hz4 ?_;intro a6 c6 w6 o6 hg6 hb6)
      have HO6:=Zh o6
      have HB6:=Zh (HB4.out.trans hb6)
      clear o6 hg6 hb6
      go_roundw
      case rel=>exact ⟨k + 1,a6,c6,by omega,by go_num,by rw [HPS.out,<- List.append_assoc,List.length_append,List.length_append];simp,by rw [HPS.out,<- List.append_assoc];exact HO6.out,HB6.out⟩
      case measure=>simp [intOf];omega
     ·rw [decide_eq_false hb] at HA
      rw [if_neg hb,List.append_nil] at HPS
      clear hb
      go_wp2_with fail
      refine HA.out.mono ?_
      rintro e w5 ⟨rfl,h2⟩
      rw [h2]
      clear h2 HA
      go_wp2
      go_roundw
      case rel=>exact ⟨k + 1,a4,c4,by omega,by go_num,by rw [HPS.out,List.length_append],by rw [HPS.out];exact HOW4.out,HB4.out⟩
      case measure=>simp [intOf];omega
    ·obtain rfl:k = 16:=by omega
     have HPB:Hid (pickK (rv bs) at2 g 16 = pickB (rv bs) at2 g):=Zh rfl
     rw [HPB.out] at HOW4 hl4 ⊢
     have hpl:(out ++ pickB (rv bs) at2 g).length <= 16 * (g + 1):=by rw [List.length_append];omega
     have hrpz:=HR3.out.lt
     clear hlk hk
     go_wp2
     go_roundw
     case rel=>exact ⟨g + 1,at2 + 16,a4,c4,out ++ pickB (rv bs) at2 g,by omega,by go_num,rfl,HOW4.out,HR3.out.belowAt HB4.out hrp,⟨HB4.out.os.trans HO3.out.os,HB4.out.tape.trans HO3.out.tape,HB4.out.output.trans HO3.out.output,Nat.le_trans HO3.out.size HB4.out.size,fun b hb hn=>(HB4.out.block b hb).trans (HO3.out.block b hb hn)⟩,HE2.out,hpl⟩
     case measure=>simp [intOf];omega
  ·obtain rfl:g = 16:=by omega
   have HE:Hid (pickL (rv bs) at_ 16 0 (at_ + 16) [] = some (out,at2)):=Zh (by rw [HEQ.out];rfl)
   clear HEQ hlt hrd
   by_cases h0:out = []
   ·have HE2:Hid ((match pickL (rv bs) at_ 16 0 (at_ + 16) [] with | some (out,at2)=>if out = [] then none else some (out,at2) | none=>none) = none):=Zh (by rw [HE.out];simp [h0])
    subst h0
    go_wp2
    go_ret2
    have hrn:R = none:=by rw [<- HRR.out];exact HE2.out
    rw [hrn]
    exact ⟨HON.out,rfl⟩
   ·have HE2:Hid ((match pickL (rv bs) at_ 16 0 (at_ + 16) [] with | some (out,at2)=>if out = [] then none else some (out,at2) | none=>none) = some (out,at2)):=Zh (by rw [HE.out];simp [h0])
    have hl0:((out.length:Int) == 0) = false:=by simp [h0]
    go_wp2
    go_ret2
    have hrn:R = some (out,at2):=by rw [<- HRR.out];exact HE2.out
    rw [hrn]
    exact ⟨HON.out,a1,c1,rfl,HOW.out,HRD.out⟩
end Go.Proofs.Ytnkpnjnfddjfpaa

namespace Go.Proofs.Ytnkpnjnfddjfpaa
open Go.RowKit Go.Shelf M01 M02 M27
theorem Zfs (v:Nat) (hv:v < 4294967296) (w:World):Calls Try.prog 172 #[.int .u32 (v:Nat),.int .i64 0] w fun e w'=>e = .returned (.int .i64 (v:Nat)) /\ w' = w:=by
 have h1:IntKind.i64.wrap (v:Int) = (v:Int):=IntWalk.i64_in _ (by omega)
 go_enter Try.func172,Try.ntmps172
 go_wp2
 go_ret
 exact ⟨rfl,rfl⟩
theorem Zfr (v:Value) (w:World):Calls Try.prog 172 #[v,.int .i64 2] w fun e w'=>e = .panicked formP /\ w' = w:=by
 go_enter Try.func172,Try.ntmps172
 go_wp2
 exact ⟨rfl,rfl,rfl⟩
theorem Zsn (r:Nat) (z:Value) (w:World) (h:OneR r w z) :
  CallsD Try.prog 174 #[.pointer (some ⟨r,0,none⟩)] (.panicking formP) w fun e u' w' =>
   e = .returned (.tuple #[]) /\ u' = .panicking [{ v:=.iface 25 (.int .i64 2),recovered:=true }] /\ w' = w.setCell ⟨r,0,none⟩ (.int .i64 2):=by
 unfold formP
 refine callsD_of_wpS Try.func174 rfl fun c₀ cs hu=>?_
 unfold OneR at h
 have f3:w.frozen? ⟨r,0,none⟩ = false:=by simp [World.frozen?,h]
 have g3:w.cell? ⟨r,0,none⟩ = some z:=cell_of_one h
 have te:=Zoy 2
 apply wpS_seq
 apply wpS_region
 simp [wpOpsS,go_sem,recoverD,hu,te,Try.ntmps174,Exit.thenS]
 apply wpS_seq
 apply wpS_region
 simp [wpOpsS,go_sem,Exit.thenS]
 refine wpS_cond (t:=true) (by simp [Act.eval,Array.replicate]) ?_
 simp only [if_true]
 apply wpS_region
 simp [wpOpsS,go_sem,g3,f3,bodyPostS,results,Try.results174]
theorem Zio (r:Nat) (w:World) :
  CallsD Try.prog 174 #[.pointer (some ⟨r,0,none⟩)] .returning w fun e u' w' =>
   e = .returned (.tuple #[]) /\ u' = .returning /\ w' = w:=by
 refine callsD_of_wpS Try.func174 rfl fun c₀ cs hu=>?_
 apply wpS_seq
 apply wpS_region
 have te:=Zoz
 simp [wpOpsS,go_sem,recoverD,hu,te,Try.ntmps174,Exit.thenS]
 apply wpS_seq
 apply wpS_region
 simp [wpOpsS,go_sem,Exit.thenS]
 refine wpS_cond (t:=false) (by simp [Act.eval,Array.replicate]) ?_
 simp only [Bool.false_eq_true,if_false]
 refine wpS_of_wp (wp_skip ?_)
 cases c₀
 simp_all [bodyPostS,results,Try.results174]
def lenDef (q:Nat):List Deferred:=[{ target:=Target.fn (Fn.func 174) #[.pointer (some ⟨q,0,none⟩)],args:=#[] }]
theorem Zvv {q:Nat} {A:World} {x z:Value} {tmps:Array Value} {Rr:Ending -> World -> Prop} (h:OneR q A z) (t4:tmps.getD 4 undef = x) (t5:tmps.getD 5 undef = .pointer (some ⟨q,0,none⟩))
  (hK:Rr (.returned (.tuple #[x,z])) A):bodyPostD Try.prog Try.f155 Rr .ret { tmps:=tmps,defers:=lenDef q } A:=by
 show Leaves _ _ _ _ (lenDef q) .returning A
 unfold lenDef
 refine leaves_cons (f:=174) (args:=#[.pointer (some ⟨q,0,none⟩)]) (by simp) (by simp [go_sem]) ?_
 refine (Zio q A).mono ?_
 rintro e u' w'' ⟨rfl,rfl,rfl⟩
 have g1:=cell_of_one h
 simp only [Leaves,settle]
 refine ⟨_,?_,hK⟩
 have s4:tmps[4]?.getD undef = x:=by simpa using t4
 have s5:tmps[5]?.getD undef = .pointer (some ⟨q,0,none⟩):=by simpa using t5
 simp [results,Try.results155,go_sem,s4,s5,g1]
theorem Zpt {q:Nat} {A:World} {z:Value} {tmps:Array Value} {Rr:Ending -> World -> Prop} (h:OneR q A z) (t5:tmps.getD 5 undef = .pointer (some ⟨q,0,none⟩))
  (hK:∀ x,Rr (.returned (.tuple #[x,.int .i64 2])) (A.setCell ⟨q,0,none⟩ (.int .i64 2))):bodyPostD Try.prog Try.f155 Rr (.panic formP) { tmps:=tmps,defers:=lenDef q } A:=by
 show Leaves _ _ _ _ (lenDef q) (.panicking formP) A
 unfold lenDef
 refine leaves_cons (f:=174) (args:=#[.pointer (some ⟨q,0,none⟩)]) (by simp) (by simp [go_sem]) ?_
 refine (Zsn q z A h).mono ?_
 rintro e u' w'' ⟨rfl,rfl,rfl⟩
 have g1:=cell_of_one (h.set (.int .i64 2))
 have s5:tmps[5]?.getD undef = .pointer (some ⟨q,0,none⟩):=by simpa using t5
 generalize A.setCell ⟨q,0,none⟩ (.int .i64 2) = B at *
 simp only [settle]
 simp [Leaves,results,Try.results155,go_sem,s5,g1,hK]
theorem Zrn (r:Nat) (z:Value) (w:World) (h:OneR r w z) :
  CallsD Try.prog 171 #[.pointer (some ⟨r,0,none⟩)] (.panicking formP) w fun e u' w' =>
   e = .returned (.tuple #[]) /\ u' = .panicking [{ v:=.iface 25 (.int .i64 2),recovered:=true }] /\ w' = w.setCell ⟨r,0,none⟩ (.int .i64 2):=by
 unfold formP
 refine callsD_of_wpS Try.func171 rfl fun c₀ cs hu=>?_
 unfold OneR at h
 have f3:w.frozen? ⟨r,0,none⟩ = false:=by simp [World.frozen?,h]
 have g3:w.cell? ⟨r,0,none⟩ = some z:=cell_of_one h
 have te:=Zoy 2
 apply wpS_seq
 apply wpS_region
 simp [wpOpsS,go_sem,recoverD,hu,te,Try.ntmps171,Exit.thenS]
 apply wpS_seq
 apply wpS_region
 simp [wpOpsS,go_sem,Exit.thenS]
 refine wpS_cond (t:=true) (by simp [Act.eval,Array.replicate]) ?_
 simp only [if_true]
 apply wpS_region
 simp [wpOpsS,go_sem,g3,f3,bodyPostS,results,Try.results171]
theorem Zin (r:Nat) (w:World) :
  CallsD Try.prog 171 #[.pointer (some ⟨r,0,none⟩)] .returning w fun e u' w' =>
   e = .returned (.tuple #[]) /\ u' = .returning /\ w' = w:=by
 refine callsD_of_wpS Try.func171 rfl fun c₀ cs hu=>?_
 apply wpS_seq
 apply wpS_region
 have te:=Zoz
 simp [wpOpsS,go_sem,recoverD,hu,te,Try.ntmps171,Exit.thenS]
 apply wpS_seq
 apply wpS_region
 simp [wpOpsS,go_sem,Exit.thenS]
 refine wpS_cond (t:=false) (by simp [Act.eval,Array.replicate]) ?_
 simp only [Bool.false_eq_true,if_false]
 refine wpS_of_wp (wp_skip ?_)
 cases c₀
 simp_all [bodyPostS,results,Try.results171]
def choDef (q:Nat):List Deferred:=[{ target:=Target.fn (Fn.func 171) #[.pointer (some ⟨q,0,none⟩)],args:=#[] }]
theorem Zvg {q:Nat} {A:World} {x z:Value} {tmps:Array Value} {Rr:Ending -> World -> Prop} (h:OneR q A z) (t4:tmps.getD 4 undef = x) (t5:tmps.getD 5 undef = .pointer (some ⟨q,0,none⟩))
  (hK:Rr (.returned (.tuple #[x,z])) A):bodyPostD Try.prog Try.f154 Rr .ret { tmps:=tmps,defers:=choDef q } A:=by
 show Leaves _ _ _ _ (choDef q) .returning A
 unfold choDef
 refine leaves_cons (f:=171) (args:=#[.pointer (some ⟨q,0,none⟩)]) (by simp) (by simp [go_sem]) ?_
 refine (Zin q A).mono ?_
 rintro e u' w'' ⟨rfl,rfl,rfl⟩
 have g1:=cell_of_one h
 simp only [Leaves,settle]
 refine ⟨_,?_,hK⟩
 have s4:tmps[4]?.getD undef = x:=by simpa using t4
 have s5:tmps[5]?.getD undef = .pointer (some ⟨q,0,none⟩):=by simpa using t5
 simp [results,Try.results154,go_sem,s4,s5,g1]
theorem Zpl {q:Nat} {A:World} {z:Value} {tmps:Array Value} {Rr:Ending -> World -> Prop} (h:OneR q A z) (t5:tmps.getD 5 undef = .pointer (some ⟨q,0,none⟩))
  (hK:∀ x,Rr (.returned (.tuple #[x,.int .i64 2])) (A.setCell ⟨q,0,none⟩ (.int .i64 2))):bodyPostD Try.prog Try.f154 Rr (.panic formP) { tmps:=tmps,defers:=choDef q } A:=by
 show Leaves _ _ _ _ (choDef q) (.panicking formP) A
 unfold choDef
 refine leaves_cons (f:=171) (args:=#[.pointer (some ⟨q,0,none⟩)]) (by simp) (by simp [go_sem]) ?_
 refine (Zrn q z A h).mono ?_
 rintro e u' w'' ⟨rfl,rfl,rfl⟩
 have g1:=cell_of_one (h.set (.int .i64 2))
 have s5:tmps[5]?.getD undef = .pointer (some ⟨q,0,none⟩):=by simpa using t5
 generalize A.setCell ⟨q,0,none⟩ (.int .i64 2) = B at *
 simp only [settle]
 simp [Leaves,results,Try.results154,go_sem,s5,g1,hK]
end Go.Proofs.Ytnkpnjnfddjfpaa

namespace Go.Proofs.Ytnkpnjnfddjfpaa
open Go.RowKit Go.Shelf M01 M02 M27
theorem Only.belowAt2 {T:Nat -> Prop} {w A B:World} {n:Nat} (h:Only T w A) (hb:Below n A B) (hn:w.heap.size <= n):Only T w B :=
 ⟨hb.os.trans h.os,hb.tape.trans h.tape,hb.output.trans h.output,Nat.le_trans h.size hb.size,fun b hb' ht=>(hb.block b (by omega)).trans (h.block b hb' ht)⟩
def rdAtM (A:World) (rp:Nat):Nat:=match A.cell? ⟨rp,1,none⟩ with
 | some v=>(intOf v).toNat
 | none=>0
theorem Zhh {A:World} {rp at_:Nat} {bs:List Nat} (h:RdM A rp bs at_):rdAtM A rp = at_:=by
 obtain ⟨a,cap,h1,_⟩:=h
 unfold rdAtM
 simp only [(Zda h1).2]
 simp [intOf]
theorem RdM.le {A:World} {rp at_:Nat} {bs:List Nat} (h:RdM A rp bs at_):at_ <= 8 * bs.length:=by
 obtain ⟨a,cap,_,_,_,_,h1,_⟩:=h
 exact h1
def lnV (v:Value):Nat:=match v with | .slice _ n _=>n | _=>0
def RowOut (w:World) (rp:Nat) (bs:List Nat) (R:Option (List Nat × Nat)) (e:Ending) (w':World):Prop :=
 Only (fun b=>b = rp) w w' /\ match R with
 | some (l,at2)=>∃ a c,e = .returned (.tuple #[.slice a l.length c,.int .i64 0]) /\ OwnN 5 .u8 w' w.heap.size a c l /\ RdM w' rp bs at2
 | none=>∃ x,e = .returned (.tuple #[x,.int .i64 2])
theorem RowOut.some {w w':World} {rp at2:Nat} {bs l:List Nat} {e:Ending} {R:Option (List Nat × Nat)} (hR:R = some (l,at2)) (h:Only (fun b=>b = rp) w w') (h2:∃ a c,e = .returned (.tuple #[.slice a l.length c,.int .i64 0]) /\ OwnN 5 .u8 w' w.heap.size a c l /\ RdM w' rp bs at2):RowOut w rp bs R e w':=by
 subst hR;exact ⟨h,h2⟩
theorem RowOut.none {w w':World} {rp:Nat} {bs:List Nat} {x:Value} {R:Option (List Nat × Nat)} (hR:R = none) (h:Only (fun b=>b = rp) w w'):RowOut w rp bs R (.returned (.tuple #[x,.int .i64 2])) w':=by
 subst hR;exact ⟨h,x,rfl⟩
theorem Zcx {w A:World} {q rp:Nat} {z:Value} {bs:List Nat} {R:Option (List Nat × Nat)} {tmps:Array Value} (hR:R = none) (h:OneR q A z) (ho:Only (fun b=>b = rp) w A) (hq:w.heap.size = q) (t5:tmps.getD 5 undef = .pointer (some ⟨q,0,none⟩)) :
  bodyPostD Try.prog Try.f155 (RowOut w rp bs R) (.panic formP) { tmps:=tmps,defers:=lenDef q } A :=
 Zpt h t5 fun x=>RowOut.none hR (ho.setCell (p:=⟨q,0,none⟩) (.inr (by show w.heap.size <= q;omega)) _)
set_option maxRecDepth 100000 in
set_option maxHeartbeats 3200000 in
theorem Znq (w:World) (rp:Nat) (bs:List Nat) (at_ n:Nat) (hn:n <= 258) (h:RdM w rp bs at_) :
  Calls Try.prog 155 #[.pointer (some ⟨rp,0,none⟩),.int .i64 (n:Nat)] w fun e w'=>RowOut w rp bs (lenG (rv bs) at_ n) e w':=by
 have hrp:=h.lt
 have hlen:=Zap bs
 have H:=Zh (h.below (Zai w (.cells #[.int .i64 0] 25)))
 have HONE:=Zh (OneR.new w (.int .i64 0))
 have HO0:=Zh (Only.ofBelow (T:=fun b=>b = rp) (Zai w (.cells #[.int .i64 0] 25)))
 have hsz:(w.alloc (.cells #[.int .i64 0] 25)).heap.size = w.heap.size + 1:=by simp
 clear h
 obtain ⟨R,hR0⟩:∃ R,R = lenG (rv bs) at_ n:=⟨_,rfl⟩
 rw [<- hR0]
 replace hR0:=Zh hR0
 have hmf:∀ (fn:Fn) (first cap:Array Value) (w:World),(Instr.makeFunc fn first cap).run Try.prog w = .ok (.func fn first cap) w:=fun _ _ _ _=>rfl
 go_enter_defers Try.func155,Try.ntmps155
 go_wp2_with fail
 generalize w.alloc (.cells #[.int .i64 0] 25) = w0 at *
 obtain ⟨q,hq⟩:∃ q,w.heap.size = q:=⟨_,rfl⟩
 simp only [hq] at HONE hsz hrp ⊢
 have HQ:=Zh hq
 clear hmf hq
 by_cases h1:at_ + 5 <= 8 * bs.length
 case neg =>
  have HR:Hid (R = none):=by unfold Hid;rw [hR0.out];unfold lenG numG nb;rw [if_neg (by omega)];rfl
  refine (Zaq w0 rp bs at_ 5 (by decide) H.out (by omega)).mono ?_
  rintro e w1 ⟨rfl,n1,rfl⟩
  clear h1
  go_wp2_with fail
  refine (Zfr (.int .u32 0) _).mono ?_
  rintro e w2 ⟨rfl,rfl⟩
  exact Zcx HR.out (HONE.out.only (Zah (fun _=>False) _ _) id) (HO0.out.trans (Zah _ _ _)) HQ.out rfl
 refine (Zbn w0 rp bs at_ 5 (by decide) H.out h1).mono ?_
 rintro e w1 ⟨rfl,hr1,ho1⟩
 have HR1:=Zh hr1
 have HO1:=Zh (HO0.out.trans ho1)
 have HQ1:=Zh (HONE.out.only ho1 (by show q ≠ rp;omega))
 have hx:=Zbq (rv bs) at_ 5
 have HF:Hid (R = lenL (rv bs) (nb (rv bs) + 2) (numH (rv bs) at_ 5) (at_ + 5) n []):=by
  unfold Hid;rw [hR0.out];unfold lenG numG nb;rw [if_pos (by omega)];rfl
 have hz1:=ho1.size
 clear hR0 hr1 ho1 H HO0 HONE
 generalize numH (rv bs) at_ 5 = x at *
 go_wp2_with fail
 refine (Zfs x (by omega) w1).mono ?_
 rintro e w1' ⟨rfl,rfl⟩
 go_wp2
 go_loopw [4,6] (fun ov kv A=>∃ (f k at2:Nat) (a':Option Addr) (c':Nat) (out:List Nat),kv = .int .i64 (k:Nat) /\ k <= 31 /\ ov = .slice a' out.length c' /\ out.length <= n /\ OwnN 5 .u8 A (q + 1) a' c' out /\ RdM A rp bs at2 /\ OneR q A (.int .i64 0) /\ Only (fun b=>b = rp) w A /\ R = lenL (rv bs) f k at2 n out /\ 8 * bs.length + 2 <= f + at2) (fun ov _ _=>n - lnV ov)
 case atStart=>exact ⟨_,x,at_ + 5,none,0,[],rfl,by omega,rfl,by simp,OwnN.nil _ _ _ _,HR1.out,HQ1.out,HO1.out,HF.out,by unfold nb;omega⟩
 case round =>
  obtain ⟨f,k,at2,a1,c1,out,rfl,hk31,rfl,hol,how,hrd,hon,honly,heq,hf⟩:=hrel
  have HW:=Zh how
  have HR2:=Zh hrd
  have HN:=Zh hon
  have HL:=Zh honly
  have HE:=Zh heq
  have hrA:=hrd.lt
  have hzA:=honly.size
  rw [HQ.out] at hzA
  clear how hrd hon honly heq HR1 HO1 HQ1 HF
  by_cases hlt:out.length < n
  ·have t1:decide (out.length < n) = true:=decide_eq_true hlt
   go_wp2_with fail
   go_loopw [6] (fun kv A=>∃ (f k at2:Nat),kv = .int .i64 (k:Nat) /\ k <= 31 /\ OwnN 5 .u8 A (q + 1) a1 c1 out /\ RdM A rp bs at2 /\ OneR q A (.int .i64 0) /\ Only (fun b=>b = rp) w A /\ R = lenL (rv bs) f k at2 n out /\ 8 * bs.length + 2 <= f + at2) (fun _ A=>8 * bs.length - rdAtM A rp)
   case atStart=>exact ⟨f,k,at2,rfl,hk31,HW.out,HR2.out,HN.out,HL.out,HE.out,hf⟩
   case round =>
    clear HW HR2 HN HL HE hf hk31 hrA
    obtain ⟨f,k,at2,rfl,hk31,how,hrd,hon,honly,heq,hf⟩:=hrel
    have HW:=Zh how
    have HR2:=Zh hrd
    have HN:=Zh hon
    have HL:=Zh honly
    have hrA:=hrd.lt
    have hat:=hrd.le
    have hrdA:=Zhh hrd
    have hzA:q + 1 <= wr.heap.size:=(Array.getElem?_eq_some_iff.1 hon).1
    obtain ⟨f,rfl⟩:∃ f',f = f' + 1:=⟨f - 1,by omega⟩
    have HE:=Zh heq
    unfold lenL at HE
    have hlt2:¬ n <= out.length:=by omega
    rw [if_neg hlt2] at HE
    clear how hrd hon honly heq hlt2
    by_cases hk1:k < 1
    ·have t2:decide ((k:Int) < 1) = true:=by simp;omega
     have HR:Hid (R = none):=by unfold Hid;rw [HE.out,if_pos (.inl hk1)]
     clear HE hk1
     go_wp2
     exact Zcx HR.out HN.out HL.out HQ.out rfl
    have t2:decide ((k:Int) < 1) = false:=by simp;omega
    by_cases hk2:20 < k
    ·have t3:decide ((20:Int) < (k:Int)) = true:=by simp;omega
     have HR:Hid (R = none):=by unfold Hid;rw [HE.out,if_pos (.inr (.inl hk2))]
     clear HE hk1 hk2
     go_wp2
     exact Zcx HR.out HN.out HL.out HQ.out rfl
    have t3:decide ((20:Int) < (k:Int)) = false:=by simp;omega
    by_cases h2:at2 + 1 <= 8 * bs.length
    case neg =>
     have HR:Hid (R = none):=by unfold Hid;rw [HE.out,if_pos (.inr (.inr (by unfold nb;omega)))]
     have HG:=Zh (Zaq wr rp bs at2 1 (by decide) HR2.out (by omega))
     clear HE
     go_wp2_with fail
     refine HG.out.mono ?_
     rintro e w2 ⟨rfl,n1,rfl⟩
     clear HG
     go_wp2_with fail
     refine (Zfr (.int .u32 0) _).mono ?_
     rintro e w3 ⟨rfl,rfl⟩
     exact Zcx HR.out (HN.out.only (Zah (fun _=>False) _ _) id) (HL.out.trans (Zah _ _ _)) HQ.out rfl
    have HG:=Zh (Zbn wr rp bs at2 1 (by decide) HR2.out h2)
    rw [if_neg (by unfold nb;omega)] at HE
    rw [Zkf] at HG
    have hbl:=Zgq (rv bs) at2
    generalize hbv:bit (rv bs) at2 = b at *
    clear hbv
    go_wp2_with fail
    refine HG.out.mono ?_
    rintro e w2 ⟨rfl,hr2,ho2⟩
    have HR3:=Zh hr2
    have HO3:=Zh (HL.out.trans ho2)
    have HN3:=Zh (HN.out.only ho2 (by show q ≠ rp;omega))
    have HW3:=Zh (HW.out.only ho2 (fun b hb=>by show b ≠ rp;omega))
    have hz2:=ho2.size
    clear hr2 ho2 HG HR2 HL HN HW
    go_wp2_with fail
    refine (Zfs b (by omega) w2).mono ?_
    rintro e w3 ⟨rfl,h3⟩
    rw [h3]
    clear h3 w3
    by_cases hb:b = 0
    ·subst hb
     rw [if_pos rfl] at HE
     have hu8:IntKind.u8.wrap (k:Int) = (k:Int):=by simp only [IntKind.wrap,IntKind.bits,IntKind.signed];simp;omega
     go_wp2_with (at_builtin;refine app1N Zbl rfl (.tmp 17) (.tmp 20) rfl (y:=k) (l:=out) (base:=q + 1) rfl HW3.out rfl (Nat.le_refl _) (by decide) (by omega) (by omega) (by omega) ?_;intro a6 c6 w6 o6 hg6 hb6)
     go_roundw
     case rel=>exact ⟨f,k,at2 + 1,a6,c6,out ++ [k],rfl,hk31,by rw [List.length_append];rfl,by rw [List.length_append];simp;omega,o6,HR3.out.belowAt hb6 (by omega),HN3.out.belowAt hb6 (by omega),HO3.out.belowAt2 hb6 (by rw [HQ.out];omega),HE.out,by omega⟩
     case measure=>simp [lnV];omega
    ·obtain rfl:b = 1:=by omega
     rw [if_neg (by decide)] at HE
     by_cases h4:at2 + 1 + 1 <= 8 * bs.length
     case neg =>
      have HR:Hid (R = none):=by unfold Hid;rw [HE.out,if_pos (by unfold nb;omega)]
      have HG:=Zh (Zaq w2 rp bs (at2 + 1) 1 (by decide) HR3.out (by omega))
      clear HE
      go_wp2_with fail
      refine HG.out.mono ?_
      rintro e w4 ⟨rfl,n1,rfl⟩
      clear HG
      go_wp2_with fail
      refine (Zfr (.int .u32 0) _).mono ?_
      rintro e w5 ⟨rfl,rfl⟩
      exact Zcx HR.out (HN3.out.only (Zah (fun _=>False) _ _) id) (HO3.out.trans (Zah _ _ _)) HQ.out rfl
     have HG:=Zh (Zbn w2 rp bs (at2 + 1) 1 (by decide) HR3.out h4)
     rw [if_neg (by unfold nb;omega)] at HE
     rw [Zkf] at HG
     have hbl:=Zgq (rv bs) (at2 + 1)
     generalize hbv:bit (rv bs) (at2 + 1) = b at *
     clear hbv
     go_wp2_with fail
     refine HG.out.mono ?_
     rintro e w4 ⟨rfl,hr4,ho4⟩
     have HR5:=Zh hr4
     have HO5:=Zh (HO3.out.trans ho4)
     have HN5:=Zh (HN3.out.only ho4 (by show q ≠ rp;omega))
     have HW5:=Zh (HW3.out.only ho4 (fun b hb=>by show b ≠ rp;omega))
     have hrd5:=Zhh hr4
     clear hr4 ho4 HG HR3 HO3 HN3 HW3
     obtain ⟨k2,hk2e⟩:∃ k2,(if b = 1 then k - 1 else k + 1) = k2:=⟨_,rfl⟩
     rw [hk2e] at HE
     have hk2i:(k:Int) + (1 - 2 * (b:Int)) = (k2:Int):=by
      rcases (by omega:b = 0 \/ b = 1) with rfl | rfl
      ·rw [if_neg (by decide)] at hk2e;omega
      ·rw [if_pos rfl] at hk2e;omega
     have hk2l:k2 <= 21:=by omega
     have hw1:IntKind.i64.wrap (2 * (b:Int)) = 2 * (b:Int):=IntWalk.i64_in _ (by omega)
     have hw2:IntKind.i64.wrap (1 - 2 * (b:Int)) = 1 - 2 * (b:Int):=IntWalk.i64_in _ (by omega)
     have hw3:IntKind.i64.wrap ((k:Int) + (1 - 2 * (b:Int))) = (k2:Int):=by rw [IntWalk.i64_in _ (by omega)];omega
     clear hk2e
     go_wp2_with fail
     refine (Zfs b (by omega) w4).mono ?_
     rintro e w5 ⟨rfl,h5⟩
     rw [h5]
     clear h5 w5
     go_wp2
     go_roundw
     case rel=>exact ⟨f,k2,at2 + 1 + 1,by go_num,by omega,HW5.out,HR5.out,HN5.out,HO5.out,HE.out,by omega⟩
     case measure=>rw [hrd5,hrdA];omega
  ·have t1:decide (out.length < n) = false:=decide_eq_false hlt
   obtain ⟨f,rfl⟩:∃ f',f = f' + 1:=⟨f - 1,by have:=HR2.out.le;omega⟩
   have HE2:Hid (R = some (out,at2)):=by unfold Hid;rw [HE.out];unfold lenL;rw [if_pos (by omega)]
   have hfr:wr.frozen? ⟨q,0,none⟩ = false:=Zam HN.out
   have hce:wr.cell? ⟨q,0,none⟩ = some (.int .i64 0):=cell_of_one HN.out
   clear HE
   go_wp2
   refine Zvv (x:=.slice a1 out.length c1) (HN.out.set (.int .i64 0)) rfl rfl ?_
   exact RowOut.some HE2.out (HL.out.setCell (p:=⟨q,0,none⟩) (.inr (by show w.heap.size <= q;rw [HQ.out];exact Nat.le_refl _)) _) ⟨a1,c1,rfl,((HW.out.other (p:=⟨q,0,none⟩) (fun g hg=>by show q ≠ g;rcases HW.out.form with ⟨h,_⟩ | ⟨g',h,hb,_⟩ <;> (rw [h] at hg;cases hg);omega) _).mono (by rw [HQ.out];omega)),HR2.out.only (T:=fun b=>b = q) ((Only.refl (fun b=>b = q) _).setCell (p:=⟨q,0,none⟩) (.inl rfl) _) (fun b hb=>by show b ≠ q;omega)⟩
theorem Ziu (w:World) (rp:Nat) (bs:List Nat) (at_ n:Nat) (hn0:3 <= n) (hn:n <= 258) (h:RdM w rp bs at_) :
  Calls Try.prog 117 #[.pointer (some ⟨rp,0,none⟩),.int .i64 (n:Nat)] w fun e w'=>RowOut w rp bs (lenG (rv bs) at_ n) e w':=by
 have HT:=Zh (Znq w rp bs at_ n hn h)
 have t1:decide ((n:Int) < 3) = false:=by simp;omega
 have t2:decide ((258:Int) < (n:Int)) = false:=by simp;omega
 clear h
 generalize hR:lenG (rv bs) at_ n = R at *
 clear hR
 go_enter Try.func117,Try.ntmps117
 go_wp2_with fail
 refine HT.out.mono ?_
 rintro e w1 h
 rcases R with _ | ⟨l,at2⟩
 ·obtain ⟨ho,x,rfl⟩:=h
  have HO:=Zh ho
  clear ho HT
  go_wp2
  go_ret2
  exact RowOut.none rfl HO.out
 ·obtain ⟨ho,a,c,rfl,hl,hr⟩:=h
  have HO:=Zh ho
  have HL:=Zh hl
  have HR:=Zh hr
  clear ho hl hr HT
  go_wp2
  go_ret2
  exact RowOut.some rfl HO.out ⟨a,c,rfl,HL.out,HR.out⟩
end Go.Proofs.Ytnkpnjnfddjfpaa
