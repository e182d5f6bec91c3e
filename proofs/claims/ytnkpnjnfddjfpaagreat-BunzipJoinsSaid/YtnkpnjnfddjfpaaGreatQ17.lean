/- layer 27's laws: empty, reads: contracts. layer 27's law BunzipReads. Slices of numbers that came in, as lists. -/
import Derived.Test.YtnkpnjnfddjfpaaGreatQ15
import Derived.Test.YtnkpnjnfddjfpaaGreatQ16
import Derived.Test.YtnkpnjnfddjfpaaGreatQ01
import Derived.Lib.SlBytesConst
set_option linter.unusedVariables false
set_option linter.unusedSimpArgs false
namespace Go.Proofs.YtnkpnjnfddjfpaaGreat
open Go.RowKit M01 M02 M04 M06 M10 M27
def exF:List Nat:=[66,90,104,49,49,65,89,38,83,89,151,98,134,25,128,0,2,65,0,32,0,48,0,32,0,33,128,96,64,55,5,220,145,78,20,36,37,216,161,134,64]
def exE:List Nat:=[66,90,104,49,23,114,69,56,80,144,0,0,0,0]
set_option maxRecDepth 100000 in
theorem Zzq:fileG 1 [[97,97,97,97,1,98]] true (-1) = exF:=by decide +kernel
set_option maxRecDepth 100000 in
theorem Zaby:bzG (rv exF) 9 (nb (rv exF) + 1) 0 ⟨[],0,false⟩ = some ⟨[97,97,97,97,97,98],6,false⟩:=by kernel_rfl
set_option maxRecDepth 100000 in
theorem Zabn:bzG (rv exE) 9 (nb (rv exE) + 1) 0 ⟨[],0,false⟩ = some ⟨[],0,false⟩:=by kernel_rfl
theorem Zabm:bzG (rv []) 9 (nb (rv []) + 1) 0 ⟨[],0,false⟩ = none:=by kernel_rfl
theorem rowM (w:World) (l:List Nat) (C:Array Value) (E:TypeId) (fr:Nat × Nat) (n:Nat) (hn:n = l.length) (hC:C = (l.map fun (n:Nat)=>Value.int .u8 n).toArray) (hl:l.length <= 9223372036854775807):RowN .u8 (w.alloc (.cells C E fr)) (some ⟨w.heap.size,0,none⟩) n l:=by
 subst hC hn
 refine ⟨Nat.le_refl _,⟨hl,fun h=>by cases h⟩,.inr ⟨w.heap.size,0,rfl,by simp,fun i hi=>?_⟩⟩
 have h:(w.alloc (.cells (l.map fun (n:Nat)=>Value.int .u8 n).toArray E fr)).heap[w.heap.size]? = some (.cells (l.map fun (n:Nat)=>Value.int .u8 n).toArray E fr):=Zcl w _ rfl
 rw [Nat.zero_add]
 unfold World.cell?
 dsimp only
 rw [h]
 simp [hi]
set_option maxRecDepth 100000 in
set_option maxHeartbeats 1600000 in
theorem Znm (w:World):Calls Tryz.prog 29 #[] w fun e w'=>∃ g,e = .returned (.slice (some ⟨g,0,none⟩) 14 14) /\ RowN .u8 w' (some ⟨g,0,none⟩) 14 exE /\ Below w.heap.size w w':=by
 have kc:=fun (w:World) (C:Array Value) (n c:Nat)=>Lib.run_convert_bytes_const (P:=Tryz.prog) w 22 5 C n c Tryz.underlying22 Tryz.underlying5
 have HL:=Zh (rowM w exE #[.int .u8 66,.int .u8 90,.int .u8 104,.int .u8 49,.int .u8 23,.int .u8 114,.int .u8 69,.int .u8 56,.int .u8 80,.int .u8 144,.int .u8 0,.int .u8 0,.int .u8 0,.int .u8 0] 5 (14,15) 14 rfl rfl (by decide))
 have HB:=Zh (Zai w (.cells #[.int .u8 66,.int .u8 90,.int .u8 104,.int .u8 49,.int .u8 23,.int .u8 114,.int .u8 69,.int .u8 56,.int .u8 80,.int .u8 144,.int .u8 0,.int .u8 0,.int .u8 0,.int .u8 0] 5 (14,15)))
 go_enter Tryz.func29,Tryz.ntmps29
 go_wp2_with fail
 go_ret
 exact ⟨_,rfl,HL.out,HB.out⟩
set_option maxRecDepth 100000 in
set_option maxHeartbeats 3200000 in
theorem Znn (w:World):Calls Tryz.prog 11 #[] w fun e w'=>e = .returned (.bool true) /\ Below w.heap.size w w':=by
 have kc:=fun (w:World) (C:Array Value) (n c:Nat)=>Lib.run_convert_bytes_const (P:=Tryz.prog) w 22 5 C n c Tryz.underlying22 Tryz.underlying5
 have HBZ:=Zh (fun bs A a c (h:RowN .u8 A a c bs) h256 hl=>Zli A a c bs 9 h h256 hl (by decide))
 obtain ⟨q,hq⟩:∃ q,w.heap.size = q:=⟨_,rfl⟩
 have HQ:=Zh hq
 go_enter Tryz.func11,Tryz.ntmps11
 go_wp2_with fail
 refine (Znm w).mono ?_
 rintro e w1 ⟨g1,rfl,ho1,hb1⟩
 rw [hq] at hb1
 have HE1:=Zh hb1
 have HR1:=Zh ho1
 have HQ1:Hid (q <= w1.heap.size):=by have:=hb1.size;unfold Hid;omega
 clear ho1 hb1
 go_wp2_with fail
 refine (HBZ.out exE w1 (some ⟨g1,0,none⟩) 14 HR1.out (by decide) (by decide)).mono ?_
 rintro e w2 ⟨hb2,ho2⟩
 rw [Zabn] at ho2
 obtain ⟨a2,c2,he,hr2⟩:=ho2
 replace he:e = .returned (.tuple #[.agg #[.slice a2 0 c2,.int .i64 0,.int .i64 14,.bool false],.int .i64 0]):=he
 subst he
 have HE2:=Zh (HE1.out.trans (hb2.mono HQ1.out))
 have HQ2:Hid (q <= w2.heap.size):=by have:=HE2.out.size;unfold Hid;omega
 clear hb2 hr2
 have HSA:=Zh (show FourC w2.heap.size (w2.alloc (.cells #[.slice a2 0 c2,.int .i64 0,.int .i64 14,.bool false] 24)) (.slice a2 0 c2) (.int .i64 0) (.int .i64 14) (.bool false) from Zcl _ _ rfl)
 have HEA:=Zh (HE2.out.trans ((Zai w2 (.cells #[.slice a2 0 c2,.int .i64 0,.int .i64 14,.bool false] 24)).mono HQ2.out))
 go_wp2_with fail
 obtain ⟨p1,hp1⟩:∃ p1,w2.heap.size = p1:=⟨_,rfl⟩
 rw [hp1] at HSA ⊢
 clear hp1
 generalize w2.alloc (.cells #[.slice a2 0 c2,.int .i64 0,.int .i64 14,.bool false] 24) = wa at *
 have HQA:Hid (q <= wa.heap.size):=by have:=HEA.out.size;unfold Hid;omega
 refine (HBZ.out [] wa none 0 (RowN.nil _ _) (by decide) (by decide)).mono ?_
 rintro e w3 ⟨hb3,ho3⟩
 rw [Zabm] at ho3
 obtain rfl:e = _:=ho3
 have HS3:=Zh (FourC.below HSA.out hb3)
 have HE3:=Zh (HEA.out.trans (hb3.mono HQA.out))
 have HQ3:Hid (q <= w3.heap.size):=by have:=HE3.out.size;unfold Hid;omega
 clear hb3
 obtain ⟨wz,hwz⟩:∃ wz,wz = w3.alloc (.cells #[.slice none 0 0,.int .i64 0,.int .i64 0,.bool false] 24):=⟨_,rfl⟩
 have hsz:wz.heap.size = w3.heap.size + 1:=by rw [hwz];simp
 have HSZ:=Zh (show FourC p1 wz (.slice a2 0 c2) (.int .i64 0) (.int .i64 14) (.bool false) by rw [hwz];exact HS3.out.below (Zai w3 _))
 have HEZ:=Zh (show Below q w wz by rw [hwz];exact HE3.out.trans ((Zai w3 _).mono HQ3.out))
 have kc3:=kc wz #[.int .u8 97,.int .u8 97,.int .u8 97,.int .u8 97,.int .u8 1,.int .u8 98] 6 6
 have HRM:=Zh (rowM wz [97,97,97,97,1,98] #[.int .u8 97,.int .u8 97,.int .u8 97,.int .u8 97,.int .u8 1,.int .u8 98] 5 (6,7) 6 rfl rfl (by decide))
 have HBM:=Zh (Zai wz (.cells #[.int .u8 97,.int .u8 97,.int .u8 97,.int .u8 97,.int .u8 1,.int .u8 98] 5 (6,7)))
 have hs6:(wz.alloc (.cells #[.int .u8 97,.int .u8 97,.int .u8 97,.int .u8 97,.int .u8 1,.int .u8 98] 5 (6,7))).heap.size = w3.heap.size + 1 + 1:=by rw [<- hsz];simp
 rw [hsz] at kc3 HRM
 rw [hwz] at kc3
 have kc3':(convert 22 22 (.slice (some ⟨w3.heap.size + 1,0,none⟩) 6 6)).run Tryz.prog ((w3.alloc (.cells #[.slice none 0 0,.int .i64 0,.int .i64 0,.bool false] 24)).alloc (.cells #[.int .u8 97,.int .u8 97,.int .u8 97,.int .u8 97,.int .u8 1,.int .u8 98] 5)) = .ok (.slice (some ⟨w3.heap.size + 1,0,none⟩) 6 6) ((w3.alloc (.cells #[.slice none 0 0,.int .i64 0,.int .i64 0,.bool false] 24)).alloc (.cells #[.int .u8 97,.int .u8 97,.int .u8 97,.int .u8 97,.int .u8 1,.int .u8 98] 5 (6,7))):=kc3
 have HWZ:=Zh hwz
 have HS6:=Zh hs6
 clear kc3 hwz hsz hs6
 go_wp2_with fail
 rw [<- HWZ.out]
 obtain ⟨wm,hwm⟩:∃ wm,wm = wz.alloc (.cells #[.int .u8 97,.int .u8 97,.int .u8 97,.int .u8 97,.int .u8 1,.int .u8 98] 5 (6,7)):=⟨_,rfl⟩
 rw [<- hwm] at HRM HBM HS6 ⊢
 clear hwm
 have HPS:=Zh (RowS.lit encSl wm [(some ⟨w3.heap.size + 1,0,none⟩,6,[97,97,97,97,1,98])] 22 #[.slice (some ⟨w3.heap.size + 1,0,none⟩) 6 6] (w3.heap.size + 1 + 1) HS6.out.symm rfl (by simp))
 have HBC:=Zh (Zai wm (.cells #[.slice (some ⟨w3.heap.size + 1,0,none⟩) 6 6] 22))
 have HRC:=Zh (HRM.out.below HBC.out)
 have HSC:=Zh ((HSZ.out.below HBM.out).below HBC.out)
 have HQZ:Hid (q <= wz.heap.size):=by have:=HEZ.out.size;unfold Hid;omega
 have HQM:Hid (q <= wm.heap.size):=by have:=HBM.out.size;have:=HQZ.out;unfold Hid;omega
 have HEC:=Zh ((HEZ.out.trans (HBM.out.mono HQZ.out)).trans (HBC.out.mono HQM.out))
 generalize wm.alloc (.cells #[.slice (some ⟨w3.heap.size + 1,0,none⟩) 6 6] 22) = wc at *
 have HQC:Hid (q <= wc.heap.size):=by have:=HEC.out.size;unfold Hid;omega
 have HF:=Zh (Zqy 1 (some ⟨w3.heap.size + 1 + 1,0,none⟩) 1 [(some ⟨w3.heap.size + 1,0,none⟩,6,[97,97,97,97,1,98])] true (-1) wc (by decide) HPS.out (fun i h=>by
  obtain rfl:i = 0:=by simp at h;omega
  exact HRC.out) (fun p hp=>by
  obtain rfl:p = [97,97,97,97,1,98]:=by simpa using hp
  decide) (by simp) (by decide))
 have hex:fileG 1 (List.map (fun t=>t.2.2) [((some ⟨w3.heap.size + 1,0,none⟩:Option Addr),(6:Nat),[97,97,97,97,1,98])]) true (-1) = exF:=Zzq
 rw [hex] at HF
 clear hex
 refine HF.out.mono ?_
 rintro e w5 ⟨g5,c5,he5,ho5,hb5⟩
 replace he5:e = .returned (.slice g5 41 c5):=he5
 subst he5
 have HR5:=Zh ho5.row
 have HS5:=Zh (HSC.out.below hb5)
 have HE5:=Zh (HEC.out.trans (hb5.mono HQC.out))
 have HQ5:Hid (q <= w5.heap.size):=by have:=HE5.out.size;unfold Hid;omega
 clear ho5 hb5 kc3' HF
 go_wp2_with fail
 refine (HBZ.out exF w5 g5 c5 HR5.out (by decide) (by decide)).mono ?_
 rintro e w6 h6
 rw [Zaby] at h6
 obtain ⟨hb6,ho6⟩:=h6
 obtain ⟨a6,c6,he,hr6⟩:=ho6
 replace he:e = .returned (.tuple #[.agg #[.slice a6 6 c6,.int .i64 6,.int .i64 41,.bool false],.int .i64 0]):=he
 subst he
 have HS6:=Zh (HS5.out.below hb6)
 have HE6:=Zh (HE5.out.trans (hb6.mono HQ5.out))
 have HQ6:Hid (q <= w6.heap.size):=by have:=HE6.out.size;unfold Hid;omega
 have HR6:=Zh (hr6.below (Zai w6 (.cells #[.slice a6 6 c6,.int .i64 6,.int .i64 41,.bool false] 24)))
 have HS7:=Zh (HS6.out.below (Zai w6 (.cells #[.slice a6 6 c6,.int .i64 6,.int .i64 41,.bool false] 24)))
 have HN7:=Zh (show FourC w6.heap.size (w6.alloc (.cells #[.slice a6 6 c6,.int .i64 6,.int .i64 41,.bool false] 24)) (.slice a6 6 c6) (.int .i64 6) (.int .i64 41) (.bool false) from Zcl _ _ rfl)
 have HE7:=Zh (HE6.out.trans ((Zai w6 (.cells #[.slice a6 6 c6,.int .i64 6,.int .i64 41,.bool false] 24)).mono HQ6.out))
 clear hb6 hr6
 obtain ⟨c0,c1,c2',c3,_,_⟩:=Zac HS7.out
 obtain ⟨d0,d1,d2,d3,_,_⟩:=Zac HN7.out
 have hcv:=Zbs (n:=6) Tryz.underlying22 Tryz.underlying5 Tryz.underlying9 rfl HR6.out
 have htl:(strOf [97,97,97,97,97,98]).toList = [97,97,97,97,97,98]:=by rw [Zel];rfl
 have htb:((strOf [97,97,97,97,97,98]).toList == [97,97,97,97,97,98]) = true:=by rw [htl];rfl
 go_wp2_with fail
 go_ret
 exact ⟨rfl,by rw [HQ.out];exact HE7.out⟩
end Go.Proofs.YtnkpnjnfddjfpaaGreat

namespace Go.Proofs.YtnkpnjnfddjfpaaGreat
open Go.RowKit M01 M02 M04 M06 M10 M27
set_option maxRecDepth 100000 in
set_option maxHeartbeats 1600000 in
theorem Zrc (w:World) (a1 a2:Option Addr) (c1 c2:Nat) (l:List Nat) (s u:Int) (b:Bool) (h1:RowN .u8 w a1 c1 l) (h2:RowN .u8 w a2 c2 l) :
  Calls Tryz.prog 10 #[.agg #[.slice a1 l.length c1,.int .i64 s,.int .i64 u,.bool b],.agg #[.slice a2 l.length c2,.int .i64 s,.int .i64 u,.bool b]] w fun e w'=>e = .returned (.bool true) /\ Below w.heap.size w w':=by
 have b1:=Zai w (.cells #[.slice a1 l.length c1,.int .i64 s,.int .i64 u,.bool b] 24)
 have b2:=Zai (w.alloc (.cells #[.slice a1 l.length c1,.int .i64 s,.int .i64 u,.bool b] 24)) (.cells #[.slice a2 l.length c2,.int .i64 s,.int .i64 u,.bool b] 24)
 have hcv1:=Zbs Tryz.underlying22 Tryz.underlying5 Tryz.underlying9 rfl ((h1.below b1).below b2)
 have hcv2:=Zbs Tryz.underlying22 Tryz.underlying5 Tryz.underlying9 rfl ((h2.below b1).below b2)
 have HB:=Zh (b1.trans (b2.mono b1.size))
 clear b1 b2 h1 h2
 obtain ⟨x,hx⟩:∃ x,strOf l = x:=⟨_,rfl⟩
 rw [hx] at hcv1 hcv2
 clear hx
 obtain ⟨n,hn⟩:∃ n,l.length = n:=⟨_,rfl⟩
 rw [hn] at hcv1 hcv2 HB ⊢
 clear hn
 have t1:(x.toList == x.toList) = true:=by simp
 have t2:(s == s) = true:=by simp
 have t3:(u == u) = true:=by simp
 have t4:(b == b) = true:=by simp
 go_enter Tryz.func10,Tryz.ntmps10
 go_wp2_with fail
 go_ret
 exact ⟨rfl,HB.out⟩
def flowZ (l:List Nat) (k:Int):List Nat × Int × Int × Bool × Int :=
 if k < 0 then ([],0,0,false,5) else match bzG (rv l) k.toNat (nb (rv l) + 1) 0 ⟨[],0,false⟩ with
 | none=>([],0,0,false,2)
 | some F=>(F.bytes,(F.size:Nat),(l.length:Nat),F.wrong,0)
def OutZ (w:World) (r:List Nat × Int × Int × Bool × Int) (e:Ending) (w':World):Prop:=Below w.heap.size w w' /\ ∃ a c,e = .returned (.tuple #[.agg #[.slice a r.1.length c,.int .i64 r.2.1,.int .i64 r.2.2.1,.bool r.2.2.2.1],.int .i64 r.2.2.2.2]) /\ RowN .u8 w' a c r.1
theorem Zox {w w':World} {e:Ending} {l:List Nat} {k:Int} (hk:k < 0) (h:e = .returned (.tuple #[.agg #[.slice none 0 0,.int .i64 0,.int .i64 0,.bool false],.int .i64 5]) /\ Below w.heap.size w w'):OutZ w (flowZ l k) e w':=by
 unfold flowZ
 rw [if_pos hk]
 exact ⟨h.2,none,0,h.1,RowN.nil _ _⟩
theorem Zoy {w w':World} {e:Ending} {l:List Nat} {k:Int} (hk:¬ k < 0) (h:BzOut w l.length (bzG (rv l) k.toNat (nb (rv l) + 1) 0 ⟨[],0,false⟩) e w'):OutZ w (flowZ l k) e w':=by
 unfold flowZ
 rw [if_neg hk]
 generalize bzG (rv l) k.toNat (nb (rv l) + 1) 0 ⟨[],0,false⟩ = R at *
 obtain ⟨h1,h2⟩:=h
 cases R with
 | none=>exact ⟨h1,none,0,h2,RowN.nil _ _⟩
 | some F=>obtain ⟨a,c,h3,h4⟩:=h2;exact ⟨h1,a,c,h3,h4⟩
theorem Zabj (w:World) (a:Option Addr) (c:Nat) (l:List Nat) (k:Int) (h:RowN .u8 w a c l) (h256:∀ x ∈ l,x < 256) (hl:l.length <= 1000) (hk:k <= 3000):Calls Tryz.prog 8 #[.slice a l.length c,.int .i64 k] w (OutZ w (flowZ l k)):=by
 by_cases hn:k < 0
 ·exact (Zabk w a c l.length k hn).mono fun e w' h=>Zox hn h
 ·obtain ⟨m,rfl⟩:=Int.eq_ofNat_of_zero_le (show 0 <= k by omega)
  exact (Zli w a c l m h h256 (by omega) (by omega)).mono fun e w' h=>Zoy hn h
theorem Zur (w:World) (a:Option Addr) (c:Nat) (l:List Nat) (k:Int) (h:RowN .u8 w a c l) (h256:∀ x ∈ l,x < 256) (hl:l.length <= 1000) (hk:k <= 3000):Calls Tryz.prog 9 #[.slice a l.length c,.int .i64 k] w (OutZ w (flowZ l k)):=by
 by_cases hn:k < 0
 ·exact (Zus w a c l.length k hn).mono fun e w' h=>Zox hn h
 ·obtain ⟨m,rfl⟩:=Int.eq_ofNat_of_zero_le (show 0 <= k by omega)
  exact (Zml w a c l m h h256 hl (by omega)).mono fun e w' h=>Zoy hn h
set_option maxRecDepth 100000 in
set_option maxHeartbeats 3200000 in
theorem Zij (w:World) (a:Option Addr) (ca:Nat) (l:List Nat) (k:Int) (ha:RowN .u8 w a ca l) (h256:∀ x ∈ l,x < 256) :
  Calls Tryz.prog 3 #[.slice a l.length ca,.int .i64 k] w fun e w'=>e = .returned (.bool true) /\ Below w.heap.size w w':=by
 by_cases c1:400 < l.length
 ·have t1:decide ((400:Int) < (l.length:Int)) = true:=by simp;omega
  clear ha h256 c1
  go_enter Tryz.func3,Tryz.ntmps3
  go_wp2
  go_ret
  exact ⟨rfl,Below.refl _ _⟩
 have t1:decide ((400:Int) < (l.length:Int)) = false:=by simp;omega
 by_cases c2:3000 < k
 ·have t2:decide ((3000:Int) < k) = true:=by simpa using c2
  clear ha h256 c1 c2
  go_enter Tryz.func3,Tryz.ntmps3
  go_wp2
  go_ret
  exact ⟨rfl,Below.refl _ _⟩
 have t2:decide ((3000:Int) < k) = false:=by simpa using c2
 have hl3:l.length <= 400:=by omega
 have HA:=Zh ha
 have hbl:=Zai w (.cells #[] 5)
 have HA1:=Zh (ha.below hbl)
 have HB1:=Zh hbl
 have HO1:=Zh (OwnN.lit0 5 .u8 w w.heap.size (Nat.le_refl _))
 have hwz:w.heap.size <= (w.alloc (.cells #[] 5)).heap.size:=by simp
 have HI:=Zh (fun w a c (h:RowN .u8 w a c l)=>Zabj w a c l k h h256 (by omega) (by omega))
 have HR:=Zh (fun w a c (h:RowN .u8 w a c l)=>Zur w a c l k h h256 (by omega) (by omega))
 generalize flowZ l k = r at *
 obtain ⟨fl,s,u,b,er⟩:=r
 clear ha h256 c1 c2 hbl
 obtain ⟨n,hn⟩:∃ n,l.length = n:=⟨_,rfl⟩
 rw [hn] at HI HR t1 hl3 ⊢
 replace hn:=Zh hn
 go_enter Tryz.func3,Tryz.ntmps3
 go_wp2_with (at_builtin;refine appAnyN Zaz rfl (.tmp 17) (.tmp 18) rfl (base:=w.heap.size) (m:=n) (l:=[]) (ys:=l) rfl HO1.out hn.out.symm rfl HA1.out (by simp;omega) (by simp;omega) hwz ?_;intro a7 c7 w7 hown7 hg7 hb7;simp only [List.nil_append,List.length_nil,Nat.zero_add] at hown7 ⊢;have HO7:=Zh hown7.row;have HB7:=Zh (HB1.out.trans (hb7.mono (Nat.le_refl _)));have HA7:=Zh (HA.out.below HB7.out);clear hown7 hg7 hb7)
 refine (HI.out w7 a7 c7 HO7.out).mono ?_
 rintro e w8 ⟨hb8,xa,xc,rfl,hx8⟩
 dsimp only at hx8 ⊢
 have hbx8:=Zai w8 (.cells #[.slice xa fl.length xc,.int .i64 s,.int .i64 u,.bool b] 24)
 have HF8:=Zh (show FourC w8.heap.size (w8.alloc (.cells #[.slice xa fl.length xc,.int .i64 s,.int .i64 u,.bool b] 24)) _ _ _ _ from Zcl _ _ rfl)
 have HX8:=Zh (hx8.below hbx8)
 have HB8:=Zh ((HB7.out.trans (hb8.mono HB7.out.size)).trans (hbx8.mono (HB7.out.trans (hb8.mono HB7.out.size)).size))
 have HA8:=Zh ((HA7.out.below hb8).below hbx8)
 have HO8:=Zh ((HO7.out.below hb8).below hbx8)
 clear hb8 hx8 hbx8 HO7 HB7 HA7
 go_wp2_with fail
 obtain ⟨w9,hw9⟩:∃ w9,w8.alloc (.cells #[.slice xa fl.length xc,.int .i64 s,.int .i64 u,.bool b] 24) = w9:=⟨_,rfl⟩
 rw [hw9] at HF8 HB8 HA8 HO8 HX8
 rw [hw9]
 clear hw9
 generalize w8.heap.size = bx at *
 refine (HR.out w9 a ca HA8.out).mono ?_
 rintro e w10 ⟨hb10,ya,yc,rfl,hy10⟩
 dsimp only at hy10 ⊢
 have hby:=Zai w10 (.cells #[.slice ya fl.length yc,.int .i64 s,.int .i64 u,.bool b] 24)
 have HF10:=Zh ((FourC.below HF8.out hb10).below hby)
 have HX10:=Zh ((HX8.out.below hb10).below hby)
 have HY10:=Zh (hy10.below hby)
 have HB10:=Zh ((HB8.out.trans (hb10.mono HB8.out.size)).trans (hby.mono (HB8.out.trans (hb10.mono HB8.out.size)).size))
 have HA10:=Zh ((HA8.out.below hb10).below hby)
 have HO10:=Zh ((HO8.out.below hb10).below hby)
 clear hb10 hy10 hby HF8 HX8 HB8 HA8 HO8 HI HR
 obtain ⟨e0,e1,e2,e3,_,_⟩:=Zac HF10.out
 have HSM:=Zh (Zrc _ xa ya xc yc fl s u b HX10.out HY10.out)
 have tc:(er == er) = true:=by simp
 go_wp2_with fail
 refine HSM.out.mono ?_
 rintro e w12 ⟨rfl,hb12⟩
 have HB12:=Zh (HB10.out.trans (hb12.mono HB10.out.size))
 have hcv1:=Zbs (n:=n) Tryz.underlying22 Tryz.underlying5 Tryz.underlying9 hn.out.symm (HO10.out.below hb12)
 have hcv2:=Zbs (n:=n) Tryz.underlying22 Tryz.underlying5 Tryz.underlying9 hn.out.symm (HA10.out.below hb12)
 have tl:((strOf l).toList == (strOf l).toList) = true:=by simp
 clear HSM hb12 e0 e1 e2 e3 HF10 HX10 HY10 HA10 HO10 HB10
 generalize strOf l = x at *
 go_wp2_with fail
 refine (Znn w12).mono ?_
 rintro e w13 ⟨rfl,hb13⟩
 have HB13:=Zh (HB12.out.trans (hb13.mono HB12.out.size))
 clear hb13 HB12
 go_wp2
 go_ret
 exact ⟨rfl,HB13.out⟩
end Go.Proofs.YtnkpnjnfddjfpaaGreat

namespace Go.Proofs.YtnkpnjnfddjfpaaGreat
open Go.RowKit
theorem Zvm {w:World} {x:Addr} {v:Value} (h:w.cell? x = some v):x.spot = none /\ x.block < w.heap.size:=by
 unfold World.cell? at h
 cases ho:w.heap[x.block]? with
 | none=>simp [ho] at h
 | some o =>
  refine ⟨?_,(Array.getElem?_eq_some_iff.1 ho).1⟩
  rw [ho] at h
  cases o <;> simp at h
  exact h.1
theorem Zuv {k:IntKind} {w:World} {a:Option Addr} {len cap:Nat} {zs:List Int}
  (h:(a = none /\ len = 0 /\ cap = 0 /\ zs = []) \/ ∃ x,a = some x /\ len <= cap /\ cap <= maxLen /\ zs.length = cap /\ (∀ i,i < zs.length -> w.cell? (x.add i) = some (.int k (zs.getD i 0))) /\ ∀ n ∈ zs,(Lit.int k n).wf = true) :
  ∃ l:List Int,l.length = len /\ RowI k w a cap l /\ ∀ n ∈ l,(Lit.int k n).wf = true:=by
 rcases h with ⟨rfl,rfl,rfl,rfl⟩ | ⟨x,rfl,hl,hm,hz,hc,hw⟩
 ·exact ⟨[],rfl,RowI.nil k w,by simp⟩
 ·refine ⟨zs.take len,by simp;omega,⟨by simp;omega,⟨by simpa [maxLen] using hm,fun hn=>by cases hn⟩,?_⟩,fun n hn=>hw n (List.mem_of_mem_take hn)⟩
  by_cases h0:zs.take len = []
  ·exact .inl h0
  ·have hp:0 < (zs.take len).length:=List.length_pos_iff.2 h0
   simp only [List.length_take] at hp
   have h1:=hc 0 (by omega)
   simp only [Addr.add,if_true] at h1
   obtain ⟨hs,hb⟩:=Zvm h1
   refine .inr ⟨x.block,x.off,by cases x;simp_all,hb,fun i hi=>?_⟩
   simp only [List.length_take] at hi
   have h2:=hc i (by omega)
   have h3:x.add i = ⟨x.block,x.off + i,none⟩:=by
    unfold Addr.add
    split
    ·cases x;simp_all
    ·rfl
   rw [h3] at h2
   rw [h2]
   simp [show i < zs.length by omega]
def natOf (l:List Int):List Nat:=l.map Int.toNat
theorem Zuy {k:IntKind} {w:World} {a:Option Addr} {cap:Nat} {l:List Int} (h:RowI k w a cap l) (hp:∀ n ∈ l,0 <= n):RowN k w a cap (natOf l):=by
 obtain ⟨h1,h2,h3⟩:=h
 refine ⟨by simpa [natOf] using h1,h2,?_⟩
 rcases h3 with rfl | ⟨b,off,ha,hb,hc⟩
 ·exact .inl rfl
 ·refine .inr ⟨b,off,ha,hb,fun i hi=>?_⟩
  simp only [natOf,List.length_map] at hi
  rw [hc i hi]
  simp only [natOf,List.getElem_map]
  rw [Int.toNat_of_nonneg (hp _ (List.getElem_mem hi))]
theorem Zabe {n:Int} (h:(Lit.int .u8 n).wf = true):0 <= n /\ n < 256:=by
 simp [Lit.wf,IntKind.min,IntKind.max,IntKind.signed,IntKind.bits] at h
 omega
theorem Zrb {w:World} {a:Option Addr} {len cap:Nat} {zs:List Int}
  (h:(a = none /\ len = 0 /\ cap = 0 /\ zs = []) \/ ∃ x,a = some x /\ len <= cap /\ cap <= maxLen /\ zs.length = cap /\ (∀ i,i < zs.length -> w.cell? (x.add i) = some (.int .u8 (zs.getD i 0))) /\ ∀ n ∈ zs,(Lit.int .u8 n).wf = true) :
  ∃ l:List Nat,l.length = len /\ RowN .u8 w a cap l /\ ∀ n ∈ l,n < 256:=by
 obtain ⟨l,h1,h2,h3⟩:=Zuv h
 refine ⟨natOf l,by simpa [natOf] using h1,Zuy h2 fun n hn=>(Zabe (h3 n hn)).1,fun n hn=>?_⟩
 simp only [natOf,List.mem_map] at hn
 obtain ⟨m,hm,rfl⟩:=hn
 have:=Zabe (h3 m hm)
 omega
end Go.Proofs.YtnkpnjnfddjfpaaGreat
