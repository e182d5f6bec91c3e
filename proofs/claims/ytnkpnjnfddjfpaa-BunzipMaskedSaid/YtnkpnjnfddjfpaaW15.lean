/- layer 27's laws: empty, reads: contracts. Plain: the way back of Turn: backG of turnG. Plain: the way back of Put (layer 22), and of the mask (layer 26). Plain: bits of a flat block are read back (layers 22 to 26). Plain: a file of flat blocks is read back, with its sums. Slices of numbers that came in, as lists. -/
import Derived.Test.YtnkpnjnfddjfpaaW12
import Derived.Test.YtnkpnjnfddjfpaaW13
import Derived.Test.YtnkpnjnfddjfpaaW14
import Derived.Test.YtnkpnjnfddjfpaaW02
import Derived.Test.YtnkpnjnfddjfpaaW04
import Derived.Test.YtnkpnjnfddjfpaaW08
import Derived.Test.YtnkpnjnfddjfpaaW01
import Derived.Lib.SlBytesConst
set_option linter.unusedVariables false
set_option linter.unusedSimpArgs false
namespace Go.Proofs.Ytnkpnjnfddjfpaa
open Go.RowKit M01 M02 M04 M06 M10 M27
def exF:List Nat:=[66,90,104,49,49,65,89,38,83,89,151,98,134,25,128,0,2,65,0,32,0,48,0,32,0,33,128,96,64,55,5,220,145,78,20,36,37,216,161,134,64]
def exE:List Nat:=[66,90,104,49,23,114,69,56,80,144,0,0,0,0]
set_option maxRecDepth 100000 in
theorem Zye:fileG 1 [[97,97,97,97,1,98]] true (-1) = exF:=by decide +kernel
set_option maxRecDepth 100000 in
theorem Zaah:bzG (rv exF) 9 (nb (rv exF) + 1) 0 ⟨[],0,false⟩ = some ⟨[97,97,97,97,97,98],6,false⟩:=by kernel_rfl
set_option maxRecDepth 100000 in
theorem Zzx:bzG (rv exE) 9 (nb (rv exE) + 1) 0 ⟨[],0,false⟩ = some ⟨[],0,false⟩:=by kernel_rfl
theorem Zzw:bzG (rv []) 9 (nb (rv []) + 1) 0 ⟨[],0,false⟩ = none:=by kernel_rfl
theorem rowM (w:World) (l:List Nat) (C:Array Value) (E:TypeId) (fr:Nat × Nat) (n:Nat) (hn:n = l.length) (hC:C = (l.map fun (n:Nat)=>Value.int .u8 n).toArray) (hl:l.length <= 9223372036854775807):RowN .u8 (w.alloc (.cells C E fr)) (some ⟨w.heap.size,0,none⟩) n l:=by
 subst hC hn
 refine ⟨Nat.le_refl _,⟨hl,fun h=>by cases h⟩,.inr ⟨w.heap.size,0,rfl,by simp,fun i hi=>?_⟩⟩
 have h:(w.alloc (.cells (l.map fun (n:Nat)=>Value.int .u8 n).toArray E fr)).heap[w.heap.size]? = some (.cells (l.map fun (n:Nat)=>Value.int .u8 n).toArray E fr):=Zkp w _ rfl
 rw [Nat.zero_add]
 unfold World.cell?
 dsimp only
 rw [h]
 simp [hi]
set_option maxRecDepth 100000 in
set_option maxHeartbeats 1600000 in
theorem Znc (w:World):Calls Try.prog 23 #[] w fun e w'=>∃ g,e = .returned (.slice (some ⟨g,0,none⟩) 14 14) /\ RowN .u8 w' (some ⟨g,0,none⟩) 14 exE /\ Below w.heap.size w w':=by
 have kc:=fun (w:World) (C:Array Value) (n c:Nat)=>Lib.run_convert_bytes_const (P:=Try.prog) w 22 5 C n c Try.underlying22 Try.underlying5
 have HL:=Zh (rowM w exE #[.int .u8 66,.int .u8 90,.int .u8 104,.int .u8 49,.int .u8 23,.int .u8 114,.int .u8 69,.int .u8 56,.int .u8 80,.int .u8 144,.int .u8 0,.int .u8 0,.int .u8 0,.int .u8 0] 5 (14,15) 14 rfl rfl (by decide))
 have HB:=Zh (Zai w (.cells #[.int .u8 66,.int .u8 90,.int .u8 104,.int .u8 49,.int .u8 23,.int .u8 114,.int .u8 69,.int .u8 56,.int .u8 80,.int .u8 144,.int .u8 0,.int .u8 0,.int .u8 0,.int .u8 0] 5 (14,15)))
 go_enter Try.func23,Try.ntmps23
 go_wp2_with fail
 go_ret
 exact ⟨_,rfl,HL.out,HB.out⟩
set_option maxRecDepth 100000 in
set_option maxHeartbeats 3200000 in
theorem Zhw (w:World):Calls Try.prog 9 #[] w fun e w'=>e = .returned (.bool true) /\ Below w.heap.size w w':=by
 have kc:=fun (w:World) (C:Array Value) (n c:Nat)=>Lib.run_convert_bytes_const (P:=Try.prog) w 22 5 C n c Try.underlying22 Try.underlying5
 have HBZ:=Zh (fun bs A a c (h:RowN .u8 A a c bs) h256 hl=>Zky A a c bs 9 h h256 hl (by decide))
 obtain ⟨q,hq⟩:∃ q,w.heap.size = q:=⟨_,rfl⟩
 have HQ:=Zh hq
 go_enter Try.func9,Try.ntmps9
 go_wp2_with fail
 refine (Znc w).mono ?_
 rintro e w1 ⟨g1,rfl,ho1,hb1⟩
 rw [hq] at hb1
 have HE1:=Zh hb1
 have HR1:=Zh ho1
 have HQ1:Hid (q <= w1.heap.size):=by have:=hb1.size;unfold Hid;omega
 clear ho1 hb1
 go_wp2_with fail
 refine (HBZ.out exE w1 (some ⟨g1,0,none⟩) 14 HR1.out (by decide) (by decide)).mono ?_
 rintro e w2 ⟨hb2,ho2⟩
 rw [Zzx] at ho2
 obtain ⟨a2,c2,he,hr2⟩:=ho2
 replace he:e = .returned (.tuple #[.agg #[.slice a2 0 c2,.int .i64 0,.int .i64 14,.bool false],.int .i64 0]):=he
 subst he
 have HE2:=Zh (HE1.out.trans (hb2.mono HQ1.out))
 have HQ2:Hid (q <= w2.heap.size):=by have:=HE2.out.size;unfold Hid;omega
 clear hb2 hr2
 have HSA:=Zh (show FourC w2.heap.size (w2.alloc (.cells #[.slice a2 0 c2,.int .i64 0,.int .i64 14,.bool false] 24)) (.slice a2 0 c2) (.int .i64 0) (.int .i64 14) (.bool false) from Zkp _ _ rfl)
 have HEA:=Zh (HE2.out.trans ((Zai w2 (.cells #[.slice a2 0 c2,.int .i64 0,.int .i64 14,.bool false] 24)).mono HQ2.out))
 go_wp2_with fail
 obtain ⟨p1,hp1⟩:∃ p1,w2.heap.size = p1:=⟨_,rfl⟩
 rw [hp1] at HSA ⊢
 clear hp1
 generalize w2.alloc (.cells #[.slice a2 0 c2,.int .i64 0,.int .i64 14,.bool false] 24) = wa at *
 have HQA:Hid (q <= wa.heap.size):=by have:=HEA.out.size;unfold Hid;omega
 refine (HBZ.out [] wa none 0 (RowN.nil _ _) (by decide) (by decide)).mono ?_
 rintro e w3 ⟨hb3,ho3⟩
 rw [Zzw] at ho3
 obtain rfl:e = _:=ho3
 have HS3:=Zh (FourC.below HSA.out hb3)
 have HE3:=Zh (HEA.out.trans (hb3.mono HQA.out))
 have HQ3:Hid (q <= w3.heap.size):=by have:=HE3.out.size;unfold Hid;omega
 clear hb3
 obtain ⟨wz,hwz⟩:∃ wz,wz = w3.alloc (.cells #[.slice none 0 0,.int .i64 0,.int .i64 0,.bool false] 24):=⟨_,rfl⟩
 have hsz:wz.heap.size = w3.heap.size + 1:=by rw [hwz];simp
 have HSZ:=Zh (show FourC p1 wz (.slice a2 0 c2) (.int .i64 0) (.int .i64 14) (.bool false) by rw [hwz];exact HS3.out.below (Zai w3 _))
 have HEZ:=Zh (show Below q w wz by rw [hwz];exact HE3.out.trans ((Zai w3 _).mono HQ3.out))
 have kc3:=kc wz #[.int .u8 97,.int .u8 97,.int .u8 97,.int .u8 97,.int .u8 1,.int .u8 98] 6 6
 have HRM:=Zh (rowM wz [97,97,97,97,1,98] #[.int .u8 97,.int .u8 97,.int .u8 97,.int .u8 97,.int .u8 1,.int .u8 98] 5 (6,7) 6 rfl rfl (by decide))
 have HBM:=Zh (Zai wz (.cells #[.int .u8 97,.int .u8 97,.int .u8 97,.int .u8 97,.int .u8 1,.int .u8 98] 5 (6,7)))
 have hs6:(wz.alloc (.cells #[.int .u8 97,.int .u8 97,.int .u8 97,.int .u8 97,.int .u8 1,.int .u8 98] 5 (6,7))).heap.size = w3.heap.size + 1 + 1:=by rw [<- hsz];simp
 rw [hsz] at kc3 HRM
 rw [hwz] at kc3
 have kc3':(convert 22 22 (.slice (some ⟨w3.heap.size + 1,0,none⟩) 6 6)).run Try.prog ((w3.alloc (.cells #[.slice none 0 0,.int .i64 0,.int .i64 0,.bool false] 24)).alloc (.cells #[.int .u8 97,.int .u8 97,.int .u8 97,.int .u8 97,.int .u8 1,.int .u8 98] 5)) = .ok (.slice (some ⟨w3.heap.size + 1,0,none⟩) 6 6) ((w3.alloc (.cells #[.slice none 0 0,.int .i64 0,.int .i64 0,.bool false] 24)).alloc (.cells #[.int .u8 97,.int .u8 97,.int .u8 97,.int .u8 97,.int .u8 1,.int .u8 98] 5 (6,7))):=kc3
 have HWZ:=Zh hwz
 have HS6:=Zh hs6
 clear kc3 hwz hsz hs6
 go_wp2_with fail
 rw [<- HWZ.out]
 obtain ⟨wm,hwm⟩:∃ wm,wm = wz.alloc (.cells #[.int .u8 97,.int .u8 97,.int .u8 97,.int .u8 97,.int .u8 1,.int .u8 98] 5 (6,7)):=⟨_,rfl⟩
 rw [<- hwm] at HRM HBM HS6 ⊢
 clear hwm
 have HPS:=Zh (RowS.lit encSl wm [(some ⟨w3.heap.size + 1,0,none⟩,6,[97,97,97,97,1,98])] 22 #[.slice (some ⟨w3.heap.size + 1,0,none⟩) 6 6] (w3.heap.size + 1 + 1) HS6.out.symm rfl (by simp))
 have HBC:=Zh (Zai wm (.cells #[.slice (some ⟨w3.heap.size + 1,0,none⟩) 6 6] 22))
 have HRC:=Zh (HRM.out.below HBC.out)
 have HSC:=Zh ((HSZ.out.below HBM.out).below HBC.out)
 have HQZ:Hid (q <= wz.heap.size):=by have:=HEZ.out.size;unfold Hid;omega
 have HQM:Hid (q <= wm.heap.size):=by have:=HBM.out.size;have:=HQZ.out;unfold Hid;omega
 have HEC:=Zh ((HEZ.out.trans (HBM.out.mono HQZ.out)).trans (HBC.out.mono HQM.out))
 generalize wm.alloc (.cells #[.slice (some ⟨w3.heap.size + 1,0,none⟩) 6 6] 22) = wc at *
 have HQC:Hid (q <= wc.heap.size):=by have:=HEC.out.size;unfold Hid;omega
 have HF:=Zh (Zju 1 (some ⟨w3.heap.size + 1 + 1,0,none⟩) 1 [(some ⟨w3.heap.size + 1,0,none⟩,6,[97,97,97,97,1,98])] true (-1) wc (by decide) HPS.out (fun i h=>by
  obtain rfl:i = 0:=by simp at h;omega
  exact HRC.out) (fun p hp=>by
  obtain rfl:p = [97,97,97,97,1,98]:=by simpa using hp
  decide) (by simp) (by decide))
 have hex:fileG 1 (List.map (fun t=>t.2.2) [((some ⟨w3.heap.size + 1,0,none⟩:Option Addr),(6:Nat),[97,97,97,97,1,98])]) true (-1) = exF:=Zye
 rw [hex] at HF
 clear hex
 refine HF.out.mono ?_
 rintro e w5 ⟨g5,c5,he5,ho5,hb5⟩
 replace he5:e = .returned (.slice g5 41 c5):=he5
 subst he5
 have HR5:=Zh ho5.row
 have HS5:=Zh (HSC.out.below hb5)
 have HE5:=Zh (HEC.out.trans (hb5.mono HQC.out))
 have HQ5:Hid (q <= w5.heap.size):=by have:=HE5.out.size;unfold Hid;omega
 clear ho5 hb5 kc3' HF
 go_wp2_with fail
 refine (HBZ.out exF w5 g5 c5 HR5.out (by decide) (by decide)).mono ?_
 rintro e w6 h6
 rw [Zaah] at h6
 obtain ⟨hb6,ho6⟩:=h6
 obtain ⟨a6,c6,he,hr6⟩:=ho6
 replace he:e = .returned (.tuple #[.agg #[.slice a6 6 c6,.int .i64 6,.int .i64 41,.bool false],.int .i64 0]):=he
 subst he
 have HS6:=Zh (HS5.out.below hb6)
 have HE6:=Zh (HE5.out.trans (hb6.mono HQ5.out))
 have HQ6:Hid (q <= w6.heap.size):=by have:=HE6.out.size;unfold Hid;omega
 have HR6:=Zh (hr6.below (Zai w6 (.cells #[.slice a6 6 c6,.int .i64 6,.int .i64 41,.bool false] 24)))
 have HS7:=Zh (HS6.out.below (Zai w6 (.cells #[.slice a6 6 c6,.int .i64 6,.int .i64 41,.bool false] 24)))
 have HN7:=Zh (show FourC w6.heap.size (w6.alloc (.cells #[.slice a6 6 c6,.int .i64 6,.int .i64 41,.bool false] 24)) (.slice a6 6 c6) (.int .i64 6) (.int .i64 41) (.bool false) from Zkp _ _ rfl)
 have HE7:=Zh (HE6.out.trans ((Zai w6 (.cells #[.slice a6 6 c6,.int .i64 6,.int .i64 41,.bool false] 24)).mono HQ6.out))
 clear hb6 hr6
 obtain ⟨c0,c1,c2',c3,_,_⟩:=Zaf HS7.out
 obtain ⟨d0,d1,d2,d3,_,_⟩:=Zaf HN7.out
 have hcv:=Zey (n:=6) Try.underlying22 Try.underlying5 Try.underlying9 rfl HR6.out
 have htl:(strOf [97,97,97,97,97,98]).toList = [97,97,97,97,97,98]:=by rw [Zdw];rfl
 have htb:((strOf [97,97,97,97,97,98]).toList == [97,97,97,97,97,98]) = true:=by rw [htl];rfl
 go_wp2_with fail
 go_ret
 exact ⟨rfl,by rw [HQ.out];exact HE7.out⟩
end Go.Proofs.Ytnkpnjnfddjfpaa

namespace Go.Proofs.Ytnkpnjnfddjfpaa.M27
open M01 M02
def lexLe:List Nat -> List Nat -> Bool
 | [],_=>true
 | _ :: _,[]=>false
 | a :: x,b :: y=>decide (a < b) || (decide (a = b) && lexLe x y)
theorem Zlk:∀ x y,lexLe x y = true \/ lexLe y x = true
 | [],_=>.inl rfl
 | _ :: _,[]=>.inr rfl
 | a :: x,b :: y=>by
  simp only [lexLe,Bool.or_eq_true,Bool.and_eq_true,decide_eq_true_eq]
  rcases Nat.lt_trichotomy a b with h | h | h
  ·exact .inl (.inl h)
  ·rcases Zlk x y with h1 | h1
   ·exact .inl (.inr ⟨h,h1⟩)
   ·exact .inr (.inr ⟨h.symm,h1⟩)
  ·exact .inr (.inl h)
theorem Zhz:∀ x y z,lexLe x y = true -> lexLe y z = true -> lexLe x z = true
 | [],_,_,_,_=>rfl
 | _ :: _,[],_,h,_=>by simp [lexLe] at h
 | _ :: _,_ :: _,[],_,h=>by simp [lexLe] at h
 | a :: x,b :: y,c :: z,h1,h2=>by
  simp only [lexLe,Bool.or_eq_true,Bool.and_eq_true,decide_eq_true_eq] at h1 h2 ⊢
  rcases h1 with h1 | ⟨h1,h3⟩
  ·rcases h2 with h2 | ⟨h2,_⟩
   ·exact .inl (by omega)
   ·exact .inl (by omega)
  ·rcases h2 with h2 | ⟨h2,h4⟩
   ·exact .inl (by omega)
   ·exact .inr ⟨by omega,Zhz x y z h3 h4⟩
theorem Zoj:∀ x y,lexLe x y = true -> lexLe y x = true -> x = y
 | [],[],_,_=>rfl
 | [],_ :: _,_,h=>by simp [lexLe] at h
 | _ :: _,[],h,_=>by simp [lexLe] at h
 | a :: x,b :: y,h1,h2=>by
  simp only [lexLe,Bool.or_eq_true,Bool.and_eq_true,decide_eq_true_eq] at h1 h2
  rcases h1 with h1 | ⟨h1,h3⟩
  ·rcases h2 with h2 | ⟨h2,_⟩ <;> omega
  ·rcases h2 with h2 | ⟨_,h4⟩
   ·omega
   ·rw [h1,Zoj x y h3 h4]
theorem Zok:∀ (x y:List Nat) (k:Nat),lexLe x y = true -> lexLe (x.take k) (y.take k) = true
 | _,_,0,_=>by simp [lexLe]
 | [],_,_ + 1,_=>rfl
 | _ :: _,[],_ + 1,h=>by simp [lexLe] at h
 | a :: x,b :: y,k + 1,h=>by
  simp only [lexLe,List.take_succ_cons,Bool.or_eq_true,Bool.and_eq_true,decide_eq_true_eq] at h ⊢
  rcases h with h | ⟨h,h1⟩
  ·exact .inl h
  ·exact .inr ⟨h,Zok x y k h1⟩
theorem Zaak {a b:Nat} (ha:a < 256) (hb:b < 256):decide (UInt8.ofNat a < UInt8.ofNat b) = decide (a < b):=by
 refine decide_eq_decide.2 ?_
 rw [UInt8.lt_iff_toNat_lt,UInt8.toNat_ofNat',UInt8.toNat_ofNat',Nat.mod_eq_of_lt ha,Nat.mod_eq_of_lt hb]
theorem Zaad {a b:Nat} (ha:a < 256) (hb:b < 256):(UInt8.ofNat a == UInt8.ofNat b) = decide (a = b):=by
 have:(UInt8.ofNat a = UInt8.ofNat b) ↔ a = b:=by
  constructor
  ·intro h
   have:=congrArg UInt8.toNat h
   rw [UInt8.toNat_ofNat',UInt8.toNat_ofNat',Nat.mod_eq_of_lt ha,Nat.mod_eq_of_lt hb] at this
   exact this
  ·intro h;rw [h]
 by_cases h:a = b
 ·subst h;simp
 ·rw [decide_eq_false h]
  simpa using fun e=>h (this.1 e)
theorem Zoi:∀ (x y:List Nat),(∀ v ∈ x,v < 256) -> (∀ v ∈ y,v < 256) -> (Op.bytesLess (x.map UInt8.ofNat) (y.map UInt8.ofNat) || (x.map UInt8.ofNat) == (y.map UInt8.ofNat)) = lexLe x y
 | [],[],_,_=>rfl
 | [],b :: y,_,_=>rfl
 | a :: x,[],_,_=>rfl
 | a :: x,b :: y,hx,hy=>by
  have ha:=hx a (List.mem_cons_self ..)
  have hb:=hy b (List.mem_cons_self ..)
  have ih:=Zoi x y (fun v h=>hx v (List.mem_cons_of_mem _ h)) (fun v h=>hy v (List.mem_cons_of_mem _ h))
  simp only [List.map_cons,Op.bytesLess,lexLe,<- ih]
  have e:((UInt8.ofNat a :: x.map UInt8.ofNat) == (UInt8.ofNat b :: y.map UInt8.ofNat)) = (UInt8.ofNat a == UInt8.ofNat b && (x.map UInt8.ofNat == y.map UInt8.ofNat)):=rfl
  rw [e,Zaak ha hb,Zaad ha hb]
  cases decide (a < b) <;> cases decide (a = b) <;> cases Op.bytesLess (x.map UInt8.ofNat) (y.map UInt8.ofNat) <;> simp
theorem Zmm {x y:List Nat} (hx:∀ v ∈ x,v < 256) (hy:∀ v ∈ y,v < 256):strGt x y = !lexLe x y:=by
 unfold strGt
 rw [Zdw,Zdw,Zoi x y hx hy]
theorem Zfl {l:List Nat} {i v:Nat} (h:v ∈ rotL l i):v ∈ l:=by
 unfold rotL at h
 rcases List.mem_append.1 h with h | h
 ·exact List.mem_of_mem_drop h
 ·exact List.mem_of_mem_take h
theorem Zkh (l:List Nat):∀ i,(ordG l i).Perm (List.range i)
 | 0=>List.Perm.refl _
 | i + 1=>by
  unfold ordG insO
  have h1:((ordG l i).take (posO l (ordG l i) i) ++ i :: (ordG l i).drop (posO l (ordG l i) i)).Perm (i :: ordG l i):=by
   have:=List.perm_middle (a:=i) (l₁:=(ordG l i).take (posO l (ordG l i) i)) (l₂:=(ordG l i).drop (posO l (ordG l i) i))
   rwa [List.take_append_drop] at this
  refine h1.trans ?_
  rw [List.range_succ]
  exact ((Zkh l i).cons i).trans (List.perm_append_comm (l₁:=[i]))
theorem Zjj (l:List Nat) (h256:∀ v ∈ l,v < 256):∀ i,(ordG l i).Pairwise fun x y=>lexLe (rotL l x) (rotL l y) = true
 | 0=>List.Pairwise.nil
 | i + 1=>by
  have ih:=Zjj l h256 i
  have hlt:∀ x,∀ v ∈ rotL l x,v < 256:=fun x v hv=>h256 v (Zfl hv)
  unfold ordG insO
  obtain ⟨k,hk⟩:∃ k,posO l (ordG l i) i = k:=⟨_,rfl⟩
  rw [hk]
  have hpre:∀ x ∈ (ordG l i).take k,lexLe (rotL l x) (rotL l i) = true:=by
   intro x hx
   obtain ⟨j,hj,rfl⟩:=List.getElem_of_mem hx
   rw [List.length_take] at hj
   rw [List.getElem_take]
   have h1:j < (ordG l i).findIdx fun x=>strGt (rotL l x) (rotL l i):=by show j < posO l (ordG l i) i;omega
   have h2:=List.not_of_lt_findIdx h1
   rw [Zmm (hlt _) (hlt _)] at h2
   simpa using h2
  have hpost:∀ x ∈ (ordG l i).drop k,lexLe (rotL l i) (rotL l x) = true:=by
   intro x hx
   have hkl:k < (ordG l i).length:=by
    rcases Nat.lt_or_ge k (ordG l i).length with h | h
    ·exact h
    ·rw [List.drop_of_length_le h] at hx;cases hx
   have h1:strGt (rotL l (ordG l i)[k]) (rotL l i) = true:=by
    subst hk
    exact List.findIdx_getElem (p:=fun x=>strGt (rotL l x) (rotL l i)) (w:=hkl)
   rw [Zmm (hlt _) (hlt _)] at h1
   have h2:lexLe (rotL l i) (rotL l (ordG l i)[k]) = true:=by
    rcases Zlk (rotL l (ordG l i)[k]) (rotL l i) with h | h
    ·rw [h] at h1;simp at h1
    ·exact h
   rw [List.drop_eq_getElem_cons hkl] at hx
   rcases List.mem_cons.1 hx with rfl | hx
   ·exact h2
   ·have h3:=ih.sublist (List.drop_sublist k _)
    rw [List.drop_eq_getElem_cons hkl,List.pairwise_cons] at h3
    exact Zhz _ _ _ h2 (h3.1 x hx)
  rw [List.pairwise_append,List.pairwise_cons]
  refine ⟨ih.sublist (List.take_sublist k _),⟨hpost,ih.sublist (List.drop_sublist k _)⟩,fun x hx y hy=>?_⟩
  rcases List.mem_cons.1 hy with rfl | hy
  ·exact hpre x hx
  ·exact Zhz _ _ _ (hpre x hx) (hpost y hy)
theorem Zen (f:Nat -> Nat) (m:Nat):∀ r:List Nat,((r.filter fun x=>decide (f x < m)) ++ (r.filter fun x=>decide (f x = m))).Perm (r.filter fun x=>decide (f x < m + 1))
 | []=>List.Perm.refl _
 | a :: r=>by
  have ih:=Zen f m r
  rcases Nat.lt_trichotomy (f a) m with h | h | h
  ·rw [List.filter_cons_of_pos (by simpa using h),List.filter_cons_of_neg (by simp;omega),List.filter_cons_of_pos (by simp;omega)]
   exact ih.cons a
  ·rw [List.filter_cons_of_neg (by simp;omega),List.filter_cons_of_pos (by simpa using h),List.filter_cons_of_pos (by simp;omega)]
   exact List.perm_middle.trans (ih.cons a)
  ·rw [List.filter_cons_of_neg (by simp;omega),List.filter_cons_of_neg (by simp;omega),List.filter_cons_of_neg (by simp;omega)]
   exact ih
theorem Zlg (f:Nat -> Nat) (r:List Nat):∀ m,((List.range m).flatMap fun c=>r.filter fun x=>decide (f x = c)).Perm (r.filter fun x=>decide (f x < m))
 | 0=>by simp
 | m + 1=>by
  rw [List.range_succ,List.flatMap_append]
  simp only [List.flatMap_cons,List.flatMap_nil,List.append_nil]
  exact ((Zlg f r m).append_right _).trans (Zen f m r)
theorem Zpf {last:List Nat} (h256:∀ v ∈ last,v < 256):(wayL last).Perm (List.range last.length):=by
 have h:=Zlg (fun i=>last.getD i 0) (List.range last.length) 256
 have h2:(List.range last.length).filter (fun x=>decide (last.getD x 0 < 256)) = List.range last.length:=by
  refine List.filter_eq_self.2 fun i hi=>?_
  have:=List.mem_range.1 hi
  rw [List.getD_eq_getElem?_getD,List.getElem?_eq_getElem this]
  exact decide_eq_true (h256 _ (List.getElem_mem this))
 rw [h2] at h
 exact h
theorem Zqr (last:List Nat):(wayL last).Pairwise fun p q=>last.getD p 0 < last.getD q 0 \/ (last.getD p 0 = last.getD q 0 /\ p < q):=by
 unfold wayL
 rw [List.pairwise_flatMap]
 refine ⟨fun c _=>?_,?_⟩
 ·have h:=(List.pairwise_lt_range (n:=last.length)).filter (fun i=>decide (last.getD i 0 = c))
  refine h.imp_of_mem ?_
  intro p q hp hq hpq
  have h1:=(List.mem_filter.1 hp).2
  have h2:=(List.mem_filter.1 hq).2
  simp only [decide_eq_true_eq] at h1 h2
  exact .inr ⟨by omega,hpq⟩
 ·refine List.pairwise_lt_range.imp ?_
  intro c d hcd p hp q hq
  have h1:=(List.mem_filter.1 hp).2
  have h2:=(List.mem_filter.1 hq).2
  simp only [decide_eq_true_eq] at h1 h2
  exact .inl (by omega)
def prevP (n x:Nat):Nat:=if x = 0 then n - 1 else x - 1
theorem Zfn {l:List Nat} {i:Nat} (hi:i < l.length):(rotL l i).drop 1 ++ (rotL l i).take 1 = rotL l (i + 1):=by
 unfold rotL
 rw [List.drop_eq_getElem_cons hi,List.cons_append,List.drop_succ_cons,List.drop_zero,List.take_succ_cons,List.take_zero,List.append_assoc,<- List.take_succ_eq_append_getElem hi]
theorem Zyu (l:List Nat):rotL l l.length = rotL l 0:=by unfold rotL;simp
theorem Zkn {l:List Nat} {x:Nat} (hx:x < l.length):rotL l (prevP l.length x + 1) = rotL l x:=by
 unfold prevP
 split
 ·next h=>rw [h,show l.length - 1 + 1 = l.length by omega,Zyu]
 ·next h=>rw [show x - 1 + 1 = x by omega]
theorem Zco {n x:Nat} (hx:x < n):prevP n x < n:=by unfold prevP;split <;> omega
theorem Zfm {l:List Nat} {i:Nat} (hi:i < l.length):rotL l i = l.getD i 0 :: (rotL l i).drop 1:=by
 unfold rotL
 rw [List.drop_eq_getElem_cons hi,List.cons_append,List.drop_succ_cons,List.drop_zero,List.getD_eq_getElem?_getD,List.getElem?_eq_getElem hi]
 rfl
theorem Zeb {l:List Nat} {x:Nat} (hx:x < l.length):lastF l x = l.getD (prevP l.length x) 0:=by
 have hp:=Zco hx
 have h1:=Zfn hp
 rw [Zkn hx] at h1
 have h2:=Zfm hp
 have hlen:((rotL l (prevP l.length x)).drop 1).length = l.length - 1:=by rw [List.length_drop,Zhj]
 unfold lastF
 rw [<- h1,List.getD_eq_getElem?_getD,List.getElem?_append_right (by omega),hlen,Nat.sub_self,h2]
 simp
theorem Zwz {l:List Nat} (h256:∀ v ∈ l,v < 256) :
  (wayL (turnG l).1).map (fun p=>rotL l (prevP l.length ((ordG l l.length).getD p 0))) = (ordG l l.length).map (rotL l):=by
 obtain ⟨o,ho⟩:∃ o,ordG l l.length = o:=⟨_,rfl⟩
 have hol:o.length = l.length:=by rw [<- ho];exact Zef _ _
 have hop:=Zkh l l.length
 have hos:=Zjj l h256 l.length
 have holt:=Zgf l l.length
 rw [ho] at hop hos holt
 have hlast:(turnG l).1 = o.map (lastF l):=by unfold turnG;rw [ho]
 have hl256:∀ v ∈ o.map (lastF l),v < 256:=by
  intro v hv
  obtain ⟨x,hx,rfl⟩:=List.mem_map.1 hv
  have hx2:=holt x hx
  rw [Zeb hx2,List.getD_eq_getElem?_getD,List.getElem?_eq_getElem (Zco hx2)]
  exact h256 _ (List.getElem_mem _)
 rw [hlast,ho]
 have hget:∀ p,p < l.length -> (o.map (lastF l)).getD p 0 = l.getD (prevP l.length (o.getD p 0)) 0 /\ o.getD p 0 < l.length:=by
  intro p hp
  have hpo:p < o.length:=by omega
  have h1:o.getD p 0 = o[p]:=by rw [List.getD_eq_getElem?_getD,List.getElem?_eq_getElem hpo];rfl
  have h2:=holt _ (List.getElem_mem hpo)
  rw [h1]
  refine ⟨?_,h2⟩
  rw [<- Zeb h2,List.getD_eq_getElem?_getD,List.getElem?_map,List.getElem?_eq_getElem hpo]
  rfl
 have hwp:=Zpf hl256
 have hws:=Zqr (o.map (lastF l))
 rw [List.length_map,hol] at hwp
 refine List.Perm.eq_of_pairwise (le:=fun x y=>lexLe x y = true) (fun a b _ _ h1 h2=>Zoj a b h1 h2) ?_ ?_ ?_
 ·rw [List.pairwise_map]
  refine hws.imp_of_mem ?_
  intro p q hp hq hpq
  have hp2:=List.mem_range.1 (hwp.mem_iff.1 hp)
  have hq2:=List.mem_range.1 (hwp.mem_iff.1 hq)
  obtain ⟨g1,g2⟩:=hget p hp2
  obtain ⟨k1,k2⟩:=hget q hq2
  rw [g1,k1] at hpq
  rw [Zfm (Zco g2),Zfm (Zco k2)]
  simp only [lexLe,Bool.or_eq_true,Bool.and_eq_true,decide_eq_true_eq]
  rcases hpq with h | ⟨h,hlt⟩
  ·exact .inl h
  ·refine .inr ⟨h,?_⟩
   have hpo:p < o.length:=by omega
   have hqo:q < o.length:=by omega
   have e1:o.getD p 0 = o[p]:=by rw [List.getD_eq_getElem?_getD,List.getElem?_eq_getElem hpo];rfl
   have e2:o.getD q 0 = o[q]:=by rw [List.getD_eq_getElem?_getD,List.getElem?_eq_getElem hqo];rfl
   have hle:=List.pairwise_iff_getElem.1 hos p q hpo hqo hlt
   have ht:=Zok _ _ (l.length - 1) hle
   have key:∀ x,x < l.length -> (rotL l x).take (l.length - 1) = (rotL l (prevP l.length x)).drop 1:=by
    intro x hx
    have h1:=Zfn (Zco hx)
    rw [Zkn hx] at h1
    rw [<- h1,List.take_append_of_le_length (by rw [List.length_drop,Zhj];omega),List.take_of_length_le (by rw [List.length_drop,Zhj];omega)]
   rw [key _ (by rw [<- e1];exact g2),key _ (by rw [<- e2];exact k2),<- e1,<- e2] at ht
   exact ht
 ·rw [List.pairwise_map]
  exact hos
 ·have h1:=hwp.map (fun p=>rotL l (prevP l.length (o.getD p 0)))
  refine h1.trans ?_
  have h2:(List.range l.length).map (fun p=>rotL l (prevP l.length (o.getD p 0))) = (o.map (prevP l.length)).map (rotL l):=by
   rw [List.map_map]
   refine List.ext_getElem (by simp [hol]) fun i h3 h4=>?_
   simp only [List.length_map,List.length_range] at h3
   rw [List.getElem_map,List.getElem_map,List.getElem_range,List.getD_eq_getElem?_getD,List.getElem?_eq_getElem (by omega)]
   rfl
  rw [h2]
  refine List.Perm.map _ ?_
  have h3:(o.map (prevP l.length)).Perm ((List.range l.length).map (prevP l.length)):=hop.map _
  refine h3.trans (List.Perm.trans ?_ hop.symm)
  rcases Nat.eq_zero_or_pos l.length with h | h
  ·rw [h];exact List.Perm.refl _
  ·obtain ⟨m,hm⟩:∃ m,l.length = m + 1:=⟨l.length - 1,by omega⟩
   rw [hm]
   have h4:(List.range (m + 1)).map (prevP (m + 1)) = m :: List.range m:=by
    refine List.ext_getElem (by simp) fun i h5 h6=>?_
    rw [List.getElem_map,List.getElem_range]
    cases i with
    | zero=>simp [prevP]
    | succ i=>rw [List.getElem_cons_succ,List.getElem_range];simp [prevP]
   rw [h4,List.range_succ]
   exact List.perm_append_comm (l₁:=[m])
theorem Znx (o:List Nat):∀ p,(∃ q,q < p /\ o.getD q 1 = 0) -> o.getD (atT o p) 1 = 0 /\ atT o p < p
 | 0,h=>by obtain ⟨q,h1,_⟩:=h;omega
 | p + 1,h=>by
  unfold atT
  split
  ·next h1=>exact ⟨h1,by omega⟩
  ·next h1 =>
   obtain ⟨q,h2,h3⟩:=h
   have hq:q < p:=by
    rcases Nat.lt_or_ge q p with h4 | h4
    ·exact h4
    ·obtain rfl:q = p:=by omega
     exact absurd h3 h1
   obtain ⟨g1,g2⟩:=Znx o p ⟨q,hq,h3⟩
   exact ⟨g1,by omega⟩
theorem Zqw {l:List Nat} (h0:l ≠ []) (h256:∀ v ∈ l,v < 256):backG (turnG l).1 (turnG l).2 = some l:=by
 have hpos:=List.length_pos_iff.2 h0
 have hrots:=Zwz h256
 obtain ⟨o,ho⟩:∃ o,ordG l l.length = o:=⟨_,rfl⟩
 have hol:o.length = l.length:=by rw [<- ho];exact Zef _ _
 have hop:=Zkh l l.length
 have holt:=Zgf l l.length
 have hlast:(turnG l).1 = o.map (lastF l):=by unfold turnG;rw [ho]
 have hat:(turnG l).2 = atT o l.length:=by unfold turnG;rw [ho]
 rw [ho] at hrots hop holt
 rw [hlast] at hrots ⊢
 rw [hat]
 obtain ⟨last,hla⟩:∃ last,o.map (lastF l) = last:=⟨_,rfl⟩
 have hll:last.length = l.length:=by rw [<- hla,List.length_map,hol]
 have hl256:∀ v ∈ last,v < 256:=by
  intro v hv
  rw [<- hla] at hv
  obtain ⟨x,hx,rfl⟩:=List.mem_map.1 hv
  have hx2:=holt x hx
  rw [Zeb hx2,List.getD_eq_getElem?_getD,List.getElem?_eq_getElem (Zco hx2)]
  exact h256 _ (List.getElem_mem _)
 have hwp:=Zpf hl256
 rw [hll] at hwp
 rw [hla] at hrots ⊢
 have hwl:(wayL last).length = l.length:=by have:=hwp.length_eq;simpa using this
 have hz:∃ q,q < l.length /\ o.getD q 1 = 0:=by
  obtain ⟨q,hq,he⟩:=List.getElem_of_mem (hop.mem_iff.2 (List.mem_range.2 hpos))
  exact ⟨q,by omega,by rw [List.getD_eq_getElem?_getD,List.getElem?_eq_getElem hq,he];rfl⟩
 obtain ⟨z1,z2⟩:=Znx o l.length hz
 have hod:∀ p,p < l.length -> o.getD p 0 = o.getD p 1:=by
  intro p hp
  rw [List.getD_eq_getElem?_getD,List.getD_eq_getElem?_getD,List.getElem?_eq_getElem (by omega)]
  rfl
 have step:∀ at_ k,at_ < l.length -> k < l.length -> rotL l (o.getD at_ 0) = rotL l k →
   (wayL last).getD at_ 0 < l.length /\ last.getD ((wayL last).getD at_ 0) 0 = l.getD k 0 /\ rotL l (o.getD ((wayL last).getD at_ 0) 0) = rotL l (k + 1):=by
  intro at_ k hat hk hr
  obtain ⟨p,hp⟩:∃ p,(wayL last).getD at_ 0 = p:=⟨_,rfl⟩
  have hp1:(wayL last)[at_]'(by omega) = p:=by rw [<- hp,List.getD_eq_getElem?_getD,List.getElem?_eq_getElem (by omega)];rfl
  have hpl:p < l.length:=List.mem_range.1 (hwp.mem_iff.1 (by rw [<- hp1];exact List.getElem_mem _))
  rw [hp]
  have he:=congrArg (fun x=>x[at_]?) hrots
  simp only [List.getElem?_map] at he
  rw [List.getElem?_eq_getElem (by omega),List.getElem?_eq_getElem (by omega),hp1] at he
  simp only [Option.map_some,Option.some.injEq] at he
  have e2:o.getD at_ 0 = o[at_]'(by omega):=by rw [List.getD_eq_getElem?_getD,List.getElem?_eq_getElem (by omega)];rfl
  rw [<- e2,hr] at he
  have e3:o.getD p 0 = o[p]'(by omega):=by rw [List.getD_eq_getElem?_getD,List.getElem?_eq_getElem (by omega)];rfl
  have hox:o.getD p 0 < l.length:=by rw [e3];exact holt _ (List.getElem_mem _)
  refine ⟨hpl,?_,?_⟩
  ·have h1:=Zfm (Zco hox)
   have h2:=Zfm hk
   rw [he] at h1
   rw [h1] at h2
   have h3:=(List.cons.inj h2).1
   rw [<- h3,<- hla,List.getD_eq_getElem?_getD,List.getElem?_map,List.getElem?_eq_getElem (by omega)]
   show lastF l o[p] = _
   rw [<- e3]
   exact Zeb hox
  ·rw [<- Zkn hox,<- Zfn (Zco hox),<- Zfn hk,he]
 have walk:∀ m at_ k,k + m = l.length -> at_ < l.length -> rotL l (o.getD at_ 0) = rotL l k -> backL last m at_ = l.drop k:=by
  intro m
  induction m with
  | zero=>intro at_ k h1 h2 h3;rw [show k = l.length by omega,List.drop_length];rfl
  | succ m ih =>
   intro at_ k h1 h2 h3
   have hk:k < l.length:=by omega
   obtain ⟨g1,g2,g3⟩:=step at_ k h2 hk h3
   show last.getD ((wayL last).getD at_ 0) 0 :: backL last m ((wayL last).getD at_ 0) = _
   rw [g2,ih _ (k + 1) (by omega) g1 g3,List.drop_eq_getElem_cons hk,List.getD_eq_getElem?_getD,List.getElem?_eq_getElem hk]
   rfl
 unfold backG
 rw [hll,if_pos z2,walk l.length _ 0 (by omega) z2 (by rw [hod _ z2,z1]),List.drop_zero]
end Go.Proofs.Ytnkpnjnfddjfpaa.M27

namespace Go.Proofs.Ytnkpnjnfddjfpaa
open M01 M02 M27
theorem Zxh {used r l out:List Nat} {most s worth:Nat} (hu:0 < used.length) (hr:r ≠ []) (hs:s <= 1) (hm:out.length + worth * (s + 1) <= most) :
  frL used most (s :: r) l out worth = frL used most r l (out ++ List.replicate (worth * (s + 1)) (l.getD 0 0)) (2 * worth):=by
 have h1:¬ (used.length + 1 < s \/ (s = used.length + 1) ≠ (r = [])):=by
  intro h
  rcases h with h | h
  ·omega
  ·exact h (propext ⟨fun e=>by omega,fun e=>absurd e hr⟩)
 conv=>lhs;unfold frL
 rw [if_neg h1,if_pos hs,if_neg (by omega)]
theorem Zog {used r l:List Nat} {most:Nat} (hu:0 < used.length) (hr:r ≠ []):∀ (f n:Nat) (out:List Nat) (worth:Nat),n <= f -> out.length + worth * n <= most →
  ∃ w2,(n = 0 -> w2 = worth) /\ frL used most (digL f n ++ r) l out worth = frL used most r l (out ++ List.replicate (worth * n) (l.getD 0 0)) w2
 | 0,n,out,worth,hf,hm=>by
  obtain rfl:n = 0:=by omega
  exact ⟨worth,fun _=>rfl,by simp [digL]⟩
 | f + 1,n,out,worth,hf,hm=>by
  unfold digL
  by_cases h0:n = 0
  ·subst h0
   exact ⟨worth,fun _=>rfl,by simp⟩
  ·rw [if_neg h0]
   split
   ·rename_i h1
    obtain ⟨m,hm2⟩:∃ m,n = 2 * m + 1:=⟨n / 2,by omega⟩
    have e1:(n - 1) / 2 = m:=by omega
    have e2:worth * n = worth * 1 + 2 * worth * m:=by rw [hm2,Nat.mul_add,<- Nat.mul_assoc,Nat.mul_comm worth 2];omega
    rw [e1,List.cons_append,Zxh hu (by simp [hr]) (by decide) (by simp only [Nat.zero_add];omega)]
    obtain ⟨w2,_,h3⟩:=Zog (l:=l) (most:=most) hu hr f m (out ++ List.replicate (worth * (0 + 1)) (l.getD 0 0)) (2 * worth) (by omega) (by rw [List.length_append,List.length_replicate];simp only [Nat.zero_add];omega)
    refine ⟨w2,fun e=>absurd e h0,?_⟩
    rw [h3,List.append_assoc,List.replicate_append_replicate,e2]
   ·rename_i h1
    obtain ⟨m,hm2⟩:∃ m,n = 2 * m + 2:=⟨(n - 2) / 2,by omega⟩
    have e1:(n - 2) / 2 = m:=by omega
    have e2:worth * n = worth * 2 + 2 * worth * m:=by rw [hm2,Nat.mul_add,<- Nat.mul_assoc,Nat.mul_comm worth 2];omega
    rw [e1,List.cons_append,Zxh hu (by simp [hr]) (by decide) (by simp only [Nat.reduceAdd];omega)]
    obtain ⟨w2,_,h3⟩:=Zog (l:=l) (most:=most) hu hr f m (out ++ List.replicate (worth * (1 + 1)) (l.getD 0 0)) (2 * worth) (by omega) (by rw [List.length_append,List.length_replicate];simp only [Nat.reduceAdd];omega)
    refine ⟨w2,fun e=>absurd e h0,?_⟩
    rw [h3,List.append_assoc,List.replicate_append_replicate,e2]
theorem Zmp {l:List Nat} (h:0 < l.length):toFront l 0 = l:=by
 cases l with
 | nil=>exact absurd h (by simp)
 | cons a l=>rfl
theorem Zvp {l:List Nat} {c:Nat} (h:c ∈ l):l.getD (l.idxOf c) 0 = c:=by
 have h1:=List.idxOf_lt_length_of_mem h
 rw [List.getD_eq_getElem?_getD,List.getElem?_eq_getElem h1]
 exact List.getElem_idxOf h1
theorem Ztc (e:Nat):∀ (l:List Nat) (run:Nat),putS e l run ≠ []
 | [],run=>by unfold putS;simp
 | k :: r,run=>by
  unfold putS
  split
  ·exact Ztc e r _
  ·simp
theorem Zsd {used:List Nat} {most:Nat} (hu:0 < used.length):∀ (r l:List Nat) (run:Nat) (out:List Nat),l.length = used.length -> (∀ x ∈ r,x ∈ l) -> out.length + run + r.length <= most →
  frL used most (putS (used.length + 1) (placesL l r) run) l out 1 = some (out ++ List.replicate run (l.getD 0 0) ++ r)
 | [],l,run,out,hl,hin,hm=>by
  rw [List.length_nil] at hm
  show frL used most (digG run ++ [used.length + 1]) l out 1 = _
  obtain ⟨w2,_,h⟩:=Zog (used:=used) (r:=[used.length + 1]) (l:=l) (most:=most) hu (by simp) run run out 1 (Nat.le_refl _) (by omega)
  unfold digG
  rw [h,Nat.one_mul]
  have h1:¬ (used.length + 1 < used.length + 1 \/ (used.length + 1 = used.length + 1) ≠ (([]:List Nat) = [])):=by
   intro h
   rcases h with h | h
   ·omega
   ·exact h (propext ⟨fun _=>rfl,fun _=>rfl⟩)
  unfold frL
  rw [if_neg h1,if_neg (by omega),if_pos rfl,if_neg (by rw [List.length_append,List.length_replicate];omega),List.append_nil]
 | c :: r,l,run,out,hl,hin,hm=>by
  rw [List.length_cons] at hm
  have hc:c ∈ l:=hin c (by simp)
  have hk:l.idxOf c < l.length:=List.idxOf_lt_length_of_mem hc
  have hg:=Zvp hc
  show frL used most (putS (used.length + 1) (l.idxOf c :: placesL (toFront l (l.idxOf c)) r) run) l out 1 = _
  generalize hke:l.idxOf c = k at *
  unfold putS
  by_cases h0:k = 0
  ·rw [if_pos h0]
   subst h0
   rw [Zmp (by omega),Zsd hu r l (run + 1) out hl (fun x hx=>hin x (by simp [hx])) (by omega),hg,List.replicate_succ']
   simp
  ·rw [if_neg h0,List.append_assoc]
   obtain ⟨w2,_,h⟩:=Zog (used:=used) (r:=[k + 1] ++ putS (used.length + 1) (placesL (toFront l k) r) 0) (l:=l) (most:=most) hu (by simp) run run out 1 (Nat.le_refl _) (by omega)
   unfold digG
   rw [h,Nat.one_mul,List.singleton_append]
   have h1:¬ (used.length + 1 < k + 1 \/ (k + 1 = used.length + 1) ≠ (putS (used.length + 1) (placesL (toFront l k) r) 0 = [])):=by
    intro h
    rcases h with h | h
    ·omega
    ·exact h (propext ⟨fun e=>by omega,fun e=>absurd e (Ztc _ _ _)⟩)
   conv=>lhs;unfold frL
   rw [if_neg h1,if_neg (by omega),if_neg (by omega),if_neg (by rw [List.length_append,List.length_replicate];omega),Nat.add_sub_cancel,hg,
    Zsd hu r (toFront l k) 0 _ (by rw [Zau hk];exact hl) (fun x hx=>Zcg hk (hin x (by simp [hx]))) (by simp only [List.length_append,List.length_replicate,List.length_cons,List.length_nil];omega)]
   simp
theorem Zhd {b:List Nat} {x:Nat}:x ∈ usedG b ↔ x ∈ b /\ x < 256:=by
 unfold usedG usedTo
 rw [List.mem_filter,List.mem_range,decide_eq_true_eq]
 exact And.comm
theorem Zks {b:List Nat} (h0:b ≠ []) (h256:∀ x ∈ b,x < 256):0 < (usedG b).length:=by
 obtain ⟨a,r,rfl⟩:=List.exists_cons_of_ne_nil h0
 exact List.length_pos_of_mem (Zhd.2 ⟨List.mem_cons_self,h256 a (by simp)⟩)
theorem Zpq {b:List Nat} {most:Nat} (h0:b ≠ []) (h256:∀ x ∈ b,x < 256) (hm:b.length <= most):frontG (fputG b).1 (fputG b).2 most = some b:=by
 unfold frontG fputG
 rw [Zsd (Zks h0 h256) b (usedG b) 0 [] rfl (fun x hx=>Zhd.2 ⟨hx,h256 x hx⟩) (by simpa using hm)]
 simp
theorem Zne {i j:Nat} (h:i < j):maskAt i < maskAt j:=by
 have h1:=Zdn (show i + 1 + 1 <= j + 1 by omega)
 have h2:=Zbh (i + 1)
 have h3:=Zec (i + 1)
 unfold maskAt
 omega
theorem Zek (l:List Nat) (x:Nat):∀ i,(∀ j,j < i -> maskAt j < l.length) -> (turnAt l i).getD x 0 = if (∃ j,j < i /\ maskAt j = x) then l.getD x 0 ^^^ 1 else l.getD x 0
 | 0,_=>by rw [if_neg (fun ⟨j,h,_⟩=>Nat.not_lt_zero j h)];rfl
 | i + 1,hb=>by
  have ih:=Zek l x i (fun j hj=>hb j (by omega))
  have ih2:=Zek l (maskAt i) i (fun j hj=>hb j (by omega))
  rw [if_neg (fun ⟨j,h,e⟩=>by have:=Zne h;omega)] at ih2
  have hl:=hb i (by omega)
  unfold turnAt
  rw [ih2,List.getD_eq_getElem?_getD,List.getElem?_set]
  by_cases hx:maskAt i = x
  ·rw [if_pos hx,if_pos (by rw [Zaw];exact hl),if_pos ⟨i,by omega,hx⟩,hx];rfl
  ·rw [if_neg hx,<- List.getD_eq_getElem?_getD,ih]
   congr 1
   refine propext ⟨fun ⟨j,h,e⟩=>⟨j,by omega,e⟩,fun ⟨j,h,e⟩=>⟨j,?_,e⟩⟩
   rcases Nat.lt_or_ge j i with h2 | h2
   ·exact h2
   ·obtain rfl:j = i:=by omega
    exact absurd e hx
theorem Zbj (l:List Nat):(masked l).length = l.length:=Zaw l _
theorem Zke (l:List Nat):masked (masked l) = l:=by
 have hb:∀ j,j < maskCnt l.length -> maskAt j < l.length:=fun j hj=>Zgb _ _ hj
 apply List.ext_getElem (by rw [Zbj,Zbj])
 intro x h1 h2
 have e1:=Zek (masked l) x (maskCnt (masked l).length) (by rw [Zbj];exact hb)
 have e2:=Zek l x (maskCnt l.length) hb
 have e3:(turnAt l (maskCnt l.length)).getD x 0 = (masked l).getD x 0:=rfl
 rw [e3] at e2
 have e4:(turnAt (masked l) (maskCnt (masked l).length)).getD x 0 = (masked (masked l)).getD x 0:=rfl
 rw [e4,e2,Zbj] at e1
 have g1:(masked (masked l)).getD x 0 = (masked (masked l))[x]:=by rw [List.getD_eq_getElem?_getD,List.getElem?_eq_getElem h1];rfl
 have g2:l.getD x 0 = l[x]:=by rw [List.getD_eq_getElem?_getD,List.getElem?_eq_getElem h2];rfl
 rw [g1,g2] at e1
 rw [e1]
 split
 ·rw [Nat.xor_assoc,Nat.xor_self,Nat.xor_zero]
 ·rfl
theorem Zsr {l:List Nat} (h:∀ x ∈ l,x < 256):∀ x ∈ masked l,x < 256:=Zch l h _
end Go.Proofs.Ytnkpnjnfddjfpaa

namespace Go.Proofs.Ytnkpnjnfddjfpaa
open M01 M02 M04 M06 M10 M27
def Has (B:List Nat) (a:Nat) (bs:List Nat):Prop:=a + bs.length <= nb B /\ ∀ j,j < bs.length -> bit B (a + j) = bs.getD j 0
theorem Has.app {B:List Nat} {a:Nat} {x y:List Nat} (h:Has B a (x ++ y)):Has B a x /\ Has B (a + x.length) y:=by
 have h1:=h.1
 rw [List.length_append] at h1
 refine ⟨⟨by omega,fun j hj=>?_⟩,⟨by omega,fun j hj=>?_⟩⟩
 ·rw [h.2 j (by rw [List.length_append];omega),List.getD_eq_getElem?_getD,List.getElem?_append_left hj,<- List.getD_eq_getElem?_getD]
 ·rw [Nat.add_assoc,h.2 (x.length + j) (by rw [List.length_append];omega),List.getD_eq_getElem?_getD,List.getElem?_append_right (by omega),Nat.add_sub_cancel_left,<- List.getD_eq_getElem?_getD]
theorem Has.cons {B:List Nat} {a x:Nat} {y:List Nat} (h:Has B a (x :: y)):bit B a = x /\ a + 1 <= nb B /\ Has B (a + 1) y:=by
 have h1:=Has.app (x:=[x]) (y:=y) h
 refine ⟨?_,h1.1.1,h1.2⟩
 have:=h1.1.2 0 (by simp)
 simpa using this
theorem Has.le {B:List Nat} {a:Nat} {x:List Nat} (h:Has B a x):a + x.length <= nb B:=h.1
theorem Zhu {v n j:Nat} (h:j < n):(hbits v n).getD j 0 = v / 2 ^ (n - 1 - j) % 2:=by
 rw [List.getD_eq_getElem?_getD,List.getElem?_eq_getElem (by rw [Zae];exact h)]
 simp [hbits]
theorem Zyn {B:List Nat} {a v:Nat}:∀ {n:Nat},(∀ j,j < n -> bit B (a + j) = v / 2 ^ (n - 1 - j) % 2) -> numH B a n = v % 2 ^ n:=by
 intro n
 induction n generalizing v with
 | zero=>intro _;simp [numH,Nat.mod_one]
 | succ n ih =>
  intro h
  have h1:=ih (v:=v / 2) (fun j hj=>by
   rw [h j (by omega),Nat.div_div_eq_div_mul,show n + 1 - 1 - j = n - 1 - j + 1 by omega,Nat.pow_succ,Nat.mul_comm])
  have h2:=h n (by omega)
  rw [show n + 1 - 1 - n = 0 by omega,Nat.pow_zero,Nat.div_one] at h2
  show 2 * numH B a n + bit B (a + n) = _
  rw [h1,h2,Nat.pow_succ,Nat.mul_comm (2 ^ n) 2,Nat.mod_mul]
  omega
theorem Has.num {B:List Nat} {a v n:Nat} (h:Has B a (hbits v n)) (hv:v < 2 ^ n):numG B a n = some (v,a + n):=by
 have h1:=h.1
 rw [Zae] at h1
 unfold numG
 rw [if_pos h1,Zyn (v:=v) (fun j hj=>by rw [h.2 j (by rw [Zae];exact hj),Zhu hj]),Nat.mod_eq_of_lt hv]
theorem Zjy (b:List Nat) (n:Nat):∀ m,usedTo b (n + m) = usedTo b n ++ ((List.range m).filter fun k=>decide (n + k ∈ b)).map fun k=>n + k
 | 0=>by simp
 | m + 1=>by
  rw [<- Nat.add_assoc,Zig,Zjy b n m,List.range_succ,List.filter_append,List.map_append,List.append_assoc]
  congr 2
  by_cases h:n + m ∈ b <;> simp [h]
theorem Zvr (u:List Nat) (g n k:Nat) (h:k < n):(grpL u g n).getD k 0 = if 16 * g + k ∈ u then 1 else 0:=by
 rw [List.getD_eq_getElem?_getD,List.getElem?_eq_getElem (by rw [Zck];exact h)]
 simp [grpL]
theorem Zpo (u:List Nat) (n g:Nat) (h:g < n):(firstL u n).getD g 0 = if someG u g 16 then 1 else 0:=by
 rw [List.getD_eq_getElem?_getD,List.getElem?_eq_getElem (by simp [firstL];exact h)]
 simp [firstL]
theorem Zov {B u:List Nat} {a:Nat}:∀ (n g:Nat),g < n -> Has B a (restL u n) -> Has B (a + (restL u g).length) (if someG u g 16 then grpL u g 16 else [])
 | 0,g,hg,_=>absurd hg (Nat.not_lt_zero g)
 | n + 1,g,hg,h=>by
  unfold restL at h
  rcases Nat.lt_or_ge g n with h1 | h1
  ·exact Zov n g h1 h.app.1
  ·obtain rfl:g = n:=by omega
   exact h.app.2
theorem Zjo {B b:List Nat} {a:Nat} (hf:∀ g,g < 16 -> bit B (a + g) = if someG (usedG b) g 16 then 1 else 0) (hr:Has B (a + 16) (restL (usedG b) 16)) :
  ∀ m g,m + g = 16 -> pickL B a m g (a + 16 + (restL (usedG b) g).length) (usedTo b (16 * g)) = some (usedTo b 256,a + 16 + (restL (usedG b) 16).length)
 | 0,g,h=>by
  obtain rfl:g = 16:=by omega
  rfl
 | m + 1,g,h=>by
  have ih:=Zjo hf hr m (g + 1) (by omega)
  have h1:=Zov 16 g (by omega) hr
  have hmem:∀ k,k < 16 -> (16 * g + k ∈ usedG b ↔ 16 * g + k ∈ b):=fun k hk=>by
   rw [Zhd]
   exact ⟨fun h=>h.1,fun h=>⟨h,by omega⟩⟩
  unfold pickL
  rw [hf g (by omega)]
  have hadd:=Zjy b (16 * g) 16
  rw [show 16 * g + 16 = 16 * (g + 1) by omega] at hadd
  have hrl:(restL (usedG b) (g + 1)).length = (restL (usedG b) g).length + (if someG (usedG b) g 16 then grpL (usedG b) g 16 else []).length:=by
   conv=>lhs;unfold restL
   rw [List.length_append]
  rw [hrl,<- Nat.add_assoc] at ih
  by_cases hs:someG (usedG b) g 16 = true
  ·rw [if_pos hs] at h1 ih ⊢
   rw [Zck] at ih
   have h2:=h1.1
   rw [Zck] at h2
   have h3:pickB B (a + 16 + (restL (usedG b) g).length) g = ((List.range 16).filter fun k=>decide (16 * g + k ∈ b)).map fun k=>16 * g + k:=by
    unfold pickB
    congr 1
    refine List.filter_congr fun k hk=>?_
    have hk2:k < 16:=by simpa using hk
    have h4:=h1.2 k (by rw [Zck];exact hk2)
    rw [Zvr _ _ _ _ hk2] at h4
    rw [h4]
    by_cases h5:16 * g + k ∈ b
    ·rw [if_pos ((hmem k hk2).2 h5)];simp [h5]
    ·rw [if_neg (fun e=>h5 ((hmem k hk2).1 e))];simp [h5]
   rw [if_pos rfl,if_pos h2,h3,<- hadd]
   exact ih
  ·rw [if_neg hs] at ih ⊢
   have h3:((List.range 16).filter fun k=>decide (16 * g + k ∈ b)) = []:=by
    refine List.filter_eq_nil_iff.2 fun k hk=>?_
    have hk2:k < 16:=by simpa using hk
    intro h5
    apply hs
    unfold someG
    rw [List.any_eq_true]
    exact ⟨k,hk,decide_eq_true ((hmem k hk2).2 (by simpa using h5))⟩
   rw [h3,List.map_nil,List.append_nil] at hadd
   rw [if_neg (by decide),<- hadd]
   exact ih
theorem Zwk {B b:List Nat} {a:Nat} (h0:b ≠ []) (h256:∀ x ∈ b,x < 256) (h:Has B a (mapG (usedG b))):pickG B a = some (usedG b,a + (mapG (usedG b)).length):=by
 unfold mapG at h ⊢
 have h1:=h.app
 rw [Zbf] at h1
 have h2:=h1.1.1
 rw [Zbf] at h2
 have h3:=Zjo (B:=B) (b:=b) (a:=a) (fun g hg=>by rw [h1.1.2 g (by rw [Zbf];exact hg),Zpo _ _ _ hg]) h1.2 16 0 rfl
 have hne:usedG b ≠ []:=by
  have:=Zks h0 h256
  intro e
  rw [e] at this
  exact absurd this (by decide)
 unfold pickG
 rw [if_pos h2]
 have h4:pickL B a 16 0 (a + 16) [] = some (usedG b,a + 16 + (restL (usedG b) 16).length):=h3
 rw [h4]
 show (if usedG b = [] then none else some (usedG b,a + 16 + (restL (usedG b) 16).length)) = _
 rw [if_neg hne,List.length_append,Zbf,Nat.add_assoc]
theorem Zso {B:List Nat} {k n:Nat} (hk:1 <= k /\ k <= 20):∀ (m f a:Nat) (out:List Nat),out.length + m = n -> m + 1 <= f -> Has B a (List.replicate m 0) -> lenL B f k a n out = some (out ++ List.replicate m k,a + m)
 | 0,f + 1,a,out,hn,_,_=>by
  unfold lenL
  rw [if_pos (by omega)]
  simp
 | m + 1,f + 1,a,out,hn,hf,h=>by
  rw [List.replicate_succ] at h
  obtain ⟨h1,h2,h3⟩:=h.cons
  unfold lenL
  rw [if_neg (by omega),if_neg (by omega),if_pos h1,Zso hk m f (a + 1) (out ++ [k]) (by rw [List.length_append,List.length_singleton];omega) (by omega) h3,List.append_assoc,List.replicate_succ,Nat.add_assoc,Nat.add_comm 1 m]
  rfl
theorem Zoh {B:List Nat} {k n a:Nat} (hk:1 <= k /\ k <= 20) (h:Has B a (hbits k 5 ++ List.replicate n 0)):lenG B a n = some (List.replicate n k,a + 5 + n):=by
 have h1:=h.app
 rw [Zae] at h1
 have h2:=h1.2.1
 rw [List.length_replicate] at h2
 unfold lenG
 rw [h1.1.num (by omega)]
 show lenL B (nb B + 2) k (a + 5) n [] = _
 rw [Zso hk n (nb B + 2) (a + 5) [] (by simp) (by omega) h1.2]
 rfl
theorem Zoo {B:List Nat} {t:Nat}:∀ (j f k a:Nat),k + j < t -> j < f -> Has B a (List.replicate j 1 ++ [0]) -> onesG B t f k a = some (k + j,a + j + 1)
 | 0,f + 1,k,a,ht,_,h=>by
  obtain ⟨h1,h2,_⟩:=Has.cons (y:=[]) h
  unfold onesG
  rw [if_neg (by omega),if_pos h1]
  rfl
 | j + 1,f + 1,k,a,ht,hf,h=>by
  rw [List.replicate_succ,List.cons_append] at h
  obtain ⟨h1,h2,h3⟩:=h.cons
  unfold onesG
  rw [if_neg (by omega),if_neg (by omega),if_neg (by omega),Zoo j f (k + 1) (a + 1) (by omega) (by omega) h3]
  congr 2 <;> omega
theorem Ztv {B:List Nat}:∀ (l fl:List Nat) (a:Nat) (out:List Nat),(fl = [0,1,2,3,4,5] \/ fl = [1,0,2,3,4,5]) -> (∀ x ∈ l,x < 2) -> Has B a (selR fl l) -> selL B 2 l.length fl a out = some (out ++ l,a + (selR fl l).length)
 | [],fl,a,out,_,_,_=>by simp [selL,selR]
 | x :: r,fl,a,out,hfl,hx,h=>by
  have hx2:=hx x (by simp)
  unfold selR at h ⊢
  have e1:List.replicate (fl.idxOf x) 1 ++ 0 :: selR (toFront fl (fl.idxOf x)) r = (List.replicate (fl.idxOf x) 1 ++ [0]) ++ selR (toFront fl (fl.idxOf x)) r:=by simp
  rw [e1] at h ⊢
  have h1:=h.app
  have hix:fl.idxOf x < 2 /\ fl.getD (fl.idxOf x) 0 = x /\ (toFront fl (fl.idxOf x) = [0,1,2,3,4,5] \/ toFront fl (fl.idxOf x) = [1,0,2,3,4,5]):=by
   rcases (show x = 0 \/ x = 1 by omega) with rfl | rfl <;> rcases hfl with rfl | rfl <;> decide
  obtain ⟨i1,i2,i3⟩:=hix
  have hl:(List.replicate (fl.idxOf x) 1 ++ [0]).length = fl.idxOf x + 1:=by simp
  rw [hl] at h1
  rw [List.length_append,hl,List.length_cons]
  unfold selL
  rw [Zoo (fl.idxOf x) 8 0 a (by omega) (by omega) h1.1]
  show selL B 2 r.length (toFront fl (0 + fl.idxOf x)) (a + fl.idxOf x + 1) (out ++ [fl.getD (0 + fl.idxOf x) 0]) = _
  rw [Nat.zero_add,i2,Nat.add_assoc,Ztv r _ _ _ i3 (fun y hy=>hx y (by simp [hy])) h1.2,List.append_assoc,Nat.add_assoc]
  rfl
theorem Zwq {B l:List Nat} {a:Nat} (h0:l ≠ []) (hn:l.length < 32768) (hx:∀ x ∈ l,x < 2) (h:Has B a (selectorsG l)):selG B a 2 = some (l,a + (selectorsG l).length):=by
 unfold selectorsG at h ⊢
 have h1:=h.app
 rw [Zae] at h1
 have h2:l.length ≠ 0:=fun e=>h0 (List.length_eq_zero_iff.1 e)
 unfold selG
 rw [h1.1.num (by omega)]
 show (if l.length = 0 then none else selL B 2 l.length [0,1,2,3,4,5] (a + 15) []) = _
 rw [if_neg h2,Ztv l _ _ _ (.inl rfl) hx h1.2,List.length_append,Zae,Nat.add_assoc]
 rfl
theorem Zkk {n k i:Nat} (h:i < n):(List.replicate n k).getD i 0 = k:=by
 rw [List.getD_eq_getElem?_getD,List.getElem?_replicate,if_pos h];rfl
theorem Zoe {n k:Nat} (hk:k ≠ 0):∀ s,s <= n -> acc (List.replicate n k) k s = s * 2 ^ (20 - k)
 | 0,_=>by
  rw [Nat.zero_mul]
  refine Zxd fun j hj=>if_neg fun hp=>?_
  have h1:(List.replicate n k).getD j 0 = k:=Zkk (by rw [List.length_replicate] at hj;exact hj)
  unfold pre at hp
  rw [h1] at hp
  omega
 | s + 1,h=>by
  rw [Zmu _ k s hk (by rw [List.length_replicate];omega) (by rw [List.getElem_replicate]),Zoe hk s (by omega),Nat.succ_mul]
theorem Zsa {n k s:Nat} (hk:k ≠ 0) (h:s < n):word (List.replicate n k) s = s:=by
 unfold word
 rw [Zkk h,if_neg hk,Zoe hk s (by omega)]
 exact Nat.mul_div_cancel _ (Nat.pow_pos (by decide))
theorem Zna {n k:Nat} (hk:k ≠ 0):weight (List.replicate n k) = n * 2 ^ (20 - k):=by
 unfold weight wt
 rw [List.map_replicate,if_neg hk,List.sum_replicate_nat]
theorem Zrz {n k:Nat} (hk:k ≠ 0) (h20:k <= 20) (hn:n <= 2 ^ k):weight (List.replicate n k) <= 2 ^ 20:=by
 rw [Zna hk]
 calc n * 2 ^ (20 - k) <= 2 ^ k * 2 ^ (20 - k):=Nat.mul_le_mul_right _ hn
  _ = 2 ^ 20:=by rw [<- Nat.pow_add];congr 1;omega
theorem Zpp {n k:Nat} (hk:k ≠ 0) (h20:k <= 20) (hn:n <= 2 ^ k) (h5:n <= 512):(wordsE (List.replicate n k)).2 = 0:=by
 unfold wordsE
 have h1:May (List.replicate n k):=⟨fun x hx=>by rw [List.eq_of_mem_replicate hx];exact h20,by rw [List.length_replicate];exact h5⟩
 rw [if_neg (fun h=>h h1),if_neg (by have:=Zrz hk h20 hn;omega)]
theorem Zue (l bs:List Nat) (h20:∀ x ∈ l,x <= 20) (s at_:Nat) (hs:s < l.length) (h0:0 < l.getD s 0) (hw:weight l <= 2 ^ 20)
  (hb:∀ j,j < l.getD s 0 -> bit bs (at_ + j) = word l s / 2 ^ (l.getD s 0 - 1 - j) % 2) (hlen:at_ + l.getD s 0 <= 8 * bs.length):sym l bs at_ = some (s,at_ + l.getD s 0):=by
 have hL:l.getD s 0 <= 20:=M04.Zfz h20 s
 have hsm:=Zka l s hs h20 hw
 generalize hLe:l.getD s 0 = L at *
 have key:∀ d n,n + d = L -> decF (tabOf l) bs (22 - n) (word l s / 2 ^ (L - n)) n (at_ + n) = some (s,at_ + L):=by
  intro d
  induction d with
  | zero =>
   intro n hn
   obtain rfl:n = L:=by omega
   obtain ⟨k,hk⟩:∃ k,22 - n = k + 1:=⟨21 - n,by omega⟩
   rw [hk,Zvj l bs h20 k _ n (at_ + n) s hs ⟨by omega,by omega,by rw [hLe]⟩ hLe.symm]
  | succ d ih =>
   intro n hn
   obtain ⟨k,hk⟩:∃ k,22 - n = k + 1:=⟨21 - n,by omega⟩
   rw [hk,Zyc l bs h20 k _ n (at_ + n) s hs ⟨by omega,by omega,by rw [hLe]⟩ (by omega),if_pos (by omega),hb n (by omega)]
   have h1:=ih (n + 1) (by omega)
   have h2:2 * (word l s / 2 ^ (L - n)) + word l s / 2 ^ (L - 1 - n) % 2 = word l s / 2 ^ (L - (n + 1)):=by
    rw [show L - n = (L - (n + 1)) + 1 by omega,Nat.pow_succ,<- Nat.div_div_eq_div_mul,show L - 1 - n = L - (n + 1) by omega]
    omega
   rw [h2,show k = 22 - (n + 1) by omega]
   exact h1
 have h3:=key L 0 (by omega)
 simp only [Nat.sub_zero,Nat.add_zero] at h3
 rw [hsm] at h3
 exact h3
theorem Zwt {B:List Nat} {n k s a:Nat} (hk:1 <= k /\ k <= 20) (hn:n <= 2 ^ k) (hs:s < n) (h:Has B a (hbits s k)):sym (List.replicate n k) B a = some (s,a + k):=by
 have hk0:k ≠ 0:=by omega
 have e:=Zkk (k:=k) hs
 have h1:=h.1
 rw [Zae] at h1
 have:=Zue (List.replicate n k) B (fun x hx=>by rw [List.eq_of_mem_replicate hx];exact hk.2) s a (by rw [List.length_replicate];exact hs) (by rw [e];omega) (Zrz hk0 hk.2 hn)
  (fun j hj=>by rw [e] at hj ⊢;rw [Zsa hk0 hs,h.2 j (by rw [Zae];exact hj),Zhu hj]) (by rw [e];exact h1)
 rw [e] at this
 exact this
theorem Zlm {B:List Nat} {n k s a:Nat} {group:List Nat} {i:Nat} (hk:1 <= k /\ k <= 20) (hn:n <= 2 ^ k) (hs:s < n) (hg:∀ x ∈ group,x < 2) (hi:i < 50 * group.length) (h:Has B a (hbits s k)) :
  nextG B [List.replicate n k,List.replicate n k] group i a = some (s,a + k):=by
 have h1:i / 50 < group.length:=by omega
 unfold nextG
 rw [if_pos h1]
 have h2:group.getD (i / 50) 0 < 2:=by
  rw [List.getD_eq_getElem?_getD,List.getElem?_eq_getElem h1]
  exact hg _ (List.getElem_mem h1)
 have h3:[List.replicate n k,List.replicate n k].getD (group.getD (i / 50) 0) [] = List.replicate n k:=by
  rcases (show group.getD (i / 50) 0 = 0 \/ group.getD (i / 50) 0 = 1 by omega) with e | e <;> rw [e] <;> rfl
 rw [h3]
 exact Zwt hk hn hs h
theorem Zmn {B:List Nat} {n k e:Nat} {group:List Nat} (hk:1 <= k /\ k <= 20) (hn:n <= 2 ^ k) (he:e < n) (hg:∀ x ∈ group,x < 2):∀ (l:List Nat) (f a:Nat) (out:List Nat),(∀ x ∈ l,x < e) -> out.length + l.length + 1 <= 50 * group.length -> l.length < f -> Has B a (symB k (l ++ [e])) →
  symsG B [List.replicate n k,List.replicate n k] group e f a out = some (out ++ (l ++ [e]),a + (symB k (l ++ [e])).length)
 | [],f + 1,a,out,_,ho,_,h=>by
  have h1:Has B a (hbits e k):=by simpa [symB] using h
  unfold symsG
  rw [Zlm hk hn he hg (by simp at ho;omega) h1]
  show (if e = e then some (out ++ [e],a + k) else _) = _
  rw [if_pos rfl,Zhm]
  simp
 | x :: r,f + 1,a,out,hx,ho,hf,h=>by
  have e1:symB k (x :: r ++ [e]) = hbits x k ++ symB k (r ++ [e]):=by simp [symB]
  rw [e1] at h
  have h1:=h.app
  rw [Zae] at h1
  have hxe:=hx x (by simp)
  rw [List.length_cons] at ho hf
  unfold symsG
  rw [Zlm hk hn (by omega) hg (by omega) h1.1]
  show (if x = e then some (out ++ [x],a + k) else symsG B _ group e f (a + k) (out ++ [x])) = _
  rw [if_neg (by omega),Zmn hk hn he hg r f (a + k) (out ++ [x]) (fun y hy=>hx y (by simp [hy])) (by rw [List.length_append,List.length_singleton];omega) (by omega) h1.2,e1,List.length_append,Zae,Nat.add_assoc]
  simp
theorem Zjp:∀ (r l:List Nat),(∀ x ∈ r,x ∈ l) -> ∀ x ∈ placesL l r,x < l.length
 | [],l,_,x,h=>by cases h
 | c :: r,l,hin,x,h=>by
  have hc:=List.idxOf_lt_length_of_mem (hin c (by simp))
  unfold placesL at h
  rcases List.mem_cons.1 h with h | h
  ·rw [h];exact hc
  ·have:=Zjp r (toFront l (l.idxOf c)) (fun y hy=>Zcg hc (hin y (by simp [hy]))) x h
   rw [Zau hc] at this
   exact this
theorem Zgi {e:Nat} (he:2 <= e):∀ (l:List Nat) (run:Nat),(∀ x ∈ l,x + 1 < e) -> ∃ i,putS e l run = i ++ [e] /\ ∀ x ∈ i,x < e
 | [],run,_=>⟨digG run,rfl,fun x hx=>by have:=Zfy run run x hx;omega⟩
 | k :: r,run,h=>by
  unfold putS
  split
  ·exact Zgi he r (run + 1) (fun x hx=>h x (by simp [hx]))
  ·obtain ⟨i,h1,h2⟩:=Zgi he r 0 (fun x hx=>h x (by simp [hx]))
   refine ⟨(digG run ++ [k + 1]) ++ i,by rw [h1,List.append_assoc _ i],fun x hx=>?_⟩
   rcases List.mem_append.1 hx with hx | hx
   ·rcases List.mem_append.1 hx with hx | hx
    ·have:=Zfy run run x hx;omega
    ·rw [List.mem_singleton.1 hx];exact h k (by simp)
   ·exact h2 x hx
theorem Zaaa {n:Nat} (h:n <= 258) (h3:3 <= n):1 <= kOf n /\ kOf n <= 20 /\ n <= 2 ^ kOf n:=by
 have hlt:∃ x ∈ List.range 20,decide (n <= 2 ^ x) = true:=⟨9,by simp,by simp;omega⟩
 have h1:kOf n < (List.range 20).length:=List.findIdx_lt_length_of_exists hlt
 have h4:n <= 2 ^ kOf n:=by
  have h1b:List.findIdx (fun k=>decide (n <= 2 ^ k)) (List.range 20) < (List.range 20).length:=h1
  have h2:=List.findIdx_getElem (w:=h1b)
  rw [List.getElem_range] at h2
  exact of_decide_eq_true h2
 rw [List.length_range] at h1
 refine ⟨?_,by omega,h4⟩
 rcases Nat.eq_zero_or_pos (kOf n) with e | e
 ·rw [e] at h4;omega
 ·exact e
set_option maxRecDepth 20000 in
theorem Zrc {B b:List Nat} {a sum v first gl most:Nat} (h0:b ≠ []) (h256:∀ x ∈ b,x < 256) (hm:b.length <= most) (hl:b.length <= 1000) (hs:sum < 4294967296) (hv:v < 2) (hg:(fputG (turnG b).1).2.length <= 50 * gl) (hgl:gl <= 300)
  (h:Has B a (rowB b sum v first gl)):blkG B a most = some (if v = 1 then masked b else b,sum,a + (rowB b sum v first gl).length):=by
 have hpos:0 < b.length:=List.length_pos_iff.2 h0
 have ht0:(turnG b).1 ≠ []:=by
  intro e
  have:=Zby b
  rw [e] at this
  simp at this
  omega
 have ht256:=Zpc h256
 have htl:=Zby b
 have hat:=Zpb hpos
 have hbk:=Zqw h0 h256
 generalize htb:(turnG b).1 = t at *
 generalize hpl:(turnG b).2 = pl at *
 have hup:=Zks ht0 ht256
 have hfl:=Zcd t
 have hfr:=Zpq (most:=most) ht0 ht256 (by omega)
 have hu:(fputG t).1 = usedG t:=rfl
 have hsy:(fputG t).2 = putS ((usedG t).length + 1) (placesL (usedG t) t) 0:=rfl
 rw [hu] at hfr hfl
 obtain ⟨i,hi1,hi2⟩:=Zgi (e:=(usedG t).length + 1) (by omega) (placesL (usedG t) t) 0 (fun x hx=>by
  have:=Zjp t (usedG t) (fun y hy=>Zhd.2 ⟨hy,ht256 y hy⟩) x hx
  omega)
 rw [<- hsy] at hi1
 have hk:=Zaaa (n:=(usedG t).length + 2) (by omega) (by omega)
 have hrow:rowB b sum v first gl = hbits sum 32 ++ (hbits v 1 ++ (hbits pl 24 ++ (mapG (usedG t) ++ (hbits 2 3 ++ (selectorsG ((List.range gl).map fun i=>(first + i) % 2) ++ ((hbits (kOf ((usedG t).length + 2)) 5 ++ List.replicate ((usedG t).length + 2) 0) ++ ((hbits (kOf ((usedG t).length + 2)) 5 ++ List.replicate ((usedG t).length + 2) 0) ++ symB (kOf ((usedG t).length + 2)) (fputG t).2))))))):=by
  unfold rowB
  rw [htb,hpl,hu,Zdm _ _ (by omega)]
  simp only [List.append_assoc]
 rw [hrow] at h ⊢
 generalize hgr:(List.range gl).map (fun i=>(first + i) % 2) = group at *
 have hgrl:group.length = gl:=by rw [<- hgr];simp
 have hgr2:∀ x ∈ group,x < 2:=fun x hx=>by
  rw [<- hgr] at hx
  obtain ⟨y,_,rfl⟩:=List.mem_map.1 hx
  exact Nat.mod_lt _ (by decide)
 have hsl:(fputG t).2.length = i.length + 1:=by rw [hi1,List.length_append,List.length_singleton]
 have hgr0:group ≠ []:=by
  intro e
  rw [e] at hgrl
  simp at hgrl
  omega
 generalize hn:(usedG t).length + 2 = n at *
 generalize kOf n = k at *
 have h1:=h.app
 have h2:=h1.2.app
 have h3:=h2.2.app
 have h4:=h3.2.app
 have h5:=h4.2.app
 have h6:=h5.2.app
 have h7:=h6.2.app
 have h8:=h7.2.app
 rw [hi1] at h8
 have n1:=h1.1.num (by simpa using hs)
 have n2:=h2.1.num (by simpa using hv)
 have n3:=h3.1.num (n:=24) (by omega)
 have n4:=Zwk ht0 ht256 h4.1
 have n5:=h5.1.num (by decide)
 have n6:=Zwq hgr0 (by omega) hgr2 h6.1
 have n7:=Zoh ⟨hk.1,hk.2.1⟩ h7.1
 have n8:=Zoh ⟨hk.1,hk.2.1⟩ h8.1
 have hwe:=Zpp (n:=n) (k:=k) (by omega) hk.2.1 hk.2.2 (by omega)
 have n9:=Zmn ⟨hk.1,hk.2.1⟩ hk.2.2 (e:=(usedG t).length + 1) (by omega) hgr2 i (50 * group.length + 1) _ [] hi2 (by simp;omega) (by omega) h8.2
 simp only [Zae,List.length_append,List.length_replicate,List.nil_append,<- Nat.add_assoc] at n1 n2 n3 n4 n5 n6 n7 n8 n9
 rw [<- hi1] at n9 h8
 unfold blkG
 rw [n1]
 show blk1 B most sum _ = _
 unfold blk1
 rw [n2]
 show blk2 B most sum v _ = _
 unfold blk2
 rw [n3]
 show blk3 B most sum v pl _ = _
 unfold blk3
 rw [n4]
 show blk4 B most sum v pl (usedG t) _ = _
 unfold blk4
 rw [n5]
 show blk5 B most sum v pl (usedG t) 2 _ = _
 unfold blk5
 rw [if_neg (by decide),n6]
 show blk6 B most sum v pl (usedG t) 2 group _ = _
 unfold blk6
 rw [hn]
 have ntab:tabsL B n 2 (a + 32 + 1 + 24 + (mapG (usedG t)).length + 3 + (selectorsG group).length) [] = some ([List.replicate n k,List.replicate n k],a + 32 + 1 + 24 + (mapG (usedG t)).length + 3 + (selectorsG group).length + 5 + n + 5 + n):=by
  unfold tabsL
  rw [n7]
  simp only [Option.bind_some]
  rw [if_pos hwe]
  unfold tabsL
  rw [n8]
  simp only [Option.bind_some]
  rw [if_pos hwe]
  rfl
 rw [ntab]
 simp only [Option.bind_some]
 unfold blk7
 rw [n9]
 show blk8 B most sum v pl (usedG t) (fputG t).2 _ = _
 unfold blk8
 rw [hfr]
 show (backG t pl).bind _ = _
 rw [hbk]
 simp only [Option.bind_some,List.length_append,Zae,List.length_replicate,<- Nat.add_assoc]
end Go.Proofs.Ytnkpnjnfddjfpaa

namespace Go.Proofs.Ytnkpnjnfddjfpaa
open M01 M02 M04 M06 M10 M27
theorem Zln:∀ (n:Nat) (l:List Nat),l.length = n -> (∀ x ∈ l,x < 2) -> ∀ j,j < n -> numHL l / 2 ^ (n - 1 - j) % 2 = l.getD j 0
 | 0,l,_,_,j,hj=>absurd hj (Nat.not_lt_zero j)
 | n + 1,l,hl,h2,j,hj=>by
  have hne:l ≠ []:=by intro e;rw [e] at hl;simp at hl
  obtain ⟨m,b,rfl⟩:∃ m b,l = m ++ [b]:=⟨l.dropLast,l.getLast hne,(List.dropLast_concat_getLast hne).symm⟩
  rw [List.length_append,List.length_singleton] at hl
  have hm:m.length = n:=by omega
  have hb:b < 2:=h2 b (by simp)
  rw [Zge]
  rcases Nat.lt_or_ge j n with h1 | h1
  ·have ih:=Zln n m hm (fun x hx=>h2 x (by simp [hx])) j h1
   rw [show n + 1 - 1 - j = (n - 1 - j) + 1 by omega,Nat.pow_succ,Nat.mul_comm (2 ^ (n - 1 - j)) 2,<- Nat.div_div_eq_div_mul,show (2 * numHL m + b) / 2 = numHL m by omega,ih,List.getD_eq_getElem?_getD,List.getD_eq_getElem?_getD,List.getElem?_append_left (by omega)]
  ·obtain rfl:j = n:=by omega
   rw [show j + 1 - 1 - j = 0 by omega,Nat.pow_zero,Nat.div_one,List.getD_eq_getElem?_getD,List.getElem?_append_right (by omega),hm,Nat.sub_self]
   show (2 * numHL m + b) % 2 = b
   omega
theorem Zkv {l:List Nat} (h:∀ x ∈ l,x < 2):∀ x ∈ alignL l,x < 2:=Zbp h (Zti (by decide))
theorem Zqu (l:List Nat):l.length <= (alignL l).length:=by unfold alignL;rw [List.length_append];omega
theorem Zia (l:List Nat):8 * (packH l).length = (alignL l).length:=by
 have:=(Zcu l).1
 unfold packH
 rw [List.length_map,List.length_range]
 omega
theorem Zta (l:List Nat) (k:Nat) (h:k < (packH l).length):(packH l).getD k 0 = numHL (((alignL l).drop (8 * k)).take 8):=by
 rw [List.getD_eq_getElem?_getD,List.getElem?_eq_getElem h]
 simp [packH]
theorem Zor {l:List Nat} (h:∀ x ∈ l,x < 2):∀ x ∈ packH l,x < 256:=by
 intro x hx
 unfold packH at hx
 obtain ⟨j,_,rfl⟩:=List.mem_map.1 hx
 exact Zlo (fun y hy=>Zkv h y (List.mem_of_mem_drop (List.mem_of_mem_take hy))) (by rw [List.length_take];omega)
theorem Zwh {l:List Nat} (h:∀ x ∈ l,x < 2):Has (rv (packH l)) 0 l:=by
 have e0:=Zia l
 have e1:l.length <= (alignL l).length:=by unfold alignL;rw [List.length_append];omega
 have e2:nb (rv (packH l)) = (alignL l).length:=by unfold nb;rw [Zap,e0]
 refine ⟨by rw [e2];omega,fun j hj=>?_⟩
 have hk:j / 8 < (packH l).length:=by omega
 rw [Nat.zero_add,Zoa _ (Zor h) j (by omega),Zta _ _ hk]
 have hl8:(((alignL l).drop (8 * (j / 8))).take 8).length = 8:=by
  have:=(Zcu l).1
  rw [List.length_take,List.length_drop]
  omega
 have h7:=Zln 8 _ hl8 (fun y hy=>Zkv h y (List.mem_of_mem_drop (List.mem_of_mem_take hy))) (j % 8) (Nat.mod_lt _ (by decide))
 rw [show 8 - 1 - j % 8 = 7 - j % 8 by omega] at h7
 rw [h7,List.getD_eq_getElem?_getD,List.getElem?_take,if_pos (Nat.mod_lt _ (by decide)),List.getElem?_drop,show 8 * (j / 8) + j % 8 = j by omega,List.getD_eq_getElem?_getD]
 unfold alignL
 rw [List.getElem?_append_left hj]
theorem Znz (bs:List Nat) (j:Nat) (h:j < 8 * bs.length):(bitL bs).getD j 0 = bit bs j:=by
 rw [List.getD_eq_getElem?_getD,List.getElem?_eq_getElem (by rw [Zkb];exact h)]
 simp [bitL]
theorem Zvy {B:List Nat} {a x:Nat} {l:List Nat} (h256:∀ y ∈ x :: l,y < 256) (h:Has B a (ofB (x :: l))):Has B a (hbits x 8) /\ Has B (a + 8) (ofB l):=by
 have hl:=h.1
 rw [Zbd,List.length_cons] at hl
 have key:∀ j,j < 8 * (l.length + 1) -> bit B (a + j) = (x :: l).getD (j / 8) 0 / 2 ^ (7 - j % 8) % 2:=fun j hj=>by
  rw [h.2 j (by rw [Zbd,List.length_cons];exact hj)]
  unfold ofB
  rw [Znz _ _ (by rw [Zap,List.length_cons];exact hj),Zoa _ h256 _ (by rw [List.length_cons];exact hj)]
 refine ⟨⟨by rw [Zae];omega,fun j hj=>?_⟩,⟨by rw [Zbd];omega,fun j hj=>?_⟩⟩
 ·rw [Zae] at hj
  rw [key j (by omega),Zhu hj,show j / 8 = 0 by omega,show j % 8 = j by omega]
  rfl
 ·rw [Zbd] at hj
  rw [Nat.add_assoc,key (8 + j) (by omega),show (8 + j) / 8 = j / 8 + 1 by omega,show (8 + j) % 8 = j % 8 by omega]
  unfold ofB
  rw [Znz _ _ (by rw [Zap];exact hj),Zoa _ (fun y hy=>h256 y (by simp [hy])) _ hj]
  rfl
theorem Zex {B:List Nat}:∀ (l:List Nat) (a:Nat) (out:List Nat),(∀ x ∈ l,x < 256) -> Has B a (ofB l) -> bytesG B l.length a out = some (out ++ l,a + 8 * l.length)
 | [],a,out,_,_=>by simp [bytesG]
 | x :: l,a,out,h256,h=>by
  obtain ⟨h1,h2⟩:=Zvy h256 h
  rw [List.length_cons]
  unfold bytesG
  rw [h1.num (h256 x (by simp))]
  simp only [Option.bind_some]
  rw [Zex l (a + 8) (out ++ [x]) (fun y hy=>h256 y (by simp [hy])) h2,List.append_assoc,show a + 8 + 8 * l.length = a + 8 * (l.length + 1) by omega]
  rfl
def partsR (t:Int):List (List Nat) -> Nat -> List (List Nat × Nat)
 | [],_=>[]
 | p :: r,i=>(p,sumI t i p) :: partsR t r (i + 1)
def foldR (l:List (List Nat × Nat)) (f:Nat):Nat:=l.foldl (fun s p=>foldS s p.2) f
theorem Zud (t:Int) (i:Nat) (p:List Nat):sumI t i p < 4294967296:=by
 have h:=M27.Ziw (say p)
 unfold sumI
 split
 ·exact Nat.xor_lt_two_pow (n:=32) h (by decide)
 ·exact h
theorem Zli (b:List Nat):(fputG (turnG b).1).2.length <= 50 * grpN b:=by unfold grpN;omega
theorem Zyy {B p:List Nat} {a sum first most:Nat} {m:Bool} (h0:p ≠ []) (h256:∀ x ∈ p,x < 256) (hm:p.length <= most) (hl:p.length <= 1000) (hs:sum < 4294967296) (h:Has B a (rowG p sum m first (grpN (maskIf m p)))) :
  blkG B a most = some (p,sum,a + (rowG p sum m first (grpN (maskIf m p))).length):=by
 have hgl:∀ b:List Nat,b.length <= 1000 -> grpN b <= 300:=fun b hb=>by
  have:=(Zcd (turnG b).1).2
  rw [Zby] at this
  unfold grpN
  omega
 unfold rowG at h ⊢
 cases m with
 | false=>exact Zrc (v:=0) h0 h256 hm hl hs (by decide) (Zli p) (hgl p hl) h
 | true =>
  have h0m:masked p ≠ []:=by
   intro e
   have:=Zbj p
   rw [e] at this
   exact h0 (List.length_eq_zero_iff.1 this.symm)
  have:=Zrc (v:=1) h0m (Zsr h256) (by rw [Zbj];exact hm) (by rw [Zbj];exact hl) hs (by decide) (Zli _) (hgl _ (by rw [Zbj];exact hl)) h
  rw [if_pos rfl,Zke] at this
  exact this
theorem Zjn {B:List Nat} {most:Nat} (m:Bool) (t:Int) (hmo:1000 <= most):∀ (ps:List (List Nat)) (i fold a f:Nat),(∀ p ∈ ps,p ≠ [] /\ p.length <= 1000 /\ ∀ x ∈ p,x < 256) -> fold < 4294967296 -> ps.length < f -> Has B a (fileR m t ps i fold) →
  ∃ a2,partsG B most f a = (partsR t ps i,some a2) /\ numG B a2 32 = some (if t = ((i + ps.length:Nat):Int) then foldR (partsR t ps i) fold ^^^ 1 else foldR (partsR t ps i) fold,a + (fileR m t ps i fold).length)
 | [],i,fold,a,f + 1,_,hfo,_,h=>by
  unfold fileR at h ⊢
  have h1:=h.app
  have e1:endM.length = 6:=rfl
  rw [Zbd,e1] at h1
  have h2:=Zex endM a [] (by decide) h1.1
  rw [e1] at h2
  have hv:(if t = (i:Int) then fold ^^^ 1 else fold) < 2 ^ 32:=by
   split
   ·exact Nat.xor_lt_two_pow (n:=32) hfo (by decide)
   ·exact hfo
  refine ⟨a + 8 * 6,?_,?_⟩
  ·unfold partsG
   rw [h2]
   show (if endM = blockM then _ else if endM = endM then _ else _) = _
   rw [if_neg (by decide),if_pos rfl]
   rfl
  ·rw [h1.2.num hv,List.length_append,Zbd,Zae,e1]
   rfl
 | p :: r,i,fold,a,f + 1,hps,hfo,hf,h=>by
  unfold fileR at h ⊢
  rw [List.append_assoc] at h
  have h1:=h.app
  have h2:=h1.2.app
  have e1:blockM.length = 6:=rfl
  rw [Zbd,e1] at h1 h2
  have h3:=Zex blockM a [] (by decide) h1.1
  rw [e1] at h3
  obtain ⟨hp0,hpl,hp2⟩:=hps p (by simp)
  have h4:=Zyy (most:=most) hp0 hp2 (by omega) hpl (Zud t i p) h2.1
  obtain ⟨a2,i1,i2⟩:=Zjn m t hmo r (i + 1) (foldS fold (sumI t i p)) _ f (fun q hq=>hps q (by simp [hq])) (M27.Zhb hfo (Zud t i p)) (by simpa using hf) h2.2
  refine ⟨a2,?_,?_⟩
  ·unfold partsG
   rw [h3]
   show (if blockM = blockM then _ else _) = _
   rw [if_pos rfl,h4]
   show ((p,sumI t i p) :: (partsG B most f _).1,(partsG B most f _).2) = _
   rw [i1]
   rfl
  ·rw [i2,List.length_cons,show i + 1 + r.length = i + (r.length + 1) by omega]
   simp only [List.length_append,Zbd,e1,<- Nat.add_assoc]
   rfl
def partA (keep:Nat) (s:List Nat × Nat) (p:List Nat):List Nat × Nat:=(s.1 ++ (say p).take (keep - s.1.length),s.2 + (say p).length)
theorem Zof (keep:Nat) (t:Int):∀ (ps:List (List Nat)) (i:Nat) (s:BzF × Nat),((((partsR t ps i).foldl (partF keep) s).1.bytes,((partsR t ps i).foldl (partF keep) s).1.size) = ps.foldl (partA keep) (s.1.bytes,s.1.size)) /\ ((partsR t ps i).foldl (partF keep) s).2 = foldR (partsR t ps i) s.2
 | [],i,s=>⟨rfl,rfl⟩
 | p :: r,i,s=>by
  obtain ⟨h1,h2⟩:=Zof keep t r (i + 1) (partF keep s (p,sumI t i p))
  exact ⟨h1,h2⟩
theorem Zze {t:Int} {i:Nat} (p:List Nat) (h:(i:Int) = t):(crcHigh (say p) == sumI t i p) = false:=by
 unfold sumI
 rw [if_pos h,beq_eq_false_iff_ne]
 intro e
 have h1:crcHigh (say p) ^^^ (crcHigh (say p) ^^^ 1) = 0:=by rw [<- e,Nat.xor_self]
 rw [<- Nat.xor_assoc,Nat.xor_self,Nat.zero_xor] at h1
 cases h1
theorem Zzd {t:Int} {i:Nat} (p:List Nat) (h:(i:Int) ≠ t):(crcHigh (say p) == sumI t i p) = true:=by
 unfold sumI
 rw [if_neg h]
 exact beq_self_eq_true _
theorem Zja (keep:Nat) (t:Int):∀ (ps:List (List Nat)) (i:Nat) (s:BzF × Nat),(∀ j:Nat,i <= j -> j < i + ps.length -> (j:Int) ≠ t) -> ((partsR t ps i).foldl (partF keep) s).1.wrong = s.1.wrong
 | [],i,s,_=>rfl
 | p :: r,i,s,h=>by
  show ((partsR t r (i + 1)).foldl (partF keep) (partF keep s (p,sumI t i p))).1.wrong = _
  rw [Zja keep t r (i + 1) _ (fun j h1 h2=>h j (by omega) (by rw [List.length_cons];omega))]
  show (s.1.wrong || (decide ((say p).length <= keep - s.1.bytes.length) && !(crcHigh ((say p).take (keep - s.1.bytes.length)) == sumI t i p))) = s.1.wrong
  by_cases hd:(say p).length <= keep - s.1.bytes.length
  ·rw [List.take_of_length_le hd,Zzd p (h i (Nat.le_refl _) (by rw [List.length_cons];omega))]
   simp
  ·simp [hd]
theorem Zjb (keep:Nat):∀ (l:List (List Nat × Nat)) (s:BzF × Nat),s.1.wrong = true -> (l.foldl (partF keep) s).1.wrong = true
 | [],s,h=>h
 | p :: r,s,h=>by
  show ((r.foldl (partF keep) (partF keep s p))).1.wrong = true
  refine Zjb keep r _ ?_
  show (s.1.wrong || _) = true
  rw [h]
  rfl
theorem Zdu:∀ (l:List Nat) (p run:Nat),(∀ x ∈ l,x < 256) -> run <= 4 -> (sayL l p run).length <= 52 * l.length + 51 * run
 | [],p,run,_,_=>by simp [sayL]
 | c :: r,p,run,h,hr=>by
  have hc:=h c (by simp)
  have hr2:∀ x ∈ r,x < 256:=fun x hx=>h x (by simp [hx])
  unfold sayL
  rw [List.length_cons]
  split
  ·rename_i h4
   rw [List.length_append,List.length_replicate]
   have:=Zdu r c 0 hr2 (by decide)
   omega
  ·rename_i h4
   rw [List.length_cons]
   split
   ·have:=Zdu r c (run + 1) hr2 (by omega)
    omega
   ·have:=Zdu r c 1 hr2 (by decide)
    omega
theorem Zjc (keep:Nat) (t:Int):∀ (ps:List (List Nat)) (i:Nat) (s:BzF × Nat),(∀ p ∈ ps,(∀ x ∈ p,x < 256) /\ p.length <= 200) -> s.1.bytes.length + 10400 * ps.length <= keep -> (∃ j:Nat,i <= j /\ j < i + ps.length /\ (j:Int) = t) -> ((partsR t ps i).foldl (partF keep) s).1.wrong = true
 | [],i,s,_,_,⟨j,h1,h2,_⟩=>by simp at h2;omega
 | p :: r,i,s,hp,hk,⟨j,h1,h2,h3⟩=>by
  rw [List.length_cons] at hk h2
  obtain ⟨q1,q2⟩:=hp p (by simp)
  have hsl:=Zdu p 0 0 q1 (by decide)
  have hsl2:(say p).length <= 10400:=by unfold say;omega
  show ((partsR t r (i + 1)).foldl (partF keep) (partF keep s (p,sumI t i p))).1.wrong = true
  by_cases hji:j = i
  ·subst hji
   refine Zjb keep _ _ ?_
   show (s.1.wrong || (decide ((say p).length <= keep - s.1.bytes.length) && !(crcHigh ((say p).take (keep - s.1.bytes.length)) == sumI t j p))) = true
   rw [List.take_of_length_le (by omega),Zze p h3,decide_eq_true (show (say p).length <= keep - s.1.bytes.length by omega)]
   simp
  ·refine Zjc keep t r (i + 1) _ (fun q hq=>hp q (by simp [hq])) ?_ ⟨j,by omega,by omega,h3⟩
   show (s.1.bytes ++ (say p).take (keep - s.1.bytes.length)).length + _ <= _
   rw [List.length_append,List.length_take]
   omega
theorem Zxx {lv:Nat} {ps:List (List Nat)} {m:Bool} {t:Int} {keep:Nat} (hlv:1 <= lv /\ lv <= 9) (hps:∀ p ∈ ps,p ≠ [] /\ p.length <= 200 /\ ∀ x ∈ p,x < 256) (hn:ps.length <= 4) (hk:41600 <= keep) :
  ∃ F,bzG (rv (fileG lv ps m t)) keep (nb (rv (fileG lv ps m t)) + 1) 0 ⟨[],0,false⟩ = some F /\ (F.bytes,F.size) = ps.foldl (partA keep) ([],0) /\ ((∀ j:Nat,j <= ps.length -> (j:Int) ≠ t) -> F.wrong = false) /\ ((∃ j:Nat,j <= ps.length /\ (j:Int) = t) -> F.wrong = true):=by
 have hlt:∀ x ∈ ofB [66,90,104,48 + lv] ++ fileR m t ps 0 0,x < 2:=Zbp (Zlr _) (Zgz m t _ _ _)
 have h:=Zwh hlt
 have hal:=Zia (ofB [66,90,104,48 + lv] ++ fileR m t ps 0 0)
 have hal2:=Zcu (ofB [66,90,104,48 + lv] ++ fileR m t ps 0 0)
 have hal3:(ofB [66,90,104,48 + lv] ++ fileR m t ps 0 0).length <= (alignL (ofB [66,90,104,48 + lv] ++ fileR m t ps 0 0)).length:=Zqu _
 have e0:packH (ofB [66,90,104,48 + lv] ++ fileR m t ps 0 0) = fileG lv ps m t:=rfl
 rw [e0] at h hal
 have hnb:nb (rv (fileG lv ps m t)) = (alignL (ofB [66,90,104,48 + lv] ++ fileR m t ps 0 0)).length:=by unfold nb;rw [Zap];exact hal
 generalize rv (fileG lv ps m t) = B at *
 have h1:=h.app
 rw [Zbd] at h1
 have h256:∀ x ∈ [66,90,104,48 + lv],x < 256:=fun x hx=>by simp at hx;omega
 have h2:=Zex [66,90,104,48 + lv] 0 [] h256 h1.1
 have e1:[66,90,104,48 + lv].length = 4:=rfl
 rw [e1] at h1 h2
 have hle:=h.1
 rw [List.length_append,Zbd,e1] at hal3 hal2 hle
 have hfl:4 < (fileR m t ps 0 0).length:=by
  cases ps with
  | nil=>unfold fileR;rw [List.length_append,Zbd];have:endM.length = 6:=rfl;omega
  | cons p r=>unfold fileR;rw [List.length_append,List.length_append,Zbd];have:blockM.length = 6:=rfl;omega
 obtain ⟨a2,p1,p2⟩:=Zjn (most:=lv * 100000) m t (by omega) ps 0 0 (0 + 8 * 4) (nb B + 1) (fun p hp=>⟨(hps p hp).1,by have:=(hps p hp).2.1;omega,(hps p hp).2.2⟩) (by decide) (by omega) h1.2
 have hst:strmG B 0 = (partsR t ps 0,some a2):=by
  unfold strmG
  rw [h2]
  show (if _ then _ else _) = _
  rw [if_pos (by refine ⟨rfl,?_,?_⟩ <;> show _ <= _ <;> simp <;> omega)]
  show partsG B ((48 + lv - 48) * 100000) (nb B + 1) (0 + 8 * 4) = _
  rw [Nat.add_sub_cancel_left,p1]
 obtain ⟨f1,f2⟩:=Zof keep t ps 0 (⟨[],0,false⟩,0)
 have f3:=Zja keep t ps 0 (⟨[],0,false⟩,0)
 have f4:=Zjc keep t ps 0 (⟨[],0,false⟩,0) (fun p hp=>⟨(hps p hp).2.2,(hps p hp).2.1⟩) (by simp;omega)
 rw [Nat.zero_add] at p2
 unfold bzG
 rw [hst]
 simp only [Option.bind_some]
 rw [p2]
 simp only [Option.bind_some]
 generalize hr:(partsR t ps 0).foldl (partF keep) (⟨[],0,false⟩,0) = R at *
 have hR2:R.2 = foldR (partsR t ps 0) 0:=f2
 rw [<- hR2]
 rw [if_neg (by omega)]
 refine ⟨_,rfl,f1,fun hne=>?_,fun hex=>?_⟩
 ·have h5:=f3 (fun j _ hj=>hne j (by omega))
  have h6:¬ t = ((ps.length:Nat):Int):=fun e=>hne ps.length (Nat.le_refl _) e.symm
  show (R.1.wrong || !((if t = ((ps.length:Nat):Int) then R.2 ^^^ 1 else R.2) == R.2)) = false
  rw [h5,if_neg h6]
  simp
 ·obtain ⟨j,hj,hjt⟩:=hex
  show (R.1.wrong || !((if t = ((ps.length:Nat):Int) then R.2 ^^^ 1 else R.2) == R.2)) = true
  by_cases hl:t = ((ps.length:Nat):Int)
  ·rw [if_pos hl]
   have h7:((R.2 ^^^ 1) == R.2) = false:=by
    rw [beq_eq_false_iff_ne]
    intro e
    have h1:R.2 ^^^ (R.2 ^^^ 1) = 0:=by rw [e,Nat.xor_self]
    rw [<- Nat.xor_assoc,Nat.xor_self,Nat.zero_xor] at h1
    cases h1
   rw [h7]
   simp
  ·rw [f4 ⟨j,Nat.zero_le _,by omega,hjt⟩]
   rfl
end Go.Proofs.Ytnkpnjnfddjfpaa

namespace Go.Proofs.Ytnkpnjnfddjfpaa
open Go.RowKit
theorem Zmj {w:World} {x:Addr} {v:Value} (h:w.cell? x = some v):x.spot = none /\ x.block < w.heap.size:=by
 unfold World.cell? at h
 cases ho:w.heap[x.block]? with
 | none=>simp [ho] at h
 | some o =>
  refine ⟨?_,(Array.getElem?_eq_some_iff.1 ho).1⟩
  rw [ho] at h
  cases o <;> simp at h
  exact h.1
theorem Ztl {k:IntKind} {w:World} {a:Option Addr} {len cap:Nat} {zs:List Int}
  (h:(a = none /\ len = 0 /\ cap = 0 /\ zs = []) \/ ∃ x,a = some x /\ len <= cap /\ cap <= maxLen /\ zs.length = cap /\ (∀ i,i < zs.length -> w.cell? (x.add i) = some (.int k (zs.getD i 0))) /\ ∀ n ∈ zs,(Lit.int k n).wf = true) :
  ∃ l:List Int,l.length = len /\ RowI k w a cap l /\ ∀ n ∈ l,(Lit.int k n).wf = true:=by
 rcases h with ⟨rfl,rfl,rfl,rfl⟩ | ⟨x,rfl,hl,hm,hz,hc,hw⟩
 ·exact ⟨[],rfl,RowI.nil k w,by simp⟩
 ·refine ⟨zs.take len,by simp;omega,⟨by simp;omega,⟨by simpa [maxLen] using hm,fun hn=>by cases hn⟩,?_⟩,fun n hn=>hw n (List.mem_of_mem_take hn)⟩
  by_cases h0:zs.take len = []
  ·exact .inl h0
  ·have hp:0 < (zs.take len).length:=List.length_pos_iff.2 h0
   simp only [List.length_take] at hp
   have h1:=hc 0 (by omega)
   simp only [Addr.add,if_true] at h1
   obtain ⟨hs,hb⟩:=Zmj h1
   refine .inr ⟨x.block,x.off,by cases x;simp_all,hb,fun i hi=>?_⟩
   simp only [List.length_take] at hi
   have h2:=hc i (by omega)
   have h3:x.add i = ⟨x.block,x.off + i,none⟩:=by
    unfold Addr.add
    split
    ·cases x;simp_all
    ·rfl
   rw [h3] at h2
   rw [h2]
   simp [show i < zs.length by omega]
def natOf (l:List Int):List Nat:=l.map Int.toNat
theorem Ztn {k:IntKind} {w:World} {a:Option Addr} {cap:Nat} {l:List Int} (h:RowI k w a cap l) (hp:∀ n ∈ l,0 <= n):RowN k w a cap (natOf l):=by
 obtain ⟨h1,h2,h3⟩:=h
 refine ⟨by simpa [natOf] using h1,h2,?_⟩
 rcases h3 with rfl | ⟨b,off,ha,hb,hc⟩
 ·exact .inl rfl
 ·refine .inr ⟨b,off,ha,hb,fun i hi=>?_⟩
  simp only [natOf,List.length_map] at hi
  rw [hc i hi]
  simp only [natOf,List.getElem_map]
  rw [Int.toNat_of_nonneg (hp _ (List.getElem_mem hi))]
theorem Zzq {n:Int} (h:(Lit.int .u8 n).wf = true):0 <= n /\ n < 256:=by
 simp [Lit.wf,IntKind.min,IntKind.max,IntKind.signed,IntKind.bits] at h
 omega
theorem Zqj {w:World} {a:Option Addr} {len cap:Nat} {zs:List Int}
  (h:(a = none /\ len = 0 /\ cap = 0 /\ zs = []) \/ ∃ x,a = some x /\ len <= cap /\ cap <= maxLen /\ zs.length = cap /\ (∀ i,i < zs.length -> w.cell? (x.add i) = some (.int .u8 (zs.getD i 0))) /\ ∀ n ∈ zs,(Lit.int .u8 n).wf = true) :
  ∃ l:List Nat,l.length = len /\ RowN .u8 w a cap l /\ ∀ n ∈ l,n < 256:=by
 obtain ⟨l,h1,h2,h3⟩:=Ztl h
 refine ⟨natOf l,by simpa [natOf] using h1,Ztn h2 fun n hn=>(Zzq (h3 n hn)).1,fun n hn=>?_⟩
 simp only [natOf,List.mem_map] at hn
 obtain ⟨m,hm,rfl⟩:=hn
 have:=Zzq (h3 m hm)
 omega
end Go.Proofs.Ytnkpnjnfddjfpaa
