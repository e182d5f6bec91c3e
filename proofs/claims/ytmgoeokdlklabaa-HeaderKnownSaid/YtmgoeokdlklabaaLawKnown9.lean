/- HeaderKnown: the law's walk. -/
import Derived.Test.YtmgoeokdlklabaaLawGets9
namespace Go.Proofs.Ytmgoeokdlklabaa
open Go.RowKit Go.Shelf M01 M04 M05 M06 M07 M09
attribute [local go_sem] Oper.semAt_some
set_option linter.unusedVariables false
set_option linter.unusedSimpArgs false

theorem wpList_unguard {P : Program} {ops : Array Oper} {Q : Exit → Act → World → Prop} {o : Oper} {rest : List Oper} {a : Act} {w : World} (hw : Region.wanted o (yielded ops a.tmps) = true) (h : wpList P ops Q ({ o with guard := none } :: rest) a w) : wpList P ops Q (o :: rest) a w := by
  unfold wpList at h ⊢
  rw [if_pos hw]
  rw [if_pos (by simp [Region.wanted])] at h
  exact h
set_option maxRecDepth 100000 in
theorem header_put_no (w : World) (p : Nat) (a b : Option Addr) (ca cb : Nat) (f o : List Nat) (h1 : RowN .u8 w a ca f) (h2 : RowN .u8 w b cb o) (hf : f.length ≤ 1000) (ho : o.length ≤ 1000) (hm : mayH f o = false) :
    Calls Try.prog 13 #[.pointer (some ⟨p, 0, none⟩), .slice a f.length ca, .slice b o.length cb] w fun e w' => e = .returned (.int .i64 5) ∧ w' = w := by
  have HM := Lib.hid (hdr_may a b ca cb f o w h1 h2 hf ho)
  rw [hm] at HM
  clear h1 h2 hm
  go_enter Try.func13, Try.ntmps13
  go_wp2_with (go_at_call 36; refine HM.out.mono ?_; rintro e w' ⟨rfl, hww⟩; replace hww := hww.symm; subst hww)
  go_ret
  exact ⟨rfl, rfl⟩
theorem hdr_idleN {q : Nat} {A : World} {x y z : Value} {tmps : Array Value} {Rr : Ending → World → Prop} (h : Res q A x y z) (t2 : tmps.getD 2 undef = .pointer (some ⟨q, 0, none⟩)) (t3 : tmps.getD 3 undef = .pointer (some ⟨q + 1, 0, none⟩)) (t4 : tmps.getD 4 undef = .pointer (some ⟨q + 1 + 1, 0, none⟩))
    (hK : Rr (.returned (.tuple #[x, y, z])) A) : bodyPostD Try.prog Try.f22 Rr .ret { tmps := tmps, defers := [] } A := by
  show Leaves _ _ _ _ [] .returning A
  obtain ⟨h1, h2, h3⟩ := h
  have g1 := cell_of_one h1
  have g2 := cell_of_one h2
  have g3 := cell_of_one h3
  simp only [Leaves, settle]
  refine ⟨_, ?_, hK⟩
  have s2 : tmps[2]?.getD undef = .pointer (some ⟨q, 0, none⟩) := by simpa using t2
  have s3 : tmps[3]?.getD undef = .pointer (some ⟨q + 1, 0, none⟩) := by simpa using t3
  have s4 : tmps[4]?.getD undef = .pointer (some ⟨q + 1 + 1, 0, none⟩) := by simpa using t4
  simp [results, Try.results22, go_sem, s2, s3, s4, g1, g2, g3]
set_option maxRecDepth 100000 in
theorem hdr_get_nil (w : World) : Calls Try.prog 22 #[.pointer none] w fun e w' => e = .returned (.tuple #[.slice none 0 0, .slice none 0 0, .int .i64 8]) ∧ Below w.heap.size w w' := by
  go_enter_defers Try.func22, Try.ntmps22
  go_wp2_with fail
  have b1 := box_b w (.cells #[.slice none 0 0] 22)
  have b2 := box_b (w.alloc (.cells #[.slice none 0 0] 22)) (.cells #[.slice none 0 0] 22)
  have b3 := box_b ((w.alloc (.cells #[.slice none 0 0] 22)).alloc (.cells #[.slice none 0 0] 22)) (.cells #[.int .i64 8] 25)
  refine hdr_idleN (q := w.heap.size) (x := .slice none 0 0) (y := .slice none 0 0) (z := .int .i64 8) ⟨?_, ?_, ?_⟩ rfl rfl rfl ⟨rfl, (b1.trans (b2.mono b1.size)).trans (b3.mono (b1.trans (b2.mono b1.size)).size)⟩
  · exact (b3.block _ (by first | (simp; done) | (simp; omega))).trans ((b2.block _ (by first | (simp; done) | (simp; omega))).trans (World.alloc_heap_new w _))
  · have := World.alloc_heap_new (w.alloc (.cells #[.slice none 0 0] 22)) (.cells #[.slice none 0 0] 22)
    rw [show (w.alloc (.cells #[.slice none 0 0] 22)).heap.size = w.heap.size + 1 by simp] at this
    exact (b3.block _ (by simp)).trans this
  · have := World.alloc_heap_new ((w.alloc (.cells #[.slice none 0 0] 22)).alloc (.cells #[.slice none 0 0] 22)) (.cells #[.int .i64 8] 25)
    rw [show ((w.alloc (.cells #[.slice none 0 0] 22)).alloc (.cells #[.slice none 0 0] 22)).heap.size = w.heap.size + 1 + 1 by simp] at this
    exact this
set_option maxRecDepth 100000 in
theorem hdr_ff : hdr (List.replicate 60 255) 0 = none := by decide +kernel
set_option maxRecDepth 100000 in
theorem hdr_00 : hdr (List.replicate 60 0) 0 = none := by decide +kernel
def knO : List Nat := (List.replicate 257 0).set 256 1
theorem kn_may : mayH (plF.take 256) plO = false ∧ mayH (List.replicate 257 0) plO = false ∧ mayH (plF.set 1 1) plO = false ∧ mayH (plF.set 0 2) plO = false ∧ mayH (plF.set 0 16) plO = false ∧ mayH (List.replicate 287 0) plO = false ∧ mayH plF [] = false ∧ mayH plF (List.replicate 31 0) = false ∧ mayH plF [2] = false ∧ mayH plF [1, 1, 1] = false ∧ mayH knO [1] = true := by decide +kernel
theorem mk8 (w : World) (n : Nat) (hn : n ≤ 100000) : ∃ w', (Instr.makeSlice 22 (.int .i64 (n : Nat)) (.int .i64 (n : Nat))).run Try.prog w = .ok (.slice (some ⟨w.heap.size, 0, none⟩) n n) w' ∧ OwnN 5 .u8 w' w.heap.size (some ⟨w.heap.size, 0, none⟩) n (List.replicate n 0) ∧ w.grownBy w' none := by
  obtain ⟨i, h2, h3, h4, h5⟩ := info_parts (et_u8).info
  obtain ⟨w', hrun, r1, r2⟩ := run_make_full (P := Try.prog) w w.heap.size 22 5 i (.int .u8 0) 1 (et_u8).und h2 h3 h4 .i64 .i64 n (by rw [h5]; omega) (by simp [maxLen]; omega) (Nat.le_refl _)
  refine ⟨w', hrun, ?_, r2⟩
  unfold OwnN
  have hm : (madeCells (Value.int .u8 0).cells (n * 1)).toList = (List.replicate n (0 : Nat)).map fun (n : Nat) => Value.int .u8 n := by
    rw [Nat.mul_one]; show (madeCells #[.int .u8 0] n).toList = _; rw [toList_madeCells_one]; simp
  rw [List.length_replicate, ← hm]
  exact r1
theorem wr_at0 {P : Nat → Prop} {w : World} {p : Nat} (h : w.heap[p]? = some (.cells #[.slice none 0 0, .int .i64 0] 24 (0, 0))) (hp : P p) (hs : ∀ b, w.heap.size ≤ b → P b) : Wr P w p ([], 0) :=
  ⟨⟨none, 0, h, OwnN.nil _ _ _ _, hp, fun g hg => (by cases hg), hs⟩, ⟨rfl, by simp⟩, Nat.zero_le _⟩
theorem knO_len : knO.length = 257 := by unfold knO; rw [List.length_set, List.length_replicate]

set_option maxRecDepth 100000 in
set_option maxHeartbeats 6400000 in
theorem law_known9 (w : World) : Calls Try.prog 6 #[] w fun e w' => e = .returned (.bool true) ∧ Below w.heap.size w w' := by
  have HPL := Lib.hid (law09_plain w)
  obtain ⟨m1, m2, m3, m4, m5, m6, m7, m8, m9, m10, m11⟩ := kn_may
  have hFl := plF_len
  have hOl : plO.length = 1 := rfl
  generalize plF = F at *
  generalize plO = O at *
  have HM1 := Lib.hid m1
  have HM2 := Lib.hid m2
  have HM3 := Lib.hid m3
  have HM4 := Lib.hid m4
  have HM5 := Lib.hid m5
  have HM6 := Lib.hid m6
  have HM7 := Lib.hid m7
  have HM8 := Lib.hid m8
  have HM9 := Lib.hid m9
  have HM10 := Lib.hid m10
  have HM11 := Lib.hid m11
  clear m1 m2 m3 m4 m5 m6 m7 m8 m9 m10 m11
  go_enter Try.func6, Try.ntmps6
  go_wp2_with fail
  refine HPL.out.mono ?_
  rintro e w1 ⟨a1, c1, a2, c2, rfl, r1, r2, b1⟩
  obtain ⟨fb, fo, rfl, _, _⟩ := r1.at (show 0 < F.length by omega)
  have hfc := r1.1
  rw [hFl] at hfc
  have hcut : ∀ A, (Instr.sliceAt 22 (.slice (some ⟨fb, fo, none⟩) 257 c1) none (some (.int .i64 256)) none).run Try.prog A = .ok (.slice (some ⟨fb, fo, none⟩) 256 c1) A := fun A => by
    have hsz : (Try.prog.info? 5).map (·.size) = some 1 := by kernel_rfl
    cases h5 : Try.prog.info? 5 with
    | none => rw [h5] at hsz; cases hsz
    | some ie =>
      have h6 : (256 : Int) ≤ (c1 : Int) := by omega
      simp [Instr.sliceAt, Instr.slice, Instr.sliceBounds, Instr.sliceBound, run_underlying Try.underlying22, asIntOf, sizeOf, typeInfo, h5, go_sem, h6, Addr.add]
  have hbx := box_b w1 (.cells #[.slice none 0 0, .int .i64 0] 24)
  have HF := Lib.hid (r1.below hbx)
  have HO := Lib.hid (r2.below hbx)
  have hwr := World.alloc_heap_new w1 (.cells #[.slice none 0 0, .int .i64 0] 24)
  have HWR := Lib.hid hwr
  have HBW := Lib.hid (b1.trans (hbx.mono b1.size))
  have hwpz := b1.size
  clear r1 r2 b1 hbx hwr HPL
  go_wp2_with (at_builtin; refine (fun h => Hid.out h) ?_)
  have hsz0 : w1.heap.size < (w1.alloc (.cells #[.slice none 0 0, .int .i64 0] 24)).heap.size := by simp
  have hE : (w1.alloc (.cells #[.slice none 0 0, .int .i64 0] 24)).heap.size = w1.heap.size + 1 := by simp
  generalize w1.alloc (.cells #[.slice none 0 0, .int .i64 0] 24) = W0 at *
  generalize w1.heap.size = wp at *
  have HE := Lib.hid hE
  clear hE
  unfold Hid
  have hbl := box_b W0 (.cells #[] 5)
  have hfl := HF.out.below hbl
  have hnn := OwnN.lit0 5 .u8 W0 W0.heap.size (Nat.le_refl _)
  have hwz : W0.heap.size ≤ (W0.alloc (.cells #[] 5)).heap.size := by simp
  rw [HE.out] at hbl hnn hwz
  refine appAnyN et_u8 rfl (.tmp 29) (.tmp 30) rfl (base := wp + 1) (l := []) (ys := F) rfl hnn hFl.symm rfl hfl (by simp) (by simp) hwz ?_
  intro a0 k0 wa0 hown hga hba
  simp only [List.nil_append, List.length_nil, Nat.zero_add] at hown ⊢
  have hbW := hbl.trans hba
  obtain ⟨g0, rfl, _, _, hca, hfa⟩ := hown.at (show 1 < F.length by omega)
  have hst := hown.stored 1 1
  have hge : wp + 1 ≤ g0 := by
    rcases hown.form with ⟨h, _⟩ | ⟨g', h, h2, _⟩
    · cases h
    · cases h; exact h2
  have hbS := hbW.trans (Below.of_grown hst.2 (Nat.le_trans (by rw [← HE.out]; exact Nat.le_refl _) hbW.size) (fun g hg => by cases hg; exact hge))
  rw [← HE.out] at hbS
  have HROW0 := Lib.hid hst.1.row
  have HBS := Lib.hid hbS
  clear hbl hnn hwz hfl hga hba hown hbW hst hbS hge HE
  go_wp2_with (at_builtin; refine (fun h => Hid.out h) ?_)
  replace HROW0 : Hid (RowN .u8 (wa0.setCell ⟨g0, 1, none⟩ (.int .u8 1)) (some ⟨g0, 0, none⟩) k0 (F.set 1 1)) := HROW0
  replace HBS : Hid (Below W0.heap.size W0 (wa0.setCell ⟨g0, 1, none⟩ (.int .u8 1))) := HBS
  clear hca hfa
  have hE : (wa0.setCell ⟨g0, 1, none⟩ (.int .u8 1)).heap.size = wa0.heap.size := by simp
  generalize wa0.setCell ⟨g0, 1, none⟩ (.int .u8 1) = W1 at *
  have HE := Lib.hid hE
  clear hE
  have HF := Lib.hid (HF.out.below HBS.out)
  have HO := Lib.hid (HO.out.below HBS.out)
  have HWR := Lib.hid ((HBS.out.block wp (by omega)).trans HWR.out)
  have hsz1 : wp < W1.heap.size := Nat.lt_of_lt_of_le hsz0 HBS.out.size
  have HBW := Lib.hid (HBW.out.trans (HBS.out.mono HBW.out.size))
  unfold Hid
  have hbl := box_b W1 (.cells #[] 5)
  have hfl := HF.out.below hbl
  have hnn := OwnN.lit0 5 .u8 W1 W1.heap.size (Nat.le_refl _)
  have hwz : W1.heap.size ≤ (W1.alloc (.cells #[] 5)).heap.size := by simp
  rw [HE.out] at hbl hnn hwz
  refine appAnyN et_u8 rfl (.tmp 34) (.tmp 35) rfl (base := wa0.heap.size) (l := []) (ys := F) rfl hnn hFl.symm rfl hfl (by simp) (by simp) hwz ?_
  intro a1 k1 wa1 hown hga hba
  simp only [List.nil_append, List.length_nil, Nat.zero_add] at hown ⊢
  have hbW := hbl.trans hba
  obtain ⟨g1, rfl, _, _, hca, hfa⟩ := hown.at (show 0 < F.length by omega)
  have hst := hown.stored 0 2
  have hge : wa0.heap.size ≤ g1 := by
    rcases hown.form with ⟨h, _⟩ | ⟨g', h, h2, _⟩
    · cases h
    · cases h; exact h2
  have hbS := hbW.trans (Below.of_grown hst.2 (Nat.le_trans (by rw [← HE.out]; exact Nat.le_refl _) hbW.size) (fun g hg => by cases hg; exact hge))
  rw [← HE.out] at hbS
  have HROW1 := Lib.hid hst.1.row
  have HBS := Lib.hid hbS
  clear hbl hnn hwz hfl hga hba hown hbW hst hbS hge HE
  go_wp2_with (at_builtin; refine (fun h => Hid.out h) ?_)
  replace HROW1 : Hid (RowN .u8 (wa1.setCell ⟨g1, 0, none⟩ (.int .u8 2)) (some ⟨g1, 0, none⟩) k1 (F.set 0 2)) := HROW1
  replace HBS : Hid (Below W1.heap.size W1 (wa1.setCell ⟨g1, 0, none⟩ (.int .u8 2))) := HBS
  clear hca hfa
  have hE : (wa1.setCell ⟨g1, 0, none⟩ (.int .u8 2)).heap.size = wa1.heap.size := by simp
  generalize wa1.setCell ⟨g1, 0, none⟩ (.int .u8 2) = W2 at *
  have HE := Lib.hid hE
  clear hE
  have HF := Lib.hid (HF.out.below HBS.out)
  have HO := Lib.hid (HO.out.below HBS.out)
  have HWR := Lib.hid ((HBS.out.block wp (by omega)).trans HWR.out)
  have hsz2 : wp < W2.heap.size := Nat.lt_of_lt_of_le hsz1 HBS.out.size
  have HBW := Lib.hid (HBW.out.trans (HBS.out.mono HBW.out.size))
  have HROW0 := Lib.hid (HROW0.out.below HBS.out)
  unfold Hid
  have hbl := box_b W2 (.cells #[] 5)
  have hfl := HF.out.below hbl
  have hnn := OwnN.lit0 5 .u8 W2 W2.heap.size (Nat.le_refl _)
  have hwz : W2.heap.size ≤ (W2.alloc (.cells #[] 5)).heap.size := by simp
  rw [HE.out] at hbl hnn hwz
  refine appAnyN et_u8 rfl (.tmp 39) (.tmp 40) rfl (base := wa1.heap.size) (l := []) (ys := F) rfl hnn hFl.symm rfl hfl (by simp) (by simp) hwz ?_
  intro a2 k2 wa2 hown hga hba
  simp only [List.nil_append, List.length_nil, Nat.zero_add] at hown ⊢
  have hbW := hbl.trans hba
  obtain ⟨g2, rfl, _, _, hca, hfa⟩ := hown.at (show 0 < F.length by omega)
  have hst := hown.stored 0 16
  have hge : wa1.heap.size ≤ g2 := by
    rcases hown.form with ⟨h, _⟩ | ⟨g', h, h2, _⟩
    · cases h
    · cases h; exact h2
  have hbS := hbW.trans (Below.of_grown hst.2 (Nat.le_trans (by rw [← HE.out]; exact Nat.le_refl _) hbW.size) (fun g hg => by cases hg; exact hge))
  rw [← HE.out] at hbS
  have HROW2 := Lib.hid hst.1.row
  have HBS := Lib.hid hbS
  clear hbl hnn hwz hfl hga hba hown hbW hst hbS hge HE
  go_wp2_with (at_make; go_loud (refine makeN (n := 257) et_u8 rfl _ _ rfl _ rfl rfl (by decide) (by decide) (Nat.le_refl _) ?_; intro w4 hown4 hg4; have hsc : (wa2.setCell ⟨g2, 0, none⟩ (.int .u8 16)).heap.size = wa2.heap.size := (by simp); rw [hsc] at hown4; obtain ⟨g9, hg9, _, _, hc4, hf4⟩ := hown4.at (show 256 < (List.replicate 257 0).length by simp); simp only [Option.some.injEq, Addr.mk.injEq, and_true] at hg9; subst hg9; have HOW4 := Lib.hid hown4; have HGR4 := Lib.hid hg4; clear hown4 hg4 hsc))
  replace HROW2 : Hid (RowN .u8 (wa2.setCell ⟨g2, 0, none⟩ (.int .u8 16)) (some ⟨g2, 0, none⟩) k2 (F.set 0 16)) := HROW2
  replace HBS : Hid (Below W2.heap.size W2 (wa2.setCell ⟨g2, 0, none⟩ (.int .u8 16))) := HBS
  clear hca hfa
  have hE : (wa2.setCell ⟨g2, 0, none⟩ (.int .u8 16)).heap.size = wa2.heap.size := by simp
  generalize wa2.setCell ⟨g2, 0, none⟩ (.int .u8 16) = W3 at *
  have HE := Lib.hid hE
  clear hE
  have HF := Lib.hid (HF.out.below HBS.out)
  have HO := Lib.hid (HO.out.below HBS.out)
  have HWR := Lib.hid ((HBS.out.block wp (by omega)).trans HWR.out)
  have hsz3 : wp < W3.heap.size := Nat.lt_of_lt_of_le hsz2 HBS.out.size
  have HBW := Lib.hid (HBW.out.trans (HBS.out.mono HBW.out.size))
  have HROW0 := Lib.hid (HROW0.out.below HBS.out)
  have HROW1 := Lib.hid (HROW1.out.below HBS.out)
  clear hc4 hf4
  have hst4 := HOW4.out.stored 256 1
  have hb4 := (Below.of_grown HGR4.out (Nat.le_refl _) (fun g hg => by cases hg)).trans (Below.of_grown hst4.2 HGR4.out.size (fun g hg => by cases hg; rw [HE.out]; exact Nat.le_refl _))
  have HROW3 := Lib.hid (show RowN .u8 _ _ 257 knO from hst4.1.row)
  have HB4 := Lib.hid hb4
  clear hst4 hb4 HOW4 HGR4
  have hw3n : wp < wa2.heap.size := by rw [← HE.out]; exact hsz3
  have hs5 : wp < (w4.setCell ⟨wa2.heap.size, 256, none⟩ (.int .u8 1)).heap.size := Nat.lt_of_lt_of_le hsz3 HB4.out.size
  generalize w4.setCell ⟨wa2.heap.size, 256, none⟩ (.int .u8 1) = W5 at *
  have HF := Lib.hid (HF.out.below HB4.out)
  have HO := Lib.hid (HO.out.below HB4.out)
  have HR0 := Lib.hid (HROW0.out.below HB4.out)
  have HR1 := Lib.hid (HROW1.out.below HB4.out)
  have HR2 := Lib.hid (HROW2.out.below HB4.out)
  have HR3 := Lib.hid HROW3.out
  have HWR := Lib.hid ((HB4.out.block wp hsz3).trans HWR.out)
  have HBW := Lib.hid (HBW.out.trans (HB4.out.mono HBW.out.size))
  clear HB4 HROW0 HROW1 HROW2 HROW3 hsz0 hsz1 hsz2 hsz3 HE HBS
  have h256 : (F.take 256).length = 256 := by rw [List.length_take]; omega
  have hcall1 := header_put_no W5 wp _ _ _ _ (F.take 256) O (rowN_take HF.out 256) HO.out (by omega) (by omega) HM1.out
  rw [h256, hOl] at hcall1
  have HH256 := Lib.hid h256
  clear h256
  refine hcall1.mono ?_
  rintro e w' ⟨rfl, hww⟩
  replace hww := hww.symm
  subst hww
  clear hcall1
  obtain ⟨W6, hrun6, hown6, hgr6⟩ := mk8 W5 257 (by decide)
  replace hrun6 : (Instr.makeSlice 22 (.int .i64 257) (.int .i64 257)).run Try.prog W5 = .ok (.slice (some ⟨W5.heap.size, 0, none⟩) 257 257) W6 := hrun6
  have hbm6 := Below.of_grown hgr6 (Nat.le_refl _) (fun g hg => by cases hg)
  have HF := Lib.hid (HF.out.below hbm6)
  have HO := Lib.hid (HO.out.below hbm6)
  have HR0 := Lib.hid (HR0.out.below hbm6)
  have HR1 := Lib.hid (HR1.out.below hbm6)
  have HR2 := Lib.hid (HR2.out.below hbm6)
  have HR3 := Lib.hid (HR3.out.below hbm6)
  have HWR := Lib.hid ((hbm6.block wp hs5).trans HWR.out)
  have hs5 := Nat.lt_of_lt_of_le hs5 hbm6.size
  have HBW := Lib.hid (HBW.out.trans (hbm6.mono HBW.out.size))
  have HNEW := Lib.hid hown6.row
  clear hown6 hgr6 hbm6
  go_wp2_with fail
  clear hrun6
  have hcall2 := header_put_no W6 wp _ _ _ _ (List.replicate 257 0) (O) HNEW.out HO.out (by first | omega | (simp; done) | (simp; omega)) (by first | omega | (simp; done) | (simp; omega)) HM2.out
  simp only [List.length_set, List.length_replicate, hFl, hOl, List.length_cons, List.length_nil, Nat.zero_add, Nat.reduceAdd] at hcall2
  refine hcall2.mono ?_
  rintro e w' ⟨rfl, hww⟩
  replace hww := hww.symm
  subst hww
  clear hcall2
  go_wp2_with fail
  have hcall3 := header_put_no W6 wp _ _ _ _ (F.set 1 1) (O) HR0.out HO.out (by first | omega | (simp; done) | (simp; omega)) (by first | omega | (simp; done) | (simp; omega)) HM3.out
  simp only [List.length_set, List.length_replicate, hFl, hOl, List.length_cons, List.length_nil, Nat.zero_add, Nat.reduceAdd] at hcall3
  refine hcall3.mono ?_
  rintro e w' ⟨rfl, hww⟩
  replace hww := hww.symm
  subst hww
  clear hcall3
  go_wp2_with fail
  have hcall4 := header_put_no W6 wp _ _ _ _ (F.set 0 2) (O) HR1.out HO.out (by first | omega | (simp; done) | (simp; omega)) (by first | omega | (simp; done) | (simp; omega)) HM4.out
  simp only [List.length_set, List.length_replicate, hFl, hOl, List.length_cons, List.length_nil, Nat.zero_add, Nat.reduceAdd] at hcall4
  refine hcall4.mono ?_
  rintro e w' ⟨rfl, hww⟩
  replace hww := hww.symm
  subst hww
  clear hcall4
  go_wp2_with fail
  have hcall5 := header_put_no W6 wp _ _ _ _ (F.set 0 16) (O) HR2.out HO.out (by first | omega | (simp; done) | (simp; omega)) (by first | omega | (simp; done) | (simp; omega)) HM5.out
  simp only [List.length_set, List.length_replicate, hFl, hOl, List.length_cons, List.length_nil, Nat.zero_add, Nat.reduceAdd] at hcall5
  refine hcall5.mono ?_
  rintro e w' ⟨rfl, hww⟩
  replace hww := hww.symm
  subst hww
  clear hcall5
  obtain ⟨W7, hrun7, hown7, hgr7⟩ := mk8 W6 287 (by decide)
  replace hrun7 : (Instr.makeSlice 22 (.int .i64 287) (.int .i64 287)).run Try.prog W6 = .ok (.slice (some ⟨W6.heap.size, 0, none⟩) 287 287) W7 := hrun7
  have hbm7 := Below.of_grown hgr7 (Nat.le_refl _) (fun g hg => by cases hg)
  have HF := Lib.hid (HF.out.below hbm7)
  have HO := Lib.hid (HO.out.below hbm7)
  have HR0 := Lib.hid (HR0.out.below hbm7)
  have HR1 := Lib.hid (HR1.out.below hbm7)
  have HR2 := Lib.hid (HR2.out.below hbm7)
  have HR3 := Lib.hid (HR3.out.below hbm7)
  have HWR := Lib.hid ((hbm7.block wp hs5).trans HWR.out)
  have hs5 := Nat.lt_of_lt_of_le hs5 hbm7.size
  have HBW := Lib.hid (HBW.out.trans (hbm7.mono HBW.out.size))
  have HNEW := Lib.hid hown7.row
  clear hown7 hgr7 hbm7
  go_wp2_with fail
  clear hrun7
  have hcall6 := header_put_no W7 wp _ _ _ _ (List.replicate 287 0) (O) HNEW.out HO.out (by first | omega | (simp; done) | (simp; omega)) (by first | omega | (simp; done) | (simp; omega)) HM6.out
  simp only [List.length_set, List.length_replicate, hFl, hOl, List.length_cons, List.length_nil, Nat.zero_add, Nat.reduceAdd] at hcall6
  refine hcall6.mono ?_
  rintro e w' ⟨rfl, hww⟩
  replace hww := hww.symm
  subst hww
  clear hcall6
  go_wp2_with fail
  have hcall7 := header_put_no W7 wp _ _ _ _ (F) ([]) HF.out (RowN.nil _ _) (by first | omega | (simp; done) | (simp; omega)) (by first | omega | (simp; done) | (simp; omega)) HM7.out
  simp only [List.length_set, List.length_replicate, hFl, hOl, List.length_cons, List.length_nil, Nat.zero_add, Nat.reduceAdd] at hcall7
  refine hcall7.mono ?_
  rintro e w' ⟨rfl, hww⟩
  replace hww := hww.symm
  subst hww
  clear hcall7
  obtain ⟨W8, hrun8, hown8, hgr8⟩ := mk8 W7 31 (by decide)
  replace hrun8 : (Instr.makeSlice 22 (.int .i64 31) (.int .i64 31)).run Try.prog W7 = .ok (.slice (some ⟨W7.heap.size, 0, none⟩) 31 31) W8 := hrun8
  have hbm8 := Below.of_grown hgr8 (Nat.le_refl _) (fun g hg => by cases hg)
  have HF := Lib.hid (HF.out.below hbm8)
  have HO := Lib.hid (HO.out.below hbm8)
  have HR0 := Lib.hid (HR0.out.below hbm8)
  have HR1 := Lib.hid (HR1.out.below hbm8)
  have HR2 := Lib.hid (HR2.out.below hbm8)
  have HR3 := Lib.hid (HR3.out.below hbm8)
  have HWR := Lib.hid ((hbm8.block wp hs5).trans HWR.out)
  have hs5 := Nat.lt_of_lt_of_le hs5 hbm8.size
  have HBW := Lib.hid (HBW.out.trans (hbm8.mono HBW.out.size))
  have HNEW := Lib.hid hown8.row
  clear hown8 hgr8 hbm8
  go_wp2_with fail
  clear hrun8
  have hcall8 := header_put_no W8 wp _ _ _ _ (F) (List.replicate 31 0) HF.out HNEW.out (by first | omega | (simp; done) | (simp; omega)) (by first | omega | (simp; done) | (simp; omega)) HM8.out
  simp only [List.length_set, List.length_replicate, hFl, hOl, List.length_cons, List.length_nil, Nat.zero_add, Nat.reduceAdd] at hcall8
  refine hcall8.mono ?_
  rintro e w' ⟨rfl, hww⟩
  replace hww := hww.symm
  subst hww
  clear hcall8
  go_wp2_with fail
  have hbm9 := box_b W8 (.cells #[.int .u8 2] 5)
  have HNEW := Lib.hid (rowN_lit .u8 W8 [2] 5 #[.int .u8 2] _ rfl rfl (by decide))
  obtain ⟨ob9, hob9⟩ : ∃ x, W8.heap.size = x := ⟨_, rfl⟩
  rw [hob9] at HNEW
  try rw [hob9]
  have HF := Lib.hid (HF.out.below hbm9)
  have HO := Lib.hid (HO.out.below hbm9)
  have HR0 := Lib.hid (HR0.out.below hbm9)
  have HR1 := Lib.hid (HR1.out.below hbm9)
  have HR2 := Lib.hid (HR2.out.below hbm9)
  have HR3 := Lib.hid (HR3.out.below hbm9)
  have HWR := Lib.hid ((hbm9.block wp hs5).trans HWR.out)
  have hs5 := Nat.lt_of_lt_of_le hs5 hbm9.size
  have HBW := Lib.hid (HBW.out.trans (hbm9.mono HBW.out.size))
  clear hbm9 hob9
  generalize W8.alloc (.cells #[.int .u8 2] 5) = W9 at *
  have hcall9 := header_put_no W9 wp _ _ _ _ (F) ([2]) HF.out HNEW.out (by first | omega | (simp; done) | (simp; omega)) (by first | omega | (simp; done) | (simp; omega)) HM9.out
  simp only [List.length_set, List.length_replicate, hFl, hOl, List.length_cons, List.length_nil, Nat.zero_add, Nat.reduceAdd] at hcall9
  refine hcall9.mono ?_
  rintro e w' ⟨rfl, hww⟩
  replace hww := hww.symm
  subst hww
  clear hcall9
  go_wp2_with fail
  have hbm10 := box_b W9 (.cells #[.int .u8 1, .int .u8 1, .int .u8 1] 5)
  have HNEW := Lib.hid (rowN_lit .u8 W9 [1, 1, 1] 5 #[.int .u8 1, .int .u8 1, .int .u8 1] _ rfl rfl (by decide))
  obtain ⟨ob10, hob10⟩ : ∃ x, W9.heap.size = x := ⟨_, rfl⟩
  rw [hob10] at HNEW
  try rw [hob10]
  have HF := Lib.hid (HF.out.below hbm10)
  have HO := Lib.hid (HO.out.below hbm10)
  have HR0 := Lib.hid (HR0.out.below hbm10)
  have HR1 := Lib.hid (HR1.out.below hbm10)
  have HR2 := Lib.hid (HR2.out.below hbm10)
  have HR3 := Lib.hid (HR3.out.below hbm10)
  have HWR := Lib.hid ((hbm10.block wp hs5).trans HWR.out)
  have hs5 := Nat.lt_of_lt_of_le hs5 hbm10.size
  have HBW := Lib.hid (HBW.out.trans (hbm10.mono HBW.out.size))
  clear hbm10 hob10
  generalize W9.alloc (.cells #[.int .u8 1, .int .u8 1, .int .u8 1] 5) = W10 at *
  have hcall10 := header_put_no W10 wp _ _ _ _ (F) ([1, 1, 1]) HF.out HNEW.out (by first | omega | (simp; done) | (simp; omega)) (by first | omega | (simp; done) | (simp; omega)) HM10.out
  simp only [List.length_set, List.length_replicate, hFl, hOl, List.length_cons, List.length_nil, Nat.zero_add, Nat.reduceAdd] at hcall10
  refine hcall10.mono ?_
  rintro e w' ⟨rfl, hww⟩
  replace hww := hww.symm
  subst hww
  clear hcall10
  have HLN := Lib.hid (lsb_len (wr_at0 (P := fun b => b = wp ∨ W10.heap.size ≤ b) HWR.out (.inl rfl) (fun b hb => .inr hb)))
  go_wp2_with (go_at_call 16; refine HLN.out.mono ?_; rintro e w' ⟨rfl, hww⟩; replace hww := hww.symm; subst hww)
  have hbm11 := box_b W10 (.cells #[.int .u8 1] 5)
  have HNEW := Lib.hid (rowN_lit .u8 W10 [1] 5 #[.int .u8 1] _ rfl rfl (by decide))
  obtain ⟨ob11, hob11⟩ : ∃ x, W10.heap.size = x := ⟨_, rfl⟩
  rw [hob11] at HNEW
  try rw [hob11]
  have HF := Lib.hid (HF.out.below hbm11)
  have HO := Lib.hid (HO.out.below hbm11)
  have HR0 := Lib.hid (HR0.out.below hbm11)
  have HR1 := Lib.hid (HR1.out.below hbm11)
  have HR2 := Lib.hid (HR2.out.below hbm11)
  have HR3 := Lib.hid (HR3.out.below hbm11)
  have HWR := Lib.hid ((hbm11.block wp hs5).trans HWR.out)
  have hs5 := Nat.lt_of_lt_of_le hs5 hbm11.size
  have HBW := Lib.hid (HBW.out.trans (hbm11.mono HBW.out.size))
  clear hbm11 hob11
  generalize W10.alloc (.cells #[.int .u8 1] 5) = W11 at *
  have hput := header_put (P := fun b => b = wp ∨ W11.heap.size ≤ b) (wr_at0 HWR.out (.inl rfl) (fun b hb => .inr hb)) _ _ _ _ knO [1] HR3.out HNEW.out (by rw [knO_len]; decide) (by decide) (by show 0 + 6000 ≤ 100000000; decide)
  obtain ⟨T, hT⟩ : ∃ T, hputW ([], 0) knO [1] = T := ⟨_, rfl⟩
  have hwg : WG T := by rw [← hT]; exact (hputW_g empty_g knO [1]).1
  have hh := hdr_laid (s := ([], 0)) (t := T) empty_g hwg knO [1] HM11.out (by rw [hT]; exact .refl _)
  rw [hT] at hh
  have HH := Lib.hid (show hdr T.1 0 = some ((knO, [1]), T.2) from hh)
  rw [HM11.out, hT, knO_len] at hput
  simp only [List.length_cons, List.length_nil, Nat.zero_add] at hput
  have htb := hwg.1.2
  clear hT hwg hh
  refine hput.mono ?_
  rintro e w12 ⟨ho12, rfl, hw12⟩
  have HR12 := Lib.hid (HR3.out.same ho12.size (fun x h0 hx => ho12.block _ (rowN_lt HR3.out h0 hx) (by
    cases hx
    have := rowN_lt HR3.out h0 rfl
    rintro (h | h)
    · exact absurd h (by show ¬ wa2.heap.size = wp; omega)
    · exact absurd this (by show ¬ wa2.heap.size < W11.heap.size; exact Nat.not_lt.2 h))))
  have HB12 := Lib.hid (Below.only HBW.out ho12 (Nat.le_refl _) (fun b hb => by have := HBW.out.size; rcases hb with h | h <;> omega))
  have HW12 := Lib.hid hw12
  have htl : T.1.length ≤ 100000000 := by have := hw12.2.1.1; have := hw12.2.2; omega
  clear hput ho12 hw12 HNEW HF HO HR0 HR1 HR2 HR3 HBW HWR HM1 HM2 HM3 HM4 HM5 HM6 HM7 HM8 HM9 HM10 HM11
  go_wp2_with fail
  refine (lsb_bytes HW12.out).mono ?_
  rintro e w13 ⟨a13, c13, rfl, ho13, hb13⟩
  have HB13 := Lib.hid (HB12.out.trans (hb13.mono HB12.out.size))
  have HR13 := Lib.hid (HR12.out.below hb13)
  have HO13 := Lib.hid ho13.row
  clear ho13 hb13 HB12 HR12 HW12
  go_wp2_with fail
  refine (lsb_new w13 a13 c13 T.1 HO13.out htb htl).mono ?_
  rintro e w14 ⟨rp, rfl, hrd, hb14, hrp⟩
  have hg := hdr_get w14 rp T.1 0 hrd
  rw [HH.out] at hg
  have HG := Lib.hid hg
  have HB14 := Lib.hid hb14
  clear hg hrd hb14 HO13 htb htl
  go_wp2_with fail
  refine HG.out.mono ?_
  rintro e w15 ⟨ho15, xa, xc, ya, yc, rfl, hx, hy, _⟩
  have HR15 := Lib.hid (HR13.out.skip HB14.out ho15 hrp)
  have HB15 := Lib.hid (HB13.out.trans ((Below.skip HB14.out ho15 hrp (Nat.le_refl _)).mono HB13.out.size))
  have HX := Lib.hid hx
  have HY := Lib.hid hy
  clear ho15 hx hy HR13 HB13 HB14 HG HH hrp
  go_wp2_with fail
  refine (hdr_get_nil w15).mono ?_
  rintro e w16 ⟨rfl, hb16⟩
  have HR16 := Lib.hid (HR15.out.below hb16)
  have HX16 := Lib.hid (HX.out.below hb16)
  have HY16 := Lib.hid (HY.out.below hb16)
  have HB16 := Lib.hid (HB15.out.trans (hb16.mono HB15.out.size))
  clear hb16 HR15 HX HY HB15
  go_wp2_with fail
  refine (header_put_nil w16 _ _).mono ?_
  rintro e w' ⟨rfl, hww⟩
  replace hww := hww.symm
  subst hww
  obtain ⟨w17, hrunA, hownA, hgrA⟩ := mk8 w16 60 (by decide)
  replace hrunA : (Instr.makeSlice 22 (.int .i64 60) (.int .i64 60)).run Try.prog w16 = .ok (.slice (some ⟨w16.heap.size, 0, none⟩) 60 60) w17 := hrunA
  have HOA := Lib.hid hownA
  have HBA := Lib.hid (Below.of_grown hgrA (Nat.le_refl _) (fun g hg => by cases hg))
  clear hownA hgrA
  go_wp2_with fail
  clear hrunA
  go_loopw [18] (fun x A => ∃ k, x = .int .i64 (k : Nat) ∧ k ≤ 60 ∧ OwnN 5 .u8 A w16.heap.size (some ⟨w16.heap.size, 0, none⟩) 60 (partL (fun _ => 255) 60 k) ∧ Below w16.heap.size w16 A) (fun x _ => 60 - (intOf x).toNat)
  case atStart => exact ⟨0, rfl, Nat.zero_le _, by rw [partL_zero]; exact HOA.out, HBA.out⟩
  case round =>
    clear HOA HBA
    obtain ⟨k, rfl, hk, hown, hbel⟩ := hrel
    have HOW := Lib.hid hown
    have HBE := Lib.hid hbel
    clear hown hbel
    by_cases hk60 : k < 60
    · have b1 : decide (k < 60) = true := by simp; omega
      have b1' : decide ((k : Int) < 60) = true := by simp; omega
      obtain ⟨⟨v, hcv⟩, hfv⟩ := part_at HOW.out k hk60
      have qk : (k : Int) < 60 := by omega
      have hst := part_put HOW.out hk60
      have hgr := (HOW.out.stored k 255).2
      have HST := Lib.hid (show OwnN 5 .u8 (wr.setCell ⟨w16.heap.size, k, none⟩ (.int .u8 255)) w16.heap.size (some ⟨w16.heap.size, 0, none⟩) 60 (partL (fun _ => 255) 60 (k + 1)) from hst)
      have HGR := Lib.hid (show wr.grownBy (wr.setCell ⟨w16.heap.size, k, none⟩ (.int .u8 255)) (some w16.heap.size) from hgr)
      clear hst hgr
      go_wp2_with fail
      go_roundw
      case rel => exact ⟨k + 1, by go_num, by omega, HST.out, HBE.out.trans (Below.of_grown HGR.out HBE.out.size (fun g hg => by cases hg; exact Nat.le_refl _))⟩
      case measure => simp [intOf]; omega
    · have b1 : decide (k < 60) = false := by simp; omega
      have b1' : decide ((k : Int) < 60) = false := by simp; omega
      obtain rfl : k = 60 := by omega
      have hrow := HOW.out.row
      rw [partL_full, List.map_const', List.length_range] at hrow
      have hN1 := lsb_new wr _ _ (List.replicate 60 255) hrow (by intro x hx; have := List.eq_of_mem_replicate hx; omega) (by rw [List.length_replicate]; decide)
      rw [List.length_replicate] at hN1
      have HN1 := Lib.hid hN1
      clear hN1
      clear hrow HOW
      go_wp2_with fail
      refine HN1.out.mono ?_
      rintro e w18 ⟨rq, rfl, hrq, hb18, hrq2⟩
      have hg := hdr_get w18 rq (List.replicate 60 255) 0 hrq
      rw [hdr_ff] at hg
      have HG := Lib.hid hg
      have HB18 := Lib.hid hb18
      clear hg hrq hb18 HN1
      go_wp2_with fail
      refine HG.out.mono ?_
      rintro e w19 ⟨ho19, rfl⟩
      have HR19 := Lib.hid ((HR16.out.below HBE.out).skip HB18.out ho19 hrq2)
      have HX19 := Lib.hid ((HX16.out.below HBE.out).skip HB18.out ho19 hrq2)
      have HY19 := Lib.hid ((HY16.out.below HBE.out).skip HB18.out ho19 hrq2)
      have HB19 := Lib.hid ((HB16.out.trans (HBE.out.mono HB16.out.size)).trans ((Below.skip HB18.out ho19 hrq2 (Nat.le_refl _)).mono (HB16.out.trans (HBE.out.mono HB16.out.size)).size))
      clear HR16 HX16 HY16 HB16 HBE HB18 HG ho19 hrq2
      obtain ⟨w20, hrunB, hownB, hgrB⟩ := mk8 w19 60 (by decide)
      replace hrunB : (Instr.makeSlice 22 (.int .i64 60) (.int .i64 60)).run Try.prog w19 = .ok (.slice (some ⟨w19.heap.size, 0, none⟩) 60 60) w20 := hrunB
      have hbB := Below.of_grown hgrB (Nat.le_refl _) (fun g hg => by cases hg)
      have hN2 := lsb_new w20 _ _ (List.replicate 60 0) hownB.row (by intro x hx; have := List.eq_of_mem_replicate hx; omega) (by rw [List.length_replicate]; decide)
      rw [List.length_replicate] at hN2
      have HN2 := Lib.hid hN2
      clear hN2
      have HR20 := Lib.hid (HR19.out.below hbB)
      have HX20 := Lib.hid (HX19.out.below hbB)
      have HY20 := Lib.hid (HY19.out.below hbB)
      have HB20 := Lib.hid (HB19.out.trans (hbB.mono HB19.out.size))
      clear hownB hgrB hbB HR19 HX19 HY19 HB19
      go_wp2_with fail
      clear hrunB
      refine HN2.out.mono ?_
      rintro e w21 ⟨rs, rfl, hrs, hb21, hrs2⟩
      have hg := hdr_get w21 rs (List.replicate 60 0) 0 hrs
      rw [hdr_00] at hg
      have HG := Lib.hid hg
      have HB21 := Lib.hid hb21
      clear hg hrs hb21 HN2
      go_wp2_with fail
      refine HG.out.mono ?_
      rintro e w22 ⟨ho22, rfl⟩
      have hcv1 := conv_row (n := knO.length) Try.underlying22 Try.underlying5 Try.underlying9 rfl (HX20.out.skip HB21.out ho22 hrs2)
      have hcv2 := conv_row (n := 1) Try.underlying22 Try.underlying5 Try.underlying9 rfl (HY20.out.skip HB21.out ho22 hrs2)
      have hcv3 := conv_row (n := 257) Try.underlying22 Try.underlying5 Try.underlying9 knO_len.symm (HR20.out.skip HB21.out ho22 hrs2)
      have hkl := knO_len
      rw [hkl] at hcv1
      have HB22 := Lib.hid (HB20.out.trans ((Below.skip HB21.out ho22 hrs2 (Nat.le_refl _)).mono HB20.out.size))
      have tl1 : ((strOf knO).toList == (strOf knO).toList) = true := by simp
      have hz2 : strOf [1] = ByteArray.mk #[1] := by decide +kernel
      rw [hz2] at hcv2
      clear hz2
      have tl2 : ((ByteArray.mk #[1]).toList == (ByteArray.mk #[1]).toList) = true := by simp
      have HHD := Lib.hid (law09_heads w22)
      clear HR20 HX20 HY20 HB20 HB21 ho22 HG hrs2
      try rw [hkl]
      generalize strOf knO = z1 at *
      clear hkl
      go_wp2_with (go_at_call 17; refine HHD.out.mono ?_; rintro e w23 ⟨rfl, hb23⟩; have HB23 := Lib.hid (HB22.out.trans (hb23.mono HB22.out.size)); clear hb23)
      go_ret
      exact ⟨rfl, HB23.out⟩
end Go.Proofs.Ytmgoeokdlklabaa
