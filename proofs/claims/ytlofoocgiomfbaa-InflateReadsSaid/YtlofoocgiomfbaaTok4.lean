/- token.LengthOf, DistanceOf: contracts. -/
import Derived.Test.YtlofoocgiomfbaaTok3
namespace Go.Proofs.Ytlofoocgiomfbaa
open Go.RowKit Go.Shelf M08
set_option linter.unusedVariables false

theorem results_tmp3' {fn : Func} {t u v : Tmp} (h : fn.results = #[.tmp t, .tmp u, .tmp v]) (tmps : Array Value) (P : Program) (w : World) :
    (results fn tmps).run P w = .ok (.tuple #[tmps.getD t undef, tmps.getD u undef, tmps.getD v undef]) w := by
  simp [results, h, go_sem]
theorem box_b (w : World) (o : Obj) : Below w.heap.size w (w.alloc o) := (Below.refl _ _).alloc (Nat.le_refl _) _
theorem box2_cells (w : World) (u v : Value) (t : TypeId) : (w.alloc (.cells #[u, v] t)).cell? ⟨w.heap.size, 0, none⟩ = some u ∧ (w.alloc (.cells #[u, v] t)).cell? ⟨w.heap.size, 1, none⟩ = some v := by
  have h := World.alloc_heap_new w (.cells #[u, v] t)
  exact ⟨(two_cell h).1, (two_cell h).2.1⟩
def loS (s : Int) : Nat × Nat × Nat := if 257 ≤ s ∧ s ≤ 285 then (lensL.getD (s.toNat - 257) 0, lbits s.toNat, 0) else (0, 0, 5)
def doS (s : Int) : Nat × Nat × Nat := if 0 ≤ s ∧ s < 30 then (distL.getD s.toNat 0, dbits s.toNat, 0) else (0, 0, 5)

set_option maxRecDepth 100000 in
set_option maxHeartbeats 1600000 in
theorem token_lengthOf (s : Int) (w : World) :
    Calls Try.prog 86 #[.int .i64 s] w fun e w' => e = .returned (.tuple #[.int .i64 ((loS s).1 : Nat), .int .i64 ((loS s).2.1 : Nat), .int .i64 ((loS s).2.2 : Nat)]) ∧ Below w.heap.size w w' := by
  by_cases h1 : 257 ≤ s
  case neg =>
    have H : Hid (loS s = (0, 0, 5)) := by unfold Hid loS; rw [if_neg (by omega)]
    have t1 : decide (s < 257) = true := by simp; omega
    clear h1
    go_enter Try.func86, Try.ntmps86
    go_wp2
    refine bodyPost_ret (results_tmp3' rfl _ _ _) rfl ?_
    exact ⟨by rw [H.out]; rfl, Below.refl _ _⟩
  by_cases h2 : s ≤ 285
  case neg =>
    have H : Hid (loS s = (0, 0, 5)) := by unfold Hid loS; rw [if_neg (by omega)]
    have t1 : decide (s < 257) = false := by simp; omega
    have t2 : decide (285 < s) = true := by simp; omega
    clear h1 h2
    go_enter Try.func86, Try.ntmps86
    go_wp2
    refine bodyPost_ret (results_tmp3' rfl _ _ _) rfl ?_
    exact ⟨by rw [H.out]; rfl, Below.refl _ _⟩
  by_cases h3 : s = 285
  · subst h3
    go_enter Try.func86, Try.ntmps86
    go_wp2_with fail
    refine bodyPost_ret (results_tmp3' rfl _ _ _) rfl ?_
    have H : loS 285 = (258, 0, 0) := by decide +kernel
    exact ⟨by rw [H]; rfl, Below.refl _ _⟩
  obtain ⟨k, hk, rfl⟩ : ∃ k : Nat, k < 28 ∧ s = 257 + (k : Int) := ⟨(s - 257).toNat, by omega, by omega⟩
  obtain ⟨g1, g2⟩ := bits28 k hk
  have H : Hid (loS (257 + (k : Int)) = ((leasts 28 8 4 3).getD k 0, (bitss 28 8 4).getD k 0, 0)) := by
    unfold Hid loS
    have e : ((257 : Int) + (k : Int)).toNat = 257 + k := by omega
    rw [if_pos (by omega), e, g1, g2, Nat.add_sub_cancel_left]
  have t1 : decide ((257 : Int) + (k : Int) < 257) = false := by simp; omega
  have t2 : decide (285 < (257 : Int) + (k : Int)) = false := by simp; omega
  have t3 : (((257 : Int) + (k : Int)) == 285) = false := by simp; omega
  have hS := Lib.hid (scale_collect 28 8 4 3 w ok_len)
  clear h1 h2 h3 g1 g2
  go_enter Try.func86, Try.ntmps86
  go_wp2_with (first | (go_at_call 74; refine (token_scale 28 8 4 3 _).mono ?_; rintro e w' ⟨rfl, rfl⟩) | (go_at_call 73; refine hS.out.mono ?_; rintro e w1 ⟨a1, c1, a2, c2, rfl, r1, r2, hbw⟩))
  obtain ⟨b1, b2⟩ := box2_cells w1 (.slice a1 28 c1) (.slice a2 28 c2) 124
  have hbw2 : Below w.heap.size w (w1.alloc (.cells #[.slice a1 28 c1, .slice a2 28 c2] 124)) := hbw.alloc hbw.size _
  have r1' := r1.below (box_b w1 (.cells #[.slice a1 28 c1, .slice a2 28 c2] 124))
  have r2' := r2.below (box_b w1 (.cells #[.slice a1 28 c1, .slice a2 28 c2] 124))
  generalize hB : w1.heap.size = B at *
  generalize w1.alloc (.cells #[.slice a1 28 c1, .slice a2 28 c2] 124) = W at *
  obtain ⟨x1, o1, rfl, _, d1⟩ := r1'.at (i := k) (by rw [leasts_len]; exact hk)
  obtain ⟨x2, o2, rfl, _, d2⟩ := r2'.at (i := k) (by simpa [bitss] using hk)
  have e1 : (leasts 28 8 4 3)[k]'(by rw [leasts_len]; exact hk) = (leasts 28 8 4 3).getD k 0 := by rw [List.getD_eq_getElem?_getD, List.getElem?_eq_getElem (by rw [leasts_len]; exact hk)]; rfl
  have e2 : (bitss 28 8 4)[k]'(by simpa [bitss] using hk) = (bitss 28 8 4).getD k 0 := by rw [List.getD_eq_getElem?_getD, List.getElem?_eq_getElem (by simpa [bitss] using hk)]; rfl
  rw [e1] at d1
  rw [e2] at d2
  have HBW := Lib.hid hbw2
  clear hS r1 r2 r1' r2' e1 e2 hbw hbw2 hB
  generalize (leasts 28 8 4 3).getD k 0 = x at *
  generalize (bitss 28 8 4).getD k 0 = y at *
  have q1 : (257 : Int) + (k : Int) - 257 = (k : Int) := by omega
  have q2 : (k : Int) < 28 := by omega
  go_wp2_with fail
  go_quiet (fail)
  go_wp2
  refine bodyPost_ret (results_tmp3' rfl _ _ _) rfl ?_
  exact ⟨by rw [H.out]; rfl, belDN HBW.out _⟩
set_option maxRecDepth 100000 in
set_option maxHeartbeats 1600000 in
theorem token_distanceOf (s : Int) (w : World) :
    Calls Try.prog 87 #[.int .i64 s] w fun e w' => e = .returned (.tuple #[.int .i64 ((doS s).1 : Nat), .int .i64 ((doS s).2.1 : Nat), .int .i64 ((doS s).2.2 : Nat)]) ∧ Below w.heap.size w w' := by
  by_cases h1 : 0 ≤ s
  case neg =>
    have H : Hid (doS s = (0, 0, 5)) := by unfold Hid doS; rw [if_neg (by omega)]
    have t1 : decide (s < 0) = true := by simp; omega
    clear h1
    go_enter Try.func87, Try.ntmps87
    go_wp2
    refine bodyPost_ret (results_tmp3' rfl _ _ _) rfl ?_
    exact ⟨by rw [H.out]; rfl, Below.refl _ _⟩
  by_cases h2 : s < 30
  case neg =>
    have H : Hid (doS s = (0, 0, 5)) := by unfold Hid doS; rw [if_neg (by omega)]
    have t1 : decide (s < 0) = false := by simp; omega
    have t2 : decide (30 ≤ s) = true := by simp; omega
    clear h1 h2
    go_enter Try.func87, Try.ntmps87
    go_wp2
    refine bodyPost_ret (results_tmp3' rfl _ _ _) rfl ?_
    exact ⟨by rw [H.out]; rfl, Below.refl _ _⟩
  obtain ⟨k, rfl⟩ := Int.eq_ofNat_of_zero_le h1
  have hk : k < 30 := by omega
  obtain ⟨g1, g2⟩ := bits30 k hk
  have H : Hid (doS (k : Int) = ((leasts 30 4 2 1).getD k 0, (bitss 30 4 2).getD k 0, 0)) := by
    unfold Hid doS
    rw [if_pos ⟨h1, h2⟩, Int.toNat_natCast, g1, g2]
  have t1 : decide ((k : Int) < 0) = false := by simp
  have t2 : decide (30 ≤ (k : Int)) = false := by simp; omega
  have hS := Lib.hid (scale_collect 30 4 2 1 w ok_dist)
  clear h1 h2 g1 g2
  go_enter Try.func87, Try.ntmps87
  go_wp2_with (first | (go_at_call 74; refine (token_scale 30 4 2 1 _).mono ?_; rintro e w' ⟨rfl, rfl⟩) | (go_at_call 73; refine hS.out.mono ?_; rintro e w1 ⟨a1, c1, a2, c2, rfl, r1, r2, hbw⟩))
  obtain ⟨b1, b2⟩ := box2_cells w1 (.slice a1 30 c1) (.slice a2 30 c2) 124
  have hbw2 : Below w.heap.size w (w1.alloc (.cells #[.slice a1 30 c1, .slice a2 30 c2] 124)) := hbw.alloc hbw.size _
  have r1' := r1.below (box_b w1 (.cells #[.slice a1 30 c1, .slice a2 30 c2] 124))
  have r2' := r2.below (box_b w1 (.cells #[.slice a1 30 c1, .slice a2 30 c2] 124))
  generalize hB : w1.heap.size = B at *
  generalize w1.alloc (.cells #[.slice a1 30 c1, .slice a2 30 c2] 124) = W at *
  obtain ⟨x1, o1, rfl, _, d1⟩ := r1'.at (i := k) (by rw [leasts_len]; exact hk)
  obtain ⟨x2, o2, rfl, _, d2⟩ := r2'.at (i := k) (by simpa [bitss] using hk)
  have e1 : (leasts 30 4 2 1)[k]'(by rw [leasts_len]; exact hk) = (leasts 30 4 2 1).getD k 0 := by rw [List.getD_eq_getElem?_getD, List.getElem?_eq_getElem (by rw [leasts_len]; exact hk)]; rfl
  have e2 : (bitss 30 4 2)[k]'(by simpa [bitss] using hk) = (bitss 30 4 2).getD k 0 := by rw [List.getD_eq_getElem?_getD, List.getElem?_eq_getElem (by simpa [bitss] using hk)]; rfl
  rw [e1] at d1
  rw [e2] at d2
  have HBW := Lib.hid hbw2
  clear hS r1 r2 r1' r2' e1 e2 hbw hbw2 hB
  generalize (leasts 30 4 2 1).getD k 0 = x at *
  generalize (bitss 30 4 2).getD k 0 = y at *
  have q2 : (k : Int) < 30 := by omega
  go_wp2_with fail
  go_quiet (fail)
  go_wp2
  refine bodyPost_ret (results_tmp3' rfl _ _ _) rfl ?_
  exact ⟨by rw [H.out]; rfl, belDN HBW.out _⟩
end Go.Proofs.Ytlofoocgiomfbaa
