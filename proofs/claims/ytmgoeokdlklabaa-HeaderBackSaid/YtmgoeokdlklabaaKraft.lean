/- Contracts of package kraft and of its reference: may, weight, Classify, Single. -/
import Derived.Test.YtmgoeokdlklabaaChecked
import Derived.Test.YtmgoeokdlklabaaBase
import Derived.Test.YtmgoeokdlklabaaM04
import Derived.BigQuiet
import Derived.Deep.QuietTactic
namespace Go.Proofs.Ytmgoeokdlklabaa
open Go.RowKit M04
set_option linter.unusedVariables false

set_option maxHeartbeats 400000 in
theorem kraft_weight (a : Option Addr) (cap : Nat) (l : List Nat) (w : World) (hr : RowN .u8 w a cap l) (hm : May l) :
    Calls Try.prog 90 #[.slice a l.length cap] w fun e w' => e = .returned (.int .i64 (weight l)) ∧ w = w' := by
  have hlen := hr.len
  obtain ⟨hl, hn⟩ := hm
  go_enter Try.func90, Try.ntmps90
  go_wp2
  go_loop [3, 8] (fun t i => ∃ k : Nat, k ≤ l.length ∧ i = .int .i64 k ∧ t = .int .i64 (weight (l.take k))) (fun _ i => l.length - (intOf i).toNat)
  case atStart => exact ⟨0, Nat.zero_le _, rfl, rfl⟩
  case round =>
    obtain ⟨k, hk, rfl, rfl⟩ := hrel
    by_cases hlt : k < l.length
    · obtain ⟨b, off, rfl, hb, hck⟩ := hr.at hlt
      clear hr
      have hx := hl _ (List.getElem_mem hlt)
      have H := Lib.hid (weight_succ l k hlt)
      have hw : weight (l.take k) ≤ 512 * 2 ^ 20 := weight_take_le l k hn
      clear hl
      generalize l[k] = x at *
      generalize weight (l.take k) = s at *
      go_wp2
      · go_round
        case rel =>
          refine ⟨k + 1, by omega, by go_num, int_eq ?_⟩
          have h0 : x ≠ 0 := by omega
          have h2 : (2 : Int) ^ (20 - x) = ((2 ^ (20 - x) : Nat) : Int) := by simp
          have h3 : 2 ^ (20 - x) ≤ 2 ^ 20 := Nat.pow_le_pow_right (by simp) (by omega)
          rw [H.out, h2, wt, if_neg h0]
          generalize 2 ^ (20 - x) = p at *
          rw [IntWalk.wrap64_in p (by omega), IntWalk.wrap64_in _ (by omega)]; simp
        case measure => simp [intOf]; omega
      · go_round
        case rel =>
          refine ⟨k + 1, by omega, by go_num, int_eq ?_⟩
          have h0 : x = 0 := by omega
          rw [H.out, wt, if_pos h0]; simp
        case measure => simp [intOf]; omega
    · go_wp2
      go_ret
      exact ⟨ret_int (by rw [List.take_of_length_le (by omega)]), rfl⟩

set_option maxHeartbeats 400000 in
theorem slices_max (a : Option Addr) (cap : Nat) (l : List Nat) (w : World) (hr : RowN .u8 w a cap l) (h0 : 0 < l.length) :
    Calls Try.prog 118 #[.slice a l.length cap] w fun e w' => e = .returned (.int .u8 (top l)) ∧ w = w' := by
  have hlen := hr.len
  obtain ⟨b, off, rfl, hb, hc0⟩ := hr.at h0
  simp only [Nat.add_zero] at hc0
  have H0 : Hid (top (l.take 1) = l[0]) := by have := top_snoc l 0 h0; simpa [Hid, top] using this
  go_enter Try.func118, Try.ntmps118
  go_wp2
  go_loop [3, 4] (fun t i => ∃ k : Nat, 1 ≤ k ∧ k ≤ l.length ∧ i = .int .i64 k ∧ t = .int .u8 (top (l.take k))) (fun _ i => l.length - (intOf i).toNat)
  case atStart => exact ⟨1, by omega, by omega, rfl, by rw [H0.out]⟩
  case round =>
    obtain ⟨k, hk1, hk, rfl, rfl⟩ := hrel
    by_cases hlt : k < l.length
    · obtain ⟨b', off', he, hb', hck⟩ := hr.at hlt
      simp only [Option.some.injEq, Addr.mk.injEq, and_true] at he
      obtain ⟨rfl, rfl⟩ := he
      clear hr hc0 H0
      have H := Lib.hid (top_snoc l k hlt)
      generalize l[k] = x at *
      generalize top (l.take k) = s at *
      go_wp2
      go_round
      case rel => exact ⟨k + 1, by omega, by omega, by go_num, int_eq (by rw [H.out]; split <;> omega)⟩
      case measure => simp [intOf]; omega
    · go_wp2
      go_ret
      exact ⟨ret_int (by rw [List.take_of_length_le (by omega)]), rfl⟩

set_option maxHeartbeats 400000 in
theorem kraft_may (a : Option Addr) (cap : Nat) (l : List Nat) (w : World) (hr : RowN .u8 w a cap l) :
    Calls Try.prog 89 #[.slice a l.length cap] w fun e w' => e = .returned (.bool (mayB l)) ∧ w = w' := by
  have hlen := hr.len
  by_cases h5 : l.length ≤ 512
  · by_cases h0 : l = []
    · subst h0
      go_enter Try.func89, Try.ntmps89
      go_wp2
      go_ret
      exact ⟨rfl, rfl⟩
    · have hp : 0 < l.length := List.length_pos_iff.2 h0
      have hb : ((l.length : Int) == 0) = false := by simp; omega
      have H : Hid (mayB l = decide ((top l : Int) ≤ 20)) := by
        have := top_le l 20
        show decide (May l) = _
        rw [decide_eq_decide, May]
        constructor
        · intro h; have := this.2 h.1; omega
        · intro h; exact ⟨this.1 (by omega), h5⟩
      clear h0
      go_enter Try.func89, Try.ntmps89
      go_wp2_with (go_at_call 118; refine (slices_max _ _ _ _ hr hp).mono ?_; rintro e w' ⟨rfl, rfl⟩)
      go_ret
      exact ⟨ret_bool H.out.symm, rfl⟩
  · have H : Hid (mayB l = false) := by unfold Hid mayB May; simp [h5]
    go_enter Try.func89, Try.ntmps89
    go_wp2
    go_ret
    exact ⟨ret_bool H.out.symm, rfl⟩

set_option maxHeartbeats 400000 in
theorem kraft_classify (a : Option Addr) (cap : Nat) (l : List Nat) (w : World) (hr : RowN .u8 w a cap l) :
    Calls Try.prog 56 #[.slice a l.length cap] w fun e w' => e = .returned (.tuple #[.int .u8 (clsE l).1, .int .i64 (clsE l).2]) ∧ w = w' := by
  have hlen := hr.len
  by_cases hm : May l
  · have hB : mayB l = true := by simp [mayB, hm]
    have H : Hid (clsE l = (cls l, 0)) := by simp [Hid, clsE, hm]
    have H2 : Hid (cls l = if weight l = 0 then 0 else if weight l < 2 ^ 20 then 1 else if weight l = 2 ^ 20 then 2 else 3) := rfl
    have hw : weight l ≤ 512 * 2 ^ 20 := by have := weight_take_le l l.length hm.2; simpa using this
    have HM := Lib.hid hm
    clear hm
    rcases (by omega : weight l = 0 ∨ (weight l ≠ 0 ∧ weight l < 2 ^ 20) ∨ weight l = 2 ^ 20 ∨ 2 ^ 20 < weight l) with c | ⟨c, d⟩ | c | c
    · have b0 : ((weight l : Int) == 0) = true := by simp [c]
      have H3 : Hid (cls l = 0) := by rw [Hid, H2.out, if_pos c]
      clear c
      go_enter Try.func56, Try.ntmps56
      go_wp2_with (first | (go_at_call 89; refine (kraft_may _ _ _ _ hr).mono ?_; rintro e w' ⟨rfl, rfl⟩) | (go_at_call 90; refine (kraft_weight _ _ _ _ hr HM.out).mono ?_; rintro e w' ⟨rfl, rfl⟩))
      go_ret2
      exact ⟨by rw [H.out, H3.out]; rfl, rfl⟩
    · have b0 : ((weight l : Int) == 0) = false := by simp [c]
      have b1 : decide ((weight l : Int) < 1048576) = true := by simp; omega
      have H3 : Hid (cls l = 1) := by rw [Hid, H2.out, if_neg c, if_pos d]
      clear c
      go_enter Try.func56, Try.ntmps56
      go_wp2_with (first | (go_at_call 89; refine (kraft_may _ _ _ _ hr).mono ?_; rintro e w' ⟨rfl, rfl⟩) | (go_at_call 90; refine (kraft_weight _ _ _ _ hr HM.out).mono ?_; rintro e w' ⟨rfl, rfl⟩))
      go_ret2
      exact ⟨by rw [H.out, H3.out]; rfl, rfl⟩
    · have b0 : ((weight l : Int) == 0) = false := by simp [c]
      have H3 : Hid (cls l = 2) := by rw [Hid, H2.out, if_neg (by omega), if_neg (by omega), if_pos c]
      have b1 : decide ((weight l : Int) < 1048576) = false := by simp; omega
      have b2 : ((weight l : Int) == 1048576) = true := by simp [c]
      clear c
      go_enter Try.func56, Try.ntmps56
      go_wp2_with (first | (go_at_call 89; refine (kraft_may _ _ _ _ hr).mono ?_; rintro e w' ⟨rfl, rfl⟩) | (go_at_call 90; refine (kraft_weight _ _ _ _ hr HM.out).mono ?_; rintro e w' ⟨rfl, rfl⟩))
      go_ret2
      exact ⟨by rw [H.out, H3.out]; rfl, rfl⟩
    · have b0 : ((weight l : Int) == 0) = false := by simp; omega
      have H3 : Hid (cls l = 3) := by rw [Hid, H2.out, if_neg (by omega), if_neg (by omega), if_neg (by omega)]
      have b1 : decide ((weight l : Int) < 1048576) = false := by simp; omega
      have b2 : ((weight l : Int) == 1048576) = false := by simp; omega
      clear c
      go_enter Try.func56, Try.ntmps56
      go_wp2_with (first | (go_at_call 89; refine (kraft_may _ _ _ _ hr).mono ?_; rintro e w' ⟨rfl, rfl⟩) | (go_at_call 90; refine (kraft_weight _ _ _ _ hr HM.out).mono ?_; rintro e w' ⟨rfl, rfl⟩))
      go_ret2
      exact ⟨by rw [H.out, H3.out]; rfl, rfl⟩
  · have hB : mayB l = false := by simp [mayB, hm]
    have H : Hid (clsE l = (0, 5)) := by simp [Hid, clsE, hm]
    clear hm
    go_enter Try.func56, Try.ntmps56
    go_wp2_with (go_at_call 89; refine (kraft_may _ _ _ _ hr).mono ?_; rintro e w' ⟨rfl, rfl⟩)
    go_ret2
    exact ⟨by rw [H.out]; rfl, rfl⟩
end Go.Proofs.Ytmgoeokdlklabaa
