/- KraftClasses: the law's walk. -/
import Derived.Test.YtfpoannjeplhgaaClasses
import Derived.Test.YtfpoannjeplhgaaOpen
namespace Go.Proofs.Ytfpoannjeplhgaa
open Go.RowKit M04
set_option linter.unusedVariables false

def cntP (l : List Nat) : Nat := (l.filter fun x => 0 < x).length
def cnt1 (l : List Nat) : Nat := (l.filter fun x => x = 1).length
theorem cntP_snoc (l : List Nat) (k : Nat) (h : k < l.length) : cntP (l.take (k + 1)) = cntP (l.take k) + if 0 < l[k] then 1 else 0 := by
  rw [take_snoc l k h]; unfold cntP; rw [List.filter_append, List.length_append]; congr 1
  by_cases h : 0 < l[k] <;> simp [h]
theorem cnt1_snoc (l : List Nat) (k : Nat) (h : k < l.length) : cnt1 (l.take (k + 1)) = cnt1 (l.take k) + if l[k] = 1 then 1 else 0 := by
  rw [take_snoc l k h]; unfold cnt1; rw [List.filter_append, List.length_append]; congr 1
  by_cases h : l[k] = 1 <;> simp [h]
theorem single_cnt (l : List Nat) : singleB l = decide (cntP l = 1 ∧ cnt1 l = 1) := by
  have key : ∀ l : List Nat, cnt1 l ≤ cntP l ∧ cntP l ≤ l.sum ∧ ((∀ x ∈ l, x ≤ 1) → cntP l = l.sum ∧ cnt1 l = l.sum) ∧ ((∃ x ∈ l, 1 < x) → cnt1 l < cntP l) := by
    intro l
    induction l with
    | nil => simp [cntP, cnt1]
    | cons a l ih =>
      obtain ⟨h1, h2, h3, h4⟩ := ih
      have ep : cntP (a :: l) = cntP l + if 0 < a then 1 else 0 := by unfold cntP; by_cases h : 0 < a <;> simp [h]
      have e1 : cnt1 (a :: l) = cnt1 l + if a = 1 then 1 else 0 := by unfold cnt1; by_cases h : a = 1 <;> simp [h]
      rw [ep, e1, List.sum_cons]
      refine ⟨by split <;> split <;> omega, by split <;> omega, fun h => ?_, fun h => ?_⟩
      · have := h a (by simp)
        have := h3 fun x hx => h x (by simp [hx])
        constructor <;> split <;> omega
      · obtain ⟨x, hx, h5⟩ := h
        simp only [List.mem_cons] at hx
        rcases hx with rfl | hx
        · rw [if_neg (by omega : ¬ x = 1), if_pos (by omega : 0 < x)]; omega
        · have := h4 ⟨x, hx, h5⟩
          split <;> split <;> omega
  obtain ⟨h1, h2, h3, h4⟩ := key l
  unfold singleB
  rw [decide_eq_decide]
  constructor
  · rintro ⟨h5, h6⟩
    have := h3 h5
    omega
  · rintro ⟨h5, h6⟩
    have h7 : ∀ x ∈ l, x ≤ 1 := by
      intro x hx
      by_cases h8 : 1 < x
      · have := h4 ⟨x, hx, h8⟩; omega
      · omega
    have := h3 h7
    exact ⟨h7, by omega⟩

set_option maxHeartbeats 800000 in
theorem law_classes (a : Option Addr) (cap : Nat) (l : List Nat) (w : World) (hr : RowN .u8 w a cap l) :
    Calls Try.prog 3 #[.slice a l.length cap] w (RetTrue w) := by
  have hlen := hr.len
  by_cases h6 : 600 < l.length
  · go_enter Try.func3, Try.ntmps3
    go_wp2
    go_ret
    exact ⟨rfl, Below.refl _ _⟩
  · have hb6 : decide (600 < l.length) = false := by simp; omega
    have HS := Lib.hid (single_cnt l)
    go_enter Try.func3, Try.ntmps3
    go_wp2_with (first | (go_at_call 9; refine (kraft_classify _ _ _ _ hr).mono ?_; rintro e w' ⟨rfl, rfl⟩) | (go_at_call 10; refine (ref04_classify _ _ _ _ hr).mono ?_; rintro e w' ⟨rfl, rfl⟩))
    go_loop [7, 8, 9] (fun p o i => ∃ k : Nat, k ≤ l.length ∧ i = .int .i64 k ∧ p = .int .i64 (cntP (l.take k)) ∧ o = .int .i64 (cnt1 (l.take k)) ∧ cntP (l.take k) ≤ k ∧ cnt1 (l.take k) ≤ k) (fun _ _ i => l.length - (intOf i).toNat)
    case atStart => exact ⟨0, Nat.zero_le _, rfl, rfl, rfl, by simp [cntP], by simp [cnt1]⟩
    case round =>
      obtain ⟨k, hk, rfl, rfl, rfl, hp1, hp2⟩ := hrel
      by_cases hlt : k < l.length
      · obtain ⟨b, off, rfl, hb, hck⟩ := hr.at hlt
        have HP := Lib.hid (cntP_snoc l k hlt)
        have HO := Lib.hid (cnt1_snoc l k hlt)
        clear hr
        generalize l[k] = x at *
        generalize cntP (l.take k) = p at *
        generalize cnt1 (l.take k) = o at *
        rcases (by omega : x = 0 ∨ x = 1 ∨ 1 < x) with h | h | h
        · subst h
          go_wp2
          go_round
          case rel =>
            have h1 := HP.out
            have h2 := HO.out
            simp only [Nat.lt_irrefl, if_false, if_neg (by decide : ¬ (0 : Nat) = 1)] at h1 h2
            exact ⟨k + 1, by omega, by go_num, by rw [h1]; go_num, by rw [h2]; go_num, by omega, by omega⟩
          case measure => simp [intOf]; omega
        · subst h
          go_wp2
          go_round
          case rel =>
            have h1 := HP.out
            have h2 := HO.out
            simp only [Nat.zero_lt_one, if_true] at h1 h2
            exact ⟨k + 1, by omega, by go_num, by rw [h1]; go_num, by rw [h2]; go_num, by omega, by omega⟩
          case measure => simp [intOf]; omega
        · have hb1 : ((x : Int) == 1) = false := by simp; omega
          go_wp2
          go_round
          case rel =>
            have h1 := HP.out
            have h2 := HO.out
            rw [if_pos (by omega)] at h1
            rw [if_neg (by omega)] at h2
            exact ⟨k + 1, by omega, by go_num, by rw [h1]; go_num, by rw [h2]; go_num, by omega, by omega⟩
          case measure => simp [intOf]; omega
      · have h2 : l.take k = l := List.take_of_length_le (by omega)
        rw [h2] at hp1 hp2
        rw [h2]
        by_cases hp : cntP l = 1
        · by_cases ho : cnt1 l = 1
          · have c1 : ((cntP l : Int) == 1) = true := by simp [hp]
            have c2 : ((cnt1 l : Int) == 1) = true := by simp [ho]
            have HB : Hid (singleB l = true) := by rw [Hid, HS.out, decide_eq_true_eq]; omega
            clear hp ho
            go_wp2_with (first | (go_at_call 11; refine (kraft_single _ _ _ _ hr).mono ?_; rintro e w' ⟨rfl, rfl⟩; rw [HB.out]) | (go_at_call 12; refine (law04_classes _).mono ?_; rintro e w1 ⟨rfl, hw1⟩))
            go_ret
            exact ⟨rfl, hw1⟩
          · have c1 : ((cntP l : Int) == 1) = true := by simp [hp]
            have c2 : ((cnt1 l : Int) == 1) = false := by simp; omega
            have HB : Hid (singleB l = false) := by rw [Hid, HS.out, decide_eq_false_iff_not]; omega
            clear hp
            go_wp2_with (first | (go_at_call 11; refine (kraft_single _ _ _ _ hr).mono ?_; rintro e w' ⟨rfl, rfl⟩; rw [HB.out]) | (go_at_call 12; refine (law04_classes _).mono ?_; rintro e w1 ⟨rfl, hw1⟩))
            go_ret
            exact ⟨rfl, hw1⟩
        · have c1 : ((cntP l : Int) == 1) = false := by simp; omega
          have HB : Hid (singleB l = false) := by rw [Hid, HS.out, decide_eq_false_iff_not]; omega
          go_wp2_with (first | (go_at_call 11; refine (kraft_single _ _ _ _ hr).mono ?_; rintro e w' ⟨rfl, rfl⟩; rw [HB.out]) | (go_at_call 12; refine (law04_classes _).mono ?_; rintro e w1 ⟨rfl, hw1⟩))
          go_ret
          exact ⟨rfl, hw1⟩
end Go.Proofs.Ytfpoannjeplhgaa
