/- CostStored: the law's walk. -/
import Derived.Test.YtlofoocgiomfbaaCost
namespace Go.Proofs.Ytlofoocgiomfbaa
open Go.RowKit M17
set_option linter.unusedVariables false

theorem law_stored (n a : Int) (w : World) (h1 : -9223372036854775808 ≤ n ∧ n ≤ 9223372036854775807) (h2 : -9223372036854775808 ≤ a ∧ a ≤ 9223372036854775807) :
    Calls Try.prog 4 #[.int .i64 n, .int .i64 a] w (RetTrue17 w) := by
  by_cases hn : n ≤ 1073741824
  case neg =>
    have b0 : decide (1073741824 < n) = true := by simp; omega
    clear hn
    go_enter Try.func4, Try.ntmps4
    go_wp2
    go_ret
    exact ⟨rfl, Below.refl _ _⟩
  by_cases ha : a ≤ 1073741824
  case neg =>
    have b0 : decide (1073741824 < n) = false := by simp; omega
    have b1 : decide (1073741824 < a) = true := by simp; omega
    clear hn ha
    go_enter Try.func4, Try.ntmps4
    go_wp2
    go_ret
    exact ⟨rfl, Below.refl _ _⟩
  have b0 : decide (1073741824 < n) = false := by simp; omega
  have b1 : decide (1073741824 < a) = false := by simp; omega
  have HC := Lib.hid (cost_stored n a w hn ha)
  have HR := Lib.hid (ref17_stored n a w hn ha)
  generalize storedZ n a = z at *
  clear hn ha
  go_enter Try.func4, Try.ntmps4
  go_wp2_with fail
  refine HC.out.mono ?_
  rintro e w1 ⟨rfl, rfl⟩
  go_wp2_with fail
  refine HR.out.mono ?_
  rintro e w1 ⟨rfl, rfl⟩
  go_wp2_with fail
  refine (law17_counts _).mono ?_
  rintro e w1 ⟨rfl, hb⟩
  go_wp2
  go_ret
  exact ⟨rfl, hb⟩
end Go.Proofs.Ytlofoocgiomfbaa
