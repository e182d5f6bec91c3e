/- KraftWords: the law's walk. -/
import Derived.Test.YtfpoannjeplhgaaClasses
import Derived.Test.YtfpoannjeplhgaaOpen
import Derived.BigQuiet
import Derived.Deep.QuietTactic
namespace Go.Proofs.Ytfpoannjeplhgaa
open Go.RowKit M04
set_option linter.unusedVariables false

set_option maxHeartbeats 800000 in
theorem law_words (a : Option Addr) (cap : Nat) (l : List Nat) (w : World) (hr : RowN .u8 w a cap l) :
    Calls Try.prog 4 #[.slice a l.length cap] w (RetTrue w) := by
  have hlen := hr.len
  by_cases h6 : 600 < l.length
  · go_enter Try.func4, Try.ntmps4
    go_wp2
    go_ret
    exact ⟨rfl, Below.refl _ _⟩
  · go_enter Try.func4, Try.ntmps4
    go_wp2_with (at_builtin; refine appAnyN et_u8 rfl (.tmp 12) (.tmp 13) rfl (a := some ⟨w.heap.size, 0, none⟩) (cap := 0) (l := []) (ys := l) (base := w.heap.size) rfl (OwnN.lit0 _ _ _ _ (Nat.le_refl _)) rfl rfl (hr.below ((Below.refl _ _).alloc (Nat.le_refl _) _)) (by simp; omega) (by simp; omega) (by simp) ?_; intro a1 cap1 w1 hown1 hg1 hb1)
    simp only [List.nil_append] at hown1
    have hr1 := hown1.row
    replace hb1 := ((Below.refl w.heap.size w).alloc (Nat.le_refl _) _).trans hb1
    refine (kraft_words _ _ l _ hr1).mono ?_
    rintro e w2 ⟨a2, cap2, rfl, hown2, hb2⟩
    have hB2 := hb1.trans (hb2.mono hb1.size)
    go_wp2_with fail
    refine (ref04_words _ _ l _ (hr.below hB2)).mono ?_
    rintro e w3 ⟨a3, cap3, rfl, hown3, hb3⟩
    have hB3 := hB2.trans (hb3.mono hB2.size)
    have hcv1 := conv_row Try.underlying22 Try.underlying5 Try.underlying9 rfl ((hr1.below hb2).below hb3)
    have hcv2 := conv_row Try.underlying22 Try.underlying5 Try.underlying9 rfl (hr.below hB3)
    have hr2 := hown2.row.below hb3
    have hr3 := hown3.row
    clear hown1 hown2 hown3 hb1 hb2 hb3 hr1 hB2 hg1
    generalize (wordsE l).1 = ws at *
    generalize (wordsE l).2 = er at *
    have hlw := hr2.len
    go_wp2
    go_loopw [8] (fun i wr => ∃ k n : Nat, k ≤ ws.length ∧ i = .int .i64 k ∧ wr = w3.drewN n) (fun i _ => ws.length - (intOf i).toNat)
    case atStart => exact ⟨0, 0, by omega, rfl, rfl⟩
    case round =>
      obtain ⟨k, n, hk, rfl, rfl⟩ := hrel
      clear hcv1 hcv2
      by_cases hlt : k < ws.length
      · obtain ⟨b2, o2, rfl, hz2, hc2⟩ := hr2.at hlt
        obtain ⟨b3, o3, rfl, hz3, hc3⟩ := hr3.at hlt
        clear hr2 hr3
        generalize ws[k] = x at *
        go_wp2
        go_quiet (fail)
        go_wp2
        go_roundw
        case rel => exact ⟨k + 1, _, by omega, by go_num, rfl⟩
        case measure => simp [intOf]; omega
      · go_wp2_with (go_at_call 12; refine (law04_classes _).mono ?_; rintro e w4 ⟨rfl, hw4⟩)
        go_ret
        exact ⟨rfl, (below_drewN hB3 n).trans (hw4.mono (by have := hB3.size; exact this))⟩
end Go.Proofs.Ytfpoannjeplhgaa
