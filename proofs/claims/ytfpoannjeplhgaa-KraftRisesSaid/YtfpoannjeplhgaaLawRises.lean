/- KraftRises: the law's walk. -/
import Derived.Test.YtfpoannjeplhgaaHelp04
namespace Go.Proofs.Ytfpoannjeplhgaa
open Go.RowKit M04
set_option linter.unusedVariables false

set_option maxRecDepth 100000 in
set_option maxHeartbeats 1600000 in
theorem law_rises (a : Option Addr) (cap : Nat) (l : List Nat) (w : World) (hr : RowN .u8 w a cap l) :
    Calls Try.prog 6 #[.slice a l.length cap] w (RetTrue w) := by
  have hlen := hr.len
  by_cases h6 : 200 < l.length
  · go_enter Try.func6, Try.ntmps6
    go_wp2
    go_ret
    exact ⟨rfl, Below.refl _ _⟩
  by_cases hE : (wordsE l).2 = 0
  case neg =>
    have hb : (((wordsE l).2 : Int) != 0) = true := by simp; exact hE
    have h0 := wordsE_bad hE
    clear hE
    go_enter Try.func6, Try.ntmps6
    go_wp2_with fail
    refine (kraft_words _ _ l _ hr).mono ?_
    rintro e w2 ⟨a2, cap2, rfl, hown2, hb2⟩
    rw [h0]
    clear hown2
    generalize (wordsE l).2 = er at *
    go_wp2_with (go_at_call 12; refine (law04_classes _).mono ?_; rintro e w4 ⟨rfl, hw4⟩)
    go_ret
    exact ⟨rfl, hb2.trans (hw4.mono hb2.size)⟩
  obtain ⟨hE1, hM, hW⟩ := wordsE_ok hE
  have HE := Lib.hid hE1
  have H20 := Lib.hid hM.1
  clear hE hE1 hM
  go_enter Try.func6, Try.ntmps6
  go_wp2_with fail
  refine (kraft_words _ _ l _ hr).mono ?_
  rintro e w2 ⟨a2, cap2, rfl, hown2, hb2⟩
  rw [HE.out] at hown2 ⊢
  have hr2 := hown2.row
  have hw2 := words_length l
  simp only [words_length]
  clear hown2
  go_wp2
  clear HE
  go_loopw [5] (fun i wr => ∃ k n : Nat, k ≤ l.length ∧ i = .int .i64 k ∧ wr = w2.drewN n) (fun i _ => l.length - (intOf i).toNat)
  case atStart => exact ⟨0, 0, by omega, rfl, rfl⟩
  case round =>
    obtain ⟨i, n, hi, rfl, rfl⟩ := hrel
    by_cases hil : i < l.length
    · obtain ⟨b1, o1, rfl, hz1, hc1⟩ := (hr.below hb2).at hil
      obtain ⟨b2, o2, rfl, hz2, hc2⟩ := hr2.at (i := i) (by omega)
      rw [words_getElem] at hc2
      have hx20 : l[i] ≤ 20 := H20.out _ (List.getElem_mem hil)
      go_wp2
      go_loopw [6] (fun i wr => ∃ k n : Nat, k ≤ l.length ∧ i = .int .i64 k ∧ wr = w2.drewN n) (fun i _ => l.length - (intOf i).toNat)
      case atStart => exact ⟨0, _, by omega, rfl, rfl⟩
      case round =>
        obtain ⟨k, m, hk, rfl, rfl⟩ := hrel
        by_cases hkl : k < l.length
        · obtain ⟨b3, o3, he3, hz3, hc3⟩ := (hr.below hb2).at hkl
          obtain ⟨b4, o4, he4, hz4, hc4⟩ := hr2.at (i := k) (by omega)
          simp only [Option.some.injEq, Addr.mk.injEq, and_true] at he3 he4
          obtain ⟨rfl, rfl⟩ := he3
          obtain ⟨rfl, rfl⟩ := he4
          rw [words_getElem] at hc4
          have hy20 : l[k] ≤ 20 := H20.out _ (List.getElem_mem hkl)
          have HR : Hid (l[i] ≠ 0 → (l[i] < l[k] ∨ l[i] = l[k] ∧ i < k) → word l i < word l k / 2 ^ (l[k] - l[i])) := by
            have := word_rises l i k hil hkl H20.out
            rw [getD_at hil, getD_at hkl] at this
            exact this
          clear hr hr2
          generalize l[i] = x at *
          generalize l[k] = y at *
          generalize word l i = wi at *
          generalize word l k = wk at *
          by_cases hx0 : x = 0
          case pos =>
            have f0 : ((x : Int) == 0) = true := by simp; omega
            clear HR
            go_wp2
            go_roundw
            case rel => exact ⟨k + 1, _, by omega, by go_num, rfl⟩
            case measure => simp [intOf]; omega
          by_cases hy0 : y = 0
          case pos =>
            have f0 : ((x : Int) == 0) = false := by simp; omega
            have f1 : ((y : Int) == 0) = true := by simp; omega
            clear HR
            go_wp2
            go_roundw
            case rel => exact ⟨k + 1, _, by omega, by go_num, rfl⟩
            case measure => simp [intOf]; omega
          by_cases hxy : x < y
          case pos =>
            have h2 : min (IntKind.u8.wrap ((y : Int) - (x : Int))).toNat 32 = y - x := by
              rw [wrap_u8 _ (by omega) (by omega)]; omega
            have h3 := HR.out (by omega) (by omega)
            have h4 : decide ((wk : Int) / 2 ^ (y - x) ≤ (wi : Int)) = false := by
              rw [natpow, ← Int.natCast_ediv, decide_eq_false_iff_not]; omega
            clear h2 h3
            have f0 : ((x : Int) == 0) = false := by simp; omega
            have f1 : ((y : Int) == 0) = false := by simp; omega
            have f2 : decide (x < y) = true := by simp; omega
            have f3 : ((x : Int) == (y : Int)) = false := by simp; omega
            clear HR
            go_wp2
            go_quiet (fail)
            go_wp2
            go_quiet (fail)
            go_wp2
            go_roundw
            case rel => exact ⟨k + 1, _, by omega, by go_num, rfl⟩
            case measure => simp [intOf]; omega
          by_cases hyx : y < x
          case pos =>
            have f0 : ((x : Int) == 0) = false := by simp; omega
            have f1 : ((y : Int) == 0) = false := by simp; omega
            have f2 : decide (x < y) = false := by simp; omega
            have f3 : ((x : Int) == (y : Int)) = false := by simp; omega
            clear HR
            go_wp2
            go_quiet (fail)
            go_wp2
            go_quiet (fail)
            go_wp2
            go_roundw
            case rel => exact ⟨k + 1, _, by omega, by go_num, rfl⟩
            case measure => simp [intOf]; omega
          by_cases hik : i < k
          case pos =>
            have h3 := HR.out (by omega) (by omega)
            have h5 : y - x = 0 := by omega
            rw [h5, Nat.pow_zero, Nat.div_one] at h3
            clear h5
            have f0 : ((x : Int) == 0) = false := by simp; omega
            have f1 : ((y : Int) == 0) = false := by simp; omega
            have f2 : decide (x < y) = false := by simp; omega
            have f3 : ((x : Int) == (y : Int)) = true := by simp; omega
            have f4 : decide (i < k) = true := by simp; omega
            have f5 : decide (wk ≤ wi) = false := by simp; omega
            clear HR
            go_wp2
            go_quiet (fail)
            go_wp2
            go_quiet (fail)
            go_wp2
            go_roundw
            case rel => exact ⟨k + 1, _, by omega, by go_num, rfl⟩
            case measure => simp [intOf]; omega
          have f0 : ((x : Int) == 0) = false := by simp; omega
          have f1 : ((y : Int) == 0) = false := by simp; omega
          have f2 : decide (x < y) = false := by simp; omega
          have f3 : ((x : Int) == (y : Int)) = true := by simp; omega
          have f4 : decide (i < k) = false := by simp; omega
          clear HR
          go_wp2
          go_quiet (fail)
          go_wp2
          go_quiet (fail)
          go_wp2
          go_roundw
          case rel => exact ⟨k + 1, _, by omega, by go_num, rfl⟩
          case measure => simp [intOf]; omega
        · go_wp2
          go_roundw
          case rel => exact ⟨i + 1, _, by omega, by go_num, rfl⟩
          case measure => simp [intOf]; omega
    · go_wp2_with (go_at_call 12; refine (law04_classes _).mono ?_; rintro e w4 ⟨rfl, hw4⟩)
      go_ret
      exact ⟨rfl, (below_drewN hb2 n).trans (hw4.mono (by have := hb2.size; exact this))⟩
end Go.Proofs.Ytfpoannjeplhgaa
