/- KraftFree: the law's walk. -/
import Derived.Test.YtfpoannjeplhgaaClasses
import Derived.Test.YtfpoannjeplhgaaOpen
import Derived.Test.YtfpoannjeplhgaaM04b
import Derived.BigQuiet
import Derived.Deep.QuietTactic
namespace Go.Proofs.Ytfpoannjeplhgaa
open Go.RowKit M04
set_option linter.unusedVariables false

theorem getD_at {l : List Nat} {i : Nat} (h : i < l.length) : l.getD i 0 = l[i] := by simp [h]
theorem wrap_u8 (n : Int) (h0 : 0 ≤ n) (h1 : n < 256) : IntKind.u8.wrap n = n := by simp [IntKind.wrap, IntKind.bits, IntKind.signed]; omega
theorem natpow (n : Nat) : (2 : Int) ^ n = ((2 ^ n : Nat) : Int) := by simp

/-- what Words answers where it answers: the words -/
theorem wordsE_ok {l : List Nat} (h : (wordsE l).2 = 0) : wordsE l = (words l, 0) ∧ May l ∧ weight l ≤ 2 ^ 20 := by
  unfold wordsE at *
  split at h
  · simp at h
  · split at h
    · simp at h
    · rename_i h1 h2
      rw [if_neg h1, if_neg h2]
      exact ⟨rfl, by simpa using h1, by omega⟩
theorem wordsE_bad {l : List Nat} (h : (wordsE l).2 ≠ 0) : (wordsE l).1 = [] := by
  unfold wordsE at *
  split
  · rfl
  · split
    · rfl
    · rename_i h1 h2
      rw [if_neg h1, if_neg h2] at h
      simp at h

set_option maxRecDepth 100000 in
set_option maxHeartbeats 1600000 in
theorem law_free (a : Option Addr) (cap : Nat) (l : List Nat) (row : Nat) (w : World) (hr : RowN .u8 w a cap l) (hrow : row < 4294967296) :
    Calls Try.prog 5 #[.slice a l.length cap, .int .u32 row] w (RetTrue w) := by
  have hlen := hr.len
  by_cases h6 : 200 < l.length
  · go_enter Try.func5, Try.ntmps5
    go_wp2
    go_ret
    exact ⟨rfl, Below.refl _ _⟩
  by_cases hE : (wordsE l).2 = 0
  case neg =>
    have hb : (((wordsE l).2 : Int) != 0) = true := by simp; exact hE
    have h0 := wordsE_bad hE
    clear hE
    go_enter Try.func5, Try.ntmps5
    go_wp2_with fail
    refine (kraft_words _ _ l _ hr).mono ?_
    rintro e w2 ⟨a2, cap2, rfl, hown2, hb2⟩
    rw [h0]
    clear hown2
    generalize (wordsE l).2 = er at *
    go_wp2_with (go_at_call 12; refine (law04_classes _).mono ?_; rintro e w4 ⟨rfl, hw4⟩)
    go_ret
    exact ⟨rfl, hb2.trans (hw4.mono hb2.size)⟩
  obtain ⟨hE1, hM, hW⟩ := wordsE_ok hE
  have HE := Lib.hid hE1
  have HM := Lib.hid hM
  have HC : Hid (clsE l = (cls l, 0)) := by simp [Hid, clsE, hM]
  clear hE hE1 hM
  go_enter Try.func5, Try.ntmps5
  go_wp2_with fail
  refine (kraft_words _ _ l _ hr).mono ?_
  rintro e w2 ⟨a2, cap2, rfl, hown2, hb2⟩
  rw [HE.out] at hown2 ⊢
  have hr2 := hown2.row
  have hw2 := words_length l
  simp only [words_length]
  clear hown2
  go_wp2_with (go_at_call 9; refine (kraft_classify _ _ _ _ (hr.below hb2)).mono ?_; rintro e w' ⟨rfl, rfl⟩; rw [HC.out])
  have hq : (row : Int) % 1048576 = ((row % 1048576 : Nat) : Int) := by omega
  simp only [hq]
  have hq2 : row % 1048576 < 1048576 := by omega
  generalize row % 1048576 = q at *
  have HA := Lib.hid (hits_all l q HM.out.1)
  have H20 := Lib.hid HM.out.1
  have HQ := Lib.hid hq2
  clear hq HM HE HC hq2 hrow
  go_loopw [9, 10] (fun c i wr => ∃ k n : Nat, k ≤ l.length ∧ i = .int .i64 k ∧ c = .int .i64 (hits l q k) ∧ wr = w2.drewN n) (fun _ i _ => l.length - (intOf i).toNat)
  case atStart => exact ⟨0, 0, by omega, rfl, by simp [hits, S], rfl⟩
  case round =>
    obtain ⟨k, n, hk, rfl, rfl, rfl⟩ := hrel
    by_cases hlt : k < l.length
    · obtain ⟨b1, o1, rfl, hz1, hc1⟩ := (hr.below hb2).at hlt
      obtain ⟨b2, o2, rfl, hz2, hc2⟩ := hr2.at (i := k) (by omega)
      rw [words_getElem] at hc2
      have hg := getD_at hlt
      have hx20 : l[k] ≤ 20 := H20.out _ (List.getElem_mem hlt)
      have hhl := hits_le l q k
      by_cases hx0 : l[k] = 0
      · have HW : Hid (word l k = 0) := by rw [Hid, word, if_pos (by omega)]
        have HH : Hid (hits l q (k + 1) = hits l q k) := by
          show S _ (k + 1) = _
          rw [S, if_neg (by unfold hit; omega)]; rfl
        have bx : ((l[k] : Int) == 0) = true := by simp [hx0]
        have bw : ((word l k : Int) != 0) = false := by simp [HW.out]
        clear hx0 hg
        generalize l[k] = x at *
        generalize word l k = ww at *
        generalize hits l q k = h at *
        go_wp2
        go_roundw
        case rel => exact ⟨k + 1, _, by omega, by go_num, by rw [HH.out], rfl⟩
        case measure => simp [intOf]; omega
      · have bx : ((l[k] : Int) == 0) = false := by simp; omega
        have bw : ((word l k : Int) / 2 ^ l[k] != 0) = false := by
          have := word_small l k hlt H20.out hW
          rw [hg] at this
          rw [natpow, ← Int.natCast_ediv, this]; rfl
        have HH : Hid (hits l q (k + 1) = hits l q k + if hit l q k then 1 else 0) := rfl
        have hqs : ∀ b : Bool, decide (hit l q k) = b → ((q : Int) / 2 ^ (20 - l[k]) == (word l k : Int)) = b := by
          intro b hb
          rw [← hb, natpow, ← Int.natCast_ediv]
          have : q / size l k = q / 2 ^ (20 - l[k]) := by unfold size; rw [hg]
          rw [← this, Bool.eq_iff_iff, beq_iff_eq, decide_eq_true_eq]
          unfold hit
          constructor
          · intro h; exact ⟨by omega, by omega⟩
          · intro h; omega
        have HAP := Lib.hid fun j (hj : j < l.length) => word_apart l k j hlt hj H20.out (by omega)
        have hxn := hg
        clear hg
        obtain ⟨c, hc⟩ : ∃ c : Nat, c = hits l q (k + 1) := ⟨_, rfl⟩
        have HC2 := Lib.hid hc
        clear hc
        by_cases hh : hit l q k
        · have bh := hqs true (by simp [hh])
          have HH2 : Hid (hits l q (k + 1) = hits l q k + 1) := by rw [Hid, HH.out, if_pos hh]
          clear hqs hh hxn
          have HX : Hid (l.getD k 0 = l[k]) := getD_at hlt
          generalize hxx : l[k] = x at *
          generalize hww : word l k = ww at *
          clear hxx hww
          go_wp2
          go_quiet (fail)
          go_wp2
          go_quiet (fail)
          go_wp2
          go_loopw [11] (fun i wr => ∃ j m : Nat, j ≤ l.length ∧ i = .int .i64 j ∧ wr = w2.drewN m) (fun i _ => l.length - (intOf i).toNat)
          case atStart => exact ⟨0, _, by omega, rfl, by first | rfl | (simp only [World.drewN_drewN]; rfl)⟩
          case round =>
            obtain ⟨j, m, hj, rfl, rfl⟩ := hrel
            by_cases hjl : j < l.length
            · obtain ⟨b3, o3, he3, hz3, hc3⟩ := (hr.below hb2).at hjl
              obtain ⟨b4, o4, he4, hz4, hc4⟩ := hr2.at (i := j) (by omega)
              simp only [Option.some.injEq, Addr.mk.injEq, and_true] at he3 he4
              obtain ⟨rfl, rfl⟩ := he3
              obtain ⟨rfl, rfl⟩ := he4
              rw [words_getElem] at hc4
              have hy20 : l[j] ≤ 20 := H20.out _ (List.getElem_mem hjl)
              by_cases hjk : j = k
              · have bj : ((j : Int) != (k : Int)) = false := by simp [hjk]
                clear hjk
                generalize l[j] = y at *
                generalize word l j = wj at *
                go_wp2
                go_quiet (fail)
                go_wp2
                go_roundw
                case rel => exact ⟨j + 1, _, by omega, by go_num, rfl⟩
                case measure => simp [intOf]; omega
              · have bj : ((j : Int) != (k : Int)) = true := by simp; omega
                by_cases hle : x ≤ l[j]
                · have bd : decide (x ≤ l[j]) = true := by simp; omega
                  have bw2 : ((word l j : Int) / 2 ^ min (IntKind.u8.wrap ((l[j] : Int) - (x : Int))).toNat 32 == (ww : Int)) = false := by
                    have h1 := HAP.out j hjl hjk (by rw [HX.out, getD_at hjl]; exact hle)
                    rw [getD_at hjl, HX.out] at h1
                    have h2 : min (IntKind.u8.wrap ((l[j] : Int) - (x : Int))).toNat 32 = l[j] - x := by
                      rw [wrap_u8 _ (by omega) (by omega)]; omega
                    rw [h2, natpow, ← Int.natCast_ediv, beq_eq_false_iff_ne]
                    exact fun e => h1 (by omega)
                  clear hjk hle
                  generalize l[j] = y at *
                  generalize word l j = wj at *
                  go_wp2
                  go_quiet (fail)
                  go_wp2
                  go_roundw
                  case rel => exact ⟨j + 1, _, by omega, by go_num, rfl⟩
                  case measure => simp [intOf]; omega
                · have bd : decide (x ≤ l[j]) = false := by simp; omega
                  clear hjk hle
                  generalize l[j] = y at *
                  generalize word l j = wj at *
                  go_wp2
                  go_quiet (fail)
                  go_wp2
                  go_roundw
                  case rel => exact ⟨j + 1, _, by omega, by go_num, rfl⟩
                  case measure => simp [intOf]; omega
            · go_wp2
              go_roundw
              case rel => exact ⟨k + 1, _, by omega, by go_num, by rw [HH2.out]; go_num, rfl⟩
              case measure => simp [intOf]; omega
        · have bh := hqs false (by simp [hh])
          have HH2 : Hid (hits l q (k + 1) = hits l q k) := by rw [Hid, HH.out, if_neg hh]; rfl
          clear hqs hh hxn
          have HX : Hid (l.getD k 0 = l[k]) := getD_at hlt
          generalize hxx : l[k] = x at *
          generalize hww : word l k = ww at *
          clear hxx hww
          go_wp2
          go_quiet (fail)
          go_wp2
          go_quiet (fail)
          go_wp2
          go_loopw [11] (fun i wr => ∃ j m : Nat, j ≤ l.length ∧ i = .int .i64 j ∧ wr = w2.drewN m) (fun i _ => l.length - (intOf i).toNat)
          case atStart => exact ⟨0, _, by omega, rfl, by first | rfl | (simp only [World.drewN_drewN]; rfl)⟩
          case round =>
            obtain ⟨j, m, hj, rfl, rfl⟩ := hrel
            by_cases hjl : j < l.length
            · obtain ⟨b3, o3, he3, hz3, hc3⟩ := (hr.below hb2).at hjl
              obtain ⟨b4, o4, he4, hz4, hc4⟩ := hr2.at (i := j) (by omega)
              simp only [Option.some.injEq, Addr.mk.injEq, and_true] at he3 he4
              obtain ⟨rfl, rfl⟩ := he3
              obtain ⟨rfl, rfl⟩ := he4
              rw [words_getElem] at hc4
              have hy20 : l[j] ≤ 20 := H20.out _ (List.getElem_mem hjl)
              by_cases hjk : j = k
              · have bj : ((j : Int) != (k : Int)) = false := by simp [hjk]
                clear hjk
                generalize l[j] = y at *
                generalize word l j = wj at *
                go_wp2
                go_quiet (fail)
                go_wp2
                go_roundw
                case rel => exact ⟨j + 1, _, by omega, by go_num, rfl⟩
                case measure => simp [intOf]; omega
              · have bj : ((j : Int) != (k : Int)) = true := by simp; omega
                by_cases hle : x ≤ l[j]
                · have bd : decide (x ≤ l[j]) = true := by simp; omega
                  have bw2 : ((word l j : Int) / 2 ^ min (IntKind.u8.wrap ((l[j] : Int) - (x : Int))).toNat 32 == (ww : Int)) = false := by
                    have h1 := HAP.out j hjl hjk (by rw [HX.out, getD_at hjl]; exact hle)
                    rw [getD_at hjl, HX.out] at h1
                    have h2 : min (IntKind.u8.wrap ((l[j] : Int) - (x : Int))).toNat 32 = l[j] - x := by
                      rw [wrap_u8 _ (by omega) (by omega)]; omega
                    rw [h2, natpow, ← Int.natCast_ediv, beq_eq_false_iff_ne]
                    exact fun e => h1 (by omega)
                  clear hjk hle
                  generalize l[j] = y at *
                  generalize word l j = wj at *
                  go_wp2
                  go_quiet (fail)
                  go_wp2
                  go_roundw
                  case rel => exact ⟨j + 1, _, by omega, by go_num, rfl⟩
                  case measure => simp [intOf]; omega
                · have bd : decide (x ≤ l[j]) = false := by simp; omega
                  clear hjk hle
                  generalize l[j] = y at *
                  generalize word l j = wj at *
                  go_wp2
                  go_quiet (fail)
                  go_wp2
                  go_roundw
                  case rel => exact ⟨j + 1, _, by omega, by go_num, rfl⟩
                  case measure => simp [intOf]; omega
            · go_wp2
              go_roundw
              case rel => exact ⟨k + 1, _, by omega, by go_num, by rw [HH2.out], rfl⟩
              case measure => simp [intOf]; omega
    · obtain rfl : k = l.length := by omega
      have h1 := HA.out
      have hcd : cls l = if weight l = 0 then 0 else if weight l < 2 ^ 20 then 1 else if weight l = 2 ^ 20 then 2 else 3 := rfl
      have hq2 := HQ.out
      clear HA
      by_cases hqw : q < weight l
      · rw [if_pos hqw] at h1
        rw [h1]
        rw [if_neg (by omega)] at hcd
        by_cases c2 : cls l = 2
        · have b1 : ((cls l : Int) != 2) = false := by simp; omega
          have b2 : ((cls l : Int) != 0) = true := by simp; omega
          clear hcd
          generalize cls l = cc at *
          go_wp2_with (go_at_call 12; refine (law04_classes _).mono ?_; rintro e w4 ⟨rfl, hw4⟩)
          go_ret
          exact ⟨rfl, (below_drewN hb2 n).trans (hw4.mono (by have := hb2.size; exact this))⟩
        · have hc0 : cls l ≠ 0 := by rw [hcd]; split; omega; split <;> omega
          have b1 : ((cls l : Int) != 2) = true := by simp; omega
          have b2 : ((cls l : Int) != 0) = true := by simp; omega
          clear hcd
          generalize cls l = cc at *
          go_wp2_with (go_at_call 12; refine (law04_classes _).mono ?_; rintro e w4 ⟨rfl, hw4⟩)
          go_ret
          exact ⟨rfl, (below_drewN hb2 n).trans (hw4.mono (by have := hb2.size; exact this))⟩
      · rw [if_neg hqw] at h1
        rw [h1]
        have hc2 : cls l ≠ 2 := by
          rw [hcd]
          split
          · omega
          · rw [if_pos (by omega)]; omega
        by_cases c0 : cls l = 0
        · have b1 : ((cls l : Int) != 2) = true := by simp; omega
          have b2 : ((cls l : Int) != 0) = false := by simp; omega
          clear hcd
          generalize cls l = cc at *
          go_wp2_with (go_at_call 12; refine (law04_classes _).mono ?_; rintro e w4 ⟨rfl, hw4⟩)
          go_ret
          exact ⟨rfl, (below_drewN hb2 n).trans (hw4.mono (by have := hb2.size; exact this))⟩
        · have b1 : ((cls l : Int) != 2) = true := by simp; omega
          have b2 : ((cls l : Int) != 0) = true := by simp; omega
          clear hcd
          generalize cls l = cc at *
          go_wp2_with (go_at_call 12; refine (law04_classes _).mono ?_; rintro e w4 ⟨rfl, hw4⟩)
          go_ret
          exact ⟨rfl, (below_drewN hb2 n).trans (hw4.mono (by have := hb2.size; exact this))⟩
end Go.Proofs.Ytfpoannjeplhgaa
