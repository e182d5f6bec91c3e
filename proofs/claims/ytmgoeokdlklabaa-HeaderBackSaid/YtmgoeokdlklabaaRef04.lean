/- Contracts of the reference of layer 4: May, Weight, Classify, Words; and kraft.Single. -/
import Derived.Test.YtmgoeokdlklabaaChecked
import Derived.Test.YtmgoeokdlklabaaBase
import Derived.Test.YtmgoeokdlklabaaLib
import Derived.Test.YtmgoeokdlklabaaM04
import Derived.BigQuiet
import Derived.Deep.QuietTactic
namespace Go.Proofs.Ytmgoeokdlklabaa
open Go.RowKit M04
set_option linter.unusedVariables false

theorem et_u32 : ElemTy Try.prog 129 27 .u32 4 := ⟨Try.underlying129, by kernel_rfl⟩
theorem et_u8 : ElemTy Try.prog 22 5 .u8 1 := ⟨Try.underlying22, by kernel_rfl⟩

set_option maxHeartbeats 400000 in
theorem ref04_may (a : Option Addr) (cap : Nat) (l : List Nat) (w : World) (hr : RowN .u8 w a cap l) :
    Calls Try.prog 112 #[.slice a l.length cap] w fun e w' => e = .returned (.bool (mayB l)) ∧ w = w' := by
  have hlen := hr.len
  go_enter Try.func112, Try.ntmps112
  go_wp2
  go_loop [3] (fun i => ∃ k : Nat, k ≤ l.length ∧ i = .int .i64 k ∧ ∀ x ∈ l.take k, x ≤ 20) (fun i => l.length - (intOf i).toNat)
  case atStart => exact ⟨0, Nat.zero_le _, rfl, by simp⟩
  case round =>
    obtain ⟨k, hk, rfl, hall⟩ := hrel
    have HA := Lib.hid hall
    clear hall
    by_cases hlt : k < l.length
    · obtain ⟨b, off, rfl, hb, hck⟩ := hr.at hlt
      clear hr
      by_cases hx : l[k] ≤ 20
      · have H : Hid (∀ x ∈ l.take (k + 1), x ≤ 20) := by
          rw [Hid, take_snoc l k hlt]
          intro x hm
          rcases List.mem_append.1 hm with hm | hm
          · exact HA.out x hm
          · simp at hm; omega
        generalize l[k] = x at *
        go_wp2
        go_round
        case rel => exact ⟨k + 1, by omega, by go_num, H.out⟩
        case measure => simp [intOf]; omega
      · have H : Hid (mayB l = false) := by
          show decide (May l) = false
          rw [decide_eq_false_iff_not]
          exact fun h => hx (h.1 _ (List.getElem_mem hlt))
        generalize l[k] = x at *
        go_wp2
        go_ret
        exact ⟨ret_bool H.out.symm, rfl⟩
    · have H : Hid (mayB l = decide ((l.length : Int) ≤ 512)) := by
        have h2 : l.take k = l := List.take_of_length_le (by omega)
        have h3 := HA.out
        rw [h2] at h3
        show decide (May l) = _
        rw [decide_eq_decide, May]
        constructor
        · intro h; omega
        · intro h; exact ⟨h3, by omega⟩
      go_wp2
      go_ret
      exact ⟨ret_bool H.out.symm, rfl⟩

theorem pow_half (k x : Nat) (h : k < x) (hx : x ≤ 20) : 2 ^ (20 - k) / 2 = 2 ^ (20 - (k + 1)) := by
  have : 20 - k = (20 - (k + 1)) + 1 := by omega
  rw [this, Nat.pow_succ]; omega

set_option maxHeartbeats 400000 in
theorem ref04_weight (a : Option Addr) (cap : Nat) (l : List Nat) (w : World) (hr : RowN .u8 w a cap l) (hm : May l) :
    Calls Try.prog 113 #[.slice a l.length cap] w fun e w' => e = .returned (.int .i64 (weight l)) ∧ w = w' := by
  have hlen := hr.len
  obtain ⟨hl, hn⟩ := hm
  go_enter Try.func113, Try.ntmps113
  go_wp2
  go_loop [3, 4] (fun t i => ∃ k : Nat, k ≤ l.length ∧ i = .int .i64 k ∧ t = .int .i64 (weight (l.take k))) (fun _ i => l.length - (intOf i).toNat)
  case atStart => exact ⟨0, Nat.zero_le _, rfl, rfl⟩
  case round =>
    obtain ⟨k, hk, rfl, rfl⟩ := hrel
    by_cases hlt : k < l.length
    · obtain ⟨b, off, rfl, hb, hck⟩ := hr.at hlt
      clear hr
      have hx := hl _ (List.getElem_mem hlt)
      have H := Lib.hid (weight_succ l k hlt)
      have hw : weight (l.take k) ≤ 512 * 2 ^ 20 := weight_take_le l k hn
      clear hl
      generalize l[k] = x at *
      generalize weight (l.take k) = s at *
      by_cases h0 : x = 0
      · subst h0
        go_wp2
        go_round
        case rel => exact ⟨k + 1, by omega, by go_num, int_eq (by rw [H.out]; simp [wt])⟩
        case measure => simp [intOf]; omega
      · have hx0 : 0 < x := by omega
        clear h0
        go_wp2
        go_loop [5, 6] (fun p j => ∃ m : Nat, m ≤ x ∧ j = .int .i64 m ∧ p = .int .i64 ((2 ^ (20 - m) : Nat) : Int)) (fun _ j => x - (intOf j).toNat)
        case atStart => exact ⟨0, Nat.zero_le _, rfl, by simp⟩
        case round =>
          obtain ⟨m, hm, rfl, rfl⟩ := hrel
          have hp : 2 ^ (20 - m) ≤ 2 ^ 20 := Nat.pow_le_pow_right (by simp) (by omega)
          by_cases hmx : m < x
          · have HP := Lib.hid (pow_half m x hmx hx)
            generalize (2 : Nat) ^ (20 - m) = p at *
            go_wp2
            go_round
            case rel => exact ⟨m + 1, by omega, by go_num, int_eq (by rw [← HP.out]; omega)⟩
            case measure => simp [intOf]; omega
          · obtain rfl : m = x := by omega
            have HW : Hid (wt m = 2 ^ (20 - m)) := by rw [Hid, wt, if_neg (by omega)]
            generalize (2 : Nat) ^ (20 - m) = p at *
            go_wp2
            go_round
            case rel => exact ⟨k + 1, by omega, by go_num, int_eq (by rw [H.out, HW.out]; simp)⟩
            case measure => simp [intOf]; omega
    · go_wp2
      go_ret
      exact ⟨ret_int (by rw [List.take_of_length_le (by omega)]), rfl⟩

set_option maxHeartbeats 400000 in
theorem ref04_classify (a : Option Addr) (cap : Nat) (l : List Nat) (w : World) (hr : RowN .u8 w a cap l) :
    Calls Try.prog 79 #[.slice a l.length cap] w fun e w' => e = .returned (.tuple #[.int .u8 (clsE l).1, .int .i64 (clsE l).2]) ∧ w = w' := by
  have hlen := hr.len
  by_cases hm : May l
  · have hB : mayB l = true := by simp [mayB, hm]
    have H : Hid (clsE l = (cls l, 0)) := by simp [Hid, clsE, hm]
    have H2 : Hid (cls l = if weight l = 0 then 0 else if weight l < 2 ^ 20 then 1 else if weight l = 2 ^ 20 then 2 else 3) := rfl
    have hw : weight l ≤ 512 * 2 ^ 20 := by have := weight_take_le l l.length hm.2; simpa using this
    have HM := Lib.hid hm
    clear hm
    rcases (by omega : weight l = 0 ∨ (weight l ≠ 0 ∧ weight l < 2 ^ 20) ∨ weight l = 2 ^ 20 ∨ 2 ^ 20 < weight l) with c | ⟨c, d⟩ | c | c
    · have H3 : Hid (cls l = 0) := by rw [Hid, H2.out, if_pos c]
      have b0 : ((weight l : Int) == 0) = true := by simp <;> omega
      clear c
      go_enter Try.func79, Try.ntmps79
      go_wp2_with (first | (go_at_call 112; refine (ref04_may _ _ _ _ hr).mono ?_; rintro e w' ⟨rfl, rfl⟩) | (go_at_call 113; refine (ref04_weight _ _ _ _ hr HM.out).mono ?_; rintro e w' ⟨rfl, rfl⟩))
      go_ret2
      exact ⟨by rw [H.out, H3.out]; rfl, rfl⟩
    · have H3 : Hid (cls l = 1) := by rw [Hid, H2.out, if_neg c, if_pos d]
      have b0 : ((weight l : Int) == 0) = false := by simp <;> omega
      have b1 : decide ((weight l : Int) < 1048576) = true := by simp <;> omega
      clear c
      go_enter Try.func79, Try.ntmps79
      go_wp2_with (first | (go_at_call 112; refine (ref04_may _ _ _ _ hr).mono ?_; rintro e w' ⟨rfl, rfl⟩) | (go_at_call 113; refine (ref04_weight _ _ _ _ hr HM.out).mono ?_; rintro e w' ⟨rfl, rfl⟩))
      go_ret2
      exact ⟨by rw [H.out, H3.out]; rfl, rfl⟩
    · have H3 : Hid (cls l = 2) := by rw [Hid, H2.out, if_neg (by omega), if_neg (by omega), if_pos c]
      have b0 : ((weight l : Int) == 0) = false := by simp <;> omega
      have b1 : decide ((weight l : Int) < 1048576) = false := by simp <;> omega
      have b2 : decide (1048576 < (weight l : Int)) = false := by simp <;> omega
      clear c
      go_enter Try.func79, Try.ntmps79
      go_wp2_with (first | (go_at_call 112; refine (ref04_may _ _ _ _ hr).mono ?_; rintro e w' ⟨rfl, rfl⟩) | (go_at_call 113; refine (ref04_weight _ _ _ _ hr HM.out).mono ?_; rintro e w' ⟨rfl, rfl⟩))
      go_ret2
      exact ⟨by rw [H.out, H3.out]; rfl, rfl⟩
    · have H3 : Hid (cls l = 3) := by rw [Hid, H2.out, if_neg (by omega), if_neg (by omega), if_neg (by omega)]
      have b0 : ((weight l : Int) == 0) = false := by simp <;> omega
      have b1 : decide ((weight l : Int) < 1048576) = false := by simp <;> omega
      have b2 : decide (1048576 < (weight l : Int)) = true := by simp <;> omega
      clear c
      go_enter Try.func79, Try.ntmps79
      go_wp2_with (first | (go_at_call 112; refine (ref04_may _ _ _ _ hr).mono ?_; rintro e w' ⟨rfl, rfl⟩) | (go_at_call 113; refine (ref04_weight _ _ _ _ hr HM.out).mono ?_; rintro e w' ⟨rfl, rfl⟩))
      go_ret2
      exact ⟨by rw [H.out, H3.out]; rfl, rfl⟩
  · have hB : mayB l = false := by simp [mayB, hm]
    have H : Hid (clsE l = (0, 5)) := by simp [Hid, clsE, hm]
    clear hm
    go_enter Try.func79, Try.ntmps79
    go_wp2_with (go_at_call 112; refine (ref04_may _ _ _ _ hr).mono ?_; rintro e w' ⟨rfl, rfl⟩)
    go_ret2
    exact ⟨by rw [H.out]; rfl, rfl⟩

/-- a pair of a new slice of words and an error -/
def WordsOut (w : World) (l : List Nat) (e : Ending) (w' : World) : Prop :=
  ∃ a cap, e = .returned (.tuple #[.slice a (wordsE l).1.length cap, .int .i64 (wordsE l).2]) ∧ OwnN 27 .u32 w' w.heap.size a cap (wordsE l).1 ∧ Below w.heap.size w w'

set_option maxHeartbeats 400000 in
theorem ref04_words (a : Option Addr) (cap : Nat) (l : List Nat) (w : World) (hr : RowN .u8 w a cap l) :
    Calls Try.prog 81 #[.slice a l.length cap] w (WordsOut w l) := by
  have hlen := hr.len
  by_cases hm : May l
  case neg =>
    have hB : mayB l = false := by simp [mayB, hm]
    have H : Hid (wordsE l = ([], 5)) := by simp [Hid, wordsE, hm]
    clear hm
    go_enter Try.func81, Try.ntmps81
    go_wp2_with (go_at_call 112; refine (ref04_may _ _ _ _ hr).mono ?_; rintro e w' ⟨rfl, rfl⟩)
    go_ret2
    unfold WordsOut
    rw [H.out]
    exact ⟨none, 0, rfl, OwnN.nil _ _ _ _, Below.refl _ _⟩
  have hB : mayB l = true := by simp [mayB, hm]
  have hw : weight l ≤ 512 * 2 ^ 20 := by have := weight_take_le l l.length hm.2; simpa using this
  by_cases ho : 2 ^ 20 < weight l
  · have b1 : decide (1048576 < (weight l : Int)) = true := by simp; omega
    have H : Hid (wordsE l = ([], 2)) := by simp only [Hid, wordsE, hm, ho, not_true, if_false, if_true]
    have HM := Lib.hid hm
    clear hm ho
    go_enter Try.func81, Try.ntmps81
    go_wp2_with (first | (go_at_call 112; refine (ref04_may _ _ _ _ hr).mono ?_; rintro e w' ⟨rfl, rfl⟩) | (go_at_call 113; refine (ref04_weight _ _ _ _ hr HM.out).mono ?_; rintro e w' ⟨rfl, rfl⟩))
    go_ret2
    unfold WordsOut
    rw [H.out]
    exact ⟨none, 0, rfl, OwnN.nil _ _ _ _, Below.refl _ _⟩
  · have b1 : decide (1048576 < (weight l : Int)) = false := by simp; omega
    have H : Hid (wordsE l = (words l, 0)) := by simp only [Hid, wordsE, hm, ho, not_true, if_false]
    have HM := Lib.hid hm
    have h512 : l.length ≤ 512 := hm.2
    have HO : weight l ≤ 2 ^ 20 := by omega
    clear hm ho
    go_enter Try.func81, Try.ntmps81
    go_wp2_with (first | (go_at_call 112; refine (ref04_may _ _ _ _ hr).mono ?_; rintro e w' ⟨rfl, rfl⟩) | (go_at_call 113; refine (ref04_weight _ _ _ _ hr HM.out).mono ?_; rintro e w' ⟨rfl, rfl⟩) | (at_make; refine makeN et_u32 rfl _ _ rfl w.heap.size rfl rfl (by omega) (by omega) (Nat.le_refl _) ?_; intro w1 hown hg))
    go_loopw [5, 6] (fun at_ n wr => ∃ k : Nat, 1 ≤ k ∧ k ≤ 21 ∧ n = .int .i64 k ∧ at_ = .int .u32 (acc l k 0) ∧ OwnN 27 .u32 wr w.heap.size (some ⟨w.heap.size, 0, none⟩) l.length (outs l k 0) ∧ Below w.heap.size w wr) (fun _ n _ => 21 - (intOf n).toNat)
    case atStart => exact ⟨1, by omega, by omega, rfl, by rw [acc_one]; rfl, by rw [outs_one]; exact hown, (Below.refl _ _).grown hg (Nat.le_refl _) (fun k h => by cases h)⟩
    case round =>
      obtain ⟨n, h1, h21, rfl, rfl, hown, hbel⟩ := hrel
      clear hg
      by_cases hn : n ≤ 20
      · go_wp2
        go_loopw [5, 7] (fun at_ i wr => ∃ k : Nat, k ≤ l.length ∧ i = .int .i64 k ∧ at_ = .int .u32 (acc l n k) ∧ OwnN 27 .u32 wr w.heap.size (some ⟨w.heap.size, 0, none⟩) l.length (outs l n k) ∧ Below w.heap.size w wr) (fun _ i _ => l.length - (intOf i).toNat)
        case atStart => exact ⟨0, by omega, rfl, rfl, hown, hbel⟩
        case round =>
          clear hown hbel
          obtain ⟨k, hk, rfl, rfl, hown, hbel⟩ := hrel
          by_cases hlt : k < l.length
          · obtain ⟨b, off, rfl, hb, hck⟩ := (hr.below hbel).at hlt
            obtain ⟨g, he, hg1, hg2, hog, hof⟩ := hown.at (i := k) (by rw [outs_length]; exact hlt)
            simp only [Option.some.injEq, Addr.mk.injEq, and_true] at he
            subst he
            have hx20 := HM.out.1 _ (List.getElem_mem hlt)
            have hal : acc l n k ≤ 2 ^ 20 := Nat.le_trans (acc_le _ _ _) HO
            by_cases hx : l[k] = n
            · have HA := Lib.hid (acc_hit l n k (by omega) hlt hx)
              have HU := Lib.hid (outs_hit l n k (by omega) hlt hx)
              have hb2 : l[k] ≤ n := by omega
              have hb3 : n ≤ l[k] := by omega
              clear hx
              generalize l[k] = x at *
              generalize acc l n k = s at *
              go_wp2
              go_roundw
              case rel =>
                have hp : 2 ^ (20 - n) ≤ 2 ^ 20 := Nat.pow_le_pow_right (by simp) (by omega)
                refine ⟨k + 1, by omega, by go_num, int_eq ?_, ?_, hbel.setCell (p := ⟨w.heap.size, k, none⟩) (Nat.le_refl _) _⟩
                · rw [HA.out]
                  have h2 : (2 : Int) ^ (20 - n) = ((2 ^ (20 - n) : Nat) : Int) := by simp
                  rw [h2]
                  generalize (2 : Nat) ^ (20 - n) = p at *
                  omega
                · rw [HU.out]
                  have := (hown.stored k (s / 2 ^ (20 - n))).1
                  simpa using this
              case measure => simp [intOf]; omega
            · have HA := Lib.hid (acc_miss l n k hlt hx)
              have HU := Lib.hid (outs_miss l n k hlt hx)
              generalize l[k] = x at *
              generalize acc l n k = s at *
              go_wp2
              go_roundw
              case rel => exact ⟨k + 1, by omega, by go_num, by rw [HA.out], by rw [HU.out]; exact hown, hbel⟩
              case measure => simp [intOf]; omega
          · obtain rfl : k = l.length := by omega
            have HA := Lib.hid (acc_row l n)
            have HU := Lib.hid (outs_row l n)
            go_wp2
            go_roundw
            case rel => exact ⟨n + 1, by omega, by omega, by go_num, by rw [HA.out], by rw [← HU.out]; exact hown, hbel⟩
            case measure => simp [intOf]; omega
      · obtain rfl : n = 21 := by omega
        go_wp2
        go_ret2
        unfold WordsOut
        rw [H.out]
        have h3 := outs_end l HM.out.1
        refine ⟨some ⟨w.heap.size, 0, none⟩, l.length, ?_, by rw [← h3]; exact hown, hbel⟩
        simp [words_length]
end Go.Proofs.Ytmgoeokdlklabaa
