/- KraftOne: the law's walk. -/
import Derived.Test.YtfpoannjeplhgaaClasses
import Derived.Test.YtfpoannjeplhgaaOpen
namespace Go.Proofs.Ytfpoannjeplhgaa
open Go.RowKit M04
set_option linter.unusedVariables false

def longer (l : List Nat) : List Nat := l.map fun k => if 0 < k then k + 1 else k
theorem longer_snoc (l : List Nat) (k : Nat) (h : k < l.length) : longer (l.take (k + 1)) = longer (l.take k) ++ [if 0 < l[k] then l[k] + 1 else l[k]] := by
  rw [take_snoc l k h]; simp only [longer, List.map_append, List.map_cons, List.map_nil]
theorem wt_half (k : Nat) (h : k ≤ 19) : 2 * wt (if 0 < k then k + 1 else k) = wt k := by
  unfold wt
  by_cases h0 : 0 < k
  · rw [if_pos h0, if_neg (by omega), if_neg (by omega)]
    have : 20 - k = (20 - (k + 1)) + 1 := by omega
    rw [this, Nat.pow_succ]; omega
  · obtain rfl : k = 0 := by omega
    rfl
theorem weight_longer (l : List Nat) (h : ∀ x ∈ l, x ≤ 19) : 2 * weight (longer l) = weight l := by
  induction l with
  | nil => rfl
  | cons a l ih =>
    have h1 := wt_half a (h a (by simp))
    have h2 := ih fun x hx => h x (by simp [hx])
    simp only [weight, longer, List.map_cons, List.sum_cons] at *
    omega
theorem weight_plus (l : List Nat) (x : Nat) : weight (l ++ [x]) = weight l + wt x := by
  simp only [weight, List.map_append, List.sum_append, List.map_cons, List.map_nil, List.sum_cons, List.sum_nil]; omega
theorem wt_pos (x : Nat) (h : x ≠ 0) : 0 < wt x := by
  unfold wt; rw [if_neg h]; exact Nat.pow_pos (by decide)
theorem cls_cases (l : List Nat) : (weight l = 0 ∧ cls l = 0) ∨ (weight l ≠ 0 ∧ weight l < 1048576 ∧ cls l = 1) ∨ (weight l = 1048576 ∧ cls l = 2) ∨ (1048576 < weight l ∧ cls l = 3) := by
  unfold cls
  have : (2 : Nat) ^ 20 = 1048576 := rfl
  rw [this]
  split
  · exact .inl ⟨by assumption, rfl⟩
  · split
    · exact .inr (.inl ⟨by assumption, by assumption, rfl⟩)
    · split
      · exact .inr (.inr (.inl ⟨by assumption, rfl⟩))
      · exact .inr (.inr (.inr ⟨by omega, rfl⟩))
def OneRel (A B C : Nat) : Prop := (A = 0 ∧ C = 0 ∧ (B = 1 ∨ B = 2 ∨ B = 3)) ∨ (A = 1 ∧ C = 1 ∧ (B = 1 ∨ B = 2 ∨ B = 3)) ∨ (A = 2 ∧ B = 3 ∧ C = 1) ∨ (A = 3 ∧ B = 3 ∧ (C = 1 ∨ C = 2 ∨ C = 3))
theorem one_rel (l : List Nat) (x : Nat) (hx : x ≠ 0) (h : ∀ x ∈ l, x ≤ 19) : OneRel (cls l) (cls (l ++ [x])) (cls (longer l)) := by
  have h1 := cls_cases l
  have h2 := cls_cases (l ++ [x])
  have h3 := cls_cases (longer l)
  have h4 := weight_longer l h
  have h5 := weight_plus l x
  have h6 := wt_pos x hx
  unfold OneRel
  omega

set_option maxRecDepth 100000 in
set_option maxHeartbeats 1600000 in
theorem law_one (a : Option Addr) (cap : Nat) (l : List Nat) (n : Nat) (w : World) (hr : RowN .u8 w a cap l) (hn : n < 256) :
    Calls Try.prog 7 #[.slice a l.length cap, .int .u8 n] w (RetTrue w) := by
  have hlen := hr.len
  by_cases h6 : 200 < l.length
  · go_enter Try.func7, Try.ntmps7
    go_wp2
    go_ret
    exact ⟨rfl, Below.refl _ _⟩
  by_cases hM : May l
  case neg =>
    have HC : clsE l = (0, 5) := by simp [clsE, hM]
    clear hM
    go_enter Try.func7, Try.ntmps7
    go_wp2_with (first | (go_at_call 9; refine (kraft_classify _ _ _ _ hr).mono ?_; rintro e w' ⟨rfl, rfl⟩; rw [HC]) | (go_at_call 12; refine (law04_classes _).mono ?_; rintro e w4 ⟨rfl, hw4⟩))
    go_ret
    exact ⟨rfl, hw4⟩
  have HC : Hid (clsE l = (cls l, 0)) := by simp [Hid, clsE, hM]
  have hx1 : 1 + n % 20 ≤ 20 := by omega
  have HCP : Hid (clsE (l ++ [1 + n % 20]) = (cls (l ++ [1 + n % 20]), 0)) := by
    have : May (l ++ [1 + n % 20]) := ⟨fun x hx => by
      rcases List.mem_append.1 hx with hx | hx
      · exact hM.1 x hx
      · simp at hx; omega, by have := hM.2; simp; omega⟩
    simp only [Hid, clsE, this, if_true]
  have HM := Lib.hid hM
  clear hM
  go_enter Try.func7, Try.ntmps7
  go_wp2_with fail
  refine (kraft_classify _ _ l _ hr).mono ?_
  rintro e w1 ⟨rfl, rfl⟩
  rw [HC.out]
  have HY : Hid ((1 : Int) + (n : Int) % 20 = ((1 + n % 20 : Nat) : Int)) := by unfold Hid; omega
  go_wp2_with (first | (at_builtin; refine appAnyN et_u8 rfl (.tmp 26) (.tmp 27) rfl (a := some ⟨w.heap.size, 0, none⟩) (cap := 0) (l := []) (ys := l) (base := w.heap.size) rfl (OwnN.lit0 _ _ _ _ (Nat.le_refl _)) rfl rfl (hr.below ((Below.refl _ _).alloc (Nat.le_refl _) _)) (by simp; omega) (by simp; omega) (by simp) ?_; intro a1 cap1 w1 hown1 hg1 hb1; simp only [List.nil_append] at hown1; replace hb1 := ((Below.refl w.heap.size w).alloc (Nat.le_refl _) _).trans hb1) | (at_builtin; simp only [HY.out]; refine app1N et_u8 rfl (.tmp 28) (.tmp 32) rfl rfl hown1 rfl (Nat.le_refl _) (by omega) (by omega) (by omega) hb1.size ?_; intro a2 cap2 w2 hown2 hg2 hb2))
  have hr2 := hown2.row
  have hB2 := hb1.trans hb2
  have hlen2 : l.length + 1 = (l ++ [1 + n % 20]).length := by simp
  clear hown1 hown2 hg1 hg2 hb1 hb2 HY
  rw [hlen2]
  refine (kraft_classify _ _ (l ++ [1 + n % 20]) _ hr2).mono ?_
  rintro e w3 ⟨rfl, rfl⟩
  rw [HCP.out]
  clear HCP HC hlen2
  go_wp2
  generalize hcp : cls (l ++ [1 + n % 20]) = B at *
  have HB := Lib.hid hcp
  clear hcp
  go_loopw [9, 10] (fun o i wr => ∃ (k : Nat) (b : Option Addr) (c : Nat), k ≤ l.length ∧ i = .int .i64 k ∧ o = .slice b (longer (l.take k)).length c ∧ OwnN 5 .u8 wr w.heap.size b c (longer (l.take k)) ∧ (∀ x ∈ l.take k, x ≤ 19) ∧ Below w.heap.size w wr) (fun _ i _ => l.length - (intOf i).toNat)
  case atStart => exact ⟨0, none, 0, by omega, rfl, rfl, OwnN.nil _ _ _ _, by simp, hB2⟩
  case round =>
    obtain ⟨k, b, c, hk, rfl, rfl, hown, h19, hbel⟩ := hrel
    have H19 := Lib.hid h19
    clear h19
    by_cases hlt : k < l.length
    · obtain ⟨b1, o1, rfl, hz1, hc1⟩ := (hr.below hbel).at hlt
      have HL := Lib.hid (longer_snoc l k hlt)
      have hln : (longer (l.take k)).length = k := by simp [longer]; omega
      have HT : Hid (l[k] ≤ 19 → ∀ x ∈ l.take (k + 1), x ≤ 19) := by
        intro h x hx
        rw [take_snoc l k hlt] at hx
        rcases List.mem_append.1 hx with hx | hx
        · exact H19.out x hx
        · simp at hx; omega
      have hx20 : l[k] ≤ 20 := HM.out.1 _ (List.getElem_mem hlt)
      clear hr hr2
      generalize l[k] = x at *
      generalize longer (l.take k) = o at *
      by_cases h0 : 0 < x
      · rw [if_pos h0] at HL
        by_cases h9 : x ≤ 19
        · have HY : Hid ((x : Int) + 1 = ((x + 1 : Nat) : Int)) := by unfold Hid; omega
          go_wp2_with (at_builtin; simp only [HY.out]; refine app1N et_u8 rfl (.tmp 54) (.tmp 56) rfl rfl hown rfl (Nat.le_refl _) (by omega) (by omega) (by omega) hbel.size ?_; intro a3 cap3 w3 hown3 hg3 hb3)
          go_roundw
          case rel => exact ⟨k + 1, a3, cap3, by omega, by go_num, by rw [HL.out]; simp; omega, by rw [HL.out]; exact hown3, HT.out h9, hbel.trans hb3⟩
          case measure => simp [intOf]; omega
        · go_wp2_with (go_at_call 12; refine (law04_classes _).mono ?_; rintro e w4 ⟨rfl, hw4⟩)
          go_ret
          exact ⟨rfl, hbel.trans (hw4.mono hbel.size)⟩
      · rw [if_neg h0] at HL
        go_wp2_with (at_builtin; refine app1N et_u8 rfl (.tmp 54) (.tmp 56) rfl rfl hown rfl (Nat.le_refl _) (by omega) (by omega) (by omega) hbel.size ?_; intro a3 cap3 w3 hown3 hg3 hb3)
        go_roundw
        case rel => exact ⟨k + 1, a3, cap3, by omega, by go_num, by rw [HL.out]; simp; omega, by rw [HL.out]; exact hown3, HT.out (by omega), hbel.trans hb3⟩
        case measure => simp [intOf]; omega
    · obtain rfl : k = l.length := by omega
      rw [List.take_length] at hown H19 ⊢
      have HR : Hid (OneRel (cls l) B (cls (longer l))) := by rw [← HB.out]; exact one_rel l _ (by omega) H19.out
      have HCL : Hid (clsE (longer l) = (cls (longer l), 0)) := by
        have : May (longer l) := ⟨fun x hx => by
          simp only [longer, List.mem_map] at hx
          obtain ⟨y, hy, rfl⟩ := hx
          have := H19.out y hy
          split <;> omega, by simp [longer]; omega⟩
        simp only [Hid, clsE, this, if_true]
      go_wp2_with fail
      refine (kraft_classify _ _ (longer l) _ hown.row).mono ?_
      rintro e w5 ⟨rfl, rfl⟩
      rw [HCL.out]
      clear HCL HB
      have hrel := HR.out
      clear HR H19 HM hown hr hr2
      generalize cls l = A at *
      generalize cls (longer l) = C at *
      unfold OneRel at hrel
      rcases hrel with ⟨rfl, rfl, (rfl | rfl | rfl)⟩ | ⟨rfl, rfl, (rfl | rfl | rfl)⟩ | ⟨rfl, rfl, rfl⟩ | ⟨rfl, rfl, (rfl | rfl | rfl)⟩
      all_goals
        go_wp2_with (go_at_call 12; refine (law04_classes _).mono ?_; rintro e w4 ⟨rfl, hw4⟩)
        go_ret
        exact ⟨rfl, hbel.trans (hw4.mono hbel.size)⟩
end Go.Proofs.Ytfpoannjeplhgaa
