/- layer 10's laws: the fixed codes' lengths: contract. -/
import Derived.Test.YtlofoocgiomfbaaPart
import Derived.Test.YtlofoocgiomfbaaFixed
namespace Go.Proofs.Ytlofoocgiomfbaa
open Go.RowKit Go.Shelf
set_option linter.unusedVariables false

theorem fix_start10 {w w1 w2 : World} (h1 : OwnN 5 .u8 w1 w.heap.size (some ⟨w.heap.size, 0, none⟩) 288 (List.replicate 288 0)) (g1 : w.grownBy w1 none) (h2 : OwnN 5 .u8 w2 w1.heap.size (some ⟨w1.heap.size, 0, none⟩) 32 (List.replicate 32 0)) (g2 : w1.grownBy w2 none) :
    w.heap.size < w1.heap.size ∧ Hid (OwnN 5 .u8 w2 w.heap.size (some ⟨w.heap.size, 0, none⟩) 288 (partL fixN 288 0)) ∧ Hid (OwnN 5 .u8 w2 w.heap.size (some ⟨w1.heap.size, 0, none⟩) 32 (partL (fun _ => 5) 32 0)) ∧ Hid (Below w.heap.size w w2) := by
  have hB1 : Below w.heap.size w w1 := Below.of_grown g1 (Nat.le_refl _) (fun k e => by cases e)
  have hB2 : Below w1.heap.size w1 w2 := Below.of_grown g2 (Nat.le_refl _) (fun k e => by cases e)
  have o1 := h1.below hB2
  have hz1 : w.heap.size < w1.heap.size := by
    obtain ⟨g, he, _, hlt⟩ := (h1.form).resolve_left (by intro h; cases h.1)
    simp only [Option.some.injEq, Addr.mk.injEq, and_true] at he
    omega
  rw [partL_zero, partL_zero]
  exact ⟨hz1, o1, h2.mono (by omega), hB1.trans (hB2.mono hB1.size)⟩

set_option maxRecDepth 100000 in
set_option maxHeartbeats 1600000 in
theorem law10_fixed (w : World) :
    Calls Try.prog 22 #[] w fun e w' => ∃ g1 g2, e = .returned (.tuple #[.slice (some ⟨g1, 0, none⟩) 288 288, .slice (some ⟨g2, 0, none⟩) 32 32]) ∧ RowN .u8 w' (some ⟨g1, 0, none⟩) 288 (partL fixN 288 288) ∧ RowN .u8 w' (some ⟨g2, 0, none⟩) 32 (partL (fun _ => 5) 32 32) ∧ Below w.heap.size w w' := by
  go_enter Try.func22, Try.ntmps22
  go_wp2_with (first | (at_make; refine makeN (n := 288) et_u8 rfl _ _ rfl w.heap.size rfl rfl (by decide) (by decide) (Nat.le_refl _) ?_; intro w1 hown1 hg1) | (at_make; refine makeN (n := 32) et_u8 rfl _ _ rfl w1.heap.size rfl rfl (by decide) (by decide) (Nat.le_refl _) ?_; intro w2 hown2 hg2; obtain ⟨hz1, HO1, HO2, HB⟩ := fix_start10 hown1 hg1 hown2 hg2; clear hown1 hg1 hown2 hg2))
  obtain ⟨g1, hg1⟩ : ∃ g1, w.heap.size = g1 := ⟨_, rfl⟩
  obtain ⟨g2, hg2⟩ : ∃ g2, w1.heap.size = g2 := ⟨_, rfl⟩
  rw [hg1] at HO1
  rw [hg1, hg2] at HO2 hz1
  simp only [hg1, hg2]
  have HG1 := Lib.hid hg1
  clear hg1 hg2
  go_loopw [4] (fun i A => ∃ k : Nat, k ≤ 288 ∧ i = .int .i64 k ∧ OwnN 5 .u8 A g1 (some ⟨g1, 0, none⟩) 288 (partL fixN 288 k) ∧ OwnN 5 .u8 A g1 (some ⟨g2, 0, none⟩) 32 (partL (fun _ => 5) 32 0) ∧ Below w.heap.size w A) (fun i _ => 288 - (intOf i).toNat)
  case atStart => exact ⟨0, by omega, rfl, HO1.out, HO2.out, HB.out⟩
  case round =>
    clear HO1 HO2 HB
    obtain ⟨k, hk, rfl, ho1, ho2, hb⟩ := hrel
    have HO2 := Lib.hid ho2
    have HB := Lib.hid hb
    have HBW := Lib.hid (show ∀ (A : World) v, Below w.heap.size w A → Below w.heap.size w (A.setCell ⟨g1, k, none⟩ v) from fun A v h => h.setCell (by show w.heap.size ≤ g1; have := HG1.out; omega) _)
    have HN2 := Lib.hid (show ∀ (A : World) v, OwnN 5 .u8 A g1 (some ⟨g2, 0, none⟩) 32 (partL (fun _ => 5) 32 0) → OwnN 5 .u8 (A.setCell ⟨g1, k, none⟩ v) g1 (some ⟨g2, 0, none⟩) 32 (partL (fun _ => 5) 32 0) from fun A v h => OwnN.other h (fun x hx => by cases hx; show g1 ≠ g2; omega) _)
    clear ho2 hb
    by_cases hlt : k < 288
    · obtain ⟨⟨v, f1⟩, f2⟩ := part_at ho1 k hlt
      have b0 : decide ((k : Int) < 288) = true := by simp; omega
      have HO1 := Lib.hid ho1
      clear ho1
      rcases (show k < 144 ∨ (144 ≤ k ∧ k < 256) ∨ (256 ≤ k ∧ k < 280) ∨ 280 ≤ k by omega) with hc | hc | hc | hc
      · skip
        have hf : fixN k = 8 := by
          unfold fixN
          repeat' split
          all_goals omega
        have H1 := Lib.hid (part_put HO1.out hlt)
        rw [hf] at H1
        have b1 : decide ((k : Int) < 144) = true := by simp; omega
        clear hf hc HO1
        go_wp2
        go_roundw
        case rel => exact ⟨k + 1, by omega, by go_num, H1.out, HN2.out _ _ HO2.out, HBW.out _ _ HB.out⟩
        case measure => simp [intOf]; omega
      · skip
        have hf : fixN k = 9 := by
          unfold fixN
          repeat' split
          all_goals omega
        have H1 := Lib.hid (part_put HO1.out hlt)
        rw [hf] at H1
        have b1 : decide ((k : Int) < 144) = false := by simp; omega
        have b2 : decide (279 < (k : Int)) = false := by simp; omega
        have b3 : decide ((k : Int) < 256) = true := by simp; omega
        clear hf hc HO1
        go_wp2
        go_roundw
        case rel => exact ⟨k + 1, by omega, by go_num, H1.out, HN2.out _ _ HO2.out, HBW.out _ _ HB.out⟩
        case measure => simp [intOf]; omega
      · skip
        have hf : fixN k = 7 := by
          unfold fixN
          repeat' split
          all_goals omega
        have H1 := Lib.hid (part_put HO1.out hlt)
        rw [hf] at H1
        have b1 : decide ((k : Int) < 144) = false := by simp; omega
        have b2 : decide (279 < (k : Int)) = false := by simp; omega
        have b3 : decide ((k : Int) < 256) = false := by simp; omega
        clear hf hc HO1
        go_wp2
        go_roundw
        case rel => exact ⟨k + 1, by omega, by go_num, H1.out, HN2.out _ _ HO2.out, HBW.out _ _ HB.out⟩
        case measure => simp [intOf]; omega
      · skip
        have hf : fixN k = 8 := by
          unfold fixN
          repeat' split
          all_goals omega
        have H1 := Lib.hid (part_put HO1.out hlt)
        rw [hf] at H1
        have b1 : decide ((k : Int) < 144) = false := by simp; omega
        have b2 : decide (279 < (k : Int)) = true := by simp; omega
        clear hf hc HO1
        go_wp2
        go_roundw
        case rel => exact ⟨k + 1, by omega, by go_num, H1.out, HN2.out _ _ HO2.out, HBW.out _ _ HB.out⟩
        case measure => simp [intOf]; omega
    · obtain rfl : k = 288 := by omega
      have HO1 := Lib.hid ho1
      clear ho1 HBW HN2
      go_wp2_with fail
      go_loopw [5] (fun i A => ∃ k : Nat, k ≤ 32 ∧ i = .int .i64 k ∧ OwnN 5 .u8 A g1 (some ⟨g1, 0, none⟩) 288 (partL fixN 288 288) ∧ OwnN 5 .u8 A g1 (some ⟨g2, 0, none⟩) 32 (partL (fun _ => 5) 32 k) ∧ Below w.heap.size w A) (fun i _ => 32 - (intOf i).toNat)
      case atStart => exact ⟨0, by omega, rfl, HO1.out, HO2.out, HB.out⟩
      case round =>
        clear HO1 HO2 HB
        obtain ⟨k, hk, rfl, ho1, ho2, hb⟩ := hrel
        have HB := Lib.hid hb
        have HO1 := Lib.hid ho1
        clear hb ho1
        by_cases hlt : k < 32
        · obtain ⟨⟨v, f1⟩, f2⟩ := part_at ho2 k hlt
          have H2 := Lib.hid (part_put ho2 hlt)
          have H1 := Lib.hid (show ∀ v, OwnN 5 .u8 (wr.setCell ⟨g2, k, none⟩ v) g1 (some ⟨g1, 0, none⟩) 288 (partL fixN 288 288) from fun v => OwnN.other HO1.out (fun x hx => by cases hx; show g2 ≠ g1; omega) _)
          have H3 := Lib.hid (show ∀ v, Below w.heap.size w (wr.setCell ⟨g2, k, none⟩ v) from fun v => HB.out.setCell (by show w.heap.size ≤ g2; have := HG1.out; omega) _)
          clear ho2
          go_wp2
          go_roundw
          case rel => exact ⟨k + 1, by omega, by go_num, H1.out _, H2.out, H3.out _⟩
          case measure => simp [intOf]; omega
        · obtain rfl : k = 32 := by omega
          have HO2 := Lib.hid ho2.row
          clear ho2
          go_wp2
          go_ret2
          exact ⟨g1, g2, rfl, HO1.out.row, HO2.out, HB.out⟩
theorem fix10F : partL fixN 288 288 = fixF := by decide +kernel
theorem fix10D : partL (fun _ => 5) 32 32 = fixD := by decide +kernel
end Go.Proofs.Ytlofoocgiomfbaa
