/- The reference of layer 17: Fixed: contract. -/
import Derived.Test.YtlofoocgiomfbaaRSym
namespace Go.Proofs.Ytlofoocgiomfbaa
open Go.RowKit Go.Shelf M08 M17
set_option linter.unusedVariables false

def fixN (i : Nat) : Nat := if 143 < i ∧ i < 256 then 9 else if 255 < i ∧ i < 280 then 7 else 8
def partL (f : Nat → Nat) (n k : Nat) : List Nat := (List.range n).map fun i => if i < k then f i else 0
theorem partL_len (f : Nat → Nat) (n k : Nat) : (partL f n k).length = n := by simp [partL]
theorem partL_zero (f : Nat → Nat) (n : Nat) : partL f n 0 = List.replicate n 0 := by
  apply List.ext_getElem?
  intro i
  simp only [partL, List.getElem?_map, List.getElem?_replicate, Nat.not_lt_zero, if_false]
  by_cases h : i < n
  · simp [h]
  · simp [h]
theorem partL_succ (f : Nat → Nat) (n k : Nat) (hk : k < n) : (partL f n k).set k (f k) = partL f n (k + 1) := by
  apply List.ext_getElem?
  intro i
  rw [List.getElem?_set, partL_len]
  unfold partL
  by_cases he : k = i
  · subst he; rw [if_pos rfl, if_pos hk]; simp [hk]
  · rw [if_neg he]
    by_cases h : i < n
    · simp only [List.getElem?_map, List.getElem?_range h, Option.map_some, Option.some.injEq]
      by_cases h2 : i < k
      · rw [if_pos h2, if_pos (by omega)]
      · rw [if_neg h2, if_neg (by omega)]
    · simp [h]
theorem part_at {A : World} {base g n k : Nat} {f : Nat → Nat} (h : OwnN 5 .u8 A base (some ⟨g, 0, none⟩) n (partL f n k)) (s : Nat) (hs : s < n) : (∃ v, A.cell? ⟨g, s, none⟩ = some v) ∧ A.frozen? ⟨g, s, none⟩ = false := by
  obtain ⟨g', he, _, _, hc, hf⟩ := h.at (i := s) (by rw [partL_len]; exact hs)
  simp only [Option.some.injEq, Addr.mk.injEq, and_true] at he
  subst he
  exact ⟨⟨_, hc⟩, hf⟩
theorem part_put {A : World} {base g n k : Nat} {f : Nat → Nat} (h : OwnN 5 .u8 A base (some ⟨g, 0, none⟩) n (partL f n k)) (hk : k < n) : OwnN 5 .u8 (A.setCell ⟨g, k, none⟩ (.int .u8 (f k : Nat))) base (some ⟨g, 0, none⟩) n (partL f n (k + 1)) := by
  rw [← partL_succ f n k hk]
  exact (OwnN.stored h _ _).1
theorem part_put2 {A : World} {base g n k x : Nat} {f : Nat → Nat} (h : OwnN 5 .u8 A base (some ⟨g, 0, none⟩) n (partL f n k)) (hk : k < n) : OwnN 5 .u8 ((A.setCell ⟨g, k, none⟩ (.int .u8 (x : Nat))).setCell ⟨g, k, none⟩ (.int .u8 (f k : Nat))) base (some ⟨g, 0, none⟩) n (partL f n (k + 1)) := by
  rw [← partL_succ f n k hk]
  have := (OwnN.stored (OwnN.stored h k x).1 k (f k)).1
  rwa [List.set_set] at this
theorem fix_start {w w1 w2 : World} (h1 : OwnN 5 .u8 w1 w.heap.size (some ⟨w.heap.size, 0, none⟩) 286 (List.replicate 286 0)) (g1 : w.grownBy w1 none) (h2 : OwnN 5 .u8 w2 w1.heap.size (some ⟨w1.heap.size, 0, none⟩) 30 (List.replicate 30 0)) (g2 : w1.grownBy w2 none) :
    w.heap.size < w1.heap.size ∧ Hid (OwnN 5 .u8 w2 w.heap.size (some ⟨w.heap.size, 0, none⟩) 286 (partL fixN 286 0)) ∧ Hid (OwnN 5 .u8 w2 w.heap.size (some ⟨w1.heap.size, 0, none⟩) 30 (partL (fun _ => 5) 30 0)) ∧ Hid (Below w.heap.size w w2) := by
  have hB1 : Below w.heap.size w w1 := Below.of_grown g1 (Nat.le_refl _) (fun k e => by cases e)
  have hB2 : Below w1.heap.size w1 w2 := Below.of_grown g2 (Nat.le_refl _) (fun k e => by cases e)
  have o1 := h1.below hB2
  have hz1 : w.heap.size < w1.heap.size := by
    obtain ⟨g, he, _, hlt⟩ := (h1.form).resolve_left (by intro h; cases h.1)
    simp only [Option.some.injEq, Addr.mk.injEq, and_true] at he
    omega
  rw [partL_zero, partL_zero]
  exact ⟨hz1, o1, h2.mono (by omega), hB1.trans (hB2.mono hB1.size)⟩

def fixR : List Nat := partL fixN 286 286
def fixQ : List Nat := partL (fun _ => 5) 30 30
set_option maxRecDepth 100000 in
set_option maxHeartbeats 1600000 in
theorem ref17_fixed (w : World) :
    Calls Try.prog 14 #[] w fun e w' => ∃ g1 g2, e = .returned (.tuple #[.slice (some ⟨g1, 0, none⟩) 286 286, .slice (some ⟨g2, 0, none⟩) 30 30]) ∧ RowN .u8 w' (some ⟨g1, 0, none⟩) 286 fixR ∧ RowN .u8 w' (some ⟨g2, 0, none⟩) 30 fixQ ∧ Below w.heap.size w w' := by
  go_enter Try.func14, Try.ntmps14
  go_wp2_with (first | (at_make; refine makeN (n := 286) et_u8 rfl _ _ rfl w.heap.size rfl rfl (by decide) (by decide) (Nat.le_refl _) ?_; intro w1 hown1 hg1) | (at_make; refine makeN (n := 30) et_u8 rfl _ _ rfl w1.heap.size rfl rfl (by decide) (by decide) (Nat.le_refl _) ?_; intro w2 hown2 hg2; obtain ⟨hz1, HO1, HO2, HB⟩ := fix_start hown1 hg1 hown2 hg2; clear hown1 hg1 hown2 hg2))
  obtain ⟨g1, hg1⟩ : ∃ g1, w.heap.size = g1 := ⟨_, rfl⟩
  obtain ⟨g2, hg2⟩ : ∃ g2, w1.heap.size = g2 := ⟨_, rfl⟩
  rw [hg1] at HO1
  rw [hg1, hg2] at HO2 hz1
  simp only [hg1, hg2]
  have HG1 := Lib.hid hg1
  clear hg1 hg2
  go_loopw [4] (fun i A => ∃ k : Nat, k ≤ 286 ∧ i = .int .i64 k ∧ OwnN 5 .u8 A g1 (some ⟨g1, 0, none⟩) 286 (partL fixN 286 k) ∧ OwnN 5 .u8 A g1 (some ⟨g2, 0, none⟩) 30 (partL (fun _ => 5) 30 0) ∧ Below w.heap.size w A) (fun i _ => 286 - (intOf i).toNat)
  case atStart => exact ⟨0, by omega, rfl, HO1.out, HO2.out, HB.out⟩
  case round =>
    clear HO1 HO2 HB
    obtain ⟨k, hk, rfl, ho1, ho2, hb⟩ := hrel
    have HO2 := Lib.hid ho2
    have HB := Lib.hid hb
    have HBW := Lib.hid (show ∀ (A : World) v, Below w.heap.size w A → Below w.heap.size w (A.setCell ⟨g1, k, none⟩ v) from fun A v h => h.setCell (by show w.heap.size ≤ g1; have := HG1.out; omega) _)
    have HN2 := Lib.hid (show ∀ (A : World) v, OwnN 5 .u8 A g1 (some ⟨g2, 0, none⟩) 30 (partL (fun _ => 5) 30 0) → OwnN 5 .u8 (A.setCell ⟨g1, k, none⟩ v) g1 (some ⟨g2, 0, none⟩) 30 (partL (fun _ => 5) 30 0) from fun A v h => OwnN.other h (fun x hx => by cases hx; show g1 ≠ g2; omega) _)
    clear ho2 hb
    by_cases hlt : k < 286
    · obtain ⟨⟨v, f1⟩, f2⟩ := part_at ho1 k hlt
      have b0 : decide ((k : Int) < 286) = true := by simp; omega
      have HO1 := Lib.hid ho1
      clear ho1
      by_cases h1 : 143 < k ∧ k < 256
      · have hf : fixN k = 9 := by unfold fixN; rw [if_pos h1]
        have H1 := Lib.hid (part_put2 (x := 8) HO1.out hlt)
        rw [hf] at H1
        have b1 : decide (143 < (k : Int)) = true := by simp; omega
        have b2 : decide ((k : Int) < 256) = true := by simp; omega
        have b3 : decide (255 < (k : Int)) = false := by simp; omega
        clear hf
        go_wp2
        go_roundw
        case rel => exact ⟨k + 1, by omega, by go_num, H1.out, HN2.out _ _ (HN2.out _ _ HO2.out), HBW.out _ _ (HBW.out _ _ HB.out)⟩
        case measure => simp [intOf]; omega
      · by_cases h2 : 255 < k ∧ k < 280
        · have hf : fixN k = 7 := by unfold fixN; rw [if_neg h1, if_pos h2]
          have H1 := Lib.hid (part_put2 (x := 8) HO1.out hlt)
          rw [hf] at H1
          have b1 : decide (143 < (k : Int)) = true := by simp; omega
          have b2 : decide ((k : Int) < 256) = false := by simp; omega
          have b3 : decide (255 < (k : Int)) = true := by simp; omega
          have b4 : decide ((k : Int) < 280) = true := by simp; omega
          clear hf h1
          go_wp2
          go_roundw
          case rel => exact ⟨k + 1, by omega, by go_num, H1.out, HN2.out _ _ (HN2.out _ _ HO2.out), HBW.out _ _ (HBW.out _ _ HB.out)⟩
          case measure => simp [intOf]; omega
        · have hf : fixN k = 8 := by unfold fixN; rw [if_neg h1, if_neg h2]
          have H1 := Lib.hid (part_put HO1.out hlt)
          rw [hf] at H1
          by_cases h3 : 143 < k
          · have b1 : decide (143 < (k : Int)) = true := by simp; omega
            have b2 : decide ((k : Int) < 256) = false := by simp; omega
            have b3 : decide (255 < (k : Int)) = true := by simp; omega
            have b4 : decide ((k : Int) < 280) = false := by simp; omega
            clear hf h1 h2
            go_wp2
            go_roundw
            case rel => exact ⟨k + 1, by omega, by go_num, H1.out, HN2.out _ _ HO2.out, HBW.out _ _ HB.out⟩
            case measure => simp [intOf]; omega
          · have b1 : decide (143 < (k : Int)) = false := by simp; omega
            have b3 : decide (255 < (k : Int)) = false := by simp; omega
            clear hf h1 h2
            go_wp2
            go_roundw
            case rel => exact ⟨k + 1, by omega, by go_num, H1.out, HN2.out _ _ HO2.out, HBW.out _ _ HB.out⟩
            case measure => simp [intOf]; omega
    · obtain rfl : k = 286 := by omega
      have HO1 := Lib.hid ho1
      clear ho1 HBW HN2
      go_wp2_with fail
      go_loopw [5] (fun i A => ∃ k : Nat, k ≤ 30 ∧ i = .int .i64 k ∧ OwnN 5 .u8 A g1 (some ⟨g1, 0, none⟩) 286 (partL fixN 286 286) ∧ OwnN 5 .u8 A g1 (some ⟨g2, 0, none⟩) 30 (partL (fun _ => 5) 30 k) ∧ Below w.heap.size w A) (fun i _ => 30 - (intOf i).toNat)
      case atStart => exact ⟨0, by omega, rfl, HO1.out, HO2.out, HB.out⟩
      case round =>
        clear HO1 HO2 HB
        obtain ⟨k, hk, rfl, ho1, ho2, hb⟩ := hrel
        have HB := Lib.hid hb
        have HO1 := Lib.hid ho1
        clear hb ho1
        by_cases hlt : k < 30
        · obtain ⟨⟨v, f1⟩, f2⟩ := part_at ho2 k hlt
          have H2 := Lib.hid (part_put ho2 hlt)
          have H1 := Lib.hid (show ∀ v, OwnN 5 .u8 (wr.setCell ⟨g2, k, none⟩ v) g1 (some ⟨g1, 0, none⟩) 286 (partL fixN 286 286) from fun v => OwnN.other HO1.out (fun x hx => by cases hx; show g2 ≠ g1; omega) _)
          have H3 := Lib.hid (show ∀ v, Below w.heap.size w (wr.setCell ⟨g2, k, none⟩ v) from fun v => HB.out.setCell (by show w.heap.size ≤ g2; have := HG1.out; omega) _)
          clear ho2
          go_wp2
          go_roundw
          case rel => exact ⟨k + 1, by omega, by go_num, H1.out _, H2.out, H3.out _⟩
          case measure => simp [intOf]; omega
        · obtain rfl : k = 30 := by omega
          have HO2 := Lib.hid ho2.row
          clear ho2
          go_wp2
          go_ret2
          exact ⟨g1, g2, rfl, HO1.out.row, HO2.out, HB.out⟩
theorem fixR_len : fixR.length = 286 := partL_len _ _ _
theorem fixQ_len : fixQ.length = 30 := partL_len _ _ _
theorem fixR_le : ∀ x ∈ fixR, x ≤ 255 := by decide +kernel
theorem fixQ_le : ∀ x ∈ fixQ, x ≤ 255 := by decide +kernel
end Go.Proofs.Ytlofoocgiomfbaa
