/- The reference of layer 17 (Often, sum, Symbols, Fixed), and layer 8's May: contracts. -/
import Derived.Test.YtlofoocgiomfbaaRef08
import Derived.Test.YtlofoocgiomfbaaRef04
import Derived.Test.YtlofoocgiomfbaaStored
namespace Go.Proofs.Ytlofoocgiomfbaa
open Go.RowKit Go.Shelf M08 M17
set_option linter.unusedVariables false

theorem box_below2 (w : World) (o : Obj) : Below w.heap.size w (w.alloc o) := (Below.refl _ _).alloc (Nat.le_refl _) _
set_option maxHeartbeats 800000 in
theorem ref08_may (t : Tok) (w : World) :
    Calls Try.prog 53 #[tokV t] w fun e w' => e = .returned (.bool (decide (tokOk t))) ∧ Below w.heap.size w w' := by
  obtain ⟨L, D, b⟩ := t
  unfold tokV
  by_cases h0 : L = 0
  · by_cases h1 : D = 0
    · have H : Hid (decide (tokOk ⟨L, D, b⟩) = true) := by unfold Hid tokOk; simp [h0, h1]
      have b0 : (L == 0) = true := by simp [h0]
      have b1 : (D == 0) = true := by simp [h1]
      clear h0 h1
      go_enter Try.func53, Try.ntmps53
      go_wp2
      go_ret
      exact ⟨ret_bool H.out.symm, box_below2 _ _⟩
    · have H : Hid (decide (tokOk ⟨L, D, b⟩) = false) := by unfold Hid tokOk; simp [h0, h1]
      have b0 : (L == 0) = true := by simp [h0]
      have b1 : (D == 0) = false := by simp [h1]
      have b2 : decide (3 ≤ L) = false := by simp; omega
      clear h0 h1
      by_cases hb : b = 0
      · have b3 : ((b : Int) == 0) = true := by simp; omega
        clear hb
        go_enter Try.func53, Try.ntmps53
        go_wp2
        go_ret
        exact ⟨ret_bool H.out.symm, box_below2 _ _⟩
      · have b3 : ((b : Int) == 0) = false := by simp; omega
        clear hb
        go_enter Try.func53, Try.ntmps53
        go_wp2
        go_ret
        exact ⟨ret_bool H.out.symm, box_below2 _ _⟩
  · have H : Hid (tokOk ⟨L, D, b⟩ ↔ (b = 0 ∧ 3 ≤ L ∧ L ≤ 258 ∧ 1 ≤ D ∧ D ≤ 32768)) := by unfold Hid tokOk; simp [h0]
    have b0 : (L == 0) = false := by simp [h0]
    clear h0
    by_cases hb : b = 0
    case neg =>
      have b3 : ((b : Int) == 0) = false := by simp; omega
      have HH : Hid (decide (tokOk ⟨L, D, b⟩) = false) := by show decide _ = false; rw [decide_eq_false_iff_not, H.out]; exact fun h => hb h.1
      clear hb
      go_enter Try.func53, Try.ntmps53
      go_wp2
      go_ret
      exact ⟨ret_bool HH.out.symm, box_below2 _ _⟩
    have b3 : ((b : Int) == 0) = true := by simp; omega
    by_cases h3 : 3 ≤ L
    case neg =>
      have c3 : decide (3 ≤ L) = false := by simp; omega
      have HH : Hid (decide (tokOk ⟨L, D, b⟩) = false) := by show decide _ = false; rw [decide_eq_false_iff_not, H.out]; exact fun h => h3 h.2.1
      clear hb h3
      go_enter Try.func53, Try.ntmps53
      go_wp2
      go_ret
      exact ⟨ret_bool HH.out.symm, box_below2 _ _⟩
    have c3 : decide (3 ≤ L) = true := by simp; omega
    by_cases h4 : L ≤ 258
    case neg =>
      have c4 : decide (L ≤ 258) = false := by simp; omega
      have HH : Hid (decide (tokOk ⟨L, D, b⟩) = false) := by show decide _ = false; rw [decide_eq_false_iff_not, H.out]; exact fun h => h4 h.2.2.1
      clear hb h3 h4
      go_enter Try.func53, Try.ntmps53
      go_wp2
      go_ret
      exact ⟨ret_bool HH.out.symm, box_below2 _ _⟩
    have c4 : decide (L ≤ 258) = true := by simp; omega
    by_cases h5 : 1 ≤ D
    case neg =>
      have c5 : decide (1 ≤ D) = false := by simp; omega
      have HH : Hid (decide (tokOk ⟨L, D, b⟩) = false) := by show decide _ = false; rw [decide_eq_false_iff_not, H.out]; exact fun h => h5 h.2.2.2.1
      clear hb h3 h4 h5
      go_enter Try.func53, Try.ntmps53
      go_wp2
      go_ret
      exact ⟨ret_bool HH.out.symm, box_below2 _ _⟩
    have c5 : decide (1 ≤ D) = true := by simp; omega
    have HH : Hid (decide (tokOk ⟨L, D, b⟩) = decide (D ≤ 32768)) := by
      show decide _ = _
      rw [decide_eq_decide, H.out]
      exact ⟨fun h => h.2.2.2.2, fun h => ⟨hb, h3, h4, h5, h⟩⟩
    clear hb h3 h4 h5
    go_enter Try.func53, Try.ntmps53
    go_wp2
    go_ret
    exact ⟨ret_bool HH.out.symm, box_below2 _ _⟩

theorem sum_arith (s x y k M : Nat) (h1 : s ≤ k * M) (h2 : x * y ≤ M) (h3 : M ≤ 3000000) (hk : k + 1 ≤ 1000) (hy : y ≤ 255) : s + x * y ≤ (k + 1) * M ∧ wrap64 ((s : Int) + wrap64 ((x : Int) * wrap64 (y : Int))) = ((s + x * y : Nat) : Int) := by
  have h4 : (k + 1) * M ≤ 1000 * M := Nat.mul_le_mul_right M hk
  have h5 : (k + 1) * M = k * M + M := by rw [Nat.add_mul, Nat.one_mul]
  rw [h5] at h4
  rw [h5]
  have hxy : (x : Int) * (y : Int) = ((x * y : Nat) : Int) := by simp
  have hy : wrap64 (y : Int) = (y : Int) := IntWalk.wrap64_in _ (by omega)
  rw [hy, hxy]
  generalize x * y = z at *
  generalize k * M = km at *
  have hz : wrap64 (z : Int) = (z : Int) := IntWalk.wrap64_in _ (by omega)
  rw [hz, IntWalk.wrap64_in _ (by omega)]
  exact ⟨by omega, by simp⟩
def sumOut (c lens : List Nat) : Nat × Bool := match sumE c lens with | some n => (n, true) | none => (0, false)
set_option maxRecDepth 100000 in
set_option maxHeartbeats 1600000 in
theorem ref17_sum (a a2 : Option Addr) (cap cap2 : Nat) (c lens : List Nat) (w : World) (hr : RowN .i64 w a cap c) (hr2 : RowN .u8 w a2 cap2 lens) (hc : ∀ x ∈ c, x ≤ 10000) (hcl : c.length ≤ 1000) (hl : ∀ x ∈ lens, x ≤ 255) :
    Calls Try.prog 30 #[.slice a c.length cap, .slice a2 lens.length cap2] w fun e w' => e = .returned (.tuple #[.int .i64 ((sumOut c lens).1 : Nat), .bool (sumOut c lens).2]) ∧ Below w.heap.size w w' := by
  have HC := Lib.hid hc
  have HL := Lib.hid hl
  have hll := hr2.len
  obtain ⟨M, hM⟩ : ∃ M : Nat, Hid (10000 * 255 ≤ M ∧ M ≤ 3000000) := ⟨2550000, by unfold Hid; decide⟩
  clear hc hl
  go_enter Try.func30, Try.ntmps30
  go_wp2
  go_loopw [6, 7] (fun n i A => ∃ k : Nat, k ≤ c.length ∧ i = .int .i64 k ∧ n = .int .i64 (S (fun i => c.getD i 0 * lens.getD i 0) k : Nat) ∧ (∀ i, i < k → c.getD i 0 ≠ 0 → lens.getD i 0 ≠ 0) ∧ Hid (S (fun i => c.getD i 0 * lens.getD i 0) k ≤ k * M) ∧ Below w.heap.size w A) (fun _ i _ => c.length - (intOf i).toNat)
  case atStart => exact ⟨0, by omega, rfl, rfl, fun i hi => absurd hi (Nat.not_lt_zero i), (Nat.zero_le _), Below.refl _ _⟩
  case round =>
    obtain ⟨k, hk, rfl, rfl, hnz, hle, hbel⟩ := hrel
    have HNZ := Lib.hid hnz
    have hrA := hr.below hbel
    have hrA2 := hr2.below hbel
    have HB := Lib.hid hbel
    clear hnz hbel
    by_cases hlt : k < c.length
    · obtain ⟨b, off, rfl, hb, hck⟩ := hrA.at hlt
      have hg : c.getD k 0 = c[k] := by simp [hlt]
      have hcm := HC.out _ (List.getElem_mem hlt)
      by_cases hz : c[k] = 0
      · have HS : Hid (S (fun i => c.getD i 0 * lens.getD i 0) (k + 1) = S (fun i => c.getD i 0 * lens.getD i 0) k) := by
          show _ + c.getD k 0 * lens.getD k 0 = _; rw [hg, hz, Nat.zero_mul, Nat.add_zero]
        have HN : Hid (∀ i, i < k + 1 → c.getD i 0 ≠ 0 → lens.getD i 0 ≠ 0) := by
          intro i hi hci
          rcases Nat.lt_or_ge i k with h | h
          · exact HNZ.out i h hci
          · obtain rfl : i = k := by omega
            rw [hg] at hci; exact absurd hz hci
        rw [hz] at hck
        have hle2 : Hid (S (fun i => c.getD i 0 * lens.getD i 0) k ≤ (k + 1) * M) := by have := hle.out; unfold Hid; rw [Nat.add_mul]; omega
        clear hg hz hle hcm
        generalize S (fun i => c.getD i 0 * lens.getD i 0) k = s at *
        go_wp2
        go_roundw
        case rel => exact ⟨k + 1, by omega, by go_num, by rw [HS.out], HN.out, by rw [HS.out]; exact hle2, HB.out⟩
        case measure => simp [intOf]; omega
      · have b0 : ((c[k] : Int) == 0) = false := by simp; omega
        by_cases hkl : k < lens.length
        · obtain ⟨b2, off2, rfl, hb2, hck2⟩ := hrA2.at hkl
          have hg2 : lens.getD k 0 = lens[k] := by simp [hkl]
          have hlm := HL.out _ (List.getElem_mem hkl)
          have b1 : decide (lens.length ≤ k) = false := by simp; omega
          by_cases hz2 : lens[k] = 0
          · have HSN : Hid (sumOut c lens = (0, false)) := by
              unfold Hid sumOut sumE
              rw [if_neg]
              exact fun h => h k hlt (by rw [hg]; exact hz) (by rw [hg2]; exact hz2)
            rw [hz2] at hck2
            clear hg hz hz2 hg2 hle hlm
            generalize S (fun i => c.getD i 0 * lens.getD i 0) k = s at *
            generalize c[k] = x at *
            go_wp2
            go_ret2
            exact ⟨by rw [HSN.out]; rfl, HB.out⟩
          · have b2' : ((lens[k] : Int) == 0) = false := by simp; omega
            have HS : Hid (S (fun i => c.getD i 0 * lens.getD i 0) (k + 1) = S (fun i => c.getD i 0 * lens.getD i 0) k + c[k] * lens[k]) := by
              show _ + c.getD k 0 * lens.getD k 0 = _; rw [hg, hg2]
            have HN : Hid (∀ i, i < k + 1 → c.getD i 0 ≠ 0 → lens.getD i 0 ≠ 0) := by
              intro i hi hci
              rcases Nat.lt_or_ge i k with h | h
              · exact HNZ.out i h hci
              · obtain rfl : i = k := by omega
                rw [hg2]; exact hz2
            have hp : Hid (c[k] * lens[k] ≤ M) := Nat.le_trans (Nat.mul_le_mul hcm hlm) hM.out.1
            clear hg hz hz2 hg2
            generalize S (fun i => c.getD i 0 * lens.getD i 0) k = s at *
            generalize c[k] = x at *
            generalize lens[k] = y at *
            have HW := Lib.hid (sum_arith s x y k M hle.out hp.out hM.out.2 (Nat.le_trans hlt hcl) hlm)
            clear hle hp hcm hlm
            have hkc : (k : Int) < (c.length : Int) := by omega
            have hkl2 : (k : Int) < (lens.length : Int) := by omega
            go_wp2_with fail
            go_quiet (fail)
            simp only [HW.out.2]
            go_wp2
            go_roundw
            case rel => exact ⟨k + 1, by omega, by go_num, by rw [HS.out], HN.out, by rw [HS.out]; exact HW.out.1, belDN HB.out nq⟩
            case measure => simp [intOf]; omega
        · have b1 : decide (lens.length ≤ k) = true := by simp; omega
          have HSN : Hid (sumOut c lens = (0, false)) := by
            unfold Hid sumOut sumE
            rw [if_neg]
            exact fun h => h k hlt (by rw [hg]; exact hz) (by simp [List.getElem?_eq_none (Nat.le_of_not_lt hkl)])
          clear hg hz hkl hle
          generalize S (fun i => c.getD i 0 * lens.getD i 0) k = s at *
          generalize c[k] = x at *
          go_wp2
          go_ret2
          exact ⟨by rw [HSN.out]; rfl, HB.out⟩
    · obtain rfl : k = c.length := by omega
      have HSN : Hid (sumOut c lens = (S (fun i => c.getD i 0 * lens.getD i 0) c.length, true)) := by
        unfold Hid sumOut sumE
        rw [if_pos HNZ.out]
      clear hle
      generalize S (fun i => c.getD i 0 * lens.getD i 0) c.length = s at *
      go_wp2
      go_ret2
      exact ⟨by rw [HSN.out]; rfl, HB.out⟩
end Go.Proofs.Ytlofoocgiomfbaa
