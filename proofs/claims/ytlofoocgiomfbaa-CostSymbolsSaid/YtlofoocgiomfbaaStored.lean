/- cost.Stored and the reference's Stored. -/
import Derived.Test.YtlofoocgiomfbaaChecked
import Derived.Test.YtlofoocgiomfbaaBase
import Derived.Test.YtlofoocgiomfbaaM17s
namespace Go.Proofs.Ytlofoocgiomfbaa
open Go.RowKit M17
set_option linter.unusedVariables false

def storedZ (n at_ : Int) : Int := if n < 0 ∨ at_ < 0 then 0 else st n.toNat at_.toNat - at_

set_option maxHeartbeats 400000 in
theorem cost_stored (n at_ : Int) (w : World) (hn : n ≤ 1073741824) (ha : at_ ≤ 1073741824) :
    Calls Try.prog 16 #[.int .i64 n, .int .i64 at_] w fun e w' => e = .returned (.int .i64 (storedZ n at_)) ∧ w = w' := by
  by_cases h0 : n < 0
  · have H : Hid (storedZ n at_ = 0) := by unfold Hid storedZ; rw [if_pos (.inl h0)]
    go_enter Try.func16, Try.ntmps16
    go_wp2
    go_ret
    exact ⟨ret_int H.out.symm, rfl⟩
  by_cases h1 : at_ < 0
  · have H : Hid (storedZ n at_ = 0) := by unfold Hid storedZ; rw [if_pos (.inr h1)]
    go_enter Try.func16, Try.ntmps16
    go_wp2
    go_ret
    exact ⟨ret_int H.out.symm, rfl⟩
  have H : Hid (storedZ n at_ = st n.toNat at_.toNat - at_) := by unfold Hid storedZ; rw [if_neg (by omega)]
  obtain ⟨N, rfl⟩ := Int.eq_ofNat_of_zero_le (by omega : 0 ≤ n)
  obtain ⟨A, rfl⟩ := Int.eq_ofNat_of_zero_le (by omega : 0 ≤ at_)
  have HS := Lib.hid (st_le N A)
  simp only [Int.toNat_natCast] at H
  go_enter Try.func16, Try.ntmps16
  go_wp2
  go_loop [0, 1] (fun n a => ∃ n' a' : Nat, n = .int .i64 n' ∧ a = .int .i64 a' ∧ n' ≤ N ∧ st n' a' = st N A) (fun n _ => (intOf n).toNat)
  case atStart => exact ⟨N, A, rfl, rfl, Nat.le_refl _, rfl⟩
  case round =>
    obtain ⟨n', a', rfl, rfl, hle, hst⟩ := hrel
    have h2 := st_le n' a'
    have h3 := HS.out
    have h4 : a' ≤ 10000000000 := by rw [hst] at h2; omega
    have HE : Hid (st n' a' = st N A) := hst
    have HD := Lib.hid (st.eq_1 n' a')
    clear h2 h3 hst
    by_cases hk : n' ≤ 65535
    · have HR : Hid (st N A = align (a' + 3) + 32 + 8 * n') := by
        rw [Hid, ← HE.out, HD.out, if_pos hk]
      go_wp2
      go_ret
      refine ⟨ret_int ?_, rfl⟩
      rw [H.out, HR.out]
      unfold align
      omega
    · have HR : Hid (st (n' - 65535) (align (a' + 3) + 32 + 8 * 65535) = st N A) := by
        rw [Hid, ← HE.out, HD.out, if_neg hk]
      go_wp2
      go_round
      case rel => exact ⟨n' - 65535, align (a' + 3) + 32 + 8 * 65535, int_eq (by omega), int_eq (by unfold align; omega), by omega, HR.out⟩
      case measure => simp [intOf]; omega

set_option maxHeartbeats 800000 in
theorem ref17_stored (n at_ : Int) (w : World) (hn : n ≤ 1073741824) (ha : at_ ≤ 1073741824) :
    Calls Try.prog 17 #[.int .i64 n, .int .i64 at_] w fun e w' => e = .returned (.int .i64 (storedZ n at_)) ∧ w = w' := by
  by_cases h0 : n < 0
  · have H : Hid (storedZ n at_ = 0) := by unfold Hid storedZ; rw [if_pos (.inl h0)]
    go_enter Try.func17, Try.ntmps17
    go_wp2
    go_ret
    exact ⟨ret_int H.out.symm, rfl⟩
  by_cases h1 : at_ < 0
  · have H : Hid (storedZ n at_ = 0) := by unfold Hid storedZ; rw [if_pos (.inr h1)]
    go_enter Try.func17, Try.ntmps17
    go_wp2
    go_ret
    exact ⟨ret_int H.out.symm, rfl⟩
  have H : Hid (storedZ n at_ = st n.toNat at_.toNat - at_) := by unfold Hid storedZ; rw [if_neg (by omega)]
  obtain ⟨N, rfl⟩ := Int.eq_ofNat_of_zero_le (by omega : 0 ≤ n)
  obtain ⟨A, rfl⟩ := Int.eq_ofNat_of_zero_le (by omega : 0 ≤ at_)
  simp only [Int.toNat_natCast] at H
  go_enter Try.func17, Try.ntmps17
  go_wp2
  have hb : ((N : Int) + 65534) / 65535 = (((N + 65534) / 65535 : Nat) : Int) := by omega
  simp only [hb]
  clear hb
  have HB : Hid (∀ c, (N + 65534) / 65535 = c + 1 → st N A = align (ev A c + 3) + 32 + 8 * (N - 65535 * c)) := fun c h => st_ev c N A h
  have HZ : Hid ((N + 65534) / 65535 = 0 → N = 0) := by unfold Hid; omega
  have hbs : (N + 65534) / 65535 ≤ 16400 := by omega
  have hbN : N ≤ 65535 * ((N + 65534) / 65535) := by omega
  have hbN2 : 65535 * ((N + 65534) / 65535) ≤ N + 65534 := by omega
  generalize (N + 65534) / 65535 = b at *
  obtain ⟨c, hc1, hc2, hc0⟩ : ∃ c : Nat, (1 < b → c = b) ∧ (¬ 1 < b → c = 1) ∧ 1 ≤ c := ⟨max 1 b, by omega, by omega, by omega⟩
  have HC1 := Lib.hid hc1
  have HC2 := Lib.hid hc2
  have hcs : c ≤ 16400 := by by_cases h : 1 < b; have := hc1 h; omega; have := hc2 h; omega
  clear hc1 hc2
  go_loop [5, 7] (fun e i => ∃ i' e' : Nat, i = .int .i64 i' ∧ e = .int .i64 e' ∧ i' ≤ c ∧ (i' < c → e' = ev A i') ∧ (i' = c → e' = align (ev A (c - 1) + 3) + 32)) (fun _ i => c - (intOf i).toNat)
  case atStart => exact ⟨0, A, rfl, rfl, by omega, fun _ => rfl, by omega⟩
  case round =>
    obtain ⟨i', e', rfl, rfl, hic, he1, he2⟩ := hrel
    have HE1 := Lib.hid he1
    have HE2 := Lib.hid he2
    clear he1 he2
    have hev := ev_le A i'
    have hev2 := ev_le A (c - 1)
    by_cases hi : i' < c
    · have he : e' ≤ 10000000000 := by have := HE1.out hi; omega
      have hal := align_le (ev A i' + 3)
      by_cases hb1 : 1 < b
      · have hcb : c = b := HC1.out hb1
        clear HC1 HC2
        have hee := HE1.out hi
        clear HE1 HE2
        subst hee
        go_wp2
        go_loop [5] (fun e => ∃ x : Nat, e = .int .i64 x ∧ ev A i' + 3 ≤ x ∧ x ≤ align (ev A i' + 3)) (fun e => align (ev A i' + 3) - (intOf e).toNat)
        case atStart => exact ⟨ev A i' + 3, int_eq (by omega), Nat.le_refl _, hal.1⟩
        case round =>
          obtain ⟨x, rfl, hx1, hx2⟩ := hrel
          by_cases hx8 : x % 8 = 0
          · have hxe : x = align (ev A i' + 3) := by have := hal; unfold align at *; omega
            have bx : ((x : Int) % 8 != 0) = false := by simp; omega
            clear hx8
            by_cases hl : i' + 1 < b
            · go_wp2
              go_round
              case rel => exact ⟨i' + 1, x + 32 + 524280, by go_num, by go_num, by omega, fun _ => by rw [hxe]; rfl, fun h => by omega⟩
              case measure => simp [intOf]; omega
            · go_wp2
              go_round
              case rel => exact ⟨i' + 1, x + 32, by go_num, by go_num, by omega, fun h => by omega, fun h => by rw [hxe, ← h]; rfl⟩
              case measure => simp [intOf]; omega
          · have hxl : x + 1 ≤ align (ev A i' + 3) := by have := hal; omega
            have bx : ((x : Int) % 8 != 0) = true := by simp; omega
            clear hx8
            go_wp2
            go_round
            case rel => exact ⟨x + 1, by go_num, by omega, hxl⟩
            case measure => simp [intOf]; omega
      · have hcb : c = 1 := HC2.out hb1
        clear HC1 HC2
        have hee := HE1.out hi
        clear HE1 HE2
        subst hee
        go_wp2
        go_loop [5] (fun e => ∃ x : Nat, e = .int .i64 x ∧ ev A i' + 3 ≤ x ∧ x ≤ align (ev A i' + 3)) (fun e => align (ev A i' + 3) - (intOf e).toNat)
        case atStart => exact ⟨ev A i' + 3, int_eq (by omega), Nat.le_refl _, hal.1⟩
        case round =>
          obtain ⟨x, rfl, hx1, hx2⟩ := hrel
          by_cases hx8 : x % 8 = 0
          · have hxe : x = align (ev A i' + 3) := by have := hal; unfold align at *; omega
            have bx : ((x : Int) % 8 != 0) = false := by simp; omega
            clear hx8
            go_wp2
            go_round
            case rel => exact ⟨i' + 1, x + 32, by go_num, by go_num, by omega, fun h => by omega, fun h => by rw [hxe, ← h]; rfl⟩
            case measure => simp [intOf]; omega
          · have hxl : x + 1 ≤ align (ev A i' + 3) := by have := hal; omega
            have bx : ((x : Int) % 8 != 0) = true := by simp; omega
            clear hx8
            go_wp2
            go_round
            case rel => exact ⟨x + 1, by go_num, by omega, hxl⟩
            case measure => simp [intOf]; omega
    · obtain rfl : i' = c := by omega
      have he2 := HE2.out rfl
      have he : e' ≤ 10000000000 := by have := align_le (ev A (i' - 1) + 3); omega
      have HE := Lib.hid he2
      clear he2 HE1 HE2
      by_cases hb1 : 1 < b
      · have hcb : i' = b := HC1.out hb1
        have H2 := Lib.hid (HB.out (i' - 1) (by omega))
        go_wp2
        go_ret
        refine ⟨ret_int ?_, rfl⟩
        rw [H.out, H2.out, ← HE.out]
        omega
      · have hcb : i' = 1 := HC2.out hb1
        by_cases hb0 : b = 0
        · have hN := HZ.out hb0
          subst hN hb0 hcb
          go_wp2
          go_ret
          refine ⟨ret_int ?_, rfl⟩
          have h5 : storedZ 0 (A : Int) = st 0 A - A := H.out
          rw [h5, st_zero, HE.out]
          rfl
        · have hb2 : 0 < b := by omega
          have H2 := Lib.hid (HB.out (i' - 1) (by omega))
          clear hb0
          go_wp2
          go_ret
          refine ⟨ret_int ?_, rfl⟩
          rw [H.out, H2.out, ← HE.out]
          omega
end Go.Proofs.Ytlofoocgiomfbaa
