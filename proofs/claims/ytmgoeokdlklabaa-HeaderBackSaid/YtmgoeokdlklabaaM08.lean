/- Plain mathematics of layer 8: the symbols of lengths and distances. -/
import Derived.Lib.Hide
namespace Go.Proofs.Ytmgoeokdlklabaa.M08
set_option linter.unusedVariables false

/-- the first n leasts of a scale, and its bits -/
def sbits (none each i : Nat) : Nat := if none ≤ i then 1 + (i - none) / each else 0
def sleast (none each least : Nat) : Nat → Nat
  | 0 => least
  | i + 1 => sleast none each least i + 2 ^ sbits none each i
def leasts (n none each least : Nat) : List Nat := (List.range n).map (sleast none each least)
def bitss (n none each : Nat) : List Nat := (List.range n).map (sbits none each)
theorem leasts_len (n none each least : Nat) : (leasts n none each least).length = n := by simp [leasts]
theorem leasts_at (n none each least i : Nat) (h : i < n) : (leasts n none each least)[i]? = some (sleast none each least i) := by simp [leasts, h]
theorem bitss_at (n none each i : Nat) (h : i < n) : (bitss n none each)[i]? = some (sbits none each i) := by simp [bitss, h]
/-- the last place whose number is not above n, in a list that rises -/
def lastLe (L : List Nat) (n : Nat) : Nat := (L.filter fun x => x ≤ n).length - 1
theorem filter_prefix (L : List Nat) (n k : Nat) (hk : k ≤ L.length) (h1 : ∀ i, i < k → L.getD i 0 ≤ n) (h2 : ∀ i, k ≤ i → i < L.length → n < L.getD i 0) : (L.filter fun x => x ≤ n).length = k := by
  have e : L = L.take k ++ L.drop k := (List.take_append_drop k L).symm
  rw [e, List.filter_append, List.length_append]
  have a : (L.take k).filter (fun x => decide (x ≤ n)) = L.take k := by
    rw [List.filter_eq_self]
    intro x hx
    obtain ⟨i, hi, rfl⟩ := List.mem_iff_getElem.1 hx
    simp only [List.length_take] at hi
    have := h1 i (by omega)
    simp only [List.getElem_take, decide_eq_true_eq]
    simpa [show i < L.length by omega] using this
  have b : (L.drop k).filter (fun x => decide (x ≤ n)) = [] := by
    rw [List.filter_eq_nil_iff]
    intro x hx
    obtain ⟨i, hi, rfl⟩ := List.mem_iff_getElem.1 hx
    simp only [List.length_drop] at hi
    have := h2 (k + i) (by omega) (by omega)
    simp only [List.getElem_drop, decide_eq_true_eq]
    simp only [List.getD_eq_getElem?_getD, List.getElem?_eq_getElem (show k + i < L.length by omega), Option.getD_some] at this
    omega
  rw [a, b, List.length_take]
  simp only [List.length_nil]
  omega
theorem lastLe_of (L : List Nat) (n k : Nat) (hk : k < L.length) (h1 : ∀ i, i ≤ k → L.getD i 0 ≤ n) (h2 : ∀ i, k < i → i < L.length → n < L.getD i 0) : lastLe L n = k := by
  unfold lastLe
  rw [filter_prefix L n (k + 1) (by omega) (fun i hi => h1 i (by omega)) (fun i hi hl => h2 i (by omega) hl)]
  omega
/-- each number is above the one ahead -/
def Up (L : List Nat) : Prop := ∀ i, i + 1 < L.length → L.getD i 0 < L.getD (i + 1) 0
instance (L : List Nat) : Decidable (Up L) := decidable_of_iff (∀ i, i < L.length → i + 1 < L.length → L.getD i 0 < L.getD (i + 1) 0) ⟨fun h i hi => h i (by omega) hi, fun h i _ hi => h i hi⟩
theorem Up.lt {L : List Nat} (h : Up L) : ∀ i j, i < j → j < L.length → L.getD i 0 < L.getD j 0 := by
  intro i j hij hj
  induction j with
  | zero => omega
  | succ j ih =>
    have h1 := h j hj
    rcases Nat.lt_or_ge i j with h2 | h2
    · exact Nat.lt_trans (ih h2 (by omega)) h1
    · obtain rfl : i = j := by omega
      exact h1
/-- found, and just there -/
theorem lastLe_up {L : List Nat} (h : Up L) (n : Nat) (k : Nat) (hk : k < L.length) (h1 : L.getD k 0 ≤ n) (h2 : k + 1 < L.length → n < L.getD (k + 1) 0) : lastLe L n = k := by
  refine lastLe_of L n k hk (fun i hi => ?_) (fun i hi hl => ?_)
  · rcases Nat.lt_or_ge i k with h3 | h3
    · have := h.lt i k h3 hk; omega
    · obtain rfl : i = k := by omega
      exact h1
  · have h3 := h2 (by omega)
    rcases Nat.lt_or_ge (k + 1) i with h4 | h4
    · have := h.lt (k + 1) i h4 hl; omega
    · obtain rfl : i = k + 1 := by omega
      exact h3
theorem lastLe_lt {L : List Nat} (n : Nat) (h : 0 < L.length) : lastLe L n < L.length := by
  unfold lastLe; have := List.length_filter_le (fun x : Nat => decide (x ≤ n)) L; omega
theorem lastLe_spec {L : List Nat} (h : Up L) (n : Nat) (h0 : 0 < L.length) (hn : L.getD 0 0 ≤ n) : L.getD (lastLe L n) 0 ≤ n ∧ (lastLe L n + 1 < L.length → n < L.getD (lastLe L n + 1) 0) := by
  have key : ∀ m, m < L.length → L.getD m 0 ≤ n → (∀ i, m < i → i < L.length → n < L.getD i 0) → lastLe L n = m := fun m hm h1 h2 => lastLe_up h n m hm h1 (fun hh => h2 _ (by omega) hh)
  have ex : ∀ m, m ≤ L.length → (∃ k, k < L.length ∧ L.getD k 0 ≤ n ∧ ∀ i, k < i → i < m → n < L.getD i 0) := by
    intro m
    induction m with
    | zero => exact fun _ => ⟨0, h0, hn, fun i _ hi => by omega⟩
    | succ m ih =>
      intro hm
      obtain ⟨k, hk, hkn, hki⟩ := ih (by omega)
      by_cases hc : L.getD m 0 ≤ n
      · exact ⟨m, by omega, hc, fun i h1 h2 => by omega⟩
      · refine ⟨k, hk, hkn, fun i h1 h2 => ?_⟩
        rcases Nat.lt_or_ge i m with h3 | h3
        · exact hki i h1 h3
        · obtain rfl : i = m := by omega
          omega
  obtain ⟨k, hk, hkn, hki⟩ := ex L.length (Nat.le_refl _)
  rw [key k hk hkn hki]
  exact ⟨hkn, fun hh => hki _ (by omega) hh⟩

def lensL : List Nat := [3, 4, 5, 6, 7, 8, 9, 10, 11, 13, 15, 17, 19, 23, 27, 31, 35, 43, 51, 59, 67, 83, 99, 115, 131, 163, 195, 227, 258]
def distL : List Nat := [1, 2, 3, 4, 5, 7, 9, 13, 17, 25, 33, 49, 65, 97, 129, 193, 257, 385, 513, 769, 1025, 1537, 2049, 3073, 4097, 6145, 8193, 12289, 16385, 24577]
def lbits (s : Nat) : Nat := if s < 265 ∨ s = 285 then 0 else (s - 261) / 4
def dbits (s : Nat) : Nat := if s < 4 then 0 else (s - 2) / 2
theorem lens_up : Up lensL := by decide
theorem dist_up : Up distL := by decide
theorem lens_leasts : leasts 28 8 4 3 = lensL.take 28 := by decide
theorem dist_leasts : leasts 30 4 2 1 = distL := by decide
theorem lens_bits : ∀ k, k < 28 → sbits 8 4 k = lbits (257 + k) := by decide
theorem dist_bits : ∀ k, k < 30 → sbits 4 2 k = dbits k := by decide
/-- the symbol that says a length, a distance -/
def lk (n : Nat) : Nat := lastLe lensL n
def dk (n : Nat) : Nat := lastLe distL n
theorem lk_top : lk 258 = 28 := by decide
theorem lk_lt {n : Nat} (h1 : 3 ≤ n) (h2 : n < 258) : lk n < 28 ∧ lk n = lastLe (lensL.take 28) n := by
  have h := lastLe_spec lens_up n (by decide) (show lensL.getD 0 0 ≤ n from h1)
  have hl : lk n < 29 := lastLe_lt n (by decide)
  have h28 : lk n ≠ 28 := fun hc => by
    have h3 := h.1
    rw [show lastLe lensL n = 28 from hc] at h3
    have : lensL.getD 28 0 = 258 := by decide
    omega
  refine ⟨by omega, Eq.symm (lastLe_up (L := lensL.take 28) (by decide) n _ (by simp [lensL]; omega) ?_ fun hh => ?_)⟩
  · have h3 := h.1
    rw [show lastLe lensL n = lk n from rfl] at h3
    simpa [List.getElem?_take, show lk n < 28 by omega] using h3
  · have h3 := h.2
    rw [show lastLe lensL n = lk n from rfl] at h3
    have hh' : lk n + 1 < 28 := by simpa [lensL] using hh
    have := h3 (by simp [lensL]; omega)
    simpa [List.getElem?_take, hh'] using this
theorem dk_lt (n : Nat) : dk n < 30 := lastLe_lt n (by decide)
end Go.Proofs.Ytmgoeokdlklabaa.M08
