/- Plain mathematics of layer 4: words of a code do not begin with one another; a row of 20 bits begins with one word, where the code is full. -/
import Derived.Test.YtmgoeokdlklabaaM04
namespace Go.Proofs.Ytmgoeokdlklabaa.M04
set_option linter.unusedVariables false

def start (l : List Nat) (i : Nat) : Nat := acc l (l.getD i 0) i
def size (l : List Nat) (i : Nat) : Nat := 2 ^ (20 - l.getD i 0)
theorem pre_mono (l : List Nat) {n k n' k' j : Nat} (h : n < n' ∨ n = n' ∧ k ≤ k') (hp : pre l n k j) : pre l n' k' j := by
  unfold pre at *; omega
theorem acc_mono (l : List Nat) {n k n' k' : Nat} (h : n < n' ∨ n = n' ∧ k ≤ k') : acc l n k ≤ acc l n' k' := S_le fun j _ => by
  by_cases hp : pre l n k j
  · rw [if_pos hp, if_pos (pre_mono l h hp)]; exact Nat.le_refl _
  · rw [if_neg hp]; exact Nat.zero_le _
theorem start_end (l : List Nat) (i : Nat) (hi : i < l.length) (h0 : l.getD i 0 ≠ 0) : acc l (l.getD i 0) (i + 1) = start l i + size l i :=
  acc_hit l _ i h0 hi (by simp [hi])
theorem start_le (l : List Nat) (i : Nat) (hi : i < l.length) (h0 : l.getD i 0 ≠ 0) : start l i + size l i ≤ weight l := by
  rw [← start_end l i hi h0]; exact acc_le _ _ _
theorem start_before (l : List Nat) (i k : Nat) (hi : i < l.length) (h0 : l.getD i 0 ≠ 0) (h : l.getD i 0 < l.getD k 0 ∨ l.getD i 0 = l.getD k 0 ∧ i < k) : start l i + size l i ≤ start l k := by
  rw [← start_end l i hi h0]; exact acc_mono l (by omega)
theorem size_pos (l : List Nat) (i : Nat) : 0 < size l i := Nat.pow_pos (by decide)
theorem start_word (l : List Nat) (i : Nat) (h0 : l.getD i 0 ≠ 0) : start l i = word l i * size l i := by
  rw [word, if_neg h0]
  exact (Nat.div_mul_cancel (acc_dvd l _ i)).symm
theorem in_iff (q s m : Nat) (hm : 0 < m) : q / m = s ↔ s * m ≤ q ∧ q < s * m + m := by
  rw [Nat.div_eq_iff hm]
  constructor
  · intro h; constructor <;> omega
  · intro h; constructor <;> omega
def hit (l : List Nat) (row i : Nat) : Prop := l.getD i 0 ≠ 0 ∧ row / size l i = word l i
instance (l : List Nat) (row i : Nat) : Decidable (hit l row i) := by unfold hit; infer_instance
theorem hit_iff (l : List Nat) (row i : Nat) (h0 : l.getD i 0 ≠ 0) : hit l row i ↔ start l i ≤ row ∧ row < start l i + size l i := by
  unfold hit
  rw [in_iff _ _ _ (size_pos l i), ← start_word l i h0]
  simp only [ne_eq, h0, not_false_eq_true, true_and]
theorem apart (l : List Nat) (i k : Nat) (hi : i < l.length) (hk : k < l.length) (h0 : l.getD i 0 ≠ 0) (h1 : l.getD k 0 ≠ 0) (hne : i ≠ k) : start l i + size l i ≤ start l k ∨ start l k + size l k ≤ start l i := by
  by_cases h : l.getD i 0 < l.getD k 0 ∨ l.getD i 0 = l.getD k 0 ∧ i < k
  · exact .inl (start_before l i k hi h0 h)
  · exact .inr (start_before l k i hk h1 (by omega))
theorem hit_one (l : List Nat) (row i k : Nat) (hi : i < l.length) (hk : k < l.length) (h : hit l row i) (h' : hit l row k) : i = k := by
  by_cases e : i = k
  · exact e
  · have h0 := h.1
    have h1 := h'.1
    rw [hit_iff l row i h0] at h
    rw [hit_iff l row k h1] at h'
    have := apart l i k hi hk h0 h1 e
    omega
theorem hit_weight (l : List Nat) (row i : Nat) (hi : i < l.length) (h : hit l row i) : row < weight l := by
  have h0 := h.1
  rw [hit_iff l row i h0] at h
  have := start_le l i hi h0
  omega
theorem hit_ex' (l : List Nat) (row n k : Nat) (hk : k ≤ l.length) (h : row < acc l n k) : ∃ i, i < l.length ∧ hit l row i := by
  induction n generalizing k with
  | zero =>
    have : acc l 0 k = 0 := S_zero fun j _ => by rw [if_neg]; unfold pre; omega
    omega
  | succ n ih =>
    induction k with
    | zero => rw [← acc_row] at h; exact ih l.length (Nat.le_refl _) h
    | succ k ihk =>
      by_cases hx : l.getD k 0 = n + 1
      · have hl : l[k] = n + 1 := by rw [← hx]; simp [show k < l.length by omega]
        rw [acc_hit l (n + 1) k (by omega) (by omega) hl] at h
        by_cases hlt : row < acc l (n + 1) k
        · exact ihk (by omega) hlt
        · refine ⟨k, by omega, ?_⟩
          rw [hit_iff l row k (by omega)]
          unfold start size
          rw [hx]
          omega
      · have hl : l[k] ≠ n + 1 := by intro e; apply hx; rw [← e]; simp [show k < l.length by omega]
        rw [acc_miss l (n + 1) k (by omega) hl] at h
        exact ihk (by omega) h
theorem acc_all (l : List Nat) (h : ∀ x ∈ l, x ≤ 20) : acc l 21 0 = weight l := by
  rw [weight_S]
  refine S_congr fun j hj => ?_
  have := getD_le h j
  by_cases e : l.getD j 0 = 0
  · rw [if_neg (by unfold pre; omega), e]; rfl
  · rw [if_pos (by unfold pre; omega)]
theorem hit_ex (l : List Nat) (row : Nat) (h : ∀ x ∈ l, x ≤ 20) (hr : row < weight l) : ∃ i, i < l.length ∧ hit l row i :=
  hit_ex' l row 21 0 (Nat.zero_le _) (by rw [acc_all l h]; exact hr)
def hits (l : List Nat) (row m : Nat) : Nat := S (fun i => if hit l row i then 1 else 0) m
theorem hits_le (l : List Nat) (row m : Nat) : hits l row m ≤ m := by
  unfold hits
  induction m with
  | zero => exact Nat.le_refl _
  | succ m ih => simp only [S]; split <;> omega
theorem hits_all (l : List Nat) (row : Nat) (h : ∀ x ∈ l, x ≤ 20) : hits l row l.length = if row < weight l then 1 else 0 := by
  unfold hits
  split
  · rename_i hr
    obtain ⟨i, hi, hh⟩ := hit_ex l row h hr
    have := S_one (f := fun j => if hit l row j then 1 else 0) (g := fun _ => 0) hi (fun j hj hne => if_neg fun hj' => hne (hit_one l row j i hj hi hj' hh))
    rw [if_pos hh, S_zero (fun _ _ => rfl)] at this
    omega
  · rename_i hr
    exact S_zero fun j hj => if_neg fun hj' => hr (hit_weight l row j hj hj')
theorem word_small (l : List Nat) (i : Nat) (hi : i < l.length) (h20 : ∀ x ∈ l, x ≤ 20) (hw : weight l ≤ 2 ^ 20) : word l i / 2 ^ l.getD i 0 = 0 := by
  by_cases h0 : l.getD i 0 = 0
  · rw [word, if_pos h0]; exact Nat.zero_div _
  · have h1 := start_le l i hi h0
    have h2 := start_word l i h0
    have h3 := size_pos l i
    have h4 := getD_le h20 i
    have h5 : size l i * 2 ^ l.getD i 0 = 2 ^ 20 := by unfold size; rw [← Nat.pow_add]; congr 1; omega
    refine Nat.div_eq_of_lt ?_
    rw [h2] at h1
    have h6 : word l i * size l i < 2 ^ l.getD i 0 * size l i := by rw [Nat.mul_comm (2 ^ _), h5]; omega
    exact Nat.lt_of_mul_lt_mul_right h6
theorem word_apart (l : List Nat) (i k : Nat) (hi : i < l.length) (hk : k < l.length) (h20 : ∀ x ∈ l, x ≤ 20) (h0 : l.getD i 0 ≠ 0) (hne : k ≠ i) (hle : l.getD i 0 ≤ l.getD k 0) : word l k / 2 ^ (l.getD k 0 - l.getD i 0) ≠ word l i := by
  intro e
  have h1 : l.getD k 0 ≠ 0 := by omega
  have h4 := getD_le h20 k
  have hs : size l i = 2 ^ (l.getD k 0 - l.getD i 0) * size l k := by unfold size; rw [← Nat.pow_add]; congr 1; omega
  have hk' : start l k / size l i = word l k / 2 ^ (l.getD k 0 - l.getD i 0) := by
    rw [start_word l k h1, hs, Nat.mul_comm (2 ^ _) (size l k), ← Nat.div_div_eq_div_mul, Nat.mul_div_cancel _ (size_pos l k)]
  rw [e, in_iff _ _ _ (size_pos l i), ← start_word l i h0] at hk'
  have := apart l i k hi hk h0 h1 (Ne.symm hne)
  have := size_pos l k
  omega
theorem word_rises (l : List Nat) (i k : Nat) (hi : i < l.length) (hk : k < l.length) (h20 : ∀ x ∈ l, x ≤ 20) (h0 : l.getD i 0 ≠ 0) (h : l.getD i 0 < l.getD k 0 ∨ l.getD i 0 = l.getD k 0 ∧ i < k) : word l i < word l k / 2 ^ (l.getD k 0 - l.getD i 0) := by
  have h1 : l.getD k 0 ≠ 0 := by omega
  have h4 := getD_le h20 k
  have hs : size l i = 2 ^ (l.getD k 0 - l.getD i 0) * size l k := by unfold size; rw [← Nat.pow_add]; congr 1; omega
  have hk' : start l k / size l i = word l k / 2 ^ (l.getD k 0 - l.getD i 0) := by
    rw [start_word l k h1, hs, Nat.mul_comm (2 ^ _) (size l k), ← Nat.div_div_eq_div_mul, Nat.mul_div_cancel _ (size_pos l k)]
  rw [← hk', Nat.lt_iff_add_one_le, Nat.le_div_iff_mul_le (size_pos l i), Nat.add_mul, ← start_word l i h0, Nat.one_mul]
  exact start_before l i k hi h0 h
theorem words_getElem (l : List Nat) (i : Nat) (hi : i < (words l).length) : (words l)[i] = word l i := by simp [words]
end Go.Proofs.Ytmgoeokdlklabaa.M04
