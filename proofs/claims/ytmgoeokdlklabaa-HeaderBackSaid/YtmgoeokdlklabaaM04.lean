/- Plain mathematics of layer 4: the weight of a code, and its words. -/
import Derived.Lib.Hide
namespace Go.Proofs.Ytmgoeokdlklabaa.M04

def wt (n : Nat) : Nat := if n = 0 then 0 else 2 ^ (20 - n)
def weight (l : List Nat) : Nat := (l.map wt).sum
theorem wt_le (n : Nat) : wt n ≤ 2 ^ 20 := by
  unfold wt; split
  · simp
  · exact Nat.pow_le_pow_right (by simp) (by omega)
theorem weight_le (l : List Nat) : weight l ≤ l.length * 2 ^ 20 := by
  induction l with
  | nil => simp [weight]
  | cons a l ih => have := wt_le a; simp only [weight, List.map_cons, List.sum_cons, List.length_cons] at *; omega
theorem take_snoc {α : Type} (l : List α) (k : Nat) (h : k < l.length) : l.take (k + 1) = l.take k ++ [l[k]] := List.take_succ_eq_append_getElem h
theorem weight_succ (l : List Nat) (k : Nat) (h : k < l.length) : weight (l.take (k + 1)) = weight (l.take k) + wt l[k] := by
  rw [take_snoc l k h]; simp only [weight, List.map_append, List.map_cons, List.map_nil, List.sum_append, List.sum_cons, List.sum_nil]; omega
theorem weight_take_le (l : List Nat) (k : Nat) (h : l.length ≤ 512) : weight (l.take k) ≤ 512 * 2 ^ 20 :=
  Nat.le_trans (weight_le _) (by simp; omega)
def May (l : List Nat) : Prop := (∀ x ∈ l, x ≤ 20) ∧ l.length ≤ 512
instance (l : List Nat) : Decidable (May l) := by unfold May; infer_instance
def top (l : List Nat) : Nat := l.foldl max 0
theorem top_snoc (l : List Nat) (k : Nat) (h : k < l.length) : top (l.take (k + 1)) = max (top (l.take k)) l[k] := by
  rw [take_snoc l k h]; simp only [top, List.foldl_append, List.foldl_cons, List.foldl_nil]
theorem foldl_max_le (l : List Nat) (a n : Nat) : l.foldl max a ≤ n ↔ a ≤ n ∧ ∀ x ∈ l, x ≤ n := by
  induction l generalizing a with
  | nil => simp
  | cons b l ih =>
    simp only [List.foldl_cons, ih, List.mem_cons, forall_eq_or_imp, ← and_assoc]
    refine and_congr_left fun _ => ?_
    omega
theorem top_le (l : List Nat) (n : Nat) : top l ≤ n ↔ ∀ x ∈ l, x ≤ n := by
  unfold top; rw [foldl_max_le]; simp
def mayB (l : List Nat) : Bool := decide (May l)
def cls (l : List Nat) : Nat := if weight l = 0 then 0 else if weight l < 2 ^ 20 then 1 else if weight l = 2 ^ 20 then 2 else 3
/-- what Classify answers -/
def clsE (l : List Nat) : Nat × Nat := if May l then (cls l, 0) else (0, 5)

/-! ### sums by places -/
def S (f : Nat → Nat) : Nat → Nat
  | 0 => 0
  | m + 1 => S f m + f m
theorem S_congr {f g : Nat → Nat} {m : Nat} (h : ∀ j, j < m → f j = g j) : S f m = S g m := by
  induction m with
  | zero => rfl
  | succ m ih => simp only [S]; rw [ih fun j hj => h j (by omega), h m (by omega)]
theorem S_le {f g : Nat → Nat} {m : Nat} (h : ∀ j, j < m → f j ≤ g j) : S f m ≤ S g m := by
  induction m with
  | zero => simp [S]
  | succ m ih => simp only [S]; have := ih fun j hj => h j (by omega); have := h m (by omega); omega
theorem S_zero {f : Nat → Nat} {m : Nat} (h : ∀ j, j < m → f j = 0) : S f m = 0 := by
  induction m with
  | zero => rfl
  | succ m ih => simp only [S]; rw [ih fun j hj => h j (by omega), h m (by omega)]
theorem S_one {f g : Nat → Nat} {m k : Nat} (hk : k < m) (h : ∀ j, j < m → j ≠ k → f j = g j) : S f m + g k = S g m + f k := by
  induction m with
  | zero => omega
  | succ m ih =>
    simp only [S]
    by_cases e : k = m
    · subst e
      rw [S_congr (fun j hj => h j (by omega) (by omega))]; omega
    · have := ih (by omega) (fun j hj hne => h j (by omega) hne)
      have := h m (by omega) (by omega)
      omega
theorem S_dvd {f : Nat → Nat} {m d : Nat} (h : ∀ j, j < m → d ∣ f j) : d ∣ S f m := by
  induction m with
  | zero => exact ⟨0, rfl⟩
  | succ m ih => exact Nat.dvd_add (ih fun j hj => h j (by omega)) (h m (by omega))
theorem S_mem {f : Nat → Nat} {m k : Nat} (hk : k < m) : f k ≤ S f m := by
  induction m with
  | zero => omega
  | succ m ih =>
    simp only [S]
    by_cases e : k = m
    · subst e; omega
    · have := ih (by omega); omega
theorem S_cons (f : Nat → Nat) (m : Nat) : S f (m + 1) = f 0 + S (fun j => f (j + 1)) m := by
  induction m with
  | zero => simp [S]
  | succ m ih => rw [S, ih, S]; omega
theorem weight_S (l : List Nat) : weight l = S (fun j => wt (l.getD j 0)) l.length := by
  induction l with
  | nil => rfl
  | cons a l ih =>
    rw [List.length_cons, S_cons]
    simp only [weight, List.map_cons, List.sum_cons] at *
    rw [ih]; simp

/-! ### words -/
/-- is symbol j ahead of the place (n, k) in the order of words? -/
def pre (l : List Nat) (n k j : Nat) : Prop := l.getD j 0 ≠ 0 ∧ (l.getD j 0 < n ∨ l.getD j 0 = n ∧ j < k)
instance (l : List Nat) (n k j : Nat) : Decidable (pre l n k j) := by unfold pre; infer_instance
def acc (l : List Nat) (n k : Nat) : Nat := S (fun j => if pre l n k j then wt (l.getD j 0) else 0) l.length
def word (l : List Nat) (i : Nat) : Nat := if l.getD i 0 = 0 then 0 else acc l (l.getD i 0) i / 2 ^ (20 - l.getD i 0)
def words (l : List Nat) : List Nat := (List.range l.length).map (word l)
def outs (l : List Nat) (n k : Nat) : List Nat := (List.range l.length).map fun i => if pre l n k i then word l i else 0
theorem words_length (l : List Nat) : (words l).length = l.length := by simp [words]
theorem outs_length (l : List Nat) (n k : Nat) : (outs l n k).length = l.length := by simp [outs]
theorem acc_one (l : List Nat) : acc l 1 0 = 0 := S_zero fun j _ => by
  rw [if_neg]; unfold pre; omega
theorem acc_row (l : List Nat) (n : Nat) : acc l n l.length = acc l (n + 1) 0 := S_congr fun j hj => by
  have : pre l n l.length j ↔ pre l (n + 1) 0 j := by unfold pre; omega
  simp only [this]
theorem acc_le (l : List Nat) (n k : Nat) : acc l n k ≤ weight l := by
  rw [weight_S]
  exact S_le fun j _ => by split <;> omega
theorem acc_hit (l : List Nat) (n k : Nat) (hn : n ≠ 0) (hk : k < l.length) (h : l[k] = n) : acc l n (k + 1) = acc l n k + 2 ^ (20 - n) := by
  have hg : l.getD k 0 = n := by simp [hk, h]
  have := S_one (f := fun j => if pre l n (k + 1) j then wt (l.getD j 0) else 0) (g := fun j => if pre l n k j then wt (l.getD j 0) else 0) hk (fun j hj hne => by
    have : pre l n (k + 1) j ↔ pre l n k j := by unfold pre; omega
    simp only [this])
  rw [if_neg (by unfold pre; omega), if_pos (by unfold pre; omega), hg, wt, if_neg hn] at this
  unfold acc
  omega
theorem acc_miss (l : List Nat) (n k : Nat) (hk : k < l.length) (h : l[k] ≠ n) : acc l n (k + 1) = acc l n k := S_congr fun j hj => by
  have hg : l.getD k 0 = l[k] := by simp [hk]
  have : pre l n (k + 1) j ↔ pre l n k j := by
    unfold pre
    constructor
    · rintro ⟨h1, h2 | ⟨h2, h3⟩⟩
      · exact ⟨h1, .inl h2⟩
      · refine ⟨h1, .inr ⟨h2, ?_⟩⟩
        by_cases e : j = k
        · subst e; omega
        · omega
    · rintro ⟨h1, h2⟩; exact ⟨h1, by omega⟩
  simp only [this]
theorem acc_dvd (l : List Nat) (n k : Nat) : 2 ^ (20 - n) ∣ acc l n k := S_dvd fun j _ => by
  split
  · rename_i h
    have h0 : l.getD j 0 ≠ 0 := h.1
    have hle : l.getD j 0 ≤ n := by have := h.2; omega
    rw [wt, if_neg h0]
    exact Nat.pow_dvd_pow 2 (by omega)
  · exact Nat.dvd_zero _
theorem outs_one (l : List Nat) : outs l 1 0 = List.replicate l.length 0 := by
  apply List.ext_getElem (by simp [outs])
  intro i h1 h2
  simp only [outs, List.getElem_map, List.getElem_range, List.getElem_replicate]
  rw [if_neg]; unfold pre; omega
theorem outs_row (l : List Nat) (n : Nat) : outs l n l.length = outs l (n + 1) 0 := by
  apply List.ext_getElem (by simp [outs])
  intro i h1 h2
  simp only [outs, List.length_map, List.length_range] at h1
  simp only [outs, List.getElem_map, List.getElem_range]
  have : pre l n l.length i ↔ pre l (n + 1) 0 i := by unfold pre; omega
  simp only [this]
theorem outs_hit (l : List Nat) (n k : Nat) (hn : n ≠ 0) (hk : k < l.length) (h : l[k] = n) : outs l n (k + 1) = (outs l n k).set k (acc l n k / 2 ^ (20 - n)) := by
  have hg : l.getD k 0 = n := by simp [hk, h]
  apply List.ext_getElem (by simp [outs])
  intro i h1 h2
  simp only [outs, List.length_map, List.length_range] at h1
  rw [List.getElem_set]
  simp only [outs, List.getElem_map, List.getElem_range]
  by_cases e : k = i
  · subst e
    rw [if_pos (by unfold pre; omega), if_pos rfl, word, if_neg (by omega), hg]
  · rw [if_neg e]
    have : pre l n (k + 1) i ↔ pre l n k i := by unfold pre; omega
    simp only [this]
theorem outs_miss (l : List Nat) (n k : Nat) (hk : k < l.length) (h : l[k] ≠ n) : outs l n (k + 1) = outs l n k := by
  apply List.ext_getElem (by simp [outs])
  intro i h1 h2
  simp only [outs, List.getElem_map, List.getElem_range]
  have hg : l.getD k 0 = l[k] := by simp [hk]
  have : pre l n (k + 1) i ↔ pre l n k i := by
    unfold pre
    constructor
    · rintro ⟨h1, h2 | ⟨h2, h3⟩⟩
      · exact ⟨h1, .inl h2⟩
      · refine ⟨h1, .inr ⟨h2, ?_⟩⟩
        by_cases e : i = k
        · subst e; omega
        · omega
    · rintro ⟨h1, h2⟩; exact ⟨h1, by omega⟩
  simp only [this]
theorem getD_le {l : List Nat} {n : Nat} (h : ∀ x ∈ l, x ≤ n) (i : Nat) : l.getD i 0 ≤ n := by
  by_cases hi : i < l.length
  · simp only [List.getD_eq_getElem?_getD, List.getElem?_eq_getElem hi, Option.getD_some]; exact h _ (List.getElem_mem hi)
  · simp only [List.getD_eq_getElem?_getD, List.getElem?_eq_none (by omega : l.length ≤ i), Option.getD_none]; omega
theorem outs_end (l : List Nat) (h : ∀ x ∈ l, x ≤ 20) : outs l 21 0 = words l := by
  apply List.ext_getElem (by simp [outs, words])
  intro i h1 h2
  simp only [outs, words, List.getElem_map, List.getElem_range]
  have := getD_le h i
  by_cases e : l.getD i 0 = 0
  · rw [if_neg (by unfold pre; omega), word, if_pos e]
  · rw [if_pos (by unfold pre; omega)]
/-- what Words answers: an error, or words -/
def wordsE (l : List Nat) : List Nat × Nat := if ¬ May l then ([], 5) else if 2 ^ 20 < weight l then ([], 2) else (words l, 0)

/-! ### the order of symbols -/
def rowOf (l : List Nat) (n k : Nat) : List (Nat × Nat) := (List.range k).filterMap fun i => if l.getD i 0 = n then some (i, n) else none
def ordB (l : List Nat) : Nat → Nat → List (Nat × Nat)
  | 0, k => rowOf l 0 k
  | n + 1, k => (if n = 0 then [] else ordB l n l.length) ++ rowOf l (n + 1) k
def ord (l : List Nat) : List (Nat × Nat) := ordB l 20 l.length
theorem rowOf_hit (l : List Nat) (n k : Nat) (h : l.getD k 0 = n) : rowOf l n (k + 1) = rowOf l n k ++ [(k, n)] := by
  simp only [rowOf, List.range_succ, List.filterMap_append, List.filterMap_cons, List.filterMap_nil, h, if_true]
theorem rowOf_miss (l : List Nat) (n k : Nat) (h : l.getD k 0 ≠ n) : rowOf l n (k + 1) = rowOf l n k := by
  simp only [rowOf, List.range_succ, List.filterMap_append, List.filterMap_cons, List.filterMap_nil, h, if_false, List.append_nil]
theorem ordB_hit (l : List Nat) (n k : Nat) (h : l.getD k 0 = n) : ordB l n (k + 1) = ordB l n k ++ [(k, n)] := by
  cases n with
  | zero => exact rowOf_hit l 0 k h
  | succ n => simp only [ordB]; rw [rowOf_hit l _ k h, List.append_assoc]
theorem ordB_miss (l : List Nat) (n k : Nat) (h : l.getD k 0 ≠ n) : ordB l n (k + 1) = ordB l n k := by
  cases n with
  | zero => exact rowOf_miss l 0 k h
  | succ n => simp only [ordB]; rw [rowOf_miss l _ k h]
theorem ordB_row (l : List Nat) (n : Nat) (hn : n ≠ 0) : ordB l (n + 1) 0 = ordB l n l.length := by
  simp [ordB, rowOf, hn]
theorem ordB_one (l : List Nat) : ordB l 1 0 = [] := by simp [ordB, rowOf]
theorem ordB_le (l : List Nat) (n k m : Nat) : ordB l n k <+: ordB l n (k + m) := by
  induction m with
  | zero => exact List.prefix_refl _
  | succ m ih =>
    by_cases h : l.getD (k + m) 0 = n
    · rw [← Nat.add_assoc, ordB_hit l n _ h]; exact ih.trans (List.prefix_append _ _)
    · rw [← Nat.add_assoc, ordB_miss l n _ h]; exact ih
theorem ordB_ord' (l : List Nat) (d n k : Nat) (hn : n + d = 20) (h0 : n ≠ 0) (hk : k ≤ l.length) : ordB l n k <+: ord l := by
  induction d generalizing n k with
  | zero =>
    obtain rfl : n = 20 := by omega
    have := ordB_le l 20 k (l.length - k)
    rwa [show k + (l.length - k) = l.length by omega] at this
  | succ d ih =>
    have h1 := ordB_le l n k (l.length - k)
    rw [show k + (l.length - k) = l.length by omega, ← ordB_row l n h0] at h1
    exact h1.trans (ih (n + 1) 0 (by omega) (by omega) (by omega))
theorem ordB_ord (l : List Nat) (n k : Nat) (hn : n ≤ 20) (h0 : n ≠ 0) (hk : k ≤ l.length) : ordB l n k <+: ord l := ordB_ord' l (20 - n) n k (by omega) h0 hk
/-- at a hit the next pair is this one -/
theorem ord_at (l : List Nat) (n k : Nat) (hn : n ≤ 20) (h0 : n ≠ 0) (hk : k < l.length) (h : l.getD k 0 = n) : (ord l)[(ordB l n k).length]? = some (k, n) := by
  obtain ⟨t, ht⟩ := ordB_ord l n (k + 1) hn h0 (by omega)
  rw [← ht, ordB_hit l n k h]
  simp
theorem ordB_mem (l : List Nat) (n k : Nat) (hn : n ≠ 0) : ∀ p ∈ ordB l n k, p.2 ≤ n := by
  induction n generalizing k with
  | zero => omega
  | succ n ih =>
    intro p hp
    simp only [ordB, List.mem_append] at hp
    rcases hp with hp | hp
    · by_cases h : n = 0
      · simp [h] at hp
      · simp only [h, if_false] at hp
        have := ih l.length h p hp
        omega
    · simp only [rowOf, List.mem_filterMap, List.mem_range, Option.ite_none_right_eq_some, Option.some.injEq] at hp
      obtain ⟨i, _, _, rfl⟩ := hp
      exact Nat.le_refl _
/-- each place of the order is a hit -/
theorem ord_pos' (l : List Nat) (n k : Nat) (hn : n ≤ 20) (h0 : n ≠ 0) (hk : k ≤ l.length) (j : Nat) (hj : j < (ordB l n k).length) :
    ∃ n' k', n' ≠ 0 ∧ n' ≤ 20 ∧ k' < l.length ∧ l.getD k' 0 = n' ∧ (ordB l n' k').length = j := by
  induction n generalizing k j with
  | zero => omega
  | succ n ih =>
    induction k generalizing j with
    | zero =>
      by_cases h : n = 0
      · subst h; rw [ordB_one] at hj; simp at hj
      · rw [ordB_row l n h] at hj
        exact ih l.length (by omega) h (Nat.le_refl _) j hj
    | succ k ihk =>
      by_cases h : l.getD k 0 = n + 1
      · rw [ordB_hit l _ k h, List.length_append] at hj
        simp only [List.length_cons, List.length_nil] at hj
        by_cases e : j < (ordB l (n + 1) k).length
        · exact ihk (by omega) j e
        · exact ⟨n + 1, k, by omega, hn, by omega, h, by omega⟩
      · rw [ordB_miss l _ k h] at hj
        exact ihk (by omega) j hj
theorem ord_pos (l : List Nat) (j : Nat) (hj : j < (ord l).length) :
    ∃ n k, n ≠ 0 ∧ n ≤ 20 ∧ k < l.length ∧ l.getD k 0 = n ∧ (ordB l n k).length = j ∧ (ord l)[j]? = some (k, n) := by
  obtain ⟨n, k, h1, h2, h3, h4, h5⟩ := ord_pos' l 20 l.length (by omega) (by omega) (Nat.le_refl _) j hj
  exact ⟨n, k, h1, h2, h3, h4, h5, by rw [← h5]; exact ord_at l n k h2 h1 h3 h4⟩
def accI (l : List Nat) (j : Nat) : Nat := (((ord l).take j).map fun p => 2 ^ (20 - p.2)).sum
def outsI (l : List Nat) (j : Nat) : List Nat := ((ord l).take j).foldl (fun o p => o.set p.1 (word l p.1)) (List.replicate l.length 0)
theorem accI_succ (l : List Nat) (j k n : Nat) (h : (ord l)[j]? = some (k, n)) : accI l (j + 1) = accI l j + 2 ^ (20 - n) := by
  unfold accI
  rw [List.take_add_one, h]
  simp
theorem outsI_succ (l : List Nat) (j k n : Nat) (h : (ord l)[j]? = some (k, n)) : outsI l (j + 1) = (outsI l j).set k (word l k) := by
  unfold outsI
  rw [List.take_add_one, h]
  simp
theorem acc_I' (l : List Nat) (n k : Nat) (hn : n ≤ 20) (h0 : n ≠ 0) (hk : k ≤ l.length) :
    acc l n k = accI l (ordB l n k).length ∧ outs l n k = outsI l (ordB l n k).length := by
  induction n generalizing k with
  | zero => omega
  | succ n ih =>
    induction k with
    | zero =>
      by_cases h : n = 0
      · subst h
        rw [ordB_one, acc_one, outs_one]
        simp [accI, outsI]
      · rw [ordB_row l n h, ← acc_row, ← outs_row]
        exact ih l.length (by omega) h (Nat.le_refl _)
    | succ k ihk =>
      obtain ⟨ih1, ih2⟩ := ihk (by omega)
      have hg : l.getD k 0 = l[k] := by simp [show k < l.length by omega]
      by_cases h : l.getD k 0 = n + 1
      · have ha := ord_at l (n + 1) k hn h0 (by omega) h
        rw [ordB_hit l _ k h, List.length_append]
        simp only [List.length_cons, List.length_nil]
        rw [accI_succ l _ k _ ha, outsI_succ l _ k _ ha, ← ih1, ← ih2, acc_hit l (n + 1) k (by omega) (by omega) (by omega), outs_hit l (n + 1) k (by omega) (by omega) (by omega)]
        refine ⟨rfl, ?_⟩
        rw [word, if_neg (by omega), h]
      · rw [ordB_miss l _ k h, acc_miss l (n + 1) k (by omega) (by omega), outs_miss l (n + 1) k (by omega) (by omega)]
        exact ⟨ih1, ih2⟩
theorem outsI_end (l : List Nat) (h : ∀ x ∈ l, x ≤ 20) : outsI l (ord l).length = words l := by
  rw [← outs_end l h, ← outs_row]
  exact (acc_I' l 20 l.length (by omega) (by omega) (Nat.le_refl _)).2.symm
theorem foldl_set_length (t : List (Nat × Nat)) (f : Nat × Nat → Nat) (o : List Nat) : (t.foldl (fun o p => o.set p.1 (f p)) o).length = o.length := by
  induction t generalizing o with
  | nil => rfl
  | cons a t ih => simp [ih]
theorem outsI_length (l : List Nat) (j : Nat) : (outsI l j).length = l.length := by
  unfold outsI; rw [foldl_set_length _ (fun p => word l p.1)]; simp
theorem accI_le (l : List Nat) (j : Nat) (h : j < (ord l).length) : accI l j ≤ weight l := by
  obtain ⟨n, k, h1, h2, h3, h4, h5, h6⟩ := ord_pos l j h
  rw [← h5, ← (acc_I' l n k h2 h1 (by omega)).1]
  exact acc_le _ _ _
def bitsI (l : List Nat) (j : Nat) : Nat := if j = 0 then 0 else ((ord l).getD (j - 1) (0, 0)).2
/-- one step of Words, by the order -/
theorem words_step (l : List Nat) (j nx : Nat) (hj : j < (ord l).length) (hw : weight l ≤ 2 ^ 20) (hx : nx * 2 ^ (20 - bitsI l j) = accI l j) :
    ∃ k n, (ord l)[j]? = some (k, n) ∧ k < l.length ∧ n ≠ 0 ∧ n ≤ 20 ∧ bitsI l j ≤ n ∧ bitsI l (j + 1) = n ∧ word l k = nx * 2 ^ (n - bitsI l j) ∧ nx * 2 ^ (n - bitsI l j) ≤ 2 ^ 20 ∧
      (nx * 2 ^ (n - bitsI l j) + 1) * 2 ^ (20 - n) = accI l (j + 1) := by
  obtain ⟨n, k, h1, h2, h3, h4, h5, h6⟩ := ord_pos l j hj
  have hb : bitsI l j ≤ n := by
    unfold bitsI
    split
    · omega
    · rename_i h
      have hp := ordB_ord l n k h2 h1 (by omega)
      have hl : j - 1 < (ordB l n k).length := by omega
      obtain ⟨t, ht⟩ := hp
      have : (ord l).getD (j - 1) (0, 0) = (ordB l n k)[j - 1] := by
        rw [← ht]; simp [List.getD, List.getElem?_append_left hl, List.getElem?_eq_getElem hl]
      rw [this]
      exact ordB_mem l n k h1 _ (List.getElem_mem hl)
  have hbn : bitsI l (j + 1) = n := by simp [bitsI, List.getD, h6]
  have he : 20 - bitsI l j = (n - bitsI l j) + (20 - n) := by omega
  have hpow : 2 ^ (20 - bitsI l j) = 2 ^ (n - bitsI l j) * 2 ^ (20 - n) := by rw [he, Nat.pow_add]
  have hacc : accI l j = nx * 2 ^ (n - bitsI l j) * 2 ^ (20 - n) := by rw [← hx, hpow, Nat.mul_assoc]
  have hpos : 0 < 2 ^ (20 - n) := Nat.pow_pos (by decide)
  have hal := accI_le l j hj
  rw [hacc] at hal
  have hm := Nat.le_mul_of_pos_right (nx * 2 ^ (n - bitsI l j)) hpos
  clear he hpow
  refine ⟨k, n, h6, h3, h1, h2, hb, hbn, ?_, ?_, ?_⟩
  · rw [word, if_neg (by omega), h4, (acc_I' l n k h2 h1 (by omega)).1, h5, hacc, Nat.mul_div_cancel _ hpos]
  · exact Nat.le_trans hm (Nat.le_trans hal hw)
  · rw [accI_succ l j k n h6, hacc, Nat.add_mul, Nat.one_mul]
end Go.Proofs.Ytmgoeokdlklabaa.M04
