/- Plain mathematics of layer 4: the weight of a code, and its words. Plain mathematics of layer 5: lengths that cost least: rows of packages, what is taken of each, the lengths; they make a full code. Plain mathematics of layer 5: the insertion sort by frequency puts the rarest first. Plain words that all walks of this seat use: a slice that is read as a list of numbers. Owned slices of numbers: what a call makes itself, as a list; laws for make, append, load and store. -/
import Derived.Lib.Hide
import Derived.WalkKit
import Derived.WalkLawsBesides
import Derived.WalkSpells
import Derived.Below
import Derived.OneCell
import Derived.OwnWalkIn
import Derived.Laws.BytesString
namespace Go.Proofs.Ytmgoeokdlklabaa.M04
def wt (n : Nat) : Nat := if n = 0 then 0 else 2 ^ (20 - n)
def weight (l : List Nat) : Nat := (l.map wt).sum
theorem wt_le (n : Nat) : wt n ≤ 2 ^ 20 := by
  unfold wt; split
  · simp
  · exact Nat.pow_le_pow_right (by simp) (by omega)
theorem weight_le (l : List Nat) : weight l ≤ l.length * 2 ^ 20 := by
  induction l with
  | nil => simp [weight]
  | cons a l ih => have := wt_le a; simp only [weight, List.map_cons, List.sum_cons, List.length_cons] at *; omega
theorem take_snoc {α : Type} (l : List α) (k : Nat) (h : k < l.length) : l.take (k + 1) = l.take k ++ [l[k]] := List.take_succ_eq_append_getElem h
theorem weight_succ (l : List Nat) (k : Nat) (h : k < l.length) : weight (l.take (k + 1)) = weight (l.take k) + wt l[k] := by
  rw [take_snoc l k h]; simp only [weight, List.map_append, List.map_cons, List.map_nil, List.sum_append, List.sum_cons, List.sum_nil]; omega
theorem weight_take_le (l : List Nat) (k : Nat) (h : l.length ≤ 512) : weight (l.take k) ≤ 512 * 2 ^ 20 :=
  Nat.le_trans (weight_le _) (by simp; omega)
def May (l : List Nat) : Prop := (∀ x ∈ l, x ≤ 20) ∧ l.length ≤ 512
instance (l : List Nat) : Decidable (May l) := by unfold May; infer_instance
def top (l : List Nat) : Nat := l.foldl max 0
theorem top_snoc (l : List Nat) (k : Nat) (h : k < l.length) : top (l.take (k + 1)) = max (top (l.take k)) l[k] := by
  rw [take_snoc l k h]; simp only [top, List.foldl_append, List.foldl_cons, List.foldl_nil]
theorem foldl_max_le (l : List Nat) (a n : Nat) : l.foldl max a ≤ n ↔ a ≤ n ∧ ∀ x ∈ l, x ≤ n := by
  induction l generalizing a with
  | nil => simp
  | cons b l ih =>
    simp only [List.foldl_cons, ih, List.mem_cons, forall_eq_or_imp, ← and_assoc]
    refine and_congr_left fun _ => ?_
    omega
theorem top_le (l : List Nat) (n : Nat) : top l ≤ n ↔ ∀ x ∈ l, x ≤ n := by
  unfold top; rw [foldl_max_le]; simp
def mayB (l : List Nat) : Bool := decide (May l)
def cls (l : List Nat) : Nat := if weight l = 0 then 0 else if weight l < 2 ^ 20 then 1 else if weight l = 2 ^ 20 then 2 else 3
def clsE (l : List Nat) : Nat × Nat := if May l then (cls l, 0) else (0, 5)
def S (f : Nat → Nat) : Nat → Nat
  | 0 => 0
  | m + 1 => S f m + f m
theorem S_congr {f g : Nat → Nat} {m : Nat} (h : ∀ j, j < m → f j = g j) : S f m = S g m := by
  induction m with
  | zero => rfl
  | succ m ih => simp only [S]; rw [ih fun j hj => h j (by omega), h m (by omega)]
theorem S_le {f g : Nat → Nat} {m : Nat} (h : ∀ j, j < m → f j ≤ g j) : S f m ≤ S g m := by
  induction m with
  | zero => simp [S]
  | succ m ih => simp only [S]; have := ih fun j hj => h j (by omega); have := h m (by omega); omega
theorem S_zero {f : Nat → Nat} {m : Nat} (h : ∀ j, j < m → f j = 0) : S f m = 0 := by
  induction m with
  | zero => rfl
  | succ m ih => simp only [S]; rw [ih fun j hj => h j (by omega), h m (by omega)]
theorem S_one {f g : Nat → Nat} {m k : Nat} (hk : k < m) (h : ∀ j, j < m → j ≠ k → f j = g j) : S f m + g k = S g m + f k := by
  induction m with
  | zero => omega
  | succ m ih =>
    simp only [S]
    by_cases e : k = m
    · subst e
      rw [S_congr (fun j hj => h j (by omega) (by omega))]; omega
    · have := ih (by omega) (fun j hj hne => h j (by omega) hne)
      have := h m (by omega) (by omega)
      omega
theorem S_dvd {f : Nat → Nat} {m d : Nat} (h : ∀ j, j < m → d ∣ f j) : d ∣ S f m := by
  induction m with
  | zero => exact ⟨0, rfl⟩
  | succ m ih => exact Nat.dvd_add (ih fun j hj => h j (by omega)) (h m (by omega))
theorem S_cons (f : Nat → Nat) (m : Nat) : S f (m + 1) = f 0 + S (fun j => f (j + 1)) m := by
  induction m with
  | zero => simp [S]
  | succ m ih => rw [S, ih, S]; omega
theorem weight_S (l : List Nat) : weight l = S (fun j => wt (l.getD j 0)) l.length := by
  induction l with
  | nil => rfl
  | cons a l ih =>
    rw [List.length_cons, S_cons]
    simp only [weight, List.map_cons, List.sum_cons] at *
    rw [ih]; simp
def pre (l : List Nat) (n k j : Nat) : Prop := l.getD j 0 ≠ 0 ∧ (l.getD j 0 < n ∨ l.getD j 0 = n ∧ j < k)
instance (l : List Nat) (n k j : Nat) : Decidable (pre l n k j) := by unfold pre; infer_instance
def acc (l : List Nat) (n k : Nat) : Nat := S (fun j => if pre l n k j then wt (l.getD j 0) else 0) l.length
def word (l : List Nat) (i : Nat) : Nat := if l.getD i 0 = 0 then 0 else acc l (l.getD i 0) i / 2 ^ (20 - l.getD i 0)
def words (l : List Nat) : List Nat := (List.range l.length).map (word l)
def outs (l : List Nat) (n k : Nat) : List Nat := (List.range l.length).map fun i => if pre l n k i then word l i else 0
theorem words_length (l : List Nat) : (words l).length = l.length := by simp [words]
theorem acc_one (l : List Nat) : acc l 1 0 = 0 := S_zero fun j _ => by
  rw [if_neg]; unfold pre; omega
theorem acc_row (l : List Nat) (n : Nat) : acc l n l.length = acc l (n + 1) 0 := S_congr fun j hj => by
  have : pre l n l.length j ↔ pre l (n + 1) 0 j := by unfold pre; omega
  simp only [this]
theorem acc_le (l : List Nat) (n k : Nat) : acc l n k ≤ weight l := by
  rw [weight_S]
  exact S_le fun j _ => by split <;> omega
theorem acc_hit (l : List Nat) (n k : Nat) (hn : n ≠ 0) (hk : k < l.length) (h : l[k] = n) : acc l n (k + 1) = acc l n k + 2 ^ (20 - n) := by
  have hg : l.getD k 0 = n := by simp [hk, h]
  have := S_one (f := fun j => if pre l n (k + 1) j then wt (l.getD j 0) else 0) (g := fun j => if pre l n k j then wt (l.getD j 0) else 0) hk (fun j hj hne => by
    have : pre l n (k + 1) j ↔ pre l n k j := by unfold pre; omega
    simp only [this])
  rw [if_neg (by unfold pre; omega), if_pos (by unfold pre; omega), hg, wt, if_neg hn] at this
  unfold acc
  omega
theorem acc_miss (l : List Nat) (n k : Nat) (hk : k < l.length) (h : l[k] ≠ n) : acc l n (k + 1) = acc l n k := S_congr fun j hj => by
  have hg : l.getD k 0 = l[k] := by simp [hk]
  have : pre l n (k + 1) j ↔ pre l n k j := by
    unfold pre
    constructor
    · rintro ⟨h1, h2 | ⟨h2, h3⟩⟩
      · exact ⟨h1, .inl h2⟩
      · refine ⟨h1, .inr ⟨h2, ?_⟩⟩
        by_cases e : j = k
        · subst e; omega
        · omega
    · rintro ⟨h1, h2⟩; exact ⟨h1, by omega⟩
  simp only [this]
theorem acc_dvd (l : List Nat) (n k : Nat) : 2 ^ (20 - n) ∣ acc l n k := S_dvd fun j _ => by
  split
  · rename_i h
    have h0 : l.getD j 0 ≠ 0 := h.1
    have hle : l.getD j 0 ≤ n := by have := h.2; omega
    rw [wt, if_neg h0]
    exact Nat.pow_dvd_pow 2 (by omega)
  · exact Nat.dvd_zero _
theorem outs_one (l : List Nat) : outs l 1 0 = List.replicate l.length 0 := by
  apply List.ext_getElem (by simp [outs])
  intro i h1 h2
  simp only [outs, List.getElem_map, List.getElem_range, List.getElem_replicate]
  rw [if_neg]; unfold pre; omega
theorem outs_row (l : List Nat) (n : Nat) : outs l n l.length = outs l (n + 1) 0 := by
  apply List.ext_getElem (by simp [outs])
  intro i h1 h2
  simp only [outs, List.length_map, List.length_range] at h1
  simp only [outs, List.getElem_map, List.getElem_range]
  have : pre l n l.length i ↔ pre l (n + 1) 0 i := by unfold pre; omega
  simp only [this]
theorem outs_hit (l : List Nat) (n k : Nat) (hn : n ≠ 0) (hk : k < l.length) (h : l[k] = n) : outs l n (k + 1) = (outs l n k).set k (acc l n k / 2 ^ (20 - n)) := by
  have hg : l.getD k 0 = n := by simp [hk, h]
  apply List.ext_getElem (by simp [outs])
  intro i h1 h2
  simp only [outs, List.length_map, List.length_range] at h1
  rw [List.getElem_set]
  simp only [outs, List.getElem_map, List.getElem_range]
  by_cases e : k = i
  · subst e
    rw [if_pos (by unfold pre; omega), if_pos rfl, word, if_neg (by omega), hg]
  · rw [if_neg e]
    have : pre l n (k + 1) i ↔ pre l n k i := by unfold pre; omega
    simp only [this]
theorem outs_miss (l : List Nat) (n k : Nat) (hk : k < l.length) (h : l[k] ≠ n) : outs l n (k + 1) = outs l n k := by
  apply List.ext_getElem (by simp [outs])
  intro i h1 h2
  simp only [outs, List.getElem_map, List.getElem_range]
  have hg : l.getD k 0 = l[k] := by simp [hk]
  have : pre l n (k + 1) i ↔ pre l n k i := by
    unfold pre
    constructor
    · rintro ⟨h1, h2 | ⟨h2, h3⟩⟩
      · exact ⟨h1, .inl h2⟩
      · refine ⟨h1, .inr ⟨h2, ?_⟩⟩
        by_cases e : i = k
        · subst e; omega
        · omega
    · rintro ⟨h1, h2⟩; exact ⟨h1, by omega⟩
  simp only [this]
theorem getD_le {l : List Nat} {n : Nat} (h : ∀ x ∈ l, x ≤ n) (i : Nat) : l.getD i 0 ≤ n := by
  by_cases hi : i < l.length
  · simp only [List.getD_eq_getElem?_getD, List.getElem?_eq_getElem hi, Option.getD_some]; exact h _ (List.getElem_mem hi)
  · simp only [List.getD_eq_getElem?_getD, List.getElem?_eq_none (by omega : l.length ≤ i), Option.getD_none]; omega
theorem outs_end (l : List Nat) (h : ∀ x ∈ l, x ≤ 20) : outs l 21 0 = words l := by
  apply List.ext_getElem (by simp [outs, words])
  intro i h1 h2
  simp only [outs, words, List.getElem_map, List.getElem_range]
  have := getD_le h i
  by_cases e : l.getD i 0 = 0
  · rw [if_neg (by unfold pre; omega), word, if_pos e]
  · rw [if_pos (by unfold pre; omega)]
def wordsE (l : List Nat) : List Nat × Nat := if ¬ May l then ([], 5) else if 2 ^ 20 < weight l then ([], 2) else (words l, 0)
def rowOf (l : List Nat) (n k : Nat) : List (Nat × Nat) := (List.range k).filterMap fun i => if l.getD i 0 = n then some (i, n) else none
def ordB (l : List Nat) : Nat → Nat → List (Nat × Nat)
  | 0, k => rowOf l 0 k
  | n + 1, k => (if n = 0 then [] else ordB l n l.length) ++ rowOf l (n + 1) k
def ord (l : List Nat) : List (Nat × Nat) := ordB l 20 l.length
theorem rowOf_hit (l : List Nat) (n k : Nat) (h : l.getD k 0 = n) : rowOf l n (k + 1) = rowOf l n k ++ [(k, n)] := by
  simp only [rowOf, List.range_succ, List.filterMap_append, List.filterMap_cons, List.filterMap_nil, h, if_true]
theorem rowOf_miss (l : List Nat) (n k : Nat) (h : l.getD k 0 ≠ n) : rowOf l n (k + 1) = rowOf l n k := by
  simp only [rowOf, List.range_succ, List.filterMap_append, List.filterMap_cons, List.filterMap_nil, h, if_false, List.append_nil]
theorem ordB_hit (l : List Nat) (n k : Nat) (h : l.getD k 0 = n) : ordB l n (k + 1) = ordB l n k ++ [(k, n)] := by
  cases n with
  | zero => exact rowOf_hit l 0 k h
  | succ n => simp only [ordB]; rw [rowOf_hit l _ k h, List.append_assoc]
theorem ordB_miss (l : List Nat) (n k : Nat) (h : l.getD k 0 ≠ n) : ordB l n (k + 1) = ordB l n k := by
  cases n with
  | zero => exact rowOf_miss l 0 k h
  | succ n => simp only [ordB]; rw [rowOf_miss l _ k h]
theorem ordB_row (l : List Nat) (n : Nat) (hn : n ≠ 0) : ordB l (n + 1) 0 = ordB l n l.length := by
  simp [ordB, rowOf, hn]
theorem ordB_one (l : List Nat) : ordB l 1 0 = [] := by simp [ordB, rowOf]
theorem ordB_le (l : List Nat) (n k m : Nat) : ordB l n k <+: ordB l n (k + m) := by
  induction m with
  | zero => exact List.prefix_refl _
  | succ m ih =>
    by_cases h : l.getD (k + m) 0 = n
    · rw [← Nat.add_assoc, ordB_hit l n _ h]; exact ih.trans (List.prefix_append _ _)
    · rw [← Nat.add_assoc, ordB_miss l n _ h]; exact ih
theorem ordB_ord' (l : List Nat) (d n k : Nat) (hn : n + d = 20) (h0 : n ≠ 0) (hk : k ≤ l.length) : ordB l n k <+: ord l := by
  induction d generalizing n k with
  | zero =>
    obtain rfl : n = 20 := by omega
    have := ordB_le l 20 k (l.length - k)
    rwa [show k + (l.length - k) = l.length by omega] at this
  | succ d ih =>
    have h1 := ordB_le l n k (l.length - k)
    rw [show k + (l.length - k) = l.length by omega, ← ordB_row l n h0] at h1
    exact h1.trans (ih (n + 1) 0 (by omega) (by omega) (by omega))
theorem ordB_ord (l : List Nat) (n k : Nat) (hn : n ≤ 20) (h0 : n ≠ 0) (hk : k ≤ l.length) : ordB l n k <+: ord l := ordB_ord' l (20 - n) n k (by omega) h0 hk
theorem ord_at (l : List Nat) (n k : Nat) (hn : n ≤ 20) (h0 : n ≠ 0) (hk : k < l.length) (h : l.getD k 0 = n) : (ord l)[(ordB l n k).length]? = some (k, n) := by
  obtain ⟨t, ht⟩ := ordB_ord l n (k + 1) hn h0 (by omega)
  rw [← ht, ordB_hit l n k h]
  simp
theorem ordB_mem (l : List Nat) (n k : Nat) (hn : n ≠ 0) : ∀ p ∈ ordB l n k, p.2 ≤ n := by
  induction n generalizing k with
  | zero => omega
  | succ n ih =>
    intro p hp
    simp only [ordB, List.mem_append] at hp
    rcases hp with hp | hp
    · by_cases h : n = 0
      · simp [h] at hp
      · simp only [h, if_false] at hp
        have := ih l.length h p hp
        omega
    · simp only [rowOf, List.mem_filterMap, List.mem_range, Option.ite_none_right_eq_some, Option.some.injEq] at hp
      obtain ⟨i, _, _, rfl⟩ := hp
      exact Nat.le_refl _
theorem ord_pos' (l : List Nat) (n k : Nat) (hn : n ≤ 20) (h0 : n ≠ 0) (hk : k ≤ l.length) (j : Nat) (hj : j < (ordB l n k).length) :
    ∃ n' k', n' ≠ 0 ∧ n' ≤ 20 ∧ k' < l.length ∧ l.getD k' 0 = n' ∧ (ordB l n' k').length = j := by
  induction n generalizing k j with
  | zero => omega
  | succ n ih =>
    induction k generalizing j with
    | zero =>
      by_cases h : n = 0
      · subst h; rw [ordB_one] at hj; simp at hj
      · rw [ordB_row l n h] at hj
        exact ih l.length (by omega) h (Nat.le_refl _) j hj
    | succ k ihk =>
      by_cases h : l.getD k 0 = n + 1
      · rw [ordB_hit l _ k h, List.length_append] at hj
        simp only [List.length_cons, List.length_nil] at hj
        by_cases e : j < (ordB l (n + 1) k).length
        · exact ihk (by omega) j e
        · exact ⟨n + 1, k, by omega, hn, by omega, h, by omega⟩
      · rw [ordB_miss l _ k h] at hj
        exact ihk (by omega) j hj
theorem ord_pos (l : List Nat) (j : Nat) (hj : j < (ord l).length) :
    ∃ n k, n ≠ 0 ∧ n ≤ 20 ∧ k < l.length ∧ l.getD k 0 = n ∧ (ordB l n k).length = j ∧ (ord l)[j]? = some (k, n) := by
  obtain ⟨n, k, h1, h2, h3, h4, h5⟩ := ord_pos' l 20 l.length (by omega) (by omega) (Nat.le_refl _) j hj
  exact ⟨n, k, h1, h2, h3, h4, h5, by rw [← h5]; exact ord_at l n k h2 h1 h3 h4⟩
def accI (l : List Nat) (j : Nat) : Nat := (((ord l).take j).map fun p => 2 ^ (20 - p.2)).sum
def outsI (l : List Nat) (j : Nat) : List Nat := ((ord l).take j).foldl (fun o p => o.set p.1 (word l p.1)) (List.replicate l.length 0)
theorem accI_succ (l : List Nat) (j k n : Nat) (h : (ord l)[j]? = some (k, n)) : accI l (j + 1) = accI l j + 2 ^ (20 - n) := by
  unfold accI
  rw [List.take_add_one, h]
  simp
theorem outsI_succ (l : List Nat) (j k n : Nat) (h : (ord l)[j]? = some (k, n)) : outsI l (j + 1) = (outsI l j).set k (word l k) := by
  unfold outsI
  rw [List.take_add_one, h]
  simp
theorem acc_I' (l : List Nat) (n k : Nat) (hn : n ≤ 20) (h0 : n ≠ 0) (hk : k ≤ l.length) :
    acc l n k = accI l (ordB l n k).length ∧ outs l n k = outsI l (ordB l n k).length := by
  induction n generalizing k with
  | zero => omega
  | succ n ih =>
    induction k with
    | zero =>
      by_cases h : n = 0
      · subst h
        rw [ordB_one, acc_one, outs_one]
        simp [accI, outsI]
      · rw [ordB_row l n h, ← acc_row, ← outs_row]
        exact ih l.length (by omega) h (Nat.le_refl _)
    | succ k ihk =>
      obtain ⟨ih1, ih2⟩ := ihk (by omega)
      have hg : l.getD k 0 = l[k] := by simp [show k < l.length by omega]
      by_cases h : l.getD k 0 = n + 1
      · have ha := ord_at l (n + 1) k hn h0 (by omega) h
        rw [ordB_hit l _ k h, List.length_append]
        simp only [List.length_cons, List.length_nil]
        rw [accI_succ l _ k _ ha, outsI_succ l _ k _ ha, ← ih1, ← ih2, acc_hit l (n + 1) k (by omega) (by omega) (by omega), outs_hit l (n + 1) k (by omega) (by omega) (by omega)]
        refine ⟨rfl, ?_⟩
        rw [word, if_neg (by omega), h]
      · rw [ordB_miss l _ k h, acc_miss l (n + 1) k (by omega) (by omega), outs_miss l (n + 1) k (by omega) (by omega)]
        exact ⟨ih1, ih2⟩
theorem outsI_end (l : List Nat) (h : ∀ x ∈ l, x ≤ 20) : outsI l (ord l).length = words l := by
  rw [← outs_end l h, ← outs_row]
  exact (acc_I' l 20 l.length (by omega) (by omega) (Nat.le_refl _)).2.symm
theorem foldl_set_length (t : List (Nat × Nat)) (f : Nat × Nat → Nat) (o : List Nat) : (t.foldl (fun o p => o.set p.1 (f p)) o).length = o.length := by
  induction t generalizing o with
  | nil => rfl
  | cons a t ih => simp [ih]
theorem outsI_length (l : List Nat) (j : Nat) : (outsI l j).length = l.length := by
  unfold outsI; rw [foldl_set_length _ (fun p => word l p.1)]; simp
theorem accI_le (l : List Nat) (j : Nat) (h : j < (ord l).length) : accI l j ≤ weight l := by
  obtain ⟨n, k, h1, h2, h3, h4, h5, h6⟩ := ord_pos l j h
  rw [← h5, ← (acc_I' l n k h2 h1 (by omega)).1]
  exact acc_le _ _ _
def bitsI (l : List Nat) (j : Nat) : Nat := if j = 0 then 0 else ((ord l).getD (j - 1) (0, 0)).2
theorem words_step (l : List Nat) (j nx : Nat) (hj : j < (ord l).length) (hw : weight l ≤ 2 ^ 20) (hx : nx * 2 ^ (20 - bitsI l j) = accI l j) :
    ∃ k n, (ord l)[j]? = some (k, n) ∧ k < l.length ∧ n ≠ 0 ∧ n ≤ 20 ∧ bitsI l j ≤ n ∧ bitsI l (j + 1) = n ∧ word l k = nx * 2 ^ (n - bitsI l j) ∧ nx * 2 ^ (n - bitsI l j) ≤ 2 ^ 20 ∧
      (nx * 2 ^ (n - bitsI l j) + 1) * 2 ^ (20 - n) = accI l (j + 1) := by
  obtain ⟨n, k, h1, h2, h3, h4, h5, h6⟩ := ord_pos l j hj
  have hb : bitsI l j ≤ n := by
    unfold bitsI
    split
    · omega
    · rename_i h
      have hp := ordB_ord l n k h2 h1 (by omega)
      have hl : j - 1 < (ordB l n k).length := by omega
      obtain ⟨t, ht⟩ := hp
      have : (ord l).getD (j - 1) (0, 0) = (ordB l n k)[j - 1] := by
        rw [← ht]; simp [List.getD, List.getElem?_append_left hl, List.getElem?_eq_getElem hl]
      rw [this]
      exact ordB_mem l n k h1 _ (List.getElem_mem hl)
  have hbn : bitsI l (j + 1) = n := by simp [bitsI, List.getD, h6]
  have he : 20 - bitsI l j = (n - bitsI l j) + (20 - n) := by omega
  have hpow : 2 ^ (20 - bitsI l j) = 2 ^ (n - bitsI l j) * 2 ^ (20 - n) := by rw [he, Nat.pow_add]
  have hacc : accI l j = nx * 2 ^ (n - bitsI l j) * 2 ^ (20 - n) := by rw [← hx, hpow, Nat.mul_assoc]
  have hpos : 0 < 2 ^ (20 - n) := Nat.pow_pos (by decide)
  have hal := accI_le l j hj
  rw [hacc] at hal
  have hm := Nat.le_mul_of_pos_right (nx * 2 ^ (n - bitsI l j)) hpos
  clear he hpow
  refine ⟨k, n, h6, h3, h1, h2, hb, hbn, ?_, ?_, ?_⟩
  · rw [word, if_neg (by omega), h4, (acc_I' l n k h2 h1 (by omega)).1, h5, hacc, Nat.mul_div_cancel _ hpos]
  · exact Nat.le_trans hm (Nat.le_trans hal hw)
  · rw [accI_succ l j k n h6, hacc, Nat.add_mul, Nat.one_mul]
end Go.Proofs.Ytmgoeokdlklabaa.M04

namespace Go.Proofs.Ytmgoeokdlklabaa.M05
set_option linter.unusedVariables false
def ltF (f : List Nat) (a b : Nat) : Bool := decide (f.getD a 0 < f.getD b 0) || (decide (f.getD a 0 = f.getD b 0) && decide (a < b))
def insF (f : List Nat) (x : Nat) : List Nat → List Nat
  | [] => [x]
  | y :: l => if ltF f x y then x :: y :: l else y :: insF f x l
def used (f : List Nat) : List Nat := (List.range f.length).filter fun s => decide (0 < f.getD s 0)
def rar (f : List Nat) : List Nat := (used f).foldr (insF f) []
abbrev Item := Nat × Nat
def nextF : Nat → List Nat → List Nat → List Item
  | 0, _, _ => []
  | f + 1, s :: sy, a :: b :: t => if s ≤ a + b then (s, 1) :: nextF f sy (a :: b :: t) else (a + b, 0) :: nextF f (s :: sy) t
  | f + 1, s :: sy, l => (s, 1) :: nextF f sy l
  | f + 1, [], a :: b :: t => (a + b, 0) :: nextF f [] t
  | _ + 1, [], _ => []
def nextR (sy last : List Nat) : List Item := nextF (sy.length + last.length + 1) sy last
def wts (r : List Item) : List Nat := r.map fun x => x.1
def symN (r : List Item) (t : Nat) : Nat := ((r.take t).map fun x => x.2).sum
def rowS (sy : List Nat) : Nat → List Item
  | 0 => nextR sy []
  | i + 1 => nextR sy (wts (rowS sy i))
def tkn (sy : List Nat) (lim : Nat) : Nat → Nat
  | 0 => 2 * sy.length - 2
  | i + 1 => 2 * (tkn sy lim i - symN (rowS sy (lim - 1 - i)) (tkn sy lim i))
def cnt (sy : List Nat) (lim i : Nat) : Nat := symN (rowS sy (lim - 1 - i)) (tkn sy lim i)
def lenJ (sy : List Nat) (lim j : Nat) : Nat := ((List.range lim).filter fun i => decide (j < cnt sy lim i)).length
theorem nextF_more : ∀ (f g : Nat) (sy last : List Nat), sy.length + last.length + 1 ≤ f → sy.length + last.length + 1 ≤ g → nextF f sy last = nextF g sy last := by
  intro f
  induction f with
  | zero => intro g sy last h; omega
  | succ f ih =>
    intro g sy last h1 h2
    obtain ⟨g, rfl⟩ : ∃ k, g = k + 1 := ⟨g - 1, by omega⟩
    match sy, last with
    | s :: sy, a :: b :: t =>
      simp only [List.length_cons] at h1 h2
      simp only [nextF]
      rw [ih g sy (a :: b :: t) (by simp; omega) (by simp; omega), ih g (s :: sy) t (by simp; omega) (by simp; omega)]
    | s :: sy, [a] =>
      simp only [List.length_cons, List.length_nil] at h1 h2
      simp only [nextF]
      rw [ih g sy [a] (by simp; omega) (by simp; omega)]
    | s :: sy, [] =>
      simp only [List.length_cons, List.length_nil] at h1 h2
      simp only [nextF]
      rw [ih g sy [] (by simp; omega) (by simp; omega)]
    | [], a :: b :: t =>
      simp only [List.length_cons, List.length_nil] at h1 h2
      simp only [nextF]
      rw [ih g [] t (by simp; omega) (by simp; omega)]
    | [], [a] => simp [nextF]
    | [], [] => simp [nextF]
theorem nextR_two (s a b : Nat) (sy t : List Nat) : nextR (s :: sy) (a :: b :: t) = if s ≤ a + b then (s, 1) :: nextR sy (a :: b :: t) else (a + b, 0) :: nextR (s :: sy) t := by
  unfold nextR
  rw [nextF]
  rw [nextF_more _ (sy.length + (a :: b :: t).length + 1) sy (a :: b :: t) (by simp; omega) (by omega), nextF_more _ ((s :: sy).length + t.length + 1) (s :: sy) t (by simp; omega) (by omega)]
theorem nextR_sym (s : Nat) (sy l : List Nat) (hl : l.length < 2) : nextR (s :: sy) l = (s, 1) :: nextR sy l := by
  unfold nextR
  match l, hl with
  | [a], _ => rw [nextF]; rw [nextF_more _ (sy.length + [a].length + 1) sy [a] (by simp) (by omega)]; intro a' b' t h; cases h
  | [], _ => rw [nextF]; rw [nextF_more _ (sy.length + ([] : List Nat).length + 1) sy [] (by simp) (by omega)]; intro a' b' t h; cases h
theorem nextR_pkg (a b : Nat) (t : List Nat) : nextR [] (a :: b :: t) = (a + b, 0) :: nextR [] t := by
  unfold nextR
  rw [nextF]
  rw [nextF_more _ (([] : List Nat).length + t.length + 1) [] t (by simp) (by omega)]
theorem nextR_nil (l : List Nat) (hl : l.length < 2) : nextR [] l = [] := by
  unfold nextR
  match l, hl with
  | [a], _ => rfl
  | [], _ => rfl
theorem nextR_len : ∀ (n : Nat) (sy last : List Nat), sy.length + last.length ≤ n → (nextR sy last).length = sy.length + last.length / 2 := by
  intro n
  induction n with
  | zero =>
    intro sy last h
    have h1 : sy = [] := List.eq_nil_of_length_eq_zero (by omega)
    have h2 : last = [] := List.eq_nil_of_length_eq_zero (by omega)
    subst h1 h2; rfl
  | succ n ih =>
    intro sy last h
    match sy, last with
    | s :: sy, a :: b :: t =>
      simp only [List.length_cons] at h
      rw [nextR_two]
      split
      · rw [List.length_cons, ih _ _ (by simp; omega)]; simp; omega
      · rw [List.length_cons, ih _ _ (by simp; omega)]; simp; omega
    | s :: sy, [a] => rw [nextR_sym _ _ _ (by simp), List.length_cons, ih _ _ (by simp at h ⊢; omega)]; simp
    | s :: sy, [] => rw [nextR_sym _ _ _ (by simp), List.length_cons, ih _ _ (by simp at h ⊢; omega)]; simp
    | [], a :: b :: t =>
      simp only [List.length_cons, List.length_nil] at h
      rw [nextR_pkg, List.length_cons, ih _ _ (by simp; omega)]; simp; omega
    | [], [a] => rw [nextR_nil _ (by simp)]; simp
    | [], [] => rfl
theorem nextR_length (sy last : List Nat) : (nextR sy last).length = sy.length + last.length / 2 := nextR_len _ sy last (Nat.le_refl _)
theorem symN_succ (r : List Item) (t : Nat) (h : t < r.length) : symN r (t + 1) = symN r t + r[t].2 := by
  unfold symN
  rw [List.take_succ_eq_append_getElem h, List.map_append, List.sum_append]
  simp
theorem symN_cons (x : Item) (r : List Item) (t : Nat) : symN (x :: r) (t + 1) = x.2 + symN r t := by simp [symN]
theorem symN_zero (r : List Item) : symN r 0 = 0 := by simp [symN]
def isSym (r : List Item) : Prop := ∀ x ∈ r, x.2 ≤ 1
theorem symN_le (r : List Item) (h : isSym r) (t : Nat) : symN r t ≤ t := by
  induction t generalizing r with
  | zero => simp [symN]
  | succ t ih =>
    cases r with
    | nil => simp [symN]
    | cons x r =>
      rw [symN_cons]
      have := h x (by simp)
      have := ih r (fun y hy => h y (by simp [hy]))
      omega
def pkg (last : List Nat) (p : Nat) : Nat := last.getD (2 * p) 0 + last.getD (2 * p + 1) 0
theorem head_case (sy last : List Nat) (x : Item) (r : List Item) (h : nextR sy last = x :: r) :
    (x = (sy.getD 0 0, 1) ∧ 0 < sy.length ∧ r = nextR (sy.drop 1) last ∧ (2 ≤ last.length → sy.getD 0 0 ≤ pkg last 0)) ∨
    (x = (pkg last 0, 0) ∧ 2 ≤ last.length ∧ r = nextR sy (last.drop 2) ∧ (0 < sy.length → pkg last 0 < sy.getD 0 0)) := by
  match sy, last with
  | s :: sy, a :: b :: t =>
    rw [nextR_two] at h
    split at h
    · next hle =>
      simp only [List.cons.injEq] at h
      obtain ⟨rfl, rfl⟩ := h
      exact .inl ⟨rfl, by simp, rfl, fun _ => hle⟩
    · next hle =>
      simp only [List.cons.injEq] at h
      obtain ⟨rfl, rfl⟩ := h
      exact .inr ⟨rfl, by simp, rfl, fun _ => by show a + b < s; omega⟩
  | s :: sy, [a] =>
    rw [nextR_sym _ _ _ (by simp)] at h
    simp only [List.cons.injEq] at h
    obtain ⟨rfl, rfl⟩ := h
    exact .inl ⟨rfl, by simp, rfl, fun h => by simp at h⟩
  | s :: sy, [] =>
    rw [nextR_sym _ _ _ (by simp)] at h
    simp only [List.cons.injEq] at h
    obtain ⟨rfl, rfl⟩ := h
    exact .inl ⟨rfl, by simp, rfl, fun h => by simp at h⟩
  | [], a :: b :: t =>
    rw [nextR_pkg] at h
    simp only [List.cons.injEq] at h
    obtain ⟨rfl, rfl⟩ := h
    exact .inr ⟨rfl, by simp, rfl, fun h => by simp at h⟩
  | [], [a] => rw [nextR_nil _ (by simp)] at h; cases h
  | [], [] => rw [nextR_nil _ (by simp)] at h; cases h
theorem getD_drop (l : List Nat) (i j : Nat) : (l.drop i).getD j 0 = l.getD (i + j) 0 := by
  simp [List.getD_eq_getElem?_getD, List.getElem?_drop]
theorem pkg_drop (last : List Nat) (p q : Nat) : pkg (last.drop (2 * p)) q = pkg last (p + q) := by
  unfold pkg
  rw [getD_drop, getD_drop, show 2 * p + 2 * q = 2 * (p + q) by omega, show 2 * p + (2 * q + 1) = 2 * (p + q) + 1 by omega]
theorem nextR_state (sy last : List Nat) : ∀ t, t ≤ (nextR sy last).length →
    (nextR sy last).drop t = nextR (sy.drop (symN (nextR sy last) t)) (last.drop (2 * (t - symN (nextR sy last) t))) ∧ symN (nextR sy last) t ≤ t ∧ symN (nextR sy last) t ≤ sy.length ∧ 2 * (t - symN (nextR sy last) t) ≤ last.length := by
  intro t
  induction t with
  | zero => intro _; simp [symN]
  | succ t ih =>
    intro ht
    obtain ⟨h1, h2, h3, h4⟩ := ih (by omega)
    rw [List.drop_eq_getElem_cons (by omega)] at h1
    rw [symN_succ _ t (by omega)]
    generalize (nextR sy last)[t] = x at *
    generalize symN (nextR sy last) t = S at *
    rcases head_case _ _ _ _ h1.symm with ⟨rfl, h5, h6, _⟩ | ⟨rfl, h5, h6, _⟩
    · simp only [List.length_drop] at h5
      rw [h6, List.drop_drop, show t + 1 - (S + 1) = t - S by omega]
      exact ⟨rfl, by omega, by omega, h4⟩
    · simp only [List.length_drop] at h5
      rw [h6, List.drop_drop, Nat.add_zero, show 2 * (t - S) + 2 = 2 * (t + 1 - S) by omega]
      exact ⟨rfl, by omega, h3, by omega⟩
theorem nextR_item (sy last : List Nat) (t : Nat) (ht : t < (nextR sy last).length) :
    ((nextR sy last)[t] = (sy.getD (symN (nextR sy last) t) 0, 1) ∧ symN (nextR sy last) t < sy.length ∧ (2 * (t - symN (nextR sy last) t) + 2 ≤ last.length → sy.getD (symN (nextR sy last) t) 0 ≤ pkg last (t - symN (nextR sy last) t))) ∨
    ((nextR sy last)[t] = (pkg last (t - symN (nextR sy last) t), 0) ∧ 2 * (t - symN (nextR sy last) t) + 2 ≤ last.length ∧ (symN (nextR sy last) t < sy.length → pkg last (t - symN (nextR sy last) t) < sy.getD (symN (nextR sy last) t) 0)) := by
  obtain ⟨h1, h2, h3, h4⟩ := nextR_state sy last t (by omega)
  rw [List.drop_eq_getElem_cons ht] at h1
  generalize (nextR sy last)[t] = x at *
  generalize symN (nextR sy last) t = S at *
  rcases head_case _ _ _ _ h1.symm with ⟨rfl, h5, _, h6⟩ | ⟨rfl, h5, _, h6⟩
  · left
    simp only [List.length_drop] at h5 h6
    rw [getD_drop, pkg_drop] at h6
    rw [getD_drop]
    exact ⟨rfl, by omega, fun h => h6 (by omega)⟩
  · right
    simp only [List.length_drop] at h5 h6
    rw [getD_drop, pkg_drop] at h6
    rw [pkg_drop]
    exact ⟨rfl, by omega, fun h => h6 (by omega)⟩
theorem nextR_isSym (sy last : List Nat) : isSym (nextR sy last) := by
  intro x hx
  obtain ⟨t, ht, rfl⟩ := List.getElem_of_mem hx
  rcases nextR_item sy last t ht with ⟨h, _⟩ | ⟨h, _⟩ <;> rw [h] <;> simp
theorem symN_all (sy last : List Nat) : symN (nextR sy last) (nextR sy last).length = sy.length := by
  obtain ⟨h1, h2, h3, h4⟩ := nextR_state sy last _ (Nat.le_refl _)
  have hl := nextR_length sy last
  rw [List.drop_length] at h1
  have h5 := congrArg List.length h1
  rw [nextR_length, List.length_drop, List.length_drop] at h5
  simp at h5
  omega
def Rises (l : List Nat) : Prop := ∀ i j, i ≤ j → j < l.length → l.getD i 0 ≤ l.getD j 0
theorem sym_first (sy last : List Nat) (hs : Rises sy) : ∀ t, t ≤ (nextR sy last).length → ∀ p, p < t - symN (nextR sy last) t → ∀ j, j < sy.length → sy.getD j 0 ≤ pkg last p → j < symN (nextR sy last) t := by
  intro t
  induction t with
  | zero => intro _ p hp; omega
  | succ t ih =>
    intro ht p hp j hj hle
    have hst := (nextR_state sy last t (by omega)).2.1
    rw [symN_succ _ t (by omega)] at hp ⊢
    rcases nextR_item sy last t (by omega) with ⟨h1, h2, _⟩ | ⟨h1, h2, h3⟩
    · rw [h1] at hp ⊢
      simp only at hp ⊢
      have := ih (by omega) p (by omega) j hj hle
      omega
    · rw [h1] at hp ⊢
      simp only at hp ⊢
      by_cases hpt : p < t - symN (nextR sy last) t
      · exact ih (by omega) p hpt j hj hle
      · obtain rfl : p = t - symN (nextR sy last) t := by omega
        rcases Nat.lt_or_ge j (symN (nextR sy last) t) with h | h
        · exact h
        · have h4 := h3 (by omega)
          have := hs _ _ h hj
          omega
theorem sym_at (sy last : List Nat) : ∀ t, t ≤ (nextR sy last).length → ∀ c, c < symN (nextR sy last) t → ∃ q, q < t ∧ (wts (nextR sy last)).getD q 0 = sy.getD c 0 := by
  intro t
  induction t with
  | zero => intro _ c hc; rw [symN_zero] at hc; omega
  | succ t ih =>
    intro ht c hc
    rw [symN_succ _ t (by omega)] at hc
    by_cases h : c < symN (nextR sy last) t
    · obtain ⟨q, hq, h2⟩ := ih (by omega) c h
      exact ⟨q, by omega, h2⟩
    · rcases nextR_item sy last t (by omega) with ⟨h1, h2, _⟩ | ⟨h1, h2, _⟩
      · rw [h1] at hc
        simp only at hc
        obtain rfl : c = symN (nextR sy last) t := by omega
        refine ⟨t, by omega, ?_⟩
        unfold wts
        rw [List.getD_eq_getElem?_getD, List.getElem?_map, List.getElem?_eq_getElem (by omega), h1]
        rfl
      · rw [h1] at hc
        simp only at hc
        omega
def lastOf (sy : List Nat) : Nat → List Nat
  | 0 => []
  | k + 1 => wts (rowS sy k)
theorem rowS_eq (sy : List Nat) (k : Nat) : rowS sy k = nextR sy (lastOf sy k) := by cases k <;> rfl
theorem rowS_len (sy : List Nat) (k : Nat) : (rowS sy k).length = sy.length + (lastOf sy k).length / 2 := by rw [rowS_eq, nextR_length]
theorem lastOf_len (sy : List Nat) (k : Nat) : (lastOf sy (k + 1)).length = (rowS sy k).length := by simp [lastOf, wts]
theorem rowS_le (sy : List Nat) (h : 1 ≤ sy.length) (k : Nat) : (rowS sy k).length ≤ 2 * sy.length - 1 := by
  induction k with
  | zero => rw [rowS_len]; simp [lastOf]; omega
  | succ k ih => rw [rowS_len, lastOf_len]; omega
theorem rowS_ge (sy : List Nat) (k : Nat) : 2 * sy.length * 2 ^ k ≤ (rowS sy k).length * 2 ^ k + sy.length + 2 ^ k - 1 := by
  induction k with
  | zero => rw [rowS_len]; simp [lastOf]; omega
  | succ k ih =>
    rw [rowS_len, lastOf_len]
    have hp : 0 < 2 ^ k := Nat.pos_of_ne_zero (by simp)
    generalize (rowS sy k).length = r at *
    generalize sy.length = m at *
    rw [Nat.pow_succ]
    have h2 : r ≤ 2 * (r / 2) + 1 := by omega
    have h3 : r * 2 ^ k ≤ 2 * (r / 2) * 2 ^ k + 2 ^ k := by
      calc r * 2 ^ k ≤ (2 * (r / 2) + 1) * 2 ^ k := Nat.mul_le_mul_right _ h2
        _ = _ := by rw [Nat.add_mul, Nat.one_mul]
    have h4 : 2 * m * (2 ^ k * 2) = 2 * m * 2 ^ k + 2 * m * 2 ^ k := by rw [← Nat.mul_assoc]; omega
    have h5 : (m + r / 2) * (2 ^ k * 2) = 2 * m * 2 ^ k + 2 * (r / 2) * 2 ^ k := by
      rw [← Nat.mul_assoc, Nat.add_mul, Nat.add_mul, Nat.mul_comm 2 m, Nat.mul_right_comm m 2, Nat.mul_comm 2 (r / 2), Nat.mul_right_comm (r / 2) 2]
    rw [h4, h5]
    generalize 2 * m * 2 ^ k = A at *
    generalize 2 * (r / 2) * 2 ^ k = B at *
    omega
theorem rowS_enough (sy : List Nat) (k : Nat) (h1 : 1 ≤ sy.length) (h : sy.length ≤ 2 ^ (k + 1)) : 2 * sy.length - 2 ≤ (rowS sy k).length := by
  have h2 := rowS_ge sy k
  have hp : 0 < 2 ^ k := Nat.pos_of_ne_zero (by simp)
  rw [Nat.pow_succ] at h
  rcases Nat.lt_or_ge (rowS sy k).length (2 * sy.length - 2) with h3 | h3
  · exfalso
    have h4 : (rowS sy k).length + 3 ≤ 2 * sy.length := by omega
    have h5 : ((rowS sy k).length + 3) * 2 ^ k ≤ 2 * sy.length * 2 ^ k := Nat.mul_le_mul_right _ h4
    rw [Nat.add_mul] at h5
    omega
  · exact h3
theorem all_first (sy : List Nat) (hs : Rises sy) (h2 : 2 ≤ sy.length) : ∀ k, symN (rowS sy k) (min (rowS sy k).length (2 * sy.length - 2)) = sy.length := by
  intro k
  induction k with
  | zero =>
    have hl : (rowS sy 0).length = sy.length := by rw [rowS_len]; simp [lastOf]
    rw [hl, Nat.min_eq_left (by omega)]
    have := symN_all sy []
    have hl2 : (nextR sy []).length = sy.length := hl
    rw [hl2] at this
    exact this
  | succ k ih =>
    have hle := rowS_le sy (by omega) (k + 1)
    have hall := symN_all sy (lastOf sy (k + 1))
    rw [← rowS_eq] at hall
    by_cases hc : (rowS sy (k + 1)).length ≤ 2 * sy.length - 2
    · rw [Nat.min_eq_left hc, hall]
    · have hl : (rowS sy (k + 1)).length = 2 * sy.length - 1 := by omega
      rw [Nat.min_eq_right (by omega)]
      have hlen := rowS_len sy (k + 1)
      rw [lastOf_len] at hlen
      have hk2 : 2 * sy.length - 2 ≤ (rowS sy k).length := by omega
      rw [Nat.min_eq_right hk2] at ih
      have hst := nextR_state sy (lastOf sy (k + 1)) (2 * sy.length - 2) (by rw [← rowS_eq]; omega)
      rw [← rowS_eq] at hst
      have hsucc := symN_succ (rowS sy (k + 1)) (2 * sy.length - 2) (by omega)
      rw [show 2 * sy.length - 2 + 1 = (rowS sy (k + 1)).length by omega, hall] at hsucc
      have hone := nextR_isSym sy (lastOf sy (k + 1))
      rw [← rowS_eq] at hone
      have h1 := hone _ (List.getElem_mem (show 2 * sy.length - 2 < (rowS sy (k + 1)).length by omega))
      by_cases hS : symN (rowS sy (k + 1)) (2 * sy.length - 2) = sy.length
      · exact hS
      · exfalso
        have hS1 : symN (rowS sy (k + 1)) (2 * sy.length - 2) = sy.length - 1 := by omega
        -- the heaviest symbol lies in a package that came
        obtain ⟨q, hq, hqw⟩ := sym_at sy (lastOf sy k) (2 * sy.length - 2) (by rw [← rowS_eq]; exact hk2) (sy.length - 1) (by rw [← rowS_eq, ih]; omega)
        rw [← rowS_eq] at hqw
        have hpk : sy.getD (sy.length - 1) 0 ≤ pkg (lastOf sy (k + 1)) (q / 2) := by
          rw [← hqw]
          unfold pkg
          show (wts (rowS sy k)).getD q 0 ≤ (wts (rowS sy k)).getD _ 0 + (wts (rowS sy k)).getD _ 0
          rcases Nat.mod_two_eq_zero_or_one q with h | h
          · rw [show 2 * (q / 2) = q by omega]; omega
          · rw [show 2 * (q / 2) + 1 = q by omega]; omega
        have := sym_first sy (lastOf sy (k + 1)) hs (2 * sy.length - 2) (by rw [← rowS_eq]; omega) (q / 2) (by rw [← rowS_eq, hS1]; omega) (sy.length - 1) (by omega) hpk
        rw [← rowS_eq, hS1] at this
        omega
theorem cnt_le (sy : List Nat) (lim i : Nat) : cnt sy lim i ≤ tkn sy lim i := by
  unfold cnt
  rw [rowS_eq]
  exact symN_le _ (nextR_isSym _ _) _
theorem tkn_fits (sy : List Nat) (lim : Nat) (h2 : 2 ≤ sy.length) (hl : sy.length ≤ 2 ^ lim) (h0 : 1 ≤ lim) : ∀ i, i < lim → tkn sy lim i ≤ (rowS sy (lim - 1 - i)).length := by
  intro i
  induction i with
  | zero =>
    intro _
    exact rowS_enough sy (lim - 1 - 0) (by omega) (by rw [show lim - 1 - 0 + 1 = lim by omega]; exact hl)
  | succ i ih =>
    intro hi
    have h1 := ih (by omega)
    have h3 := nextR_state sy (lastOf sy (lim - 1 - i)) (tkn sy lim i) (by rw [← rowS_eq]; exact h1)
    rw [← rowS_eq] at h3
    have h4 : lim - 1 - i = (lim - 1 - (i + 1)) + 1 := by omega
    have h5 := h3.2.2.2
    rw [h4, lastOf_len, ← h4] at h5
    exact h5
theorem cnt_first (sy : List Nat) (lim : Nat) (hs : Rises sy) (h2 : 2 ≤ sy.length) (hl : sy.length ≤ 2 ^ lim) (h0 : 1 ≤ lim) : cnt sy lim 0 = sy.length := by
  have h := all_first sy hs h2 (lim - 1 - 0)
  rw [Nat.min_eq_right (rowS_enough sy (lim - 1 - 0) (by omega) (by rw [show lim - 1 - 0 + 1 = lim by omega]; exact hl))] at h
  exact h
theorem cnt_falls (sy : List Nat) (lim : Nat) (hs : Rises sy) (h2 : 2 ≤ sy.length) (hl : sy.length ≤ 2 ^ lim) (h0 : 1 ≤ lim) (i : Nat) (hi : i + 1 < lim) : cnt sy lim (i + 1) ≤ cnt sy lim i := by
  have h1 := tkn_fits sy lim h2 hl h0 i (by omega)
  have h1' := tkn_fits sy lim h2 hl h0 (i + 1) hi
  have h4 : lim - 1 - i = (lim - 1 - (i + 1)) + 1 := by omega
  rcases Nat.eq_zero_or_pos (cnt sy lim (i + 1)) with hz | hz
  · omega
  · have hc : cnt sy lim (i + 1) ≤ sy.length := by
      unfold cnt
      rw [rowS_eq]
      exact (nextR_state sy _ _ (by rw [← rowS_eq]; exact h1')).2.2.1
    obtain ⟨q, hq, hqw⟩ := sym_at sy (lastOf sy (lim - 1 - (i + 1))) (tkn sy lim (i + 1)) (by rw [← rowS_eq]; exact h1') (cnt sy lim (i + 1) - 1) (by rw [← rowS_eq]; unfold cnt at hz ⊢; omega)
    rw [← rowS_eq] at hqw
    have hpk : sy.getD (cnt sy lim (i + 1) - 1) 0 ≤ pkg (lastOf sy (lim - 1 - i)) (q / 2) := by
      rw [← hqw, h4]
      unfold pkg
      show (wts (rowS sy (lim - 1 - (i + 1)))).getD q 0 ≤ (wts (rowS sy (lim - 1 - (i + 1)))).getD _ 0 + (wts (rowS sy (lim - 1 - (i + 1)))).getD _ 0
      rcases Nat.mod_two_eq_zero_or_one q with h | h
      · rw [show 2 * (q / 2) = q by omega]; omega
      · rw [show 2 * (q / 2) + 1 = q by omega]; omega
    have hq2 : q / 2 < tkn sy lim i - symN (rowS sy (lim - 1 - i)) (tkn sy lim i) := by
      have : tkn sy lim (i + 1) = 2 * (tkn sy lim i - symN (rowS sy (lim - 1 - i)) (tkn sy lim i)) := rfl
      omega
    rw [rowS_eq] at hq2 h1
    have := sym_first sy (lastOf sy (lim - 1 - i)) hs (tkn sy lim i) h1 (q / 2) hq2 (cnt sy lim (i + 1) - 1) (by omega) hpk
    rw [← rowS_eq] at this
    unfold cnt at *
    omega
theorem tkn_end (sy : List Nat) (lim : Nat) (h2 : 2 ≤ sy.length) (hl : sy.length ≤ 2 ^ lim) (h0 : 1 ≤ lim) : tkn sy lim lim = 0 := by
  obtain ⟨k, rfl⟩ : ∃ k, lim = k + 1 := ⟨lim - 1, by omega⟩
  have h1 := tkn_fits sy (k + 1) h2 hl h0 k (by omega)
  rw [show k + 1 - 1 - k = 0 by omega] at h1
  have h3 := nextR_state sy (lastOf sy 0) (tkn sy (k + 1) k) (by rw [← rowS_eq]; exact h1)
  rw [← rowS_eq] at h3
  have h4 := h3.2.2.2
  simp [lastOf] at h4
  show 2 * (tkn sy (k + 1) k - symN (rowS sy (k + 1 - 1 - k)) (tkn sy (k + 1) k)) = 0
  rw [show k + 1 - 1 - k = 0 by omega]
  omega
def sumN (f : Nat → Nat) : Nat → Nat
  | 0 => 0
  | n + 1 => sumN f n + f n
theorem sumN_congr {f g : Nat → Nat} {n : Nat} (h : ∀ i, i < n → f i = g i) : sumN f n = sumN g n := by
  induction n with
  | zero => rfl
  | succ n ih => simp only [sumN]; rw [ih (fun i hi => h i (by omega)), h n (by omega)]
theorem sumN_add (f g : Nat → Nat) (n : Nat) : sumN (fun i => f i + g i) n = sumN f n + sumN g n := by
  induction n with
  | zero => rfl
  | succ n ih => simp only [sumN, ih]; omega
theorem sumN_const (c n : Nat) : sumN (fun _ => c) n = n * c := by
  induction n with
  | zero => simp [sumN]
  | succ n ih => simp only [sumN, ih, Nat.add_mul, Nat.one_mul]
theorem sumN_zero (n : Nat) : sumN (fun _ => 0) n = 0 := by rw [sumN_const, Nat.mul_zero]
theorem sumN_swap (g : Nat → Nat → Nat) (n m : Nat) : sumN (fun j => sumN (fun i => g i j) n) m = sumN (fun i => sumN (fun j => g i j) m) n := by
  induction n with
  | zero => simp only [sumN, sumN_zero]
  | succ n ih =>
    simp only [sumN]
    rw [sumN_add, ih]
theorem sumN_if (c n m : Nat) (h : c ≤ m) : sumN (fun j => if j < c then n else 0) m = c * n := by
  induction m with
  | zero => obtain rfl : c = 0 := by omega
            simp [sumN]
  | succ m ih =>
    simp only [sumN]
    rcases Nat.lt_or_ge m c with h1 | h1
    · obtain rfl : c = m + 1 := by omega
      rw [if_pos h1, sumN_congr (g := fun _ => n) (fun i hi => if_pos (by omega)), sumN_const, Nat.add_mul, Nat.one_mul]
    · rw [if_neg (by omega), ih h1, Nat.add_zero]
theorem sum_map_range (f : Nat → Nat) (n : Nat) : ((List.range n).map f).sum = sumN f n := by
  induction n with
  | zero => rfl
  | succ n ih => rw [List.range_succ, List.map_append, List.sum_append, ih]; simp [sumN]
theorem cnt_le_len (sy : List Nat) (lim : Nat) (h2 : 2 ≤ sy.length) (hl : sy.length ≤ 2 ^ lim) (h0 : 1 ≤ lim) (i : Nat) (hi : i < lim) : cnt sy lim i ≤ sy.length := by
  have h1 := tkn_fits sy lim h2 hl h0 i hi
  unfold cnt
  rw [rowS_eq] at h1 ⊢
  exact (nextR_state sy _ _ h1).2.2.1
theorem tkn_sum (sy : List Nat) (lim L : Nat) (hL : lim ≤ L) : ∀ i, i ≤ lim → tkn sy lim 0 * 2 ^ L = sumN (fun j => cnt sy lim j * 2 ^ (L - j)) i + tkn sy lim i * 2 ^ (L - i) := by
  intro i
  induction i with
  | zero => intro _; simp [sumN]
  | succ i ih =>
    intro hi
    rw [ih (by omega)]
    simp only [sumN]
    have h1 := cnt_le sy lim i
    have h2 : tkn sy lim (i + 1) = 2 * (tkn sy lim i - cnt sy lim i) := rfl
    have h3 : 2 ^ (L - i) = 2 * 2 ^ (L - (i + 1)) := by rw [show L - i = L - (i + 1) + 1 by omega, Nat.pow_succ, Nat.mul_comm]
    rw [h2]
    have h4 : 2 * (tkn sy lim i - cnt sy lim i) * 2 ^ (L - (i + 1)) = (tkn sy lim i - cnt sy lim i) * 2 ^ (L - i) := by
      rw [h3, Nat.mul_comm 2, Nat.mul_assoc]
    rw [h4, Nat.sub_mul]
    have h5 : cnt sy lim i * 2 ^ (L - i) ≤ tkn sy lim i * 2 ^ (L - i) := Nat.mul_le_mul_right _ h1
    omega
theorem cnt_anti (sy : List Nat) (lim : Nat) (hs : Rises sy) (h2 : 2 ≤ sy.length) (hl : sy.length ≤ 2 ^ lim) (h0 : 1 ≤ lim) {i j : Nat} (hij : i ≤ j) (hj : j < lim) : cnt sy lim j ≤ cnt sy lim i := by
  induction j with
  | zero => obtain rfl : i = 0 := by omega
            exact Nat.le_refl _
  | succ j ih =>
    rcases Nat.lt_or_ge j i with h | h
    · obtain rfl : i = j + 1 := by omega
      exact Nat.le_refl _
    · exact Nat.le_trans (cnt_falls sy lim hs h2 hl h0 j hj) (ih h (by omega))
theorem filter_range_down (p : Nat → Bool) (n : Nat) (h : ∀ i j, i ≤ j → j < n → p j = true → p i = true) : ∀ i, i < n → (p i = true ↔ i < ((List.range n).filter p).length) := by
  induction n with
  | zero => intro i hi; omega
  | succ n ih =>
    intro i hi
    have ih' := ih (fun i j hij hj => h i j hij (by omega))
    rw [List.range_succ, List.filter_append, List.length_append]
    by_cases hp : p n = true
    · have hall : ((List.range n).filter p) = List.range n := by
        rw [List.filter_eq_self]
        intro x hx
        exact h x n (by have := List.mem_range.1 hx; omega) (by omega) hp
      rw [hall, List.length_range]
      simp only [List.filter_cons, hp, if_true, List.filter_nil, List.length_singleton]
      exact ⟨fun _ => hi, fun _ => h i n (by omega) (by omega) hp⟩
    · simp only [List.filter_cons, hp, List.filter_nil]
      by_cases hin : i < n
      · simpa using ih' i hin
      · obtain rfl : i = n := by omega
        have hle : ((List.range i).filter p).length ≤ i := by have := List.length_filter_le p (List.range i); simpa using this
        simp [hp]; omega
theorem lenJ_iff (sy : List Nat) (lim : Nat) (hs : Rises sy) (h2 : 2 ≤ sy.length) (hl : sy.length ≤ 2 ^ lim) (h0 : 1 ≤ lim) (j i : Nat) (hi : i < lim) : j < cnt sy lim i ↔ i < lenJ sy lim j := by
  have := filter_range_down (fun i => decide (j < cnt sy lim i)) lim (fun a b hab hb h => by
    simp only [decide_eq_true_eq] at h ⊢
    exact Nat.lt_of_lt_of_le h (cnt_anti sy lim hs h2 hl h0 hab hb)) i hi
  simpa [lenJ] using this
theorem lenJ_le (sy : List Nat) (lim j : Nat) : lenJ sy lim j ≤ lim := by
  unfold lenJ
  have := List.length_filter_le (fun i => decide (j < cnt sy lim i)) (List.range lim)
  simpa using this
theorem lenJ_pos (sy : List Nat) (lim : Nat) (hs : Rises sy) (h2 : 2 ≤ sy.length) (hl : sy.length ≤ 2 ^ lim) (h0 : 1 ≤ lim) (j : Nat) (hj : j < sy.length) : 1 ≤ lenJ sy lim j := by
  have := (lenJ_iff sy lim hs h2 hl h0 j 0 (by omega)).1 (by rw [cnt_first sy lim hs h2 hl h0]; exact hj)
  omega
theorem pow_sum (l : Nat) (hl : l ≤ 20) : 2 ^ (20 - l) + sumN (fun i => 2 ^ (19 - i)) l = 2 ^ 20 := by
  induction l with
  | zero => rfl
  | succ l ih =>
    simp only [sumN]
    have h1 := ih (by omega)
    have h2 : 2 ^ (20 - l) = 2 * 2 ^ (19 - l) := by rw [show 20 - l = 19 - l + 1 by omega, Nat.pow_succ, Nat.mul_comm]
    rw [show 20 - (l + 1) = 19 - l by omega]
    omega
theorem sumN_below (f : Nat → Nat) (l n : Nat) (h : l ≤ n) : sumN (fun i => if i < l then f i else 0) n = sumN f l := by
  induction n with
  | zero => obtain rfl : l = 0 := by omega
            rfl
  | succ n ih =>
    simp only [sumN]
    rcases Nat.lt_or_ge n l with h1 | h1
    · obtain rfl : l = n + 1 := by omega
      rw [if_pos h1]
      simp only [sumN]
      rw [sumN_congr (g := f) (fun i hi => if_pos (by omega))]
    · rw [if_neg (by omega), ih h1, Nat.add_zero]
theorem lenJ_full (sy : List Nat) (lim : Nat) (hs : Rises sy) (h2 : 2 ≤ sy.length) (hl : sy.length ≤ 2 ^ lim) (h0 : 1 ≤ lim) (h17 : lim ≤ 17) : sumN (fun j => 2 ^ (20 - lenJ sy lim j)) sy.length = 2 ^ 20 := by
  have h1 : sumN (fun j => 2 ^ (20 - lenJ sy lim j) + sumN (fun i => 2 ^ (19 - i)) (lenJ sy lim j)) sy.length = sy.length * 2 ^ 20 := by
    rw [← sumN_const]
    exact sumN_congr (fun j _ => pow_sum _ (by have := lenJ_le sy lim j; omega))
  rw [sumN_add] at h1
  have h3 : sumN (fun j => sumN (fun i => 2 ^ (19 - i)) (lenJ sy lim j)) sy.length = sumN (fun i => cnt sy lim i * 2 ^ (19 - i)) lim := by
    have e1 : sumN (fun j => sumN (fun i => 2 ^ (19 - i)) (lenJ sy lim j)) sy.length = sumN (fun j => sumN (fun i => if j < cnt sy lim i then 2 ^ (19 - i) else 0) lim) sy.length := by
      refine sumN_congr (fun j _ => ?_)
      rw [← sumN_below (fun i => 2 ^ (19 - i)) (lenJ sy lim j) lim (lenJ_le _ _ _)]
      refine sumN_congr (fun i hi => ?_)
      by_cases h : j < cnt sy lim i
      · rw [if_pos h, if_pos ((lenJ_iff sy lim hs h2 hl h0 j i hi).1 h)]
      · rw [if_neg h, if_neg (fun hc => h ((lenJ_iff sy lim hs h2 hl h0 j i hi).2 hc))]
    rw [e1, sumN_swap]
    exact sumN_congr (fun i hi => sumN_if _ _ _ (cnt_le_len sy lim h2 hl h0 i hi))
  have h4 := tkn_sum sy lim 19 (by omega) lim (Nat.le_refl _)
  rw [tkn_end sy lim h2 hl h0, Nat.zero_mul, Nat.add_zero] at h4
  have h5 : tkn sy lim 0 = 2 * sy.length - 2 := rfl
  rw [h3, ← h4, h5] at h1
  have h6 : (2 * sy.length - 2) * 2 ^ 19 = sy.length * 2 ^ 20 - 2 ^ 20 := by
    rw [Nat.sub_mul]; omega
  have h7 : 2 ^ 20 ≤ sy.length * 2 ^ 20 := by omega
  omega
def symW (f : List Nat) : List Nat := (rar f).map fun s => f.getD s 0
def limS (f : List Nat) (lim s : Nat) : Nat := if f.getD s 0 = 0 then 0 else (if (rar f).length = 1 then 1 else 0) + lenJ (symW f) lim ((rar f).idxOf s)
def limL (f : List Nat) (lim : Nat) : List Nat := (List.range f.length).map (limS f lim)
theorem limL_len (f : List Nat) (lim : Nat) : (limL f lim).length = f.length := by simp [limL]
theorem limL_get (f : List Nat) (lim s : Nat) (hs : s < f.length) : (limL f lim).getD s 0 = limS f lim s := by
  unfold limL
  rw [List.getD_eq_getElem?_getD, List.getElem?_map, List.getElem?_range hs]
  rfl
theorem insF_perm (f : List Nat) (x : Nat) (l : List Nat) : (insF f x l).Perm (x :: l) := by
  induction l with
  | nil => exact .refl _
  | cons y l ih =>
    unfold insF
    split
    · exact .refl _
    · exact (List.Perm.cons y ih).trans (List.Perm.swap x y l)
theorem rar_perm (f : List Nat) : (rar f).Perm (used f) := by
  unfold rar
  generalize used f = l
  induction l with
  | nil => exact .refl _
  | cons x l ih => exact (insF_perm f x _).trans (List.Perm.cons x ih)
theorem used_nodup (f : List Nat) : (used f).Nodup := List.Pairwise.filter _ List.nodup_range
theorem rar_nodup (f : List Nat) : (rar f).Nodup := (rar_perm f).nodup_iff.2 (used_nodup f)
theorem mem_rar (f : List Nat) (s : Nat) : s ∈ rar f ↔ s < f.length ∧ 0 < f.getD s 0 := by
  rw [(rar_perm f).mem_iff]
  simp [used]
def Lex (f : List Nat) (l : List Nat) : Prop := l.Pairwise fun a b => ltF f a b = true
theorem ltF_or (f : List Nat) (a b : Nat) (h : a ≠ b) : ltF f a b = true ∨ ltF f b a = true := by
  unfold ltF
  simp only [Bool.or_eq_true, Bool.and_eq_true, decide_eq_true_eq]
  omega
theorem ltF_trans (f : List Nat) (a b c : Nat) (h : ltF f a b = true) (h' : ltF f b c = true) : ltF f a c = true := by
  unfold ltF at *
  simp only [Bool.or_eq_true, Bool.and_eq_true, decide_eq_true_eq] at *
  omega
theorem insF_lex (f : List Nat) (x : Nat) (l : List Nat) (h : Lex f l) (hx : x ∉ l) : Lex f (insF f x l) := by
  induction l with
  | nil => simp [insF, Lex]
  | cons y l ih =>
    unfold Lex at *
    rw [List.pairwise_cons] at h
    unfold insF
    split
    · next hlt =>
      refine List.pairwise_cons.2 ⟨fun z hz => ?_, List.pairwise_cons.2 h⟩
      rcases List.mem_cons.1 hz with rfl | hz
      · exact hlt
      · exact ltF_trans f _ _ _ hlt (h.1 z hz)
    · next hlt =>
      refine List.pairwise_cons.2 ⟨fun z hz => ?_, ih h.2 (fun hc => hx (by simp [hc]))⟩
      rcases List.mem_cons.1 ((insF_perm f x l).mem_iff.1 hz) with rfl | hz
      · rcases ltF_or f y z (fun e => hx (by simp [e])) with h1 | h1
        · exact h1
        · exact absurd h1 hlt
      · exact h.1 z hz
theorem rar_lex (f : List Nat) : Lex f (rar f) := by
  unfold rar
  have hn := used_nodup f
  revert hn
  generalize used f = l
  intro hn
  induction l with
  | nil => simp [Lex]
  | cons x l ih =>
    rw [List.nodup_cons] at hn
    refine insF_lex f x _ (ih hn.2) (fun hc => hn.1 ?_)
    have : (l.foldr (insF f) []).Perm l := by
      clear ih hn hc
      induction l with
      | nil => exact .refl _
      | cons x l ih => exact (insF_perm f x _).trans (List.Perm.cons x ih)
    exact this.mem_iff.1 hc
theorem lex_unique (f : List Nat) : ∀ (l m : List Nat), l.Perm m → Lex f l → Lex f m → l = m := by
  intro l
  induction l with
  | nil => intro m hp _ _; exact hp.symm.eq_nil.symm
  | cons x l ih =>
    intro m hp h1 h2
    cases m with
    | nil => exact absurd hp.length_eq (by simp)
    | cons y m =>
      unfold Lex at h1 h2
      rw [List.pairwise_cons] at h1 h2
      have hxy : x = y := by
        rcases List.mem_cons.1 (hp.mem_iff.1 (List.mem_cons_self (a := x) (l := l))) with h | h
        · exact h
        · rcases List.mem_cons.1 (hp.mem_iff.2 (List.mem_cons_self (a := y) (l := m))) with h' | h'
          · exact h'.symm
          · exfalso
            have a := h2.1 x h
            have b := h1.1 y h'
            have c := ltF_trans f _ _ _ a b
            unfold ltF at c
            simp at c
      subst hxy
      rw [ih m (List.Perm.cons_inv hp) h1.2 h2.2]
theorem symW_rises (f : List Nat) : Rises (symW f) := by
  intro i j hij hj
  unfold symW at hj ⊢
  rw [List.length_map] at hj
  rw [List.getD_eq_getElem?_getD, List.getD_eq_getElem?_getD, List.getElem?_map, List.getElem?_map, List.getElem?_eq_getElem (by omega), List.getElem?_eq_getElem hj]
  simp only [Option.map_some, Option.getD_some]
  rcases Nat.lt_or_ge i j with h | h
  · have := List.pairwise_iff_getElem.1 (rar_lex f) i j (by omega) hj h
    unfold ltF at this
    simp only [Bool.or_eq_true, Bool.and_eq_true, decide_eq_true_eq] at this
    omega
  · obtain rfl : i = j := by omega
    exact Nat.le_refl _
theorem symW_len (f : List Nat) : (symW f).length = (rar f).length := by simp [symW]
theorem limS_bound (f : List Nat) (lim s : Nat) (h0 : 1 ≤ lim) (hm : (rar f).length ≤ 2 ^ lim) (hs : s < f.length) : limS f lim s ≤ lim ∧ (limS f lim s = 0 ↔ f.getD s 0 = 0) := by
  unfold limS
  by_cases hf : f.getD s 0 = 0
  · rw [if_pos hf]; exact ⟨Nat.zero_le _, ⟨fun _ => hf, fun _ => rfl⟩⟩
  · rw [if_neg hf]
    have hmem := (mem_rar f s).2 ⟨hs, by omega⟩
    have hidx := List.idxOf_lt_length_of_mem hmem
    by_cases h1 : (rar f).length = 1
    · rw [if_pos h1]
      have hz : lenJ (symW f) lim ((rar f).idxOf s) = 0 := by
        unfold lenJ
        rw [List.length_eq_zero_iff, List.filter_eq_nil_iff]
        intro i hi
        have hc : cnt (symW f) lim i = 0 := by
          have ht : ∀ i, tkn (symW f) lim i = 0 := by
            intro i
            induction i with
            | zero => show 2 * (symW f).length - 2 = 0; rw [symW_len, h1]
            | succ i ih => show 2 * (tkn (symW f) lim i - _) = 0; rw [ih]; simp
          have := cnt_le (symW f) lim i
          rw [ht] at this
          omega
        rw [hc]; simp
      rw [hz]
      exact ⟨by omega, ⟨fun h => by omega, fun h => absurd h hf⟩⟩
    · rw [if_neg h1, Nat.zero_add]
      have h2 : 2 ≤ (symW f).length := by rw [symW_len]; omega
      have h3 := lenJ_pos (symW f) lim (symW_rises f) h2 (by rw [symW_len]; exact hm) h0 _ (by rw [symW_len]; exact hidx)
      exact ⟨lenJ_le _ _ _, by omega⟩
theorem sum_map_perm {l m : List Nat} (h : l.Perm m) (g : Nat → Nat) : (l.map g).sum = (m.map g).sum := by
  induction h with
  | nil => rfl
  | cons x _ ih => simp [ih]
  | swap x y l => simp; omega
  | trans _ _ ih1 ih2 => exact ih1.trans ih2
theorem limL_full (f : List Nat) (lim : Nat) (h0 : 1 ≤ lim) (h17 : lim ≤ 17) (h2 : 2 ≤ (rar f).length) (hm : (rar f).length ≤ 2 ^ lim) : M04.weight (limL f lim) = 2 ^ 20 := by
  have hf := lenJ_full (symW f) lim (symW_rises f) (by rw [symW_len]; exact h2) (by rw [symW_len]; exact hm) h0 h17
  have e1 : M04.weight (limL f lim) = ((used f).map fun s => M04.wt (limS f lim s)).sum := by
    unfold M04.weight limL used
    rw [List.map_map]
    generalize List.range f.length = l
    induction l with
    | nil => rfl
    | cons s l ih =>
      rw [List.map_cons, List.sum_cons, ih, List.filter_cons]
      by_cases hz : f.getD s 0 = 0
      · have h3 : limS f lim s = 0 := by unfold limS; rw [if_pos hz]
        have hd : decide (0 < f.getD s 0) = false := by rw [decide_eq_false_iff_not]; omega
        rw [hd, if_neg (by decide)]
        show M04.wt (limS f lim s) + _ = _
        rw [h3]
        simp [M04.wt]
      · have hd : decide (0 < f.getD s 0) = true := by rw [decide_eq_true_eq]; omega
        rw [hd, if_pos rfl, List.map_cons, List.sum_cons]
        rfl
  rw [e1, ← sum_map_perm (rar_perm f)]
  have e2 : ((rar f).map fun s => M04.wt (limS f lim s)) = (List.range (rar f).length).map fun j => 2 ^ (20 - lenJ (symW f) lim j) := by
    apply List.ext_getElem
    · simp
    · intro j h1 h3
      simp only [List.length_map] at h1
      simp only [List.getElem_map, List.getElem_range]
      have hmem := (mem_rar f (rar f)[j]).1 (List.getElem_mem h1)
      have hidx : (rar f).idxOf (rar f)[j] = j := (rar_nodup f).idxOf_getElem j h1
      have hl : limS f lim (rar f)[j] = lenJ (symW f) lim j := by
        unfold limS
        rw [if_neg (by omega), if_neg (by omega), hidx, Nat.zero_add]
      have hp := lenJ_pos (symW f) lim (symW_rises f) (by rw [symW_len]; exact h2) (by rw [symW_len]; exact hm) h0 j (by rw [symW_len]; exact h1)
      rw [hl]
      unfold M04.wt
      rw [if_neg (by omega)]
  rw [e2, sum_map_range, ← symW_len f]
  exact hf
end Go.Proofs.Ytmgoeokdlklabaa.M05

namespace Go.Proofs.Ytmgoeokdlklabaa.M05
set_option linter.unusedVariables false
def swapL (d : List Nat) (j : Nat) : List Nat := (d.set (j + 1) (d.getD j 0)).set j (d.getD (j + 1) 0)
def insD (f : List Nat) (a : Nat) : Nat → List Nat → List Nat
  | 0, d => d
  | j + 1, d => if a < j + 1 ∧ f.getD (d.getD (j + 1) 0) 0 < f.getD (d.getD j 0) 0 then insD f a j (swapL d j) else d
def insO (f : List Nat) (a : Nat) : Nat → Nat → List Nat → List Nat
  | _, 0, d => d
  | i, n + 1, d => insO f a (i + 1) n (insD f a i d)
def insS (f : List Nat) (a b : Nat) (d : List Nat) : List Nat := insO f a (a + 1) (b - (a + 1)) d
theorem swapL_len (d : List Nat) (j : Nat) : (swapL d j).length = d.length := by simp [swapL]
theorem insD_len (f : List Nat) (a : Nat) : ∀ j d, (insD f a j d).length = d.length := by
  intro j
  induction j with
  | zero => intro d; rfl
  | succ j ih =>
    intro d
    unfold insD
    split
    · rw [ih, swapL_len]
    · rfl
def inr (f : List Nat) (x : Nat) : List Nat → List Nat
  | [] => [x]
  | y :: ys => if f.getD x 0 < f.getD y 0 then y :: inr f x ys else x :: y :: ys
theorem inr_len (f : List Nat) (x : Nat) : ∀ r, (inr f x r).length = r.length + 1 := by
  intro r
  induction r with
  | nil => rfl
  | cons y ys ih =>
    unfold inr
    split
    · simp [ih]
    · rfl
theorem inr_perm (f : List Nat) (x : Nat) : ∀ r, (inr f x r).Perm (x :: r) := by
  intro r
  induction r with
  | nil => exact .refl _
  | cons y ys ih =>
    unfold inr
    split
    · exact (List.Perm.cons y ih).trans (List.Perm.swap x y ys)
    · exact .refl _
theorem getD_at (a : List Nat) (x : Nat) (b : List Nat) : (a ++ x :: b).getD a.length 0 = x := by
  rw [List.getD_eq_getElem?_getD, List.getElem?_append_right (Nat.le_refl _)]; simp
theorem swap_at (a : List Nat) (y x : Nat) (b : List Nat) : swapL (a ++ y :: x :: b) a.length = a ++ x :: y :: b := by
  have h1 : (a ++ y :: x :: b).getD a.length 0 = y := getD_at a y _
  have h2 : (a ++ y :: x :: b).getD (a.length + 1) 0 = x := by
    simp
  unfold swapL
  rw [h1, h2, List.set_append_right _ _ (by omega)]
  rw [show a.length + 1 - a.length = 1 by omega]
  rw [List.set_append_right _ _ (by omega), Nat.sub_self]
  rfl
theorem insD_inr (f : List Nat) : ∀ (r : List Nat) (x : Nat) (suf : List Nat), insD f 0 r.length (r.reverse ++ x :: suf) = (inr f x r).reverse ++ suf := by
  intro r
  induction r with
  | nil => intro x suf; rfl
  | cons y ys ih =>
    intro x suf
    have e : (y :: ys).reverse ++ x :: suf = ys.reverse ++ y :: x :: suf := by simp
    rw [e]
    have hl : ys.reverse.length = ys.length := by simp
    have h1 : (ys.reverse ++ y :: x :: suf).getD ys.length 0 = y := by rw [← hl]; exact getD_at _ _ _
    have h2 : (ys.reverse ++ y :: x :: suf).getD (ys.length + 1) 0 = x := by
      simp
    show (if 0 < ys.length + 1 ∧ _ then _ else _) = _
    rw [h1, h2]
    unfold inr
    by_cases hlt : f.getD x 0 < f.getD y 0
    · rw [if_pos ⟨by omega, hlt⟩, if_pos hlt]
      have := swap_at ys.reverse y x suf
      rw [hl] at this
      rw [this, ih]
      simp
    · rw [if_neg (fun h => hlt h.2), if_neg hlt]
      simp
theorem insO_fold (f : List Nat) : ∀ (suf r : List Nat), insO f 0 r.length suf.length (r.reverse ++ suf) = (suf.foldl (fun r x => inr f x r) r).reverse := by
  intro suf
  induction suf with
  | nil => intro r; simp [insO]
  | cons x s ih =>
    intro r
    show insO f 0 (r.length + 1) s.length (insD f 0 r.length (r.reverse ++ x :: s)) = _
    rw [insD_inr, ← inr_len f x r, ih]
    rfl
def LexR (f : List Nat) (r : List Nat) : Prop := r.Pairwise fun a b => ltF f b a = true
theorem inr_lex (f : List Nat) (x : Nat) : ∀ r, LexR f r → (∀ y ∈ r, y < x) → LexR f (inr f x r) := by
  intro r
  induction r with
  | nil => intro _ _; simp [inr, LexR]
  | cons y ys ih =>
    intro h hx
    unfold LexR at h
    rw [List.pairwise_cons] at h
    have hyx := hx y (by simp)
    unfold inr
    split
    · next hlt =>
      refine List.pairwise_cons.2 ⟨fun z hz => ?_, ih h.2 (fun z hz => hx z (by simp [hz]))⟩
      rcases List.mem_cons.1 ((inr_perm f x ys).mem_iff.1 hz) with rfl | hz
      · unfold ltF; simp only [Bool.or_eq_true, decide_eq_true_eq]; exact .inl hlt
      · exact h.1 z hz
    · next hlt =>
      have hy : ltF f y x = true := by
        unfold ltF
        simp only [Bool.or_eq_true, Bool.and_eq_true, decide_eq_true_eq]
        omega
      refine List.pairwise_cons.2 ⟨fun z hz => ?_, List.pairwise_cons.2 h⟩
      rcases List.mem_cons.1 hz with rfl | hz
      · exact hy
      · exact ltF_trans f _ _ _ (h.1 z hz) hy
theorem fold_lex (f : List Nat) : ∀ (suf r : List Nat), suf.Pairwise (· < ·) → LexR f r → (∀ y ∈ r, ∀ x ∈ suf, y < x) →
    LexR f (suf.foldl (fun r x => inr f x r) r) ∧ (suf.foldl (fun r x => inr f x r) r).Perm (r ++ suf) := by
  intro suf
  induction suf with
  | nil => intro r _ h _; exact ⟨h, by simp⟩
  | cons x s ih =>
    intro r hs hr hx
    rw [List.pairwise_cons] at hs
    obtain ⟨h1, h2⟩ := ih (inr f x r) hs.2 (inr_lex f x r hr (fun y hy => hx y hy x (by simp))) (by
      intro y hy z hz
      rcases List.mem_cons.1 ((inr_perm f x r).mem_iff.1 hy) with rfl | hy
      · exact hs.1 z hz
      · exact hx y hy z (by simp [hz]))
    refine ⟨h1, h2.trans ?_⟩
    exact ((inr_perm f x r).append_right s).trans List.perm_middle.symm
theorem used_rises (f : List Nat) : (used f).Pairwise (· < ·) := List.Pairwise.filter _ List.pairwise_lt_range
theorem insS_rar (f : List Nat) : insS f 0 (used f).length (used f) = rar f := by
  have hu := used_rises f
  have hp := rar_perm f
  unfold insS
  generalize used f = u at *
  match u with
  | [] => exact (hp.eq_nil).symm
  | x :: s =>
    rw [List.pairwise_cons] at hu
    have h1 := insO_fold f s [x]
    have h2 : (x :: s).length - (0 + 1) = s.length := by simp
    rw [h2, Nat.zero_add]
    have h3 : insO f 0 1 s.length (x :: s) = _ := h1
    rw [h3]
    obtain ⟨h4, h5⟩ := fold_lex f s [x] hu.2 (by simp [LexR]) (by intro y hy z hz; simp at hy; subst hy; exact hu.1 z hz)
    refine lex_unique f _ _ ?_ ?_ (rar_lex f)
    · exact (List.reverse_perm _).trans (h5.trans hp.symm)
    · unfold Lex
      rw [List.pairwise_reverse]
      exact h4
end Go.Proofs.Ytmgoeokdlklabaa.M05

namespace Go.Proofs.Ytmgoeokdlklabaa
open Go.RowKit
set_option linter.unusedVariables false
def RowN (k : IntKind) (w : World) (a : Option Addr) (cap : Nat) (l : List Nat) : Prop :=
  l.length ≤ cap ∧ (cap ≤ 9223372036854775807 ∧ (a = none → cap = 0)) ∧ (l = [] ∨ ∃ b off, a = some ⟨b, off, none⟩ ∧ b < w.heap.size ∧ ∀ i (h : i < l.length), w.cell? ⟨b, off + i, none⟩ = some (.int k (l[i] : Nat)))
theorem RowN.at {k : IntKind} {w : World} {a : Option Addr} {cap : Nat} {l : List Nat} (h : RowN k w a cap l) {i : Nat} (hi : i < l.length) :
   ∃ b off, a = some ⟨b, off, none⟩ ∧ b < w.heap.size ∧ w.cell? ⟨b, off + i, none⟩ = some (.int k (l[i] : Nat)) := by
  obtain ⟨_, _, rfl | ⟨b, off, rfl, hb, hc⟩⟩ := h
  · simp at hi
  · exact ⟨b, off, rfl, hb, hc i hi⟩
theorem RowN.len {k : IntKind} {w : World} {a : Option Addr} {cap : Nat} {l : List Nat} (h : RowN k w a cap l) : l.length ≤ 9223372036854775807 := by have := h.1; have := h.2.1.1; omega
theorem RowN.below {k : IntKind} {w w' : World} {a : Option Addr} {cap : Nat} {l : List Nat} (h : RowN k w a cap l) (hb : Below w.heap.size w w') : RowN k w' a cap l := by
  obtain ⟨h1, h2, h3⟩ := h
  refine ⟨h1, h2, ?_⟩
  rcases h3 with h3 | ⟨b, off, ha, hb', hc⟩
  · exact .inl h3
  · exact .inr ⟨b, off, ha, Nat.lt_of_lt_of_le hb' hb.size, fun i hi => (hb.cell (p := ⟨b, off + i, none⟩) hb').trans (hc i hi)⟩
theorem RowN.nil (k : IntKind) (w : World) : RowN k w none 0 [] := ⟨by simp, by simp, .inl rfl⟩
theorem ret_int {k : IntKind} {a b : Int} (h : a = b) : Ending.returned (.int k a) = .returned (.int k b) := by rw [h]
theorem ret_bool {a b : Bool} (h : a = b) : Ending.returned (.bool a) = .returned (.bool b) := by rw [h]
theorem int_eq {k : IntKind} {a b : Int} (h : a = b) : (Value.int k a) = .int k b := by rw [h]
end Go.Proofs.Ytmgoeokdlklabaa

namespace Go.Proofs.Ytmgoeokdlklabaa
open Go.RowKit
set_option linter.unusedVariables false
structure ElemTy (P : Program) (T E : TypeId) (k : IntKind) (bytes : Nat) : Prop where
  und : P.underlying T = some (.slice E)
  info : (P.info? E).map (fun i => (i.zero, i.size, i.bytes)) = some (some (.int k 0), 1, bytes)
theorem Below.of_grown {B : Nat} {w w' : World} {row : Option Nat} (hg : w.grownBy w' row) (hB : B ≤ w.heap.size) (hr : ∀ k, row = some k → B ≤ k) : Below B w w' :=
  (Below.refl B w).grown hg hB hr
def OwnN (E : TypeId) (k : IntKind) (w : World) (base : Nat) (a : Option Addr) (cap : Nat) (l : List Nat) : Prop :=
  w.ownsRow base E 1 (.slice a l.length cap) l.length (l.map fun (n : Nat) => Value.int k n)
section
variable {P : Program} {E : TypeId} {k : IntKind} {w w' : World} {base cap : Nat} {a : Option Addr} {l : List Nat}
theorem OwnN.nil (E : TypeId) (k : IntKind) (w : World) (base : Nat) : OwnN E k w base none 0 [] := World.ownsRow_nil w base E 1
theorem OwnN.lit0 (E : TypeId) (k : IntKind) (w : World) (base : Nat) (hb : base ≤ w.heap.size) : OwnN E k (w.alloc (.cells #[] E)) base (some ⟨w.heap.size, 0, none⟩) 0 [] :=
  World.ownsRow_made w #[] 0 hb (by decide) rfl
theorem OwnN.form (h : OwnN E k w base a cap l) : (a = none ∧ cap = 0 ∧ l = []) ∨ ∃ g, a = some ⟨g, 0, none⟩ ∧ base ≤ g ∧ g < w.heap.size := by
  rcases h.2 with ⟨h1, h2⟩ | ⟨g, c, cur, h1, h2, h3, _⟩
  · simp only [Value.slice.injEq] at h1
    exact .inl ⟨h1.1, h1.2.2, List.eq_nil_of_length_eq_zero h2⟩
  · simp only [Value.slice.injEq] at h1
    exact .inr ⟨g, h1.1, h2, (Array.getElem?_eq_some_iff.1 h3).1⟩
theorem OwnN.caps (h : OwnN E k w base a cap l) : l.length ≤ cap ∧ cap ≤ 9223372036854775807 := by
  rcases h.2 with ⟨h1, h2⟩ | ⟨g, c, cur, h1, h2, h3, h4, h5, _⟩
  · simp only [Value.slice.injEq] at h1
    omega
  · simp only [Value.slice.injEq] at h1
    obtain ⟨_, _, rfl⟩ := h1
    exact ⟨h4, by simpa [maxLen] using h5⟩
theorem OwnN.at (h : OwnN E k w base a cap l) {i : Nat} (hi : i < l.length) :
    ∃ g, a = some ⟨g, 0, none⟩ ∧ base ≤ g ∧ g < w.heap.size ∧ w.cell? ⟨g, i, none⟩ = some (.int k l[i]) ∧ w.frozen? ⟨g, i, none⟩ = false := by
  rcases h.form with ⟨_, _, rfl⟩ | ⟨g, rfl, hb, hg⟩
  · simp at hi
  · refine ⟨g, rfl, hb, hg, ?_, World.ownsRow.frozenAt h i⟩
    rw [World.ownsRow.cellAt h i (by omega)]
    simp [hi]
theorem OwnN.row (h : OwnN E k w base a cap l) : RowN k w a cap l := by
  refine ⟨h.caps.1, ⟨h.caps.2, fun hn => by rcases h.form with ⟨_, h1, _⟩ | ⟨g, h1, _⟩ <;> simp_all⟩, ?_⟩
  rcases h.form with ⟨_, _, rfl⟩ | ⟨g, rfl, hb, hg⟩
  · exact .inl rfl
  · refine .inr ⟨g, 0, rfl, hg, fun i hi => ?_⟩
    obtain ⟨g', he, _, _, hc, _⟩ := h.at hi
    simp only [Option.some.injEq, Addr.mk.injEq, and_true] at he
    subst he
    simpa using hc
theorem OwnN.kept {row : Option Nat} (h : OwnN E k w base a cap l) (hg : w.grownBy w' row) (hr : ∀ g, a = some ⟨g, 0, none⟩ → row ≠ some g) : OwnN E k w' base a cap l := by
  refine World.ownsRow.kept h hg ?_
  rcases h.form with ⟨rfl, _, _⟩ | ⟨g, rfl, hb, hgg⟩
  · exact .inl rfl
  · exact .inr fun e => hr g rfl e.symm
theorem OwnN.below (h : OwnN E k w base a cap l) (hb : Below w.heap.size w w') : OwnN E k w' base a cap l :=
  h.kept (row := none) ⟨hb.os, hb.tape, hb.output, hb.size, fun k hk _ => hb.block k hk⟩ (fun _ _ e => by cases e)
theorem OwnN.drew (h : OwnN E k w base a cap l) : OwnN E k w.drew base a cap l := h
theorem OwnN.alloc (h : OwnN E k w base a cap l) (o : Obj) : OwnN E k (w.alloc o) base a cap l := World.ownsRow.alloc h o
theorem OwnN.other (h : OwnN E k w base a cap l) {p : Addr} (hp : ∀ g, a = some ⟨g, 0, none⟩ → p.block ≠ g) (u : Value) : OwnN E k (w.setCell p u) base a cap l := by
  refine ownsRow_setCell_other h ?_ u
  rcases h.form with ⟨rfl, _, _⟩ | ⟨g, rfl, hb, hgg⟩
  · simp [Value.ownBlock]
  · simp only [Value.ownBlock, ne_eq, Option.some.injEq]
    exact fun e => hp g rfl e.symm
theorem OwnN.mono (h : OwnN E k w base a cap l) {b : Nat} (hb : b ≤ base) : OwnN E k w b a cap l := by
  refine ⟨h.1, ?_⟩
  rcases h.2 with h2 | ⟨g, c, cur, h1, h2, h3⟩
  · exact .inl h2
  · exact .inr ⟨g, c, cur, h1, by omega, h3⟩
theorem OwnN.stored {g : Nat} (h : OwnN E k w base (some ⟨g, 0, none⟩) cap l) (i : Nat) (x : Nat) :
    OwnN E k (w.setCell ⟨g, i, none⟩ (.int k x)) base (some ⟨g, 0, none⟩) cap (l.set i x) ∧ w.grownBy (w.setCell ⟨g, i, none⟩ (.int k x)) (some g) := by
  obtain ⟨h1, h2⟩ := World.ownsRow.stored h i (.int k x)
  refine ⟨?_, h2⟩
  unfold OwnN
  rw [List.map_set, List.length_set]
  exact h1
theorem cells_of_rowN {a : Option Addr} {cap : Nat} (h : RowN k w a cap l) : ∀ ad, a = some ad → ∀ j u, (l.map fun (n : Nat) => Value.int k n)[j]? = some u → w.cell? (ad.add j) = some u := by
  intro ad had j u hu
  have hj : j < l.length := by
    have := (List.getElem?_eq_some_iff.1 hu).1
    simpa using this
  obtain ⟨b, off, he, _, hc⟩ := h.at hj
  rw [had] at he
  cases he
  simp only [List.getElem?_map, List.getElem?_eq_getElem hj, Option.map_some, Option.some.injEq] at hu
  rw [← hu, ← hc]
  unfold Addr.add
  split
  · simp_all
  · rfl
end
section
variable {P : Program} {T E : TypeId} {k : IntKind} {bytes : Nat}
theorem makeN (et : ElemTy P T E k bytes) {w : World} {ops : Array Oper} {rest : List Oper} {o : Oper} {a : Act} {Q : Exit → Act → World → Prop}
    (hg : o.guard = none) (lo c : Operand) (hop : o.op = Op.makeSlice T lo c) (base : Nat) {kl kc : IntKind} {n : Nat} (hl : a.eval lo = .int kl n) (hc : a.eval c = .int kc n)
    (hb : bytes * n ≤ 281474976710656) (hn : n ≤ 9223372036854775807) (hbase : base ≤ w.heap.size)
    (hK : ∀ w', OwnN E k w' base (some ⟨w.heap.size, 0, none⟩) n (List.replicate n 0) → w.grownBy w' none → wpList P ops Q rest (a.put o.dst (.slice (some ⟨w.heap.size, 0, none⟩) n n)) w') :
    wpList P ops Q (o :: rest) a w := by
  obtain ⟨i, h2, h3, h4, h5⟩ := info_parts et.info
  refine wpList_plain (by assumption) fun K hK' => ?_
  obtain ⟨w', hrun, r1, r2⟩ := run_make_full (P := P) w base T E i (.int k 0) 1 et.und h2 h3 h4 kl kc n (by rw [h5]; exact hb) (by simpa [maxLen] using hn) hbase
  unfold Oper.wp
  simp [execOp, hop, hl, hc, hrun, Result.andThen]
  refine hK' _ _ (hK w' ?_ r2)
  unfold OwnN
  have hm : (madeCells (Value.int k 0).cells (n * 1)).toList = (List.replicate n (0 : Nat)).map fun (n : Nat) => Value.int k n := by
    rw [Nat.mul_one]; show (madeCells #[.int k 0] n).toList = _; rw [toList_madeCells_one]; simp
  rw [List.length_replicate, ← hm]
  exact r1
theorem appN (et : ElemTy P T E k bytes) {w : World} {ops : Array Oper} {rest : List Oper} {o : Oper} {ac : Act} {Q : Exit → Act → World → Prop} (hgd : o.guard = none) (s x : Operand)
    (ho : o.op = .call { callee := .builtin .append, args := #[s, x], argTypes := #[T, T] }) {base : Nat} {a : Option Addr} {cap m c : Nat} {l ys : List Nat}
    (hs : ac.eval s = .slice a l.length cap) (hown : OwnN E k w base a cap l) {b : Option Addr} (hm : m = ys.length) (hx : ac.eval x = .slice b m c) (hy : RowN k w b c ys)
    (hb0 : 0 < ys.length) (hn : l.length + m ≤ 9223372036854775807) (hbytes : (l.length + m) * bytes ≤ 140737488355328) (hbase : base ≤ w.heap.size)
    (h : ∀ a' cap' w', OwnN E k w' base a' cap' (l ++ ys) → w.grownBy w' (Value.slice a l.length cap).ownBlock → Below base w w' → wpList P ops Q rest (ac.put o.dst (.slice a' (l.length + m) cap')) w') :
    wpList P ops Q (o :: rest) ac w := by
  subst hm
  obtain ⟨i, h2, h3, h4, h5⟩ := info_parts et.info
  obtain ⟨bb, off, rfl, _⟩ := hy.at hb0
  refine wpList_plain (by assumption) fun K hK' => ?_
  obtain ⟨v', w', hr, h6, h7, h8⟩ := run_append_own (P := P) w base T o.type E i (.int k 0) 1 bytes et.und h2 h3 h4 h5 rfl (by decide) _ l.length _ hown ⟨bb, off, none⟩ ys.length c (ys.map fun (n : Nat) => Value.int k n) (by simp)
    (cells_of_rowN hy _ rfl) (by intro u hu; simp only [List.mem_map] at hu; obtain ⟨n, _, rfl⟩ := hu; rfl) (by simpa [maxLen] using hn) hbytes hbase
  have hv : ∃ a' cap', v' = .slice a' (l.length + ys.length) cap' := by
    rcases h6.2 with ⟨h9, h10⟩ | ⟨g, c', cur, h9, _⟩
    · exact ⟨none, 0, by rw [h9, h10]⟩
    · exact ⟨_, _, h9⟩
  obtain ⟨a', cap', rfl⟩ := hv
  have hown' : OwnN E k w' base a' cap' (l ++ ys) := by
    unfold OwnN; rw [List.length_append, List.map_append]; exact h6
  have hbel : Below base w w' := Below.of_grown h7 hbase (by
    intro g hg
    exact (World.ownsRow.lt hown g hg).1)
  unfold Oper.wp
  simp [execOp, ho, resolve, invoke, builtin, hs, hx, hr, Result.andThen]
  exact hK' _ _ (h a' cap' w' hown' h7 hbel)
theorem appAnyN (et : ElemTy P T E k bytes) {w : World} {ops : Array Oper} {rest : List Oper} {o : Oper} {ac : Act} {Q : Exit → Act → World → Prop} (hgd : o.guard = none) (s x : Operand)
    (ho : o.op = .call { callee := .builtin .append, args := #[s, x], argTypes := #[T, T] }) {base : Nat} {a : Option Addr} {cap m c : Nat} {l ys : List Nat}
    (hs : ac.eval s = .slice a l.length cap) (hown : OwnN E k w base a cap l) {b : Option Addr} (hm : m = ys.length) (hx : ac.eval x = .slice b m c) (hy : RowN k w b c ys)
    (hn : l.length + m ≤ 9223372036854775807) (hbytes : (l.length + m) * bytes ≤ 140737488355328) (hbase : base ≤ w.heap.size)
    (h : ∀ a' cap' w', OwnN E k w' base a' cap' (l ++ ys) → w.grownBy w' (Value.slice a l.length cap).ownBlock → Below base w w' → wpList P ops Q rest (ac.put o.dst (.slice a' (l.length + m) cap')) w') :
    wpList P ops Q (o :: rest) ac w := by
  by_cases hy0 : 0 < ys.length
  · exact appN et hgd s x ho hs hown hm hx hy hy0 hn hbytes hbase h
  subst hm
  obtain rfl : ys = [] := List.eq_nil_of_length_eq_zero (by omega)
  obtain ⟨i, h2, h3, h4, h5⟩ := info_parts et.info
  have h' : ∀ a' cap' w', OwnN E k w' base a' cap' l → w.grownBy w' (Value.slice a l.length cap).ownBlock → Below base w w' → wpList P ops Q rest (ac.put o.dst (.slice a' l.length cap')) w' := by
    intro a' cap' w' h6
    have := h a' cap' w' (by simpa using h6)
    simpa using this
  refine wpList_plain (by assumption) fun K hK' => ?_
  cases b with
  | none =>
    obtain rfl : c = 0 := hy.2.1.2 rfl
    have hr := run_append_owned_none (P := P) w base T o.type E i 1 et.und h2 _ l.length _ hown
    unfold Oper.wp
    simp [execOp, ho, resolve, invoke, builtin, hs, hx, hr, Result.andThen]
    exact hK' _ _ (h' a cap w hown (World.grownBy.refl _ _) (Below.refl _ _))
  | some ad =>
    obtain ⟨v', w', hr, h6, h7, h8⟩ := run_append_own (P := P) w base T o.type E i (.int k 0) 1 bytes et.und h2 h3 h4 h5 rfl (by decide) _ l.length _ hown ad 0 c [] (by simp)
      (by simp) (by simp) (by simpa [maxLen] using hn) (by simpa using hbytes) hbase
    have hv : ∃ a' cap', v' = .slice a' l.length cap' := by
      rcases h6.2 with ⟨h9, h10⟩ | ⟨g, c', cur, h9, _⟩
      · exact ⟨none, 0, by rw [h9]; simp at h10; rw [h10]; rfl⟩
      · exact ⟨_, _, h9⟩
    obtain ⟨a', cap', rfl⟩ := hv
    have hown' : OwnN E k w' base a' cap' l := by
      unfold OwnN; simpa using h6
    have hbel : Below base w w' := Below.of_grown h7 hbase (by
      intro g hg
      exact (World.ownsRow.lt hown g hg).1)
    unfold Oper.wp
    simp only [List.length_nil] at hx
    simp [execOp, ho, resolve, invoke, builtin, hs, hx, hr, Result.andThen]
    exact hK' _ _ (h' a' cap' w' hown' h7 hbel)
end
section
variable {P : Program} {T E : TypeId} {k : IntKind} {bytes : Nat} {F : Fence} {dep : Nat}
theorem makeNIn (et : ElemTy P T E k bytes) {w : World} {ops : Array Oper} {rest : List Oper} {o : Oper} {a : Act} {Q : Exit → Act → World → Prop}
    (hg : o.guard = none) (lo c : Operand) (hop : o.op = Op.makeSlice T lo c) (base : Nat) {kl kc : IntKind} {n : Nat} (hl : a.eval lo = .int kl n) (hc : a.eval c = .int kc n)
    (hb : bytes * n ≤ 281474976710656) (hn : n ≤ 9223372036854775807) (hbase : base ≤ w.heap.size)
    (hK : ∀ w', OwnN E k w' base (some ⟨w.heap.size, 0, none⟩) n (List.replicate n 0) → w.grownBy w' none → wpListIn F dep P ops Q rest (a.put o.dst (.slice (some ⟨w.heap.size, 0, none⟩) n n)) w') :
    wpListIn F dep P ops Q (o :: rest) a w := by
  obtain ⟨i, h2, h3, h4, h5⟩ := info_parts et.info
  refine wpListIn_plain (by assumption) fun K hK' => ?_
  obtain ⟨w', hrun, r1, r2⟩ := run_make_full (P := P) w base T E i (.int k 0) 1 et.und h2 h3 h4 kl kc n (by rw [h5]; exact hb) (by simpa [maxLen] using hn) hbase
  unfold Oper.wpIn
  refine ⟨by simp [Oper.about, hop], ?_⟩
  rw [Oper.semAt_plain F _ _ (by rw [hop]; intro c hc'; cases hc')]
  simp [execOp, hop, hl, hc, hrun, Result.andThen]
  refine hK' _ _ (hK w' ?_ r2)
  unfold OwnN
  have hm : (madeCells (Value.int k 0).cells (n * 1)).toList = (List.replicate n (0 : Nat)).map fun (n : Nat) => Value.int k n := by
    rw [Nat.mul_one]; show (madeCells #[.int k 0] n).toList = _; rw [toList_madeCells_one]; simp
  rw [List.length_replicate, ← hm]
  exact r1
end
section
variable {P : Program} {E : TypeId} {k : IntKind} {w w' : World} {base cap : Nat} {a : Option Addr} {l : List Int}
end
section
variable {P : Program} {T E : TypeId} {k : IntKind} {bytes : Nat}
end
section
variable {P : Program} {T E : TypeId} {k : IntKind} {bytes : Nat} {F : Fence} {dep : Nat}
end
end Go.Proofs.Ytmgoeokdlklabaa
