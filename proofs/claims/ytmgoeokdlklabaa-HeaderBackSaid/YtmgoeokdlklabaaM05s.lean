/- Plain mathematics of layer 5: the insertion sort by frequency puts the rarest first. -/
import Derived.Test.YtmgoeokdlklabaaM05
namespace Go.Proofs.Ytmgoeokdlklabaa.M05
set_option linter.unusedVariables false

def swapL (d : List Nat) (j : Nat) : List Nat := (d.set (j + 1) (d.getD j 0)).set j (d.getD (j + 1) 0)
/-- the element at j goes down while it is rarer than the one below -/
def insD (f : List Nat) (a : Nat) : Nat → List Nat → List Nat
  | 0, d => d
  | j + 1, d => if a < j + 1 ∧ f.getD (d.getD (j + 1) 0) 0 < f.getD (d.getD j 0) 0 then insD f a j (swapL d j) else d
/-- from i on, n steps -/
def insO (f : List Nat) (a : Nat) : Nat → Nat → List Nat → List Nat
  | _, 0, d => d
  | i, n + 1, d => insO f a (i + 1) n (insD f a i d)
def insS (f : List Nat) (a b : Nat) (d : List Nat) : List Nat := insO f a (a + 1) (b - (a + 1)) d
theorem swapL_len (d : List Nat) (j : Nat) : (swapL d j).length = d.length := by simp [swapL]
theorem insD_len (f : List Nat) (a : Nat) : ∀ j d, (insD f a j d).length = d.length := by
  intro j
  induction j with
  | zero => intro d; rfl
  | succ j ih =>
    intro d
    unfold insD
    split
    · rw [ih, swapL_len]
    · rfl
/-- x goes into a row that is written from its end -/
def inr (f : List Nat) (x : Nat) : List Nat → List Nat
  | [] => [x]
  | y :: ys => if f.getD x 0 < f.getD y 0 then y :: inr f x ys else x :: y :: ys
theorem inr_len (f : List Nat) (x : Nat) : ∀ r, (inr f x r).length = r.length + 1 := by
  intro r
  induction r with
  | nil => rfl
  | cons y ys ih =>
    unfold inr
    split
    · simp [ih]
    · rfl
theorem inr_perm (f : List Nat) (x : Nat) : ∀ r, (inr f x r).Perm (x :: r) := by
  intro r
  induction r with
  | nil => exact .refl _
  | cons y ys ih =>
    unfold inr
    split
    · exact (List.Perm.cons y ih).trans (List.Perm.swap x y ys)
    · exact .refl _
theorem getD_at (a : List Nat) (x : Nat) (b : List Nat) : (a ++ x :: b).getD a.length 0 = x := by
  rw [List.getD_eq_getElem?_getD, List.getElem?_append_right (Nat.le_refl _)]; simp
theorem swap_at (a : List Nat) (y x : Nat) (b : List Nat) : swapL (a ++ y :: x :: b) a.length = a ++ x :: y :: b := by
  have h1 : (a ++ y :: x :: b).getD a.length 0 = y := getD_at a y _
  have h2 : (a ++ y :: x :: b).getD (a.length + 1) 0 = x := by
    simp
  unfold swapL
  rw [h1, h2, List.set_append_right _ _ (by omega)]
  rw [show a.length + 1 - a.length = 1 by omega]
  rw [List.set_append_right _ _ (by omega), Nat.sub_self]
  rfl
theorem insD_inr (f : List Nat) : ∀ (r : List Nat) (x : Nat) (suf : List Nat), insD f 0 r.length (r.reverse ++ x :: suf) = (inr f x r).reverse ++ suf := by
  intro r
  induction r with
  | nil => intro x suf; rfl
  | cons y ys ih =>
    intro x suf
    have e : (y :: ys).reverse ++ x :: suf = ys.reverse ++ y :: x :: suf := by simp
    rw [e]
    have hl : ys.reverse.length = ys.length := by simp
    have h1 : (ys.reverse ++ y :: x :: suf).getD ys.length 0 = y := by rw [← hl]; exact getD_at _ _ _
    have h2 : (ys.reverse ++ y :: x :: suf).getD (ys.length + 1) 0 = x := by
      simp
    show (if 0 < ys.length + 1 ∧ _ then _ else _) = _
    rw [h1, h2]
    unfold inr
    by_cases hlt : f.getD x 0 < f.getD y 0
    · rw [if_pos ⟨by omega, hlt⟩, if_pos hlt]
      have := swap_at ys.reverse y x suf
      rw [hl] at this
      rw [this, ih]
      simp
    · rw [if_neg (fun h => hlt h.2), if_neg hlt]
      simp
/-- the row, written from its end, after all of suf has gone in -/
theorem insO_fold (f : List Nat) : ∀ (suf r : List Nat), insO f 0 r.length suf.length (r.reverse ++ suf) = (suf.foldl (fun r x => inr f x r) r).reverse := by
  intro suf
  induction suf with
  | nil => intro r; simp [insO]
  | cons x s ih =>
    intro r
    show insO f 0 (r.length + 1) s.length (insD f 0 r.length (r.reverse ++ x :: s)) = _
    rw [insD_inr, ← inr_len f x r, ih]
    rfl
def LexR (f : List Nat) (r : List Nat) : Prop := r.Pairwise fun a b => ltF f b a = true
theorem inr_lex (f : List Nat) (x : Nat) : ∀ r, LexR f r → (∀ y ∈ r, y < x) → LexR f (inr f x r) := by
  intro r
  induction r with
  | nil => intro _ _; simp [inr, LexR]
  | cons y ys ih =>
    intro h hx
    unfold LexR at h
    rw [List.pairwise_cons] at h
    have hyx := hx y (by simp)
    unfold inr
    split
    · next hlt =>
      refine List.pairwise_cons.2 ⟨fun z hz => ?_, ih h.2 (fun z hz => hx z (by simp [hz]))⟩
      rcases List.mem_cons.1 ((inr_perm f x ys).mem_iff.1 hz) with rfl | hz
      · unfold ltF; simp only [Bool.or_eq_true, decide_eq_true_eq]; exact .inl hlt
      · exact h.1 z hz
    · next hlt =>
      have hy : ltF f y x = true := by
        unfold ltF
        simp only [Bool.or_eq_true, Bool.and_eq_true, decide_eq_true_eq]
        omega
      refine List.pairwise_cons.2 ⟨fun z hz => ?_, List.pairwise_cons.2 h⟩
      rcases List.mem_cons.1 hz with rfl | hz
      · exact hy
      · exact ltF_trans f _ _ _ (h.1 z hz) hy
theorem fold_lex (f : List Nat) : ∀ (suf r : List Nat), suf.Pairwise (· < ·) → LexR f r → (∀ y ∈ r, ∀ x ∈ suf, y < x) →
    LexR f (suf.foldl (fun r x => inr f x r) r) ∧ (suf.foldl (fun r x => inr f x r) r).Perm (r ++ suf) := by
  intro suf
  induction suf with
  | nil => intro r _ h _; exact ⟨h, by simp⟩
  | cons x s ih =>
    intro r hs hr hx
    rw [List.pairwise_cons] at hs
    obtain ⟨h1, h2⟩ := ih (inr f x r) hs.2 (inr_lex f x r hr (fun y hy => hx y hy x (by simp))) (by
      intro y hy z hz
      rcases List.mem_cons.1 ((inr_perm f x r).mem_iff.1 hy) with rfl | hy
      · exact hs.1 z hz
      · exact hx y hy z (by simp [hz]))
    refine ⟨h1, h2.trans ?_⟩
    exact ((inr_perm f x r).append_right s).trans List.perm_middle.symm
theorem used_rises (f : List Nat) : (used f).Pairwise (· < ·) := List.Pairwise.filter _ List.pairwise_lt_range
theorem insS_rar (f : List Nat) : insS f 0 (used f).length (used f) = rar f := by
  have hu := used_rises f
  have hp := rar_perm f
  unfold insS
  generalize used f = u at *
  match u with
  | [] => exact (hp.eq_nil).symm
  | x :: s =>
    rw [List.pairwise_cons] at hu
    have h1 := insO_fold f s [x]
    have h2 : (x :: s).length - (0 + 1) = s.length := by simp
    rw [h2, Nat.zero_add]
    have h3 : insO f 0 1 s.length (x :: s) = _ := h1
    rw [h3]
    obtain ⟨h4, h5⟩ := fold_lex f s [x] hu.2 (by simp [LexR]) (by intro y hy z hz; simp at hy; subst hy; exact hu.1 z hz)
    refine lex_unique f _ _ ?_ ?_ (rar_lex f)
    · exact (List.reverse_perm _).trans (h5.trans hp.symm)
    · unfold Lex
      rw [List.pairwise_reverse]
      exact h4
end Go.Proofs.Ytmgoeokdlklabaa.M05
