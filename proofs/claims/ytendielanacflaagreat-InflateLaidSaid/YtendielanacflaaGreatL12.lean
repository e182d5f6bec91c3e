/- Plain mathematics of layer 5: the library's stable sort from 20 elements on: exchanges, rotations, merges. -/
import Derived.Test.YtendielanacflaaGreatL11
namespace Go.Proofs.YtendielanacflaaGreat.M05
set_option linter.unusedVariables false
def sw2 (d : List Nat) (i j : Nat) : List Nat := (d.set i (d.getD j 0)).set j (d.getD i 0)
theorem sw2_len (d : List Nat) (i j : Nat) : (sw2 d i j).length = d.length := by simp [sw2]
theorem sw2_at (P Q S : List Nat) (x y : Nat) : sw2 (P ++ x :: (Q ++ y :: S)) P.length (P.length + 1 + Q.length) = P ++ y :: (Q ++ x :: S) := by
  unfold sw2
  have h1 : (P ++ x :: (Q ++ y :: S)).getD P.length 0 = x := getD_at P x _
  have h2 : (P ++ x :: (Q ++ y :: S)).getD (P.length + 1 + Q.length) 0 = y := by
    have := getD_at (P ++ x :: Q) y S
    rw [List.length_append, List.length_cons, List.append_assoc, List.cons_append] at this
    rw [show P.length + 1 + Q.length = P.length + (Q.length + 1) by omega]; exact this
  rw [h1, h2]
  rw [List.set_append_right _ _ (by omega), Nat.sub_self, List.set_cons_zero]
  rw [List.set_append_right _ _ (by omega), show P.length + 1 + Q.length - P.length = Q.length + 1 by omega, List.set_cons_succ]
  rw [List.set_append_right _ _ (by omega), Nat.sub_self, List.set_cons_zero]
def swF : Nat → Nat → Nat → List Nat → List Nat
  | 0, _, _, d => d
  | n + 1, a, b, d => swF n (a + 1) (b + 1) (sw2 d a b)
theorem swF_list : ∀ (X A C Y B : List Nat), X.length = Y.length → swF X.length A.length (A.length + X.length + C.length) (A ++ (X ++ (C ++ (Y ++ B)))) = A ++ (Y ++ (C ++ (X ++ B))) := by
  intro X
  induction X with
  | nil =>
    intro A C Y B h
    have : Y = [] := List.eq_nil_of_length_eq_zero (by simpa using h.symm)
    subst this
    rfl
  | cons x X ih =>
    intro A C Y B h
    match Y with
    | [] => simp at h
    | y :: Y =>
      simp only [List.length_cons, Nat.add_right_cancel_iff] at h
      show swF X.length (A.length + 1) (A.length + (X.length + 1) + C.length + 1) (sw2 (A ++ ((x :: X) ++ (C ++ ((y :: Y) ++ B)))) A.length (A.length + (X.length + 1) + C.length)) = _
      have h1 := sw2_at A (X ++ C) (Y ++ B) x y
      simp only [List.length_append, List.append_assoc] at h1
      rw [show A.length + (X.length + 1) + C.length = A.length + 1 + (X.length + C.length) by omega]
      simp only [List.cons_append]
      rw [h1]
      have h2 := ih (A ++ [y]) (C ++ [x]) Y B h
      simp only [List.length_append, List.length_singleton, List.append_assoc, List.singleton_append] at h2
      rw [show A.length + 1 + (X.length + C.length) + 1 = A.length + 1 + X.length + (C.length + 1) by omega]
      exact h2
def rotF : Nat → Nat → Nat → Nat → List Nat → List Nat
  | 0, _, _, _, d => d
  | f + 1, m, i, j, d => if i = j then swF i (m - i) m d else if j < i then rotF f m (i - j) j (swF j (m - i) m d) else rotF f m i (j - i) (swF i (m - i) (m + j - i) d)
theorem rotF_list : ∀ (f : Nat) (A X Y B : List Nat), 0 < X.length → 0 < Y.length → X.length + Y.length ≤ f → rotF f (A.length + X.length) X.length Y.length (A ++ (X ++ (Y ++ B))) = A ++ (Y ++ (X ++ B)) := by
  intro f
  induction f with
  | zero => intro A X Y B h1 h2 h; omega
  | succ f ih =>
    intro A X Y B h1 h2 h
    unfold rotF
    split
    · next he =>
      have := swF_list X A [] Y B he
      simp only [List.length_nil, Nat.add_zero, List.nil_append] at this
      rw [Nat.add_sub_cancel]
      exact this
    · next hne =>
      split
      · next hlt =>
        -- X = X1 ++ X2, X1 as long as Y
        obtain ⟨X1, X2, rfl, hX1⟩ : ∃ X1 X2, X = X1 ++ X2 ∧ X1.length = Y.length := ⟨X.take Y.length, X.drop Y.length, (List.take_append_drop _ _).symm, by rw [List.length_take]; omega⟩
        rw [List.length_append] at *
        have h3 := swF_list X1 A X2 Y B hX1
        rw [Nat.add_sub_cancel, ← hX1]
        simp only [List.append_assoc]
        rw [show A.length + (X1.length + X2.length) = A.length + X1.length + X2.length by omega, h3]
        have h4 := ih (A ++ Y) X2 X1 B (by omega) (by omega) (by omega)
        simp only [List.length_append, List.append_assoc] at h4
        rw [show X1.length + X2.length - X1.length = X2.length by omega, hX1]
        rw [hX1] at h4
        exact h4
      · next hge =>
        obtain ⟨Y1, Y2, rfl, hY2⟩ : ∃ Y1 Y2, Y = Y1 ++ Y2 ∧ Y2.length = X.length := ⟨Y.take (Y.length - X.length), Y.drop (Y.length - X.length), (List.take_append_drop _ _).symm, by rw [List.length_drop]; omega⟩
        rw [List.length_append] at *
        have h3 := swF_list X A Y1 Y2 B hY2.symm
        rw [Nat.add_sub_cancel]
        simp only [List.append_assoc]
        rw [show A.length + X.length + (Y1.length + Y2.length) - X.length = A.length + X.length + Y1.length by omega, h3]
        have h4 := ih A Y2 Y1 (X ++ B) (by omega) (by omega) (by omega)
        rw [show Y1.length + Y2.length - X.length = Y1.length by omega]
        rw [hY2] at h4
        exact h4
def fLt (f : List Nat) (x y : Nat) : Prop := f.getD x 0 < f.getD y 0
theorem ltF_of (f : List Nat) (x y : Nat) (hxy : x < y) (h : ¬ fLt f y x) : ltF f x y = true := by
  unfold fLt at h
  unfold ltF
  simp only [Bool.or_eq_true, Bool.and_eq_true, decide_eq_true_eq]
  omega
theorem ltF_gt (f : List Nat) (x y : Nat) (h : fLt f y x) : ltF f y x = true := by
  unfold fLt at h
  unfold ltF
  simp only [Bool.or_eq_true, decide_eq_true_eq]
  exact .inl h
theorem merge_split (f : List Nat) (L1 L2 R1 R2 : List Nat) (hL : Lex f (L1 ++ L2)) (hR : Lex f (R1 ++ R2)) (hx : ∀ x ∈ L1 ++ L2, ∀ y ∈ R1 ++ R2, x < y)
    (h1 : L1 = [] ∨ R2 = [] ∨ ∃ L' x R' y, L1 = L' ++ [x] ∧ R2 = y :: R' ∧ ¬ fLt f y x) (h2 : R1 = [] ∨ L2 = [] ∨ ∃ R' y L' x, R1 = R' ++ [y] ∧ L2 = x :: L' ∧ fLt f y x) : ∀ x ∈ L1 ++ R1, ∀ y ∈ L2 ++ R2, ltF f x y = true := by
  have hL' := (List.pairwise_append.1 hL).2.2
  have hR' := (List.pairwise_append.1 hR).2.2
  have hLa := (List.pairwise_append.1 hL)
  have hRa := (List.pairwise_append.1 hR)
  intro x hxm y hym
  rcases List.mem_append.1 hxm with hx1 | hx1 <;> rcases List.mem_append.1 hym with hy1 | hy1
  · exact hL' x hx1 y hy1
  · -- x in L1, y in R2
    rcases h1 with rfl | rfl | ⟨L', a, R', b, rfl, rfl, hn⟩
    · cases hx1
    · cases hy1
    · have hab := ltF_of f a b (hx a (by simp) b (by simp)) hn
      have hxa : x = a ∨ ltF f x a = true := by
        rcases List.mem_append.1 hx1 with h | h
        · exact .inr ((List.pairwise_append.1 hLa.1).2.2 x h a (by simp))
        · exact .inl (by simpa using h)
      have hby : y = b ∨ ltF f b y = true := by
        rcases List.mem_cons.1 hy1 with h | h
        · exact .inl h
        · exact .inr ((List.pairwise_cons.1 hRa.2.1).1 y h)
      rcases hxa with rfl | h3
      · rcases hby with rfl | h4
        · exact hab
        · exact ltF_trans f _ _ _ hab h4
      · rcases hby with rfl | h4
        · exact ltF_trans f _ _ _ h3 hab
        · exact ltF_trans f _ _ _ h3 (ltF_trans f _ _ _ hab h4)
  · -- x in R1, y in L2
    rcases h2 with rfl | rfl | ⟨R', b, L', a, rfl, rfl, hn⟩
    · cases hx1
    · cases hy1
    · have hab := ltF_gt f a b hn
      have hxb : x = b ∨ ltF f x b = true := by
        rcases List.mem_append.1 hx1 with h | h
        · exact .inr ((List.pairwise_append.1 hRa.1).2.2 x h b (by simp))
        · exact .inl (by simpa using h)
      have hay : y = a ∨ ltF f a y = true := by
        rcases List.mem_cons.1 hy1 with h | h
        · exact .inl h
        · exact .inr ((List.pairwise_cons.1 hLa.2.1).1 y h)
      rcases hxb with rfl | h3
      · rcases hay with rfl | h4
        · exact hab
        · exact ltF_trans f _ _ _ hab h4
      · rcases hay with rfl | h4
        · exact ltF_trans f _ _ _ h3 hab
        · exact ltF_trans f _ _ _ h3 (ltF_trans f _ _ _ hab h4)
  · exact hR' x hx1 y hy1
theorem merge_join (f : List Nat) (L1 L2 R1 R2 M1 M2 : List Nat) (h : ∀ x ∈ L1 ++ R1, ∀ y ∈ L2 ++ R2, ltF f x y = true) (p1 : M1.Perm (L1 ++ R1)) (l1 : Lex f M1) (p2 : M2.Perm (L2 ++ R2)) (l2 : Lex f M2) : (M1 ++ M2).Perm ((L1 ++ L2) ++ (R1 ++ R2)) ∧ Lex f (M1 ++ M2) := by
  refine ⟨?_, List.pairwise_append.2 ⟨l1, l2, fun x hx y hy => h x (p1.mem_iff.1 hx) y (p2.mem_iff.1 hy)⟩⟩
  refine (List.Perm.append p1 p2).trans ?_
  rw [List.append_assoc, List.append_assoc]
  refine List.Perm.append_left L1 ?_
  rw [← List.append_assoc, ← List.append_assoc]
  exact List.Perm.append_right R2 List.perm_append_comm
theorem getD_L (P L Y : List Nat) (i : Nat) (h1 : P.length ≤ i) (h2 : i < P.length + L.length) : (P ++ (L ++ Y)).getD i 0 = L[i - P.length]'(by omega) := by
  rw [List.getD_eq_getElem?_getD, List.getElem?_append_right h1, List.getElem?_append_left (by omega), List.getElem?_eq_getElem (by omega)]; rfl
theorem getD_R (P L R Q : List Nat) (i : Nat) (h1 : P.length + L.length ≤ i) (h2 : i < P.length + L.length + R.length) : (P ++ (L ++ (R ++ Q))).getD i 0 = R[i - (P.length + L.length)]'(by omega) := by
  rw [List.getD_eq_getElem?_getD, List.getElem?_append_right (by omega), List.getElem?_append_right (by omega), List.getElem?_append_left (by omega), List.getElem?_eq_getElem (by omega)]
  simp only [Nat.sub_sub]; rfl
theorem last_of {l : List Nat} {k : Nat} (h0 : 0 < k) (h : k ≤ l.length) : l.take k = l.take (k - 1) ++ [l[k - 1]'(by omega)] := by
  obtain ⟨j, rfl⟩ : ∃ j, k = j + 1 := ⟨k - 1, by omega⟩
  exact List.take_succ_eq_append_getElem (by omega)
theorem head_of {l : List Nat} {k : Nat} (h : k < l.length) : l.drop k = l[k] :: l.drop (k + 1) := List.drop_eq_getElem_cons h
theorem cut_ok (f P L R Q : List Nat) (s e : Nat) (hL : Lex f L) (hR : Lex f R) (hx : ∀ x ∈ L, ∀ y ∈ R, x < y) (hs1 : P.length ≤ s) (hs2 : s ≤ P.length + L.length) (he1 : P.length + L.length ≤ e) (he2 : e ≤ P.length + L.length + R.length)
    (h1 : s = P.length ∨ e = P.length + L.length + R.length ∨ ¬ fLt f ((P ++ (L ++ (R ++ Q))).getD e 0) ((P ++ (L ++ (R ++ Q))).getD (s - 1) 0))
    (h2 : e = P.length + L.length ∨ s = P.length + L.length ∨ fLt f ((P ++ (L ++ (R ++ Q))).getD (e - 1) 0) ((P ++ (L ++ (R ++ Q))).getD s 0)) :
    ∀ x ∈ L.take (s - P.length) ++ R.take (e - (P.length + L.length)), ∀ y ∈ L.drop (s - P.length) ++ R.drop (e - (P.length + L.length)), ltF f x y = true := by
  have tL := List.take_append_drop (s - P.length) L
  have tR := List.take_append_drop (e - (P.length + L.length)) R
  refine merge_split f (L.take (s - P.length)) (L.drop (s - P.length)) (R.take (e - (P.length + L.length))) (R.drop (e - (P.length + L.length))) (by rw [tL]; exact hL) (by rw [tR]; exact hR) (by rw [tL, tR]; exact hx) ?_ ?_
  · by_cases g1 : s = P.length
    · left; rw [g1, Nat.sub_self]; rfl
    · by_cases g2 : e = P.length + L.length + R.length
      · right; left; exact List.drop_of_length_le (by omega)
      · right; right
        have g3 : ¬ fLt f ((P ++ (L ++ (R ++ Q))).getD e 0) ((P ++ (L ++ (R ++ Q))).getD (s - 1) 0) := by
          rcases h1 with h | h | h
          · exact absurd h g1
          · exact absurd h g2
          · exact h
        rw [getD_R P L R Q e he1 (by omega), getD_L P L (R ++ Q) (s - 1) (by omega) (by omega)] at g3
        refine ⟨_, _, _, _, last_of (by omega) (by omega), head_of (by omega), ?_⟩
        have e1 : s - 1 - P.length = s - P.length - 1 := by omega
        simp only [e1] at g3
        exact g3
  · by_cases g1 : e = P.length + L.length
    · left; rw [g1, Nat.sub_self]; rfl
    · by_cases g2 : s = P.length + L.length
      · right; left; exact List.drop_of_length_le (by omega)
      · right; right
        have g3 : fLt f ((P ++ (L ++ (R ++ Q))).getD (e - 1) 0) ((P ++ (L ++ (R ++ Q))).getD s 0) := by
          rcases h2 with h | h | h
          · exact absurd h g1
          · exact absurd h g2
          · exact h
        rw [getD_R P L R Q (e - 1) (by omega) (by omega), getD_L P L (R ++ Q) s hs1 (by omega)] at g3
        refine ⟨_, _, _, _, last_of (by omega) (by omega), head_of (by omega), ?_⟩
        have e1 : e - 1 - (P.length + L.length) = e - (P.length + L.length) - 1 := by omega
        simp only [e1] at g3
        exact g3
theorem lex_parts {f L A B : List Nat} (h : Lex f L) (e : L = A ++ B) : Lex f A ∧ Lex f B := by
  rw [e] at h
  exact ⟨(List.pairwise_append.1 h).1, (List.pairwise_append.1 h).2.1⟩
theorem ins_left (f P R Q : List Nat) (x e : Nat) (hR : Lex f R) (hx : ∀ y ∈ R, x < y) (he1 : P.length + 1 ≤ e) (he2 : e ≤ P.length + 1 + R.length)
    (h1 : e = P.length + 1 + R.length ∨ ¬ fLt f ((P ++ ([x] ++ (R ++ Q))).getD e 0) ((P ++ ([x] ++ (R ++ Q))).getD P.length 0))
    (h2 : e = P.length + 1 ∨ fLt f ((P ++ ([x] ++ (R ++ Q))).getD (e - 1) 0) ((P ++ ([x] ++ (R ++ Q))).getD P.length 0)) :
    (R.take (e - (P.length + 1)) ++ x :: R.drop (e - (P.length + 1))).Perm ([x] ++ R) ∧ Lex f (R.take (e - (P.length + 1)) ++ x :: R.drop (e - (P.length + 1))) := by
  have hLx : Lex f [x] := List.pairwise_singleton _ _
  have hcr : ∀ a ∈ [x], ∀ y ∈ R, a < y := fun a ha y hy => by rw [List.mem_singleton.1 ha]; exact hx y hy
  have c1 := cut_ok f P [x] R Q (P.length + 1) e hLx hR hcr (by omega) (by simp) (by simpa using he1) (by simpa using he2) (by
    rcases h1 with h | h
    · exact .inr (.inl (by simpa using h))
    · exact .inr (.inr (by rw [Nat.add_sub_cancel]; exact h))) (.inr (.inl (by simp)))
  have c2 := cut_ok f P [x] R Q P.length e hLx hR hcr (Nat.le_refl _) (by simp) (by simpa using he1) (by simpa using he2) (.inl rfl) (by
    rcases h2 with h | h
    · exact .inl (by simpa using h)
    · exact .inr (.inr h))
  simp only [List.length_singleton, Nat.add_sub_cancel_left, Nat.sub_self, List.take_zero, List.drop_zero, List.nil_append] at c1 c2
  have t1 : [x].take 1 = [x] := rfl
  have d1 : [x].drop 1 = ([] : List Nat) := rfl
  rw [t1, d1] at c1
  obtain ⟨lA, lB⟩ := lex_parts hR (List.take_append_drop (e - (P.length + 1)) R).symm
  refine ⟨?_, List.pairwise_append.2 ⟨lA, List.pairwise_cons.2 ⟨fun y hy => c1 x (by simp) y (by simpa using hy), lB⟩, fun a ha y hy => c2 a ha y (by simpa using hy)⟩⟩
  refine List.perm_middle.trans ?_
  rw [List.take_append_drop]
  exact .refl _
theorem ins_right (f P L Q : List Nat) (y s : Nat) (hL : Lex f L) (hx : ∀ x ∈ L, x < y) (hs1 : P.length ≤ s) (hs2 : s ≤ P.length + L.length)
    (h1 : s = P.length ∨ ¬ fLt f ((P ++ (L ++ ([y] ++ Q))).getD (P.length + L.length) 0) ((P ++ (L ++ ([y] ++ Q))).getD (s - 1) 0))
    (h2 : s = P.length + L.length ∨ fLt f ((P ++ (L ++ ([y] ++ Q))).getD (P.length + L.length) 0) ((P ++ (L ++ ([y] ++ Q))).getD s 0)) :
    (L.take (s - P.length) ++ y :: L.drop (s - P.length)).Perm (L ++ [y]) ∧ Lex f (L.take (s - P.length) ++ y :: L.drop (s - P.length)) := by
  have hRy : Lex f [y] := List.pairwise_singleton _ _
  have hcr : ∀ a ∈ L, ∀ b ∈ [y], a < b := fun a ha b hb => by rw [List.mem_singleton.1 hb]; exact hx a ha
  have c1 := cut_ok f P L [y] Q s (P.length + L.length) hL hRy hcr hs1 hs2 (Nat.le_refl _) (by simp) (by
    rcases h1 with h | h
    · exact .inl h
    · exact .inr (.inr h)) (.inl rfl)
  have c2 := cut_ok f P L [y] Q s (P.length + L.length + 1) hL hRy hcr hs1 hs2 (by omega) (by simp) (.inr (.inl (by simp))) (by
    rcases h2 with h | h
    · exact .inr (.inl h)
    · exact .inr (.inr (by rw [Nat.add_sub_cancel]; exact h)))
  rw [Nat.sub_self] at c1
  rw [Nat.add_sub_cancel_left] at c2
  have t1 : [y].take 1 = [y] := rfl
  have d1 : [y].drop 1 = ([] : List Nat) := rfl
  rw [t1, d1, List.append_nil] at c2
  rw [List.take_zero, List.drop_zero, List.append_nil] at c1
  obtain ⟨lA, lB⟩ := lex_parts hL (List.take_append_drop (s - P.length) L).symm
  refine ⟨?_, List.pairwise_append.2 ⟨lA, List.pairwise_cons.2 ⟨fun b hb => c2 y (by simp) b hb, lB⟩, fun a ha b hb => ?_⟩⟩
  · refine List.perm_middle.trans ?_
    rw [List.take_append_drop]
    exact (List.perm_append_singleton y L).symm
  · rcases List.mem_cons.1 hb with rfl | hb
    · exact c1 a ha _ (by simp)
    · exact c1 a ha b (by simp [hb])
theorem sw2_up (P A B : List Nat) (x y : Nat) : sw2 (P ++ (A ++ x :: y :: B)) (P.length + A.length) (P.length + A.length + 1) = P ++ ((A ++ [y]) ++ x :: B) := by
  have h := sw2_at (P ++ A) [] B x y
  simp only [List.length_append, List.length_nil, List.nil_append, Nat.add_zero, List.append_assoc] at h
  rw [h]; simp
theorem sw2_down (P A B : List Nat) (x y : Nat) : sw2 (P ++ (A ++ y :: x :: B)) (P.length + A.length + 1) (P.length + A.length) = P ++ (A ++ x :: y :: B) := by
  have h1 : (P ++ (A ++ y :: x :: B)).getD (P.length + A.length) 0 = y := by
    have := getD_at (P ++ A) y (x :: B)
    rw [List.length_append, List.append_assoc] at this; exact this
  have h2 : (P ++ (A ++ y :: x :: B)).getD (P.length + A.length + 1) 0 = x := by
    have := getD_at (P ++ A ++ [y]) x B
    simp only [List.length_append, List.append_assoc, List.length_singleton, List.singleton_append] at this; exact this
  unfold sw2
  rw [h1, h2]
  rw [List.set_append_right _ _ (by omega), List.set_append_right _ _ (by omega), show P.length + A.length + 1 - P.length = A.length + 1 by omega, show P.length + A.length - P.length = A.length by omega]
  rw [List.set_append_right _ _ (by omega), show A.length + 1 - A.length = 1 by omega, List.set_append_right _ _ (by omega), Nat.sub_self]
  rfl
theorem getD_mid (A S B : List Nat) (j : Nat) (hj : j < S.length) : (A ++ (S ++ B)).getD (A.length + j) 0 = S.getD j 0 := by
  rw [List.getD_eq_getElem?_getD, List.getD_eq_getElem?_getD, List.getElem?_append_right (by omega), Nat.add_sub_cancel_left, List.getElem?_append_left hj]
theorem set_mid (A S B : List Nat) (j x : Nat) (hj : j < S.length) : (A ++ (S ++ B)).set (A.length + j) x = A ++ (S.set j x ++ B) := by
  rw [List.set_append_right _ _ (by omega), Nat.add_sub_cancel_left, List.set_append_left _ _ hj]
theorem swapL_mid (A S B : List Nat) (j : Nat) (hj : j + 1 < S.length) : swapL (A ++ (S ++ B)) (A.length + j) = A ++ (swapL S j ++ B) := by
  unfold swapL
  rw [getD_mid A S B j (by omega), show A.length + j + 1 = A.length + (j + 1) by omega, getD_mid A S B (j + 1) hj, set_mid A S B (j + 1) _ hj, set_mid A _ B j _ (by rw [List.length_set]; omega)]
theorem insD_mid (f A B : List Nat) : ∀ (j : Nat) (S : List Nat), j < S.length → insD f A.length (A.length + j) (A ++ (S ++ B)) = A ++ (insD f 0 j S ++ B) := by
  intro j
  induction j with
  | zero =>
    intro S h
    cases hA : A.length with
    | zero => rfl
    | succ k =>
      show (if _ then _ else _) = _
      rw [if_neg (fun h => by omega)]
      rfl
  | succ j ih =>
    intro S h
    show (if A.length < A.length + j + 1 ∧ f.getD ((A ++ (S ++ B)).getD (A.length + (j + 1)) 0) 0 < f.getD ((A ++ (S ++ B)).getD (A.length + j) 0) 0 then insD f A.length (A.length + j) (swapL (A ++ (S ++ B)) (A.length + j)) else A ++ (S ++ B)) = A ++ ((if 0 < j + 1 ∧ f.getD (S.getD (j + 1) 0) 0 < f.getD (S.getD j 0) 0 then insD f 0 j (swapL S j) else S) ++ B)
    rw [getD_mid A S B _ h, getD_mid A S B j (by omega), swapL_mid A S B j h, ih (swapL S j) (by rw [swapL_len]; omega)]
    by_cases hc : f.getD (S.getD (j + 1) 0) 0 < f.getD (S.getD j 0) 0
    · rw [if_pos ⟨by omega, hc⟩, if_pos ⟨by omega, hc⟩]
    · rw [if_neg (fun h => hc h.2), if_neg (fun h => hc h.2)]
theorem insO_mid (f A B : List Nat) : ∀ (n i : Nat) (S : List Nat), i + n ≤ S.length → insO f A.length (A.length + i) n (A ++ (S ++ B)) = A ++ (insO f 0 i n S ++ B) := by
  intro n
  induction n with
  | zero => intro i S h; rfl
  | succ n ih =>
    intro i S h
    show insO f A.length (A.length + i + 1) n (insD f A.length (A.length + i) (A ++ (S ++ B))) = A ++ (insO f 0 (i + 1) n (insD f 0 i S) ++ B)
    rw [insD_mid f A B i S (by omega), show A.length + i + 1 = A.length + (i + 1) by omega, ih (i + 1) _ (by rw [insD_len]; omega)]
theorem insS_sorts (f S : List Nat) (h : S.Pairwise (· < ·)) : (insS f 0 S.length S).Perm S ∧ Lex f (insS f 0 S.length S) := by
  unfold insS
  match S with
  | [] => exact ⟨.refl _, List.Pairwise.nil⟩
  | x :: s =>
    rw [List.pairwise_cons] at h
    have h1 := insO_fold f s [x]
    have h2 : (x :: s).length - (0 + 1) = s.length := by simp
    rw [h2, Nat.zero_add]
    have h3 : insO f 0 1 s.length (x :: s) = (s.foldl (fun r x => inr f x r) [x]).reverse := h1
    rw [h3]
    obtain ⟨h4, h5⟩ := fold_lex f s [x] h.2 (by simp [LexR]) (by intro y hy z hz; simp at hy; subst hy; exact h.1 z hz)
    exact ⟨(List.reverse_perm _).trans h5, List.pairwise_reverse.2 h4⟩
theorem insS_block (f A S B : List Nat) (h : S.Pairwise (· < ·)) : ∃ M, insS f A.length (A.length + S.length) (A ++ (S ++ B)) = A ++ (M ++ B) ∧ M.Perm S ∧ Lex f M := by
  obtain ⟨h1, h2⟩ := insS_sorts f S h
  refine ⟨insS f 0 S.length S, ?_, h1, h2⟩
  unfold insS
  by_cases h0 : S.length = 0
  · have : S = [] := List.eq_nil_of_length_eq_zero h0
    subst this
    have e : A.length + ([] : List Nat).length - (A.length + 1) = 0 := by simp
    rw [e]; rfl
  · rw [show A.length + S.length - (A.length + 1) = S.length - 1 by omega, show S.length - (0 + 1) = S.length - 1 by omega]
    exact insO_mid f A B (S.length - 1) 1 S (by omega)
def seg (d : List Nat) (p n : Nat) : List Nat := (d.drop p).take n
def Blk (f d0 : List Nat) (s : Nat) (d : List Nat) (k : Nat) : Prop := Lex f (seg d (k * s) s) ∧ (seg d (k * s) s).Perm (seg d0 (k * s) s)
theorem seg_left (A M M' B : List Nat) (p n : Nat) (h : p + n ≤ A.length) (hM : M.length = M'.length) : seg (A ++ (M ++ B)) p n = seg (A ++ (M' ++ B)) p n := by
  unfold seg
  rw [List.drop_append_of_le_length (by omega), List.drop_append_of_le_length (by omega), List.take_append_of_le_length (by rw [List.length_drop]; omega), List.take_append_of_le_length (by rw [List.length_drop]; omega)]
theorem seg_right (A M M' B : List Nat) (p n : Nat) (h : A.length + M.length ≤ p) (hM : M.length = M'.length) : seg (A ++ (M ++ B)) p n = seg (A ++ (M' ++ B)) p n := by
  unfold seg
  have key : ∀ N : List Nat, A.length + N.length ≤ p → List.drop p (A ++ (N ++ B)) = List.drop (p - (A.length + N.length)) B := by
    intro N hN
    rw [← List.append_assoc, List.drop_append, List.drop_of_length_le (by rw [List.length_append]; exact hN), List.length_append, List.nil_append]
  rw [key M h, key M' (by omega), hM]
theorem seg_mid (A M B : List Nat) (p n : Nat) (hp : p = A.length) (hn : n = M.length ∨ M.length ≤ n ∧ B = []) : seg (A ++ (M ++ B)) p n = M := by
  unfold seg
  subst hp
  rw [List.drop_left]
  rcases hn with rfl | ⟨h, rfl⟩
  · rw [List.take_left' rfl]
  · rw [List.append_nil, List.take_of_length_le h]
theorem cut3L (d : List Nat) (a m b : Nat) (h1 : a ≤ m) (h2 : m ≤ b) (h3 : b ≤ d.length) : d = d.take a ++ (seg d a (m - a) ++ (seg d m (b - m) ++ d.drop b)) := by
  unfold seg
  have e1 : (d.drop m).take (b - m) ++ d.drop b = d.drop m := by
    have := List.take_append_drop (b - m) (d.drop m)
    rw [List.drop_drop, show m + (b - m) = b by omega] at this
    exact this
  have e2 : (d.drop a).take (m - a) ++ d.drop m = d.drop a := by
    have := List.take_append_drop (m - a) (d.drop a)
    rw [List.drop_drop, show a + (m - a) = m by omega] at this
    exact this
  rw [e1, e2, List.take_append_drop]
theorem seg_len (d : List Nat) (p n : Nat) (h : p + n ≤ d.length) : (seg d p n).length = n := by unfold seg; rw [List.length_take, List.length_drop]; omega
theorem seg_over (d : List Nat) (p n m : Nat) (h : d.length ≤ p + n) (hm : n ≤ m) : seg d p m = seg d p n := by
  unfold seg
  rw [List.take_of_length_le (by rw [List.length_drop]; omega), List.take_of_length_le (by rw [List.length_drop]; omega)]
theorem seg_none (d : List Nat) (p n : Nat) (h : d.length ≤ p) : seg d p n = [] := by
  unfold seg
  rw [List.drop_of_length_le h, List.take_nil]
theorem seg_add (d : List Nat) (p n m : Nat) : seg d p n ++ seg d (p + n) m = seg d p (n + m) := by
  unfold seg
  rw [← List.drop_drop, List.take_add]
theorem seg_cross (d : List Nat) (h : d.Pairwise (· < ·)) (p n q m : Nat) (hq : p + n ≤ q) : ∀ x ∈ seg d p n, ∀ y ∈ seg d q m, x < y := by
  intro x hx y hy
  have h1 : x ∈ (d.take q) := by
    unfold seg at hx
    have h2 : d.take q = d.take p ++ (d.drop p).take (q - p) := by
      have := List.take_add (l := d) (i := p) (j := q - p)
      rw [show p + (q - p) = q by omega] at this
      exact this
    rw [h2]
    refine List.mem_append.2 (.inr ?_)
    have h3 : (d.drop p).take n = ((d.drop p).take (q - p)).take n := by rw [List.take_take, Nat.min_eq_left (by omega)]
    rw [h3] at hx
    exact List.mem_of_mem_take hx
  have h2 : y ∈ d.drop q := by unfold seg at hy; exact List.mem_of_mem_take hy
  have h3 := h
  rw [← List.take_append_drop q d] at h3
  exact (List.pairwise_append.1 h3).2.2 x h1 y h2
theorem blk_put (f d0 A X M B : List Nat) (s k : Nat) (hA : A.length = k * s) (hX : X.length = s ∨ X.length ≤ s ∧ B = []) (hM : M.length = X.length) (hL : Lex f M) (hp : M.Perm (seg d0 (k * s) s)) :
    Blk f d0 s (A ++ (M ++ B)) k ∧ ∀ j, j ≠ k → Blk f d0 s (A ++ (X ++ B)) j → Blk f d0 s (A ++ (M ++ B)) j := by
  constructor
  · unfold Blk
    rw [seg_mid A M B (k * s) s hA.symm (by
      rcases hX with h | ⟨h, h'⟩
      · exact .inl (by omega)
      · exact .inr ⟨by omega, h'⟩)]
    exact ⟨hL, hp⟩
  · intro j hj h
    unfold Blk at h ⊢
    have : seg (A ++ (M ++ B)) (j * s) s = seg (A ++ (X ++ B)) (j * s) s := by
      rcases Nat.lt_or_gt_of_ne hj with h1 | h1
      · have h2 : (j + 1) * s ≤ k * s := Nat.mul_le_mul_right _ h1
        rw [Nat.add_mul] at h2
        exact seg_left A M X B _ _ (by omega) hM
      · have h2 : (k + 1) * s ≤ j * s := Nat.mul_le_mul_right _ h1
        rw [Nat.add_mul] at h2
        exact seg_right A M X B _ _ (by rcases hX with h3 | ⟨h3, _⟩ <;> omega) hM
    rw [this]; exact h
def RelA (f d0 : List Nat) (k : Nat) (D : List Nat) : Prop := D.length = d0.length ∧ (∀ j, j < k → Blk f d0 20 D j) ∧ D.drop (20 * k) = d0.drop (20 * k)
theorem relA_start (f d0 : List Nat) : RelA f d0 0 d0 := ⟨rfl, fun j h => absurd h (by omega), rfl⟩
theorem seg_rises (d : List Nat) (h : d.Pairwise (· < ·)) (p n : Nat) : (seg d p n).Pairwise (· < ·) := by
  unfold seg
  exact (h.drop).take
theorem relA_put (f d0 : List Nat) (hd : d0.Pairwise (· < ·)) (k b : Nat) (D : List Nat) (h : RelA f d0 k D) (h1 : 20 * k ≤ b) (hb : b ≤ D.length) (hb2 : b = 20 * k + 20 ∨ b < 20 * k + 20 ∧ b = D.length) :
    Blk f d0 20 (insS f (20 * k) b D) k ∧ (∀ j, j < k → Blk f d0 20 (insS f (20 * k) b D) j) ∧ (insS f (20 * k) b D).length = d0.length ∧ (insS f (20 * k) b D).drop b = d0.drop b := by
  obtain ⟨g1, g2, g3⟩ := h
  have hsplit := cut3L D (20 * k) b b h1 (Nat.le_refl _) hb
  have hs0 : seg D b (b - b) = [] := by unfold seg; simp
  rw [hs0, List.nil_append] at hsplit
  have hseg : seg D (20 * k) (b - 20 * k) = seg d0 (20 * k) (b - 20 * k) := by unfold seg; rw [g3]
  have hsl := seg_len D (20 * k) (b - 20 * k) (by omega)
  have htl : (D.take (20 * k)).length = 20 * k := by rw [List.length_take]; omega
  obtain ⟨M, m1, m2, m3⟩ := insS_block f (D.take (20 * k)) (seg D (20 * k) (b - 20 * k)) (D.drop b) (by rw [hseg]; exact seg_rises d0 hd _ _)
  rw [← hsplit, htl, hsl, show 20 * k + (b - 20 * k) = b by omega] at m1
  have hml : M.length = (seg D (20 * k) (b - 20 * k)).length := m2.length_eq
  have hs20 : seg d0 (20 * k) (b - 20 * k) = seg d0 (k * 20) 20 := by
    rw [Nat.mul_comm k 20]
    rcases hb2 with e | ⟨e1, e2⟩
    · rw [e, Nat.add_sub_cancel_left]
    · exact (seg_over d0 (20 * k) (b - 20 * k) 20 (by omega) (by omega)).symm
  obtain ⟨p1, p2⟩ := blk_put f d0 (D.take (20 * k)) (seg D (20 * k) (b - 20 * k)) M (D.drop b) 20 k (by rw [htl]; omega) (by
    rcases hb2 with e | ⟨e1, e2⟩
    · exact .inl (by omega)
    · exact .inr ⟨by omega, List.drop_of_length_le (by omega)⟩) hml m3 (by rw [← hs20, ← hseg]; exact m2)
  rw [← hsplit] at p2
  rw [m1]
  refine ⟨p1, fun j hj => p2 j (by omega) (g2 j hj), ?_, ?_⟩
  · have := congrArg List.length hsplit
    rw [List.length_append, List.length_append] at this ⊢
    omega
  · rw [← List.append_assoc, List.drop_left' (by rw [List.length_append]; omega)]
    have := congrArg (List.drop (b - 20 * k)) g3
    rw [List.drop_drop, List.drop_drop, show 20 * k + (b - 20 * k) = b by omega] at this
    exact this
theorem relA_step (f d0 : List Nat) (hd : d0.Pairwise (· < ·)) (k : Nat) (D : List Nat) (h : RelA f d0 k D) (hb : 20 * k + 20 ≤ D.length) : RelA f d0 (k + 1) (insS f (20 * k) (20 * k + 20) D) := by
  obtain ⟨a, b, c, d⟩ := relA_put f d0 hd k (20 * k + 20) D h (by omega) hb (.inl rfl)
  refine ⟨c, fun j hj => ?_, by rw [show 20 * (k + 1) = 20 * k + 20 by omega]; exact d⟩
  by_cases e : j = k
  · subst e; exact a
  · exact b j (by omega)
theorem blk_none (f d0 : List Nat) (s : Nat) (D : List Nat) (h : D.length = d0.length) (j : Nat) (hj : D.length ≤ j * s) : Blk f d0 s D j := by
  unfold Blk
  rw [seg_none D _ _ hj, seg_none d0 _ _ (by omega)]
  exact ⟨List.Pairwise.nil, .refl _⟩
theorem relA_end (f d0 : List Nat) (hd : d0.Pairwise (· < ·)) (k : Nat) (D : List Nat) (h : RelA f d0 k D) (h1 : 20 * k ≤ D.length) (hb : D.length < 20 * k + 20) : (insS f (20 * k) D.length D).length = d0.length ∧ ∀ j, Blk f d0 20 (insS f (20 * k) D.length D) j := by
  obtain ⟨a, b, c, d⟩ := relA_put f d0 hd k D.length D h h1 (Nat.le_refl _) (.inr ⟨hb, rfl⟩)
  refine ⟨c, fun j => ?_⟩
  rcases Nat.lt_trichotomy j k with e | e | e
  · exact b j e
  · subst e; exact a
  · exact blk_none f d0 20 _ c j (by have := h.1; omega)
def RelM (f d0 : List Nat) (s k : Nat) (D : List Nat) : Prop := D.length = d0.length ∧ (∀ j, j < k → Blk f d0 (2 * s) D j) ∧ ∀ j, 2 * k ≤ j → Blk f d0 s D j
theorem relM_start (f d0 : List Nat) (s : Nat) (D : List Nat) (h : D.length = d0.length) (hb : ∀ j, Blk f d0 s D j) : RelM f d0 s 0 D := ⟨h, fun j hj => absurd hj (by omega), fun j _ => hb j⟩
theorem relM_step (f d0 : List Nat) (hd : d0.Pairwise (· < ·)) (s k b : Nat) (D : List Nat) (h : RelM f d0 s k D) (hm : 2 * s * k + s < b) (hb : b ≤ D.length) (hb2 : b = 2 * s * k + 2 * s ∨ b < 2 * s * k + 2 * s ∧ b = D.length) :
    ∃ A L R B, D = A ++ (L ++ (R ++ B)) ∧ A.length = 2 * s * k ∧ L.length = s ∧ A.length + L.length + R.length = b ∧ Lex f L ∧ Lex f R ∧ (∀ x ∈ L, ∀ y ∈ R, x < y) ∧ ∀ M, M.Perm (L ++ R) → Lex f M → RelM f d0 s (k + 1) (A ++ (M ++ B)) := by
  obtain ⟨g1, g2, g3⟩ := h
  have q1 : 2 * k * s = 2 * s * k := by rw [Nat.mul_right_comm]
  have q2 : (2 * k + 1) * s = 2 * s * k + s := by rw [Nat.add_mul, q1, Nat.one_mul]
  have q3 : k * (2 * s) = 2 * s * k := by rw [Nat.mul_comm]
  have hsplit := cut3L D (2 * s * k) (2 * s * k + s) b (by omega) (by omega) hb
  have b1 := g3 (2 * k) (Nat.le_refl _)
  have b2 := g3 (2 * k + 1) (by omega)
  unfold Blk at b1 b2
  rw [q1] at b1
  rw [q2] at b2
  have eR : seg D (2 * s * k + s) (b - (2 * s * k + s)) = seg D (2 * s * k + s) s := by
    rcases hb2 with e | ⟨e1, e2⟩
    · congr 1; omega
    · exact (seg_over D _ _ s (by omega) (by omega)).symm
  have eL : 2 * s * k + s - 2 * s * k = s := by omega
  rw [eL] at hsplit
  have hL := seg_len D (2 * s * k) s (by omega)
  have hR := seg_len D (2 * s * k + s) (b - (2 * s * k + s)) (by omega)
  have hA : (D.take (2 * s * k)).length = 2 * s * k := by rw [List.length_take]; omega
  refine ⟨D.take (2 * s * k), seg D (2 * s * k) s, seg D (2 * s * k + s) (b - (2 * s * k + s)), D.drop b, hsplit, hA, hL, by omega, b1.1, by rw [eR]; exact b2.1, fun x hx y hy => ?_, fun M hp hlx => ?_⟩
  · rw [eR] at hy
    exact seg_cross d0 hd (2 * s * k) s (2 * s * k + s) s (Nat.le_refl _) x (b1.2.mem_iff.1 hx) y (b2.2.mem_iff.1 hy)
  · have hML := hp.length_eq
    have hpd : M.Perm (seg d0 (k * (2 * s)) (2 * s)) := by
      rw [q3, show 2 * s = s + s by omega, ← seg_add, ← show 2 * s = s + s by omega]
      rw [eR] at hp
      exact hp.trans (List.Perm.append b1.2 b2.2)
    obtain ⟨p1, p2⟩ := blk_put f d0 (D.take (2 * s * k)) (seg D (2 * s * k) s ++ seg D (2 * s * k + s) (b - (2 * s * k + s))) M (D.drop b) (2 * s) k (by rw [hA, q3]) (by
      rw [List.length_append, hL, hR]
      rcases hb2 with e | ⟨e1, e2⟩
      · exact .inl (by omega)
      · exact .inr ⟨by omega, List.drop_of_length_le (by omega)⟩) hML hlx hpd
    have hsplit2 : D = D.take (2 * s * k) ++ ((seg D (2 * s * k) s ++ seg D (2 * s * k + s) (b - (2 * s * k + s))) ++ D.drop b) := by
      rw [List.append_assoc]; exact hsplit
    rw [← hsplit2] at p2
    refine ⟨?_, fun j hj => ?_, fun j hj => ?_⟩
    · have e1 := congrArg List.length hsplit2
      rw [List.length_append, List.length_append] at e1 ⊢
      omega
    · by_cases e : j = k
      · subst e; exact p1
      · exact p2 j e (g2 j (by omega))
    · have h0 := g3 j (by omega)
      have h2 : (2 * k + 2) * s ≤ j * s := Nat.mul_le_mul_right _ (by omega)
      rw [Nat.add_mul, q1] at h2
      unfold Blk at h0 ⊢
      have : seg (D.take (2 * s * k) ++ (M ++ D.drop b)) (j * s) s = seg D (j * s) s := by
        have h3 := seg_right (D.take (2 * s * k)) M (seg D (2 * s * k) s ++ seg D (2 * s * k + s) (b - (2 * s * k + s))) (D.drop b) (j * s) s (by rw [hML, List.length_append, hA, hL, hR]; omega) hML
        rw [← hsplit2] at h3
        exact h3
      rw [this]; exact h0
theorem relM_end (f d0 : List Nat) (s k : Nat) (D : List Nat) (h : RelM f d0 s k D) (hb : D.length < 2 * s * k + 2 * s) (hl : D.length ≤ 2 * s * k + s) : ∀ j, Blk f d0 (2 * s) D j := by
  obtain ⟨g1, g2, g3⟩ := h
  intro j
  rcases Nat.lt_trichotomy j k with e | e | e
  · exact g2 j e
  · subst e
    have b1 := g3 (2 * j) (Nat.le_refl _)
    have q1 : 2 * j * s = 2 * s * j := by rw [Nat.mul_right_comm]
    have q3 : j * (2 * s) = 2 * s * j := by rw [Nat.mul_comm]
    unfold Blk at b1 ⊢
    rw [q1] at b1
    rw [q3, seg_over D (2 * s * j) s (2 * s) hl (by omega), seg_over d0 (2 * s * j) s (2 * s) (by omega) (by omega)]
    exact b1
  · refine blk_none f d0 (2 * s) D g1 j ?_
    have h2 : (k + 1) * (2 * s) ≤ j * (2 * s) := Nat.mul_le_mul_right _ e
    rw [Nat.add_mul, Nat.mul_comm k] at h2
    omega
theorem relM_done (f d0 : List Nat) (s k : Nat) (D : List Nat) (h : RelM f d0 s k D) (hl : D.length ≤ 2 * s * k) : ∀ j, Blk f d0 (2 * s) D j := by
  intro j
  by_cases e : j < k
  · exact h.2.1 j e
  · refine blk_none f d0 (2 * s) D h.1 j ?_
    have h2 : k * (2 * s) ≤ j * (2 * s) := Nat.mul_le_mul_right _ (by omega)
    rw [Nat.mul_comm k] at h2
    omega
theorem blk_all (f : List Nat) (s : Nat) (D : List Nat) (hl : D.length = (used f).length) (hs : D.length ≤ s) (h : Blk f (used f) s D 0) : D = rar f := by
  unfold Blk at h
  have e : ∀ l : List Nat, l.length ≤ s → seg l (0 * s) s = l := by
    intro l hl
    unfold seg
    rw [Nat.zero_mul, List.drop_zero, List.take_of_length_le hl]
  rw [e D hs, e (used f) (by omega)] at h
  exact lex_unique f _ _ (h.2.trans (rar_perm f).symm) h.1 (rar_lex f)
end Go.Proofs.YtendielanacflaaGreat.M05
