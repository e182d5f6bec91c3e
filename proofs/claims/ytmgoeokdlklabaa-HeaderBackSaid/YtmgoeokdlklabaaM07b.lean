/- Plain mathematics of layer 7: signs that are packed say the lengths. -/
import Derived.Test.YtmgoeokdlklabaaM07
namespace Go.Proofs.Ytmgoeokdlklabaa.M07
set_option linter.unusedVariables false

/-! ### what signs say -/
def exS : List Sg → List Nat → Option (List Nat)
  | [], out => some out
  | s :: l, out => if s.1 = 16 ∧ out.length = 0 then none else exS l (out ++ List.replicate (times s) (kOf s.1 out))
theorem exS_append (l m : List Sg) (out : List Nat) : exS (l ++ m) out = (exS l out).bind (exS m) := by
  induction l generalizing out with
  | nil => rfl
  | cons s l ih =>
    simp only [List.cons_append, exS]
    split
    · rfl
    · exact ih _
theorem exS_len (l : List Sg) (out r : List Nat) (h : exS l out = some r) : out.length ≤ r.length := by
  induction l generalizing out with
  | nil => simp [exS] at h; rw [h]; exact Nat.le_refl _
  | cons s l ih =>
    simp only [exS] at h
    split at h
    · cases h
    · have := ih _ h
      rw [List.length_append] at this
      omega
theorem unp_exS (n : Nat) (l : List Sg) (out r : List Nat) (h : exS l out = some r) (hr : r.length = n) : unp n l out = some r := by
  induction l generalizing out with
  | nil => simp [exS] at h; subst h; simp [unp, hr]
  | cons s l ih =>
    simp only [exS] at h
    split at h
    · cases h
    · next h0 =>
      have h1 := exS_len _ _ _ h
      rw [List.length_append, List.length_replicate] at h1
      rw [unp, if_neg h0, if_neg (by omega)]
      exact ih _ h
theorem exS_snoc (l : List Sg) (out o : List Nat) (s : Sg) (h : exS l out = some o) (h0 : ¬ (s.1 = 16 ∧ o.length = 0)) : exS (l ++ [s]) out = some (o ++ List.replicate (times s) (kOf s.1 o)) := by
  rw [exS_append, h]
  simp only [Option.bind_some, exS]
  rw [if_neg h0]

/-! ### runs -/
def runsF : Nat → List Nat → List (Nat × Nat)
  | 0, _ => []
  | _ + 1, [] => []
  | f + 1, a :: l => (a, 1 + (l.takeWhile fun x => x == a).length) :: runsF f (l.dropWhile fun x => x == a)
def runs (l : List Nat) : List (Nat × Nat) := runsF l.length l
theorem dropWhile_len (a : Nat) (l : List Nat) : (l.dropWhile fun x => x == a).length ≤ l.length := (List.dropWhile_sublist _).length_le
theorem runsF_more (f : Nat) : ∀ (l : List Nat) (g : Nat), l.length ≤ f → l.length ≤ g → runsF f l = runsF g l := by
  induction f with
  | zero =>
    intro l g h1 h2
    have : l = [] := List.eq_nil_of_length_eq_zero (by omega)
    subst this
    cases g <;> rfl
  | succ f ih =>
    intro l g h1 h2
    cases l with
    | nil => cases g <;> rfl
    | cons a l =>
      cases g with
      | zero => simp at h2
      | succ g =>
        simp only [List.length_cons] at h1 h2
        have := dropWhile_len a l
        simp only [runsF]
        rw [ih _ g (by omega) (by omega)]
theorem runs_cons (a : Nat) (l : List Nat) : runs (a :: l) = (a, 1 + (l.takeWhile fun x => x == a).length) :: runs (l.dropWhile fun x => x == a) := by
  have := dropWhile_len a l
  unfold runs
  rw [List.length_cons, runsF]
  rw [runsF_more l.length _ (l.dropWhile fun x => x == a).length (by omega) (Nat.le_refl _)]
theorem tw_run (a : Nat) (n : Nat) (l : List Nat) (h : ∀ x, l.head? = some x → x ≠ a) : ((List.replicate n a ++ l).takeWhile fun x => x == a) = List.replicate n a ∧ ((List.replicate n a ++ l).dropWhile fun x => x == a) = l := by
  induction n with
  | zero =>
    cases l with
    | nil => simp
    | cons b l =>
      have := h b rfl
      simp [this]
  | succ n ih =>
    simp only [List.replicate_succ, List.cons_append]
    simp [ih.1, ih.2]
/-- one run more, where it ends -/
theorem runs_step (l : List Nat) (i n : Nat) (hn : 0 < n) (hi : i + n ≤ l.length) (h : ∀ j, j < n → l.getD (i + j) 0 = l.getD i 0) (hend : i + n = l.length ∨ l.getD (i + n) 0 ≠ l.getD i 0) :
    runs (l.drop i) = (l.getD i 0, n) :: runs (l.drop (i + n)) := by
  have hsp : l.drop i = List.replicate n (l.getD i 0) ++ l.drop (i + n) := by
    apply List.ext_getElem?
    intro j
    by_cases hj : j < n
    · rw [List.getElem?_append_left (by simpa using hj), List.getElem?_replicate, if_pos hj, List.getElem?_drop]
      have := h j hj
      rw [List.getD_eq_getElem?_getD, List.getElem?_eq_getElem (by omega), Option.getD_some] at this
      rw [List.getElem?_eq_getElem (by omega), this]
    · rw [List.getElem?_append_right (by simpa using hj), List.length_replicate, List.getElem?_drop, List.getElem?_drop]
      congr 1; omega
  obtain ⟨m, rfl⟩ : ∃ m, n = m + 1 := ⟨n - 1, by omega⟩
  have hd : ∀ x, (l.drop (i + (m + 1))).head? = some x → x ≠ l.getD i 0 := by
    intro x hx
    rw [List.head?_drop] at hx
    rcases hend with he | he
    · rw [List.getElem?_eq_none (by omega)] at hx; cases hx
    · rw [List.getD_eq_getElem?_getD, hx] at he
      exact he
  rw [hsp, List.replicate_succ, List.cons_append, runs_cons, (tw_run _ m _ hd).1, (tw_run _ m _ hd).2, List.length_replicate, Nat.add_comm]
theorem runs_pos (l : List Nat) : ∀ r ∈ runs l, 0 < r.2 := by
  unfold runs
  generalize l.length = f
  induction f generalizing l with
  | zero => intro r hr; simp [runsF] at hr
  | succ f ih =>
    cases l with
    | nil => intro r hr; simp [runsF] at hr
    | cons a l =>
      intro r hr
      simp only [runsF, List.mem_cons] at hr
      rcases hr with rfl | hr
      · show 0 < 1 + _; omega
      · exact ih _ r hr
def unrun (r : List (Nat × Nat)) : List Nat := r.flatMap fun x => List.replicate x.2 x.1
theorem runs_unrun (l : List Nat) : unrun (runs l) = l := by
  unfold runs
  have : ∀ f (l : List Nat), l.length ≤ f → unrun (runsF f l) = l := by
    intro f
    induction f with
    | zero =>
      intro l h
      have : l = [] := List.eq_nil_of_length_eq_zero (by omega)
      subst this; rfl
    | succ f ih =>
      intro l h
      cases l with
      | nil => rfl
      | cons a l =>
        have h1 := dropWhile_len a l
        simp only [List.length_cons] at h
        have h2 := ih (l.dropWhile fun x => x == a) (by omega)
        have h3 : l.takeWhile (fun x => x == a) = List.replicate (l.takeWhile fun x => x == a).length a := by
          apply List.eq_replicate_of_mem
          intro x hx
          have := List.all_eq_true.1 (List.all_takeWhile (l := l) (p := fun x => x == a)) x hx
          simpa using this
        unfold unrun at *
        simp only [runsF, List.flatMap_cons, h2]
        rw [Nat.add_comm, List.replicate_succ, ← h3, List.cons_append, List.takeWhile_append_dropWhile]
  exact this _ _ (Nat.le_refl _)
theorem runs_len (l : List Nat) : (runs l).length ≤ l.length := by
  have h : ∀ r : List (Nat × Nat), (∀ x ∈ r, 0 < x.2) → r.length ≤ (unrun r).length := by
    intro r
    induction r with
    | nil => intro _; simp [unrun]
    | cons x r ih =>
      intro hx
      have h1 := hx x (by simp)
      have h2 := ih (fun y hy => hx y (by simp [hy]))
      unfold unrun at *
      simp only [List.flatMap_cons, List.length_append, List.length_replicate, List.length_cons]
      omega
  have := h (runs l) (runs_pos l)
  rwa [runs_unrun] at this

/-! ### packing -/
/-- the next sign of m lengths k -/
def pickS (k m : Nat) : Sg := if k = 0 ∧ 11 ≤ m then (18, min m 138 - 11) else if k = 0 ∧ 3 ≤ m then (17, m - 3) else if 3 ≤ m then (16, min m 6 - 3) else (k, 0)
theorem pickS_times (k m : Nat) (hk : k ≤ 15) (hm : 0 < m) : times (pickS k m) ≤ m ∧ 1 ≤ times (pickS k m) ∧ SgOk (pickS k m) := by
  unfold pickS
  split
  · next h => simp only [times, SgOk, rbits]; simp; omega
  · split
    · next h1 h => simp only [times, SgOk, rbits]; simp; omega
    · split
      · next h1 h2 h => simp only [times, SgOk, rbits]; simp; omega
      · next h1 h2 h =>
        simp only [times, SgOk, rbits]
        rw [if_pos (by omega), if_neg (by omega), if_neg (by omega), if_neg (by omega)]
        simp; omega
theorem pickS_k (k m : Nat) (hk : k ≤ 15) (o : List Nat) (ho : k ≠ 0 → ∃ o', o = o' ++ [k]) : ¬ ((pickS k m).1 = 16 ∧ o.length = 0 ∧ k ≠ 0) ∧ (k ≠ 0 ∨ m < 3 ∨ (pickS k m).1 ≠ 16) ∧ ((pickS k m).1 = 16 → k ≠ 0) ∧ kOf (pickS k m).1 o = k := by
  unfold pickS
  have hlast : k ≠ 0 → o.getD (o.length - 1) 0 = k ∧ o.length ≠ 0 := by
    intro h
    obtain ⟨o', rfl⟩ := ho h
    simp
  split
  · next h => refine ⟨by simp, by simp, by simp, ?_⟩; unfold kOf; simp; omega
  · split
    · next h1 h => refine ⟨by simp, by simp, by simp, ?_⟩; unfold kOf; simp; omega
    · split
      · next h1 h2 h =>
        have hk0 : k ≠ 0 := by omega
        obtain ⟨h3, h4⟩ := hlast hk0
        refine ⟨by simp [h4], .inl hk0, fun _ => hk0, ?_⟩
        unfold kOf; simp only [if_true]; exact h3
      · next h1 h2 h =>
        refine ⟨by simp; omega, by omega, by simp; omega, ?_⟩
        unfold kOf
        rw [if_neg (by show ¬ k = 16; omega), if_neg (by show ¬ 16 < k; omega)]
/-- signs of m lengths k, behind one of them if k is above 0 -/
def packM (k : Nat) : Nat → Nat → List Sg
  | 0, _ => []
  | f + 1, m => if m = 0 then [] else pickS k m :: packM k f (m - times (pickS k m))
theorem packM_more (k : Nat) (hk : k ≤ 15) : ∀ f g m, m ≤ f → m ≤ g → packM k f m = packM k g m := by
  intro f
  induction f with
  | zero =>
    intro g m h1 h2
    obtain rfl : m = 0 := by omega
    cases g <;> simp [packM]
  | succ f ih =>
    intro g m h1 h2
    cases g with
    | zero =>
      obtain rfl : m = 0 := by omega
      simp [packM]
    | succ g =>
      simp only [packM]
      split
      · rfl
      · next h0 =>
        have := pickS_times k m hk (by omega)
        rw [ih g _ (by omega) (by omega)]
def packK (k m : Nat) : List Sg := packM k m m
theorem packK_step (k m : Nat) (hk : k ≤ 15) (hm : 0 < m) : packK k m = pickS k m :: packK k (m - times (pickS k m)) := by
  obtain ⟨n, rfl⟩ : ∃ n, m = n + 1 := ⟨m - 1, by omega⟩
  have := pickS_times k (n + 1) hk hm
  unfold packK
  rw [packM, if_neg (by omega), packM_more k hk n (n + 1 - times (pickS k (n + 1))) _ (by omega) (Nat.le_refl _)]
def packR (r : Nat × Nat) : List Sg := if 0 < r.1 then (r.1, 0) :: packK r.1 (r.2 - 1) else packK 0 r.2
def pack (l : List Nat) : List Sg := (runs l).flatMap packR
theorem packK_ex (k : Nat) (hk : k ≤ 15) : ∀ m (o : List Nat), (k ≠ 0 → ∃ o', o = o' ++ [k]) → exS (packK k m) o = some (o ++ List.replicate m k) ∧ (∀ s ∈ packK k m, SgOk s) ∧ (packK k m).length ≤ m := by
  intro m
  induction m using Nat.strongRecOn with
  | ind m ih =>
    intro o ho
    by_cases hm : m = 0
    · subst hm
      simp [packK, packM, exS]
    · have h1 := pickS_times k m hk (by omega)
      have h2 := pickS_k k m hk o ho
      rw [packK_step k m hk (by omega)]
      have h3 := ih (m - times (pickS k m)) (by omega) (o ++ List.replicate (times (pickS k m)) k) (fun h => ⟨o ++ List.replicate (times (pickS k m) - 1) k, by
        rw [List.append_assoc]
        congr 1
        rw [show [k] = List.replicate 1 k from rfl, List.replicate_append_replicate, show times (pickS k m) - 1 + 1 = times (pickS k m) by omega]⟩)
      refine ⟨?_, ?_, ?_⟩
      · rw [exS, if_neg, h2.2.2.2, h3.1, List.append_assoc, List.replicate_append_replicate, show times (pickS k m) + (m - times (pickS k m)) = m by omega]
        rintro ⟨h4, h5⟩
        exact h2.1 ⟨h4, h5, h2.2.2.1 h4⟩
      · intro s hs
        rcases List.mem_cons.1 hs with rfl | hs
        · exact h1.2.2
        · exact h3.2.1 s hs
      · rw [List.length_cons]
        have := h3.2.2
        omega
theorem packR_ex (r : Nat × Nat) (hk : r.1 ≤ 15) (hn : 0 < r.2) (o : List Nat) : exS (packR r) o = some (o ++ List.replicate r.2 r.1) ∧ (∀ s ∈ packR r, SgOk s) ∧ (packR r).length ≤ r.2 := by
  unfold packR
  split
  · next h0 =>
    have h1 := packK_ex r.1 hk (r.2 - 1) (o ++ [r.1]) (fun _ => ⟨o, rfl⟩)
    refine ⟨?_, ?_, ?_⟩
    · have ht : times (r.1, 0) = 1 := by unfold times; rw [if_pos (by show r.1 < 16; omega)]
      have hk2 : kOf r.1 o = r.1 := by unfold kOf; rw [if_neg (by omega), if_neg (by omega)]
      rw [exS, if_neg (by show ¬ (r.1 = 16 ∧ _); omega), ht]
      show exS (packK r.1 (r.2 - 1)) (o ++ List.replicate 1 (kOf r.1 o)) = _
      rw [hk2, show List.replicate 1 r.1 = [r.1] from rfl, h1.1, List.append_assoc]
      congr 2
      rw [show [r.1] = List.replicate 1 r.1 from rfl, List.replicate_append_replicate, show 1 + (r.2 - 1) = r.2 by omega]
    · intro s hs
      rcases List.mem_cons.1 hs with rfl | hs
      · unfold SgOk rbits
        refine ⟨by show r.1 ≤ 18; omega, ?_⟩
        show 0 < 2 ^ _
        exact Nat.pos_of_ne_zero (by simp)
      · exact h1.2.1 s hs
    · rw [List.length_cons]; have := h1.2.2; omega
  · next h0 =>
    have hr : r.1 = 0 := by omega
    have h1 := packK_ex 0 (by omega) r.2 o (fun h => absurd rfl h)
    rw [hr]
    exact h1
theorem packs_ex (rs : List (Nat × Nat)) (hk : ∀ r ∈ rs, r.1 ≤ 15) (hn : ∀ r ∈ rs, 0 < r.2) : ∀ o, exS (rs.flatMap packR) o = some (o ++ unrun rs) ∧ (∀ s ∈ rs.flatMap packR, SgOk s) ∧ (rs.flatMap packR).length ≤ (unrun rs).length := by
  induction rs with
  | nil => intro o; simp [exS, unrun]
  | cons r rs ih =>
    intro o
    have h1 := packR_ex r (hk r (by simp)) (hn r (by simp)) o
    have h2 := ih (fun x hx => hk x (by simp [hx])) (fun x hx => hn x (by simp [hx])) (o ++ List.replicate r.2 r.1)
    unfold unrun at *
    simp only [List.flatMap_cons]
    refine ⟨?_, ?_, ?_⟩
    · rw [exS_append, h1.1, Option.bind_some, h2.1, List.append_assoc]
    · intro s hs
      rcases List.mem_append.1 hs with hs | hs
      · exact h1.2.1 s hs
      · exact h2.2.1 s hs
    · rw [List.length_append, List.length_append, List.length_replicate]
      have := h1.2.2; have := h2.2.2; omega
theorem runs_mem (l : List Nat) (h : ∀ x ∈ l, x ≤ 15) : ∀ r ∈ runs l, r.1 ≤ 15 := by
  intro r hr
  have h1 := runs_pos l r hr
  refine h r.1 ?_
  rw [← runs_unrun l]
  unfold unrun
  rw [List.mem_flatMap]
  exact ⟨r, hr, List.mem_replicate.2 ⟨by omega, rfl⟩⟩
/-- packed, and unpacked -/
theorem pack_unp (l : List Nat) (h : ∀ x ∈ l, x ≤ 15) : unp l.length (pack l) [] = some l ∧ (∀ s ∈ pack l, SgOk s) ∧ (pack l).length ≤ l.length := by
  have h1 := packs_ex (runs l) (runs_mem l h) (runs_pos l) []
  rw [runs_unrun, List.nil_append] at h1
  exact ⟨unp_exS _ _ _ _ h1.1 rfl, h1.2⟩
end Go.Proofs.Ytmgoeokdlklabaa.M07
