/- Layer 10: blocks, a stream; and what is read depends on the bits that are read. -/
import Derived.Test.YtmgoeokdlklabaaFix
import Derived.Test.YtmgoeokdlklabaaM09
import Derived.Test.YtmgoeokdlklabaaM10b

/- Plain mathematics of layer 10: blocks, a stream. -/
namespace Go.Proofs.Ytmgoeokdlklabaa.M10
open M01 M04 M06 M07 M08 M09
set_option linter.unusedVariables false
/-- a dynamic block -/
def dynB (bs : List Nat) (at_ : Nat) (out : List Nat) : Option (Nat × List Nat) :=
  match hdr bs at_ with
  | none => none
  | some (fo, a2) => symsB fo.1 fo.2 bs a2 out
/-- what stands in a block of a kind -/
def blkK (k : Nat) (bs : List Nat) (at_ : Nat) (out : List Nat) : Option (Nat × List Nat) :=
  if k = 0 then stoB bs at_ out else if k = 1 then symsB fixF fixD bs at_ out else if k = 2 then dynB bs at_ out else none
def inflStep (bs : List Nat) (k : Nat → List Nat → Option (Nat × List Nat)) (at_ : Nat) (out : List Nat) : Option (Nat × List Nat) :=
  if at_ + 1 ≤ 8 * bs.length then if at_ + 1 + 2 ≤ 8 * bs.length then
    match blkK (num bs (at_ + 1) 2) bs (at_ + 1 + 2) out with
    | none => none
    | some (a2, o2) => if num bs at_ 1 = 0 then k a2 o2 else some (a2, o2)
  else none else none
/-- blocks, till the last one -/
def inflL (bs : List Nat) : Nat → Nat → List Nat → Option (Nat × List Nat)
  | 0 => fun _ _ => none
  | f + 1 => inflStep bs (inflL bs f)
theorem inflL_succ (bs : List Nat) (f at_ : Nat) (out : List Nat) : inflL bs (f + 1) at_ out = inflStep bs (inflL bs f) at_ out := rfl
def inflB (bs : List Nat) : Option (Nat × List Nat) := inflL bs (8 * bs.length + 1) 0 []
end Go.Proofs.Ytmgoeokdlklabaa.M10

/- Plain mathematics of layer 10: what is read depends on the bits that are read, and not on where they stand. -/
namespace Go.Proofs.Ytmgoeokdlklabaa.M10
open M01 M04 M06 M07 M08 M09
set_option linter.unusedVariables false

/-- the bits from a to b of bs stand in bs', d bits behind -/
def Agr (d : Nat) (bs bs' : List Nat) (a b : Nat) : Prop := (∀ i, a ≤ i → i < b → bit bs' (i + d) = bit bs i) ∧ b + d ≤ 8 * bs'.length
theorem Agr.sub {d a b a' b' : Nat} {bs bs' : List Nat} (h : Agr d bs bs' a b) (h1 : a ≤ a') (h2 : b' ≤ b) : Agr d bs bs' a' b' :=
  ⟨fun i hi hj => h.1 i (by omega) (by omega), by have := h.2; omega⟩
theorem Agr.num {d : Nat} {bs bs' : List Nat} (a n : Nat) (h : Agr d bs bs' a (a + n)) : num bs' (a + d) n = num bs a n := by
  induction n with
  | zero => rfl
  | succ n ih =>
    have h1 := h.1 (a + n) (by omega) (by omega)
    simp only [M01.num]
    rw [ih (h.sub (Nat.le_refl _) (by omega)), show a + d + n = a + n + d by omega, h1]
theorem decF_loc {d : Nat} {bs bs' : List Nat} {F : TF} : ∀ f x k at_ s at2, decF F bs f x k at_ = some (s, at2) → at_ ≤ at2 ∧ (at_ ≤ 8 * bs.length → at2 ≤ 8 * bs.length) ∧ (Agr d bs bs' at_ at2 → decF F bs' f x k (at_ + d) = some (s, at2 + d)) := by
  intro f
  induction f with
  | zero => intro x k at_ s at2 h; simp [decF] at h
  | succ f ih =>
    intro x k at_ s at2 h
    unfold decF at h ⊢
    split at h
    · simp at h
    · next v hv =>
      split at h
      · next h0 =>
        simp only [Option.some.injEq, Prod.mk.injEq] at h
        obtain ⟨rfl, rfl⟩ := h
        exact ⟨Nat.le_refl _, id, fun _ => by simp [h0]⟩
      · next h0 =>
        split at h
        · next h1 =>
          obtain ⟨i1, i2, i3⟩ := ih _ _ _ _ _ h
          refine ⟨by omega, fun _ => i2 h1, fun ha => ?_⟩
          have hb := ha.1 at_ (Nat.le_refl _) (by omega)
          have hl := ha.2
          simp only [h0, if_false]
          rw [if_pos (by omega), hb, show at_ + d + 1 = at_ + 1 + d by omega]
          exact i3 (ha.sub (by omega) (Nat.le_refl _))
        · simp at h
theorem sym_loc {d : Nat} {bs bs' l : List Nat} {at_ s at2 : Nat} (h : sym l bs at_ = some (s, at2)) : at_ ≤ at2 ∧ (at_ ≤ 8 * bs.length → at2 ≤ 8 * bs.length) ∧ (Agr d bs bs' at_ at2 → sym l bs' (at_ + d) = some (s, at2 + d)) := decF_loc _ _ _ _ _ _ h
theorem rdN_loc {d : Nat} {bs bs' : List Nat} {n at_ v at2 : Nat} (h : rdN bs n at_ = some (v, at2)) : at2 = at_ + n ∧ at2 ≤ 8 * bs.length ∧ (Agr d bs bs' at_ at2 → rdN bs' n (at_ + d) = some (v, at2 + d)) := by
  unfold rdN at h
  split at h
  · next h1 =>
    simp only [Option.some.injEq, Prod.mk.injEq] at h
    obtain ⟨rfl, rfl⟩ := h
    refine ⟨rfl, h1, fun ha => ?_⟩
    have hl := ha.2
    unfold rdN
    rw [if_pos (by omega), ha.num, show at_ + d + n = at_ + n + d by omega]
  · simp at h
theorem getD_pre (pre out : List Nat) (k d : Nat) (h : d ≤ k) (hk : k = out.length) (hd : 1 ≤ d) : (pre ++ out).getD (pre.length + k - d) 0 = out.getD (k - d) 0 := by
  simp only [List.getD]
  rw [List.getElem?_append_right (by omega), show pre.length + k - d - pre.length = k - d by omega]
theorem repOut_pre (pre out : List Nat) (d : Nat) (h : d ≤ out.length) (hd : 1 ≤ d) : ∀ n, repOut d (pre ++ out) n = pre ++ repOut d out n := by
  intro n
  induction n with
  | zero => rfl
  | succ n ih =>
    have hl := repOut_len d out n
    simp only [repOut, ih]
    rw [List.length_append, getD_pre pre _ _ d (by omega) rfl hd, List.append_assoc]
theorem symsL_loc {d : Nat} {l1 l2 bs bs' pre : List Nat} (h20 : ∀ x ∈ l1, x ≤ 20) : ∀ f at_ out at2 o, symsL l1 l2 bs f at_ out = some (at2, o) → at_ < at2 ∧ (at_ ≤ 8 * bs.length → at2 ≤ 8 * bs.length) ∧ out.length ≤ o.length ∧
    (Agr d bs bs' at_ at2 → ∀ f', at2 ≤ at_ + f' → symsL l1 l2 bs' f' (at_ + d) (pre ++ out) = some (at2 + d, pre ++ o)) := by
  intro f
  induction f with
  | zero => intro at_ out at2 o h; simp [symsL] at h
  | succ f ih =>
    intro at_ out at2 o h
    rw [symsL_succ] at h
    unfold symsStep at h
    split at h
    · simp at h
    · next c a1 hs =>
      obtain ⟨-, -, s1⟩ := sym_some h20 hs
      have s2 := (sym_loc (d := 0) (bs' := bs) hs).2.1
      have s3 := fun ha => (sym_loc (d := d) (bs' := bs') hs).2.2 ha
      split at h
      · next hc =>
        obtain ⟨i1, i2, i3, i4⟩ := ih _ _ _ _ h
        refine ⟨by omega, fun h => i2 (s2 h), by simp at i3; omega, fun ha f' hf => ?_⟩
        obtain ⟨f', rfl⟩ : ∃ g, f' = g + 1 := ⟨f' - 1, by omega⟩
        rw [symsL_succ]
        unfold symsStep
        rw [s3 (ha.sub (Nat.le_refl _) (by omega))]
        simp only [hc, if_true]
        rw [List.append_assoc]
        exact i4 (ha.sub (by omega) (Nat.le_refl _)) f' (by omega)
      · next hc =>
        split at h
        · next hc2 =>
          simp only [Option.some.injEq, Prod.mk.injEq] at h
          obtain ⟨rfl, rfl⟩ := h
          refine ⟨s1, s2, Nat.le_refl _, fun ha f' hf => ?_⟩
          obtain ⟨f', rfl⟩ : ∃ g, f' = g + 1 := ⟨f' - 1, by omega⟩
          rw [symsL_succ]
          unfold symsStep
          rw [s3 ha]
          simp only [hc2, if_true]
          simp
        · next hc2 =>
          split at h
          · simp at h
          · next hc3 =>
            split at h
            · simp at h
            · next x a2 hx =>
              obtain ⟨x1, x2, -⟩ := rdN_loc (d := 0) (bs' := bs) hx
              have x3 := fun ha => (rdN_loc (d := d) (bs' := bs') hx).2.2 ha
              split at h
              · simp at h
              · next dd a3 hd =>
                obtain ⟨d1, d2, -⟩ := sym_loc (d := 0) (bs' := bs) hd
                have d3 := fun ha => (sym_loc (d := d) (bs' := bs') hd).2.2 ha
                split at h
                · simp at h
                · next hd3 =>
                  split at h
                  · simp at h
                  · next y a4 hy =>
                    obtain ⟨y1, y2, -⟩ := rdN_loc (d := 0) (bs' := bs) hy
                    have y3 := fun ha => (rdN_loc (d := d) (bs' := bs') hy).2.2 ha
                    split at h
                    · simp at h
                    · next hfar =>
                      obtain ⟨i1, i2, i3, i4⟩ := ih _ _ _ _ h
                      rw [repOut_len] at i3
                      have hdb := (doS_bound dd (by omega)).2.1
                      refine ⟨by omega, fun h => i2 y2, by omega, fun ha f' hf => ?_⟩
                      obtain ⟨f', rfl⟩ : ∃ g, f' = g + 1 := ⟨f' - 1, by omega⟩
                      rw [symsL_succ]
                      unfold symsStep
                      rw [s3 (ha.sub (Nat.le_refl _) (by omega))]
                      simp only [hc, hc2, hc3, if_false]
                      rw [x3 (ha.sub (by omega) (by omega))]
                      simp only []
                      rw [d3 (ha.sub (by omega) (by omega))]
                      simp only [hd3, if_false]
                      rw [y3 (ha.sub (by omega) (by omega))]
                      simp only []
                      rw [if_neg (by simp; omega), repOut_pre pre out _ (by omega) (by omega)]
                      exact i4 (ha.sub (by omega) (Nat.le_refl _)) f' (by omega)
theorem wordsE_le20 {l : List Nat} (h : (wordsE l).2 = 0) : ∀ x ∈ l, x ≤ 20 := (wordsE_may h).1.1
theorem symsB_loc {d : Nat} {l1 l2 bs bs' pre out o : List Nat} {at_ at2 : Nat} (h : symsB l1 l2 bs at_ out = some (at2, o)) : at_ < at2 ∧ (at_ ≤ 8 * bs.length → at2 ≤ 8 * bs.length) ∧ out.length ≤ o.length ∧
    (Agr d bs bs' at_ at2 → symsB l1 l2 bs' (at_ + d) (pre ++ out) = some (at2 + d, pre ++ o)) := by
  unfold symsB at h ⊢
  split at h
  · next h1 =>
    split at h
    · next h2 =>
      obtain ⟨i1, i2, i3, i4⟩ := symsL_loc (d := d) (bs' := bs') (pre := pre) (wordsE_le20 h1) _ _ _ _ _ h
      refine ⟨i1, i2, i3, fun ha => ?_⟩
      have hl := ha.2
      rw [if_pos h1, if_pos h2]
      exact i4 ha _ (by omega)
    · simp at h
  · simp at h
theorem stoL_loc {d : Nat} {bs bs' pre : List Nat} : ∀ n at_ out at2 o, stoL bs n at_ out = some (at2, o) → at2 = at_ + 8 * n ∧ (at_ ≤ 8 * bs.length → at2 ≤ 8 * bs.length) ∧ o.length = out.length + n ∧
    (Agr d bs bs' at_ at2 → stoL bs' n (at_ + d) (pre ++ out) = some (at2 + d, pre ++ o)) := by
  intro n
  induction n with
  | zero =>
    intro at_ out at2 o h
    simp only [stoL, Option.some.injEq, Prod.mk.injEq] at h
    obtain ⟨rfl, rfl⟩ := h
    exact ⟨rfl, id, rfl, fun _ => rfl⟩
  | succ n ih =>
    intro at_ out at2 o h
    unfold stoL at h ⊢
    split at h
    · next h1 =>
      obtain ⟨i1, i2, i3, i4⟩ := ih _ _ _ _ h
      refine ⟨by omega, fun _ => i2 h1, by simp at i3; omega, fun ha => ?_⟩
      have hl := ha.2
      rw [if_pos (by omega), (ha.sub (Nat.le_refl _) (by omega)).num, List.append_assoc, show at_ + d + 8 = at_ + 8 + d by omega]
      exact i4 (ha.sub (by omega) (Nat.le_refl _))
    · simp at h
theorem stored0_loc {d : Nat} {bs bs' pre out o : List Nat} {at_ at2 : Nat} (h : stored0 bs at_ out = some (at2, o)) : at_ + 32 ≤ at2 ∧ at2 ≤ 8 * bs.length ∧ out.length ≤ o.length ∧
    (Agr d bs bs' at_ at2 → stored0 bs' (at_ + d) (pre ++ out) = some (at2 + d, pre ++ o)) := by
  unfold stored0 at h ⊢
  split at h
  · next h1 =>
    split at h
    · next h2 =>
      obtain ⟨i1, i2, i3, i4⟩ := stoL_loc (d := d) (bs' := bs') (pre := pre) _ _ _ _ _ h
      refine ⟨by omega, i2 h1, by omega, fun ha => ?_⟩
      have hl := ha.2
      rw [if_pos (by omega), show at_ + d + 16 = at_ + 16 + d by omega, (ha.sub (by omega) (by omega)).num, (ha.sub (Nat.le_refl _) (by omega)).num, if_pos h2, show at_ + d + 32 = at_ + 32 + d by omega]
      exact i4 (ha.sub (by omega) (Nat.le_refl _))
    · simp at h
  · simp at h
theorem stoB_loc {d : Nat} {bs bs' pre out o : List Nat} {at_ at2 : Nat} (hd : d % 8 = 0) (h : stoB bs at_ out = some (at2, o)) : at_ < at2 ∧ at2 ≤ 8 * bs.length ∧ out.length ≤ o.length ∧
    (Agr d bs bs' at_ at2 → stoB bs' (at_ + d) (pre ++ out) = some (at2 + d, pre ++ o)) := by
  unfold stoB at h ⊢
  obtain ⟨i1, i2, i3, i4⟩ := stored0_loc (d := d) (bs' := bs') (pre := pre) h
  refine ⟨by omega, i2, i3, fun ha => ?_⟩
  rw [show (at_ + d + 7) / 8 * 8 = (at_ + 7) / 8 * 8 + d by omega]
  exact i4 (ha.sub (by omega) (Nat.le_refl _))
theorem lensL_loc {d : Nat} {bs bs' : List Nat} (p : Nat) : ∀ k, Agr d bs bs' p (p + 3 * k) → M09.lensL bs' (p + d) k = M09.lensL bs p k := by
  intro k
  induction k with
  | zero => intro _; rfl
  | succ k ih =>
    intro ha
    unfold M09.lensL
    rw [ih (ha.sub (Nat.le_refl _) (by omega)), show p + d + 3 * k = p + 3 * k + d by omega, (ha.sub (by omega) (by omega)).num]
theorem sgL_loc {d : Nat} {lens bs bs' : List Nat} {tot : Nat} : ∀ f at_ said acc l at2, sgL lens bs tot f at_ said acc = some (l, at2) → at_ ≤ at2 ∧ (at_ ≤ 8 * bs.length → at2 ≤ 8 * bs.length) ∧ (Agr d bs bs' at_ at2 → sgL lens bs' tot f (at_ + d) said acc = some (l, at2 + d)) := by
  intro f
  induction f with
  | zero => intro at_ said acc l at2 h; simp [sgL] at h
  | succ f ih =>
    intro at_ said acc l at2 h
    rw [sgL_succ] at h
    unfold sgStep at h
    split at h
    · next h0 =>
      split at h
      · simp at h
      · next c a1 hs =>
        obtain ⟨s1, s2, -⟩ := sym_loc (d := 0) (bs' := bs) hs
        have s3 := fun ha => (sym_loc (d := d) (bs' := bs') hs).2.2 ha
        split at h
        · next h1 =>
          obtain ⟨i1, i2, i3⟩ := ih _ _ _ _ _ h
          refine ⟨by omega, fun _ => i2 h1, fun ha => ?_⟩
          have hl := ha.2
          rw [sgL_succ]
          unfold sgStep
          rw [if_pos h0, s3 (ha.sub (Nat.le_refl _) (by omega))]
          simp only []
          rw [if_pos (by omega), (ha.sub (by omega) (by omega)).num, show a1 + d + rbits c = a1 + rbits c + d by omega]
          exact i3 (ha.sub (by omega) (Nat.le_refl _))
        · simp at h
    · next h0 =>
      simp only [Option.some.injEq, Prod.mk.injEq] at h
      obtain ⟨rfl, rfl⟩ := h
      refine ⟨Nat.le_refl _, id, fun _ => ?_⟩
      rw [sgL_succ]
      unfold sgStep
      rw [if_neg h0]
theorem hdr_loc {d : Nat} {bs bs' : List Nat} {at_ at2 : Nat} {fo : List Nat × List Nat} (h : hdr bs at_ = some (fo, at2)) : at_ ≤ at2 ∧ at2 ≤ 8 * bs.length ∧ (Agr d bs bs' at_ at2 → hdr bs' (at_ + d) = some (fo, at2 + d)) := by
  unfold hdr at h ⊢
  split at h
  · simp at h
  · next h0 =>
    unfold hdrB at h ⊢
    split at h
    · simp at h
    · next h1 =>
      split at h
      · simp at h
      · next h2 =>
        unfold hdrE at h ⊢
        split at h
        · simp at h
        · next l a2 hsg =>
          obtain ⟨i1, i2, -⟩ := sgL_loc (d := 0) (bs' := bs) _ _ _ _ _ _ hsg
          have i3 := fun ha => (sgL_loc (d := d) (bs' := bs') _ _ _ _ _ _ hsg).2.2 ha
          split at h
          · simp at h
          · next all hun =>
            split at h
            · next hm =>
              simp only [Option.some.injEq, Prod.mk.injEq] at h
              obtain ⟨rfl, rfl⟩ := h
              refine ⟨by omega, i2 (by omega), fun ha => ?_⟩
              have hl := ha.2
              have e1 := (ha.sub (a' := at_) (b' := at_ + 5) (by omega) (by omega)).num
              have e2 := (ha.sub (a' := at_ + 5) (b' := at_ + 5 + 5) (by omega) (by omega)).num
              have e3 := (ha.sub (a' := at_ + 10) (b' := at_ + 10 + 4) (by omega) (by omega)).num
              rw [if_neg (by omega), e1, show at_ + d + 5 = at_ + 5 + d by omega, e2, show at_ + d + 10 = at_ + 10 + d by omega, e3, show at_ + d + 14 = at_ + 14 + d by omega]
              rw [if_neg (by omega), lensL_loc _ _ (ha.sub (by omega) (by omega)), if_neg h2, show at_ + 14 + d + 3 * (num bs (at_ + 10) 4 + 4) = at_ + 14 + 3 * (num bs (at_ + 10) 4 + 4) + d by omega, i3 (ha.sub (by omega) (Nat.le_refl _))]
              simp only [hun, hm, if_true]
            · simp at h
theorem dynB_loc {d : Nat} {bs bs' pre out o : List Nat} {at_ at2 : Nat} (h : dynB bs at_ out = some (at2, o)) : at_ < at2 ∧ at2 ≤ 8 * bs.length ∧ out.length ≤ o.length ∧
    (Agr d bs bs' at_ at2 → dynB bs' (at_ + d) (pre ++ out) = some (at2 + d, pre ++ o)) := by
  unfold dynB at h ⊢
  split at h
  · simp at h
  · next fo a2 hh =>
    obtain ⟨h1, h2, -⟩ := hdr_loc (d := 0) (bs' := bs) hh
    have h3 := fun ha => (hdr_loc (d := d) (bs' := bs') hh).2.2 ha
    obtain ⟨i1, i2, i3, i4⟩ := symsB_loc (d := d) (bs' := bs') (pre := pre) h
    refine ⟨by omega, i2 h2, i3, fun ha => ?_⟩
    rw [h3 (ha.sub (Nat.le_refl _) (by omega))]
    exact i4 (ha.sub (by omega) (Nat.le_refl _))
theorem blkK_loc {d k : Nat} {bs bs' pre out o : List Nat} {at_ at2 : Nat} (hd : d % 8 = 0) (hat : at_ ≤ 8 * bs.length) (h : blkK k bs at_ out = some (at2, o)) : at_ < at2 ∧ at2 ≤ 8 * bs.length ∧ out.length ≤ o.length ∧
    (Agr d bs bs' at_ at2 → blkK k bs' (at_ + d) (pre ++ out) = some (at2 + d, pre ++ o)) := by
  unfold blkK at h ⊢
  split at h
  · next hk => simp only [hk, if_true]; exact stoB_loc hd h
  · next hk =>
    simp only [hk, if_false]
    split at h
    · next hk1 =>
      simp only [hk1, if_true]
      obtain ⟨i1, i2, i3, i4⟩ := symsB_loc (d := d) (bs' := bs') (pre := pre) h
      exact ⟨i1, i2 hat, i3, i4⟩
    · next hk1 =>
      simp only [hk1, if_false]
      split at h
      · next hk2 => simp only [hk2, if_true]; exact dynB_loc h
      · simp at h
theorem inflL_loc {d : Nat} {bs bs' pre : List Nat} (hd : d % 8 = 0) : ∀ f at_ out at2 o, inflL bs f at_ out = some (at2, o) → at_ < at2 ∧ at2 ≤ 8 * bs.length ∧ out.length ≤ o.length ∧
    (Agr d bs bs' at_ at2 → ∀ f', at2 ≤ at_ + f' → inflL bs' f' (at_ + d) (pre ++ out) = some (at2 + d, pre ++ o)) := by
  intro f
  induction f with
  | zero => intro at_ out at2 o h; simp [inflL] at h
  | succ f ih =>
    intro at_ out at2 o h
    rw [inflL_succ] at h
    unfold inflStep at h
    split at h
    · next h1 =>
      split at h
      · next h2 =>
        split at h
        · simp at h
        · next a2 o2 hb =>
          obtain ⟨b1, b2, b3, -⟩ := blkK_loc (d := 0) (bs' := bs) (pre := []) rfl h2 hb
          have b4 := fun ha => (blkK_loc (d := d) (bs' := bs') (pre := pre) hd h2 hb).2.2.2 ha
          have go : ∀ f', at2 ≤ at_ + f' → Agr d bs bs' at_ at2 → a2 ≤ at2 → inflL bs' f' (at_ + d) (pre ++ out) = if num bs at_ 1 = 0 then inflL bs' (f' - 1) (a2 + d) (pre ++ o2) else some (a2 + d, pre ++ o2) := fun f' hf ha hle => by
            obtain ⟨f', rfl⟩ : ∃ g, f' = g + 1 := ⟨f' - 1, by omega⟩
            have hl := ha.2
            rw [inflL_succ]
            unfold inflStep
            rw [if_pos (by omega), if_pos (by omega), show at_ + d + 1 = at_ + 1 + d by omega, (ha.sub (by omega) (by omega)).num, show at_ + 1 + d + 2 = at_ + 1 + 2 + d by omega, b4 (ha.sub (by omega) (by omega)), (ha.sub (by omega) (by omega)).num]
            simp only [Nat.add_sub_cancel]
          split at h
          · next hz =>
            obtain ⟨i1, i2, i3, i4⟩ := ih _ _ _ _ h
            refine ⟨by omega, i2, by omega, fun ha f' hf => ?_⟩
            rw [go f' hf ha (by omega), if_pos hz]
            exact i4 (ha.sub (by omega) (Nat.le_refl _)) _ (by omega)
          · next hz =>
            simp only [Option.some.injEq, Prod.mk.injEq] at h
            obtain ⟨rfl, rfl⟩ := h
            refine ⟨by omega, b2, b3, fun ha f' hf => ?_⟩
            rw [go f' hf ha (Nat.le_refl _), if_neg hz]
      · simp at h
    · simp at h
theorem inflB_bound {bs o : List Nat} {at2 : Nat} (h : inflB bs = some (at2, o)) : 0 < at2 ∧ at2 ≤ 8 * bs.length := by
  obtain ⟨h1, h2, -⟩ := inflL_loc (d := 0) (bs' := bs) (pre := []) rfl _ _ _ _ _ h
  exact ⟨h1, h2⟩
/-- the same bits, the same answer -/
theorem inflB_same {bs bs' o : List Nat} {at2 : Nat} (h : inflB bs = some (at2, o)) (ha : Agr 0 bs bs' 0 at2) : inflB bs' = some (at2, o) := by
  have := (inflL_loc (d := 0) (bs' := bs') (pre := []) rfl _ _ _ _ _ h).2.2.2 ha (8 * bs'.length + 1) (by have := ha.2; omega)
  unfold inflB
  simpa using this
/-- a beginning is none -/
theorem inflB_cut {bs o : List Nat} {at2 k : Nat} (h : inflB bs = some (at2, o)) (hk : 8 * k < at2) : inflB (bs.take k) = none := by
  cases hr : inflB (bs.take k) with
  | none => rfl
  | some r =>
    obtain ⟨a, o'⟩ := r
    obtain ⟨-, hb⟩ := inflB_bound hr
    have hk2 : k ≤ bs.length := by have := (inflB_bound h).2; omega
    have hl : (bs.take k).length = k := by simp; omega
    rw [hl] at hb
    have := inflB_same (bs' := bs) hr ⟨fun i _ hi => by
      unfold bit
      rw [Nat.add_zero]
      congr 2
      have : i / 8 < k := by omega
      simp [List.getD, this], by omega⟩
    rw [h] at this
    simp at this
    omega
/-- a shift, bytes ahead -/
theorem inflL_ahead {bs bs' o pre : List Nat} {at2 d : Nat} (hd : d % 8 = 0) (h : inflB bs = some (at2, o)) (ha : Agr d bs bs' 0 at2) (f : Nat) (hf : at2 ≤ f) : inflL bs' f d pre = some (at2 + d, pre ++ o) := by
  have := (inflL_loc (d := d) (bs' := bs') (pre := pre) hd _ _ _ _ _ h).2.2.2 ha f (by omega)
  simpa using this
end Go.Proofs.Ytmgoeokdlklabaa.M10
