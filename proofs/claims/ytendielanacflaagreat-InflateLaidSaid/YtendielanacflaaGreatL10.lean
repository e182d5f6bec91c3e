/- Layer 10: blocks, a stream; and what is read depends on the bits that are read. Plain mathematics of layer 10: blocks that were laid are read back. token.may, token.Expand: contracts. Plain mathematics of layer 17: bits of stored blocks. The reference of layer 17: Often, Symbols, Fixed: contracts. -/
import Derived.Test.YtendielanacflaaGreatL07
import Derived.Test.YtendielanacflaaGreatL08
import Derived.Test.YtendielanacflaaGreatL09
import Derived.Test.YtendielanacflaaGreatL05
import Derived.Test.YtendielanacflaaGreatL01
import Derived.Test.YtendielanacflaaGreatL04
import Derived.Lib.Hide
import Derived.Test.YtendielanacflaaGreatChecked
namespace Go.Proofs.YtendielanacflaaGreat.M10
open M01 M04 M06 M07 M08 M09
set_option linter.unusedVariables false
def dynB (bs : List Nat) (at_ : Nat) (out : List Nat) : Option (Nat × List Nat) :=
  match hdr bs at_ with
  | none => none
  | some (fo, a2) => symsB fo.1 fo.2 bs a2 out
def blkK (k : Nat) (bs : List Nat) (at_ : Nat) (out : List Nat) : Option (Nat × List Nat) :=
  if k = 0 then stoB bs at_ out else if k = 1 then symsB fixF fixD bs at_ out else if k = 2 then dynB bs at_ out else none
def inflStep (bs : List Nat) (k : Nat → List Nat → Option (Nat × List Nat)) (at_ : Nat) (out : List Nat) : Option (Nat × List Nat) :=
  if at_ + 1 ≤ 8 * bs.length then if at_ + 1 + 2 ≤ 8 * bs.length then
    match blkK (num bs (at_ + 1) 2) bs (at_ + 1 + 2) out with
    | none => none
    | some (a2, o2) => if num bs at_ 1 = 0 then k a2 o2 else some (a2, o2)
  else none else none
def inflL (bs : List Nat) : Nat → Nat → List Nat → Option (Nat × List Nat)
  | 0 => fun _ _ => none
  | f + 1 => inflStep bs (inflL bs f)
theorem inflL_succ (bs : List Nat) (f at_ : Nat) (out : List Nat) : inflL bs (f + 1) at_ out = inflStep bs (inflL bs f) at_ out := rfl
def inflB (bs : List Nat) : Option (Nat × List Nat) := inflL bs (8 * bs.length + 1) 0 []
end Go.Proofs.YtendielanacflaaGreat.M10
namespace Go.Proofs.YtendielanacflaaGreat.M10
open M01 M04 M06 M07 M08 M09
set_option linter.unusedVariables false
def Agr (d : Nat) (bs bs' : List Nat) (a b : Nat) : Prop := (∀ i, a ≤ i → i < b → bit bs' (i + d) = bit bs i) ∧ b + d ≤ 8 * bs'.length
theorem Agr.sub {d a b a' b' : Nat} {bs bs' : List Nat} (h : Agr d bs bs' a b) (h1 : a ≤ a') (h2 : b' ≤ b) : Agr d bs bs' a' b' :=
  ⟨fun i hi hj => h.1 i (by omega) (by omega), by have := h.2; omega⟩
theorem Agr.num {d : Nat} {bs bs' : List Nat} (a n : Nat) (h : Agr d bs bs' a (a + n)) : num bs' (a + d) n = num bs a n := by
  induction n with
  | zero => rfl
  | succ n ih =>
    have h1 := h.1 (a + n) (by omega) (by omega)
    simp only [M01.num]
    rw [ih (h.sub (Nat.le_refl _) (by omega)), show a + d + n = a + n + d by omega, h1]
theorem decF_loc {d : Nat} {bs bs' : List Nat} {F : TF} : ∀ f x k at_ s at2, decF F bs f x k at_ = some (s, at2) → at_ ≤ at2 ∧ (at_ ≤ 8 * bs.length → at2 ≤ 8 * bs.length) ∧ (Agr d bs bs' at_ at2 → decF F bs' f x k (at_ + d) = some (s, at2 + d)) := by
  intro f
  induction f with
  | zero => intro x k at_ s at2 h; simp [decF] at h
  | succ f ih =>
    intro x k at_ s at2 h
    unfold decF at h ⊢
    split at h
    · simp at h
    · next v hv =>
      split at h
      · next h0 =>
        simp only [Option.some.injEq, Prod.mk.injEq] at h
        obtain ⟨rfl, rfl⟩ := h
        exact ⟨Nat.le_refl _, id, fun _ => by simp [h0]⟩
      · next h0 =>
        split at h
        · next h1 =>
          obtain ⟨i1, i2, i3⟩ := ih _ _ _ _ _ h
          refine ⟨by omega, fun _ => i2 h1, fun ha => ?_⟩
          have hb := ha.1 at_ (Nat.le_refl _) (by omega)
          have hl := ha.2
          simp only [h0, if_false]
          rw [if_pos (by omega), hb, show at_ + d + 1 = at_ + 1 + d by omega]
          exact i3 (ha.sub (by omega) (Nat.le_refl _))
        · simp at h
theorem sym_loc {d : Nat} {bs bs' l : List Nat} {at_ s at2 : Nat} (h : sym l bs at_ = some (s, at2)) : at_ ≤ at2 ∧ (at_ ≤ 8 * bs.length → at2 ≤ 8 * bs.length) ∧ (Agr d bs bs' at_ at2 → sym l bs' (at_ + d) = some (s, at2 + d)) := decF_loc _ _ _ _ _ _ h
theorem rdN_loc {d : Nat} {bs bs' : List Nat} {n at_ v at2 : Nat} (h : rdN bs n at_ = some (v, at2)) : at2 = at_ + n ∧ at2 ≤ 8 * bs.length ∧ (Agr d bs bs' at_ at2 → rdN bs' n (at_ + d) = some (v, at2 + d)) := by
  unfold rdN at h
  split at h
  · next h1 =>
    simp only [Option.some.injEq, Prod.mk.injEq] at h
    obtain ⟨rfl, rfl⟩ := h
    refine ⟨rfl, h1, fun ha => ?_⟩
    have hl := ha.2
    unfold rdN
    rw [if_pos (by omega), ha.num, show at_ + d + n = at_ + n + d by omega]
  · simp at h
theorem getD_pre (pre out : List Nat) (k d : Nat) (h : d ≤ k) (hk : k = out.length) (hd : 1 ≤ d) : (pre ++ out).getD (pre.length + k - d) 0 = out.getD (k - d) 0 := by
  simp only [List.getD]
  rw [List.getElem?_append_right (by omega), show pre.length + k - d - pre.length = k - d by omega]
theorem repOut_pre (pre out : List Nat) (d : Nat) (h : d ≤ out.length) (hd : 1 ≤ d) : ∀ n, repOut d (pre ++ out) n = pre ++ repOut d out n := by
  intro n
  induction n with
  | zero => rfl
  | succ n ih =>
    have hl := repOut_len d out n
    simp only [repOut, ih]
    rw [List.length_append, getD_pre pre _ _ d (by omega) rfl hd, List.append_assoc]
theorem symsL_loc {d : Nat} {l1 l2 bs bs' pre : List Nat} (h20 : ∀ x ∈ l1, x ≤ 20) : ∀ f at_ out at2 o, symsL l1 l2 bs f at_ out = some (at2, o) → at_ < at2 ∧ (at_ ≤ 8 * bs.length → at2 ≤ 8 * bs.length) ∧ out.length ≤ o.length ∧
    (Agr d bs bs' at_ at2 → ∀ f', at2 ≤ at_ + f' → symsL l1 l2 bs' f' (at_ + d) (pre ++ out) = some (at2 + d, pre ++ o)) := by
  intro f
  induction f with
  | zero => intro at_ out at2 o h; simp [symsL] at h
  | succ f ih =>
    intro at_ out at2 o h
    rw [symsL_succ] at h
    unfold symsStep at h
    split at h
    · simp at h
    · next c a1 hs =>
      obtain ⟨-, -, s1⟩ := sym_some h20 hs
      have s2 := (sym_loc (d := 0) (bs' := bs) hs).2.1
      have s3 := fun ha => (sym_loc (d := d) (bs' := bs') hs).2.2 ha
      split at h
      · next hc =>
        obtain ⟨i1, i2, i3, i4⟩ := ih _ _ _ _ h
        refine ⟨by omega, fun h => i2 (s2 h), by simp at i3; omega, fun ha f' hf => ?_⟩
        obtain ⟨f', rfl⟩ : ∃ g, f' = g + 1 := ⟨f' - 1, by omega⟩
        rw [symsL_succ]
        unfold symsStep
        rw [s3 (ha.sub (Nat.le_refl _) (by omega))]
        simp only [hc, if_true]
        rw [List.append_assoc]
        exact i4 (ha.sub (by omega) (Nat.le_refl _)) f' (by omega)
      · next hc =>
        split at h
        · next hc2 =>
          simp only [Option.some.injEq, Prod.mk.injEq] at h
          obtain ⟨rfl, rfl⟩ := h
          refine ⟨s1, s2, Nat.le_refl _, fun ha f' hf => ?_⟩
          obtain ⟨f', rfl⟩ : ∃ g, f' = g + 1 := ⟨f' - 1, by omega⟩
          rw [symsL_succ]
          unfold symsStep
          rw [s3 ha]
          simp only [hc2, if_true]
          simp
        · next hc2 =>
          split at h
          · simp at h
          · next hc3 =>
            split at h
            · simp at h
            · next x a2 hx =>
              obtain ⟨x1, x2, -⟩ := rdN_loc (d := 0) (bs' := bs) hx
              have x3 := fun ha => (rdN_loc (d := d) (bs' := bs') hx).2.2 ha
              split at h
              · simp at h
              · next dd a3 hd =>
                obtain ⟨d1, d2, -⟩ := sym_loc (d := 0) (bs' := bs) hd
                have d3 := fun ha => (sym_loc (d := d) (bs' := bs') hd).2.2 ha
                split at h
                · simp at h
                · next hd3 =>
                  split at h
                  · simp at h
                  · next y a4 hy =>
                    obtain ⟨y1, y2, -⟩ := rdN_loc (d := 0) (bs' := bs) hy
                    have y3 := fun ha => (rdN_loc (d := d) (bs' := bs') hy).2.2 ha
                    split at h
                    · simp at h
                    · next hfar =>
                      obtain ⟨i1, i2, i3, i4⟩ := ih _ _ _ _ h
                      rw [repOut_len] at i3
                      have hdb := (doS_bound dd (by omega)).2.1
                      refine ⟨by omega, fun h => i2 y2, by omega, fun ha f' hf => ?_⟩
                      obtain ⟨f', rfl⟩ : ∃ g, f' = g + 1 := ⟨f' - 1, by omega⟩
                      rw [symsL_succ]
                      unfold symsStep
                      rw [s3 (ha.sub (Nat.le_refl _) (by omega))]
                      simp only [hc, hc2, hc3, if_false]
                      rw [x3 (ha.sub (by omega) (by omega))]
                      simp only []
                      rw [d3 (ha.sub (by omega) (by omega))]
                      simp only [hd3, if_false]
                      rw [y3 (ha.sub (by omega) (by omega))]
                      simp only []
                      rw [if_neg (by simp; omega), repOut_pre pre out _ (by omega) (by omega)]
                      exact i4 (ha.sub (by omega) (Nat.le_refl _)) f' (by omega)
theorem wordsE_le20 {l : List Nat} (h : (wordsE l).2 = 0) : ∀ x ∈ l, x ≤ 20 := (wordsE_may h).1.1
theorem symsB_loc {d : Nat} {l1 l2 bs bs' pre out o : List Nat} {at_ at2 : Nat} (h : symsB l1 l2 bs at_ out = some (at2, o)) : at_ < at2 ∧ (at_ ≤ 8 * bs.length → at2 ≤ 8 * bs.length) ∧ out.length ≤ o.length ∧
    (Agr d bs bs' at_ at2 → symsB l1 l2 bs' (at_ + d) (pre ++ out) = some (at2 + d, pre ++ o)) := by
  unfold symsB at h ⊢
  split at h
  · next h1 =>
    split at h
    · next h2 =>
      obtain ⟨i1, i2, i3, i4⟩ := symsL_loc (d := d) (bs' := bs') (pre := pre) (wordsE_le20 h1) _ _ _ _ _ h
      refine ⟨i1, i2, i3, fun ha => ?_⟩
      have hl := ha.2
      rw [if_pos h1, if_pos h2]
      exact i4 ha _ (by omega)
    · simp at h
  · simp at h
theorem stoL_loc {d : Nat} {bs bs' pre : List Nat} : ∀ n at_ out at2 o, stoL bs n at_ out = some (at2, o) → at2 = at_ + 8 * n ∧ (at_ ≤ 8 * bs.length → at2 ≤ 8 * bs.length) ∧ o.length = out.length + n ∧
    (Agr d bs bs' at_ at2 → stoL bs' n (at_ + d) (pre ++ out) = some (at2 + d, pre ++ o)) := by
  intro n
  induction n with
  | zero =>
    intro at_ out at2 o h
    simp only [stoL, Option.some.injEq, Prod.mk.injEq] at h
    obtain ⟨rfl, rfl⟩ := h
    exact ⟨rfl, id, rfl, fun _ => rfl⟩
  | succ n ih =>
    intro at_ out at2 o h
    unfold stoL at h ⊢
    split at h
    · next h1 =>
      obtain ⟨i1, i2, i3, i4⟩ := ih _ _ _ _ h
      refine ⟨by omega, fun _ => i2 h1, by simp at i3; omega, fun ha => ?_⟩
      have hl := ha.2
      rw [if_pos (by omega), (ha.sub (Nat.le_refl _) (by omega)).num, List.append_assoc, show at_ + d + 8 = at_ + 8 + d by omega]
      exact i4 (ha.sub (by omega) (Nat.le_refl _))
    · simp at h
theorem stored0_loc {d : Nat} {bs bs' pre out o : List Nat} {at_ at2 : Nat} (h : stored0 bs at_ out = some (at2, o)) : at_ + 32 ≤ at2 ∧ at2 ≤ 8 * bs.length ∧ out.length ≤ o.length ∧
    (Agr d bs bs' at_ at2 → stored0 bs' (at_ + d) (pre ++ out) = some (at2 + d, pre ++ o)) := by
  unfold stored0 at h ⊢
  split at h
  · next h1 =>
    split at h
    · next h2 =>
      obtain ⟨i1, i2, i3, i4⟩ := stoL_loc (d := d) (bs' := bs') (pre := pre) _ _ _ _ _ h
      refine ⟨by omega, i2 h1, by omega, fun ha => ?_⟩
      have hl := ha.2
      rw [if_pos (by omega), show at_ + d + 16 = at_ + 16 + d by omega, (ha.sub (by omega) (by omega)).num, (ha.sub (Nat.le_refl _) (by omega)).num, if_pos h2, show at_ + d + 32 = at_ + 32 + d by omega]
      exact i4 (ha.sub (by omega) (Nat.le_refl _))
    · simp at h
  · simp at h
theorem stoB_loc {d : Nat} {bs bs' pre out o : List Nat} {at_ at2 : Nat} (hd : d % 8 = 0) (h : stoB bs at_ out = some (at2, o)) : at_ < at2 ∧ at2 ≤ 8 * bs.length ∧ out.length ≤ o.length ∧
    (Agr d bs bs' at_ at2 → stoB bs' (at_ + d) (pre ++ out) = some (at2 + d, pre ++ o)) := by
  unfold stoB at h ⊢
  obtain ⟨i1, i2, i3, i4⟩ := stored0_loc (d := d) (bs' := bs') (pre := pre) h
  refine ⟨by omega, i2, i3, fun ha => ?_⟩
  rw [show (at_ + d + 7) / 8 * 8 = (at_ + 7) / 8 * 8 + d by omega]
  exact i4 (ha.sub (by omega) (Nat.le_refl _))
theorem lensL_loc {d : Nat} {bs bs' : List Nat} (p : Nat) : ∀ k, Agr d bs bs' p (p + 3 * k) → M09.lensL bs' (p + d) k = M09.lensL bs p k := by
  intro k
  induction k with
  | zero => intro _; rfl
  | succ k ih =>
    intro ha
    unfold M09.lensL
    rw [ih (ha.sub (Nat.le_refl _) (by omega)), show p + d + 3 * k = p + 3 * k + d by omega, (ha.sub (by omega) (by omega)).num]
theorem sgL_loc {d : Nat} {lens bs bs' : List Nat} {tot : Nat} : ∀ f at_ said acc l at2, sgL lens bs tot f at_ said acc = some (l, at2) → at_ ≤ at2 ∧ (at_ ≤ 8 * bs.length → at2 ≤ 8 * bs.length) ∧ (Agr d bs bs' at_ at2 → sgL lens bs' tot f (at_ + d) said acc = some (l, at2 + d)) := by
  intro f
  induction f with
  | zero => intro at_ said acc l at2 h; simp [sgL] at h
  | succ f ih =>
    intro at_ said acc l at2 h
    rw [sgL_succ] at h
    unfold sgStep at h
    split at h
    · next h0 =>
      split at h
      · simp at h
      · next c a1 hs =>
        obtain ⟨s1, s2, -⟩ := sym_loc (d := 0) (bs' := bs) hs
        have s3 := fun ha => (sym_loc (d := d) (bs' := bs') hs).2.2 ha
        split at h
        · next h1 =>
          obtain ⟨i1, i2, i3⟩ := ih _ _ _ _ _ h
          refine ⟨by omega, fun _ => i2 h1, fun ha => ?_⟩
          have hl := ha.2
          rw [sgL_succ]
          unfold sgStep
          rw [if_pos h0, s3 (ha.sub (Nat.le_refl _) (by omega))]
          simp only []
          rw [if_pos (by omega), (ha.sub (by omega) (by omega)).num, show a1 + d + rbits c = a1 + rbits c + d by omega]
          exact i3 (ha.sub (by omega) (Nat.le_refl _))
        · simp at h
    · next h0 =>
      simp only [Option.some.injEq, Prod.mk.injEq] at h
      obtain ⟨rfl, rfl⟩ := h
      refine ⟨Nat.le_refl _, id, fun _ => ?_⟩
      rw [sgL_succ]
      unfold sgStep
      rw [if_neg h0]
theorem hdr_loc {d : Nat} {bs bs' : List Nat} {at_ at2 : Nat} {fo : List Nat × List Nat} (h : hdr bs at_ = some (fo, at2)) : at_ ≤ at2 ∧ at2 ≤ 8 * bs.length ∧ (Agr d bs bs' at_ at2 → hdr bs' (at_ + d) = some (fo, at2 + d)) := by
  unfold hdr at h ⊢
  split at h
  · simp at h
  · next h0 =>
    unfold hdrB at h ⊢
    split at h
    · simp at h
    · next h1 =>
      split at h
      · simp at h
      · next h2 =>
        unfold hdrE at h ⊢
        split at h
        · simp at h
        · next l a2 hsg =>
          obtain ⟨i1, i2, -⟩ := sgL_loc (d := 0) (bs' := bs) _ _ _ _ _ _ hsg
          have i3 := fun ha => (sgL_loc (d := d) (bs' := bs') _ _ _ _ _ _ hsg).2.2 ha
          split at h
          · simp at h
          · next all hun =>
            split at h
            · next hm =>
              simp only [Option.some.injEq, Prod.mk.injEq] at h
              obtain ⟨rfl, rfl⟩ := h
              refine ⟨by omega, i2 (by omega), fun ha => ?_⟩
              have hl := ha.2
              have e1 := (ha.sub (a' := at_) (b' := at_ + 5) (by omega) (by omega)).num
              have e2 := (ha.sub (a' := at_ + 5) (b' := at_ + 5 + 5) (by omega) (by omega)).num
              have e3 := (ha.sub (a' := at_ + 10) (b' := at_ + 10 + 4) (by omega) (by omega)).num
              rw [if_neg (by omega), e1, show at_ + d + 5 = at_ + 5 + d by omega, e2, show at_ + d + 10 = at_ + 10 + d by omega, e3, show at_ + d + 14 = at_ + 14 + d by omega]
              rw [if_neg (by omega), lensL_loc _ _ (ha.sub (by omega) (by omega)), if_neg h2, show at_ + 14 + d + 3 * (num bs (at_ + 10) 4 + 4) = at_ + 14 + 3 * (num bs (at_ + 10) 4 + 4) + d by omega, i3 (ha.sub (by omega) (Nat.le_refl _))]
              simp only [hun, hm, if_true]
            · simp at h
theorem dynB_loc {d : Nat} {bs bs' pre out o : List Nat} {at_ at2 : Nat} (h : dynB bs at_ out = some (at2, o)) : at_ < at2 ∧ at2 ≤ 8 * bs.length ∧ out.length ≤ o.length ∧
    (Agr d bs bs' at_ at2 → dynB bs' (at_ + d) (pre ++ out) = some (at2 + d, pre ++ o)) := by
  unfold dynB at h ⊢
  split at h
  · simp at h
  · next fo a2 hh =>
    obtain ⟨h1, h2, -⟩ := hdr_loc (d := 0) (bs' := bs) hh
    have h3 := fun ha => (hdr_loc (d := d) (bs' := bs') hh).2.2 ha
    obtain ⟨i1, i2, i3, i4⟩ := symsB_loc (d := d) (bs' := bs') (pre := pre) h
    refine ⟨by omega, i2 h2, i3, fun ha => ?_⟩
    rw [h3 (ha.sub (Nat.le_refl _) (by omega))]
    exact i4 (ha.sub (by omega) (Nat.le_refl _))
theorem blkK_loc {d k : Nat} {bs bs' pre out o : List Nat} {at_ at2 : Nat} (hd : d % 8 = 0) (hat : at_ ≤ 8 * bs.length) (h : blkK k bs at_ out = some (at2, o)) : at_ < at2 ∧ at2 ≤ 8 * bs.length ∧ out.length ≤ o.length ∧
    (Agr d bs bs' at_ at2 → blkK k bs' (at_ + d) (pre ++ out) = some (at2 + d, pre ++ o)) := by
  unfold blkK at h ⊢
  split at h
  · next hk => simp only [hk, if_true]; exact stoB_loc hd h
  · next hk =>
    simp only [hk, if_false]
    split at h
    · next hk1 =>
      simp only [hk1, if_true]
      obtain ⟨i1, i2, i3, i4⟩ := symsB_loc (d := d) (bs' := bs') (pre := pre) h
      exact ⟨i1, i2 hat, i3, i4⟩
    · next hk1 =>
      simp only [hk1, if_false]
      split at h
      · next hk2 => simp only [hk2, if_true]; exact dynB_loc h
      · simp at h
end Go.Proofs.YtendielanacflaaGreat.M10

namespace Go.Proofs.YtendielanacflaaGreat.M10
open Go.RowKit Go.Shelf M01 M04 M06 M08 M09 M17
set_option linter.unusedVariables false
set_option linter.unusedSimpArgs false
def expT (out : List Nat) (t : Tok) : Option (List Nat) := if t.len = 0 then some (out ++ [t.byte]) else if (out.length : Int) < t.dist then none else some (repOut t.dist.toNat out t.len.toNat)
def expL : List Nat → List Tok → Option (List Nat)
  | out, [] => some out
  | out, t :: l => (expT out t).bind fun o => expL o l
theorem expL_app (l m : List Tok) : ∀ out, expL out (l ++ m) = (expL out l).bind fun o => expL o m := by
  induction l with
  | nil => intro out; rfl
  | cons t l ih =>
    intro out
    simp only [List.cons_append, expL]
    cases expT out t with
    | none => rfl
    | some o => exact ih o
theorem expL_snoc (l : List Tok) (k : Nat) (hk : k < l.length) (out : List Nat) : expL out (l.take (k + 1)) = (expL out (l.take k)).bind fun o => expT o l[k] := by
  rw [List.take_succ_eq_append_getElem hk, expL_app]
  cases expL out (l.take k) with
  | none => rfl
  | some o => simp [expL]
theorem addSymE_g {s : Wst} (h : WG s) (l : List Nat) (c : Nat) : WG (addSymE l s c) ∧ ExtW s (addSymE l s c) := by
  unfold addSymE
  split
  · exact ⟨h, .refl _⟩
  · obtain ⟨a, b, d, _⟩ := addSym_ext h.1 h.2 l c
    exact ⟨⟨a, b⟩, d⟩
theorem layTok_g {s : Wst} (h : WG s) (l1 l2 : List Nat) (t : Tok) : WG (layTok l1 l2 s t) ∧ ExtW s (layTok l1 l2 s t) := by
  unfold layTok
  split
  · exact addSymE_g h _ _
  · have h1 := addSymE_g h l1 (lenS t.len)
    have h2 := addNum_g h1.1 (lenX t.len) (lenB t.len)
    have h3 := addSymE_g h2.1 l2 (dstS t.dist)
    have h4 := addNum_g h3.1 (dstX t.dist) (dstB t.dist)
    exact ⟨h4.1, h1.2.trans (h2.2.trans (h3.2.trans h4.2))⟩
theorem layTo_g (l1 l2 : List Nat) : ∀ (l : List Tok) {s : Wst}, WG s → WG (layTo l1 l2 s l) ∧ ExtW s (layTo l1 l2 s l) := by
  intro l
  induction l with
  | nil => intro s h; exact ⟨h, .refl _⟩
  | cons t l ih =>
    intro s h
    have h1 := layTok_g h l1 l2 t
    have h2 := ih h1.1
    exact ⟨h2.1, h1.2.trans h2.2⟩
theorem len_back (n : Int) (h1 : 3 ≤ n) (h2 : n ≤ 258) : 257 ≤ lenS n ∧ lenS n < 286 ∧ (loS (lenS n : Nat)).2.2 = 0 ∧ (loS (lenS n : Nat)).2.1 = lenB n ∧ (loS (lenS n : Nat)).1 + lenX n = n.toNat := by
  obtain ⟨m, rfl⟩ := Int.eq_ofNat_of_zero_le (by omega : 0 ≤ n)
  have hall : ∀ m : Fin 259, 3 ≤ m.val → 257 ≤ lenS (m.val : Nat) ∧ lenS (m.val : Nat) < 286 ∧ (loS (lenS (m.val : Nat) : Nat)).2.2 = 0 ∧ (loS (lenS (m.val : Nat) : Nat)).2.1 = lenB (m.val : Nat) ∧ (loS (lenS (m.val : Nat) : Nat)).1 + lenX (m.val : Nat) = m.val := by decide +kernel
  exact hall ⟨m, by omega⟩ (by show 3 ≤ m; omega)
theorem dst_back (n : Int) (h1 : 1 ≤ n) (h2 : n ≤ 32768) : dstS n < 30 ∧ (doS (dstS n : Nat)).2.2 = 0 ∧ (doS (dstS n : Nat)).2.1 = dstB n ∧ (doS (dstS n : Nat)).1 + dstX n = n.toNat := by
  obtain ⟨m, rfl⟩ := Int.eq_ofNat_of_zero_le (by omega : 0 ≤ n)
  have h : 1 ≤ ((m : Nat) : Int) ∧ ((m : Nat) : Int) ≤ 32768 := ⟨h1, h2⟩
  unfold dstS dstB dstX
  simp only [if_pos h, Int.toNat_natCast]
  have hk : dk m < 30 := dk_lt m
  obtain ⟨s1, s2⟩ := lastLe_spec dist_up m (by decide) (show distL.getD 0 0 ≤ m from by show 1 ≤ m; omega)
  rw [show lastLe distL m = dk m from rfl] at s1 s2
  generalize dk m = k at *
  unfold doS
  rw [if_pos (by omega)]
  simp only [Int.toNat_natCast]
  exact ⟨hk, trivial, trivial, by omega⟩
structure Cod (l1 l2 : List Nat) : Prop where
  a20 : ∀ x ∈ l1, x ≤ 15
  b20 : ∀ x ∈ l2, x ≤ 15
  aw : weight l1 ≤ 2 ^ 20
  bw : weight l2 ≤ 2 ^ 20
  al : l1.length ≤ 300
  bl : l2.length ≤ 40
theorem sym_laidE {s t : Wst} (h : WG s) (hk : WG t) (l : List Nat) (h15 : ∀ x ∈ l, x ≤ 15) (hw : weight l ≤ 2 ^ 20) (c : Nat) (h0 : l.getD c 0 ≠ 0) (ht : ExtW (addSymE l s c) t) : sym l t.1 s.2 = some (c, (addSymE l s c).2) := by
  unfold addSymE at ht ⊢
  rw [if_neg h0] at ht ⊢
  have hc : c < l.length := by
    rcases Nat.lt_or_ge c l.length with h | h
    · exact h
    · exact absurd (by rw [List.getD_eq_getElem?_getD, List.getElem?_eq_none h]; rfl) h0
  rw [sym_laid h.1 h.2 l (fun x hx => Nat.le_trans (h15 x hx) (by decide)) hw c hc (by omega) ht hk.1, (addSym_ext h.1 h.2 l c).2.2.2]
theorem rdN_laid {s t : Wst} (h : WG s) (hk : WG t) (v n : Nat) (hv : v < 2 ^ n) (ht : ExtW (addNum s v n) t) : rdN t.1 n s.2 = some (v, (addNum s v n).2) := by
  unfold rdN
  have hl := ext_len hk.1 ht
  rw [addNum_len] at hl ⊢
  rw [if_pos hl, num_laid h.1 h.2 v n hv ht]
theorem tok_laid {s t : Wst} (h : WG s) (hk : WG t) {l1 l2 : List Nat} (hc : Cod l1 l2) (tk : Tok) (hok : tokOk tk) (hb : tk.byte < 256) (hw : ∀ r ∈ tokU tk, lensOf l1 l2 r ≠ 0) (ht : ExtW (layTok l1 l2 s tk) t) (out out' : List Nat) (he : expT out tk = some out') (k : Nat → List Nat → Option (Nat × List Nat)) :
    symsStep l1 l2 t.1 k s.2 out = k (layTok l1 l2 s tk).2 out' := by
  by_cases h0 : tk.len = 0
  · have hD : tk.dist = 0 := by unfold tokOk at hok; rw [if_pos h0] at hok; exact hok
    have hu : tokU tk = [⟨false, tk.byte, 0, 0⟩] := by unfold tokU; rw [if_pos h0, if_pos hD]
    have hl : layTok l1 l2 s tk = addSymE l1 s tk.byte := by unfold layTok; rw [if_pos h0]
    rw [hl] at ht ⊢
    have hz : l1.getD tk.byte 0 ≠ 0 := hw ⟨false, tk.byte, 0, 0⟩ (by rw [hu]; exact List.mem_singleton_self _)
    have hsy := sym_laidE h hk l1 hc.a20 hc.aw tk.byte hz ht
    unfold expT at he
    rw [if_pos h0] at he
    simp only [Option.some.injEq] at he
    unfold symsStep
    rw [hsy]
    simp only
    rw [if_pos hb, he]
  · have hf : tk.byte = 0 ∧ 3 ≤ tk.len ∧ tk.len ≤ 258 ∧ 1 ≤ tk.dist ∧ tk.dist ≤ 32768 := by
      unfold tokOk at hok; rw [if_neg h0] at hok; exact hok
    obtain ⟨_, f1, f2, f3, f4⟩ := hf
    obtain ⟨g1, g2, g3, g4, g5⟩ := len_back tk.len f1 f2
    obtain ⟨d1, d2, d3, d4⟩ := dst_back tk.dist f3 f4
    have hu : tokU tk = [⟨false, 257 + lk tk.len.toNat, lbits (257 + lk tk.len.toNat), 0⟩, ⟨true, dk tk.dist.toNat, dbits (dk tk.dist.toNat), 0⟩] := by unfold tokU; rw [if_neg h0, if_pos hok]
    have e1 : lenS tk.len = 257 + lk tk.len.toNat := by unfold lenS; rw [if_pos ⟨f1, f2⟩]
    have e2 : dstS tk.dist = dk tk.dist.toNat := by unfold dstS; rw [if_pos ⟨f3, f4⟩]
    have hz1 : l1.getD (lenS tk.len) 0 ≠ 0 := by rw [e1]; exact hw _ (by rw [hu]; exact List.mem_cons_self)
    have hz2 : l2.getD (dstS tk.dist) 0 ≠ 0 := by
      rw [e2]; exact hw ⟨true, dk tk.dist.toNat, dbits (dk tk.dist.toNat), 0⟩ (by rw [hu]; exact List.mem_cons_of_mem _ (List.mem_singleton_self _))
    have hl : layTok l1 l2 s tk = addNum (addSymE l2 (addNum (addSymE l1 s (lenS tk.len)) (lenX tk.len) (lenB tk.len)) (dstS tk.dist)) (dstX tk.dist) (dstB tk.dist) := by unfold layTok; rw [if_neg h0]
    rw [hl] at ht ⊢
    have h1 := addSymE_g h l1 (lenS tk.len)
    have h2 := addNum_g h1.1 (lenX tk.len) (lenB tk.len)
    have h3 := addSymE_g h2.1 l2 (dstS tk.dist)
    have h4 := addNum_g h3.1 (dstX tk.dist) (dstB tk.dist)
    have t3 := h4.2.trans ht
    have t2 := h3.2.trans t3
    have t1 := h2.2.trans t2
    have s1 := sym_laidE h hk l1 hc.a20 hc.aw _ hz1 t1
    have r1 := rdN_laid h1.1 hk _ _ (lenX_lt tk.len).1 t2
    have s2 := sym_laidE h2.1 hk l2 hc.b20 hc.bw _ hz2 t3
    have r2 := rdN_laid h3.1 hk _ _ (dstX_lt tk.dist).1 ht
    unfold expT at he
    rw [if_neg h0] at he
    split at he
    · cases he
    next hd =>
    simp only [Option.some.injEq] at he
    unfold symsStep
    rw [s1]
    simp only
    rw [if_neg (by omega), if_neg (by omega), if_neg (by omega), g4, r1]
    simp only
    rw [s2]
    simp only
    rw [if_neg (by omega), d3, r2]
    simp only
    rw [d4, g5, if_neg (by omega), he]
def layBlk (l1 l2 : List Nat) (s : Wst) (l : List Tok) : Wst := addSymE l1 (layTo l1 l2 s l) 256
theorem toks_laid {l1 l2 : List Nat} (hc : Cod l1 l2) {t : Wst} (hk : WG t) (h256 : l1.getD 256 0 ≠ 0) : ∀ (l : List Tok) (s : Wst) (out out' : List Nat) (f : Nat), WG s → (∀ x ∈ l, tokOk x ∧ x.byte < 256 ∧ ∀ r ∈ tokU x, lensOf l1 l2 r ≠ 0) → ExtW (layBlk l1 l2 s l) t → expL out l = some out' →
    symsL l1 l2 t.1 (l.length + 1 + f) s.2 out = some ((layBlk l1 l2 s l).2, out') := by
  intro l
  induction l with
  | nil =>
    intro s out out' f h _ ht he
    simp only [expL, Option.some.injEq] at he
    subst he
    have hs := sym_laidE h hk l1 hc.a20 hc.aw 256 h256 ht
    rw [show ([] : List Tok).length + 1 + f = f + 1 by simp; omega, symsL_succ]
    unfold symsStep
    rw [show sym l1 t.1 s.2 = some (256, (addSymE l1 s 256).2) from hs]
    simp only
    rw [if_neg (by omega)]
    simp
    rfl
  | cons x l ih =>
    intro s out out' f h hx ht he
    obtain ⟨x1, x2, x3⟩ := hx x (by simp)
    simp only [expL] at he
    cases hx' : expT out x with
    | none => rw [hx'] at he; cases he
    | some o =>
      rw [hx'] at he
      have hg := layTok_g h l1 l2 x
      have e : layBlk l1 l2 s (x :: l) = layBlk l1 l2 (layTok l1 l2 s x) l := rfl
      rw [e] at ht ⊢
      have hext : ExtW (layTok l1 l2 s x) t := ((layTo_g l1 l2 l hg.1).2.trans (addSymE_g (layTo_g l1 l2 l hg.1).1 l1 256).2).trans ht
      rw [show (x :: l).length + 1 + f = (l.length + 1 + f) + 1 by simp; omega, symsL_succ, tok_laid h hk hc x x1 x2 x3 hext out o hx' (symsL l1 l2 t.1 (l.length + 1 + f))]
      exact ih _ o out' f hg.1 (fun y hy => hx y (by simp [hy])) ht he
theorem layTok_more {s : Wst} (h : WG s) {l1 l2 : List Nat} (tk : Tok) (hok : tokOk tk) (hw : ∀ r ∈ tokU tk, lensOf l1 l2 r ≠ 0) : s.2 + 1 ≤ (layTok l1 l2 s tk).2 := by
  have key : ∀ c, l1.getD c 0 ≠ 0 → s.2 + 1 ≤ (addSymE l1 s c).2 := by
    intro c hc
    unfold addSymE
    rw [if_neg hc, (addSym_ext h.1 h.2 l1 c).2.2.2]
    omega
  by_cases h0 : tk.len = 0
  · have hD : tk.dist = 0 := by unfold tokOk at hok; rw [if_pos h0] at hok; exact hok
    have hu : tokU tk = [⟨false, tk.byte, 0, 0⟩] := by unfold tokU; rw [if_pos h0, if_pos hD]
    unfold layTok
    rw [if_pos h0]
    exact key _ (hw ⟨false, tk.byte, 0, 0⟩ (by rw [hu]; exact List.mem_singleton_self _))
  · have hf : tk.byte = 0 ∧ 3 ≤ tk.len ∧ tk.len ≤ 258 ∧ 1 ≤ tk.dist ∧ tk.dist ≤ 32768 := by
      unfold tokOk at hok; rw [if_neg h0] at hok; exact hok
    have hu : tokU tk = [⟨false, 257 + lk tk.len.toNat, lbits (257 + lk tk.len.toNat), 0⟩, ⟨true, dk tk.dist.toNat, dbits (dk tk.dist.toNat), 0⟩] := by unfold tokU; rw [if_neg h0, if_pos hok]
    have e1 : lenS tk.len = 257 + lk tk.len.toNat := by unfold lenS; rw [if_pos ⟨hf.2.1, hf.2.2.1⟩]
    have h1 := key (lenS tk.len) (by rw [e1]; exact hw _ (by rw [hu]; exact List.mem_cons_self))
    unfold layTok
    rw [if_neg h0]
    have g1 := addSymE_g h l1 (lenS tk.len)
    have g2 := addNum_g g1.1 (lenX tk.len) (lenB tk.len)
    have g3 := addSymE_g g2.1 l2 (dstS tk.dist)
    have g4 := addNum_g g3.1 (dstX tk.dist) (dstB tk.dist)
    have := g2.2.1
    have := g3.2.1
    have := g4.2.1
    omega
theorem layTo_more {l1 l2 : List Nat} : ∀ (l : List Tok) {s : Wst}, WG s → (∀ x ∈ l, tokOk x ∧ x.byte < 256 ∧ ∀ r ∈ tokU x, lensOf l1 l2 r ≠ 0) → s.2 + l.length ≤ (layTo l1 l2 s l).2 := by
  intro l
  induction l with
  | nil => intro s h _; exact Nat.le_refl _
  | cons x l ih =>
    intro s h hx
    obtain ⟨x1, x2, x3⟩ := hx x (by simp)
    have h1 := layTok_more h x x1 x3
    have h2 := ih (layTok_g h l1 l2 x).1 (fun y hy => hx y (by simp [hy]))
    show _ ≤ (layTo l1 l2 (layTok l1 l2 s x) l).2
    rw [List.length_cons]
    omega
theorem wordsE_cod {l : List Nat} (h15 : ∀ x ∈ l, x ≤ 15) (hw : weight l ≤ 2 ^ 20) (hl : l.length ≤ 300) : (wordsE l).2 = 0 := by
  unfold wordsE
  rw [if_neg (fun h => h ⟨fun x hx => Nat.le_trans (h15 x hx) (by decide), by omega⟩), if_neg (by omega)]
theorem syms_laid {l1 l2 : List Nat} (hc : Cod l1 l2) {s t : Wst} (h : WG s) (hk : WG t) (h256 : l1.getD 256 0 ≠ 0) (l : List Tok) (hl : ∀ x ∈ l, tokOk x ∧ x.byte < 256 ∧ ∀ r ∈ tokU x, lensOf l1 l2 r ≠ 0) (out out' : List Nat) (ht : ExtW (layBlk l1 l2 s l) t) (he : expL out l = some out') :
    symsB l1 l2 t.1 s.2 out = some ((layBlk l1 l2 s l).2, out') := by
  unfold symsB
  rw [if_pos (wordsE_cod hc.a20 hc.aw hc.al), if_pos (wordsE_cod hc.b20 hc.bw (by have := hc.bl; omega))]
  have h1 := layTo_more l h hl
  have h2 : (layTo l1 l2 s l).2 ≤ t.2 := Nat.le_trans (addSymE_g (layTo_g l1 l2 l h).1 l1 256).2.1 ht.1
  have h3 := ext_len hk.1 (ExtW.refl t)
  obtain ⟨f, hf⟩ : ∃ f, 8 * t.1.length + 1 = l.length + 1 + f := ⟨8 * t.1.length - l.length, by omega⟩
  rw [hf]
  exact toks_laid hc hk h256 l s out out' f h hl ht he
def alignW (s : Wst) : Wst := (s.1, 8 * s.1.length)
theorem alignW_g {s : Wst} (h : WG s) : WG (alignW s) ∧ ExtW s (alignW s) := by
  refine ⟨⟨⟨?_, h.1.2⟩, fun i hi => bit_out s.1 i hi⟩, ?_, fun i _ => rfl⟩
  · show s.1.length = (8 * s.1.length + 7) / 8; omega
  · exact ext_len h.1 (ExtW.refl s)
theorem alignW_len {s : Wst} (h : WG s) : (alignW s).2 = (s.2 + 7) / 8 * 8 := by
  have := h.1.1
  show 8 * s.1.length = _
  omega
def putB (s : Wst) (b : List Nat) : Wst := b.foldl (fun s c => addNum s c 8) s
theorem putB_g : ∀ (b : List Nat) {s : Wst}, WG s → WG (putB s b) ∧ ExtW s (putB s b) ∧ (putB s b).2 = s.2 + 8 * b.length := by
  intro b
  induction b with
  | nil => intro s h; exact ⟨h, .refl _, rfl⟩
  | cons c b ih =>
    intro s h
    have h1 := addNum_g h c 8
    obtain ⟨a1, a2, a3⟩ := ih h1.1
    refine ⟨a1, h1.2.trans a2, ?_⟩
    show (putB (addNum s c 8) b).2 = _
    rw [a3, addNum_len, List.length_cons]; omega
theorem putB_snoc (s : Wst) (b : List Nat) (k : Nat) (hk : k < b.length) : putB s (b.take (k + 1)) = addNum (putB s (b.take k)) b[k] 8 := by
  unfold putB
  rw [List.take_succ_eq_append_getElem hk, List.foldl_append]
  rfl
theorem stoL_laid {t : Wst} (hk : WG t) : ∀ (b : List Nat) (s : Wst) (out : List Nat), WG s → (∀ x ∈ b, x < 256) → ExtW (putB s b) t → stoL t.1 b.length s.2 out = some ((putB s b).2, out ++ b) := by
  intro b
  induction b with
  | nil => intro s out _ _ _; simp [stoL, putB]
  | cons c b ih =>
    intro s out h hb ht
    have h1 := addNum_g h c 8
    have e : putB s (c :: b) = putB (addNum s c 8) b := rfl
    rw [e] at ht ⊢
    have hx : ExtW (addNum s c 8) t := (putB_g b h1.1).2.1.trans ht
    have hl := ext_len hk.1 hx
    rw [addNum_len] at hl
    rw [List.length_cons, stoL, if_pos hl, num_laid h.1 h.2 c 8 (hb c (by simp)) hx]
    have := ih (addNum s c 8) (out ++ [c]) h1.1 (fun x hx => hb x (by simp [hx])) ht
    rw [addNum_len] at this
    rw [this, List.append_assoc]; rfl
def stoBlk (s : Wst) (b : List Nat) : Wst := putB (addNum (addNum (alignW s) b.length 16) (65535 - b.length) 16) b
theorem stoBlk_g {s : Wst} (h : WG s) (b : List Nat) : WG (stoBlk s b) ∧ ExtW s (stoBlk s b) ∧ (stoBlk s b).2 = (s.2 + 7) / 8 * 8 + 32 + 8 * b.length := by
  have h0 := alignW_g h
  have h1 := addNum_g h0.1 b.length 16
  have h2 := addNum_g h1.1 (65535 - b.length) 16
  obtain ⟨a1, a2, a3⟩ := putB_g b h2.1
  refine ⟨a1, h0.2.trans (h1.2.trans (h2.2.trans a2)), ?_⟩
  show (putB _ b).2 = _
  rw [a3, addNum_len, addNum_len, alignW_len h]
theorem sto_laid {s t : Wst} (h : WG s) (hk : WG t) (b : List Nat) (hn : b.length ≤ 65535) (hb : ∀ x ∈ b, x < 256) (ht : ExtW (stoBlk s b) t) (out : List Nat) : stoB t.1 s.2 out = some ((stoBlk s b).2, out ++ b) := by
  have h0 := alignW_g h
  have h1 := addNum_g h0.1 b.length 16
  have h2 := addNum_g h1.1 (65535 - b.length) 16
  obtain ⟨a1, a2, a3⟩ := putB_g b h2.1
  have t2 : ExtW (addNum (addNum (alignW s) b.length 16) (65535 - b.length) 16) t := a2.trans ht
  have t1 := h2.2.trans t2
  have n1 := num_laid h0.1.1 h0.1.2 b.length 16 (by omega) t1
  have n2 := num_laid h1.1.1 h1.1.2 (65535 - b.length) 16 (by omega) t2
  rw [addNum_len] at n2
  have hl := ext_len hk.1 t2
  rw [addNum_len, addNum_len] at hl
  have hs := stoL_laid hk b _ out h2.1 hb ht
  rw [addNum_len, addNum_len] at hs
  unfold stoB stored0
  rw [← alignW_len h, if_pos (by omega), n1, n2, if_pos rfl]
  exact hs
def begW (s : Wst) (last : Bool) (k : Nat) : Wst := addNum s (2 * k + if last then 1 else 0) 3
theorem begW_g {s : Wst} (h : WG s) (last : Bool) (k : Nat) : WG (begW s last k) ∧ ExtW s (begW s last k) ∧ (begW s last k).2 = s.2 + 3 := by
  obtain ⟨a, b⟩ := addNum_g h (2 * k + if last then 1 else 0) 3
  exact ⟨a, b, addNum_len _ _ _⟩
theorem num_split (bs : List Nat) (at_ v : Nat) (hv : v < 8) (h : num bs at_ 3 = v) : num bs at_ 1 = v % 2 ∧ num bs (at_ + 1) 2 = v / 2 := by
  have h0 := bit_lt bs at_
  have h1 := bit_lt bs (at_ + 1)
  have h2 := bit_lt bs (at_ + 2)
  have e : at_ + 1 + 1 = at_ + 2 := rfl
  simp only [num, Nat.add_zero, Nat.pow_zero, Nat.mul_one, Nat.zero_add, Nat.reduceAdd, Nat.reducePow, e] at h ⊢
  omega
theorem beg_laid {s t : Wst} (h : WG s) (hk : WG t) (last : Bool) (k : Nat) (hk2 : k ≤ 3) (ht : ExtW (begW s last k) t) (g : Nat → List Nat → Option (Nat × List Nat)) (out : List Nat) :
    inflStep t.1 g s.2 out = match blkK k t.1 (begW s last k).2 out with | none => none | some (a2, o2) => if last = true then some (a2, o2) else g a2 o2 := by
  have hv : (2 * k + if last then 1 else 0) < 2 ^ 3 := by cases last <;> simp <;> omega
  have hn := num_laid h.1 h.2 _ 3 hv ht
  obtain ⟨n1, n2⟩ := num_split t.1 s.2 _ (by simpa using hv) hn
  have hl := ext_len hk.1 ht
  rw [(begW_g h last k).2.2] at hl ⊢
  unfold inflStep
  rw [if_pos (by omega), if_pos (by omega), n1, n2]
  have e1 : (2 * k + if last then 1 else 0) / 2 = k := by cases last <;> simp <;> omega
  have e2 : (2 * k + if last then 1 else 0) % 2 = if last then 1 else 0 := by cases last <;> simp <;> omega
  rw [e1, e2, show s.2 + 1 + 2 = s.2 + 3 by omega]
  cases blkK k t.1 (s.2 + 3) out with
  | none => rfl
  | some p => cases last <;> rfl
end Go.Proofs.YtendielanacflaaGreat.M10

namespace Go.Proofs.YtendielanacflaaGreat
open Go.RowKit Go.Shelf M01 M08 M10 M17
attribute [local go_sem] Oper.semAt_some
set_option linter.unusedVariables false
set_option linter.unusedSimpArgs false
set_option maxHeartbeats 800000 in
theorem token_may (t : Tok) (w : World) :
    Calls Tryz.prog 34 #[tokV t] w fun e w' => e = .returned (.bool (decide (tokOk t))) ∧ Below w.heap.size w w' := by
  obtain ⟨L, D, b⟩ := t
  unfold tokV
  by_cases h0 : L = 0
  · have H : Hid (decide (tokOk ⟨L, D, b⟩) = (D == 0)) := by
      have e : (D == 0) = decide (D = 0) := by by_cases h : D = 0 <;> simp [h]
      show decide _ = _
      rw [e, decide_eq_decide]
      unfold tokOk
      simp [h0]
    have b0 : (L == 0) = true := by simp [h0]
    clear h0
    go_enter Tryz.func34, Tryz.ntmps34
    go_wp2
    go_ret
    exact ⟨ret_bool H.out.symm, box_below _ _⟩
  have H : Hid (tokOk ⟨L, D, b⟩ ↔ (b = 0 ∧ 3 ≤ L ∧ L ≤ 258 ∧ 1 ≤ D ∧ D ≤ 32768)) := by unfold Hid tokOk; simp [h0]
  have b0 : (L == 0) = false := by simp [h0]
  clear h0
  by_cases h3 : 3 ≤ L
  case neg =>
    have ch3 : decide (3 ≤ L) = false := by simpa using h3
    have HH : Hid (decide (tokOk ⟨L, D, b⟩) = false) := by show decide _ = false; rw [decide_eq_false_iff_not, H.out]; exact fun h => h3 h.2.1
    clear h3
    go_enter Tryz.func34, Tryz.ntmps34
    go_wp2
    go_ret
    exact ⟨ret_bool HH.out.symm, box_below _ _⟩
  have ch3 : decide (3 ≤ L) = true := by simpa using h3
  by_cases h4 : L ≤ 258
  case neg =>
    have ch4 : decide (L ≤ 258) = false := by simpa using h4
    have HH : Hid (decide (tokOk ⟨L, D, b⟩) = false) := by show decide _ = false; rw [decide_eq_false_iff_not, H.out]; exact fun h => h4 h.2.2.1
    clear h4
    go_enter Tryz.func34, Tryz.ntmps34
    go_wp2
    go_ret
    exact ⟨ret_bool HH.out.symm, box_below _ _⟩
  have ch4 : decide (L ≤ 258) = true := by simpa using h4
  by_cases h5 : 1 ≤ D
  case neg =>
    have ch5 : decide (1 ≤ D) = false := by simpa using h5
    have HH : Hid (decide (tokOk ⟨L, D, b⟩) = false) := by show decide _ = false; rw [decide_eq_false_iff_not, H.out]; exact fun h => h5 h.2.2.2.1
    clear h5
    go_enter Tryz.func34, Tryz.ntmps34
    go_wp2
    go_ret
    exact ⟨ret_bool HH.out.symm, box_below _ _⟩
  have ch5 : decide (1 ≤ D) = true := by simpa using h5
  by_cases h6 : D ≤ 32768
  case neg =>
    have ch6 : decide (D ≤ 32768) = false := by simpa using h6
    have HH : Hid (decide (tokOk ⟨L, D, b⟩) = false) := by show decide _ = false; rw [decide_eq_false_iff_not, H.out]; exact fun h => h6 h.2.2.2.2
    clear h6
    go_enter Tryz.func34, Tryz.ntmps34
    go_wp2
    go_ret
    exact ⟨ret_bool HH.out.symm, box_below _ _⟩
  have ch6 : decide (D ≤ 32768) = true := by simpa using h6
  have HH : Hid (decide (tokOk ⟨L, D, b⟩) = ((b : Int) == 0)) := by
    show decide _ = _
    have e : ((b : Int) == 0) = decide (b = 0) := by
      by_cases hb : b = 0
      · simp [hb]
      · simp [hb]
    rw [e, decide_eq_decide, H.out]
    exact ⟨fun h => h.1, fun h => ⟨h, h3, h4, h5, h6⟩⟩
  clear h3 h4 h5 h6
  go_enter Tryz.func34, Tryz.ntmps34
  go_wp2
  go_ret
  exact ⟨ret_bool HH.out.symm, box_below _ _⟩
theorem expand_bad (t : Tok) (w : World) : Calls Tryz.prog 33 #[tokV t] w fun e w' => e = .returned (.bool (!decide (tokOk t))) ∧ Below w.heap.size w w' := by
  have HM := Lib.hid (fun w' => token_may t w')
  obtain ⟨L, D, b⟩ := t
  unfold tokV at HM ⊢
  generalize decide (tokOk ⟨L, D, b⟩) = r at *
  go_enter Tryz.func33, Tryz.ntmps33
  go_wp2_with fail
  refine (HM.out _).mono ?_
  rintro e w1 ⟨rfl, hb1⟩
  have hb := (box_below w (.cells #[.int .i64 L, .int .i64 D, .int .u8 (b : Nat)] 40)).trans (hb1.mono (by simp))
  have HB := Lib.hid hb
  clear hb1 hb HM
  go_wp2
  go_ret
  exact ⟨rfl, HB.out⟩
def IdxT (l : List Tok) (e : Ending) : Prop := if ∀ t ∈ l, tokOk t then e = .returned (.int .i64 (-1)) else ∃ k : Nat, e = .returned (.int .i64 (k : Nat))
theorem toks_index (a : Option Addr) (cap : Nat) (l : List Tok) (w : World) (hr : RowS encT w a cap l) :
    Calls Tryz.prog 69 #[.slice a l.length cap, .func (Fn.func 33) #[] #[]] w fun e w' => IdxT l e ∧ Below w.heap.size w w' := by
  have hlen := hr.len
  go_enter Tryz.func69, Tryz.ntmps69
  go_wp2_with fail
  go_loopw [5, 8] (fun _ i A => ∃ k : Nat, k ≤ l.length ∧ i = .int .i64 k ∧ (∀ t ∈ l.take k, tokOk t) ∧ Below w.heap.size w A) (fun _ i _ => l.length - (intOf i).toNat)
  case atStart => exact ⟨0, by omega, rfl, by simp, Below.refl _ _⟩
  case round =>
    obtain ⟨k, hk, rfl, hall, hbel⟩ := hrel
    by_cases hlt : k < l.length
    · have hrA := hr.below hbel
      obtain ⟨b, off, rfl, hb, hcl⟩ := hrA.at hlt
      have c0 := hcl 0 _ rfl
      have c1 := hcl 1 _ rfl
      have c2 := hcl 2 _ rfl
      have HM := Lib.hid (List.getElem_mem hlt)
      have HT := Lib.hid (fun h2 => take_ok hlt hall h2)
      have HBEL := Lib.hid hbel
      have HR := Lib.hid hr
      clear hrA hcl hbel hr hall
      generalize l[k] = t at *
      have HC := Lib.hid (fun w' => expand_bad t w')
      obtain ⟨L, D, bt⟩ := t
      unfold tokV at HC
      simp only [encT, Nat.add_zero] at c0 c1 c2
      rw [← Nat.add_assoc] at c1 c2
      by_cases hok : tokOk ⟨L, D, bt⟩
      · have hd : (!decide (tokOk ⟨L, D, bt⟩)) = false := by simp [hok]
        rw [hd] at HC
        have HT2 := Lib.hid (HT.out hok)
        clear hok hd HT HM
        go_wp2_with fail
        refine (HC.out _).mono ?_
        rintro e w1 ⟨rfl, hb1⟩
        have HB1 := Lib.hid (HBEL.out.trans (hb1.mono HBEL.out.size))
        clear hb1 HC HBEL c0 c1 c2
        go_wp2
        go_roundw
        case rel => exact ⟨k + 1, by omega, by go_num, HT2.out, HB1.out⟩
        case measure => simp [intOf]; omega
      · have hd : (!decide (tokOk ⟨L, D, bt⟩)) = true := by simp [hok]
        rw [hd] at HC
        have HNO : Hid (¬ ∀ t ∈ l, tokOk t) := Lib.hid (fun h => hok (h _ HM.out))
        clear hok hd HT HM
        go_wp2_with fail
        refine (HC.out _).mono ?_
        rintro e w1 ⟨rfl, hb1⟩
        have HB1 := Lib.hid (HBEL.out.trans (hb1.mono HBEL.out.size))
        clear hb1 HC HBEL c0 c1 c2
        go_wp2
        go_ret
        exact ⟨by unfold IdxT; rw [if_neg HNO.out]; exact ⟨k, rfl⟩, HB1.out⟩
    · obtain rfl : k = l.length := by omega
      rw [List.take_length] at hall
      have HA := Lib.hid hall
      have HBEL := Lib.hid hbel
      clear hbel hall
      go_wp2
      go_ret
      exact ⟨by unfold IdxT; rw [if_pos HA.out]; rfl, HBEL.out⟩
theorem toks_contains (a : Option Addr) (cap : Nat) (l : List Tok) (w : World) (hr : RowS encT w a cap l) :
    Calls Tryz.prog 32 #[.slice a l.length cap, .func (Fn.func 33) #[] #[]] w fun e w' => e = .returned (.bool (!decide (∀ t ∈ l, tokOk t))) ∧ Below w.heap.size w w' := by
  have HC := Lib.hid (toks_index a cap l w hr)
  clear hr
  go_enter Tryz.func32, Tryz.ntmps32
  go_wp2_with fail
  refine HC.out.mono ?_
  rintro e w1 ⟨h, hb⟩
  have HB := Lib.hid hb
  unfold IdxT at h
  clear HC hb
  by_cases hok : ∀ t ∈ l, tokOk t
  · rw [if_pos hok] at h
    subst h
    have HD : Hid ((!decide (∀ t ∈ l, tokOk t)) = false) := by show _ = _; rw [decide_eq_true hok]; rfl
    clear hok
    go_wp2
    go_ret
    exact ⟨by rw [HD.out]; rfl, HB.out⟩
  · rw [if_neg hok] at h
    obtain ⟨k, rfl⟩ := h
    have HD : Hid ((!decide (∀ t ∈ l, tokOk t)) = true) := by show _ = _; rw [decide_eq_false hok]; rfl
    have t1 : decide ((0 : Int) ≤ (k : Int)) = true := by simp
    clear hok
    go_wp2
    go_ret
    exact ⟨by rw [HD.out]; rfl, HB.out⟩
theorem len_facts (n p : Nat) (h : n ≤ 30000000) (hp : p < n) : n + 1 ≤ 9223372036854775807 ∧ (n + 1) * 1 ≤ 140737488355328 ∧ wrap64 (p : Int) = (p : Int) := ⟨by omega, by omega, by unfold wrap64; omega⟩
def ExpE (w : World) (l : List Tok) (e : Ending) (w' : World) : Prop :=
  if ∀ t ∈ l, tokOk t then match expL [] l with
    | some o => ∃ a c, e = .returned (.tuple #[.slice a o.length c, .int .i64 0]) ∧ OwnN 5 .u8 w' w.heap.size a c o
    | none => e = .returned (.tuple #[.slice none 0 0, .int .i64 2])
  else e = .returned (.tuple #[.slice none 0 0, .int .i64 5])
def ExpOut (w : World) (l : List Tok) (e : Ending) (w' : World) : Prop := Below w.heap.size w w' ∧ ExpE w l e w'
set_option maxRecDepth 100000 in
set_option maxHeartbeats 1600000 in
theorem token_expand (a : Option Addr) (cap : Nat) (l : List Tok) (w : World) (hr : RowS encT w a cap l) (hby : ∀ t ∈ l, t.byte < 256) (hl : l.length ≤ 100000) :
    Calls Tryz.prog 10 #[.slice a l.length cap] w (ExpOut w l) := by
  have HC := Lib.hid (toks_contains a cap l w hr)
  have HBY := Lib.hid hby
  have HR := Lib.hid hr
  clear hr hby
  go_enter Tryz.func10, Tryz.ntmps10
  go_wp2_with fail
  refine HC.out.mono ?_
  rintro e w1 ⟨rfl, hb1⟩
  have HB1 := Lib.hid hb1
  clear HC hb1
  by_cases hok : ∀ t ∈ l, tokOk t
  case neg =>
    have HN := Lib.hid hok
    have hd : (!decide (∀ t ∈ l, tokOk t)) = true := by rw [decide_eq_false hok]; rfl
    rw [hd]
    clear hd hok
    go_wp2
    go_ret2
    exact ⟨HB1.out, by unfold ExpE; rw [if_neg HN.out]; rfl⟩
  have HOK := Lib.hid hok
  have hd : (!decide (∀ t ∈ l, tokOk t)) = false := by rw [decide_eq_true hok]; rfl
  rw [hd]
  clear hd hok
  go_wp2_with fail
  go_loopw [4, 11] (fun out i A => ∃ (k : Nat) (o : List Nat) (oa : Option Addr) (oc : Nat), k ≤ l.length ∧ i = .int .i64 k ∧ out = .slice oa o.length oc ∧ expL [] (l.take k) = some o ∧ OwnN 5 .u8 A w.heap.size oa oc o ∧ Below w.heap.size w A ∧ o.length ≤ 258 * k) (fun _ i _ => l.length - (intOf i).toNat)
  case atStart => exact ⟨0, [], none, 0, by omega, rfl, rfl, rfl, OwnN.nil _ _ _ _, HB1.out, by simp⟩
  case round =>
    obtain ⟨k, o, oa, oc, hk, rfl, rfl, hex, hown, hbel, hol⟩ := hrel
    by_cases hlt : k < l.length
    · have hrA := HR.out.below hbel
      obtain ⟨b, off, rfl, hb, hcl⟩ := hrA.at hlt
      have c0 := hcl 0 _ rfl
      have c1 := hcl 1 _ rfl
      have c2 := hcl 2 _ rfl
      have HS := Lib.hid (expL_snoc l k hlt [])
      have hto := HOK.out _ (List.getElem_mem hlt)
      have hbt := HBY.out _ (List.getElem_mem hlt)
      have HALL := Lib.hid (fun (h : expT o l[k] = none) => (show expL [] l = none from by
        have e : l = l.take (k + 1) ++ l.drop (k + 1) := (List.take_append_drop _ _).symm
        rw [e, expL_app, expL_snoc l k hlt, hex]
        simp only [Option.bind_some]
        rw [h]; rfl))
      rw [hex] at HS
      simp only [Option.bind_some] at HS
      have HBEL := Lib.hid hbel
      clear hrA hcl hbel hex
      generalize l[k] = t at *
      obtain ⟨L, D, bt⟩ := t
      simp only [encT, Nat.add_zero] at c0 c1 c2
      rw [← Nat.add_assoc] at c1 c2
      have hba := box_below wr (.cells #[.int .i64 L, .int .i64 D, .int .u8 (bt : Nat)] 40)
      have ho2 := hown.below hba
      have HOW := Lib.hid ho2
      have hsz := HBEL.out.size
      by_cases h0 : L = 0
      · have hE : expT o ⟨L, D, bt⟩ = some (o ++ [bt]) := by unfold expT; rw [if_pos h0]
        have HE := Lib.hid (HS.out.trans hE)
        subst h0
        clear hE HS HALL hto hown ho2
        go_wp2_with (at_builtin; refine app1N et_u8 rfl (.tmp 18) (.tmp 21) rfl rfl HOW.out (show Value.slice (some ⟨wr.heap.size + 1, 0, none⟩) 1 1 = .slice (some ⟨(wr.alloc _).heap.size, 0, none⟩) 1 1 from by simp) (Nat.le_refl _) (by omega) (by omega) (by omega) (by simp; omega) ?_; intro a3 cap3 w3 hown3 hg3 hb3)
        have HB3 := Lib.hid (HBEL.out.trans ((hba.mono hsz).trans hb3))
        clear hg3 hb3
        go_roundw
        case rel => exact ⟨k + 1, o ++ [bt], a3, cap3, by omega, by go_num, by simp, HE.out, hown3, HB3.out, by simp; omega⟩
        case measure => simp [intOf]; omega
      · have hf : 3 ≤ L ∧ L ≤ 258 ∧ 1 ≤ D ∧ D ≤ 32768 := by
          unfold tokOk at hto; rw [if_neg h0] at hto; exact ⟨hto.2.1, hto.2.2.1, hto.2.2.2.1, hto.2.2.2.2⟩
        obtain ⟨m, rfl⟩ := Int.eq_ofNat_of_zero_le (by omega : 0 ≤ L)
        obtain ⟨d, rfl⟩ := Int.eq_ofNat_of_zero_le (by omega : 0 ≤ D)
        obtain ⟨f1, f2, f3, f4⟩ := hf
        have b0 : ((m : Int) == 0) = false := by simp; omega
        by_cases hd : o.length < d
        · have hE : expT o ⟨(m : Int), (d : Int), bt⟩ = none := by unfold expT; rw [if_neg h0, if_pos (by show (o.length : Int) < (d : Int); omega)]
          have HN := Lib.hid (HALL.out hE)
          have b1 : decide ((o.length : Int) < (d : Int)) = true := by simp; omega
          have b1' : decide (o.length < d) = true := by simp; omega
          have HB3 := Lib.hid (HBEL.out.trans (hba.mono hsz))
          clear hE HS HALL hto hown ho2 hd
          go_wp2
          go_ret2
          exact ⟨HB3.out, by unfold ExpE; rw [if_pos HOK.out, HN.out]; rfl⟩
        · have hE : expT o ⟨(m : Int), (d : Int), bt⟩ = some (repOut d o m) := by unfold expT; rw [if_neg h0, if_neg (by show ¬ (o.length : Int) < (d : Int); omega)]; simp
          have HE := Lib.hid (HS.out.trans hE)
          have b1 : decide ((o.length : Int) < (d : Int)) = false := by simp; omega
          have b1' : decide (o.length < d) = false := by simp; omega
          have e0 : (wr.alloc (.cells #[.int .i64 (m : Int), .int .i64 (d : Int), .int .u8 (bt : Nat)] 40)).heap[wr.heap.size]? = some (.cells #[.int .i64 (m : Int), .int .i64 (d : Int), .int .u8 (bt : Nat)] 40) := World.alloc_heap_new wr _
          have HA2 := Lib.hid (HBEL.out.trans (hba.mono hsz))
          have E0 := Lib.hid e0
          have hsz2 : wr.heap.size < (wr.alloc (.cells #[.int .i64 (m : Int), .int .i64 (d : Int), .int .u8 (bt : Nat)] 40)).heap.size := by simp
          have hpa : ∀ g, oa = some ⟨g, 0, none⟩ → g ≠ wr.heap.size := by
            intro g hg
            rcases hown.form with ⟨h, _⟩ | ⟨g', h, _, h2⟩
            · rw [h] at hg; cases hg
            · rw [h] at hg; cases hg; omega
          have HPA := Lib.hid hpa
          clear hE HS HALL hto hown ho2 e0 hba hpa
          obtain ⟨tb, htb⟩ : ∃ tb, wr.heap.size = tb := ⟨_, rfl⟩
          go_wp2_with fail
          generalize (wr.alloc (.cells #[.int .i64 (m : Int), .int .i64 (d : Int), .int .u8 (bt : Nat)] 40)) = A2 at *
          rw [htb] at hsz2 E0 HPA hsz
          clear htb c0 c1 c2 hb HBEL
          go_loopw [4, 30] (fun out j B => ∃ (q : Nat) (pa : Option Addr) (pc : Nat), q ≤ m ∧ j = .int .i64 q ∧ out = .slice pa (repOut d o q).length pc ∧ OwnN 5 .u8 B w.heap.size pa pc (repOut d o q) ∧ (∀ g, pa = some ⟨g, 0, none⟩ → g ≠ tb) ∧ Below w.heap.size w B ∧ tb < B.heap.size ∧ B.heap[tb]? = some (.cells #[.int .i64 (m : Int), .int .i64 (d : Int), .int .u8 (bt : Nat)] 40)) (fun _ j _ => m - (intOf j).toNat)
          case atStart => exact ⟨0, oa, oc, by omega, rfl, rfl, HOW.out, HPA.out, HA2.out, hsz2, E0.out⟩
          case round =>
            obtain ⟨q, pa, pc, hq, rfl, rfl, hrw, hpt, hbB, htB, hcB⟩ := hrel
            obtain ⟨e0', e1', e2'⟩ := cells3 hcB
            have hrl := repOut_len d o q
            have HBB := Lib.hid hbB
            have HCB := Lib.hid hcB
            have HPT := Lib.hid hpt
            have hszB := hbB.size
            by_cases hlq : q < m
            · have hqi : (q : Int) < (m : Int) := by omega
              have HR := Lib.hid (show repOut d o (q + 1) = repOut d o q ++ [(repOut d o q).getD ((repOut d o q).length - d) 0] from rfl)
              generalize repOut d o q = r at *
              obtain ⟨px, hpx⟩ : ∃ px, r.length - d = px := ⟨_, rfl⟩
              rw [hpx] at HR
              have hpl : px < r.length := by omega
              have qp : (r.length : Int) - (d : Int) = (px : Int) := by omega
              have qpw : IntKind.i64.wrap ((r.length : Int) - (d : Int)) = (px : Int) := by rw [qp]; exact IntWalk.i64_in _ (by omega)
              obtain ⟨g9, rfl, _, _, hcv, _⟩ := hrw.at hpl
              have hgd : r.getD px 0 = r[px] := by rw [List.getD_eq_getElem?_getD, List.getElem?_eq_getElem hpl]; rfl
              rw [hgd] at HR
              have hrb : r.length ≤ 30000000 := by omega
              obtain ⟨nn1, nn2, qww⟩ := len_facts r.length px hrb hpl
              have hq258 : q ≤ 258 := by omega
              have HLQ := Lib.hid (And.intro hlq (And.intro htB hszB))
              have HARI := Lib.hid (And.intro hol (And.intro hk (And.intro hlt (And.intro f1 (And.intro f2 (And.intro f3 (And.intro f4 (And.intro hd (And.intro h0 hl)))))))))
              clear qpw qww hrl hpx hol hk f1 f2 f3 f4 hd b0 b1 b1' hq hsz htB hsz2 h0 hlt hl hlq
              have HRW := Lib.hid hrw
              clear hrw hbB hcB hpt hgd
              generalize r[px] = v at *
              go_wp2_with (at_builtin; refine app1AtN et_u8 rfl (.tmp 32) (.tmp 41) rfl (base := w.heap.size) (y := v) rfl HRW.out rfl (Nat.le_refl _) (by decide) nn1 nn2 hszB ?_; intro a7 c7 w7 hown7 hg7 hat7)
              obtain ⟨hlq, htB, _⟩ := HLQ.out
              obtain ⟨hol, hk, hlt, f1, f2, f3, f4, hd, h0, hl⟩ := HARI.out
              have hb7 := HBB.out.trans (Below.of_grown hg7 hszB (fun k e => by cases e; have := HRW.out.form; simp at this; omega))
              have hc7 : w7.heap[tb]? = some (.cells #[.int .i64 (m : Int), .int .i64 (d : Int), .int .u8 (bt : Nat)] 40) := (hg7.block tb htB (fun e => by cases e; exact HPT.out _ rfl rfl)).trans HCB.out
              have H7 := Lib.hid (And.intro hb7 hc7)
              have HS7 := Lib.hid hg7.size
              have HO7 := Lib.hid hown7
              have HA7 : Hid (∀ g, a7 = some ⟨g, 0, none⟩ → g ≠ tb) := Lib.hid (fun g hg => by
                rcases hat7 g hg with h | h
                · exact HPT.out g h
                · omega)
              clear hb7 hc7 hg7 hown7 hat7
              go_roundw
              case rel => exact ⟨q + 1, a7, c7, by omega, by go_num, by rw [HR.out]; simp, by rw [HR.out]; exact HO7.out, HA7.out, H7.out.1, by have := HS7.out; omega, H7.out.2⟩
              case measure => simp [intOf]; omega
            · obtain rfl : q = m := by omega
              have HRW := Lib.hid hrw
              clear hrw hbB hcB hpt e0' e1' e2'
              go_wp2
              go_roundw
              case rel => exact ⟨k + 1, repOut d o q, pa, pc, by omega, by go_num, rfl, HE.out, HRW.out, HBB.out, by omega⟩
              case measure => simp [intOf]; omega
    · obtain rfl : k = l.length := by omega
      rw [List.take_length] at hex
      have HE := Lib.hid hex
      have HO := Lib.hid hown
      have HBEL := Lib.hid hbel
      clear hbel hex hown
      go_wp2
      go_ret2
      exact ⟨HBEL.out, by unfold ExpE; rw [if_pos HOK.out, HE.out]; exact ⟨oa, oc, rfl, HO.out⟩⟩
end Go.Proofs.YtendielanacflaaGreat

namespace Go.Proofs.YtendielanacflaaGreat.M17
set_option linter.unusedVariables false
def align (x : Nat) : Nat := (x + 7) / 8 * 8
def st (n at_ : Nat) : Nat := if n ≤ 65535 then align (at_ + 3) + 32 + 8 * n else st (n - 65535) (align (at_ + 3) + 32 + 8 * 65535)
termination_by n
decreasing_by omega
def ev (at_ : Nat) : Nat → Nat
  | 0 => at_
  | i + 1 => align (ev at_ i + 3) + 32 + 8 * 65535
end Go.Proofs.YtendielanacflaaGreat.M17

namespace Go.Proofs.YtendielanacflaaGreat
open Go.RowKit Go.Shelf M08 M17
set_option linter.unusedVariables false
theorem take_ok' {l : List Tok} {k : Nat} (hk : k < l.length) (h : ∀ t ∈ l.take k, tokOk t) (h2 : tokOk l[k]) : ∀ t ∈ l.take (k + 1), tokOk t := by
  rw [List.take_succ_eq_append_getElem hk]
  intro t ht
  rcases List.mem_append.1 ht with ht | ht
  · exact h t ht
  · simp at ht; exact ht ▸ h2
theorem cnt_at {A : World} {base g n : Nat} {far : Bool} {R : List URow} (h : OwnN 3 .i64 A base (some ⟨g, 0, none⟩) n (cntL R far n)) (s : Nat) (hs : s < n) : A.cell? ⟨g, s, none⟩ = some (.int .i64 (cnt R far s : Nat)) ∧ A.frozen? ⟨g, s, none⟩ = false := by
  obtain ⟨g', he, _, _, hc, hf⟩ := h.at (i := s) (by rw [cntL_length]; exact hs)
  simp only [Option.some.injEq, Addr.mk.injEq, and_true] at he
  subst he
  refine ⟨?_, hf⟩
  rw [hc]
  have := cntL_at R far n s hs
  rw [List.getD_eq_getElem?_getD, List.getElem?_eq_getElem (by rw [cntL_length]; exact hs), Option.getD_some] at this
  rw [this]
theorem cnt_put {A : World} {base g n : Nat} {R : List URow} (r : URow) (h : OwnN 3 .i64 A base (some ⟨g, 0, none⟩) n (cntL R r.far n)) (hs : r.sym < n) : OwnN 3 .i64 (A.setCell ⟨g, r.sym, none⟩ (.int .i64 ((cnt R r.far r.sym + 1 : Nat) : Int))) base (some ⟨g, 0, none⟩) n (cntL (R ++ [r]) r.far n) := by
  rw [cntL_snoc, if_pos ⟨rfl, hs⟩]
  exact (OwnN.stored h _ _).1
theorem cnt_keep {A : World} {base g g' n s : Nat} {R : List URow} (r : URow) {far : Bool} (h : OwnN 3 .i64 A base (some ⟨g, 0, none⟩) n (cntL R far n)) (hf : r.far ≠ far) (hg : g' ≠ g) (v : Value) : OwnN 3 .i64 (A.setCell ⟨g', s, none⟩ v) base (some ⟨g, 0, none⟩) n (cntL (R ++ [r]) far n) := by
  rw [cntL_snoc, if_neg (fun h => hf h.1)]
  exact OwnN.other h (fun x hx => by cases hx; exact hg) _
theorem oft_start {w w1 w2 : World} (h1 : OwnN 3 .i64 w1 w.heap.size (some ⟨w.heap.size, 0, none⟩) 286 (List.replicate 286 0)) (g1 : w.grownBy w1 none) (h2 : OwnN 3 .i64 w2 w1.heap.size (some ⟨w1.heap.size, 0, none⟩) 30 (List.replicate 30 0)) (g2 : w1.grownBy w2 none) :
    w.heap.size < w1.heap.size ∧ w1.heap.size < w2.heap.size ∧ w2.cell? ⟨w.heap.size, 256, none⟩ = some (.int .i64 0) ∧ w2.frozen? ⟨w.heap.size, 256, none⟩ = false ∧
    Hid (OwnN 3 .i64 w2 w.heap.size (some ⟨w.heap.size, 0, none⟩) 286 (List.replicate 286 0)) ∧ Hid (OwnN 3 .i64 w2 w.heap.size (some ⟨w1.heap.size, 0, none⟩) 30 (List.replicate 30 0)) ∧ Hid (Below w.heap.size w w2) := by
  have hB1 : Below w.heap.size w w1 := Below.of_grown g1 (Nat.le_refl _) (fun k e => by cases e)
  have hB2 : Below w1.heap.size w1 w2 := Below.of_grown g2 (Nat.le_refl _) (fun k e => by cases e)
  have o1 := h1.below hB2
  have hz1 : w.heap.size < w1.heap.size := by
    obtain ⟨g, he, _, hlt⟩ := (h1.form).resolve_left (by intro h; cases h.1)
    simp only [Option.some.injEq, Addr.mk.injEq, and_true] at he
    omega
  have hz2 : w1.heap.size < w2.heap.size := by
    obtain ⟨g, he, _, hlt⟩ := (h2.form).resolve_left (by intro h; cases h.1)
    simp only [Option.some.injEq, Addr.mk.injEq, and_true] at he
    omega
  obtain ⟨g, he, _, _, hc, hf⟩ := o1.at (i := 256) (by rw [List.length_replicate]; decide)
  simp only [Option.some.injEq, Addr.mk.injEq, and_true] at he
  subst he
  exact ⟨hz1, hz2, by rw [hc, List.getElem_replicate]; rfl, hf, o1, h2.mono (by omega), hB1.trans (hB2.mono hB1.size)⟩
end Go.Proofs.YtendielanacflaaGreat
