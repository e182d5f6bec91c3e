/- Plain mathematics of layer 10: a stored block ahead of a stream. -/
import Derived.Test.YtlofoocgiomfbaaLoc
namespace Go.Proofs.Ytlofoocgiomfbaa.M10
open M01 M04 M06 M07 M08 M09
set_option linter.unusedVariables false

theorem num_add (bs : List Nat) (a m n : Nat) : num bs a (m + n) = num bs a m + 2 ^ m * num bs (a + m) n := by
  induction n with
  | zero => simp [num]
  | succ n ih =>
    rw [← Nat.add_assoc]
    simp only [num]
    rw [ih, Nat.add_assoc a m n, Nat.mul_add, Nat.pow_add, Nat.add_assoc]
    congr 2
    rw [Nat.mul_left_comm]
theorem bits8 (x : Nat) (h : x < 256) : x / 2 ^ 0 % 2 * 2 ^ 0 + x / 2 ^ 1 % 2 * 2 ^ 1 + x / 2 ^ 2 % 2 * 2 ^ 2 + x / 2 ^ 3 % 2 * 2 ^ 3 + x / 2 ^ 4 % 2 * 2 ^ 4 + x / 2 ^ 5 % 2 * 2 ^ 5 + x / 2 ^ 6 % 2 * 2 ^ 6 + x / 2 ^ 7 % 2 * 2 ^ 7 = x := by omega
theorem num_byte (bs : List Nat) (i : Nat) (h : bs.getD i 0 < 256) : num bs (8 * i) 8 = bs.getD i 0 := by
  have hb : ∀ k, k < 8 → bit bs (8 * i + k) = bs.getD i 0 / 2 ^ k % 2 := fun k hk => by
    unfold bit
    rw [show (8 * i + k) / 8 = i by omega, show (8 * i + k) % 8 = k by omega]
  simp only [num]
  rw [hb 0 (by decide), hb 1 (by decide), hb 2 (by decide), hb 3 (by decide), hb 4 (by decide), hb 5 (by decide), hb 6 (by decide), hb 7 (by decide)]
  generalize bs.getD i 0 = x at *
  have := bits8 x h
  omega
theorem num_two (bs : List Nat) (i : Nat) (h : bs.getD i 0 < 256) (h2 : bs.getD (i + 1) 0 < 256) : num bs (8 * i) 16 = bs.getD i 0 + 256 * bs.getD (i + 1) 0 := by
  rw [show 16 = 8 + 8 from rfl, num_add, num_byte bs i h, show 8 * i + 8 = 8 * (i + 1) by omega, num_byte bs (i + 1) h2]
theorem stoL_row (S : List Nat) : ∀ (blk pre rest out : List Nat), S = pre ++ (blk ++ rest) → (∀ x ∈ blk, x < 256) → stoL S blk.length (8 * pre.length) out = some (8 * (pre.length + blk.length), out ++ blk) := by
  intro blk
  induction blk with
  | nil => intro pre rest out hS hb; simp [stoL]
  | cons x t ih =>
    intro pre rest out hS hb
    have hx : S.getD pre.length 0 = x := by
      rw [hS]
      simp [List.getD]
    have hl : S.length = pre.length + (t.length + 1 + rest.length) := by rw [hS]; simp; omega
    have h1 := ih (pre ++ [x]) rest (out ++ [x]) (by rw [hS]; simp) (fun y hy => hb y (by simp [hy]))
    rw [List.length_append, List.length_singleton] at h1
    show (if 8 * pre.length + 8 ≤ 8 * S.length then stoL S t.length (8 * pre.length + 8) (out ++ [num S (8 * pre.length) 8]) else none) = _
    rw [if_pos (by omega), num_byte S pre.length (by rw [hx]; exact hb x (by simp)), hx, show 8 * pre.length + 8 = 8 * (pre.length + 1) by omega, h1, List.length_cons]
    simp only [List.append_assoc, List.singleton_append, Option.some.injEq, Prod.mk.injEq, and_true]
    omega
theorem symsL_size {l1 l2 bs : List Nat} (h20 : ∀ x ∈ l1, x ≤ 20) : ∀ f at_ out at2 o, symsL l1 l2 bs f at_ out = some (at2, o) → o.length + 258 * at_ ≤ out.length + 258 * at2 := by
  intro f
  induction f with
  | zero => intro at_ out at2 o h; simp [symsL] at h
  | succ f ih =>
    intro at_ out at2 o h
    rw [symsL_succ] at h
    unfold symsStep at h
    split at h
    · simp at h
    · next c a1 hs =>
      obtain ⟨-, -, s1⟩ := sym_some h20 hs
      split at h
      · have := ih _ _ _ _ h
        simp at this
        omega
      · split at h
        · simp only [Option.some.injEq, Prod.mk.injEq] at h
          obtain ⟨rfl, rfl⟩ := h
          omega
        · split at h
          · simp at h
          · next hc3 =>
            split at h
            · simp at h
            · next x a2 hx =>
              have hx1 := (rdN_loc (d := 0) (bs' := bs) hx).1
              have hx2 : x < 2 ^ (loS c).2.1 := by
                unfold rdN at hx
                split at hx
                · simp only [Option.some.injEq, Prod.mk.injEq] at hx
                  rw [← hx.1]; exact num_lt _ _ _
                · simp at hx
              have hlb := (loS_bound c (by omega)).2
              split at h
              · simp at h
              · next dd a3 hd =>
                have hd1 := (sym_loc (d := 0) (bs' := bs) hd).1
                split at h
                · simp at h
                · split at h
                  · simp at h
                  · next y a4 hy =>
                    have hy1 := (rdN_loc (d := 0) (bs' := bs) hy).1
                    split at h
                    · simp at h
                    · have := ih _ _ _ _ h
                      rw [repOut_len] at this
                      omega
theorem symsB_size {l1 l2 bs out o : List Nat} {at_ at2 : Nat} (h : symsB l1 l2 bs at_ out = some (at2, o)) : o.length + 258 * at_ ≤ out.length + 258 * at2 := by
  unfold symsB at h
  split at h
  · next h1 =>
    split at h
    · exact symsL_size (wordsE_le20 h1) _ _ _ _ _ h
    · simp at h
  · simp at h
theorem blkK_size {k : Nat} {bs out o : List Nat} {at_ at2 : Nat} (h : blkK k bs at_ out = some (at2, o)) : o.length + 258 * at_ ≤ out.length + 258 * at2 := by
  unfold blkK at h
  split at h
  · unfold stoB stored0 at h
    split at h
    · split at h
      · obtain ⟨h1, -, h3, -⟩ := stoL_loc (d := 0) (bs' := bs) (pre := []) _ _ _ _ _ h
        omega
      · simp at h
    · simp at h
  · split at h
    · exact symsB_size h
    · split at h
      · unfold dynB at h
        split at h
        · simp at h
        · next fo a2 hh =>
          have h1 := (hdr_loc (d := 0) (bs' := bs) hh).1
          have := symsB_size h
          omega
      · simp at h
theorem inflL_size {bs : List Nat} : ∀ f at_ out at2 o, inflL bs f at_ out = some (at2, o) → o.length + 258 * at_ ≤ out.length + 258 * at2 := by
  intro f
  induction f with
  | zero => intro at_ out at2 o h; simp [inflL] at h
  | succ f ih =>
    intro at_ out at2 o h
    rw [inflL_succ] at h
    unfold inflStep at h
    split at h
    · split at h
      · split at h
        · simp at h
        · next a2 o2 hb =>
          have h1 := blkK_size hb
          split at h
          · have := ih _ _ _ _ h
            omega
          · simp only [Option.some.injEq, Prod.mk.injEq] at h
            obtain ⟨rfl, rfl⟩ := h
            omega
      · simp at h
    · simp at h
theorem inflB_size {bs o : List Nat} {at2 : Nat} (h : inflB bs = some (at2, o)) : o.length ≤ 258 * at2 := by
  have := inflL_size _ _ _ _ _ h
  simp at this
  exact this
/-- a stored block's head -/
def stoHead (n : Nat) : List Nat := [0, n % 256, n / 256, 255 - n % 256, 255 - n / 256]
theorem inflB_ahead {b blk o : List Nat} {at2 : Nat} (h : inflB b = some (at2, o)) (hblk : ∀ x ∈ blk, x < 256) (hn : blk.length ≤ 2000) :
    inflB (stoHead blk.length ++ (blk ++ b)) = some (at2 + 8 * (5 + blk.length), blk ++ o) := by
  obtain ⟨n, hnl⟩ : ∃ n, blk.length = n := ⟨_, rfl⟩
  rw [hnl]
  obtain ⟨S, hS⟩ : ∃ S, S = stoHead n ++ (blk ++ b) := ⟨_, rfl⟩
  rw [← hS]
  have hat := (inflB_bound h).2
  have hl : S.length = 5 + n + b.length := by rw [hS]; simp [stoHead, hnl]; omega
  have g0 : S.getD 0 0 = 0 := by rw [hS]; rfl
  have g1 : S.getD 1 0 = n % 256 := by rw [hS]; rfl
  have g2 : S.getD (1 + 1) 0 = n / 256 := by rw [hS]; rfl
  have g3 : S.getD 3 0 = 255 - n % 256 := by rw [hS]; rfl
  have g4 : S.getD (3 + 1) 0 = 255 - n / 256 := by rw [hS]; rfl
  have b0 : ∀ k, k < 8 → bit S k = 0 := fun k hk => by
    unfold bit
    rw [show k / 8 = 0 by omega, g0]
    simp
  have n1 : num S 0 1 = 0 := by simp [num, b0 0 (by decide)]
  have n2 : num S (0 + 1) 2 = 0 := by simp [num, b0 1 (by decide), b0 2 (by decide)]
  have m1 : num S 8 16 = n := by
    have := num_two S 1 (by rw [g1]; omega) (by rw [g2]; omega)
    rw [show 8 * 1 = 8 from rfl, g1, g2] at this
    omega
  have m2 : num S (8 + 16) 16 = 65535 - n := by
    have := num_two S 3 (by rw [g3]; omega) (by rw [g4]; omega)
    rw [show 8 * 3 = 8 + 16 from rfl, g3, g4] at this
    omega
  have hst : stoL S n (8 + 32) [] = some (8 * (5 + n), [] ++ blk) := by
    have := stoL_row S blk (stoHead n) b [] hS hblk
    rw [hnl] at this
    exact this
  have hag : Agr (8 * (5 + n)) b S 0 at2 := ⟨fun i _ hi => by
    unfold bit
    rw [show (i + 8 * (5 + n)) / 8 = i / 8 + (5 + n) by omega, show (i + 8 * (5 + n)) % 8 = i % 8 by omega]
    congr 2
    rw [hS, ← List.append_assoc]
    have : (stoHead n ++ blk).length = 5 + n := by simp [stoHead, hnl]; omega
    simp only [List.getD]
    rw [List.getElem?_append_right (by omega), this, Nat.add_sub_cancel], by omega⟩
  unfold inflB
  rw [inflL_succ]
  unfold inflStep
  rw [if_pos (by omega), if_pos (by omega), n2]
  have hb0 : blkK 0 S (0 + 1 + 2) [] = some (8 * (5 + n), blk) := by
    unfold blkK stoB
    rw [if_pos rfl]
    show stored0 S 8 [] = _
    unfold stored0
    rw [if_pos (by omega), m1, m2, if_pos rfl, hst]
    rfl
  rw [hb0]
  simp only [n1, if_true]
  rw [inflL_ahead (d := 8 * (5 + n)) (by omega) h hag (8 * S.length) (by omega)]
end Go.Proofs.Ytlofoocgiomfbaa.M10
