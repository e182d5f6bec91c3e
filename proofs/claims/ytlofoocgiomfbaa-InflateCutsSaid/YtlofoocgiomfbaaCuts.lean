/- InflateCuts: the plain law: bits that play no part one by one play none together. -/
import Derived.Test.YtlofoocgiomfbaaLast
import Derived.Test.YtlofoocgiomfbaaFlw
namespace Go.Proofs.Ytlofoocgiomfbaa
open Go.RowKit Go.Shelf M01 M04 M09 M10
set_option linter.unusedVariables false

/-- the last byte, some of its bits turned -/
def turned (bs : List Nat) (y : Nat) : List Nat := bs.set (bs.length - 1) (bs.getD (bs.length - 1) 0 ^^^ y)
theorem turned_len (bs : List Nat) (y : Nat) : (turned bs y).length = bs.length := by simp [turned]
/-- is it the same flow? -/
def sameR (o : List Nat) (u : Nat) (R : Option (Nat × List Nat)) : Bool :=
  match R with
  | none => false
  | some r => sameB (r.2.take 4000) r.2.length ((r.1 + 7) / 8) (o.take 4000) o.length u
theorem bit_test (bs : List Nat) (i : Nat) : bit bs i = ((bs.getD (i / 8) 0).testBit (i % 8)).toNat := by
  unfold bit
  rw [Nat.testBit_eq_decide_div_mod_eq]
  have := Nat.mod_lt (bs.getD (i / 8) 0 / 2 ^ (i % 8)) (y := 2) (by decide)
  generalize bs.getD (i / 8) 0 / 2 ^ (i % 8) % 2 = x at *
  match x, this with
  | 0, _ => rfl
  | 1, _ => rfl
theorem turned_at (bs : List Nat) (y : Nat) (i : Nat) (hi : i < bs.length) : (turned bs y).getD i 0 = if i = bs.length - 1 then bs.getD i 0 ^^^ y else bs.getD i 0 := by
  unfold turned
  simp only [List.getD, List.getElem?_set]
  by_cases h : bs.length - 1 = i
  · subst h
    rw [if_pos rfl, if_pos hi, if_pos rfl]
    rfl
  · rw [if_neg h, if_neg (fun e => h e.symm)]
theorem turned_bit (bs : List Nat) (y i : Nat) (hi : i < 8 * bs.length) : bit (turned bs y) i = if i / 8 = bs.length - 1 then ((bs.getD (i / 8) 0).testBit (i % 8) ^^ y.testBit (i % 8)).toNat else bit bs i := by
  rw [bit_test, turned_at bs y _ (by omega)]
  split
  · rw [Nat.testBit_xor]
  · rw [bit_test]
theorem low_bits {y n j : Nat} (h : y % 2 ^ n = 0) (hj : j < n) : y.testBit j = false := by
  have h1 := Nat.testBit_mod_two_pow y n j
  rw [h] at h1
  simp [hj] at h1
  exact h1
theorem turned_bytes {bs : List Nat} (hb : ∀ x ∈ bs, x < 256) {y : Nat} (hy : y < 256) : ∀ x ∈ turned bs y, x < 256 := by
  intro x hx
  unfold turned at hx
  rcases List.mem_or_eq_of_mem_set hx with h | rfl
  · exact hb x h
  · refine Nat.xor_lt_two_pow (n := 8) ?_ hy
    show bs.getD (bs.length - 1) 0 < 256
    by_cases h : bs.length - 1 < bs.length
    · simp only [List.getD, List.getElem?_eq_getElem h, Option.getD_some]
      exact hb _ (List.getElem_mem h)
    · simp [List.getD, List.getElem?_eq_none (show bs.length ≤ bs.length - 1 by omega)]
theorem sameR_refl (o : List Nat) (u at2 : Nat) (hu : (at2 + 7) / 8 = u) : sameR o u (some (at2, o)) = true := by
  unfold sameR
  simp only [hu]
  exact sameB_refl _ _ _
theorem inflB_turned {bs : List Nat} {y : Nat} : inflB (turned bs y) = inflL (turned bs y) (8 * bs.length + 1) 0 [] := by
  unfold inflB
  rw [turned_len]
theorem cuts_good {bs o : List Nat} {at2 u : Nat} (h : inflB bs = some (at2, o)) (hu : (at2 + 7) / 8 = u) (hl : bs.length = u) (hb : ∀ x ∈ bs, x < 256) (free : Nat) (hf : free ≤ 8)
    (hG : ∀ k, k < free → sameR o u (inflB (turned bs (2 ^ (7 - k)))) = true) (y : Nat) (hy : y < 256) (hy2 : y % 2 ^ (8 - free) = 0) : sameR o u (inflB (turned bs y)) = true := by
  obtain ⟨hb0, hb8⟩ := inflB_bound h
  have hlast := inflL_last _ _ _ _ _ h
  rcases hlast with hS | hT
  · -- the last bit plays a part
    obtain ⟨r, hr⟩ : ∃ r, at2 = 8 * (u - 1) + r := ⟨at2 - 8 * (u - 1), by omega⟩
    have hr1 : 1 ≤ r ∧ r ≤ 8 := by omega
    have hfree : free ≤ 8 - r := by
      rcases Nat.lt_or_ge (8 - r) free with hlt | hge
      · exfalso
        have hg := hG (8 - r) hlt
        rw [show 7 - (8 - r) = r - 1 by omega] at hg
        cases hR : inflB (turned bs (2 ^ (r - 1))) with
        | none => rw [hR] at hg; simp [sameR] at hg
        | some q =>
          rw [hR] at hg
          have hlen : q.2.length = o.length := by
            unfold sameR sameB at hg
            simp only [Bool.and_eq_true, decide_eq_true_eq] at hg
            exact hg.1.2
          have := hS (8 * bs.length + 1) (turned bs (2 ^ (r - 1))) ⟨fun i _ hi => by
            rw [Nat.add_zero, turned_bit _ _ _ (by omega)]
            split
            · next he =>
              rw [Nat.testBit_two_pow_of_ne (by omega), Bool.xor_false, bit_test]
            · rfl, by rw [turned_len]; omega⟩ (by rw [turned_len]; omega) (by
              rw [turned_bit _ _ _ (by omega), if_pos (by omega), bit_test, show (at2 - 1) % 8 = r - 1 by omega, Nat.testBit_two_pow_self]
              cases (bs.getD ((at2 - 1) / 8) 0).testBit (r - 1) <;> simp) q (by
              show inflL (turned bs (2 ^ (r - 1))) (8 * bs.length + 1) 0 [] = some q
              rw [← inflB_turned, hR])
          omega
      · exact hge
    have he : inflB (turned bs y) = some (at2, o) := inflB_same h ⟨fun i _ hi => by
      rw [Nat.add_zero, turned_bit _ _ _ (by omega)]
      split
      · rw [low_bits hy2 (by omega), Bool.xor_false, bit_test]
      · rfl, by rw [turned_len]; omega⟩
    rw [he]
    exact sameR_refl _ _ _ hu
  · -- a stored byte is the last
    obtain ⟨t1, t2, o0, t3, t4⟩ := hT (8 * bs.length + 1) (by omega)
    have hat : at2 = 8 * (u - 1) + 8 := by omega
    have hlast : bs.length - 1 < bs.length := by omega
    have hc : bs.getD (u - 1) 0 < 256 := by
      rw [← hl]
      simp only [List.getD, List.getElem?_eq_getElem hlast, Option.getD_some]
      exact hb _ (List.getElem_mem hlast)
    have hnum : num bs (at2 - 8) 8 = bs.getD (u - 1) 0 := by
      rw [show at2 - 8 = 8 * (u - 1) by omega]
      exact num_byte _ _ hc
    have hall : ∀ z, z < 256 → inflB (turned bs z) = some (at2, o0 ++ [bs.getD (u - 1) 0 ^^^ z]) := fun z hz => by
      have h4 := t4 (turned bs z) ⟨fun i _ hi => by
        rw [Nat.add_zero, turned_bit _ _ _ (by omega), if_neg (by omega)], by rw [turned_len]; omega⟩ (by rw [turned_len]; omega)
      simp only at h4
      have hx : (turned bs z).getD (u - 1) 0 = bs.getD (u - 1) 0 ^^^ z := by rw [turned_at _ _ _ (by omega), if_pos (by omega)]
      have hlt : bs.getD (u - 1) 0 ^^^ z < 256 := Nat.xor_lt_two_pow (n := 8) hc hz
      rw [inflB_turned, h4, show at2 - 8 = 8 * (u - 1) by omega, num_byte _ _ (by rw [hx]; exact hlt), hx]
    rw [hnum] at t3
    obtain ⟨c, hce⟩ : ∃ c, bs.getD (u - 1) 0 = c := ⟨_, rfl⟩
    rw [hce] at hall t3 hc
    by_cases h4 : o.length ≤ 4000
    · have hfree : free = 0 := by
        rcases Nat.eq_zero_or_pos free with h0 | h0
        · exact h0
        · exfalso
          have hg := hG 0 h0
          rw [hall _ (by decide)] at hg
          unfold sameR sameB at hg
          simp only [Bool.and_eq_true, decide_eq_true_eq] at hg
          have hs := hg.1.1
          rw [t3] at h4
          simp only [List.length_append, List.length_singleton] at h4
          rw [t3, List.take_of_length_le (by simp; omega), List.take_of_length_le (by simp; omega), ba_beq, decide_eq_true_eq, strOf_eq, strOf_eq] at hs
          have hd : (o0 ++ [c ^^^ 2 ^ (7 - 0)]).map UInt8.ofNat = (o0 ++ [c]).map UInt8.ofNat := by simpa [ByteArray.ext_iff] using hs
          simp only [List.map_append, List.map_cons, List.map_nil, List.append_cancel_left_eq, List.cons.injEq, and_true] at hd
          have hlt : c ^^^ 2 ^ (7 - 0) < 256 := Nat.xor_lt_two_pow (n := 8) hc (by decide)
          have hd2 := congrArg UInt8.toNat hd
          simp only [UInt8.toNat_ofNat'] at hd2
          rw [Nat.mod_eq_of_lt hlt, Nat.mod_eq_of_lt hc] at hd2
          have hd3 := congrArg (fun n => n.testBit 7) hd2
          simp only [Nat.testBit_xor] at hd3
          rw [show Nat.testBit (2 ^ (7 - 0)) 7 = true from rfl] at hd3
          cases hq : c.testBit 7 <;> simp [hq] at hd3
      subst hfree
      have hy0 : y = 0 := by
        have : y % 256 = 0 := hy2
        omega
      subst hy0
      rw [hall 0 (by decide), Nat.xor_zero, ← t3]
      exact sameR_refl _ _ _ hu
    · rw [hall y hy]
      unfold sameR
      simp only [hu]
      rw [t3] at h4 ⊢
      simp only [List.length_append, List.length_singleton] at h4 ⊢
      rw [List.take_append_of_le_length (by omega), List.take_append_of_le_length (by omega)]
      exact sameB_refl _ _ _
end Go.Proofs.Ytlofoocgiomfbaa
