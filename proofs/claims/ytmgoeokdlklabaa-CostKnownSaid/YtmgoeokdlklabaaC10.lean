/- Layer 1: laying bits: plain mathematics, and the contracts of lsb.Writer (bit, Put, Bytes). prefix: PutLow: contract. A row of numbers that is filled from the left. Plain mathematics of layers 6, 9, 10: reading by a code. prefix.get, GetLow: contracts. header.may: contract. Plain mathematics of layer 9: a head. header.Get: contract. The reference of layer 1: rows of bits: contracts of Bits, Number, Of, Get. The reference of layers 4, 6: words as rows of bits: contracts of Bits, Rows, begins, Get. Plain mathematics of layer 7: signs that are packed say the lengths. header.signs: the first and the last frequency above 0: contracts. Plain mathematics of layers 1 and 6: bits that were laid are read back. Plain mathematics of layer 9: a head that is laid, and read back. -/
import Derived.Test.YtmgoeokdlklabaaC04
import Derived.Test.YtmgoeokdlklabaaC01
import Derived.Test.YtmgoeokdlklabaaC05
import Derived.Test.YtmgoeokdlklabaaC02
import Derived.Test.YtmgoeokdlklabaaC03
import Derived.StillTailTactics
import Derived.Test.YtmgoeokdlklabaaChecked
import Derived.Deep.RegionLaw
namespace Go.Proofs.Ytmgoeokdlklabaa.M01
set_option linter.unusedVariables false
abbrev Wst := List Nat × Nat
def roomy (s : Wst) : List Nat := if s.2 % 8 = 0 then s.1 ++ [0] else s.1
def addBit (s : Wst) (b : Nat) : Wst := ((roomy s).set (s.2 / 8) ((roomy s).getD (s.2 / 8) 0 ||| b * 2 ^ (s.2 % 8)), s.2 + 1)
def WOk (s : Wst) : Prop := s.1.length = (s.2 + 7) / 8 ∧ ∀ x ∈ s.1, x < 256
theorem roomy_len {s : Wst} (h : WOk s) : (roomy s).length = s.2 / 8 + 1 := by
  obtain ⟨h1, _⟩ := h
  unfold roomy
  split
  · simp; omega
  · omega
theorem roomy_byte {s : Wst} (h : WOk s) : ∀ x ∈ roomy s, x < 256 := by
  intro x hx
  unfold roomy at hx
  split at hx
  · rcases List.mem_append.1 hx with h1 | h1
    · exact h.2 x h1
    · simp at h1; omega
  · exact h.2 x hx
theorem old_lt {s : Wst} (h : WOk s) : (roomy s).getD (s.2 / 8) 0 < 256 := by
  have hl := roomy_len h
  simp only [List.getD, List.getElem?_eq_getElem (show s.2 / 8 < (roomy s).length by omega), Option.getD_some]
  exact roomy_byte h _ (List.getElem_mem _)
theorem bit_lt256 (b n : Nat) (hb : b < 2) : b * 2 ^ (n % 8) < 256 := by
  have h1 : 2 ^ (n % 8) ≤ 2 ^ 7 := Nat.pow_le_pow_right (by decide) (by omega)
  have h2 : b * 2 ^ (n % 8) ≤ 1 * 2 ^ (n % 8) := Nat.mul_le_mul_right _ (by omega)
  omega
theorem addBit_ok {s : Wst} (h : WOk s) {b : Nat} (hb : b < 2) : WOk (addBit s b) := by
  have hl := roomy_len h
  refine ⟨?_, fun x hx => ?_⟩
  · unfold addBit
    simp only [List.length_set, hl]
    omega
  · unfold addBit at hx
    rcases List.mem_or_eq_of_mem_set hx with h1 | rfl
    · exact roomy_byte h x h1
    · exact Nat.or_lt_two_pow (n := 8) (old_lt h) (bit_lt256 b s.2 hb)
def addNum (s : Wst) (v : Nat) : Nat → Wst
  | 0 => s
  | n + 1 => addBit (addNum s v n) (v / 2 ^ n % 2)
theorem addNum_ok {s : Wst} (h : WOk s) (v n : Nat) : WOk (addNum s v n) := by
  induction n with
  | zero => exact h
  | succ n ih => exact addBit_ok ih (Nat.mod_lt _ (by decide))
theorem addNum_len (s : Wst) (v n : Nat) : (addNum s v n).2 = s.2 + n := by
  induction n with
  | zero => rfl
  | succ n ih => show (addNum s v n).2 + 1 = _; omega
end Go.Proofs.Ytmgoeokdlklabaa.M01
namespace Go.Proofs.Ytmgoeokdlklabaa
open Go.RowKit Go.Shelf M01
set_option linter.unusedVariables false
def Wr0 (P : Nat → Prop) (w : World) (p : Nat) (l : List Nat) (n : Nat) : Prop :=
  ∃ a c, w.heap[p]? = some (.cells #[.slice a l.length c, .int .i64 (n : Nat)] 24 (0, 0)) ∧ OwnN 5 .u8 w 0 a c l ∧ P p ∧ (∀ g, a = some ⟨g, 0, none⟩ → P g ∧ p < g) ∧ (∀ b, w.heap.size ≤ b → P b)
def Wr (P : Nat → Prop) (w : World) (p : Nat) (s : Wst) : Prop := Wr0 P w p s.1 s.2 ∧ WOk s ∧ s.2 ≤ 100000000
theorem Wr0.lt {P : Nat → Prop} {w : World} {p n : Nat} {l : List Nat} (h : Wr0 P w p l n) : p < w.heap.size := by
  obtain ⟨a, c, h1, _⟩ := h
  exact (Array.getElem?_eq_some_iff.1 h1).1
theorem Wr0.grow {P : Nat → Prop} {w w2 : World} {p n : Nat} {l : List Nat} {a a' : Option Addr} {c c' y : Nat}
    (h1 : w.heap[p]? = some (.cells #[.slice a l.length c, .int .i64 (n : Nat)] 24 (0, 0))) (h2 : OwnN 5 .u8 w 0 a c l) (h3 : P p) (h4 : ∀ g, a = some ⟨g, 0, none⟩ → P g ∧ p < g) (h5 : ∀ b, w.heap.size ≤ b → P b)
    (hown : OwnN 5 .u8 w2 0 a' c' (l ++ [y])) (hg : w.grownBy w2 (Value.slice a l.length c).ownBlock) (hnew : ∀ g, a' = some ⟨g, 0, none⟩ → a = some ⟨g, 0, none⟩ ∨ w.heap.size ≤ g) :
    Only P w (w2.setCell ⟨p, 0, none⟩ (.slice a' (l.length + 1) c')) ∧ Wr0 P (w2.setCell ⟨p, 0, none⟩ (.slice a' (l.length + 1) c')) p (l ++ [y]) n := by
  have hlt : p < w.heap.size := (Array.getElem?_eq_some_iff.1 h1).1
  have hX : w2.heap[p]? = _ := (hg.block p hlt (own_ne h2 (fun g e => (h4 g e).2) p (Nat.le_refl _))).trans h1
  have ho2 : Only P w w2 := (Only.refl P w).grown hg (fun r hr => by
    rcases h2.form with ⟨rfl, _, _⟩ | ⟨g, rfl, _⟩
    · simp [Value.ownBlock] at hr
    · simp [Value.ownBlock] at hr
      subst hr
      exact .inl (h4 _ rfl).1)
  have hO := ho2.setCell (p := ⟨p, 0, none⟩) (.inl h3) (.slice a' (l.length + 1) c')
  have hps : ∀ g, a' = some ⟨g, 0, none⟩ → P g ∧ p < g := fun g e => by
    rcases hnew g e with h | h
    · exact h4 g h
    · exact ⟨h5 g h, by omega⟩
  exact ⟨hO, a', c', by rw [(two_set hX).1]; simp, hown.other (fun g e => by have := (hps g e).2; show p ≠ g; omega) _, h3, hps, fun b hb => h5 b (Nat.le_trans hO.size hb)⟩
theorem Wr0.store {P : Nat → Prop} {w : World} {p n g c : Nat} {l : List Nat} (h1 : w.heap[p]? = some (.cells #[.slice (some ⟨g, 0, none⟩) l.length c, .int .i64 (n : Nat)] 24 (0, 0)))
    (h2 : OwnN 5 .u8 w 0 (some ⟨g, 0, none⟩) c l) (h3 : P p) (h4 : P g ∧ p < g) (h5 : ∀ b, w.heap.size ≤ b → P b) (i x : Nat) (m : Nat) :
    Only P w ((w.setCell ⟨g, i, none⟩ (.int .u8 (x : Nat))).setCell ⟨p, 1, none⟩ (.int .i64 (m : Nat))) ∧ Wr0 P ((w.setCell ⟨g, i, none⟩ (.int .u8 (x : Nat))).setCell ⟨p, 1, none⟩ (.int .i64 (m : Nat))) p (l.set i x) m := by
  have hO := ((Only.refl P w).setCell (p := ⟨g, i, none⟩) (.inl h4.1) (.int .u8 (x : Nat))).setCell (p := ⟨p, 1, none⟩) (.inl h3) (.int .i64 (m : Nat))
  have hX : (w.setCell ⟨g, i, none⟩ (.int .u8 (x : Nat))).heap[p]? = _ := (Below.heap_setCell _ _ _ _ (by show p ≠ g; omega)).trans h1
  refine ⟨hO, some ⟨g, 0, none⟩, c, ?_, ?_, h3, fun g' e => by cases e; exact h4, fun b hb => h5 b (Nat.le_trans hO.size hb)⟩
  · rw [(two_set hX).2, List.length_set]
  · exact ((h2.stored i x).1).other (fun g' e => by cases e; show p ≠ g; omega) _
theorem wrap8 (n : Int) : IntKind.u8.wrap n = n % 256 := by simp [IntKind.wrap, IntKind.bits, IntKind.signed]
theorem or8 (a b : Nat) (ha : a < 256) (hb : b < 256) : bits .or .u8 (a : Int) (b : Int) = ((a ||| b : Nat) : Int) := by
  have h1 : (BitVec.ofInt 8 (a : Int)).toNat = a := by
    rw [BitVec.ofInt_natCast, BitVec.toNat_ofNat]; exact Nat.mod_eq_of_lt (by omega)
  have h2 : (BitVec.ofInt 8 (b : Int)).toNat = b := by
    rw [BitVec.ofInt_natCast, BitVec.toNat_ofNat]; exact Nat.mod_eq_of_lt (by omega)
  have h3 : a ||| b < 256 := Nat.or_lt_two_pow (n := 8) ha hb
  show IntKind.u8.wrap ((BitVec.ofInt 8 (a : Int) ||| BitVec.ofInt 8 (b : Int)).toNat : Int) = _
  rw [BitVec.toNat_or, h1, h2, wrap8]
  omega
theorem and1 (v : Nat) (hv : v < 4294967296) : bits .and .u32 (v : Int) 1 = ((v % 2 : Nat) : Int) := by
  have h1 : (BitVec.ofInt 32 (v : Int)).toNat = v := by
    rw [BitVec.ofInt_natCast, BitVec.toNat_ofNat]; exact Nat.mod_eq_of_lt (by omega)
  have h2 : (BitVec.ofInt 32 (1 : Int)).toNat = 1 := by decide
  show IntKind.u32.wrap ((BitVec.ofInt 32 (v : Int) &&& BitVec.ofInt 32 (1 : Int)).toNat : Int) = _
  rw [BitVec.toNat_and, h1, h2, Nat.and_one_is_mod]
  have : IntKind.u32.wrap ((v % 2 : Nat) : Int) = ((v % 2 : Nat) : Int) % 4294967296 := by simp [IntKind.wrap, IntKind.bits, IntKind.signed]
  rw [this]
  omega
set_option maxRecDepth 100000 in
set_option maxHeartbeats 1600000 in
theorem lsb_bit {P : Nat → Prop} {w : World} {p : Nat} {s : Wst} (h : Wr P w p s) (v : Nat) (hv : v < 4294967296) (hn : s.2 < 100000000) :
    Calls Try.prog 35 #[.pointer (some ⟨p, 0, none⟩), .int .u32 (v : Nat)] w fun e w' => e = .returned (.tuple #[]) ∧ Only P w w' ∧ Wr P w' p (addBit s (v % 2)) := by
  obtain ⟨h0, hok, hbd⟩ := h
  have hok2 := addBit_ok hok (b := v % 2) (Nat.mod_lt _ (by decide))
  have hrl := roomy_len hok
  have hol := old_lt hok
  have hsl := hok.1
  have HOK2 := Lib.hid hok2
  have HAD : Hid (addBit s (v % 2) = ((roomy s).set (s.2 / 8) ((roomy s).getD (s.2 / 8) 0 ||| v % 2 * 2 ^ (s.2 % 8)), s.2 + 1)) := rfl
  obtain ⟨l, n⟩ := s
  simp only at *
  obtain ⟨b, hb⟩ : ∃ b, v % 2 = b := ⟨_, rfl⟩
  have hb2 : b < 2 := by omega
  obtain ⟨i, hi⟩ : ∃ i, n / 8 = i := ⟨_, rfl⟩
  obtain ⟨j, hj⟩ : ∃ j, n % 8 = j := ⟨_, rfl⟩
  obtain ⟨sh, hsh⟩ : ∃ sh, b * 2 ^ j = sh := ⟨_, rfl⟩
  have hsh2 : sh < 256 := by rw [← hsh, ← hj]; exact bit_lt256 b n hb2
  rw [hi] at hol hrl
  have hj8 : j < 8 := by omega
  have hin : i ≤ n := by omega
  have f1 : (n : Int) / 8 = (i : Int) := by omega
  have f1' : Int.tdiv (n : Int) 8 = (i : Int) := by rw [← hi]; rfl
  have f2 : (n : Int) % 8 = (j : Int) := by omega
  have f2' : Int.tmod (n : Int) 8 = (j : Int) := by rw [← hj]; rfl
  have f3 : bits .and .u32 (v : Int) 1 = (b : Int) := by rw [and1 v hv, hb]
  have f4 : IntKind.u8.wrap (b : Int) = (b : Int) := by rw [wrap8]; omega
  have f5 : IntKind.u8.wrap ((b : Int) * 2 ^ j) = (sh : Int) := by
    have : (b : Int) * 2 ^ j = (sh : Int) := by rw [← hsh]; simp
    rw [this, wrap8]; omega
  have f7 : IntKind.i64.wrap (i : Int) = (i : Int) := IntWalk.i64_in _ (by omega)
  have f8 : IntKind.i64.wrap (j : Int) = (j : Int) := IntWalk.i64_in _ (by omega)
  rw [hi, hj, hb, hsh] at HAD
  obtain ⟨n1, hn1e⟩ : ∃ n1, n + 1 = n1 := ⟨_, rfl⟩
  have f9 : (n : Int) + 1 = (n1 : Int) := by omega
  have hn1 : n1 ≤ 100000000 := by omega
  rw [hn1e] at HAD
  clear hn1e
  rw [hb] at HOK2
  rw [hb]
  obtain ⟨old, hold⟩ : ∃ old, (roomy (l, n)).getD i 0 = old := ⟨_, rfl⟩
  rw [hold] at HAD hol
  obtain ⟨nw, hnw⟩ : ∃ nw, old ||| sh = nw := ⟨_, rfl⟩
  have f6 : bits .or .u8 (old : Int) (sh : Int) = (nw : Int) := by rw [or8 old sh hol hsh2, hnw]
  rw [hnw] at HAD
  obtain ⟨a, c, h1, h2, h3, h4, h5⟩ := h0
  have hlt : p < w.heap.size := (Array.getElem?_eq_some_iff.1 h1).1
  have hll : l.length ≤ 100000000 := by omega
  clear hsh hnw hok hok2 hi hb hsl
  by_cases hj0 : n % 8 = 0
  · have hRM : Hid (roomy (l, n) = l ++ [0]) := by unfold Hid roomy; rw [if_pos hj0]
    have hjz : j = 0 := by omega
    have t0 : ((j : Int) == 0) = true := beq_iff_eq.2 (by omega)
    have H1 := Lib.hid h1
    have H2 := Lib.hid h2
    have H3 := Lib.hid h3
    have H4 := Lib.hid h4
    have H5 := Lib.hid h5
    obtain ⟨x0, x1, y0, y1⟩ := two_cell h1
    clear h1 h2 h3 h4 h5 hj0 hj hjz
    go_enter Try.func35, Try.ntmps35
    go_wp2_with (at_builtin; refine app1AtN et_u8 rfl (.tmp 14) (.tmp 15) rfl (base := 0) (y := 0) rfl H2.out rfl (Nat.le_refl _) (by omega) (by omega) (by omega) (Nat.zero_le _) ?_; intro a' c' w2 hown hg hnew; have hX := two_cell ((hg.block p hlt (own_ne H2.out (fun g e => (H4.out g e).2) p (Nat.le_refl _))).trans H1.out); obtain ⟨z0, z1, k0, k1⟩ := hX; replace hown := Lib.hid hown; replace hg := Lib.hid hg; replace hnew := Lib.hid hnew)
    have HG := Wr0.grow H1.out H2.out H3.out H4.out H5.out hown.out hg.out hnew.out
    have HO := Lib.hid HG.1
    have HW := Lib.hid HG.2
    clear HG x0 x1 y0 y1 z0 z1 k0 k1 hown hg hnew H1 H2 H3 H4 H5
    generalize w2.setCell ⟨p, 0, none⟩ (.slice a' (l.length + 1) c') = WA at *
    obtain ⟨a2, c2, g1, g2, g3, g4, g5⟩ := HW.out
    obtain ⟨g, rfl, hcl, hfr⟩ : ∃ g, a2 = some ⟨g, 0, none⟩ ∧ WA.cell? ⟨g, i, none⟩ = some (.int .u8 (old : Nat)) ∧ WA.frozen? ⟨g, i, none⟩ = false := by
      obtain ⟨g, he, _, _, hc, hf⟩ := g2.at (i := i) (by rw [hRM.out] at hrl; omega)
      refine ⟨g, he, ?_, hf⟩
      have h9 : (l ++ [0]).getD i 0 = old := by rw [← hold, hRM.out]
      rw [hc, ← h9]
      simp [List.getD, List.getElem?_eq_getElem (show i < (l ++ [0]).length by rw [hRM.out] at hrl; omega)]
    have hi1 : i < l.length + 1 := by rw [hRM.out] at hrl; first | omega | (simp at hrl; omega)
    have hi2 : (i : Int) < ((l.length + 1 : Nat) : Int) := by omega
    have hi3 : (0 : Int) ≤ (i : Int) := by omega
    have hi5 : i ≤ l.length := by omega
    have hi6 : (i : Int) < (l.length : Int) + 1 := by omega
    have hi7 : (i : Int) ≤ (l.length : Int) := by omega
    have hi8 : i < l.length + 1 := by omega
    have G1 := Lib.hid g1
    have G2 := Lib.hid g2
    have G3 := Lib.hid g3
    have G4 := Lib.hid (g4 g rfl)
    have G5 := Lib.hid g5
    obtain ⟨e0, e1, d0, d1⟩ := two_cell g1
    try simp only [List.length_append, List.length_singleton] at e0
    clear HW g1 g2 g3 g4 g5 hrl hol hold
    go_wp2_with fail
    go_still_tail 22, (by kernel_rfl)
    change wpList _ _ _ _ _ WA.drew
    replace G1 := Lib.hid (show WA.drew.heap[p]? = _ from G1.out)
    replace G2 := Lib.hid (show OwnN 5 .u8 WA.drew 0 _ _ _ from G2.out)
    replace G5 := Lib.hid (show ∀ b, WA.drew.heap.size ≤ b → P b from G5.out)
    replace hcl : WA.drew.cell? ⟨g, i, none⟩ = _ := hcl
    replace hfr : WA.drew.frozen? ⟨g, i, none⟩ = false := hfr
    replace e0 : WA.drew.cell? ⟨p, 0, none⟩ = _ := e0
    replace e1 : WA.drew.cell? ⟨p, 1, none⟩ = _ := e1
    replace d0 : WA.drew.frozen? ⟨p, 0, none⟩ = false := d0
    replace d1 : WA.drew.frozen? ⟨p, 1, none⟩ = false := d1
    have HO2 := Lib.hid (show Only P w WA.drew from (HO.out).trans (only_drewN P WA 1))
    generalize WA.drew = W3 at *
    have hpg : ¬ (p = g) := fun e => by have := G4.out.2; omega
    have hpg2 : ¬ (g = p) := fun e => by have := G4.out.2; omega
    go_wp2_with fail
    go_end0
    obtain ⟨k1, k2⟩ := Wr0.store G1.out G2.out G3.out G4.out G5.out i nw n1
    refine ⟨rfl, HO2.out.trans k1, ?_, HOK2.out, ?_⟩
    · rw [HAD.out, hRM.out]
      exact k2
    · rw [HAD.out]
      exact hn1
  · have hRM : Hid (roomy (l, n) = l) := by unfold Hid roomy; rw [if_neg hj0]
    have t0 : ((j : Int) == 0) = false := beq_eq_false_iff_ne.2 (by omega)
    have HW : Hid (Wr0 P w p l n) := ⟨a, c, h1, h2, h3, h4, h5⟩
    obtain ⟨x0, x1, y0, y1⟩ := two_cell h1
    clear h1 h2 h3 h4 h5 hj0 hj
    go_enter Try.func35, Try.ntmps35
    go_wp2_with fail
    clear x0 x1 y0 y1
    obtain ⟨a2, c2, g1, g2, g3, g4, g5⟩ := HW.out
    obtain ⟨g, rfl, hcl, hfr⟩ : ∃ g, a2 = some ⟨g, 0, none⟩ ∧ w.cell? ⟨g, i, none⟩ = some (.int .u8 (old : Nat)) ∧ w.frozen? ⟨g, i, none⟩ = false := by
      obtain ⟨g, he, _, _, hc, hf⟩ := g2.at (i := i) (by rw [hRM.out] at hrl; omega)
      refine ⟨g, he, ?_, hf⟩
      have h9 : (l).getD i 0 = old := by rw [← hold, hRM.out]
      rw [hc, ← h9]
      simp [List.getD, List.getElem?_eq_getElem (show i < (l).length by rw [hRM.out] at hrl; omega)]
    have hi1 : i < l.length := by rw [hRM.out] at hrl; first | omega | (simp at hrl; omega)
    have hi2 : (i : Int) < ((l.length : Nat) : Int) := by omega
    have hi3 : (0 : Int) ≤ (i : Int) := by omega
    have hi5 : i ≤ l.length := by omega
    have hi6 : (i : Int) < (l.length : Int) + 1 := by omega
    have hi7 : (i : Int) ≤ (l.length : Int) := by omega
    have hi8 : i < l.length + 1 := by omega
    have G1 := Lib.hid g1
    have G2 := Lib.hid g2
    have G3 := Lib.hid g3
    have G4 := Lib.hid (g4 g rfl)
    have G5 := Lib.hid g5
    obtain ⟨e0, e1, d0, d1⟩ := two_cell g1
    try simp only [List.length_append, List.length_singleton] at e0
    clear HW g1 g2 g3 g4 g5 hrl hol hold
    go_wp2_with fail
    go_still_tail 22, (by kernel_rfl)
    change wpList _ _ _ _ _ w.drew
    replace G1 := Lib.hid (show w.drew.heap[p]? = _ from G1.out)
    replace G2 := Lib.hid (show OwnN 5 .u8 w.drew 0 _ _ _ from G2.out)
    replace G5 := Lib.hid (show ∀ b, w.drew.heap.size ≤ b → P b from G5.out)
    replace hcl : w.drew.cell? ⟨g, i, none⟩ = _ := hcl
    replace hfr : w.drew.frozen? ⟨g, i, none⟩ = false := hfr
    replace e0 : w.drew.cell? ⟨p, 0, none⟩ = _ := e0
    replace e1 : w.drew.cell? ⟨p, 1, none⟩ = _ := e1
    replace d0 : w.drew.frozen? ⟨p, 0, none⟩ = false := d0
    replace d1 : w.drew.frozen? ⟨p, 1, none⟩ = false := d1
    have HO2 := Lib.hid (show Only P w w.drew from (Only.refl P w).trans (only_drewN P w 1))
    generalize w.drew = W3 at *
    have hpg : ¬ (p = g) := fun e => by have := G4.out.2; omega
    have hpg2 : ¬ (g = p) := fun e => by have := G4.out.2; omega
    go_wp2_with fail
    go_end0
    obtain ⟨k1, k2⟩ := Wr0.store G1.out G2.out G3.out G4.out G5.out i nw n1
    refine ⟨rfl, HO2.out.trans k1, ?_, HOK2.out, ?_⟩
    · rw [HAD.out, hRM.out]
      exact k2
    · rw [HAD.out]
      exact hn1
end Go.Proofs.Ytmgoeokdlklabaa
namespace Go.Proofs.Ytmgoeokdlklabaa
open Go.RowKit Go.Shelf M01
set_option linter.unusedVariables false
theorem Wr.lt {P : Nat → Prop} {w : World} {p : Nat} {s : Wst} (h : Wr P w p s) : p < w.heap.size := h.1.lt
set_option maxRecDepth 100000 in
set_option maxHeartbeats 1600000 in
theorem lsb_put {P : Nat → Prop} {w : World} {p : Nat} {s : Wst} (h : Wr P w p s) (v n : Nat) (hn : n ≤ 32) (hv : v < 2 ^ n) (hs : s.2 + n ≤ 100000000) :
    Calls Try.prog 12 #[.pointer (some ⟨p, 0, none⟩), .int .u32 (v : Nat), .int .i64 (n : Nat)] w fun e w' => e = .returned (.int .i64 0) ∧ Only P w w' ∧ Wr P w' p (addNum s v n) := by
  have H := Lib.hid h
  have hmf : ∀ (fn : Fn) (first cap : Array Value) (w : World), (Instr.makeFunc fn first cap).run Try.prog w = .ok (.func fn first cap) w := fun _ _ _ _ => rfl
  have hp32 : 2 ^ n ≤ 2 ^ 32 := Nat.pow_le_pow_right (by decide) hn
  have hv32 : v < 4294967296 := by omega
  have t1 : decide ((n : Int) < 0) = false := by simp
  have t2 : decide ((32 : Int) < (n : Int)) = false := by simp; omega
  have t3 : (v : Int) / 2 ^ n = 0 := by
    have : (v : Int) / ((2 ^ n : Nat) : Int) = 0 := by rw [← Int.natCast_ediv, Nat.div_eq_of_lt hv]; rfl
    simpa using this
  have HV := Lib.hid hv
  have HP := Lib.hid hp32
  clear h hv hp32
  go_enter Try.func12, Try.ntmps12
  go_wp2_with fail
  go_loopw [29] (fun c A => ∃ k : Nat, k ≤ n ∧ c = .int .i64 (k : Nat) ∧ Only P w A ∧ Wr P A p (addNum s v k)) (fun c _ => n - (intOf c).toNat)
  case atStart => exact ⟨0, by omega, rfl, Only.refl _ _, H.out⟩
  case round =>
    clear H hmf
    obtain ⟨k, hk, rfl, ho, hw⟩ := hrel
    have HO := Lib.hid ho
    have HW := Lib.hid hw
    clear ho hw
    by_cases hlt : k < n
    · obtain ⟨x, hx⟩ : ∃ x, v / 2 ^ k = x := ⟨_, rfl⟩
      have hx2 : x < 4294967296 := by rw [← hx]; exact Nat.lt_of_le_of_lt (Nat.div_le_self _ _) hv32
      have q1 : (v : Int) / 2 ^ k = (x : Int) := by rw [← hx]; simp
      have hk32 : k ≤ 32 := by omega
      have HL := addNum_len s v k
      have HB := Lib.hid (lsb_bit HW.out x hx2 (by omega))
      have HA : Hid (addBit (addNum s v k) (x % 2) = addNum s v (k + 1)) := by unfold Hid; rw [← hx]; rfl
      rw [HA.out] at HB
      clear HL HW hx
      go_wp2_with (go_at_call 35; refine HB.out.mono ?_; rintro e w2 ⟨rfl, ho2, hw2⟩; replace ho2 := Lib.hid ho2; replace hw2 := Lib.hid hw2)
      go_roundw
      case rel => exact ⟨k + 1, by omega, by go_num, HO.out.trans ho2.out, hw2.out⟩
      case measure => simp [intOf]; omega
    · obtain rfl : k = n := by omega
      go_wp2
      go_ret
      exact ⟨rfl, HO.out, HW.out⟩
end Go.Proofs.Ytmgoeokdlklabaa

namespace Go.Proofs.Ytmgoeokdlklabaa
open Go.RowKit Go.Shelf M01 M04 M06
set_option linter.unusedVariables false
def addWord (s : Wst) (x n : Nat) : Nat → Wst
  | 0 => s
  | j + 1 => addNum (addWord s x n j) (x / 2 ^ (n - 1 - j) % 2) 1
def addSym (l : List Nat) (st : Wst) (s : Nat) : Wst := addWord st ((words l).getD s 0) (l.getD s 0) (l.getD s 0)
theorem addWord_len (s : Wst) (x n j : Nat) : (addWord s x n j).2 = s.2 + j := by
  induction j with
  | zero => rfl
  | succ j ih => unfold addWord; rw [addNum_len, ih]; omega
theorem table_bits (w : World) (lo hi p : Nat) (l : List Nat) (s : Nat) (h : Tb lo hi w p l) (hs : s < l.length) (hx : l.getD s 0 ≤ 255) :
    Calls Try.prog 111 #[.pointer (some ⟨p, 0, none⟩), .int .i64 (s : Nat)] w fun e w' => e = .returned (.int .i64 (l.getD s 0 : Nat)) ∧ w' = w := by
  obtain ⟨a1, c1, a2, c2, mb, nn, g1, g2, g3, g4, _⟩ := h
  obtain ⟨b, off, rfl, hb, hck⟩ := g2.at hs
  have hge : l[s] = l.getD s 0 := by simp [List.getD, List.getElem?_eq_getElem hs]
  rw [hge] at hck
  have c0 : w.cell? ⟨p, 0, none⟩ = some (.slice (some ⟨b, off, none⟩) l.length c1) := by simp [World.cell?, g1]
  have t1 : decide (l.length ≤ s) = false := by simp; omega
  have q1 : (0 : Int) ≤ (s : Int) := by omega
  have q2 : (s : Int) < (l.length : Int) := by omega
  generalize l.getD s 0 = x at *
  clear g1 g2 g3 g4 hge hb
  go_enter Try.func111, Try.ntmps111
  go_wp2
  go_ret
  exact ⟨rfl, rfl⟩
set_option maxRecDepth 100000 in
set_option maxHeartbeats 1600000 in
theorem prefix_put {P : Nat → Prop} {w : World} {lo hi tp p : Nat} {l : List Nat} {st : Wst} (hT : Tb lo hi w tp l) (hW : Wr P w p st) (hP : ∀ b, lo ≤ b → b < hi → ¬ P b) (s n : Nat) (hs : s < l.length) (hn : l.getD s 0 = n) (h0 : 0 < n) (h20 : n ≤ 20)
    (hx : (words l).getD s 0 < 4294967296) (hb : st.2 + n ≤ 100000000) :
    Calls Try.prog 78 #[.pointer (some ⟨tp, 0, none⟩), .pointer (some ⟨p, 0, none⟩), .int .i64 (s : Nat), .func (Fn.func 12) #[.pointer (some ⟨p, 0, none⟩)] #[]] w fun e w' =>
      e = .returned (.int .i64 0) ∧ Only P w w' ∧ Wr P w' p (addWord st ((words l).getD s 0) n n) := by
  have HB := Lib.hid (table_bits w lo hi tp l s hT hs (by omega))
  rw [hn] at HB
  obtain ⟨x, hxe⟩ : ∃ x, (words l).getD s 0 = x := ⟨_, rfl⟩
  rw [hxe] at hx ⊢
  have HT := Lib.hid hT
  have HW := Lib.hid hW
  have HP := Lib.hid hP
  have t0 : ((n : Int) == 0) = false := beq_eq_false_iff_ne.2 (by omega)
  obtain ⟨n1, hn1⟩ : ∃ n1, n = n1 + 1 := ⟨n - 1, by omega⟩
  have q0 : (n : Int) - 1 = (n1 : Int) := by omega
  replace hn1 := Lib.hid hn1
  have HXE := Lib.hid hxe
  have hwl := words_length l
  clear hT hW hP hxe
  go_enter Try.func78, Try.ntmps78
  go_wp2_with fail
  refine HB.out.mono ?_
  rintro e w1 ⟨rfl, rfl⟩
  go_wp2_with fail
  go_loopw [10] (fun c A => Only P w1 A ∧ ((∃ r : Nat, c = .int .i64 (r : Nat) ∧ r < n ∧ Wr P A p (addWord st x n (n - 1 - r))) ∨ (c = .int .i64 (-1) ∧ Wr P A p (addWord st x n n)))) (fun c _ => (intOf c + 1).toNat)
  case atStart => exact ⟨Only.refl _ _, .inl ⟨n1, rfl, by have := hn1.out; omega, by rw [show n - 1 - n1 = 0 by have := hn1.out; omega]; exact HW.out⟩⟩
  case round =>
    clear HB q0 t0
    obtain ⟨ho, hrel⟩ := hrel
    have HO := Lib.hid ho
    rcases hrel with ⟨r, rfl, hr, hw⟩ | ⟨rfl, hw⟩
    · have HW2 := Lib.hid hw
      have HT2 := Lib.hid (HT.out.only ho HP.out)
      obtain ⟨a1, c1, a2, c2, mb, nn, g1, g2, g3, g4, _⟩ := HT2.out
      obtain ⟨b, off, rfl, hbb, hck⟩ := g3.at (i := s) (by rw [hwl]; exact hs)
      have hge : (words l)[s]'(by rw [hwl]; exact hs) = x := by rw [← HXE.out]; simp [List.getD, List.getElem?_eq_getElem (show s < (words l).length by rw [hwl]; exact hs)]
      rw [hge] at hck
      have k1 : wr.cell? ⟨tp, 1, none⟩ = some (.slice (some ⟨b, off, none⟩) l.length c2) := by simp [World.cell?, g1]
      obtain ⟨y, hy⟩ : ∃ y, x / 2 ^ r = y := ⟨_, rfl⟩
      have hy2 : y < 4294967296 := by rw [← hy]; exact Nat.lt_of_le_of_lt (Nat.div_le_self _ _) hx
      have q1 : (x : Int) / 2 ^ r = (y : Int) := by rw [← hy]; simp
      obtain ⟨z, hz⟩ : ∃ z, y % 2 = z := ⟨_, rfl⟩
      have q2 : bits .and .u32 (y : Int) 1 = (z : Int) := by rw [and1 y hy2, hz]
      have q3 : (0 : Int) ≤ (s : Int) := by omega
      have q4 : (s : Int) < (l.length : Int) := by omega
      have q5 : (0 : Int) ≤ (r : Int) := by omega
      have hr32 : r ≤ 32 := by omega
      have hll : (addWord st x n (n - 1 - r)).2 + 1 ≤ 100000000 := by rw [addWord_len]; omega
      have HPU := Lib.hid (show Calls Try.prog 12 #[.pointer (some ⟨p, 0, none⟩), .int .u32 (z : Nat), .int .i64 1] wr _ from lsb_put HW2.out z 1 (by decide) (by omega) hll)
      have HA : Hid (addNum (addWord st x n (n - 1 - r)) z 1 = addWord st x n (n - r)) := by
        unfold Hid
        rw [show n - r = (n - 1 - r) + 1 by omega]
        show _ = addNum _ (x / 2 ^ (n - 1 - (n - 1 - r)) % 2) 1
        rw [show n - 1 - (n - 1 - r) = r by omega, hy, hz]
      rw [HA.out] at HPU
      clear ho hw HW2 HT2 g1 g2 g3 g4 hge hll HA hy hz hbb
      go_wp2_with (go_at_call 12; refine HPU.out.mono ?_; rintro e w2 ⟨rfl, ho2, hw2⟩; replace ho2 := Lib.hid ho2; replace hw2 := Lib.hid hw2)
      go_roundw
      case rel =>
        refine ⟨HO.out.trans ho2.out, ?_⟩
        cases r with
        | zero => exact .inr ⟨rfl, hw2.out⟩
        | succ r => exact .inl ⟨r, congrArg (Value.int IntKind.i64) (by omega), by omega, by rw [show n - 1 - r = n - (r + 1) by omega]; exact hw2.out⟩
      case measure => simp [intOf]
    · have HW2 := Lib.hid hw
      clear ho hw
      go_wp2
      go_ret
      exact ⟨rfl, HO.out, HW2.out⟩
theorem prefix_putLow {P : Nat → Prop} {w : World} {lo hi tp p : Nat} {l : List Nat} {st : Wst} (hT : Tb lo hi w tp l) (hW : Wr P w p st) (hP : ∀ b, lo ≤ b → b < hi → ¬ P b) (s : Nat) (hs : s < l.length) (h0 : 0 < l.getD s 0) (h20 : l.getD s 0 ≤ 20)
    (hx : (words l).getD s 0 < 4294967296) (hb : st.2 + l.getD s 0 ≤ 100000000) :
    Calls Try.prog 40 #[.pointer (some ⟨tp, 0, none⟩), .pointer (some ⟨p, 0, none⟩), .int .i64 (s : Nat)] w fun e w' =>
      e = .returned (.int .i64 0) ∧ Only P w w' ∧ Wr P w' p (addSym l st s) := by
  have HC := Lib.hid (prefix_put hT hW hP s _ hs rfl h0 h20 hx hb)
  have hmf : ∀ (fn : Fn) (first cap : Array Value) (w : World), (Instr.makeFunc fn first cap).run Try.prog w = .ok (.func fn first cap) w := fun _ _ _ _ => rfl
  have HD : Hid (addWord st ((words l).getD s 0) (l.getD s 0) (l.getD s 0) = addSym l st s) := rfl
  rw [HD.out] at HC
  clear hT hW hP h0 h20 hx hb
  go_enter Try.func40, Try.ntmps40
  go_wp2_with fail
  refine HC.out.mono ?_
  rintro e w2 ⟨rfl, ho, hw⟩
  have HO := Lib.hid ho
  have HW := Lib.hid hw
  clear ho hw HC
  go_wp2
  go_ret
  exact ⟨rfl, HO.out, HW.out⟩
theorem Wr.below {P : Nat → Prop} {w w' : World} {p : Nat} {s : Wst} (h : Wr P w p s) (hb : Below w.heap.size w w') : Wr P w' p s := by
  have hlt := h.lt
  obtain ⟨⟨a, c, h1, h2, h3, h4, h5⟩, h6⟩ := h
  exact ⟨⟨a, c, (hb.block p hlt).trans h1, h2.below hb, h3, h4, fun b hb' => h5 b (Nat.le_trans hb.size hb')⟩, h6⟩
theorem Wr.narrow {P : Nat → Prop} {w w' : World} {p : Nat} {s : Wst} (h : Wr P w p s) (hb : Below w.heap.size w w') : Wr (Sub P w.heap.size w'.heap.size) w' p s := by
  have hlt := h.lt
  obtain ⟨⟨a, c, h1, h2, h3, h4, h5⟩, h6⟩ := h
  have hz := hb.size
  refine ⟨⟨a, c, (hb.block p hlt).trans h1, h2.below hb, ⟨h3, by omega⟩, fun g hg => ⟨⟨(h4 g hg).1, ?_⟩, (h4 g hg).2⟩, fun b hb' => ⟨h5 b (by omega), by omega⟩⟩, h6⟩
  rcases h2.form with ⟨rfl, _, _⟩ | ⟨g', rfl, _, hg'⟩
  · cases hg
  · cases hg; omega
theorem Wr.widen {P : Nat → Prop} {lo hi : Nat} {w : World} {p : Nat} {s : Wst} (h : Wr (Sub P lo hi) w p s) : Wr P w p s := by
  obtain ⟨⟨a, c, h1, h2, h3, h4, h5⟩, h6⟩ := h
  exact ⟨⟨a, c, h1, h2, h3.1, fun g hg => ⟨(h4 g hg).1.1, (h4 g hg).2⟩, fun b hb => (h5 b hb).1⟩, h6⟩
end Go.Proofs.Ytmgoeokdlklabaa

namespace Go.Proofs.Ytmgoeokdlklabaa
open Go.RowKit
set_option linter.unusedVariables false
def fixN (i : Nat) : Nat := if 143 < i ∧ i < 256 then 9 else if 255 < i ∧ i < 280 then 7 else 8
def partL (f : Nat → Nat) (n k : Nat) : List Nat := (List.range n).map fun i => if i < k then f i else 0
theorem partL_len (f : Nat → Nat) (n k : Nat) : (partL f n k).length = n := by simp [partL]
theorem partL_zero (f : Nat → Nat) (n : Nat) : partL f n 0 = List.replicate n 0 := by
  apply List.ext_getElem?
  intro i
  simp only [partL, List.getElem?_map, List.getElem?_replicate, Nat.not_lt_zero, if_false]
  by_cases h : i < n
  · simp [h]
  · simp [h]
theorem partL_succ (f : Nat → Nat) (n k : Nat) (hk : k < n) : (partL f n k).set k (f k) = partL f n (k + 1) := by
  apply List.ext_getElem?
  intro i
  rw [List.getElem?_set, partL_len]
  unfold partL
  by_cases he : k = i
  · subst he; rw [if_pos rfl, if_pos hk]; simp [hk]
  · rw [if_neg he]
    by_cases h : i < n
    · simp only [List.getElem?_map, List.getElem?_range h, Option.map_some, Option.some.injEq]
      by_cases h2 : i < k
      · rw [if_pos h2, if_pos (by omega)]
      · rw [if_neg h2, if_neg (by omega)]
    · simp [h]
theorem part_at {A : World} {base g n k : Nat} {f : Nat → Nat} (h : OwnN 5 .u8 A base (some ⟨g, 0, none⟩) n (partL f n k)) (s : Nat) (hs : s < n) : (∃ v, A.cell? ⟨g, s, none⟩ = some v) ∧ A.frozen? ⟨g, s, none⟩ = false := by
  obtain ⟨g', he, _, _, hc, hf⟩ := h.at (i := s) (by rw [partL_len]; exact hs)
  simp only [Option.some.injEq, Addr.mk.injEq, and_true] at he
  subst he
  exact ⟨⟨_, hc⟩, hf⟩
theorem part_put {A : World} {base g n k : Nat} {f : Nat → Nat} (h : OwnN 5 .u8 A base (some ⟨g, 0, none⟩) n (partL f n k)) (hk : k < n) : OwnN 5 .u8 (A.setCell ⟨g, k, none⟩ (.int .u8 (f k : Nat))) base (some ⟨g, 0, none⟩) n (partL f n (k + 1)) := by
  rw [← partL_succ f n k hk]
  exact (OwnN.stored h _ _).1
theorem part_put2 {A : World} {base g n k x : Nat} {f : Nat → Nat} (h : OwnN 5 .u8 A base (some ⟨g, 0, none⟩) n (partL f n k)) (hk : k < n) : OwnN 5 .u8 ((A.setCell ⟨g, k, none⟩ (.int .u8 (x : Nat))).setCell ⟨g, k, none⟩ (.int .u8 (f k : Nat))) base (some ⟨g, 0, none⟩) n (partL f n (k + 1)) := by
  rw [← partL_succ f n k hk]
  have := (OwnN.stored (OwnN.stored h k x).1 k (f k)).1
  rwa [List.set_set] at this
end Go.Proofs.Ytmgoeokdlklabaa

namespace Go.Proofs.Ytmgoeokdlklabaa.M10
open M01 M04 M06
set_option linter.unusedVariables false
def decF (F : TF) (bs : List Nat) : Nat → Nat → Nat → Nat → Option (Nat × Nat)
  | 0, _, _, _ => none
  | f + 1, x, k, at_ => match F x k with
    | none => none
    | some s => if 0 ≤ s then some (s.toNat, at_) else if at_ + 1 ≤ 8 * bs.length then decF F bs f (2 * x + bit bs at_) (k + 1) (at_ + 1) else none
def tabOf (l : List Nat) : TF := tabI l (words l) l.length
def sym (l bs : List Nat) (at_ : Nat) : Option (Nat × Nat) := decF (tabOf l) bs 22 0 0 at_
end Go.Proofs.Ytmgoeokdlklabaa.M10

namespace Go.Proofs.Ytmgoeokdlklabaa
open Go.RowKit Go.Shelf M01 M04 M06 M10
set_option linter.unusedVariables false
theorem World.cell?_lt {w : World} {a : Addr} {v : Value} (h : w.cell? a = some v) : a.block < w.heap.size := by
  unfold World.cell? at h
  rcases Nat.lt_or_ge a.block w.heap.size with h1 | h1
  · exact h1
  · rw [Array.getElem?_eq_none h1] at h
    simp at h
end Go.Proofs.Ytmgoeokdlklabaa

namespace Go.Proofs.Ytmgoeokdlklabaa
open Go.RowKit Go.Shelf M04
set_option linter.unusedVariables false
set_option maxRecDepth 100000 in
set_option maxHeartbeats 3200000 in
theorem hdr_may (a b : Option Addr) (ca cb : Nat) (f o : List Nat) (w : World) (h1 : RowN .u8 w a ca f) (h2 : RowN .u8 w b cb o) (hf : f.length ≤ 1000) (ho : o.length ≤ 1000) :
    Calls Try.prog 36 #[.slice a f.length ca, .slice b o.length cb] w fun e w' => e = .returned (.bool (mayH f o)) ∧ w' = w := by
  have HC1 := Lib.hid (u8_contains a ca f w h1)
  have HC2 := Lib.hid (u8_contains b cb o w h2)
  have HK1 := Lib.hid (kraft_classify a ca f w h1)
  have HK2 := Lib.hid (kraft_classify b cb o w h2)
  have HS1 := Lib.hid (kraft_single a ca f w h1)
  have HS2 := Lib.hid (kraft_single b cb o w h2)
  have H1 := Lib.hid h1
  clear h1 h2
  by_cases c1 : f.length < 257
  · have HR : Hid (mayH f o = false) := by unfold Hid mayH; simp; omega
    have t1 : decide ((f.length : Int) < 257) = true := by simp; omega
    clear c1 hf ho
    go_enter Try.func36, Try.ntmps36
    go_wp2
    go_ret
    exact ⟨by rw [HR.out]; rfl, rfl⟩
  have t1 : decide ((f.length : Int) < 257) = false := by simp; omega
  by_cases c2 : 286 < f.length
  · have HR : Hid (mayH f o = false) := by unfold Hid mayH; simp; omega
    have t2 : decide ((286 : Int) < (f.length : Int)) = true := by simp; omega
    clear c1 c2 hf ho
    go_enter Try.func36, Try.ntmps36
    go_wp2
    go_ret
    exact ⟨by rw [HR.out]; rfl, rfl⟩
  have t2 : decide ((286 : Int) < (f.length : Int)) = false := by simp; omega
  by_cases c3 : o.length < 1
  · have HR : Hid (mayH f o = false) := by unfold Hid mayH; simp; omega
    have t3 : decide ((o.length : Int) < 1) = true := by simp; omega
    clear c1 c2 c3 hf ho
    go_enter Try.func36, Try.ntmps36
    go_wp2
    go_ret
    exact ⟨by rw [HR.out]; rfl, rfl⟩
  have t3 : decide ((o.length : Int) < 1) = false := by simp; omega
  by_cases c4 : 30 < o.length
  · have HR : Hid (mayH f o = false) := by unfold Hid mayH; simp; omega
    have t4 : decide ((30 : Int) < (o.length : Int)) = true := by simp; omega
    clear c1 c2 c3 c4 hf ho
    go_enter Try.func36, Try.ntmps36
    go_wp2
    go_ret
    exact ⟨by rw [HR.out]; rfl, rfl⟩
  have t4 : decide ((30 : Int) < (o.length : Int)) = false := by simp; omega
  have hil : 256 < f.length := by omega
  obtain ⟨bl, off, rfl, hbl, hck⟩ := H1.out.at hil
  have hgd : f.getD 256 0 = f[256] := by simp [hil]
  have hq : (256 : Int) < (f.length : Int) := by omega
  have HM : Hid (mayH f o = (decide (f[256] ≠ 0) && !(long f) && !(long o) && (decide ((clsE f).1 = 2) || singleB f) && (decide ((clsE o).1 = 2) || decide ((clsE o).1 = 0) || singleB o))) := by
    have e1 : 257 ≤ f.length := by omega
    have e2 : f.length ≤ 286 := by omega
    have e3 : 1 ≤ o.length := by omega
    have e4 : o.length ≤ 30 := by omega
    unfold Hid mayH
    rw [hgd]
    simp only [e1, e2, e3, e4, decide_true, Bool.true_and]
  clear c1 c2 c3 c4 hf ho hgd H1
  generalize f[256] = x at *
  by_cases c5 : x = 0
  · have HR : Hid (mayH f o = false) := by unfold Hid; rw [HM.out]; simp [c5]
    subst c5
    clear HM
    go_enter Try.func36, Try.ntmps36
    go_wp2
    go_ret
    exact ⟨by rw [HR.out]; rfl, rfl⟩
  have t5 : ((x : Int) == 0) = false := beq_eq_false_iff_ne.2 (by omega)
  have HM2 : Hid (mayH f o = (!(long f) && !(long o) && (decide ((clsE f).1 = 2) || singleB f) && (decide ((clsE o).1 = 2) || decide ((clsE o).1 = 0) || singleB o))) := by
    unfold Hid; rw [HM.out]; simp [c5]
  clear c5 HM
  generalize mayH f o = R at *
  generalize long f = lf at *
  cases lf
  case true =>
    have HR : Hid (R = false) := by unfold Hid; rw [HM2.out]; simp
    clear HM2
    go_enter Try.func36, Try.ntmps36
    go_wp2_with (first | (go_at_call 70; refine HC1.out.mono ?_; rintro e w' ⟨rfl, rfl⟩))
    go_ret
    exact ⟨by rw [HR.out]; rfl, rfl⟩
  generalize long o = lo at *
  cases lo
  case true =>
    have HR : Hid (R = false) := by unfold Hid; rw [HM2.out]; simp
    clear HM2
    go_enter Try.func36, Try.ntmps36
    go_wp2_with (first | (go_at_call 70; refine HC1.out.mono ?_; rintro e w' ⟨rfl, rfl⟩; clear HC1) | (go_at_call 70; refine HC2.out.mono ?_; rintro e w' ⟨rfl, rfl⟩))
    go_ret
    exact ⟨by rw [HR.out]; rfl, rfl⟩
  -- classes
  generalize clsE f = kf at *
  generalize clsE o = ko at *
  generalize singleB f = sf at *
  generalize singleB o = so at *
  obtain ⟨cf, ef⟩ := kf
  obtain ⟨co, eo⟩ := ko
  simp only [] at HM2 HK1 HK2
  by_cases d1 : cf = 2
  · have u1 : ((cf : Int) == 2) = true := by rw [d1]; rfl
    by_cases d2 : co = 2
    · have u3 : ((co : Int) == 2) = true := by rw [d2]; rfl
      have HR : Hid (R = true) := by unfold Hid; rw [HM2.out]; simp_all
      clear HM2
      go_enter Try.func36, Try.ntmps36
      go_wp2_with (first | (go_at_call 70; refine HC1.out.mono ?_; rintro e w' ⟨rfl, rfl⟩; clear HC1) | (go_at_call 70; refine HC2.out.mono ?_; rintro e w' ⟨rfl, rfl⟩; clear HC2) | (go_at_call 56; refine HK1.out.mono ?_; rintro e w' ⟨rfl, rfl⟩; clear HK1) | (go_at_call 56; refine HK2.out.mono ?_; rintro e w' ⟨rfl, rfl⟩; clear HK2) | (go_at_call 71; refine HSF.out.mono ?_; rintro e w' ⟨rfl, rfl⟩; clear HSF) | (go_at_call 71; refine HSO.out.mono ?_; rintro e w' ⟨rfl, rfl⟩; clear HSO))
      go_ret
      exact ⟨by rw [HR.out]; rfl, rfl⟩
    have u3 : ((co : Int) == 2) = false := beq_eq_false_iff_ne.2 (by omega)
    by_cases d0 : co = 0
    · have u4 : ((co : Int) == 0) = true := by rw [d0]; rfl
      have HR : Hid (R = true) := by unfold Hid; rw [HM2.out]; simp_all
      clear HM2
      go_enter Try.func36, Try.ntmps36
      go_wp2_with (first | (go_at_call 70; refine HC1.out.mono ?_; rintro e w' ⟨rfl, rfl⟩; clear HC1) | (go_at_call 70; refine HC2.out.mono ?_; rintro e w' ⟨rfl, rfl⟩; clear HC2) | (go_at_call 56; refine HK1.out.mono ?_; rintro e w' ⟨rfl, rfl⟩; clear HK1) | (go_at_call 56; refine HK2.out.mono ?_; rintro e w' ⟨rfl, rfl⟩; clear HK2) | (go_at_call 71; refine HSF.out.mono ?_; rintro e w' ⟨rfl, rfl⟩; clear HSF) | (go_at_call 71; refine HSO.out.mono ?_; rintro e w' ⟨rfl, rfl⟩; clear HSO))
      go_ret
      exact ⟨by rw [HR.out]; rfl, rfl⟩
    have u4 : ((co : Int) == 0) = false := beq_eq_false_iff_ne.2 (by omega)
    have HSO := HS2
    clear HS2
    have HR : Hid (R = so) := by unfold Hid; rw [HM2.out]; simp_all
    clear HM2
    go_enter Try.func36, Try.ntmps36
    go_wp2_with (first | (go_at_call 70; refine HC1.out.mono ?_; rintro e w' ⟨rfl, rfl⟩; clear HC1) | (go_at_call 70; refine HC2.out.mono ?_; rintro e w' ⟨rfl, rfl⟩; clear HC2) | (go_at_call 56; refine HK1.out.mono ?_; rintro e w' ⟨rfl, rfl⟩; clear HK1) | (go_at_call 56; refine HK2.out.mono ?_; rintro e w' ⟨rfl, rfl⟩; clear HK2) | (go_at_call 71; refine HSF.out.mono ?_; rintro e w' ⟨rfl, rfl⟩; clear HSF) | (go_at_call 71; refine HSO.out.mono ?_; rintro e w' ⟨rfl, rfl⟩; clear HSO))
    go_ret
    exact ⟨by rw [HR.out]; rfl, rfl⟩
  have u1 : ((cf : Int) == 2) = false := beq_eq_false_iff_ne.2 (by omega)
  cases sf
  case false =>
    have HSF := HS1
    clear HS1 HS2
    have HR : Hid (R = false) := by unfold Hid; rw [HM2.out]; simp_all
    clear HM2
    go_enter Try.func36, Try.ntmps36
    go_wp2_with (first | (go_at_call 70; refine HC1.out.mono ?_; rintro e w' ⟨rfl, rfl⟩; clear HC1) | (go_at_call 70; refine HC2.out.mono ?_; rintro e w' ⟨rfl, rfl⟩; clear HC2) | (go_at_call 56; refine HK1.out.mono ?_; rintro e w' ⟨rfl, rfl⟩; clear HK1) | (go_at_call 56; refine HK2.out.mono ?_; rintro e w' ⟨rfl, rfl⟩; clear HK2) | (go_at_call 71; refine HSF.out.mono ?_; rintro e w' ⟨rfl, rfl⟩; clear HSF) | (go_at_call 71; refine HSO.out.mono ?_; rintro e w' ⟨rfl, rfl⟩; clear HSO))
    go_ret
    exact ⟨by rw [HR.out]; rfl, rfl⟩
  have HSF := HS1
  clear HS1
  by_cases d2 : co = 2
  · have u3 : ((co : Int) == 2) = true := by rw [d2]; rfl
    have HR : Hid (R = true) := by unfold Hid; rw [HM2.out]; simp_all
    clear HM2
    go_enter Try.func36, Try.ntmps36
    go_wp2_with (first | (go_at_call 70; refine HC1.out.mono ?_; rintro e w' ⟨rfl, rfl⟩; clear HC1) | (go_at_call 70; refine HC2.out.mono ?_; rintro e w' ⟨rfl, rfl⟩; clear HC2) | (go_at_call 56; refine HK1.out.mono ?_; rintro e w' ⟨rfl, rfl⟩; clear HK1) | (go_at_call 56; refine HK2.out.mono ?_; rintro e w' ⟨rfl, rfl⟩; clear HK2) | (go_at_call 71; refine HSF.out.mono ?_; rintro e w' ⟨rfl, rfl⟩; clear HSF) | (go_at_call 71; refine HSO.out.mono ?_; rintro e w' ⟨rfl, rfl⟩; clear HSO))
    go_ret
    exact ⟨by rw [HR.out]; rfl, rfl⟩
  have u3 : ((co : Int) == 2) = false := beq_eq_false_iff_ne.2 (by omega)
  by_cases d0 : co = 0
  · have u4 : ((co : Int) == 0) = true := by rw [d0]; rfl
    have HR : Hid (R = true) := by unfold Hid; rw [HM2.out]; simp_all
    clear HM2
    go_enter Try.func36, Try.ntmps36
    go_wp2_with (first | (go_at_call 70; refine HC1.out.mono ?_; rintro e w' ⟨rfl, rfl⟩; clear HC1) | (go_at_call 70; refine HC2.out.mono ?_; rintro e w' ⟨rfl, rfl⟩; clear HC2) | (go_at_call 56; refine HK1.out.mono ?_; rintro e w' ⟨rfl, rfl⟩; clear HK1) | (go_at_call 56; refine HK2.out.mono ?_; rintro e w' ⟨rfl, rfl⟩; clear HK2) | (go_at_call 71; refine HSF.out.mono ?_; rintro e w' ⟨rfl, rfl⟩; clear HSF) | (go_at_call 71; refine HSO.out.mono ?_; rintro e w' ⟨rfl, rfl⟩; clear HSO))
    go_ret
    exact ⟨by rw [HR.out]; rfl, rfl⟩
  have u4 : ((co : Int) == 0) = false := beq_eq_false_iff_ne.2 (by omega)
  have HSO := HS2
  clear HS2
  have HR : Hid (R = so) := by unfold Hid; rw [HM2.out]; simp_all
  clear HM2
  go_enter Try.func36, Try.ntmps36
  go_wp2_with (first | (go_at_call 70; refine HC1.out.mono ?_; rintro e w' ⟨rfl, rfl⟩; clear HC1) | (go_at_call 70; refine HC2.out.mono ?_; rintro e w' ⟨rfl, rfl⟩; clear HC2) | (go_at_call 56; refine HK1.out.mono ?_; rintro e w' ⟨rfl, rfl⟩; clear HK1) | (go_at_call 56; refine HK2.out.mono ?_; rintro e w' ⟨rfl, rfl⟩; clear HK2) | (go_at_call 71; refine HSF.out.mono ?_; rintro e w' ⟨rfl, rfl⟩; clear HSF) | (go_at_call 71; refine HSO.out.mono ?_; rintro e w' ⟨rfl, rfl⟩; clear HSO))
  go_ret
  exact ⟨by rw [HR.out]; rfl, rfl⟩
end Go.Proofs.Ytmgoeokdlklabaa

namespace Go.Proofs.Ytmgoeokdlklabaa.M09
open M01 M04 M06 M07 M10
set_option linter.unusedVariables false
def ordL : List Nat := [16, 17, 18, 0, 8, 7, 9, 6, 10, 5, 11, 4, 12, 3, 13, 2, 14, 1, 15]
def lensL (bs : List Nat) (p : Nat) : Nat → List Nat
  | 0 => List.replicate 19 0
  | k + 1 => (lensL bs p k).set (ordL.getD k 0) (num bs (p + 3 * k) 3)
end Go.Proofs.Ytmgoeokdlklabaa.M09

namespace Go.Proofs.Ytmgoeokdlklabaa
open Go.RowKit Go.Shelf M01 M04 M07 M09 M10
set_option linter.unusedVariables false
theorem ord_lt : ∀ k : Fin 19, ordL.getD k.val 0 < 19 := by decide
end Go.Proofs.Ytmgoeokdlklabaa

namespace Go.Proofs.Ytmgoeokdlklabaa
open Go.RowKit M01 M10
set_option linter.unusedVariables false
end Go.Proofs.Ytmgoeokdlklabaa
namespace Go.Proofs.Ytmgoeokdlklabaa
open Go.RowKit M01 M04 M10
set_option linter.unusedVariables false
def hitF (l : List Nat) (x n j : Nat) : Prop := 0 < l.getD j 0 ∧ n ≤ l.getD j 0 ∧ word l j / 2 ^ (l.getD j 0 - n) = x
instance (l : List Nat) (x n j : Nat) : Decidable (hitF l x n j) := by unfold hitF; infer_instance
section
variable {P : Program} {T E : TypeId} {α : Type} {cc : Enc α} {z : Value} {bytes : Nat}
end
end Go.Proofs.Ytmgoeokdlklabaa

namespace Go.Proofs.Ytmgoeokdlklabaa.M07
set_option linter.unusedVariables false
def exS : List Sg → List Nat → Option (List Nat)
  | [], out => some out
  | s :: l, out => if s.1 = 16 ∧ out.length = 0 then none else exS l (out ++ List.replicate (times s) (kOf s.1 out))
theorem exS_append (l m : List Sg) (out : List Nat) : exS (l ++ m) out = (exS l out).bind (exS m) := by
  induction l generalizing out with
  | nil => rfl
  | cons s l ih =>
    simp only [List.cons_append, exS]
    split
    · rfl
    · exact ih _
theorem exS_len (l : List Sg) (out r : List Nat) (h : exS l out = some r) : out.length ≤ r.length := by
  induction l generalizing out with
  | nil => simp [exS] at h; rw [h]; exact Nat.le_refl _
  | cons s l ih =>
    simp only [exS] at h
    split at h
    · cases h
    · have := ih _ h
      rw [List.length_append] at this
      omega
theorem unp_exS (n : Nat) (l : List Sg) (out r : List Nat) (h : exS l out = some r) (hr : r.length = n) : unp n l out = some r := by
  induction l generalizing out with
  | nil => simp [exS] at h; subst h; simp [unp, hr]
  | cons s l ih =>
    simp only [exS] at h
    split at h
    · cases h
    · next h0 =>
      have h1 := exS_len _ _ _ h
      rw [List.length_append, List.length_replicate] at h1
      rw [unp, if_neg h0, if_neg (by omega)]
      exact ih _ h
def runsF : Nat → List Nat → List (Nat × Nat)
  | 0, _ => []
  | _ + 1, [] => []
  | f + 1, a :: l => (a, 1 + (l.takeWhile fun x => x == a).length) :: runsF f (l.dropWhile fun x => x == a)
def runs (l : List Nat) : List (Nat × Nat) := runsF l.length l
theorem dropWhile_len (a : Nat) (l : List Nat) : (l.dropWhile fun x => x == a).length ≤ l.length := (List.dropWhile_sublist _).length_le
theorem runsF_more (f : Nat) : ∀ (l : List Nat) (g : Nat), l.length ≤ f → l.length ≤ g → runsF f l = runsF g l := by
  induction f with
  | zero =>
    intro l g h1 h2
    have : l = [] := List.eq_nil_of_length_eq_zero (by omega)
    subst this
    cases g <;> rfl
  | succ f ih =>
    intro l g h1 h2
    cases l with
    | nil => cases g <;> rfl
    | cons a l =>
      cases g with
      | zero => simp at h2
      | succ g =>
        simp only [List.length_cons] at h1 h2
        have := dropWhile_len a l
        simp only [runsF]
        rw [ih _ g (by omega) (by omega)]
theorem runs_cons (a : Nat) (l : List Nat) : runs (a :: l) = (a, 1 + (l.takeWhile fun x => x == a).length) :: runs (l.dropWhile fun x => x == a) := by
  have := dropWhile_len a l
  unfold runs
  rw [List.length_cons, runsF]
  rw [runsF_more l.length _ (l.dropWhile fun x => x == a).length (by omega) (Nat.le_refl _)]
theorem tw_run (a : Nat) (n : Nat) (l : List Nat) (h : ∀ x, l.head? = some x → x ≠ a) : ((List.replicate n a ++ l).takeWhile fun x => x == a) = List.replicate n a ∧ ((List.replicate n a ++ l).dropWhile fun x => x == a) = l := by
  induction n with
  | zero =>
    cases l with
    | nil => simp
    | cons b l =>
      have := h b rfl
      simp [this]
  | succ n ih =>
    simp only [List.replicate_succ, List.cons_append]
    simp [ih.1, ih.2]
theorem runs_step (l : List Nat) (i n : Nat) (hn : 0 < n) (hi : i + n ≤ l.length) (h : ∀ j, j < n → l.getD (i + j) 0 = l.getD i 0) (hend : i + n = l.length ∨ l.getD (i + n) 0 ≠ l.getD i 0) :
    runs (l.drop i) = (l.getD i 0, n) :: runs (l.drop (i + n)) := by
  have hsp : l.drop i = List.replicate n (l.getD i 0) ++ l.drop (i + n) := by
    apply List.ext_getElem?
    intro j
    by_cases hj : j < n
    · rw [List.getElem?_append_left (by simpa using hj), List.getElem?_replicate, if_pos hj, List.getElem?_drop]
      have := h j hj
      rw [List.getD_eq_getElem?_getD, List.getElem?_eq_getElem (by omega), Option.getD_some] at this
      rw [List.getElem?_eq_getElem (by omega), this]
    · rw [List.getElem?_append_right (by simpa using hj), List.length_replicate, List.getElem?_drop, List.getElem?_drop]
      congr 1; omega
  obtain ⟨m, rfl⟩ : ∃ m, n = m + 1 := ⟨n - 1, by omega⟩
  have hd : ∀ x, (l.drop (i + (m + 1))).head? = some x → x ≠ l.getD i 0 := by
    intro x hx
    rw [List.head?_drop] at hx
    rcases hend with he | he
    · rw [List.getElem?_eq_none (by omega)] at hx; cases hx
    · rw [List.getD_eq_getElem?_getD, hx] at he
      exact he
  rw [hsp, List.replicate_succ, List.cons_append, runs_cons, (tw_run _ m _ hd).1, (tw_run _ m _ hd).2, List.length_replicate, Nat.add_comm]
theorem runs_pos (l : List Nat) : ∀ r ∈ runs l, 0 < r.2 := by
  unfold runs
  generalize l.length = f
  induction f generalizing l with
  | zero => intro r hr; simp [runsF] at hr
  | succ f ih =>
    cases l with
    | nil => intro r hr; simp [runsF] at hr
    | cons a l =>
      intro r hr
      simp only [runsF, List.mem_cons] at hr
      rcases hr with rfl | hr
      · show 0 < 1 + _; omega
      · exact ih _ r hr
def unrun (r : List (Nat × Nat)) : List Nat := r.flatMap fun x => List.replicate x.2 x.1
theorem runs_unrun (l : List Nat) : unrun (runs l) = l := by
  unfold runs
  have : ∀ f (l : List Nat), l.length ≤ f → unrun (runsF f l) = l := by
    intro f
    induction f with
    | zero =>
      intro l h
      have : l = [] := List.eq_nil_of_length_eq_zero (by omega)
      subst this; rfl
    | succ f ih =>
      intro l h
      cases l with
      | nil => rfl
      | cons a l =>
        have h1 := dropWhile_len a l
        simp only [List.length_cons] at h
        have h2 := ih (l.dropWhile fun x => x == a) (by omega)
        have h3 : l.takeWhile (fun x => x == a) = List.replicate (l.takeWhile fun x => x == a).length a := by
          apply List.eq_replicate_of_mem
          intro x hx
          have := List.all_eq_true.1 (List.all_takeWhile (l := l) (p := fun x => x == a)) x hx
          simpa using this
        unfold unrun at *
        simp only [runsF, List.flatMap_cons, h2]
        rw [Nat.add_comm, List.replicate_succ, ← h3, List.cons_append, List.takeWhile_append_dropWhile]
  exact this _ _ (Nat.le_refl _)
def pickS (k m : Nat) : Sg := if k = 0 ∧ 11 ≤ m then (18, min m 138 - 11) else if k = 0 ∧ 3 ≤ m then (17, m - 3) else if 3 ≤ m then (16, min m 6 - 3) else (k, 0)
theorem pickS_times (k m : Nat) (hk : k ≤ 15) (hm : 0 < m) : times (pickS k m) ≤ m ∧ 1 ≤ times (pickS k m) ∧ SgOk (pickS k m) := by
  unfold pickS
  split
  · next h => simp only [times, SgOk, rbits]; simp; omega
  · split
    · next h1 h => simp only [times, SgOk, rbits]; simp; omega
    · split
      · next h1 h2 h => simp only [times, SgOk, rbits]; simp; omega
      · next h1 h2 h =>
        simp only [times, SgOk, rbits]
        rw [if_pos (by omega), if_neg (by omega), if_neg (by omega), if_neg (by omega)]
        simp; omega
theorem pickS_k (k m : Nat) (hk : k ≤ 15) (o : List Nat) (ho : k ≠ 0 → ∃ o', o = o' ++ [k]) : ¬ ((pickS k m).1 = 16 ∧ o.length = 0 ∧ k ≠ 0) ∧ (k ≠ 0 ∨ m < 3 ∨ (pickS k m).1 ≠ 16) ∧ ((pickS k m).1 = 16 → k ≠ 0) ∧ kOf (pickS k m).1 o = k := by
  unfold pickS
  have hlast : k ≠ 0 → o.getD (o.length - 1) 0 = k ∧ o.length ≠ 0 := by
    intro h
    obtain ⟨o', rfl⟩ := ho h
    simp
  split
  · next h => refine ⟨by simp, by simp, by simp, ?_⟩; unfold kOf; simp; omega
  · split
    · next h1 h => refine ⟨by simp, by simp, by simp, ?_⟩; unfold kOf; simp; omega
    · split
      · next h1 h2 h =>
        have hk0 : k ≠ 0 := by omega
        obtain ⟨h3, h4⟩ := hlast hk0
        refine ⟨by simp [h4], .inl hk0, fun _ => hk0, ?_⟩
        unfold kOf; simp only [if_true]; exact h3
      · next h1 h2 h =>
        refine ⟨by simp; omega, by omega, by simp; omega, ?_⟩
        unfold kOf
        rw [if_neg (by show ¬ k = 16; omega), if_neg (by show ¬ 16 < k; omega)]
def packM (k : Nat) : Nat → Nat → List Sg
  | 0, _ => []
  | f + 1, m => if m = 0 then [] else pickS k m :: packM k f (m - times (pickS k m))
theorem packM_more (k : Nat) (hk : k ≤ 15) : ∀ f g m, m ≤ f → m ≤ g → packM k f m = packM k g m := by
  intro f
  induction f with
  | zero =>
    intro g m h1 h2
    obtain rfl : m = 0 := by omega
    cases g <;> simp [packM]
  | succ f ih =>
    intro g m h1 h2
    cases g with
    | zero =>
      obtain rfl : m = 0 := by omega
      simp [packM]
    | succ g =>
      simp only [packM]
      split
      · rfl
      · next h0 =>
        have := pickS_times k m hk (by omega)
        rw [ih g _ (by omega) (by omega)]
def packK (k m : Nat) : List Sg := packM k m m
theorem packK_step (k m : Nat) (hk : k ≤ 15) (hm : 0 < m) : packK k m = pickS k m :: packK k (m - times (pickS k m)) := by
  obtain ⟨n, rfl⟩ : ∃ n, m = n + 1 := ⟨m - 1, by omega⟩
  have := pickS_times k (n + 1) hk hm
  unfold packK
  rw [packM, if_neg (by omega), packM_more k hk n (n + 1 - times (pickS k (n + 1))) _ (by omega) (Nat.le_refl _)]
def packR (r : Nat × Nat) : List Sg := if 0 < r.1 then (r.1, 0) :: packK r.1 (r.2 - 1) else packK 0 r.2
def pack (l : List Nat) : List Sg := (runs l).flatMap packR
theorem packK_ex (k : Nat) (hk : k ≤ 15) : ∀ m (o : List Nat), (k ≠ 0 → ∃ o', o = o' ++ [k]) → exS (packK k m) o = some (o ++ List.replicate m k) ∧ (∀ s ∈ packK k m, SgOk s) ∧ (packK k m).length ≤ m := by
  intro m
  induction m using Nat.strongRecOn with
  | ind m ih =>
    intro o ho
    by_cases hm : m = 0
    · subst hm
      simp [packK, packM, exS]
    · have h1 := pickS_times k m hk (by omega)
      have h2 := pickS_k k m hk o ho
      rw [packK_step k m hk (by omega)]
      have h3 := ih (m - times (pickS k m)) (by omega) (o ++ List.replicate (times (pickS k m)) k) (fun h => ⟨o ++ List.replicate (times (pickS k m) - 1) k, by
        rw [List.append_assoc]
        congr 1
        rw [show [k] = List.replicate 1 k from rfl, List.replicate_append_replicate, show times (pickS k m) - 1 + 1 = times (pickS k m) by omega]⟩)
      refine ⟨?_, ?_, ?_⟩
      · rw [exS, if_neg, h2.2.2.2, h3.1, List.append_assoc, List.replicate_append_replicate, show times (pickS k m) + (m - times (pickS k m)) = m by omega]
        rintro ⟨h4, h5⟩
        exact h2.1 ⟨h4, h5, h2.2.2.1 h4⟩
      · intro s hs
        rcases List.mem_cons.1 hs with rfl | hs
        · exact h1.2.2
        · exact h3.2.1 s hs
      · rw [List.length_cons]
        have := h3.2.2
        omega
theorem packR_ex (r : Nat × Nat) (hk : r.1 ≤ 15) (hn : 0 < r.2) (o : List Nat) : exS (packR r) o = some (o ++ List.replicate r.2 r.1) ∧ (∀ s ∈ packR r, SgOk s) ∧ (packR r).length ≤ r.2 := by
  unfold packR
  split
  · next h0 =>
    have h1 := packK_ex r.1 hk (r.2 - 1) (o ++ [r.1]) (fun _ => ⟨o, rfl⟩)
    refine ⟨?_, ?_, ?_⟩
    · have ht : times (r.1, 0) = 1 := by unfold times; rw [if_pos (by show r.1 < 16; omega)]
      have hk2 : kOf r.1 o = r.1 := by unfold kOf; rw [if_neg (by omega), if_neg (by omega)]
      rw [exS, if_neg (by show ¬ (r.1 = 16 ∧ _); omega), ht]
      show exS (packK r.1 (r.2 - 1)) (o ++ List.replicate 1 (kOf r.1 o)) = _
      rw [hk2, show List.replicate 1 r.1 = [r.1] from rfl, h1.1, List.append_assoc]
      congr 2
      rw [show [r.1] = List.replicate 1 r.1 from rfl, List.replicate_append_replicate, show 1 + (r.2 - 1) = r.2 by omega]
    · intro s hs
      rcases List.mem_cons.1 hs with rfl | hs
      · unfold SgOk rbits
        refine ⟨by show r.1 ≤ 18; omega, ?_⟩
        show 0 < 2 ^ _
        exact Nat.pos_of_ne_zero (by simp)
      · exact h1.2.1 s hs
    · rw [List.length_cons]; have := h1.2.2; omega
  · next h0 =>
    have hr : r.1 = 0 := by omega
    have h1 := packK_ex 0 (by omega) r.2 o (fun h => absurd rfl h)
    rw [hr]
    exact h1
theorem packs_ex (rs : List (Nat × Nat)) (hk : ∀ r ∈ rs, r.1 ≤ 15) (hn : ∀ r ∈ rs, 0 < r.2) : ∀ o, exS (rs.flatMap packR) o = some (o ++ unrun rs) ∧ (∀ s ∈ rs.flatMap packR, SgOk s) ∧ (rs.flatMap packR).length ≤ (unrun rs).length := by
  induction rs with
  | nil => intro o; simp [exS, unrun]
  | cons r rs ih =>
    intro o
    have h1 := packR_ex r (hk r (by simp)) (hn r (by simp)) o
    have h2 := ih (fun x hx => hk x (by simp [hx])) (fun x hx => hn x (by simp [hx])) (o ++ List.replicate r.2 r.1)
    unfold unrun at *
    simp only [List.flatMap_cons]
    refine ⟨?_, ?_, ?_⟩
    · rw [exS_append, h1.1, Option.bind_some, h2.1, List.append_assoc]
    · intro s hs
      rcases List.mem_append.1 hs with hs | hs
      · exact h1.2.1 s hs
      · exact h2.2.1 s hs
    · rw [List.length_append, List.length_append, List.length_replicate]
      have := h1.2.2; have := h2.2.2; omega
theorem runs_mem (l : List Nat) (h : ∀ x ∈ l, x ≤ 15) : ∀ r ∈ runs l, r.1 ≤ 15 := by
  intro r hr
  have h1 := runs_pos l r hr
  refine h r.1 ?_
  rw [← runs_unrun l]
  unfold unrun
  rw [List.mem_flatMap]
  exact ⟨r, hr, List.mem_replicate.2 ⟨by omega, rfl⟩⟩
theorem pack_unp (l : List Nat) (h : ∀ x ∈ l, x ≤ 15) : unp l.length (pack l) [] = some l ∧ (∀ s ∈ pack l, SgOk s) ∧ (pack l).length ≤ l.length := by
  have h1 := packs_ex (runs l) (runs_mem l h) (runs_pos l) []
  rw [runs_unrun, List.nil_append] at h1
  exact ⟨unp_exS _ _ _ _ h1.1 rfl, h1.2⟩
end Go.Proofs.Ytmgoeokdlklabaa.M07

namespace Go.Proofs.Ytmgoeokdlklabaa
open Go.RowKit Go.Shelf M04 M05
attribute [local go_sem] Oper.semAt_some
set_option linter.unusedVariables false
set_option linter.unusedSimpArgs false
def lstF (f : List Nat) : Nat → Int
  | 0 => -1
  | k + 1 => if 0 < f.getD k 0 then (k : Int) else lstF f k
def fstF (f : List Nat) : Nat → Nat → Int
  | _, 0 => -1
  | k, n + 1 => if 0 < f.getD k 0 then (k : Int) else fstF f (k + 1) n
set_option maxRecDepth 100000 in
theorem last_index (a : Option Addr) (cap : Nat) (l : List Nat) (w : World) (hr : RowN .i64 w a cap l) (hl : l.length ≤ 100000) :
    Calls Try.prog 76 #[.slice a l.length cap] w fun e w' => e = .returned (.int .i64 (lstF l l.length)) ∧ w' = w := by
  obtain ⟨T, hT⟩ : ∃ T, lstF l l.length = T := ⟨_, rfl⟩
  have HT := Lib.hid hT
  rw [hT]
  clear hT
  go_enter Try.func76, Try.ntmps76
  go_wp2_with fail
  go_loop [2, 3] (fun _ i => ∃ k : Nat, k ≤ l.length ∧ i = .int .i64 ((k : Int) - 1) ∧ lstF l k = T) (fun _ i => (intOf i + 1).toNat)
  case atStart => exact ⟨l.length, Nat.le_refl _, by go_num, HT.out⟩
  case round =>
    clear HT
    obtain ⟨k, hk, rfl, ht⟩ := hrel
    have HT := Lib.hid ht
    clear ht
    by_cases h0 : 0 < k
    · obtain ⟨j, rfl⟩ : ∃ j, k = j + 1 := ⟨k - 1, by omega⟩
      have hj : j < l.length := by omega
      obtain ⟨b, off, rfl, hb, hck⟩ := hr.at hj
      have hg : l.getD j 0 = l[j] := by rw [List.getD_eq_getElem?_getD, List.getElem?_eq_getElem hj]; rfl
      have HT2 := Lib.hid (show (if 0 < l.getD j 0 then (j : Int) else lstF l j) = T from HT.out)
      rw [hg] at HT2
      clear hr HT hg h0
      have e1 : ((j + 1 : Nat) : Int) - 1 = (j : Int) := by omega
      rw [e1]
      have qj : (j : Int) < (l.length : Int) := by omega
      have b0 : decide ((0 : Int) ≤ (j : Int)) = true := by simp
      clear e1
      generalize l[j] = x at *
      by_cases hx : 0 < x
      · have b1 : decide (0 < x) = true := by simpa using hx
        rw [if_pos hx] at HT2
        clear hx
        go_wp2
        go_ret
        exact ⟨by rw [← HT2.out]; rfl, rfl⟩
      · have b1 : decide (0 < x) = false := by simpa using hx
        rw [if_neg hx] at HT2
        clear hx
        go_wp2
        go_round
        case rel => exact ⟨j, by omega, by go_num, HT2.out⟩
        case measure => simp [intOf]
    · obtain rfl : k = 0 := by omega
      have HT2 := Lib.hid (show (-1 : Int) = T from HT.out)
      clear HT h0
      have b0 : decide ((0 : Int) ≤ ((0 : Nat) : Int) - 1) = false := rfl
      go_wp2
      go_ret
      exact ⟨by rw [← HT2.out]; rfl, rfl⟩
set_option maxRecDepth 100000 in
theorem sign_pos (x : Nat) (w : World) : Calls Try.prog 75 #[.int .i64 (x : Nat)] w fun e w' => e = .returned (.bool (decide (0 < x))) ∧ w' = w := by
  go_enter Try.func75, Try.ntmps75
  go_wp2
  go_ret
  simp
set_option maxRecDepth 100000 in
theorem first_index (a : Option Addr) (cap : Nat) (l : List Nat) (w : World) (hr : RowN .i64 w a cap l) :
    Calls Try.prog 74 #[.slice a l.length cap, .func (Fn.func 75) #[] #[]] w fun e w' => e = .returned (.int .i64 (fstF l 0 l.length)) ∧ w' = w := by
  have hlen := hr.len
  obtain ⟨T, hT⟩ : ∃ T, fstF l 0 l.length = T := ⟨_, rfl⟩
  have HT := Lib.hid hT
  rw [hT]
  clear hT
  go_enter Try.func74, Try.ntmps74
  go_wp2_with fail
  go_loop [5, 8] (fun _ i => ∃ k : Nat, k ≤ l.length ∧ i = .int .i64 k ∧ fstF l k (l.length - k) = T) (fun _ i => l.length - (intOf i).toNat)
  case atStart => exact ⟨0, by omega, rfl, HT.out⟩
  case round =>
    clear HT
    obtain ⟨k, hk, rfl, ht⟩ := hrel
    have HT := Lib.hid ht
    clear ht
    by_cases hlt : k < l.length
    · obtain ⟨b, off, rfl, hb, hck⟩ := hr.at hlt
      clear hr
      have hg : l.getD k 0 = l[k] := by rw [List.getD_eq_getElem?_getD, List.getElem?_eq_getElem hlt]; rfl
      obtain ⟨m, hm⟩ : ∃ m, l.length - k = m + 1 := ⟨l.length - k - 1, by omega⟩
      have HT2 := Lib.hid (show (if 0 < l.getD k 0 then (k : Int) else fstF l (k + 1) m) = T from by have := HT.out; rw [hm] at this; exact this)
      have HM := Lib.hid (show m = l.length - (k + 1) from by omega)
      rw [hg] at HT2
      clear hm HT hg
      generalize l[k] = x at *
      by_cases hx : 0 < x
      · have hd : decide (0 < x) = true := by simpa using hx
        rw [if_pos hx] at HT2
        clear hx
        go_wp2_with (go_at_call 75; refine (sign_pos x _).mono ?_; rintro e w' ⟨rfl, rfl⟩; rw [hd])
        go_ret
        exact ⟨by rw [← HT2.out]; rfl, rfl⟩
      · have hd : decide (0 < x) = false := by simpa using hx
        rw [if_neg hx] at HT2
        clear hx
        go_wp2_with (go_at_call 75; refine (sign_pos x _).mono ?_; rintro e w' ⟨rfl, rfl⟩; rw [hd])
        go_round
        case rel => exact ⟨k + 1, by omega, by go_num, by rw [← HM.out]; exact HT2.out⟩
        case measure => simp [intOf]; omega
    · have b1 : decide (k < l.length) = false := by simp; omega
      have HT2 := Lib.hid (show (-1 : Int) = T from by have := HT.out; rw [show l.length - k = 0 by omega] at this; exact this)
      clear HT
      go_wp2
      go_ret
      exact ⟨by rw [← HT2.out]; rfl, rfl⟩
end Go.Proofs.Ytmgoeokdlklabaa
namespace Go.Proofs.Ytmgoeokdlklabaa.M01
open M04 M06 M10
set_option linter.unusedVariables false
theorem bit_test (bs : List Nat) (i : Nat) : bit bs i = ((bs.getD (i / 8) 0).testBit (i % 8)).toNat := by
  unfold bit; rw [Nat.toNat_testBit]
theorem bit_out (bs : List Nat) (i : Nat) (h : 8 * bs.length ≤ i) : bit bs i = 0 := by
  unfold bit
  rw [List.getD_eq_getElem?_getD, List.getElem?_eq_none (by omega)]; simp
def WZ (s : Wst) : Prop := ∀ i, s.2 ≤ i → bit s.1 i = 0
def ExtW (s s' : Wst) : Prop := s.2 ≤ s'.2 ∧ ∀ i, i < s.2 → bit s'.1 i = bit s.1 i
theorem ExtW.refl (s : Wst) : ExtW s s := ⟨Nat.le_refl _, fun _ _ => rfl⟩
theorem ExtW.trans {s t u : Wst} (h : ExtW s t) (h2 : ExtW t u) : ExtW s u :=
  ⟨Nat.le_trans h.1 h2.1, fun i hi => (h2.2 i (Nat.lt_of_lt_of_le hi h.1)).trans (h.2 i hi)⟩
theorem bit_roomy (s : Wst) (i : Nat) : bit (roomy s) i = bit s.1 i := by
  unfold roomy
  split
  · unfold bit
    congr 2
    rw [List.getD_eq_getElem?_getD, List.getD_eq_getElem?_getD]
    by_cases h : i / 8 < s.1.length
    · rw [List.getElem?_append_left h]
    · rw [List.getElem?_eq_none (l := s.1) (by omega)]
      by_cases h2 : i / 8 = s.1.length
      · rw [h2, List.getElem?_concat_length]; rfl
      · rw [List.getElem?_eq_none (by simp; omega)]
  · rfl
theorem bit_addBit {s : Wst} (h : WOk s) (hz : WZ s) {b : Nat} (hb : b < 2) (i : Nat) : bit (addBit s b).1 i = if i = s.2 then b else bit s.1 i := by
  have hl := roomy_len h
  rw [← bit_roomy s i]
  show bit ((roomy s).set (s.2 / 8) ((roomy s).getD (s.2 / 8) 0 ||| b * 2 ^ (s.2 % 8))) i = _
  by_cases h8 : i / 8 = s.2 / 8
  · rw [bit_test]
    have hget : ((roomy s).set (s.2 / 8) ((roomy s).getD (s.2 / 8) 0 ||| b * 2 ^ (s.2 % 8))).getD (i / 8) 0 = (roomy s).getD (i / 8) 0 ||| b * 2 ^ (s.2 % 8) := by
      rw [h8, List.getD_eq_getElem?_getD, List.getElem?_set_self (by omega)]; rfl
    rw [hget, Nat.testBit_or]
    have hb2 : (b * 2 ^ (s.2 % 8)).testBit (i % 8) = (decide (b = 1) && decide (s.2 % 8 = i % 8)) := by
      rcases (show b = 0 ∨ b = 1 by omega) with rfl | rfl
      · simp
      · rw [Nat.one_mul, Nat.testBit_two_pow]; simp
    rw [hb2]
    by_cases hi : i = s.2
    · subst hi
      have h0 := hz s.2 (Nat.le_refl _)
      rw [← bit_roomy s, bit_test] at h0
      have h1 : ((roomy s).getD (s.2 / 8) 0).testBit (s.2 % 8) = false := by
        cases hc : ((roomy s).getD (s.2 / 8) 0).testBit (s.2 % 8)
        · rfl
        · rw [hc] at h0; cases h0
      rw [h1, if_pos rfl]
      rcases (show b = 0 ∨ b = 1 by omega) with rfl | rfl <;> simp
    · rw [if_neg hi, bit_test]
      have hm : ¬ s.2 % 8 = i % 8 := by omega
      simp [hm]
  · rw [if_neg (fun e => h8 (by rw [e]))]
    unfold bit
    congr 2
    rw [List.getD_eq_getElem?_getD, List.getElem?_set_ne (fun e => h8 e.symm), ← List.getD_eq_getElem?_getD]
theorem addBit_ext {s : Wst} (h : WOk s) (hz : WZ s) {b : Nat} (hb : b < 2) : WZ (addBit s b) ∧ ExtW s (addBit s b) ∧ bit (addBit s b).1 s.2 = b := by
  have h2 : (addBit s b).2 = s.2 + 1 := rfl
  refine ⟨fun i hi => ?_, ⟨by omega, fun i hi => ?_⟩, ?_⟩
  · rw [bit_addBit h hz hb, if_neg (by omega)]; exact hz i (by omega)
  · rw [bit_addBit h hz hb, if_neg (by omega)]
  · rw [bit_addBit h hz hb, if_pos rfl]
theorem addNum_ext {s : Wst} (h : WOk s) (hz : WZ s) (v n : Nat) : WZ (addNum s v n) ∧ ExtW s (addNum s v n) ∧ ∀ j, j < n → bit (addNum s v n).1 (s.2 + j) = v / 2 ^ j % 2 := by
  induction n with
  | zero => exact ⟨hz, .refl _, fun j hj => absurd hj (by omega)⟩
  | succ n ih =>
    obtain ⟨i1, i2, i3⟩ := ih
    obtain ⟨a1, a2, a3⟩ := addBit_ext (addNum_ok h v n) i1 (show v / 2 ^ n % 2 < 2 from Nat.mod_lt _ (by decide))
    refine ⟨a1, i2.trans a2, fun j hj => ?_⟩
    show bit (addBit (addNum s v n) (v / 2 ^ n % 2)).1 (s.2 + j) = _
    by_cases hjn : j = n
    · subst hjn
      rw [addNum_len] at a3; exact a3
    · rw [a2.2 _ (by rw [addNum_len]; omega)]; exact i3 j (by omega)
theorem addWord_ext {s : Wst} (h : WOk s) (hz : WZ s) (x n : Nat) : ∀ m, m ≤ n → WOk (addWord s x n m) ∧ WZ (addWord s x n m) ∧ ExtW s (addWord s x n m) ∧ ∀ j, j < m → bit (addWord s x n m).1 (s.2 + j) = x / 2 ^ (n - 1 - j) % 2 := by
  intro m
  induction m with
  | zero => intro _; exact ⟨h, hz, .refl _, fun j hj => absurd hj (by omega)⟩
  | succ m ih =>
    intro hm
    obtain ⟨i0, i1, i2, i3⟩ := ih (by omega)
    obtain ⟨a1, a2, a3⟩ := addNum_ext i0 i1 (x / 2 ^ (n - 1 - m) % 2) 1
    refine ⟨addNum_ok i0 _ _, a1, i2.trans a2, fun j hj => ?_⟩
    show bit (addNum (addWord s x n m) (x / 2 ^ (n - 1 - m) % 2) 1).1 (s.2 + j) = _
    by_cases hjn : j = m
    · subst hjn
      have := a3 0 (by omega)
      rw [addWord_len] at this
      simpa using this
    · rw [a2.2 _ (by rw [addWord_len]; omega)]; exact i3 j (by omega)
theorem addSym_ext {s : Wst} (h : WOk s) (hz : WZ s) (l : List Nat) (c : Nat) : WOk (addSym l s c) ∧ WZ (addSym l s c) ∧ ExtW s (addSym l s c) ∧ (addSym l s c).2 = s.2 + l.getD c 0 := by
  obtain ⟨a, b, d, _⟩ := addWord_ext h hz ((words l).getD c 0) (l.getD c 0) _ (Nat.le_refl _)
  exact ⟨a, b, d, addWord_len _ _ _ _⟩
end Go.Proofs.Ytmgoeokdlklabaa.M01
namespace Go.Proofs.Ytmgoeokdlklabaa.M09
open M01 M04 M05 M06 M07 M10
set_option linter.unusedVariables false
def sgC (l : List Sg) : List Nat := (List.range 19).map fun c => (l.map fun s => s.1).count c
theorem sgC_len (l : List Sg) : (sgC l).length = 19 := by simp [sgC]
theorem sgC_get (l : List Sg) (c : Nat) (h : c < 19) : (sgC l).getD c 0 = (l.map fun s => s.1).count c := by
  rw [List.getD_eq_getElem?_getD, List.getElem?_eq_getElem (by rw [sgC_len]; exact h)]; simp [sgC]
theorem sgC_snoc (l : List Sg) (s : Sg) (hs : s.1 < 19) : sgC (l ++ [s]) = (sgC l).set s.1 ((sgC l).getD s.1 0 + 1) := by
  apply List.ext_getElem
  · simp [sgC]
  · intro i h1 h2
    rw [sgC_len] at h1
    have g : ∀ l' : List Sg, ∀ h : i < (sgC l').length, (sgC l')[i] = (l'.map fun s => s.1).count i := by intro l' h; simp [sgC]
    rw [g, List.getElem_set, g, sgC_get l s.1 hs]
    rw [List.map_append, List.count_append]
    by_cases hi : s.1 = i
    · rw [if_pos hi, hi]; simp [hi]
    · rw [if_neg hi]; simp [hi]
theorem sgC_le (l : List Sg) : ∀ x ∈ sgC l, x ≤ l.length := by
  intro x hx
  unfold sgC at hx
  obtain ⟨c, _, rfl⟩ := List.mem_map.1 hx
  have := List.count_le_length (a := c) (l := l.map fun s => s.1)
  rw [List.length_map] at this; exact this
def sg1 (f : List Nat) (i : Nat) : List Nat := f.set i (f.getD i 0 + 1)
def sgI (f : List Nat) : Nat → List Nat
  | 0 => f
  | i + 1 => sg1 (sgI f i) i
def oneB (f : List Nat) : Bool := fstF f 0 f.length == lstF f f.length
def sgN (f : List Nat) : Nat := if oneB (sgI f 0) = true then (if oneB (sgI f 1) = true then 2 else 1) else 0
def sgF (f : List Nat) : List Nat := sgI f (sgN f)
theorem sgI_len (f : List Nat) (i : Nat) : (sgI f i).length = f.length := by
  induction i with
  | zero => rfl
  | succ i ih => show ((sgI f i).set i _).length = _; rw [List.length_set, ih]
theorem sgI_get (f : List Nat) (i c : Nat) (hi : i ≤ f.length) : (sgI f i).getD c 0 = f.getD c 0 + if c < i then 1 else 0 := by
  induction i with
  | zero => simp [sgI]
  | succ i ih =>
    show ((sgI f i).set i ((sgI f i).getD i 0 + 1)).getD c 0 = _
    rw [List.getD_eq_getElem?_getD]
    by_cases h : c = i
    · subst h
      rw [List.getElem?_set_self (by rw [sgI_len]; omega), if_pos (by omega), ih (by omega), if_neg (by omega)]
      rfl
    · rw [List.getElem?_set_ne (fun e => h e.symm), ← List.getD_eq_getElem?_getD, ih (by omega)]
      by_cases h2 : c < i
      · rw [if_pos h2, if_pos (by omega)]
      · rw [if_neg h2, if_neg (by omega)]
theorem lstF_ge (f : List Nat) (n c : Nat) (hc : c < n) (h : 0 < f.getD c 0) : (c : Int) ≤ lstF f n := by
  induction n with
  | zero => omega
  | succ n ih =>
    unfold lstF
    split
    · omega
    · next hn =>
      by_cases hcn : c = n
      · subst hcn; exact absurd h hn
      · exact ih (by omega)
theorem lstF_mem (f : List Nat) (n : Nat) : lstF f n = -1 ∨ ∃ c : Nat, lstF f n = c ∧ c < n ∧ 0 < f.getD c 0 := by
  induction n with
  | zero => exact .inl rfl
  | succ n ih =>
    unfold lstF
    split
    · next h => exact .inr ⟨n, rfl, by omega, h⟩
    · rcases ih with h | ⟨c, h1, h2, h3⟩
      · exact .inl h
      · exact .inr ⟨c, h1, by omega, h3⟩
theorem fstF_mem (f : List Nat) (n k : Nat) : fstF f k n = -1 ∨ ∃ c : Nat, fstF f k n = c ∧ k ≤ c ∧ c < k + n ∧ 0 < f.getD c 0 := by
  induction n generalizing k with
  | zero => exact .inl rfl
  | succ n ih =>
    unfold fstF
    split
    · next h => exact .inr ⟨k, rfl, by omega, by omega, h⟩
    · rcases ih (k + 1) with h | ⟨c, h1, h2, h3, h4⟩
      · exact .inl h
      · exact .inr ⟨c, h1, by omega, by omega, h4⟩
theorem fstF_le (f : List Nat) (n k c : Nat) (h1 : k ≤ c) (h2 : c < k + n) (h : 0 < f.getD c 0) : fstF f k n ≤ (c : Int) := by
  induction n generalizing k with
  | zero => omega
  | succ n ih =>
    unfold fstF
    split
    · omega
    · next hn =>
      by_cases hck : c = k
      · subst hck; exact absurd h hn
      · exact ih (k + 1) (by omega) (by omega)
theorem oneB_two (f : List Nat) (a b : Nat) (hab : a < b) (hb : b < f.length) (ha : 0 < f.getD a 0) (hb0 : 0 < f.getD b 0) : oneB f = false := by
  unfold oneB
  have h1 := fstF_le f f.length 0 a (by omega) (by omega) ha
  have h2 := lstF_ge f f.length b hb hb0
  exact beq_eq_false_iff_ne.2 (by omega)
theorem oneB_sg2 (f : List Nat) (h : 2 ≤ f.length) : oneB (sgI f 2) = false :=
  oneB_two _ 0 1 (by omega) (by rw [sgI_len]; omega) (by rw [sgI_get f 2 0 h]; simp) (by rw [sgI_get f 2 1 h]; simp)
theorem sgN_le (f : List Nat) : sgN f ≤ 2 := by unfold sgN; split <;> (try split) <;> omega
theorem oneB_sgF (f : List Nat) (h : 2 ≤ f.length) : oneB (sgF f) = false := by
  unfold sgF sgN
  by_cases h0 : oneB (sgI f 0) = true
  · rw [if_pos h0]
    by_cases h1 : oneB (sgI f 1) = true
    · rw [if_pos h1]; exact oneB_sg2 f h
    · rw [if_neg h1]; simpa using h1
  · rw [if_neg h0]; simpa using h0
theorem two_of_oneB (f : List Nat) (h : oneB f = false) : 2 ≤ (used f).length := by
  unfold oneB at h
  have h := beq_eq_false_iff_ne.1 h
  rcases fstF_mem f f.length 0 with h1 | ⟨a, h1, _, h2, h3⟩
  · rcases lstF_mem f f.length with h4 | ⟨b, h4, h5, h6⟩
    · exact absurd (h1.trans h4.symm) h
    · have h7 : ∀ n k, k ≤ b → b < k + n → fstF f k n ≠ -1 := by
        intro n
        induction n with
        | zero => intro k g1 g2; omega
        | succ n ih =>
          intro k g1 g2
          unfold fstF
          split
          · omega
          · next hn =>
            by_cases e : b = k
            · subst e; exact absurd h6 hn
            · exact ih (k + 1) (by omega) (by omega)
      exact absurd h1 (h7 f.length 0 (by omega) (by omega))
  · rcases lstF_mem f f.length with h4 | ⟨b, h4, h5, h6⟩
    · have := lstF_ge f f.length a (by omega) h3; omega
    · have hab : a ≠ b := fun e => h (by rw [h1, h4, e])
      have ha : a ∈ used f := by unfold used; simp; exact ⟨by omega, by simpa [List.getD_eq_getElem?_getD] using h3⟩
      have hb : b ∈ used f := by unfold used; simp; exact ⟨by omega, by simpa [List.getD_eq_getElem?_getD] using h6⟩
      match hu : used f with
      | [] => rw [hu] at ha; cases ha
      | [x] =>
        rw [hu] at ha hb
        exact absurd ((List.mem_singleton.1 ha).trans (List.mem_singleton.1 hb).symm) hab
      | _ :: _ :: _ => simp
theorem used_le (f : List Nat) : (used f).length ≤ f.length := by
  have := List.length_filter_le (fun s => decide (0 < f.getD s 0)) (List.range f.length)
  rw [List.length_range] at this; exact this
def sgLens (l : List Sg) : List Nat := limL (sgF (sgC l)) 7
theorem sgF_len (l : List Sg) : (sgF (sgC l)).length = 19 := by unfold sgF; rw [sgI_len, sgC_len]
theorem sgF_rar (l : List Sg) : 2 ≤ (rar (sgF (sgC l))).length ∧ (rar (sgF (sgC l))).length ≤ 19 := by
  have h1 := (rar_perm (sgF (sgC l))).length_eq
  have h2 := two_of_oneB _ (oneB_sgF (sgC l) (by rw [sgC_len]; decide))
  have h3 := used_le (sgF (sgC l))
  rw [sgF_len] at h3
  omega
theorem sgLens_len (l : List Sg) : (sgLens l).length = 19 := by unfold sgLens; rw [limL_len, sgF_len]
theorem sgLens_weight (l : List Sg) : weight (sgLens l) = 2 ^ 20 :=
  limL_full _ 7 (by decide) (by decide) (sgF_rar l).1 (by have := (sgF_rar l).2; omega)
theorem sgLens_bound (l : List Sg) (c : Nat) (hc : c < 19) : (sgLens l).getD c 0 ≤ 7 ∧ ((sgLens l).getD c 0 = 0 ↔ (sgF (sgC l)).getD c 0 = 0) := by
  unfold sgLens
  rw [limL_get _ _ _ (by rw [sgF_len]; exact hc)]
  exact limS_bound _ 7 c (by decide) (by have := (sgF_rar l).2; omega) (by rw [sgF_len]; exact hc)
theorem sgLens_le7 (l : List Sg) : ∀ x ∈ sgLens l, x ≤ 7 := by
  intro x hx
  obtain ⟨c, hc, rfl⟩ := List.getElem_of_mem hx
  have hc' := hc
  rw [sgLens_len] at hc'
  have := (sgLens_bound l c hc').1
  rw [List.getD_eq_getElem?_getD, List.getElem?_eq_getElem hc] at this
  exact this
theorem sgLens_pos (l : List Sg) (s : Sg) (hs : s ∈ l) (h18 : s.1 ≤ 18) : 0 < (sgLens l).getD s.1 0 := by
  have h1 := (sgLens_bound l s.1 (by omega)).2
  have h2 : 0 < (sgF (sgC l)).getD s.1 0 := by
    unfold sgF
    rw [sgI_get _ _ _ (by have := sgN_le (sgC l); rw [sgC_len]; omega), sgC_get l _ (by omega)]
    have h3 : 0 < (l.map fun s => s.1).count s.1 := List.count_pos_iff.2 (List.mem_map.2 ⟨s, hs, rfl⟩)
    omega
  omega
def cutN (lens : List Nat) : Nat → Nat
  | 0 => 0
  | n + 1 => if 4 < n + 1 ∧ lens.getD (ordL.getD n 0) 0 = 0 then cutN lens n else n + 1
theorem cutN_le (lens : List Nat) (n : Nat) : cutN lens n ≤ n := by
  induction n with
  | zero => exact Nat.le_refl _
  | succ n ih => unfold cutN; split <;> omega
theorem cutN_ge (lens : List Nat) (n : Nat) (h : 4 ≤ n) : 4 ≤ cutN lens n := by
  induction n with
  | zero => omega
  | succ n ih => unfold cutN; split <;> omega
def put3 (lens : List Nat) (s : Wst) : Nat → Wst
  | 0 => s
  | k + 1 => addNum (put3 lens s k) (lens.getD (ordL.getD k 0) 0) 3
def putS (lens : List Nat) (s : Wst) (g : Sg) : Wst := addNum (addSym lens s g.1) g.2 (rbits g.1)
def putsS (lens : List Nat) (s : Wst) (l : List Sg) : Wst := l.foldl (putS lens) s
def put14 (s : Wst) (a b n : Nat) : Wst := addNum (addNum (addNum s (a - 257) 5) (b - 1) 5) (n - 4) 4
def hputL (s : Wst) (a b : Nat) (l : List Sg) (lens : List Nat) : Wst := putsS lens (put3 lens (put14 s a b (cutN lens 19)) (cutN lens 19)) l
def hputW (s : Wst) (f o : List Nat) : Wst := hputL s f.length o.length (pack (f ++ o)) (sgLens (pack (f ++ o)))
def WG (s : Wst) : Prop := WOk s ∧ WZ s
theorem addNum_g {s : Wst} (h : WG s) (v n : Nat) : WG (addNum s v n) ∧ ExtW s (addNum s v n) := by
  obtain ⟨a, b, _⟩ := addNum_ext h.1 h.2 v n
  exact ⟨⟨addNum_ok h.1 v n, a⟩, b⟩
theorem put3_g {s : Wst} (h : WG s) (lens : List Nat) (k : Nat) : WG (put3 lens s k) ∧ ExtW s (put3 lens s k) ∧ (put3 lens s k).2 = s.2 + 3 * k := by
  induction k with
  | zero => exact ⟨h, .refl _, rfl⟩
  | succ k ih =>
    obtain ⟨a, b, c⟩ := ih
    obtain ⟨d, e⟩ := addNum_g a (lens.getD (ordL.getD k 0) 0) 3
    exact ⟨d, b.trans e, by show (addNum _ _ 3).2 = _; rw [addNum_len, c]; omega⟩
theorem putS_g {s : Wst} (h : WG s) (lens : List Nat) (g : Sg) : WG (putS lens s g) ∧ ExtW s (putS lens s g) ∧ (putS lens s g).2 = s.2 + lens.getD g.1 0 + rbits g.1 := by
  obtain ⟨a, b, c, d⟩ := addSym_ext h.1 h.2 lens g.1
  obtain ⟨e, f⟩ := addNum_g ⟨a, b⟩ g.2 (rbits g.1)
  exact ⟨e, c.trans f, by show (addNum _ _ _).2 = _; rw [addNum_len, d]⟩
theorem mayH_facts {f o : List Nat} (h : mayH f o = true) : 257 ≤ f.length ∧ f.length ≤ 286 ∧ 1 ≤ o.length ∧ o.length ≤ 30 ∧ (∀ x ∈ f, x ≤ 15) ∧ (∀ x ∈ o, x ≤ 15) := by
  unfold mayH at h
  simp only [Bool.and_eq_true, decide_eq_true_eq, Bool.not_eq_true'] at h
  obtain ⟨⟨⟨⟨⟨⟨⟨⟨h1, h2⟩, h3⟩, h4⟩, _⟩, h5⟩, h6⟩, _⟩, _⟩ := h
  refine ⟨h1, h2, h3, h4, ?_, ?_⟩
  · intro x hx
    unfold long at h5
    simp at h5
    exact h5 x hx
  · intro x hx
    unfold long at h6
    simp at h6
    exact h6 x hx
theorem put14_g {s : Wst} (h : WG s) (a b n : Nat) : WG (put14 s a b n) ∧ ExtW s (put14 s a b n) ∧ (put14 s a b n).2 = s.2 + 14 := by
  obtain ⟨a1, a2⟩ := addNum_g h (a - 257) 5
  obtain ⟨b1, b2⟩ := addNum_g a1 (b - 1) 5
  obtain ⟨c1, c2⟩ := addNum_g b1 (n - 4) 4
  exact ⟨c1, (a2.trans b2).trans c2, by unfold put14; rw [addNum_len, addNum_len, addNum_len]⟩
theorem putsS_len (lens : List Nat) (hl : ∀ x ∈ lens, x ≤ 7) : ∀ (l : List Sg) (s : Wst), WG s → (putsS lens s l).2 ≤ s.2 + 14 * l.length := by
  intro l
  induction l with
  | nil => intro s _; exact Nat.le_refl _
  | cons g l ih =>
    intro s h
    obtain ⟨p1, _, p3⟩ := putS_g h lens g
    have := ih (putS lens s g) p1
    have h2 := M04.getD_le hl g.1
    have h3 : rbits g.1 ≤ 7 := by unfold rbits; split <;> (try split) <;> (try split) <;> omega
    rw [p3] at this
    show (putsS lens (putS lens s g) l).2 ≤ _
    rw [List.length_cons]
    omega
theorem hputW_len {s : Wst} (h : WG s) (f o : List Nat) (h15 : ∀ x ∈ f ++ o, x ≤ 15) : (hputW s f o).2 ≤ s.2 + 14 + 57 + 14 * (f.length + o.length) := by
  obtain ⟨u1, u2, u3⟩ := pack_unp (f ++ o) h15
  rw [List.length_append] at u3
  unfold hputW hputL
  obtain ⟨p1, p2, p3⟩ := put14_g h f.length o.length (cutN (sgLens (pack (f ++ o))) 19)
  obtain ⟨q1, q2, q3⟩ := put3_g p1 (sgLens (pack (f ++ o))) (cutN (sgLens (pack (f ++ o))) 19)
  have := putsS_len (sgLens (pack (f ++ o))) (sgLens_le7 _) (pack (f ++ o)) _ q1
  have hc := cutN_le (sgLens (pack (f ++ o))) 19
  omega
theorem empty_g : WG ([], 0) := ⟨⟨rfl, by simp⟩, fun i _ => bit_out [] i (by simp)⟩
end Go.Proofs.Ytmgoeokdlklabaa.M09
