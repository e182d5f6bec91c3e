/- Layer 1: laying bits: plain mathematics, and the contracts of lsb.Writer (bit, Put, Bytes). -/
import Derived.Test.YtmgoeokdlklabaaGen
import Derived.Test.YtmgoeokdlklabaaM01
import Derived.StillTailTactics

/- Plain mathematics of layer 1: laying bits. -/
namespace Go.Proofs.Ytmgoeokdlklabaa.M01
set_option linter.unusedVariables false

/-- bytes, and how many bits -/
abbrev Wst := List Nat × Nat
def roomy (s : Wst) : List Nat := if s.2 % 8 = 0 then s.1 ++ [0] else s.1
/-- one bit more -/
def addBit (s : Wst) (b : Nat) : Wst := ((roomy s).set (s.2 / 8) ((roomy s).getD (s.2 / 8) 0 ||| b * 2 ^ (s.2 % 8)), s.2 + 1)
def WOk (s : Wst) : Prop := s.1.length = (s.2 + 7) / 8 ∧ ∀ x ∈ s.1, x < 256
theorem roomy_len {s : Wst} (h : WOk s) : (roomy s).length = s.2 / 8 + 1 := by
  obtain ⟨h1, _⟩ := h
  unfold roomy
  split
  · simp; omega
  · omega
theorem roomy_byte {s : Wst} (h : WOk s) : ∀ x ∈ roomy s, x < 256 := by
  intro x hx
  unfold roomy at hx
  split at hx
  · rcases List.mem_append.1 hx with h1 | h1
    · exact h.2 x h1
    · simp at h1; omega
  · exact h.2 x hx
theorem old_lt {s : Wst} (h : WOk s) : (roomy s).getD (s.2 / 8) 0 < 256 := by
  have hl := roomy_len h
  simp only [List.getD, List.getElem?_eq_getElem (show s.2 / 8 < (roomy s).length by omega), Option.getD_some]
  exact roomy_byte h _ (List.getElem_mem _)
theorem bit_lt256 (b n : Nat) (hb : b < 2) : b * 2 ^ (n % 8) < 256 := by
  have h1 : 2 ^ (n % 8) ≤ 2 ^ 7 := Nat.pow_le_pow_right (by decide) (by omega)
  have h2 : b * 2 ^ (n % 8) ≤ 1 * 2 ^ (n % 8) := Nat.mul_le_mul_right _ (by omega)
  omega
theorem addBit_ok {s : Wst} (h : WOk s) {b : Nat} (hb : b < 2) : WOk (addBit s b) := by
  have hl := roomy_len h
  refine ⟨?_, fun x hx => ?_⟩
  · unfold addBit
    simp only [List.length_set, hl]
    omega
  · unfold addBit at hx
    rcases List.mem_or_eq_of_mem_set hx with h1 | rfl
    · exact roomy_byte h x h1
    · exact Nat.or_lt_two_pow (n := 8) (old_lt h) (bit_lt256 b s.2 hb)
/-- a number of n bits -/
def addNum (s : Wst) (v : Nat) : Nat → Wst
  | 0 => s
  | n + 1 => addBit (addNum s v n) (v / 2 ^ n % 2)
theorem addNum_ok {s : Wst} (h : WOk s) (v n : Nat) : WOk (addNum s v n) := by
  induction n with
  | zero => exact h
  | succ n ih => exact addBit_ok ih (Nat.mod_lt _ (by decide))
theorem addNum_len (s : Wst) (v n : Nat) : (addNum s v n).2 = s.2 + n := by
  induction n with
  | zero => rfl
  | succ n ih => show (addNum s v n).2 + 1 = _; omega
end Go.Proofs.Ytmgoeokdlklabaa.M01

/- lsb.Writer: contracts. -/
namespace Go.Proofs.Ytmgoeokdlklabaa
open Go.RowKit Go.Shelf M01
set_option linter.unusedVariables false

/-- a writer's two cells and its row: P holds of the blocks that it may write -/
def Wr0 (P : Nat → Prop) (w : World) (p : Nat) (l : List Nat) (n : Nat) : Prop :=
  ∃ a c, w.heap[p]? = some (.cells #[.slice a l.length c, .int .i64 (n : Nat)] 24 (0, 0)) ∧ OwnN 5 .u8 w 0 a c l ∧ P p ∧ (∀ g, a = some ⟨g, 0, none⟩ → P g ∧ p < g) ∧ (∀ b, w.heap.size ≤ b → P b)
def Wr (P : Nat → Prop) (w : World) (p : Nat) (s : Wst) : Prop := Wr0 P w p s.1 s.2 ∧ WOk s ∧ s.2 ≤ 100000000
theorem Wr0.lt {P : Nat → Prop} {w : World} {p n : Nat} {l : List Nat} (h : Wr0 P w p l n) : p < w.heap.size := by
  obtain ⟨a, c, h1, _⟩ := h
  exact (Array.getElem?_eq_some_iff.1 h1).1
theorem Wr0.grow {P : Nat → Prop} {w w2 : World} {p n : Nat} {l : List Nat} {a a' : Option Addr} {c c' y : Nat}
    (h1 : w.heap[p]? = some (.cells #[.slice a l.length c, .int .i64 (n : Nat)] 24 (0, 0))) (h2 : OwnN 5 .u8 w 0 a c l) (h3 : P p) (h4 : ∀ g, a = some ⟨g, 0, none⟩ → P g ∧ p < g) (h5 : ∀ b, w.heap.size ≤ b → P b)
    (hown : OwnN 5 .u8 w2 0 a' c' (l ++ [y])) (hg : w.grownBy w2 (Value.slice a l.length c).ownBlock) (hnew : ∀ g, a' = some ⟨g, 0, none⟩ → a = some ⟨g, 0, none⟩ ∨ w.heap.size ≤ g) :
    Only P w (w2.setCell ⟨p, 0, none⟩ (.slice a' (l.length + 1) c')) ∧ Wr0 P (w2.setCell ⟨p, 0, none⟩ (.slice a' (l.length + 1) c')) p (l ++ [y]) n := by
  have hlt : p < w.heap.size := (Array.getElem?_eq_some_iff.1 h1).1
  have hX : w2.heap[p]? = _ := (hg.block p hlt (own_ne h2 (fun g e => (h4 g e).2) p (Nat.le_refl _))).trans h1
  have ho2 : Only P w w2 := (Only.refl P w).grown hg (fun r hr => by
    rcases h2.form with ⟨rfl, _, _⟩ | ⟨g, rfl, _⟩
    · simp [Value.ownBlock] at hr
    · simp [Value.ownBlock] at hr
      subst hr
      exact .inl (h4 _ rfl).1)
  have hO := ho2.setCell (p := ⟨p, 0, none⟩) (.inl h3) (.slice a' (l.length + 1) c')
  have hps : ∀ g, a' = some ⟨g, 0, none⟩ → P g ∧ p < g := fun g e => by
    rcases hnew g e with h | h
    · exact h4 g h
    · exact ⟨h5 g h, by omega⟩
  exact ⟨hO, a', c', by rw [(two_set hX).1]; simp, hown.other (fun g e => by have := (hps g e).2; show p ≠ g; omega) _, h3, hps, fun b hb => h5 b (Nat.le_trans hO.size hb)⟩
theorem Wr0.store {P : Nat → Prop} {w : World} {p n g c : Nat} {l : List Nat} (h1 : w.heap[p]? = some (.cells #[.slice (some ⟨g, 0, none⟩) l.length c, .int .i64 (n : Nat)] 24 (0, 0)))
    (h2 : OwnN 5 .u8 w 0 (some ⟨g, 0, none⟩) c l) (h3 : P p) (h4 : P g ∧ p < g) (h5 : ∀ b, w.heap.size ≤ b → P b) (i x : Nat) (m : Nat) :
    Only P w ((w.setCell ⟨g, i, none⟩ (.int .u8 (x : Nat))).setCell ⟨p, 1, none⟩ (.int .i64 (m : Nat))) ∧ Wr0 P ((w.setCell ⟨g, i, none⟩ (.int .u8 (x : Nat))).setCell ⟨p, 1, none⟩ (.int .i64 (m : Nat))) p (l.set i x) m := by
  have hO := ((Only.refl P w).setCell (p := ⟨g, i, none⟩) (.inl h4.1) (.int .u8 (x : Nat))).setCell (p := ⟨p, 1, none⟩) (.inl h3) (.int .i64 (m : Nat))
  have hX : (w.setCell ⟨g, i, none⟩ (.int .u8 (x : Nat))).heap[p]? = _ := (Below.heap_setCell _ _ _ _ (by show p ≠ g; omega)).trans h1
  refine ⟨hO, some ⟨g, 0, none⟩, c, ?_, ?_, h3, fun g' e => by cases e; exact h4, fun b hb => h5 b (Nat.le_trans hO.size hb)⟩
  · rw [(two_set hX).2, List.length_set]
  · exact ((h2.stored i x).1).other (fun g' e => by cases e; show p ≠ g; omega) _
theorem wrap8 (n : Int) : IntKind.u8.wrap n = n % 256 := by simp [IntKind.wrap, IntKind.bits, IntKind.signed]
theorem or8 (a b : Nat) (ha : a < 256) (hb : b < 256) : bits .or .u8 (a : Int) (b : Int) = ((a ||| b : Nat) : Int) := by
  have h1 : (BitVec.ofInt 8 (a : Int)).toNat = a := by
    rw [BitVec.ofInt_natCast, BitVec.toNat_ofNat]; exact Nat.mod_eq_of_lt (by omega)
  have h2 : (BitVec.ofInt 8 (b : Int)).toNat = b := by
    rw [BitVec.ofInt_natCast, BitVec.toNat_ofNat]; exact Nat.mod_eq_of_lt (by omega)
  have h3 : a ||| b < 256 := Nat.or_lt_two_pow (n := 8) ha hb
  show IntKind.u8.wrap ((BitVec.ofInt 8 (a : Int) ||| BitVec.ofInt 8 (b : Int)).toNat : Int) = _
  rw [BitVec.toNat_or, h1, h2, wrap8]
  omega
theorem and1 (v : Nat) (hv : v < 4294967296) : bits .and .u32 (v : Int) 1 = ((v % 2 : Nat) : Int) := by
  have h1 : (BitVec.ofInt 32 (v : Int)).toNat = v := by
    rw [BitVec.ofInt_natCast, BitVec.toNat_ofNat]; exact Nat.mod_eq_of_lt (by omega)
  have h2 : (BitVec.ofInt 32 (1 : Int)).toNat = 1 := by decide
  show IntKind.u32.wrap ((BitVec.ofInt 32 (v : Int) &&& BitVec.ofInt 32 (1 : Int)).toNat : Int) = _
  rw [BitVec.toNat_and, h1, h2, Nat.and_one_is_mod]
  have : IntKind.u32.wrap ((v % 2 : Nat) : Int) = ((v % 2 : Nat) : Int) % 4294967296 := by simp [IntKind.wrap, IntKind.bits, IntKind.signed]
  rw [this]
  omega

set_option maxRecDepth 100000 in
set_option maxHeartbeats 1600000 in
theorem lsb_bit {P : Nat → Prop} {w : World} {p : Nat} {s : Wst} (h : Wr P w p s) (v : Nat) (hv : v < 4294967296) (hn : s.2 < 100000000) :
    Calls Try.prog 35 #[.pointer (some ⟨p, 0, none⟩), .int .u32 (v : Nat)] w fun e w' => e = .returned (.tuple #[]) ∧ Only P w w' ∧ Wr P w' p (addBit s (v % 2)) := by
  obtain ⟨h0, hok, hbd⟩ := h
  have hok2 := addBit_ok hok (b := v % 2) (Nat.mod_lt _ (by decide))
  have hrl := roomy_len hok
  have hol := old_lt hok
  have hsl := hok.1
  have HOK2 := Lib.hid hok2
  have HAD : Hid (addBit s (v % 2) = ((roomy s).set (s.2 / 8) ((roomy s).getD (s.2 / 8) 0 ||| v % 2 * 2 ^ (s.2 % 8)), s.2 + 1)) := rfl
  obtain ⟨l, n⟩ := s
  simp only at *
  obtain ⟨b, hb⟩ : ∃ b, v % 2 = b := ⟨_, rfl⟩
  have hb2 : b < 2 := by omega
  obtain ⟨i, hi⟩ : ∃ i, n / 8 = i := ⟨_, rfl⟩
  obtain ⟨j, hj⟩ : ∃ j, n % 8 = j := ⟨_, rfl⟩
  obtain ⟨sh, hsh⟩ : ∃ sh, b * 2 ^ j = sh := ⟨_, rfl⟩
  have hsh2 : sh < 256 := by rw [← hsh, ← hj]; exact bit_lt256 b n hb2
  rw [hi] at hol hrl
  have hj8 : j < 8 := by omega
  have hin : i ≤ n := by omega
  have f1 : (n : Int) / 8 = (i : Int) := by omega
  have f1' : Int.tdiv (n : Int) 8 = (i : Int) := by rw [← hi]; rfl
  have f2 : (n : Int) % 8 = (j : Int) := by omega
  have f2' : Int.tmod (n : Int) 8 = (j : Int) := by rw [← hj]; rfl
  have f3 : bits .and .u32 (v : Int) 1 = (b : Int) := by rw [and1 v hv, hb]
  have f4 : IntKind.u8.wrap (b : Int) = (b : Int) := by rw [wrap8]; omega
  have f5 : IntKind.u8.wrap ((b : Int) * 2 ^ j) = (sh : Int) := by
    have : (b : Int) * 2 ^ j = (sh : Int) := by rw [← hsh]; simp
    rw [this, wrap8]; omega
  have f7 : IntKind.i64.wrap (i : Int) = (i : Int) := IntWalk.i64_in _ (by omega)
  have f8 : IntKind.i64.wrap (j : Int) = (j : Int) := IntWalk.i64_in _ (by omega)
  rw [hi, hj, hb, hsh] at HAD
  obtain ⟨n1, hn1e⟩ : ∃ n1, n + 1 = n1 := ⟨_, rfl⟩
  have f9 : (n : Int) + 1 = (n1 : Int) := by omega
  have hn1 : n1 ≤ 100000000 := by omega
  rw [hn1e] at HAD
  clear hn1e
  rw [hb] at HOK2
  rw [hb]
  obtain ⟨old, hold⟩ : ∃ old, (roomy (l, n)).getD i 0 = old := ⟨_, rfl⟩
  rw [hold] at HAD hol
  obtain ⟨nw, hnw⟩ : ∃ nw, old ||| sh = nw := ⟨_, rfl⟩
  have f6 : bits .or .u8 (old : Int) (sh : Int) = (nw : Int) := by rw [or8 old sh hol hsh2, hnw]
  rw [hnw] at HAD
  obtain ⟨a, c, h1, h2, h3, h4, h5⟩ := h0
  have hlt : p < w.heap.size := (Array.getElem?_eq_some_iff.1 h1).1
  have hll : l.length ≤ 100000000 := by omega
  clear hsh hnw hok hok2 hi hb hsl
  by_cases hj0 : n % 8 = 0
  · have hRM : Hid (roomy (l, n) = l ++ [0]) := by unfold Hid roomy; rw [if_pos hj0]
    have hjz : j = 0 := by omega
    have t0 : ((j : Int) == 0) = true := beq_iff_eq.2 (by omega)
    have H1 := Lib.hid h1
    have H2 := Lib.hid h2
    have H3 := Lib.hid h3
    have H4 := Lib.hid h4
    have H5 := Lib.hid h5
    obtain ⟨x0, x1, y0, y1⟩ := two_cell h1
    clear h1 h2 h3 h4 h5 hj0 hj hjz
    go_enter Try.func35, Try.ntmps35
    go_wp2_with (at_builtin; refine app1AtN et_u8 rfl (.tmp 14) (.tmp 15) rfl (base := 0) (y := 0) rfl H2.out rfl (Nat.le_refl _) (by omega) (by omega) (by omega) (Nat.zero_le _) ?_; intro a' c' w2 hown hg hnew; have hX := two_cell ((hg.block p hlt (own_ne H2.out (fun g e => (H4.out g e).2) p (Nat.le_refl _))).trans H1.out); obtain ⟨z0, z1, k0, k1⟩ := hX; replace hown := Lib.hid hown; replace hg := Lib.hid hg; replace hnew := Lib.hid hnew)
    have HG := Wr0.grow H1.out H2.out H3.out H4.out H5.out hown.out hg.out hnew.out
    have HO := Lib.hid HG.1
    have HW := Lib.hid HG.2
    clear HG x0 x1 y0 y1 z0 z1 k0 k1 hown hg hnew H1 H2 H3 H4 H5
    generalize w2.setCell ⟨p, 0, none⟩ (.slice a' (l.length + 1) c') = WA at *
    obtain ⟨a2, c2, g1, g2, g3, g4, g5⟩ := HW.out
    obtain ⟨g, rfl, hcl, hfr⟩ : ∃ g, a2 = some ⟨g, 0, none⟩ ∧ WA.cell? ⟨g, i, none⟩ = some (.int .u8 (old : Nat)) ∧ WA.frozen? ⟨g, i, none⟩ = false := by
      obtain ⟨g, he, _, _, hc, hf⟩ := g2.at (i := i) (by rw [hRM.out] at hrl; omega)
      refine ⟨g, he, ?_, hf⟩
      have h9 : (l ++ [0]).getD i 0 = old := by rw [← hold, hRM.out]
      rw [hc, ← h9]
      simp [List.getD, List.getElem?_eq_getElem (show i < (l ++ [0]).length by rw [hRM.out] at hrl; omega)]
    have hi1 : i < l.length + 1 := by rw [hRM.out] at hrl; first | omega | (simp at hrl; omega)
    have hi2 : (i : Int) < ((l.length + 1 : Nat) : Int) := by omega
    have hi3 : (0 : Int) ≤ (i : Int) := by omega
    have hi5 : i ≤ l.length := by omega
    have hi6 : (i : Int) < (l.length : Int) + 1 := by omega
    have hi7 : (i : Int) ≤ (l.length : Int) := by omega
    have hi8 : i < l.length + 1 := by omega
    have G1 := Lib.hid g1
    have G2 := Lib.hid g2
    have G3 := Lib.hid g3
    have G4 := Lib.hid (g4 g rfl)
    have G5 := Lib.hid g5
    obtain ⟨e0, e1, d0, d1⟩ := two_cell g1
    try simp only [List.length_append, List.length_singleton] at e0
    clear HW g1 g2 g3 g4 g5 hrl hol hold
    go_wp2_with fail
    go_still_tail 22, (by kernel_rfl)
    change wpList _ _ _ _ _ WA.drew
    replace G1 := Lib.hid (show WA.drew.heap[p]? = _ from G1.out)
    replace G2 := Lib.hid (show OwnN 5 .u8 WA.drew 0 _ _ _ from G2.out)
    replace G5 := Lib.hid (show ∀ b, WA.drew.heap.size ≤ b → P b from G5.out)
    replace hcl : WA.drew.cell? ⟨g, i, none⟩ = _ := hcl
    replace hfr : WA.drew.frozen? ⟨g, i, none⟩ = false := hfr
    replace e0 : WA.drew.cell? ⟨p, 0, none⟩ = _ := e0
    replace e1 : WA.drew.cell? ⟨p, 1, none⟩ = _ := e1
    replace d0 : WA.drew.frozen? ⟨p, 0, none⟩ = false := d0
    replace d1 : WA.drew.frozen? ⟨p, 1, none⟩ = false := d1
    have HO2 := Lib.hid (show Only P w WA.drew from (HO.out).trans (only_drewN P WA 1))
    generalize WA.drew = W3 at *
    have hpg : ¬ (p = g) := fun e => by have := G4.out.2; omega
    have hpg2 : ¬ (g = p) := fun e => by have := G4.out.2; omega
    go_wp2_with fail
    go_end0
    obtain ⟨k1, k2⟩ := Wr0.store G1.out G2.out G3.out G4.out G5.out i nw n1
    refine ⟨rfl, HO2.out.trans k1, ?_, HOK2.out, ?_⟩
    · rw [HAD.out, hRM.out]
      exact k2
    · rw [HAD.out]
      exact hn1
  · have hRM : Hid (roomy (l, n) = l) := by unfold Hid roomy; rw [if_neg hj0]
    have t0 : ((j : Int) == 0) = false := beq_eq_false_iff_ne.2 (by omega)
    have HW : Hid (Wr0 P w p l n) := ⟨a, c, h1, h2, h3, h4, h5⟩
    obtain ⟨x0, x1, y0, y1⟩ := two_cell h1
    clear h1 h2 h3 h4 h5 hj0 hj
    go_enter Try.func35, Try.ntmps35
    go_wp2_with fail
    clear x0 x1 y0 y1
    obtain ⟨a2, c2, g1, g2, g3, g4, g5⟩ := HW.out
    obtain ⟨g, rfl, hcl, hfr⟩ : ∃ g, a2 = some ⟨g, 0, none⟩ ∧ w.cell? ⟨g, i, none⟩ = some (.int .u8 (old : Nat)) ∧ w.frozen? ⟨g, i, none⟩ = false := by
      obtain ⟨g, he, _, _, hc, hf⟩ := g2.at (i := i) (by rw [hRM.out] at hrl; omega)
      refine ⟨g, he, ?_, hf⟩
      have h9 : (l).getD i 0 = old := by rw [← hold, hRM.out]
      rw [hc, ← h9]
      simp [List.getD, List.getElem?_eq_getElem (show i < (l).length by rw [hRM.out] at hrl; omega)]
    have hi1 : i < l.length := by rw [hRM.out] at hrl; first | omega | (simp at hrl; omega)
    have hi2 : (i : Int) < ((l.length : Nat) : Int) := by omega
    have hi3 : (0 : Int) ≤ (i : Int) := by omega
    have hi5 : i ≤ l.length := by omega
    have hi6 : (i : Int) < (l.length : Int) + 1 := by omega
    have hi7 : (i : Int) ≤ (l.length : Int) := by omega
    have hi8 : i < l.length + 1 := by omega
    have G1 := Lib.hid g1
    have G2 := Lib.hid g2
    have G3 := Lib.hid g3
    have G4 := Lib.hid (g4 g rfl)
    have G5 := Lib.hid g5
    obtain ⟨e0, e1, d0, d1⟩ := two_cell g1
    try simp only [List.length_append, List.length_singleton] at e0
    clear HW g1 g2 g3 g4 g5 hrl hol hold
    go_wp2_with fail
    go_still_tail 22, (by kernel_rfl)
    change wpList _ _ _ _ _ w.drew
    replace G1 := Lib.hid (show w.drew.heap[p]? = _ from G1.out)
    replace G2 := Lib.hid (show OwnN 5 .u8 w.drew 0 _ _ _ from G2.out)
    replace G5 := Lib.hid (show ∀ b, w.drew.heap.size ≤ b → P b from G5.out)
    replace hcl : w.drew.cell? ⟨g, i, none⟩ = _ := hcl
    replace hfr : w.drew.frozen? ⟨g, i, none⟩ = false := hfr
    replace e0 : w.drew.cell? ⟨p, 0, none⟩ = _ := e0
    replace e1 : w.drew.cell? ⟨p, 1, none⟩ = _ := e1
    replace d0 : w.drew.frozen? ⟨p, 0, none⟩ = false := d0
    replace d1 : w.drew.frozen? ⟨p, 1, none⟩ = false := d1
    have HO2 := Lib.hid (show Only P w w.drew from (Only.refl P w).trans (only_drewN P w 1))
    generalize w.drew = W3 at *
    have hpg : ¬ (p = g) := fun e => by have := G4.out.2; omega
    have hpg2 : ¬ (g = p) := fun e => by have := G4.out.2; omega
    go_wp2_with fail
    go_end0
    obtain ⟨k1, k2⟩ := Wr0.store G1.out G2.out G3.out G4.out G5.out i nw n1
    refine ⟨rfl, HO2.out.trans k1, ?_, HOK2.out, ?_⟩
    · rw [HAD.out, hRM.out]
      exact k2
    · rw [HAD.out]
      exact hn1
end Go.Proofs.Ytmgoeokdlklabaa

/- lsb.Writer: Put, Bytes: contracts. -/
namespace Go.Proofs.Ytmgoeokdlklabaa
open Go.RowKit Go.Shelf M01
set_option linter.unusedVariables false

theorem Wr.lt {P : Nat → Prop} {w : World} {p : Nat} {s : Wst} (h : Wr P w p s) : p < w.heap.size := h.1.lt
set_option maxRecDepth 100000 in
set_option maxHeartbeats 1600000 in
theorem lsb_put {P : Nat → Prop} {w : World} {p : Nat} {s : Wst} (h : Wr P w p s) (v n : Nat) (hn : n ≤ 32) (hv : v < 2 ^ n) (hs : s.2 + n ≤ 100000000) :
    Calls Try.prog 12 #[.pointer (some ⟨p, 0, none⟩), .int .u32 (v : Nat), .int .i64 (n : Nat)] w fun e w' => e = .returned (.int .i64 0) ∧ Only P w w' ∧ Wr P w' p (addNum s v n) := by
  have H := Lib.hid h
  have hmf : ∀ (fn : Fn) (first cap : Array Value) (w : World), (Instr.makeFunc fn first cap).run Try.prog w = .ok (.func fn first cap) w := fun _ _ _ _ => rfl
  have hp32 : 2 ^ n ≤ 2 ^ 32 := Nat.pow_le_pow_right (by decide) hn
  have hv32 : v < 4294967296 := by omega
  have t1 : decide ((n : Int) < 0) = false := by simp
  have t2 : decide ((32 : Int) < (n : Int)) = false := by simp; omega
  have t3 : (v : Int) / 2 ^ n = 0 := by
    have : (v : Int) / ((2 ^ n : Nat) : Int) = 0 := by rw [← Int.natCast_ediv, Nat.div_eq_of_lt hv]; rfl
    simpa using this
  have HV := Lib.hid hv
  have HP := Lib.hid hp32
  clear h hv hp32
  go_enter Try.func12, Try.ntmps12
  go_wp2_with fail
  go_loopw [29] (fun c A => ∃ k : Nat, k ≤ n ∧ c = .int .i64 (k : Nat) ∧ Only P w A ∧ Wr P A p (addNum s v k)) (fun c _ => n - (intOf c).toNat)
  case atStart => exact ⟨0, by omega, rfl, Only.refl _ _, H.out⟩
  case round =>
    clear H hmf
    obtain ⟨k, hk, rfl, ho, hw⟩ := hrel
    have HO := Lib.hid ho
    have HW := Lib.hid hw
    clear ho hw
    by_cases hlt : k < n
    · obtain ⟨x, hx⟩ : ∃ x, v / 2 ^ k = x := ⟨_, rfl⟩
      have hx2 : x < 4294967296 := by rw [← hx]; exact Nat.lt_of_le_of_lt (Nat.div_le_self _ _) hv32
      have q1 : (v : Int) / 2 ^ k = (x : Int) := by rw [← hx]; simp
      have hk32 : k ≤ 32 := by omega
      have HL := addNum_len s v k
      have HB := Lib.hid (lsb_bit HW.out x hx2 (by omega))
      have HA : Hid (addBit (addNum s v k) (x % 2) = addNum s v (k + 1)) := by unfold Hid; rw [← hx]; rfl
      rw [HA.out] at HB
      clear HL HW hx
      go_wp2_with (go_at_call 35; refine HB.out.mono ?_; rintro e w2 ⟨rfl, ho2, hw2⟩; replace ho2 := Lib.hid ho2; replace hw2 := Lib.hid hw2)
      go_roundw
      case rel => exact ⟨k + 1, by omega, by go_num, HO.out.trans ho2.out, hw2.out⟩
      case measure => simp [intOf]; omega
    · obtain rfl : k = n := by omega
      go_wp2
      go_ret
      exact ⟨rfl, HO.out, HW.out⟩
theorem lsb_bytes {P : Nat → Prop} {w : World} {p : Nat} {s : Wst} (h : Wr P w p s) :
    Calls Try.prog 20 #[.pointer (some ⟨p, 0, none⟩)] w fun e w' => ∃ a c, e = .returned (.slice a s.1.length c) ∧ OwnN 5 .u8 w' w.heap.size a c s.1 ∧ Below w.heap.size w w' := by
  obtain ⟨⟨a, c, h1, h2, _⟩, hok, hb⟩ := h
  obtain ⟨c0, c1, _, _⟩ := two_cell h1
  have HC := Lib.hid (slices_clone w a c s.1 h2.row (by rw [hok.1]; omega))
  clear h1 h2 hok hb
  go_enter Try.func20, Try.ntmps20
  go_wp2_with fail
  refine HC.out.mono ?_
  rintro e w2 ⟨a2, c2, rfl, ho, hb⟩
  have HO := Lib.hid ho
  have HB := Lib.hid hb
  clear ho hb HC
  go_wp2
  go_ret
  exact ⟨a2, c2, rfl, HO.out, HB.out⟩
end Go.Proofs.Ytmgoeokdlklabaa
