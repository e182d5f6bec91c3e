/- header.may, the deferred closure of header.Get: contracts. Layer 1: laying bits: plain mathematics, and the contracts of lsb.Writer (bit, Put, Bytes). prefix: PutLow: contract. Plain mathematics of layers 6, 9, 10: reading by a code. A row of numbers that is filled from the left. Plain mathematics: bits of words, what a table of words holds. Plain mathematics of layer 9: a head. -/
import Derived.Test.YtendielanacflaaGreatL06
import Derived.Test.YtendielanacflaaGreatL07
import Derived.Test.YtendielanacflaaGreatL01
import Derived.Defers
import Derived.Recover
import Derived.Laws.Pointers
import Derived.StillTailTactics
namespace Go.Proofs.YtendielanacflaaGreat
open Go.RowKit Go.Shelf M04
set_option linter.unusedVariables false
theorem ta_nil (w : World) : (Instr.typeAssert Value.nilIface 20 25 true).run Tryz.prog w = .ok (.tuple #[.int .i64 0, .bool false]) w := by kernel_rfl
theorem ta_err (n : Int) (w : World) : (Instr.typeAssert (.iface 25 (.int .i64 n)) 20 25 true).run Tryz.prog w = .ok (.tuple #[.int .i64 n, .bool true]) w := by kernel_rfl
theorem hdr_catch (p q r : Nat) (x y z : Value) (w : World) (h1 : w.heap[p]? = some (.cells #[x] 24 (0, 0))) (h2 : w.heap[q]? = some (.cells #[y] 24 (0, 0))) (h3 : w.heap[r]? = some (.cells #[z] 25 (0, 0))) (hpq : p ≠ q) (hpr : p ≠ r) (hqr : q ≠ r) :
    CallsD Tryz.prog 135 #[.pointer (some ⟨p, 0, none⟩), .pointer (some ⟨q, 0, none⟩), .pointer (some ⟨r, 0, none⟩)] (.panicking formP) w fun e u' w' =>
      e = .returned (.tuple #[]) ∧ u' = .panicking [{ v := .iface 25 (.int .i64 2), recovered := true }] ∧ w' = ((w.setCell ⟨p, 0, none⟩ (.slice none 0 0)).setCell ⟨q, 0, none⟩ (.slice none 0 0)).setCell ⟨r, 0, none⟩ (.int .i64 2) := by
  unfold formP
  refine callsD_of_wpS Tryz.func135 rfl fun c₀ cs hu => ?_
  have f1 : w.frozen? ⟨p, 0, none⟩ = false := by simp [World.frozen?, h1]
  have f2 : w.frozen? ⟨q, 0, none⟩ = false := by simp [World.frozen?, h2]
  have f3 : w.frozen? ⟨r, 0, none⟩ = false := by simp [World.frozen?, h3]
  have g1 : w.cell? ⟨p, 0, none⟩ = some x := cell_of_one h1
  have g2 : w.cell? ⟨q, 0, none⟩ = some y := cell_of_one h2
  have g3 : w.cell? ⟨r, 0, none⟩ = some z := cell_of_one h3
  have te := ta_err 2
  apply wpS_seq
  apply wpS_region
  simp [wpOpsS, go_sem, recoverD, hu, te, Tryz.ntmps135, Exit.thenS]
  apply wpS_seq
  apply wpS_region
  simp [wpOpsS, go_sem, Exit.thenS]
  refine wpS_cond (t := true) (by simp [Act.eval, Array.replicate]) ?_
  simp only [if_true]
  apply wpS_region
  simp [wpOpsS, go_sem, g1, g2, g3, f1, f2, f3, bodyPostS, results, Tryz.results135]
theorem hdr_catch_idle (p q r : Nat) (w : World) :
    CallsD Tryz.prog 135 #[.pointer (some ⟨p, 0, none⟩), .pointer (some ⟨q, 0, none⟩), .pointer (some ⟨r, 0, none⟩)] .returning w fun e u' w' =>
      e = .returned (.tuple #[]) ∧ u' = .returning ∧ w' = w := by
  refine callsD_of_wpS Tryz.func135 rfl fun c₀ cs hu => ?_
  apply wpS_seq
  apply wpS_region
  have te := ta_nil
  simp [wpOpsS, go_sem, recoverD, hu, te, Tryz.ntmps135, Exit.thenS]
  apply wpS_seq
  apply wpS_region
  simp [wpOpsS, go_sem, Exit.thenS]
  refine wpS_cond (t := false) (by simp [Act.eval, Array.replicate]) ?_
  simp only [Bool.false_eq_true, if_false]
  refine wpS_of_wp (wp_skip ?_)
  cases c₀
  simp_all [bodyPostS, results, Tryz.results135]
def long (l : List Nat) : Bool := l.any (fun x => decide (15 < x))
def mayH (f o : List Nat) : Bool :=
  decide (257 ≤ f.length) && decide (f.length ≤ 286) && decide (1 ≤ o.length) && decide (o.length ≤ 30) && decide (f.getD 256 0 ≠ 0) && !(long f) && !(long o) &&
    (decide ((clsE f).1 = 2) || singleB f) && (decide ((clsE o).1 = 2) || decide ((clsE o).1 = 0) || singleB o)
theorem may_long (n : Nat) (w : World) : Calls Tryz.prog 87 #[.int .u8 (n : Nat)] w fun e w' => e = .returned (.bool (decide (15 < n))) ∧ w' = w := by
  go_enter Tryz.func87, Tryz.ntmps87
  go_wp2
  go_ret
  exact ⟨congrArg (fun b => Ending.returned (.bool b)) (decide_eq_decide.2 (by omega)), rfl⟩
def IdxOut (l : List Nat) (e : Ending) : Prop := if long l then ∃ k : Nat, e = .returned (.int .i64 k) else e = .returned (.int .i64 (-1))
theorem u8_index (a : Option Addr) (cap : Nat) (l : List Nat) (w : World) (hr : RowN .u8 w a cap l) :
    Calls Tryz.prog 122 #[.slice a l.length cap, .func (Fn.func 87) #[] #[]] w fun e w' => IdxOut l e ∧ w' = w := by
  have hlen := hr.len
  go_enter Tryz.func122, Tryz.ntmps122
  go_wp2_with fail
  go_loop [5, 8] (fun _ i => ∃ k : Nat, k ≤ l.length ∧ i = .int .i64 k ∧ ∀ x ∈ l.take k, x ≤ 15) (fun _ i => l.length - (intOf i).toNat)
  case atStart => exact ⟨0, by omega, rfl, by simp⟩
  case round =>
    obtain ⟨k, hk, rfl, hall⟩ := hrel
    have HA := Lib.hid hall
    clear hall
    by_cases hlt : k < l.length
    · obtain ⟨b, off, rfl, hb, hck⟩ := hr.at hlt
      clear hr
      have HM := Lib.hid (List.getElem_mem hlt)
      have HT := Lib.hid (take_snoc l k hlt)
      generalize l[k] = x at *
      by_cases hx : 15 < x
      · have hd : decide (15 < x) = true := by simpa using hx
        have HL : Hid (long l = true) := by
          unfold Hid long
          rw [List.any_eq_true]
          exact ⟨x, HM.out, hd⟩
        go_wp2_with (go_at_call 87; refine (may_long x _).mono ?_; rintro e w' ⟨rfl, rfl⟩; rw [hd])
        go_ret
        exact ⟨by unfold IdxOut; rw [if_pos HL.out]; exact ⟨k, rfl⟩, rfl⟩
      · have hd : decide (15 < x) = false := by simpa using hx
        go_wp2_with (go_at_call 87; refine (may_long x _).mono ?_; rintro e w' ⟨rfl, rfl⟩; rw [hd])
        go_round
        case rel => exact ⟨k + 1, by omega, by go_num, by rw [HT.out]; intro y hy; rcases List.mem_append.1 hy with h | h; exact HA.out y h; simp at h; omega⟩
        case measure => simp [intOf]; omega
    · have h2 : l.take k = l := List.take_of_length_le (by omega)
      rw [h2] at HA
      have HL : Hid (long l = false) := by
        unfold Hid long
        rw [List.any_eq_false]
        intro x hx
        have := HA.out x hx
        simpa using this
      go_wp2
      go_ret
      exact ⟨by unfold IdxOut; rw [if_neg (by rw [HL.out]; decide)]; rfl, rfl⟩
theorem u8_contains (a : Option Addr) (cap : Nat) (l : List Nat) (w : World) (hr : RowN .u8 w a cap l) :
    Calls Tryz.prog 88 #[.slice a l.length cap, .func (Fn.func 87) #[] #[]] w fun e w' => e = .returned (.bool (long l)) ∧ w' = w := by
  have HC := Lib.hid (u8_index a cap l w hr)
  clear hr
  go_enter Tryz.func88, Tryz.ntmps88
  go_wp2_with fail
  refine HC.out.mono ?_
  by_cases hl : long l = true
  · have HL := Lib.hid hl
    rintro e w1 ⟨h, rfl⟩
    unfold IdxOut at h
    rw [if_pos hl] at h
    obtain ⟨k, rfl⟩ := h
    have t1 : decide ((0 : Int) ≤ (k : Int)) = true := by simp
    clear hl HC
    go_wp2
    go_ret
    exact ⟨by rw [HL.out]; rfl, rfl⟩
  · have HL := Lib.hid (show long l = false by simpa using hl)
    rintro e w1 ⟨h, rfl⟩
    unfold IdxOut at h
    rw [if_neg hl] at h
    subst h
    clear hl HC
    go_wp2
    go_ret
    exact ⟨by rw [HL.out]; rfl, rfl⟩
theorem hdr_order (w : World) : Calls Tryz.prog 48 #[] w fun e w' => e = .returned (.slice (some ⟨w.heap.size, 0, none⟩) 19 19) ∧ w' = w.alloc (.cells #[.int .u8 16, .int .u8 17, .int .u8 18, .int .u8 0, .int .u8 8, .int .u8 7, .int .u8 9, .int .u8 6, .int .u8 10, .int .u8 5, .int .u8 11, .int .u8 4, .int .u8 12, .int .u8 3, .int .u8 13, .int .u8 2, .int .u8 14, .int .u8 1, .int .u8 15] 5) := by
  go_enter Tryz.func48, Tryz.ntmps48
  go_wp2
  go_ret
  exact ⟨rfl, rfl⟩
theorem hmust_u32_ok (v : Value) (w : World) : Calls Tryz.prog 136 #[v, .int .i64 0] w fun e w' => e = .returned v ∧ w' = w := by
  go_enter Tryz.func136, Tryz.ntmps136
  go_wp2
  go_ret
  exact ⟨rfl, rfl⟩
theorem hmust_u32_no (v : Value) (c : Nat) (hc : 0 < c) (w : World) : Calls Tryz.prog 136 #[v, .int .i64 (c : Nat)] w fun e w' => e = .panicked formP ∧ w' = w := by
  have t1 : ((c : Int) == 0) = false := by simp; omega
  go_enter Tryz.func136, Tryz.ntmps136
  go_wp2
  exact ⟨rfl, rfl, rfl⟩
theorem hmust_int_ok (v : Value) (w : World) : Calls Tryz.prog 137 #[v, .int .i64 0] w fun e w' => e = .returned v ∧ w' = w := by
  go_enter Tryz.func137, Tryz.ntmps137
  go_wp2
  go_ret
  exact ⟨rfl, rfl⟩
theorem hmust_int_no (v : Value) (c : Nat) (hc : 0 < c) (w : World) : Calls Tryz.prog 137 #[v, .int .i64 (c : Nat)] w fun e w' => e = .panicked formP ∧ w' = w := by
  have t1 : ((c : Int) == 0) = false := by simp; omega
  go_enter Tryz.func137, Tryz.ntmps137
  go_wp2
  exact ⟨rfl, rfl, rfl⟩
theorem hmust_row_ok (v : Value) (w : World) : Calls Tryz.prog 138 #[v, .int .i64 0] w fun e w' => e = .returned v ∧ w' = w := by
  go_enter Tryz.func138, Tryz.ntmps138
  go_wp2
  go_ret
  exact ⟨rfl, rfl⟩
theorem hmust_row_no (v : Value) (c : Nat) (hc : 0 < c) (w : World) : Calls Tryz.prog 138 #[v, .int .i64 (c : Nat)] w fun e w' => e = .panicked formP ∧ w' = w := by
  have t1 : ((c : Int) == 0) = false := by simp; omega
  go_enter Tryz.func138, Tryz.ntmps138
  go_wp2
  exact ⟨rfl, rfl, rfl⟩
end Go.Proofs.YtendielanacflaaGreat

namespace Go.Proofs.YtendielanacflaaGreat.M01
set_option linter.unusedVariables false
abbrev Wst := List Nat × Nat
def roomy (s : Wst) : List Nat := if s.2 % 8 = 0 then s.1 ++ [0] else s.1
def addBit (s : Wst) (b : Nat) : Wst := ((roomy s).set (s.2 / 8) ((roomy s).getD (s.2 / 8) 0 ||| b * 2 ^ (s.2 % 8)), s.2 + 1)
def WOk (s : Wst) : Prop := s.1.length = (s.2 + 7) / 8 ∧ ∀ x ∈ s.1, x < 256
theorem roomy_len {s : Wst} (h : WOk s) : (roomy s).length = s.2 / 8 + 1 := by
  obtain ⟨h1, _⟩ := h
  unfold roomy
  split
  · simp; omega
  · omega
theorem roomy_byte {s : Wst} (h : WOk s) : ∀ x ∈ roomy s, x < 256 := by
  intro x hx
  unfold roomy at hx
  split at hx
  · rcases List.mem_append.1 hx with h1 | h1
    · exact h.2 x h1
    · simp at h1; omega
  · exact h.2 x hx
theorem old_lt {s : Wst} (h : WOk s) : (roomy s).getD (s.2 / 8) 0 < 256 := by
  have hl := roomy_len h
  simp only [List.getD, List.getElem?_eq_getElem (show s.2 / 8 < (roomy s).length by omega), Option.getD_some]
  exact roomy_byte h _ (List.getElem_mem _)
theorem bit_lt256 (b n : Nat) (hb : b < 2) : b * 2 ^ (n % 8) < 256 := by
  have h1 : 2 ^ (n % 8) ≤ 2 ^ 7 := Nat.pow_le_pow_right (by decide) (by omega)
  have h2 : b * 2 ^ (n % 8) ≤ 1 * 2 ^ (n % 8) := Nat.mul_le_mul_right _ (by omega)
  omega
theorem addBit_ok {s : Wst} (h : WOk s) {b : Nat} (hb : b < 2) : WOk (addBit s b) := by
  have hl := roomy_len h
  refine ⟨?_, fun x hx => ?_⟩
  · unfold addBit
    simp only [List.length_set, hl]
    omega
  · unfold addBit at hx
    rcases List.mem_or_eq_of_mem_set hx with h1 | rfl
    · exact roomy_byte h x h1
    · exact Nat.or_lt_two_pow (n := 8) (old_lt h) (bit_lt256 b s.2 hb)
def addNum (s : Wst) (v : Nat) : Nat → Wst
  | 0 => s
  | n + 1 => addBit (addNum s v n) (v / 2 ^ n % 2)
theorem addNum_ok {s : Wst} (h : WOk s) (v n : Nat) : WOk (addNum s v n) := by
  induction n with
  | zero => exact h
  | succ n ih => exact addBit_ok ih (Nat.mod_lt _ (by decide))
theorem addNum_len (s : Wst) (v n : Nat) : (addNum s v n).2 = s.2 + n := by
  induction n with
  | zero => rfl
  | succ n ih => show (addNum s v n).2 + 1 = _; omega
end Go.Proofs.YtendielanacflaaGreat.M01
namespace Go.Proofs.YtendielanacflaaGreat
open Go.RowKit Go.Shelf M01
set_option linter.unusedVariables false
def Wr0 (P : Nat → Prop) (w : World) (p : Nat) (l : List Nat) (n : Nat) : Prop :=
  ∃ a c, w.heap[p]? = some (.cells #[.slice a l.length c, .int .i64 (n : Nat)] 42 (0, 0)) ∧ OwnN 5 .u8 w 0 a c l ∧ P p ∧ (∀ g, a = some ⟨g, 0, none⟩ → P g ∧ p < g) ∧ (∀ b, w.heap.size ≤ b → P b)
def Wr (P : Nat → Prop) (w : World) (p : Nat) (s : Wst) : Prop := Wr0 P w p s.1 s.2 ∧ WOk s ∧ s.2 ≤ 100000000
theorem Wr0.lt {P : Nat → Prop} {w : World} {p n : Nat} {l : List Nat} (h : Wr0 P w p l n) : p < w.heap.size := by
  obtain ⟨a, c, h1, _⟩ := h
  exact (Array.getElem?_eq_some_iff.1 h1).1
theorem Wr0.grow {P : Nat → Prop} {w w2 : World} {p n : Nat} {l : List Nat} {a a' : Option Addr} {c c' y : Nat}
    (h1 : w.heap[p]? = some (.cells #[.slice a l.length c, .int .i64 (n : Nat)] 42 (0, 0))) (h2 : OwnN 5 .u8 w 0 a c l) (h3 : P p) (h4 : ∀ g, a = some ⟨g, 0, none⟩ → P g ∧ p < g) (h5 : ∀ b, w.heap.size ≤ b → P b)
    (hown : OwnN 5 .u8 w2 0 a' c' (l ++ [y])) (hg : w.grownBy w2 (Value.slice a l.length c).ownBlock) (hnew : ∀ g, a' = some ⟨g, 0, none⟩ → a = some ⟨g, 0, none⟩ ∨ w.heap.size ≤ g) :
    Only P w (w2.setCell ⟨p, 0, none⟩ (.slice a' (l.length + 1) c')) ∧ Wr0 P (w2.setCell ⟨p, 0, none⟩ (.slice a' (l.length + 1) c')) p (l ++ [y]) n := by
  have hlt : p < w.heap.size := (Array.getElem?_eq_some_iff.1 h1).1
  have hX : w2.heap[p]? = _ := (hg.block p hlt (own_ne h2 (fun g e => (h4 g e).2) p (Nat.le_refl _))).trans h1
  have ho2 : Only P w w2 := (Only.refl P w).grown hg (fun r hr => by
    rcases h2.form with ⟨rfl, _, _⟩ | ⟨g, rfl, _⟩
    · simp [Value.ownBlock] at hr
    · simp [Value.ownBlock] at hr
      subst hr
      exact .inl (h4 _ rfl).1)
  have hO := ho2.setCell (p := ⟨p, 0, none⟩) (.inl h3) (.slice a' (l.length + 1) c')
  have hps : ∀ g, a' = some ⟨g, 0, none⟩ → P g ∧ p < g := fun g e => by
    rcases hnew g e with h | h
    · exact h4 g h
    · exact ⟨h5 g h, by omega⟩
  exact ⟨hO, a', c', by rw [(two_set hX).1]; simp, hown.other (fun g e => by have := (hps g e).2; show p ≠ g; omega) _, h3, hps, fun b hb => h5 b (Nat.le_trans hO.size hb)⟩
theorem Wr0.store {P : Nat → Prop} {w : World} {p n g c : Nat} {l : List Nat} (h1 : w.heap[p]? = some (.cells #[.slice (some ⟨g, 0, none⟩) l.length c, .int .i64 (n : Nat)] 42 (0, 0)))
    (h2 : OwnN 5 .u8 w 0 (some ⟨g, 0, none⟩) c l) (h3 : P p) (h4 : P g ∧ p < g) (h5 : ∀ b, w.heap.size ≤ b → P b) (i x : Nat) (m : Nat) :
    Only P w ((w.setCell ⟨g, i, none⟩ (.int .u8 (x : Nat))).setCell ⟨p, 1, none⟩ (.int .i64 (m : Nat))) ∧ Wr0 P ((w.setCell ⟨g, i, none⟩ (.int .u8 (x : Nat))).setCell ⟨p, 1, none⟩ (.int .i64 (m : Nat))) p (l.set i x) m := by
  have hO := ((Only.refl P w).setCell (p := ⟨g, i, none⟩) (.inl h4.1) (.int .u8 (x : Nat))).setCell (p := ⟨p, 1, none⟩) (.inl h3) (.int .i64 (m : Nat))
  have hX : (w.setCell ⟨g, i, none⟩ (.int .u8 (x : Nat))).heap[p]? = _ := (Below.heap_setCell _ _ _ _ (by show p ≠ g; omega)).trans h1
  refine ⟨hO, some ⟨g, 0, none⟩, c, ?_, ?_, h3, fun g' e => by cases e; exact h4, fun b hb => h5 b (Nat.le_trans hO.size hb)⟩
  · rw [(two_set hX).2, List.length_set]
  · exact ((h2.stored i x).1).other (fun g' e => by cases e; show p ≠ g; omega) _
theorem wrap8 (n : Int) : IntKind.u8.wrap n = n % 256 := by simp [IntKind.wrap, IntKind.bits, IntKind.signed]
theorem or8 (a b : Nat) (ha : a < 256) (hb : b < 256) : bits .or .u8 (a : Int) (b : Int) = ((a ||| b : Nat) : Int) := by
  have h1 : (BitVec.ofInt 8 (a : Int)).toNat = a := by
    rw [BitVec.ofInt_natCast, BitVec.toNat_ofNat]; exact Nat.mod_eq_of_lt (by omega)
  have h2 : (BitVec.ofInt 8 (b : Int)).toNat = b := by
    rw [BitVec.ofInt_natCast, BitVec.toNat_ofNat]; exact Nat.mod_eq_of_lt (by omega)
  have h3 : a ||| b < 256 := Nat.or_lt_two_pow (n := 8) ha hb
  show IntKind.u8.wrap ((BitVec.ofInt 8 (a : Int) ||| BitVec.ofInt 8 (b : Int)).toNat : Int) = _
  rw [BitVec.toNat_or, h1, h2, wrap8]
  omega
theorem and1 (v : Nat) (hv : v < 4294967296) : bits .and .u32 (v : Int) 1 = ((v % 2 : Nat) : Int) := by
  have h1 : (BitVec.ofInt 32 (v : Int)).toNat = v := by
    rw [BitVec.ofInt_natCast, BitVec.toNat_ofNat]; exact Nat.mod_eq_of_lt (by omega)
  have h2 : (BitVec.ofInt 32 (1 : Int)).toNat = 1 := by decide
  show IntKind.u32.wrap ((BitVec.ofInt 32 (v : Int) &&& BitVec.ofInt 32 (1 : Int)).toNat : Int) = _
  rw [BitVec.toNat_and, h1, h2, Nat.and_one_is_mod]
  have : IntKind.u32.wrap ((v % 2 : Nat) : Int) = ((v % 2 : Nat) : Int) % 4294967296 := by simp [IntKind.wrap, IntKind.bits, IntKind.signed]
  rw [this]
  omega
set_option maxRecDepth 100000 in
set_option maxHeartbeats 1600000 in
theorem lsb_bit {P : Nat → Prop} {w : World} {p : Nat} {s : Wst} (h : Wr P w p s) (v : Nat) (hv : v < 4294967296) (hn : s.2 < 100000000) :
    Calls Tryz.prog 40 #[.pointer (some ⟨p, 0, none⟩), .int .u32 (v : Nat)] w fun e w' => e = .returned (.tuple #[]) ∧ Only P w w' ∧ Wr P w' p (addBit s (v % 2)) := by
  obtain ⟨h0, hok, hbd⟩ := h
  have hok2 := addBit_ok hok (b := v % 2) (Nat.mod_lt _ (by decide))
  have hrl := roomy_len hok
  have hol := old_lt hok
  have hsl := hok.1
  have HOK2 := Lib.hid hok2
  have HAD : Hid (addBit s (v % 2) = ((roomy s).set (s.2 / 8) ((roomy s).getD (s.2 / 8) 0 ||| v % 2 * 2 ^ (s.2 % 8)), s.2 + 1)) := rfl
  obtain ⟨l, n⟩ := s
  simp only at *
  obtain ⟨b, hb⟩ : ∃ b, v % 2 = b := ⟨_, rfl⟩
  have hb2 : b < 2 := by omega
  obtain ⟨i, hi⟩ : ∃ i, n / 8 = i := ⟨_, rfl⟩
  obtain ⟨j, hj⟩ : ∃ j, n % 8 = j := ⟨_, rfl⟩
  obtain ⟨sh, hsh⟩ : ∃ sh, b * 2 ^ j = sh := ⟨_, rfl⟩
  have hsh2 : sh < 256 := by rw [← hsh, ← hj]; exact bit_lt256 b n hb2
  rw [hi] at hol hrl
  have hj8 : j < 8 := by omega
  have hin : i ≤ n := by omega
  have f1 : (n : Int) / 8 = (i : Int) := by omega
  have f1' : Int.tdiv (n : Int) 8 = (i : Int) := by rw [← hi]; rfl
  have f2 : (n : Int) % 8 = (j : Int) := by omega
  have f2' : Int.tmod (n : Int) 8 = (j : Int) := by rw [← hj]; rfl
  have f3 : bits .and .u32 (v : Int) 1 = (b : Int) := by rw [and1 v hv, hb]
  have f4 : IntKind.u8.wrap (b : Int) = (b : Int) := by rw [wrap8]; omega
  have f5 : IntKind.u8.wrap ((b : Int) * 2 ^ j) = (sh : Int) := by
    have : (b : Int) * 2 ^ j = (sh : Int) := by rw [← hsh]; simp
    rw [this, wrap8]; omega
  have f7 : IntKind.i64.wrap (i : Int) = (i : Int) := IntWalk.i64_in _ (by omega)
  have f8 : IntKind.i64.wrap (j : Int) = (j : Int) := IntWalk.i64_in _ (by omega)
  rw [hi, hj, hb, hsh] at HAD
  obtain ⟨n1, hn1e⟩ : ∃ n1, n + 1 = n1 := ⟨_, rfl⟩
  have f9 : (n : Int) + 1 = (n1 : Int) := by omega
  have hn1 : n1 ≤ 100000000 := by omega
  rw [hn1e] at HAD
  clear hn1e
  rw [hb] at HOK2
  rw [hb]
  obtain ⟨old, hold⟩ : ∃ old, (roomy (l, n)).getD i 0 = old := ⟨_, rfl⟩
  rw [hold] at HAD hol
  obtain ⟨nw, hnw⟩ : ∃ nw, old ||| sh = nw := ⟨_, rfl⟩
  have f6 : bits .or .u8 (old : Int) (sh : Int) = (nw : Int) := by rw [or8 old sh hol hsh2, hnw]
  rw [hnw] at HAD
  obtain ⟨a, c, h1, h2, h3, h4, h5⟩ := h0
  have hlt : p < w.heap.size := (Array.getElem?_eq_some_iff.1 h1).1
  have hll : l.length ≤ 100000000 := by omega
  clear hsh hnw hok hok2 hi hb hsl
  by_cases hj0 : n % 8 = 0
  · have hRM : Hid (roomy (l, n) = l ++ [0]) := by unfold Hid roomy; rw [if_pos hj0]
    have hjz : j = 0 := by omega
    have t0 : ((j : Int) == 0) = true := beq_iff_eq.2 (by omega)
    have H1 := Lib.hid h1
    have H2 := Lib.hid h2
    have H3 := Lib.hid h3
    have H4 := Lib.hid h4
    have H5 := Lib.hid h5
    obtain ⟨x0, x1, y0, y1⟩ := two_cell h1
    clear h1 h2 h3 h4 h5 hj0 hj hjz
    go_enter Tryz.func40, Tryz.ntmps40
    go_wp2_with (at_builtin; refine app1AtN et_u8 rfl (.tmp 14) (.tmp 15) rfl (base := 0) (y := 0) rfl H2.out rfl (Nat.le_refl _) (by omega) (by omega) (by omega) (Nat.zero_le _) ?_; intro a' c' w2 hown hg hnew; have hX := two_cell ((hg.block p hlt (own_ne H2.out (fun g e => (H4.out g e).2) p (Nat.le_refl _))).trans H1.out); obtain ⟨z0, z1, k0, k1⟩ := hX; replace hown := Lib.hid hown; replace hg := Lib.hid hg; replace hnew := Lib.hid hnew)
    have HG := Wr0.grow H1.out H2.out H3.out H4.out H5.out hown.out hg.out hnew.out
    have HO := Lib.hid HG.1
    have HW := Lib.hid HG.2
    clear HG x0 x1 y0 y1 z0 z1 k0 k1 hown hg hnew H1 H2 H3 H4 H5
    generalize w2.setCell ⟨p, 0, none⟩ (.slice a' (l.length + 1) c') = WA at *
    obtain ⟨a2, c2, g1, g2, g3, g4, g5⟩ := HW.out
    obtain ⟨g, rfl, hcl, hfr⟩ : ∃ g, a2 = some ⟨g, 0, none⟩ ∧ WA.cell? ⟨g, i, none⟩ = some (.int .u8 (old : Nat)) ∧ WA.frozen? ⟨g, i, none⟩ = false := by
      obtain ⟨g, he, _, _, hc, hf⟩ := g2.at (i := i) (by rw [hRM.out] at hrl; omega)
      refine ⟨g, he, ?_, hf⟩
      have h9 : (l ++ [0]).getD i 0 = old := by rw [← hold, hRM.out]
      rw [hc, ← h9]
      simp [List.getD, List.getElem?_eq_getElem (show i < (l ++ [0]).length by rw [hRM.out] at hrl; omega)]
    have hi1 : i < l.length + 1 := by rw [hRM.out] at hrl; first | omega | (simp at hrl; omega)
    have hi2 : (i : Int) < ((l.length + 1 : Nat) : Int) := by omega
    have hi3 : (0 : Int) ≤ (i : Int) := by omega
    have hi5 : i ≤ l.length := by omega
    have hi6 : (i : Int) < (l.length : Int) + 1 := by omega
    have hi7 : (i : Int) ≤ (l.length : Int) := by omega
    have hi8 : i < l.length + 1 := by omega
    have G1 := Lib.hid g1
    have G2 := Lib.hid g2
    have G3 := Lib.hid g3
    have G4 := Lib.hid (g4 g rfl)
    have G5 := Lib.hid g5
    obtain ⟨e0, e1, d0, d1⟩ := two_cell g1
    try simp only [List.length_append, List.length_singleton] at e0
    clear HW g1 g2 g3 g4 g5 hrl hol hold
    go_wp2_with fail
    go_still_tail 22, (by kernel_rfl)
    change wpList _ _ _ _ _ WA.drew
    replace G1 := Lib.hid (show WA.drew.heap[p]? = _ from G1.out)
    replace G2 := Lib.hid (show OwnN 5 .u8 WA.drew 0 _ _ _ from G2.out)
    replace G5 := Lib.hid (show ∀ b, WA.drew.heap.size ≤ b → P b from G5.out)
    replace hcl : WA.drew.cell? ⟨g, i, none⟩ = _ := hcl
    replace hfr : WA.drew.frozen? ⟨g, i, none⟩ = false := hfr
    replace e0 : WA.drew.cell? ⟨p, 0, none⟩ = _ := e0
    replace e1 : WA.drew.cell? ⟨p, 1, none⟩ = _ := e1
    replace d0 : WA.drew.frozen? ⟨p, 0, none⟩ = false := d0
    replace d1 : WA.drew.frozen? ⟨p, 1, none⟩ = false := d1
    have HO2 := Lib.hid (show Only P w WA.drew from (HO.out).trans (only_drewN P WA 1))
    generalize WA.drew = W3 at *
    have hpg : ¬ (p = g) := fun e => by have := G4.out.2; omega
    have hpg2 : ¬ (g = p) := fun e => by have := G4.out.2; omega
    go_wp2_with fail
    go_end0
    obtain ⟨k1, k2⟩ := Wr0.store G1.out G2.out G3.out G4.out G5.out i nw n1
    refine ⟨rfl, HO2.out.trans k1, ?_, HOK2.out, ?_⟩
    · rw [HAD.out, hRM.out]
      exact k2
    · rw [HAD.out]
      exact hn1
  · have hRM : Hid (roomy (l, n) = l) := by unfold Hid roomy; rw [if_neg hj0]
    have t0 : ((j : Int) == 0) = false := beq_eq_false_iff_ne.2 (by omega)
    have HW : Hid (Wr0 P w p l n) := ⟨a, c, h1, h2, h3, h4, h5⟩
    obtain ⟨x0, x1, y0, y1⟩ := two_cell h1
    clear h1 h2 h3 h4 h5 hj0 hj
    go_enter Tryz.func40, Tryz.ntmps40
    go_wp2_with fail
    clear x0 x1 y0 y1
    obtain ⟨a2, c2, g1, g2, g3, g4, g5⟩ := HW.out
    obtain ⟨g, rfl, hcl, hfr⟩ : ∃ g, a2 = some ⟨g, 0, none⟩ ∧ w.cell? ⟨g, i, none⟩ = some (.int .u8 (old : Nat)) ∧ w.frozen? ⟨g, i, none⟩ = false := by
      obtain ⟨g, he, _, _, hc, hf⟩ := g2.at (i := i) (by rw [hRM.out] at hrl; omega)
      refine ⟨g, he, ?_, hf⟩
      have h9 : (l).getD i 0 = old := by rw [← hold, hRM.out]
      rw [hc, ← h9]
      simp [List.getD, List.getElem?_eq_getElem (show i < (l).length by rw [hRM.out] at hrl; omega)]
    have hi1 : i < l.length := by rw [hRM.out] at hrl; first | omega | (simp at hrl; omega)
    have hi2 : (i : Int) < ((l.length : Nat) : Int) := by omega
    have hi3 : (0 : Int) ≤ (i : Int) := by omega
    have hi5 : i ≤ l.length := by omega
    have hi6 : (i : Int) < (l.length : Int) + 1 := by omega
    have hi7 : (i : Int) ≤ (l.length : Int) := by omega
    have hi8 : i < l.length + 1 := by omega
    have G1 := Lib.hid g1
    have G2 := Lib.hid g2
    have G3 := Lib.hid g3
    have G4 := Lib.hid (g4 g rfl)
    have G5 := Lib.hid g5
    obtain ⟨e0, e1, d0, d1⟩ := two_cell g1
    try simp only [List.length_append, List.length_singleton] at e0
    clear HW g1 g2 g3 g4 g5 hrl hol hold
    go_wp2_with fail
    go_still_tail 22, (by kernel_rfl)
    change wpList _ _ _ _ _ w.drew
    replace G1 := Lib.hid (show w.drew.heap[p]? = _ from G1.out)
    replace G2 := Lib.hid (show OwnN 5 .u8 w.drew 0 _ _ _ from G2.out)
    replace G5 := Lib.hid (show ∀ b, w.drew.heap.size ≤ b → P b from G5.out)
    replace hcl : w.drew.cell? ⟨g, i, none⟩ = _ := hcl
    replace hfr : w.drew.frozen? ⟨g, i, none⟩ = false := hfr
    replace e0 : w.drew.cell? ⟨p, 0, none⟩ = _ := e0
    replace e1 : w.drew.cell? ⟨p, 1, none⟩ = _ := e1
    replace d0 : w.drew.frozen? ⟨p, 0, none⟩ = false := d0
    replace d1 : w.drew.frozen? ⟨p, 1, none⟩ = false := d1
    have HO2 := Lib.hid (show Only P w w.drew from (Only.refl P w).trans (only_drewN P w 1))
    generalize w.drew = W3 at *
    have hpg : ¬ (p = g) := fun e => by have := G4.out.2; omega
    have hpg2 : ¬ (g = p) := fun e => by have := G4.out.2; omega
    go_wp2_with fail
    go_end0
    obtain ⟨k1, k2⟩ := Wr0.store G1.out G2.out G3.out G4.out G5.out i nw n1
    refine ⟨rfl, HO2.out.trans k1, ?_, HOK2.out, ?_⟩
    · rw [HAD.out, hRM.out]
      exact k2
    · rw [HAD.out]
      exact hn1
end Go.Proofs.YtendielanacflaaGreat
namespace Go.Proofs.YtendielanacflaaGreat
open Go.RowKit Go.Shelf M01
set_option linter.unusedVariables false
theorem Wr.lt {P : Nat → Prop} {w : World} {p : Nat} {s : Wst} (h : Wr P w p s) : p < w.heap.size := h.1.lt
set_option maxRecDepth 100000 in
set_option maxHeartbeats 1600000 in
theorem lsb_put {P : Nat → Prop} {w : World} {p : Nat} {s : Wst} (h : Wr P w p s) (v n : Nat) (hn : n ≤ 32) (hv : v < 2 ^ n) (hs : s.2 + n ≤ 100000000) :
    Calls Tryz.prog 18 #[.pointer (some ⟨p, 0, none⟩), .int .u32 (v : Nat), .int .i64 (n : Nat)] w fun e w' => e = .returned (.int .i64 0) ∧ Only P w w' ∧ Wr P w' p (addNum s v n) := by
  have H := Lib.hid h
  have hmf : ∀ (fn : Fn) (first cap : Array Value) (w : World), (Instr.makeFunc fn first cap).run Tryz.prog w = .ok (.func fn first cap) w := fun _ _ _ _ => rfl
  have hp32 : 2 ^ n ≤ 2 ^ 32 := Nat.pow_le_pow_right (by decide) hn
  have hv32 : v < 4294967296 := by omega
  have t1 : decide ((n : Int) < 0) = false := by simp
  have t2 : decide ((32 : Int) < (n : Int)) = false := by simp; omega
  have t3 : (v : Int) / 2 ^ n = 0 := by
    have : (v : Int) / ((2 ^ n : Nat) : Int) = 0 := by rw [← Int.natCast_ediv, Nat.div_eq_of_lt hv]; rfl
    simpa using this
  have HV := Lib.hid hv
  have HP := Lib.hid hp32
  clear h hv hp32
  go_enter Tryz.func18, Tryz.ntmps18
  go_wp2_with fail
  go_loopw [29] (fun c A => ∃ k : Nat, k ≤ n ∧ c = .int .i64 (k : Nat) ∧ Only P w A ∧ Wr P A p (addNum s v k)) (fun c _ => n - (intOf c).toNat)
  case atStart => exact ⟨0, by omega, rfl, Only.refl _ _, H.out⟩
  case round =>
    clear H hmf
    obtain ⟨k, hk, rfl, ho, hw⟩ := hrel
    have HO := Lib.hid ho
    have HW := Lib.hid hw
    clear ho hw
    by_cases hlt : k < n
    · obtain ⟨x, hx⟩ : ∃ x, v / 2 ^ k = x := ⟨_, rfl⟩
      have hx2 : x < 4294967296 := by rw [← hx]; exact Nat.lt_of_le_of_lt (Nat.div_le_self _ _) hv32
      have q1 : (v : Int) / 2 ^ k = (x : Int) := by rw [← hx]; simp
      have hk32 : k ≤ 32 := by omega
      have HL := addNum_len s v k
      have HB := Lib.hid (lsb_bit HW.out x hx2 (by omega))
      have HA : Hid (addBit (addNum s v k) (x % 2) = addNum s v (k + 1)) := by unfold Hid; rw [← hx]; rfl
      rw [HA.out] at HB
      clear HL HW hx
      go_wp2_with (go_at_call 40; refine HB.out.mono ?_; rintro e w2 ⟨rfl, ho2, hw2⟩; replace ho2 := Lib.hid ho2; replace hw2 := Lib.hid hw2)
      go_roundw
      case rel => exact ⟨k + 1, by omega, by go_num, HO.out.trans ho2.out, hw2.out⟩
      case measure => simp [intOf]; omega
    · obtain rfl : k = n := by omega
      go_wp2
      go_ret
      exact ⟨rfl, HO.out, HW.out⟩
theorem lsb_bytes {P : Nat → Prop} {w : World} {p : Nat} {s : Wst} (h : Wr P w p s) :
    Calls Tryz.prog 25 #[.pointer (some ⟨p, 0, none⟩)] w fun e w' => ∃ a c, e = .returned (.slice a s.1.length c) ∧ OwnN 5 .u8 w' w.heap.size a c s.1 ∧ Below w.heap.size w w' := by
  obtain ⟨⟨a, c, h1, h2, _⟩, hok, hb⟩ := h
  obtain ⟨c0, c1, _, _⟩ := two_cell h1
  have HC := Lib.hid (slices_clone w a c s.1 h2.row (by rw [hok.1]; omega))
  clear h1 h2 hok hb
  go_enter Tryz.func25, Tryz.ntmps25
  go_wp2_with fail
  refine HC.out.mono ?_
  rintro e w2 ⟨a2, c2, rfl, ho, hb⟩
  have HO := Lib.hid ho
  have HB := Lib.hid hb
  clear ho hb HC
  go_wp2
  go_ret
  exact ⟨a2, c2, rfl, HO.out, HB.out⟩
end Go.Proofs.YtendielanacflaaGreat

namespace Go.Proofs.YtendielanacflaaGreat
open Go.RowKit Go.Shelf M01 M04 M06
set_option linter.unusedVariables false
def addWord (s : Wst) (x n : Nat) : Nat → Wst
  | 0 => s
  | j + 1 => addNum (addWord s x n j) (x / 2 ^ (n - 1 - j) % 2) 1
def addSym (l : List Nat) (st : Wst) (s : Nat) : Wst := addWord st ((words l).getD s 0) (l.getD s 0) (l.getD s 0)
theorem addWord_len (s : Wst) (x n j : Nat) : (addWord s x n j).2 = s.2 + j := by
  induction j with
  | zero => rfl
  | succ j ih => unfold addWord; rw [addNum_len, ih]; omega
theorem table_bits (w : World) (lo hi p : Nat) (l : List Nat) (s : Nat) (h : Tb lo hi w p l) (hs : s < l.length) (hx : l.getD s 0 ≤ 255) :
    Calls Tryz.prog 114 #[.pointer (some ⟨p, 0, none⟩), .int .i64 (s : Nat)] w fun e w' => e = .returned (.int .i64 (l.getD s 0 : Nat)) ∧ w' = w := by
  obtain ⟨a1, c1, a2, c2, mb, nn, g1, g2, g3, g4, _⟩ := h
  obtain ⟨b, off, rfl, hb, hck⟩ := g2.at hs
  have hge : l[s] = l.getD s 0 := by simp [List.getD, List.getElem?_eq_getElem hs]
  rw [hge] at hck
  have c0 : w.cell? ⟨p, 0, none⟩ = some (.slice (some ⟨b, off, none⟩) l.length c1) := by simp [World.cell?, g1]
  have t1 : decide (l.length ≤ s) = false := by simp; omega
  have q1 : (0 : Int) ≤ (s : Int) := by omega
  have q2 : (s : Int) < (l.length : Int) := by omega
  generalize l.getD s 0 = x at *
  clear g1 g2 g3 g4 hge hb
  go_enter Tryz.func114, Tryz.ntmps114
  go_wp2
  go_ret
  exact ⟨rfl, rfl⟩
set_option maxRecDepth 100000 in
set_option maxHeartbeats 1600000 in
theorem prefix_put {P : Nat → Prop} {w : World} {lo hi tp p : Nat} {l : List Nat} {st : Wst} (hT : Tb lo hi w tp l) (hW : Wr P w p st) (hP : ∀ b, lo ≤ b → b < hi → ¬ P b) (s n : Nat) (hs : s < l.length) (hn : l.getD s 0 = n) (h0 : 0 < n) (h20 : n ≤ 20)
    (hx : (words l).getD s 0 < 4294967296) (hb : st.2 + n ≤ 100000000) :
    Calls Tryz.prog 78 #[.pointer (some ⟨tp, 0, none⟩), .pointer (some ⟨p, 0, none⟩), .int .i64 (s : Nat), .func (Fn.func 18) #[.pointer (some ⟨p, 0, none⟩)] #[]] w fun e w' =>
      e = .returned (.int .i64 0) ∧ Only P w w' ∧ Wr P w' p (addWord st ((words l).getD s 0) n n) := by
  have HB := Lib.hid (table_bits w lo hi tp l s hT hs (by omega))
  rw [hn] at HB
  obtain ⟨x, hxe⟩ : ∃ x, (words l).getD s 0 = x := ⟨_, rfl⟩
  rw [hxe] at hx ⊢
  have HT := Lib.hid hT
  have HW := Lib.hid hW
  have HP := Lib.hid hP
  have t0 : ((n : Int) == 0) = false := beq_eq_false_iff_ne.2 (by omega)
  obtain ⟨n1, hn1⟩ : ∃ n1, n = n1 + 1 := ⟨n - 1, by omega⟩
  have q0 : (n : Int) - 1 = (n1 : Int) := by omega
  replace hn1 := Lib.hid hn1
  have HXE := Lib.hid hxe
  have hwl := words_length l
  clear hT hW hP hxe
  go_enter Tryz.func78, Tryz.ntmps78
  go_wp2_with fail
  refine HB.out.mono ?_
  rintro e w1 ⟨rfl, rfl⟩
  go_wp2_with fail
  go_loopw [10] (fun c A => Only P w1 A ∧ ((∃ r : Nat, c = .int .i64 (r : Nat) ∧ r < n ∧ Wr P A p (addWord st x n (n - 1 - r))) ∨ (c = .int .i64 (-1) ∧ Wr P A p (addWord st x n n)))) (fun c _ => (intOf c + 1).toNat)
  case atStart => exact ⟨Only.refl _ _, .inl ⟨n1, rfl, by have := hn1.out; omega, by rw [show n - 1 - n1 = 0 by have := hn1.out; omega]; exact HW.out⟩⟩
  case round =>
    clear HB q0 t0
    obtain ⟨ho, hrel⟩ := hrel
    have HO := Lib.hid ho
    rcases hrel with ⟨r, rfl, hr, hw⟩ | ⟨rfl, hw⟩
    · have HW2 := Lib.hid hw
      have HT2 := Lib.hid (HT.out.only ho HP.out)
      obtain ⟨a1, c1, a2, c2, mb, nn, g1, g2, g3, g4, _⟩ := HT2.out
      obtain ⟨b, off, rfl, hbb, hck⟩ := g3.at (i := s) (by rw [hwl]; exact hs)
      have hge : (words l)[s]'(by rw [hwl]; exact hs) = x := by rw [← HXE.out]; simp [List.getD, List.getElem?_eq_getElem (show s < (words l).length by rw [hwl]; exact hs)]
      rw [hge] at hck
      have k1 : wr.cell? ⟨tp, 1, none⟩ = some (.slice (some ⟨b, off, none⟩) l.length c2) := by simp [World.cell?, g1]
      obtain ⟨y, hy⟩ : ∃ y, x / 2 ^ r = y := ⟨_, rfl⟩
      have hy2 : y < 4294967296 := by rw [← hy]; exact Nat.lt_of_le_of_lt (Nat.div_le_self _ _) hx
      have q1 : (x : Int) / 2 ^ r = (y : Int) := by rw [← hy]; simp
      obtain ⟨z, hz⟩ : ∃ z, y % 2 = z := ⟨_, rfl⟩
      have q2 : bits .and .u32 (y : Int) 1 = (z : Int) := by rw [and1 y hy2, hz]
      have q3 : (0 : Int) ≤ (s : Int) := by omega
      have q4 : (s : Int) < (l.length : Int) := by omega
      have q5 : (0 : Int) ≤ (r : Int) := by omega
      have hr32 : r ≤ 32 := by omega
      have hll : (addWord st x n (n - 1 - r)).2 + 1 ≤ 100000000 := by rw [addWord_len]; omega
      have HPU := Lib.hid (show Calls Tryz.prog 18 #[.pointer (some ⟨p, 0, none⟩), .int .u32 (z : Nat), .int .i64 1] wr _ from lsb_put HW2.out z 1 (by decide) (by omega) hll)
      have HA : Hid (addNum (addWord st x n (n - 1 - r)) z 1 = addWord st x n (n - r)) := by
        unfold Hid
        rw [show n - r = (n - 1 - r) + 1 by omega]
        show _ = addNum _ (x / 2 ^ (n - 1 - (n - 1 - r)) % 2) 1
        rw [show n - 1 - (n - 1 - r) = r by omega, hy, hz]
      rw [HA.out] at HPU
      clear ho hw HW2 HT2 g1 g2 g3 g4 hge hll HA hy hz hbb
      go_wp2_with (go_at_call 18; refine HPU.out.mono ?_; rintro e w2 ⟨rfl, ho2, hw2⟩; replace ho2 := Lib.hid ho2; replace hw2 := Lib.hid hw2)
      go_roundw
      case rel =>
        refine ⟨HO.out.trans ho2.out, ?_⟩
        cases r with
        | zero => exact .inr ⟨rfl, hw2.out⟩
        | succ r => exact .inl ⟨r, congrArg (Value.int IntKind.i64) (by omega), by omega, by rw [show n - 1 - r = n - (r + 1) by omega]; exact hw2.out⟩
      case measure => simp [intOf]
    · have HW2 := Lib.hid hw
      clear ho hw
      go_wp2
      go_ret
      exact ⟨rfl, HO.out, HW2.out⟩
theorem prefix_putLow {P : Nat → Prop} {w : World} {lo hi tp p : Nat} {l : List Nat} {st : Wst} (hT : Tb lo hi w tp l) (hW : Wr P w p st) (hP : ∀ b, lo ≤ b → b < hi → ¬ P b) (s : Nat) (hs : s < l.length) (h0 : 0 < l.getD s 0) (h20 : l.getD s 0 ≤ 20)
    (hx : (words l).getD s 0 < 4294967296) (hb : st.2 + l.getD s 0 ≤ 100000000) :
    Calls Tryz.prog 42 #[.pointer (some ⟨tp, 0, none⟩), .pointer (some ⟨p, 0, none⟩), .int .i64 (s : Nat)] w fun e w' =>
      e = .returned (.int .i64 0) ∧ Only P w w' ∧ Wr P w' p (addSym l st s) := by
  have HC := Lib.hid (prefix_put hT hW hP s _ hs rfl h0 h20 hx hb)
  have hmf : ∀ (fn : Fn) (first cap : Array Value) (w : World), (Instr.makeFunc fn first cap).run Tryz.prog w = .ok (.func fn first cap) w := fun _ _ _ _ => rfl
  have HD : Hid (addWord st ((words l).getD s 0) (l.getD s 0) (l.getD s 0) = addSym l st s) := rfl
  rw [HD.out] at HC
  clear hT hW hP h0 h20 hx hb
  go_enter Tryz.func42, Tryz.ntmps42
  go_wp2_with fail
  refine HC.out.mono ?_
  rintro e w2 ⟨rfl, ho, hw⟩
  have HO := Lib.hid ho
  have HW := Lib.hid hw
  clear ho hw HC
  go_wp2
  go_ret
  exact ⟨rfl, HO.out, HW.out⟩
theorem table_bits_no (w : World) (lo hi p : Nat) (l : List Nat) (s : Nat) (h : Tb lo hi w p l) (hs : l.length ≤ s) :
    Calls Tryz.prog 114 #[.pointer (some ⟨p, 0, none⟩), .int .i64 (s : Nat)] w fun e w' => e = .returned (.int .i64 0) ∧ w' = w := by
  obtain ⟨a1, c1, a2, c2, mb, nn, g1, g2, g3, g4, _⟩ := h
  have c0 : w.cell? ⟨p, 0, none⟩ = some (.slice a1 l.length c1) := by simp [World.cell?, g1]
  have t1 : decide (l.length ≤ s) = true := by simpa using hs
  clear g1 g2 g3 g4 hs
  go_enter Tryz.func114, Tryz.ntmps114
  go_wp2
  go_ret
  exact ⟨rfl, rfl⟩
def addSymE (l : List Nat) (st : Wst) (s : Nat) : Wst := if l.getD s 0 = 0 then st else addSym l st s
theorem table_bits_all (w : World) (lo hi p : Nat) (l : List Nat) (s : Nat) (h : Tb lo hi w p l) (hx : ∀ x ∈ l, x ≤ 20) :
    Calls Tryz.prog 114 #[.pointer (some ⟨p, 0, none⟩), .int .i64 (s : Nat)] w fun e w' => e = .returned (.int .i64 (l.getD s 0 : Nat)) ∧ w' = w := by
  by_cases hs : s < l.length
  · exact table_bits w lo hi p l s h hs (by have := getD_le hx s; omega)
  · have h0 : l.getD s 0 = 0 := by simp [List.getD, List.getElem?_eq_none (show l.length ≤ s by omega)]
    rw [h0]
    exact table_bits_no w lo hi p l s h (by omega)
theorem prefix_putLow0 (w : World) (lo hi tp p : Nat) (l : List Nat) (s : Nat) (hT : Tb lo hi w tp l) (hx : ∀ x ∈ l, x ≤ 20) (h0 : l.getD s 0 = 0) :
    Calls Tryz.prog 42 #[.pointer (some ⟨tp, 0, none⟩), .pointer (some ⟨p, 0, none⟩), .int .i64 (s : Nat)] w fun e w' => e = .returned (.int .i64 5) ∧ w' = w := by
  have HB := Lib.hid (table_bits_all w lo hi tp l s hT hx)
  rw [h0] at HB
  have hmf : ∀ (fn : Fn) (first cap : Array Value) (w : World), (Instr.makeFunc fn first cap).run Tryz.prog w = .ok (.func fn first cap) w := fun _ _ _ _ => rfl
  clear hT hx h0
  go_enter Tryz.func42, Tryz.ntmps42
  go_wp2_with fail
  go_enter Tryz.func78, Tryz.ntmps78
  go_wp2_with fail
  refine HB.out.mono ?_
  rintro e w1 ⟨rfl, rfl⟩
  go_wp2
  go_ret
  go_wp2
theorem prefix_putLowE {P : Nat → Prop} {w : World} {lo hi tp p : Nat} {l : List Nat} {st : Wst} (hT : Tb lo hi w tp l) (hW : Wr P w p st) (hP : ∀ b, lo ≤ b → b < hi → ¬ P b) (h20 : ∀ x ∈ l, x ≤ 20) (hwt : weight l ≤ 2 ^ 20) (s : Nat) (hb : st.2 + 20 ≤ 100000000) :
    Calls Tryz.prog 42 #[.pointer (some ⟨tp, 0, none⟩), .pointer (some ⟨p, 0, none⟩), .int .i64 (s : Nat)] w fun e w' =>
      ∃ c : Nat, e = .returned (.int .i64 (c : Nat)) ∧ Only P w w' ∧ Wr P w' p (addSymE l st s) := by
  unfold addSymE
  by_cases h0 : l.getD s 0 = 0
  · rw [if_pos h0]
    refine (prefix_putLow0 w lo hi tp p l s hT h20 h0).mono ?_
    rintro e w' ⟨rfl, rfl⟩
    exact ⟨5, rfl, Only.refl _ _, hW⟩
  · rw [if_neg h0]
    have hs : s < l.length := by
      rcases Nat.lt_or_ge s l.length with h | h
      · exact h
      · exact absurd (by simp [List.getD, List.getElem?_eq_none h]) h0
    have hle := getD_le h20 s
    have hx : (words l).getD s 0 < 4294967296 := by
      have h1 := word_small l s hs h20 hwt
      have h2 : (words l).getD s 0 = word l s := by simp [List.getD, List.getElem?_eq_getElem (show s < (words l).length by rw [words_length]; exact hs), words_getElem]
      have h3 : word l s < 2 ^ l.getD s 0 := by
        rcases Nat.lt_or_ge (word l s) (2 ^ l.getD s 0) with h | h
        · exact h
        · have := Nat.div_pos h (Nat.pow_pos (by decide)); omega
      have h4 : 2 ^ l.getD s 0 ≤ 2 ^ 20 := Nat.pow_le_pow_right (by decide) hle
      omega
    refine (prefix_putLow hT hW hP s hs (by omega) hle hx (by omega)).mono ?_
    rintro e w' ⟨rfl, h1, h2⟩
    exact ⟨0, rfl, h1, h2⟩
theorem Wr.below {P : Nat → Prop} {w w' : World} {p : Nat} {s : Wst} (h : Wr P w p s) (hb : Below w.heap.size w w') : Wr P w' p s := by
  have hlt := h.lt
  obtain ⟨⟨a, c, h1, h2, h3, h4, h5⟩, h6⟩ := h
  exact ⟨⟨a, c, (hb.block p hlt).trans h1, h2.below hb, h3, h4, fun b hb' => h5 b (Nat.le_trans hb.size hb')⟩, h6⟩
theorem Wr.narrow {P : Nat → Prop} {w w' : World} {p : Nat} {s : Wst} (h : Wr P w p s) (hb : Below w.heap.size w w') : Wr (Sub P w.heap.size w'.heap.size) w' p s := by
  have hlt := h.lt
  obtain ⟨⟨a, c, h1, h2, h3, h4, h5⟩, h6⟩ := h
  have hz := hb.size
  refine ⟨⟨a, c, (hb.block p hlt).trans h1, h2.below hb, ⟨h3, by omega⟩, fun g hg => ⟨⟨(h4 g hg).1, ?_⟩, (h4 g hg).2⟩, fun b hb' => ⟨h5 b (by omega), by omega⟩⟩, h6⟩
  rcases h2.form with ⟨rfl, _, _⟩ | ⟨g', rfl, _, hg'⟩
  · cases hg
  · cases hg; omega
theorem Wr.widen {P : Nat → Prop} {lo hi : Nat} {w : World} {p : Nat} {s : Wst} (h : Wr (Sub P lo hi) w p s) : Wr P w p s := by
  obtain ⟨⟨a, c, h1, h2, h3, h4, h5⟩, h6⟩ := h
  exact ⟨⟨a, c, h1, h2, h3.1, fun g hg => ⟨(h4 g hg).1.1, (h4 g hg).2⟩, fun b hb => (h5 b hb).1⟩, h6⟩
theorem addSymE_len {l : List Nat} (h : ∀ x ∈ l, x ≤ 20) (st : Wst) (s : Nat) : (addSymE l st s).2 ≤ st.2 + 20 := by
  unfold addSymE
  split
  · omega
  · unfold addSym
    rw [addWord_len]
    have := getD_le h s
    omega
end Go.Proofs.YtendielanacflaaGreat

namespace Go.Proofs.YtendielanacflaaGreat.M10
open M01 M04 M06
set_option linter.unusedVariables false
def rdN (bs : List Nat) (n at_ : Nat) : Option (Nat × Nat) := if at_ + n ≤ 8 * bs.length then some (num bs at_ n, at_ + n) else none
def decF (F : TF) (bs : List Nat) : Nat → Nat → Nat → Nat → Option (Nat × Nat)
  | 0, _, _, _ => none
  | f + 1, x, k, at_ => match F x k with
    | none => none
    | some s => if 0 ≤ s then some (s.toNat, at_) else if at_ + 1 ≤ 8 * bs.length then decF F bs f (2 * x + bit bs at_) (k + 1) (at_ + 1) else none
def tabOf (l : List Nat) : TF := tabI l (words l) l.length
def sym (l bs : List Nat) (at_ : Nat) : Option (Nat × Nat) := decF (tabOf l) bs 22 0 0 at_
def Good (l : List Nat) (F : TF) (i : Nat) : Prop :=
  ∀ x k v, F x k = some v → k ≤ 20 ∧ (v = -1 ∨ ∃ s : Nat, v = s ∧ s < i ∧ x = (words l).getD s 0 ∧ k = l.getD s 0 ∧ 0 < k)
theorem Good.tabK {l : List Nat} {F : TF} {i : Nat} (h : Good l F i) (x n : Nat) (hn : n ≤ 20) : ∀ k, k ≤ n → Good l (tabK x n F k) i := by
  intro k
  induction k with
  | zero => exact fun _ => h
  | succ k ih =>
    intro hk x' k' v hv
    unfold M06.tabK putF at hv
    split at hv
    · next hc =>
      simp only [Option.some.injEq] at hv
      exact ⟨by omega, .inl hv.symm⟩
    · exact ih (by omega) x' k' v hv
theorem good_tabI (l : List Nat) (h20 : ∀ x ∈ l, x ≤ 20) : ∀ i, i ≤ l.length → Good l (tabI l (words l) i) i := by
  intro i
  induction i with
  | zero => intro _ x k v hv; simp [tabI] at hv
  | succ i ih =>
    intro hi
    have h1 : Good l (tabI l (words l) i) (i + 1) := fun x k v hv => by
      obtain ⟨a, b⟩ := ih (by omega) x k v hv
      refine ⟨a, ?_⟩
      rcases b with b | ⟨s, b1, b2, b3⟩
      · exact .inl b
      · exact .inr ⟨s, b1, by omega, b3⟩
    unfold tabI
    split
    · exact h1
    · next h0 =>
      have hle : l.getD i 0 ≤ 20 := getD_le h20 i
      refine Good.tabK ?_ _ _ hle _ (Nat.le_refl _)
      intro x k v hv
      unfold putF at hv
      split at hv
      · next hc =>
        simp only [Option.some.injEq] at hv
        exact ⟨by omega, .inr ⟨i, hv.symm, by omega, hc.1, hc.2, by omega⟩⟩
      · exact h1 x k v hv
theorem good_tab (l : List Nat) (h20 : ∀ x ∈ l, x ≤ 20) : Good l (tabOf l) l.length := good_tabI l h20 _ (Nat.le_refl _)
def repOut (d : Nat) (out : List Nat) : Nat → List Nat
  | 0 => out
  | n + 1 => repOut d out n ++ [(repOut d out n).getD ((repOut d out n).length - d) 0]
theorem repOut_len (d : Nat) (out : List Nat) (n : Nat) : (repOut d out n).length = out.length + n := by
  induction n with
  | zero => rfl
  | succ n ih => simp [repOut, ih]; omega
def stoL (bs : List Nat) : Nat → Nat → List Nat → Option (Nat × List Nat)
  | 0, at_, out => some (at_, out)
  | n + 1, at_, out => if at_ + 8 ≤ 8 * bs.length then stoL bs n (at_ + 8) (out ++ [num bs at_ 8]) else none
def stored0 (bs : List Nat) (at_ : Nat) (out : List Nat) : Option (Nat × List Nat) :=
  if at_ + 32 ≤ 8 * bs.length then if num bs (at_ + 16) 16 = 65535 - num bs at_ 16 then stoL bs (num bs at_ 16) (at_ + 32) out else none else none
def stoB (bs : List Nat) (at_ : Nat) (out : List Nat) : Option (Nat × List Nat) := stored0 bs ((at_ + 7) / 8 * 8) out
end Go.Proofs.YtendielanacflaaGreat.M10

namespace Go.Proofs.YtendielanacflaaGreat
open Go.RowKit
set_option linter.unusedVariables false
def fixN (i : Nat) : Nat := if 143 < i ∧ i < 256 then 9 else if 255 < i ∧ i < 280 then 7 else 8
def partL (f : Nat → Nat) (n k : Nat) : List Nat := (List.range n).map fun i => if i < k then f i else 0
theorem partL_len (f : Nat → Nat) (n k : Nat) : (partL f n k).length = n := by simp [partL]
theorem partL_zero (f : Nat → Nat) (n : Nat) : partL f n 0 = List.replicate n 0 := by
  apply List.ext_getElem?
  intro i
  simp only [partL, List.getElem?_map, List.getElem?_replicate, Nat.not_lt_zero, if_false]
  by_cases h : i < n
  · simp [h]
  · simp [h]
theorem partL_succ (f : Nat → Nat) (n k : Nat) (hk : k < n) : (partL f n k).set k (f k) = partL f n (k + 1) := by
  apply List.ext_getElem?
  intro i
  rw [List.getElem?_set, partL_len]
  unfold partL
  by_cases he : k = i
  · subst he; rw [if_pos rfl, if_pos hk]; simp [hk]
  · rw [if_neg he]
    by_cases h : i < n
    · simp only [List.getElem?_map, List.getElem?_range h, Option.map_some, Option.some.injEq]
      by_cases h2 : i < k
      · rw [if_pos h2, if_pos (by omega)]
      · rw [if_neg h2, if_neg (by omega)]
    · simp [h]
theorem part_at {A : World} {base g n k : Nat} {f : Nat → Nat} (h : OwnN 5 .u8 A base (some ⟨g, 0, none⟩) n (partL f n k)) (s : Nat) (hs : s < n) : (∃ v, A.cell? ⟨g, s, none⟩ = some v) ∧ A.frozen? ⟨g, s, none⟩ = false := by
  obtain ⟨g', he, _, _, hc, hf⟩ := h.at (i := s) (by rw [partL_len]; exact hs)
  simp only [Option.some.injEq, Addr.mk.injEq, and_true] at he
  subst he
  exact ⟨⟨_, hc⟩, hf⟩
theorem part_put {A : World} {base g n k : Nat} {f : Nat → Nat} (h : OwnN 5 .u8 A base (some ⟨g, 0, none⟩) n (partL f n k)) (hk : k < n) : OwnN 5 .u8 (A.setCell ⟨g, k, none⟩ (.int .u8 (f k : Nat))) base (some ⟨g, 0, none⟩) n (partL f n (k + 1)) := by
  rw [← partL_succ f n k hk]
  exact (OwnN.stored h _ _).1
end Go.Proofs.YtendielanacflaaGreat

namespace Go.Proofs.YtendielanacflaaGreat
open Go.RowKit M01 M04 M10
set_option linter.unusedVariables false
def hitF (l : List Nat) (x n j : Nat) : Prop := 0 < l.getD j 0 ∧ n ≤ l.getD j 0 ∧ word l j / 2 ^ (l.getD j 0 - n) = x
instance (l : List Nat) (x n j : Nat) : Decidable (hitF l x n j) := by unfold hitF; infer_instance
theorem tabK_eq (x n : Nat) (F : M06.TF) (x' k' : Nat) : ∀ k, M06.tabK x n F k x' k' = if k' < k ∧ x' = x / 2 ^ (n - k') then some (-1) else F x' k' := by
  intro k
  induction k with
  | zero => simp [M06.tabK]
  | succ k ih =>
    unfold M06.tabK M06.putF
    rw [ih]
    by_cases h : x' = x / 2 ^ (n - k) ∧ k' = k
    · rw [if_pos h, if_pos (by obtain ⟨h1, rfl⟩ := h; exact ⟨by omega, h1⟩)]
    · rw [if_neg h]
      by_cases h2 : k' < k ∧ x' = x / 2 ^ (n - k')
      · rw [if_pos h2, if_pos ⟨by omega, h2.2⟩]
      · rw [if_neg h2, if_neg]
        rintro ⟨h3, h4⟩
        by_cases e : k' = k
        · subst e; exact h ⟨h4, rfl⟩
        · exact h2 ⟨by omega, h4⟩
theorem tabI_eq (l : List Nat) (i x n : Nat) (hi : i < l.length) : M06.tabI l (words l) (i + 1) x n =
    if n < l.getD i 0 ∧ x = word l i / 2 ^ (l.getD i 0 - n) then some (-1) else if x = word l i ∧ n = l.getD i 0 ∧ 0 < l.getD i 0 then some (i : Int) else M06.tabI l (words l) i x n := by
  have hw : (words l).getD i 0 = word l i := by rw [List.getD_eq_getElem?_getD, List.getElem?_eq_getElem (by rw [words_length]; exact hi), Option.getD_some, words_getElem]
  rw [M06.tabI]
  by_cases h0 : l.getD i 0 = 0
  · rw [if_pos h0, if_neg (by omega), if_neg (by omega)]
  · rw [if_neg h0, tabK_eq, hw]
    unfold M06.putF
    by_cases h : n < l.getD i 0 ∧ x = word l i / 2 ^ (l.getD i 0 - n)
    · rw [if_pos h, if_pos h]
    · rw [if_neg h, if_neg h]
      by_cases h2 : x = word l i ∧ n = l.getD i 0
      · rw [if_pos h2, if_pos ⟨h2.1, h2.2, by omega⟩]
      · rw [if_neg h2, if_neg (fun h3 => h2 ⟨h3.1, h3.2.1⟩)]
theorem tab_full (l : List Nat) (h20 : ∀ x ∈ l, x ≤ 20) (x n : Nat) : ∀ i, i ≤ l.length →
    (∀ j, j < i → hitF l x n j → M06.tabI l (words l) i x n = if n = l.getD j 0 then some (j : Int) else some (-1)) ∧ ((∀ j, j < i → ¬ hitF l x n j) → M06.tabI l (words l) i x n = none) := by
  intro i
  induction i with
  | zero => intro _; exact ⟨fun j hj => by omega, fun _ => rfl⟩
  | succ i ih =>
    intro hi
    obtain ⟨ih1, ih2⟩ := ih (by omega)
    rw [tabI_eq l i x n hi]
    refine ⟨fun j hj hh => ?_, fun hn => ?_⟩
    · obtain ⟨h1, h2, h3⟩ := hh
      by_cases e : j = i
      · subst e
        by_cases hlt : n < l.getD j 0
        · rw [if_pos ⟨hlt, h3.symm⟩, if_neg (by omega)]
        · have hn : n = l.getD j 0 := by omega
          rw [if_neg (by omega), if_pos hn, if_pos ⟨by rw [← h3, hn, Nat.sub_self, Nat.pow_zero, Nat.div_one], hn, h1⟩]
      · by_cases hc1 : n < l.getD i 0 ∧ x = word l i / 2 ^ (l.getD i 0 - n)
        · rw [if_pos hc1, if_neg]
          intro hn
          have := word_apart l j i (by omega) hi h20 (by omega) (by omega) (by omega)
          rw [← hn, ← hc1.2] at this
          rw [← hn, Nat.sub_self] at h3
          simp at h3
          exact this h3.symm
        · rw [if_neg hc1, if_neg]
          · exact ih1 j (by omega) ⟨h1, h2, h3⟩
          · rintro ⟨h4, h5, h6⟩
            have := word_apart l i j hi (by omega) h20 (by omega) (by omega) (by omega)
            rw [← h5, h3] at this
            exact this h4
    · rw [if_neg (fun h => hn i (by omega) ⟨by omega, by omega, h.2.symm⟩), if_neg (fun h => hn i (by omega) ⟨h.2.2, by omega, by rw [h.2.1, Nat.sub_self]; simp [h.1]⟩)]
      exact ih2 fun j hj => hn j (by omega)
theorem tabOf_hit (l : List Nat) (h20 : ∀ x ∈ l, x ≤ 20) (x n j : Nat) (hj : j < l.length) (h : hitF l x n j) : tabOf l x n = if n = l.getD j 0 then some (j : Int) else some (-1) :=
  (tab_full l h20 x n _ (Nat.le_refl _)).1 j hj h
theorem decF_hit (l bs : List Nat) (h20 : ∀ x ∈ l, x ≤ 20) (f x n at_ j : Nat) (hj : j < l.length) (h : hitF l x n j) (hn : n = l.getD j 0) : decF (tabOf l) bs (f + 1) x n at_ = some (j, at_) := by
  unfold decF
  rw [tabOf_hit l h20 x n j hj h, if_pos hn]
  simp
theorem decF_on (l bs : List Nat) (h20 : ∀ x ∈ l, x ≤ 20) (f x n at_ j : Nat) (hj : j < l.length) (h : hitF l x n j) (hn : n ≠ l.getD j 0) : decF (tabOf l) bs (f + 1) x n at_ = if at_ + 1 ≤ 8 * bs.length then decF (tabOf l) bs f (2 * x + bit bs at_) (n + 1) (at_ + 1) else none := by
  rw [decF, tabOf_hit l h20 x n j hj h, if_neg hn]
  rfl
end Go.Proofs.YtendielanacflaaGreat

namespace Go.Proofs.YtendielanacflaaGreat.M09
open M01 M04 M06 M07 M10
set_option linter.unusedVariables false
def ordL : List Nat := [16, 17, 18, 0, 8, 7, 9, 6, 10, 5, 11, 4, 12, 3, 13, 2, 14, 1, 15]
def lensL (bs : List Nat) (p : Nat) : Nat → List Nat
  | 0 => List.replicate 19 0
  | k + 1 => (lensL bs p k).set (ordL.getD k 0) (num bs (p + 3 * k) 3)
theorem lensL_len (bs : List Nat) (p k : Nat) : (lensL bs p k).length = 19 := by
  induction k with
  | zero => rfl
  | succ k ih => simp [lensL, ih]
def sgStep (lens bs : List Nat) (tot : Nat) (k : Nat → Nat → List Sg → Option (List Sg × Nat)) (at_ said : Nat) (acc : List Sg) : Option (List Sg × Nat) :=
  if said < tot then
    match sym lens bs at_ with
    | none => none
    | some (c, a1) => if a1 + rbits c ≤ 8 * bs.length then k (a1 + rbits c) (said + times (c, num bs a1 (rbits c))) (acc ++ [(c, num bs a1 (rbits c))]) else none
  else some (acc, at_)
def sgL (lens bs : List Nat) (tot : Nat) : Nat → Nat → Nat → List Sg → Option (List Sg × Nat)
  | 0 => fun _ _ _ => none
  | f + 1 => sgStep lens bs tot (sgL lens bs tot f)
theorem sgL_succ (lens bs : List Nat) (tot f at_ said : Nat) (acc : List Sg) : sgL lens bs tot (f + 1) at_ said acc = sgStep lens bs tot (sgL lens bs tot f) at_ said acc := rfl
def hdrE (a tot : Nat) (R : Option (List Sg × Nat)) : Option ((List Nat × List Nat) × Nat) :=
  match R with
  | none => none
  | some (l, at2) => match unp tot l [] with
    | none => none
    | some all => if mayH (all.take a) (all.drop a) = true then some ((all.take a, all.drop a), at2) else none
def hdrB (bs : List Nat) (a b n p : Nat) : Option ((List Nat × List Nat) × Nat) :=
  if 8 * bs.length < p + 3 * n then none else if (clsE (lensL bs p n)).1 ≠ 2 then none else hdrE a (a + b) (sgL (lensL bs p n) bs (a + b) 400 (p + 3 * n) 0 [])
def hdr (bs : List Nat) (at_ : Nat) : Option ((List Nat × List Nat) × Nat) :=
  if 8 * bs.length < at_ + 14 then none else hdrB bs (num bs at_ 5 + 257) (num bs (at_ + 5) 5 + 1) (num bs (at_ + 10) 4 + 4) (at_ + 14)
end Go.Proofs.YtendielanacflaaGreat.M09
