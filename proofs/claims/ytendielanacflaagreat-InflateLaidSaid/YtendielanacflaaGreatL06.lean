/- Plain mathematics of layer 1: bits of bytes, the least first. Contracts of package lsb: a reader. Plain mathematics of layer 6: what a table of words holds, symbol by symbol. A map from words (bits, how many) to numbers, as a function. Plain mathematics of layer 4: words of a code do not begin with one another; a row of 20 bits begins with one word, where the code is full. prefix.New: contract. Words that all seats use: of the model's parts, and of the layers. kraft.Single: contract. Plain mathematics of layer 7: signs. -/
import Derived.Test.YtendielanacflaaGreatL04
import Derived.Test.YtendielanacflaaGreatL05
import Derived.Test.YtendielanacflaaGreatL01
import Derived.Test.YtendielanacflaaGreatL02
import Derived.Test.YtendielanacflaaGreatL03
import Derived.Lib.Hide
import Derived.Laws.Bits64b
import Derived.Test.YtendielanacflaaGreatChecked
import Derived.Maps.Own
import Derived.Maps.OwnOps
import Derived.Maps.OwnSet
import Derived.Maps.Views
import Derived.DeepKeys4
import Derived.WalkArith
import Derived.StillTailTactics
import Derived.Maps.AppendAt
import Derived.WalkLawsBesides
import Derived.Lib.SlicesS
namespace Go.Proofs.YtendielanacflaaGreat.M01
set_option linter.unusedVariables false
def bit (bs : List Nat) (i : Nat) : Nat := bs.getD (i / 8) 0 / 2 ^ (i % 8) % 2
theorem bit_lt (bs : List Nat) (i : Nat) : bit bs i < 2 := Nat.mod_lt _ (by decide)
def num (bs : List Nat) (at_ : Nat) : Nat → Nat
  | 0 => 0
  | n + 1 => num bs at_ n + bit bs (at_ + n) * 2 ^ n
theorem num_lt (bs : List Nat) (at_ n : Nat) : num bs at_ n < 2 ^ n := by
  induction n with
  | zero => simp [num]
  | succ n ih =>
    have := bit_lt bs (at_ + n)
    simp only [num, Nat.pow_succ]
    have h : bit bs (at_ + n) * 2 ^ n ≤ 1 * 2 ^ n := Nat.mul_le_mul_right _ (by omega)
    omega
theorem or_add (v b k : Nat) (hv : v < 2 ^ k) : v ||| b * 2 ^ k = v + b * 2 ^ k := by
  rw [Nat.or_comm, Nat.mul_comm, ← Nat.two_pow_add_eq_or_of_lt hv]
  omega
end Go.Proofs.YtendielanacflaaGreat.M01

namespace Go.Proofs.YtendielanacflaaGreat
open Go.RowKit Go.Shelf M01
set_option linter.unusedVariables false
theorem bits_and_u32 (a b : Nat) (ha : a < 4294967296) (hb : b < 4294967296) : bits .and .u32 (a : Int) (b : Int) = ((a &&& b : Nat) : Int) := by
  have hx : a &&& b < 2 ^ 32 := Nat.and_lt_two_pow _ (by omega)
  have h1 : (BitVec.ofInt 32 (a : Int)).toNat = a := by
    rw [BitVec.ofInt_natCast, BitVec.toNat_ofNat]; exact Nat.mod_eq_of_lt (by omega)
  have h2 : (BitVec.ofInt 32 (b : Int)).toNat = b := by
    rw [BitVec.ofInt_natCast, BitVec.toNat_ofNat]; exact Nat.mod_eq_of_lt (by omega)
  show IntKind.u32.wrap ((BitVec.ofInt 32 (a : Int) &&& BitVec.ofInt 32 (b : Int)).toNat : Int) = _
  rw [BitVec.toNat_and, h1, h2, IntKind.wrap_u32]
  omega
theorem bits_or_u32 (a b : Nat) (ha : a < 4294967296) (hb : b < 4294967296) : bits .or .u32 (a : Int) (b : Int) = ((a ||| b : Nat) : Int) := by
  have hx : a ||| b < 2 ^ 32 := Nat.or_lt_two_pow (by omega) (by omega)
  have h1 : (BitVec.ofInt 32 (a : Int)).toNat = a := by
    rw [BitVec.ofInt_natCast, BitVec.toNat_ofNat]; exact Nat.mod_eq_of_lt (by omega)
  have h2 : (BitVec.ofInt 32 (b : Int)).toNat = b := by
    rw [BitVec.ofInt_natCast, BitVec.toNat_ofNat]; exact Nat.mod_eq_of_lt (by omega)
  show IntKind.u32.wrap ((BitVec.ofInt 32 (a : Int) ||| BitVec.ofInt 32 (b : Int)).toNat : Int) = _
  rw [BitVec.toNat_or, h1, h2, IntKind.wrap_u32]
  omega
theorem and_one (x r : Nat) (hx : x < 256) : bits .and .u32 ((x : Int) / 2 ^ r % 4294967296) 1 = ((x / 2 ^ r % 2 : Nat) : Int) := by
  have h0 : x / 2 ^ r ≤ x := Nat.div_le_self _ _
  have h1 : ((x : Int) / 2 ^ r % 4294967296) = ((x / 2 ^ r : Nat) : Int) := by
    have h2 : (2 : Int) ^ r = ((2 ^ r : Nat) : Int) := by simp
    rw [h2, ← Int.natCast_ediv]
    generalize x / 2 ^ r = y at *
    omega
  rw [h1]
  have := bits_and_u32 (x / 2 ^ r) 1 (by omega) (by omega)
  rw [Nat.and_one_is_mod] at this
  exact this
theorem or_step (v b k : Nat) (hv : v < 2 ^ k) (hb : b < 2) (hk : k < 32) : bits .or .u32 (v : Int) ((b : Int) * 2 ^ k % 4294967296) = ((v + b * 2 ^ k : Nat) : Int) := by
  have h2 : (2 : Int) ^ k = ((2 ^ k : Nat) : Int) := by simp
  have hp : 2 ^ k ≤ 2 ^ 31 := Nat.pow_le_pow_right (by decide) (by omega)
  have hbk : b * 2 ^ k ≤ 1 * 2 ^ k := Nat.mul_le_mul_right _ (by omega)
  rw [h2, ← Int.natCast_mul]
  have h3 : ((b * 2 ^ k : Nat) : Int) % 4294967296 = ((b * 2 ^ k : Nat) : Int) := by omega
  rw [h3, bits_or_u32 v (b * 2 ^ k) (by omega) (by omega), or_add v b k hv]
def Rd (w : World) (p : Nat) (bs : List Nat) (at_ : Nat) : Prop :=
  ∃ a cap, w.heap[p]? = some (.cells #[.slice a bs.length cap, .int .i64 (at_ : Nat)] 158 (0, 0)) ∧ RowN .u8 w a cap bs ∧ (∀ x ∈ bs, x < 256) ∧ bs.length ≤ 100000000 ∧ at_ ≤ 8 * bs.length ∧ ∀ x, a = some x → x.block < p
theorem rd_step {A : World} {p m cap : Nat} {bs : List Nat} {a : Option Addr} (hc : A.heap[p]? = some (.cells #[.slice a bs.length cap, .int .i64 (m : Nat)] 158 (0, 0))) (hr : RowN .u8 A a cap bs) (hb : ∀ x ∈ bs, x < 256) (hl : bs.length ≤ 100000000) (hne : ∀ x, a = some x → x.block < p) (m' : Nat) (hm : m' ≤ 8 * bs.length) (q : Nat) :
    Rd ((A.drewN q).setCell ⟨p, 1, none⟩ (.int .i64 (m' : Nat))) p bs m' ∧ Only (fun b => b = p) A ((A.drewN q).setCell ⟨p, 1, none⟩ (.int .i64 (m' : Nat))) := by
  refine ⟨⟨a, cap, (two_set (w := A.drewN q) hc).2, ?_, hb, hl, hm, hne⟩, ?_⟩
  · refine hr.same (by simp [World.setCell, World.drewN]) (fun x h0 hx => ?_)
    exact Below.heap_setCell (A.drewN q) ⟨p, 1, none⟩ _ _ (Nat.ne_of_lt (hne x hx))
  · exact (⟨rfl, rfl, rfl, Nat.le_refl _, fun _ _ _ => rfl⟩ : Only (fun b => b = p) A (A.drewN q)).setCell (.inl rfl) _
set_option maxRecDepth 100000 in
set_option maxHeartbeats 1600000 in
theorem lsb_left (w : World) (p : Nat) (bs : List Nat) (at_ : Nat) (h : Rd w p bs at_) :
    Calls Tryz.prog 140 #[.pointer (some ⟨p, 0, none⟩)] w fun e w' => e = .returned (.int .i64 ((8 * bs.length - at_ : Nat) : Int)) ∧ ∃ q, w' = w.drewN q := by
  obtain ⟨a, cap, hc, hr, hb, hl, ha, hne⟩ := h
  obtain ⟨c0, c1, _, _⟩ := two_cell hc
  have HV : Hid (Ending.returned (.int .i64 (8 * (bs.length : Int) - (at_ : Int))) = Ending.returned (.int .i64 ((8 * bs.length - at_ : Nat) : Int))) := by
    unfold Hid; rw [show ((8 * bs.length - at_ : Nat) : Int) = 8 * (bs.length : Int) - (at_ : Int) by omega]
  clear hc hr hb hne
  go_enter Tryz.func140, Tryz.ntmps140
  go_wp2_with fail
  go_quiet (fail)
  go_wp2
  go_ret
  exact ⟨HV.out, _, rfl⟩
set_option maxRecDepth 100000 in
set_option maxHeartbeats 1600000 in
theorem lsb_get (w : World) (p : Nat) (bs : List Nat) (at_ n : Nat) (hn : n ≤ 32) (h : Rd w p bs at_) (hle : at_ + n ≤ 8 * bs.length) :
    Calls Tryz.prog 104 #[.pointer (some ⟨p, 0, none⟩), .int .i64 (n : Nat)] w fun e w' => e = .returned (.tuple #[.int .u32 (num bs at_ n : Nat), .int .i64 0]) ∧ Rd w' p bs (at_ + n) ∧ Only (fun b => b = p) w w' := by
  have HL := Lib.hid (lsb_left w p bs at_ h)
  have t1 : decide ((n : Int) < 0) = false := by simp
  have t2 : decide ((32 : Int) < (n : Int)) = false := by simp; omega
  have t3 : decide (((8 * bs.length - at_ : Nat) : Int) < (n : Int)) = false := by simp; omega
  have H := Lib.hid h
  have HLE := Lib.hid hle
  clear h hle
  go_enter Tryz.func104, Tryz.ntmps104
  go_wp2_with fail
  refine HL.out.mono ?_
  rintro e w1 ⟨rfl, q, rfl⟩
  generalize hd : ((8 * bs.length - at_ : Nat) : Int) = lf at *
  clear HL hd
  go_wp2_with fail
  go_loopw [6, 7, 8, 25] (fun v _ _ i A => ∃ k : Nat, k ≤ n ∧ i = .int .i64 k ∧ v = .int .u32 (num bs at_ k : Nat) ∧ Rd A p bs (at_ + k) ∧ Only (fun b => b = p) w A) (fun _ _ _ i _ => n - (intOf i).toNat)
  case atStart => exact ⟨0, by omega, rfl, rfl, H.out, ⟨rfl, rfl, rfl, Nat.le_refl _, fun _ _ _ => rfl⟩⟩
  case round =>
    obtain ⟨k, hk, rfl, rfl, hrd, honly⟩ := hrel
    have HON := Lib.hid honly
    clear honly
    by_cases hlt : k < n
    · have hle := HLE.out
      obtain ⟨a, cap, hc, hr, hb, hl, ha, hne⟩ := hrd
      obtain ⟨c0, c1, d0, d1⟩ := two_cell hc
      have hil : (at_ + k) / 8 < bs.length := by omega
      obtain ⟨bl, off, rfl, hbl, hck⟩ := hr.at hil
      have hx := hb _ (List.getElem_mem hil)
      have hbit : bit bs (at_ + k) = bs[(at_ + k) / 8] / 2 ^ ((at_ + k) % 8) % 2 := by
        unfold bit; simp [hil]
      have HNUM := Lib.hid (show num bs at_ (k + 1) = num bs at_ k + bit bs (at_ + k) * 2 ^ k from rfl)
      have hnl := num_lt bs at_ k
      have HB := Lib.hid hb
      have HC := Lib.hid hc
      have HR := Lib.hid hr
      have HNE := Lib.hid hne
      have HAT := Lib.hid (show at_ + k + 1 = at_ + (k + 1) from rfl)
      have hmle : at_ + k + 1 ≤ 8 * bs.length := by omega
      generalize hm : at_ + k = m at *
      clear hb hc hr hne hle ha HLE
      generalize bs[m / 8] = x at *
      obtain ⟨t, ht⟩ : ∃ t, m / 8 = t := ⟨_, rfl⟩
      obtain ⟨r, hr8⟩ : ∃ r, m % 8 = r := ⟨_, rfl⟩
      rw [ht] at hck hil
      rw [hr8] at hbit
      have hq1 : (m : Int) / 8 = (t : Int) := by omega
      have hq2 : (m : Int) % 8 = (r : Int) := by omega
      have hr7 : r < 8 := by omega
      have hml : m ≤ 800000000 := by omega
      have hti : (t : Int) < (bs.length : Int) := by omega
      clear ht hr8 hm
      go_wp2_with fail
      go_quiet (fail)
      simp only [and_one x r hx]
      rw [← hbit]
      have hbv := bit_lt bs m
      generalize bit bs m = bv at *
      have HOR := Lib.hid (or_step _ bv k hnl hbv (by omega))
      generalize num bs at_ k = v at *
      have hc1' : (wr.drewN nq).cell? ⟨p, 1, none⟩ = some (.int .i64 (m : Nat)) := c1
      have hd1' : (wr.drewN nq).frozen? ⟨p, 1, none⟩ = false := d1
      clear c0 c1 d0 d1 hck hq1 hq2 hbit hbv hnl
      go_wp2
      go_roundw
      case rel =>
        obtain ⟨k1, k2⟩ := rd_step HC.out HR.out HB.out hl HNE.out (m + 1) hmle nq
        rw [show ((m + 1 : Nat) : Int) = (m : Int) + 1 by simp] at k1 k2
        exact ⟨k + 1, by omega, by go_num, by rw [HOR.out, HNUM.out], by rw [← HAT.out]; exact k1, HON.out.trans k2⟩
      case measure => simp [intOf]; omega
    · obtain rfl : k = n := by omega
      have HRD := Lib.hid hrd
      clear hrd
      go_wp2
      go_ret2
      exact ⟨rfl, HRD.out, HON.out⟩
set_option maxRecDepth 100000 in
theorem lsb_get_no (w : World) (p : Nat) (bs : List Nat) (at_ n : Nat) (hn : n ≤ 32) (h : Rd w p bs at_) (hle : 8 * bs.length < at_ + n) :
    Calls Tryz.prog 104 #[.pointer (some ⟨p, 0, none⟩), .int .i64 (n : Nat)] w fun e w' => e = .returned (.tuple #[.int .u32 0, .int .i64 2]) ∧ ∃ q, w' = w.drewN q := by
  have HL := Lib.hid (lsb_left w p bs at_ h)
  have hat : at_ ≤ 8 * bs.length := by obtain ⟨_, _, _, _, _, _, ha, _⟩ := h; exact ha
  have t1 : decide ((n : Int) < 0) = false := by simp
  have t2 : decide ((32 : Int) < (n : Int)) = false := by simp; omega
  have t3 : decide (((8 * bs.length - at_ : Nat) : Int) < (n : Int)) = true := by simp; omega
  clear h hle
  go_enter Tryz.func104, Tryz.ntmps104
  go_wp2_with fail
  refine HL.out.mono ?_
  rintro e w1 ⟨rfl, q, rfl⟩
  generalize hd : ((8 * bs.length - at_ : Nat) : Int) = lf at *
  clear HL hd
  go_wp2
  go_ret2
  exact ⟨rfl, q, rfl⟩
theorem eqNilT (w : World) : (binOp .eql 24 (.slice none 0 0) (.slice none 0 0)).run Tryz.prog w = .ok (.bool true) w := by kernel_rfl
theorem eqNilF (x : Addr) (n c : Nat) (w : World) : (binOp .eql 24 (.slice (some x) n c) (.slice none 0 0)).run Tryz.prog w = .ok (.bool false) w := by kernel_rfl
set_option maxRecDepth 100000 in
theorem slices_clone (w : World) (a : Option Addr) (cap : Nat) (l : List Nat) (hr : RowN .u8 w a cap l) (hl : l.length ≤ 100000000) :
    Calls Tryz.prog 58 #[.slice a l.length cap] w fun e w' => ∃ a' c', e = .returned (.slice a' l.length c') ∧ OwnN 5 .u8 w' w.heap.size a' c' l ∧ Below w.heap.size w w' := by
  by_cases ha : a = none
  · subst ha
    have h0 : cap = 0 := hr.2.1.2 rfl
    subst h0
    have hl0 : l = [] := List.eq_nil_of_length_eq_zero (by have := hr.1; omega)
    subst hl0
    clear hr
    go_enter Tryz.func58, Tryz.ntmps58
    go_wp2_with fail
    rw [eqNilT]
    go_wp2
    go_ret
    exact ⟨none, 0, rfl, OwnN.nil _ _ _ _, Below.refl _ _⟩
  · obtain ⟨x, rfl⟩ := Option.ne_none_iff_exists'.1 ha
    clear ha
    go_enter Tryz.func58, Tryz.ntmps58
    go_wp2_with fail
    rw [eqNilF]
    go_wp2_with (at_builtin; refine appAnyN et_u8 rfl (.tmp 5) (.tmp 6) rfl (a := some ⟨w.heap.size, 0, none⟩) (cap := 0) (l := []) (ys := l) (base := w.heap.size) rfl (OwnN.lit0 _ _ _ _ (Nat.le_refl _)) rfl rfl (hr.below ((Below.refl _ _).alloc (Nat.le_refl _) _)) (by simp; omega) (by simp; omega) (by simp) ?_; intro a1 cap1 w1 hown1 hg1 hb1; simp only [List.nil_append] at hown1; simp only [List.length_nil, Nat.zero_add])
    go_ret
    exact ⟨a1, cap1, rfl, hown1, ((Below.refl w.heap.size w).alloc (Nat.le_refl _) _).trans hb1⟩
theorem lsb_new (w : World) (a : Option Addr) (cap : Nat) (l : List Nat) (hr : RowN .u8 w a cap l) (hb : ∀ x ∈ l, x < 256) (hl : l.length ≤ 100000000) :
    Calls Tryz.prog 50 #[.slice a l.length cap] w fun e w' => ∃ p, e = .returned (.pointer (some ⟨p, 0, none⟩)) ∧ Rd w' p l 0 ∧ Below w.heap.size w w' ∧ w.heap.size ≤ p := by
  go_enter Tryz.func50, Tryz.ntmps50
  go_wp2_with fail
  refine (slices_clone _ _ _ _ hr hl).mono ?_
  rintro e w1 ⟨a1, c1, rfl, ho, hbw⟩
  have HO := Lib.hid ho
  have HB := Lib.hid hbw
  clear ho hbw
  go_wp2
  go_ret
  refine ⟨w1.heap.size, rfl, ⟨a1, c1, World.alloc_heap_new _ _, (HO.out.alloc _).row, hb, hl, by omega, fun x hx => ?_⟩, HB.out.alloc HB.out.size _, HB.out.size⟩
  rcases HO.out.form with ⟨h1, _⟩ | ⟨g, h1, _, h2⟩
  · rw [h1] at hx; cases hx
  · rw [h1] at hx; cases hx; exact h2
end Go.Proofs.YtendielanacflaaGreat

namespace Go.Proofs.YtendielanacflaaGreat.M06
set_option linter.unusedVariables false
abbrev TF := Nat → Nat → Option Int
def putF (F : TF) (x k : Nat) (v : Int) : TF := fun x' k' => if x' = x ∧ k' = k then some v else F x' k'
def tabK (x n : Nat) (F : TF) : Nat → TF
  | 0 => F
  | k + 1 => putF (tabK x n F k) (x / 2 ^ (n - k)) k (-1)
def tabI (lens ws : List Nat) : Nat → TF
  | 0 => fun _ _ => none
  | i + 1 => if lens.getD i 0 = 0 then tabI lens ws i else tabK (ws.getD i 0) (lens.getD i 0) (putF (tabI lens ws i) (ws.getD i 0) (lens.getD i 0) i) (lens.getD i 0)
end Go.Proofs.YtendielanacflaaGreat.M06

namespace Go.Proofs.YtendielanacflaaGreat
open Go.RowKit Go.Maps M06
set_option linter.unusedVariables false
theorem tab_laid : laidOutB Tryz.prog = true := by kernel_rfl
theorem word_row : (129 : TypeId) < Tryz.prog.types.size := of_decide_eq_true (by kernel_rfl)
theorem word_wide : (match Tryz.prog.underlying 129 with | some (.array _ _) | some (.struct _) => true | _ => false) = true := by rw [Tryz.underlying129]
set_option maxRecDepth 100000 in
theorem word_law : Keyed Tryz.prog 129 := Keyed.of_law (deep_law_laid tab_laid (m := 2) (by omega) word_row (by kernel_rfl) word_wide)
theorem word_type : Tryz.prog.keyType 129 = true := by kernel_rfl
def wordV (x k : Nat) : Value := .agg #[.int .u32 (x : Nat), .int .u8 (k : Nat)]
theorem cast_le {x m : Nat} (h : x < m + 1) : (x : Int) ≤ (m : Int) := Int.ofNat_le.2 (Nat.le_of_lt_succ h)
theorem word_key (x k : Nat) (hx : x < 4294967296) (hk : k < 256) : ∃ kl, keyOf Tryz.prog 129 (wordV x k) = some kl := by
  have c101 : Tryz.prog.cellsOf 129 = 2 := by kernel_rfl
  have c36 : Tryz.prog.cellsOf 44 = 1 := by kernel_rfl
  have c5 : Tryz.prog.cellsOf 5 = 1 := by kernel_rfl
  obtain ⟨m, hm⟩ : ∃ m, Tryz.prog.types.size = m + 1 := by
    have h := word_row
    revert h
    generalize Tryz.prog.types.size = n
    intro h
    cases n with
    | zero => exact absurd h (Nat.not_lt_zero _)
    | succ n => exact ⟨n, rfl⟩
  have wx : (Lit.int .u32 (x : Int)).wf = true := WalkArith.wf_u32 ⟨Int.natCast_nonneg _, cast_le (m := 4294967295) hx⟩
  have wk : (Lit.int .u8 (k : Int)).wf = true := WalkArith.wf_u8 ⟨Int.natCast_nonneg _, cast_le (m := 255) hk⟩
  refine ⟨.string (keyBytes [.int .u32 (x : Int), .int .u8 (k : Int)]), ?_⟩
  unfold keyOf wordV
  simp only [Tryz.underlying129]
  rw [if_pos (by simp [word_type, Value.formed, Tryz.underlying129, c101]), hm]
  unfold Program.keyLits
  simp only [Tryz.underlying129, Value.cells]
  rw [if_pos ⟨by rw [c101]; rfl, by decide +kernel⟩]
  simp [c36, c5, Program.keyLits, Tryz.underlying44, Tryz.underlying5, wx, wk]
theorem word_inj {x k x' k' : Nat} (h : wordV x k = wordV x' k') : x = x' ∧ k = k' := by
  unfold wordV at h
  simp only [Value.agg.injEq, Array.mk.injEq, List.cons.injEq, Value.int.injEq, true_and, and_true] at h
  omega
theorem zeroInt (w : World) : (zeroValue 3).run Tryz.prog w = .ok (.int .i64 0) w := by kernel_rfl
def MapF (w : World) (b n : Nat) (F : Nat → Nat → Option Int) : Prop :=
  ∃ D : DataW Unit, w.ownsMap Tryz.prog 129 (plainElem Tryz.prog 3) b n D ∧ IsMap D ∧
    ∀ x k kl, keyOf Tryz.prog 129 (wordV x k) = some kl → Maps.has D kl = (F x k).isSome ∧ D.atKey kl (.lit (.int .i64 0)) = .lit (.int .i64 ((F x k).getD 0))
theorem mapF_made (w : World) : MapF (w.alloc (.map #[] 0)) w.heap.size 0 (fun _ _ => none) :=
  ⟨.map [], World.ownsMap_made _ _ _ _, isMap_empty, fun x k kl _ => ⟨rfl, rfl⟩⟩
theorem MapF.kept {w w' : World} {b n : Nat} {F : Nat → Nat → Option Int} {row : Option Nat} (h : MapF w b n F) (hg : w.grownBy w' row) (hne : some b ≠ row) : MapF w' b n F := by
  obtain ⟨D, h1, h2⟩ := h
  exact ⟨D, h1.kept hg hne, h2⟩
theorem MapF.lt {w : World} {b n : Nat} {F : Nat → Nat → Option Int} (h : MapF w b n F) : b < w.heap.size := by
  obtain ⟨D, h1, _⟩ := h
  exact h1.lt
theorem MapF.look {w : World} {b n : Nat} {F : Nat → Nat → Option Int} (h : MapF w b n F) (x k : Nat) (hx : x < 4294967296) (hk : k < 256) :
    (Instr.lookup 125 (.map (some b)) (wordV x k) true).run Tryz.prog w = .ok (.tuple #[.int .i64 ((F x k).getD 0), .bool (F x k).isSome]) w := by
  obtain ⟨D, h1, _, h2⟩ := h
  obtain ⟨kl, hkl⟩ := word_key x k hx hk
  obtain ⟨v, ps, hrun, hv⟩ := h1.look_ok word_law Tryz.underlying125 (zeroInt w) (plainElem_int Tryz.underlying3 (by decide)) hkl
  obtain ⟨g1, g2⟩ := h2 x k kl hkl
  obtain ⟨c, rfl, hc, _⟩ := plainElem_int_inv Tryz.underlying3 hv
  simp only [Prod.mk.injEq] at hc
  rw [g2] at hc
  have hcc : (F x k).getD 0 = c := by
    have := hc.1
    simpa using this
  rw [hrun, g1, hcc]
theorem MapF.put {w : World} {b n : Nat} {F : Nat → Nat → Option Int} (h : MapF w b n F) (hn : n < maxLen) (x k : Nat) (v : Int) (hx : x < 4294967296) (hk : k < 256) (hv : -1000000 ≤ v ∧ v ≤ 1000000) :
    ∃ w', (Instr.mapUpdate 125 (.map (some b)) (wordV x k) (.int .i64 v)).run Tryz.prog w = .ok () w' ∧ MapF w' b (n + 1) (putF F x k v) ∧ w.grownBy w' (some b) := by
  obtain ⟨D, h1, hD, h2⟩ := h
  obtain ⟨kl, hkl⟩ := word_key x k hx hk
  have wv : (Lit.int .i64 v).wf = true := WalkArith.wf_i64 (by omega)
  obtain ⟨w', hrun, hown, hg⟩ := h1.update word_law Tryz.underlying125 hn hkl (plainElem_int Tryz.underlying3 wv)
  refine ⟨w', hrun, ⟨_, hown, hD.put _ _, fun x' k' kl' hkl' => ?_⟩, hg⟩
  unfold putF
  by_cases he : kl' = kl
  · subst he
    have := word_law.inj hkl' hkl
    obtain ⟨rfl, rfl⟩ := word_inj this
    rw [if_pos ⟨rfl, rfl⟩]
    exact ⟨by rw [has_put_same hD (word_law.key hkl)]; rfl, atKey_put_same hD (word_law.key hkl) _ _⟩
  · have hne : ¬ (x' = x ∧ k' = k) := fun ⟨h3, h4⟩ => by
      subst h3 h4
      rw [hkl] at hkl'
      exact he (Option.some.inj hkl').symm
    rw [if_neg hne]
    obtain ⟨g1, g2⟩ := h2 x' k' kl' hkl'
    exact ⟨by rw [has_put_other he]; exact g1, by rw [atKey_put_other he]; exact g2⟩
end Go.Proofs.YtendielanacflaaGreat

namespace Go.Proofs.YtendielanacflaaGreat.M04
set_option linter.unusedVariables false
def start (l : List Nat) (i : Nat) : Nat := acc l (l.getD i 0) i
def size (l : List Nat) (i : Nat) : Nat := 2 ^ (20 - l.getD i 0)
theorem pre_mono (l : List Nat) {n k n' k' j : Nat} (h : n < n' ∨ n = n' ∧ k ≤ k') (hp : pre l n k j) : pre l n' k' j := by
  unfold pre at *; omega
theorem acc_mono (l : List Nat) {n k n' k' : Nat} (h : n < n' ∨ n = n' ∧ k ≤ k') : acc l n k ≤ acc l n' k' := S_le fun j _ => by
  by_cases hp : pre l n k j
  · rw [if_pos hp, if_pos (pre_mono l h hp)]; exact Nat.le_refl _
  · rw [if_neg hp]; exact Nat.zero_le _
theorem start_end (l : List Nat) (i : Nat) (hi : i < l.length) (h0 : l.getD i 0 ≠ 0) : acc l (l.getD i 0) (i + 1) = start l i + size l i :=
  acc_hit l _ i h0 hi (by simp [hi])
theorem start_le (l : List Nat) (i : Nat) (hi : i < l.length) (h0 : l.getD i 0 ≠ 0) : start l i + size l i ≤ weight l := by
  rw [← start_end l i hi h0]; exact acc_le _ _ _
theorem start_before (l : List Nat) (i k : Nat) (hi : i < l.length) (h0 : l.getD i 0 ≠ 0) (h : l.getD i 0 < l.getD k 0 ∨ l.getD i 0 = l.getD k 0 ∧ i < k) : start l i + size l i ≤ start l k := by
  rw [← start_end l i hi h0]; exact acc_mono l (by omega)
theorem size_pos (l : List Nat) (i : Nat) : 0 < size l i := Nat.pow_pos (by decide)
theorem start_word (l : List Nat) (i : Nat) (h0 : l.getD i 0 ≠ 0) : start l i = word l i * size l i := by
  rw [word, if_neg h0]
  exact (Nat.div_mul_cancel (acc_dvd l _ i)).symm
theorem in_iff (q s m : Nat) (hm : 0 < m) : q / m = s ↔ s * m ≤ q ∧ q < s * m + m := by
  rw [Nat.div_eq_iff hm]
  constructor
  · intro h; constructor <;> omega
  · intro h; constructor <;> omega
def hit (l : List Nat) (row i : Nat) : Prop := l.getD i 0 ≠ 0 ∧ row / size l i = word l i
instance (l : List Nat) (row i : Nat) : Decidable (hit l row i) := by unfold hit; infer_instance
theorem apart (l : List Nat) (i k : Nat) (hi : i < l.length) (hk : k < l.length) (h0 : l.getD i 0 ≠ 0) (h1 : l.getD k 0 ≠ 0) (hne : i ≠ k) : start l i + size l i ≤ start l k ∨ start l k + size l k ≤ start l i := by
  by_cases h : l.getD i 0 < l.getD k 0 ∨ l.getD i 0 = l.getD k 0 ∧ i < k
  · exact .inl (start_before l i k hi h0 h)
  · exact .inr (start_before l k i hk h1 (by omega))
theorem word_small (l : List Nat) (i : Nat) (hi : i < l.length) (h20 : ∀ x ∈ l, x ≤ 20) (hw : weight l ≤ 2 ^ 20) : word l i / 2 ^ l.getD i 0 = 0 := by
  by_cases h0 : l.getD i 0 = 0
  · rw [word, if_pos h0]; exact Nat.zero_div _
  · have h1 := start_le l i hi h0
    have h2 := start_word l i h0
    have h3 := size_pos l i
    have h4 := getD_le h20 i
    have h5 : size l i * 2 ^ l.getD i 0 = 2 ^ 20 := by unfold size; rw [← Nat.pow_add]; congr 1; omega
    refine Nat.div_eq_of_lt ?_
    rw [h2] at h1
    have h6 : word l i * size l i < 2 ^ l.getD i 0 * size l i := by rw [Nat.mul_comm (2 ^ _), h5]; omega
    exact Nat.lt_of_mul_lt_mul_right h6
theorem word_apart (l : List Nat) (i k : Nat) (hi : i < l.length) (hk : k < l.length) (h20 : ∀ x ∈ l, x ≤ 20) (h0 : l.getD i 0 ≠ 0) (hne : k ≠ i) (hle : l.getD i 0 ≤ l.getD k 0) : word l k / 2 ^ (l.getD k 0 - l.getD i 0) ≠ word l i := by
  intro e
  have h1 : l.getD k 0 ≠ 0 := by omega
  have h4 := getD_le h20 k
  have hs : size l i = 2 ^ (l.getD k 0 - l.getD i 0) * size l k := by unfold size; rw [← Nat.pow_add]; congr 1; omega
  have hk' : start l k / size l i = word l k / 2 ^ (l.getD k 0 - l.getD i 0) := by
    rw [start_word l k h1, hs, Nat.mul_comm (2 ^ _) (size l k), ← Nat.div_div_eq_div_mul, Nat.mul_div_cancel _ (size_pos l k)]
  rw [e, in_iff _ _ _ (size_pos l i), ← start_word l i h0] at hk'
  have := apart l i k hi hk h0 h1 (Ne.symm hne)
  have := size_pos l k
  omega
theorem words_getElem (l : List Nat) (i : Nat) (hi : i < (words l).length) : (words l)[i] = word l i := by simp [words]
end Go.Proofs.YtendielanacflaaGreat.M04

namespace Go.Proofs.YtendielanacflaaGreat
open Go.RowKit Go.Shelf M04 M06
set_option linter.unusedVariables false
theorem RowN.keptR {k : IntKind} {w w' : World} {a : Option Addr} {cap : Nat} {l : List Nat} {row : Option Nat} (h : RowN k w a cap l) (hg : w.grownBy w' row) (hr : ∀ x, a = some x → row ≠ some x.block) : RowN k w' a cap l := by
  obtain ⟨h1, h2, h3⟩ := h
  refine ⟨h1, h2, ?_⟩
  rcases h3 with h3 | ⟨b, off, rfl, hb', hc⟩
  · exact .inl h3
  · exact .inr ⟨b, off, rfl, Nat.lt_of_lt_of_le hb' hg.size, fun i hi => (World.cell?_of_block (a := ⟨b, off + i, none⟩) (hg.block b hb' (fun e => hr _ rfl e.symm))).trans (hc i hi)⟩
theorem word_lt (l : List Nat) (i : Nat) (hi : i < l.length) (h20 : ∀ x ∈ l, x ≤ 20) (hw : weight l ≤ 2 ^ 20) : word l i < 2 ^ 20 := by
  have h := word_small l i hi h20 hw
  have h2 : word l i < 2 ^ l.getD i 0 := by
    rcases Nat.lt_or_ge (word l i) (2 ^ l.getD i 0) with h3 | h3
    · exact h3
    · have := Nat.div_pos h3 (Nat.pow_pos (by decide))
      omega
  exact Nat.lt_of_lt_of_le h2 (Nat.pow_le_pow_right (by decide) (getD_le h20 i))
theorem u8_sub_shift (j m : Nat) (h : j < m) (hm : m ≤ 20) : min (IntKind.u8.wrap (m - j : Int)).toNat 32 = m - j := by
  have h2 : IntKind.u8.wrap (m - j : Int) = ((m - j : Nat) : Int) := by
    unfold IntKind.wrap IntKind.signed IntKind.bits
    simp only [Bool.false_and]
    rw [if_neg (by decide)]
    omega
  rw [h2]
  omega
theorem grown_drew {w w' : World} {row : Option Nat} (h : w.grownBy w' row) : w.grownBy w'.drew row := ⟨h.os, h.tape, h.output, h.size, h.block⟩
theorem cells3' {w : World} {b : Nat} {x y z : Value} {t : TypeId} (h : w.heap[b]? = some (.cells #[x, y, z] t (0, 0))) : w.cell? ⟨b, 2, none⟩ = some z := by
  simp [World.cell?, h]
theorem wpList_mapF {ops : Array Oper} {rest : List Oper} {o : Oper} {ac : Act} {w : World} {Q : Exit → Act → World → Prop} {b n X k : Nat} {F : TF} {v : Int} (hgd : o.guard = none) (mo xo vo : Operand) (hop : o.op = Op.mapUpdate 125 mo xo vo)
    (hm : ac.eval mo = .map (some b)) (hx : ac.eval xo = wordV X k) (hv : ac.eval vo = .int .i64 v) (h : MapF w b n F) (hn : n < 1000000) (hX : X < 4294967296) (hk : k < 256) (hb : -1000000 ≤ v ∧ v ≤ 1000000)
    (hK : ∀ w', MapF w' b (n + 1) (putF F X k v) → w.grownBy w' (some b) → wpList Tryz.prog ops Q rest (ac.put o.dst undef) w') : wpList Tryz.prog ops Q (o :: rest) ac w := by
  refine wpList_plain hgd fun K hK' => ?_
  obtain ⟨w', hrun, h1, h2⟩ := h.put (by unfold maxLen; omega) X k v hX hk hb
  unfold Oper.wp
  simp [execOp, hop, hm, hx, hv, hrun, Result.andThen]
  exact hK' _ _ (hK w' h1 h2)
def Tb (lo hi : Nat) (w : World) (p : Nat) (l : List Nat) : Prop :=
  ∃ a1 c1 a2 c2 mb n, w.heap[p]? = some (.cells #[.slice a1 l.length c1, .slice a2 l.length c2, .map (some mb)] 127 (0, 0)) ∧ RowN .u8 w a1 c1 l ∧ RowN .u32 w a2 c2 (words l) ∧ MapF w mb n (tabI l (words l) l.length) ∧ hi ≤ w.heap.size ∧
    (lo ≤ p ∧ p < hi) ∧ (lo ≤ mb ∧ mb < hi) ∧ (∀ x, a1 = some x → lo ≤ x.block ∧ x.block < hi) ∧ (∀ x, a2 = some x → lo ≤ x.block ∧ x.block < hi)
theorem MapF.same {w w' : World} {b n : Nat} {F : Nat → Nat → Option Int} (h : MapF w b n F) (hs : w'.heap[b]? = w.heap[b]?) : MapF w' b n F := by
  obtain ⟨D, ⟨es, clock, hb, h1⟩, h2⟩ := h
  exact ⟨D, ⟨es, clock, hs.trans hb, h1⟩, h2⟩
theorem Tb.only {T : Nat → Prop} {lo hi p : Nat} {w w' : World} {l : List Nat} (h : Tb lo hi w p l) (ho : Only T w w') (hT : ∀ b, lo ≤ b → b < hi → ¬ T b) : Tb lo hi w' p l := by
  obtain ⟨a1, c1, a2, c2, mb, n, h1, h2, h3, h4, hs, hp, hm, h5, h6⟩ := h
  refine ⟨a1, c1, a2, c2, mb, n, box_only h1 ho (hT p hp.1 hp.2), ?_, ?_, h4.same (ho.block mb (by omega) (hT mb hm.1 hm.2)), Nat.le_trans hs ho.size, hp, hm, h5, h6⟩
  · exact h2.same ho.size (fun x h0 hx => ho.block _ (by have := (h5 x hx).2; omega) (hT _ (h5 x hx).1 (h5 x hx).2))
  · exact h3.same ho.size (fun x h0 hx => ho.block _ (by have := (h6 x hx).2; omega) (hT _ (h6 x hx).1 (h6 x hx).2))
set_option maxRecDepth 100000 in
set_option maxHeartbeats 1600000 in
theorem prefix_new (a : Option Addr) (cap : Nat) (l : List Nat) (w : World) (hr : RowN .u8 w a cap l) :
    Calls Tryz.prog 41 #[.slice a l.length cap] w fun e w' => Below w.heap.size w w' ∧ if (wordsE l).2 = 0 then ∃ p, e = .returned (.tuple #[.pointer (some ⟨p, 0, none⟩), .int .i64 0]) ∧ Tb w.heap.size w'.heap.size w' p l else e = .returned (.tuple #[.pointer none, .int .i64 (wordsE l).2]) := by
  by_cases hm : May l ∧ weight l ≤ 2 ^ 20
  case neg =>
    have he : (wordsE l).2 = 5 ∨ (wordsE l).2 = 2 := by
      unfold wordsE
      by_cases h1 : May l
      · rw [if_neg (by simpa using h1), if_pos (by rw [not_and] at hm; have := hm h1; omega)]; exact .inr rfl
      · rw [if_pos h1]; exact .inl rfl
    have HE := Lib.hid he
    have H0 : Hid ((wordsE l).2 ≠ 0) := by unfold Hid; omega
    have HW := Lib.hid (kraft_words a cap l w hr)
    clear hm he
    generalize hwe : wordsE l = we at *
    obtain ⟨w1l, er⟩ := we
    have HWE := Lib.hid hwe
    clear hwe
    have hb : (er == 0) = false := by have := H0.out; simpa using this
    go_enter Tryz.func41, Tryz.ntmps41
    go_wp2_with fail
    refine HW.out.mono ?_
    rintro e w1 ⟨a1, c1, rfl, _, hb1⟩
    rw [HWE.out]
    rcases HE.out with h5 | h5
    · obtain rfl : er = 5 := h5
      go_wp2
      go_ret2
      exact ⟨hb1, rfl⟩
    · obtain rfl : er = 2 := h5
      go_wp2
      go_ret2
      exact ⟨hb1, rfl⟩
  obtain ⟨hmay, hwt⟩ := hm
  have hwe : wordsE l = (words l, 0) := by
    unfold wordsE
    rw [if_neg (by simpa using hmay), if_neg (by omega)]
  have h512 := hmay.2
  have H20 := Lib.hid hmay.1
  have HWT := Lib.hid hwt
  have HW := Lib.hid (kraft_words a cap l w hr)
  unfold WordsOut at HW
  rw [hwe, words_length] at HW
  rw [hwe]
  simp only [if_true]
  clear hwe hmay hwt
  go_enter Tryz.func41, Tryz.ntmps41
  go_wp2_with fail
  refine HW.out.mono ?_
  rintro e w1 ⟨a1, c1, rfl, ho1, hb1⟩
  clear HW
  have HO1 := Lib.hid ho1
  have HB1 := Lib.hid hb1
  clear ho1 hb1
  go_wp2_with fail
  refine (slices_clone w1 a cap l (hr.below HB1.out) (by omega)).mono ?_
  rintro e w2 ⟨a2, c2, rfl, ho2, hb2⟩
  have HO2 := Lib.hid ho2
  have HB2 := Lib.hid (HB1.out.trans (hb2.mono HB1.out.size))
  have HOW := Lib.hid (HO1.out.below hb2)
  clear ho2 hb2 HO1
  have hmm := @run_makeMap Tryz.prog
  go_wp2_with fail
  obtain ⟨W0, hW0⟩ : ∃ W0, (w2.alloc (.map #[] 0)).alloc (.cells #[.slice a2 l.length c2, .slice a1 l.length c1, .map (some w2.heap.size)] 127) = W0 := ⟨_, rfl⟩
  have hz0 : W0.heap.size = w2.heap.size + 2 := by rw [← hW0]; simp
  have hp0 : W0.heap[w2.heap.size + 1]? = some (.cells #[.slice a2 l.length c2, .slice a1 l.length c1, .map (some w2.heap.size)] 127 (0, 0)) := by
    rw [← hW0]; have := World.alloc_heap_new (w2.alloc (.map #[] 0)) (.cells #[.slice a2 l.length c2, .slice a1 l.length c1, .map (some w2.heap.size)] 127); rwa [World.size_alloc] at this
  have hb0 : Below w2.heap.size w2 W0 := by rw [← hW0]; exact ((Below.refl _ _).alloc (Nat.le_refl _) _).alloc (by simp) _
  have hM0 : MapF W0 w2.heap.size 0 (fun _ _ => none) := by rw [← hW0]; exact (mapF_made w2).kept (World.grownBy_alloc _ _ none) (by simp)
  simp only [hW0]
  have hO0 := HOW.out.below hb0
  have hL0 := HO2.out.below hb0
  have hB0 : Below w.heap.size w W0 := HB2.out.trans (hb0.mono HB2.out.size)
  have hr0 := hr.below hB0
  have hsz := HB2.out.size
  have hne : ∀ {base cap : Nat} {a : Option Addr} {k : IntKind} {E : TypeId} {L : List Nat}, OwnN E k w2 base a cap L → ∀ x, a = some x → base ≤ x.block ∧ x.block < w2.heap.size := by
    intro base cap a k E L h x hx
    rcases h.form with ⟨h1, _⟩ | ⟨g, h1, hb, h2⟩
    · rw [h1] at hx; cases hx
    · rw [h1] at hx; cases hx; exact ⟨hb, h2⟩
  have hnw : ∀ x, a1 = some x → w.heap.size ≤ x.block ∧ x.block < w2.heap.size := hne HOW.out
  have hnl : ∀ x, a2 = some x → w.heap.size ≤ x.block ∧ x.block < w2.heap.size := fun x hx => ⟨Nat.le_trans HB1.out.size (hne HO2.out x hx).1, (hne HO2.out x hx).2⟩
  have hna : ∀ x, 0 < l.length → a = some x → x.block < w.heap.size := fun x h0 hx => by
    obtain ⟨b', off, he, hlt, _⟩ := hr.at h0
    rw [hx] at he; cases he; exact hlt
  have HNW := Lib.hid hnw
  have HNL := Lib.hid hnl
  have HNA := Lib.hid hna
  have HP0 := Lib.hid hp0
  have HB0 := Lib.hid hB0
  have HR0 := Lib.hid hr0
  have HRW := Lib.hid hO0.row
  have HRL := Lib.hid hL0.row
  have HM0 := Lib.hid hM0
  generalize hmbd : w2.heap.size = mb at *
  clear hW0 hp0 hb0 hM0 hO0 hL0 hB0 hr0 hne hnw hnl hna HO2 HOW hmm HB2
  go_loopw [7, 8, 9, 26, 45] (fun _ _ _ i _ A => ∃ k : Nat, k ≤ l.length ∧ i = .int .i64 k ∧ W0.grownBy A (some mb) ∧ ∃ n, n ≤ k * 32 ∧ MapF A mb n (tabI l (words l) k)) (fun _ _ _ i _ _ => l.length - (intOf i).toNat)
  case atStart => exact ⟨0, by omega, rfl, ⟨rfl, rfl, rfl, Nat.le_refl _, fun _ _ _ => rfl⟩, 0, by omega, HM0.out⟩
  case round =>
    obtain ⟨k, hk, rfl, hg, n, hn, hM⟩ := hrel
    have HG := Lib.hid hg
    have HM := Lib.hid hM
    clear hg hM
    by_cases hlt : k < l.length
    · obtain ⟨b, off, rfl, hb, hck⟩ := HR0.out.at hlt
      have hbw : b < w.heap.size := HNA.out _ (by omega) rfl
      have hck' : wr.cell? ⟨b, off + k, none⟩ = some (.int .u8 (l[k] : Nat)) := (World.cell?_of_block (a := ⟨b, off + k, none⟩) (HG.out.block b hb (by intro e; cases e; omega))).trans hck
      have hx20 := H20.out _ (List.getElem_mem hlt)
      have hgl : l.getD k 0 = l[k] := by simp [hlt]
      have HI := Lib.hid (show tabI l (words l) (k + 1) = if l.getD k 0 = 0 then tabI l (words l) k else tabK ((words l).getD k 0) (l.getD k 0) (putF (tabI l (words l) k) ((words l).getD k 0) (l.getD k 0) k) (l.getD k 0) from rfl)
      by_cases hx0 : l[k] = 0
      · have HI0 : Hid (tabI l (words l) (k + 1) = tabI l (words l) k) := by rw [Hid, HI.out, if_pos (by rw [hgl]; exact hx0)]
        rw [hx0] at hck'
        clear hck hx0 hgl hx20 HI
        go_wp2
        go_roundw
        case rel => exact ⟨k + 1, by omega, by go_num, HG.out, n, by omega, by rw [HI0.out]; exact HM.out⟩
        case measure => simp [intOf]; omega
      · have hwl := word_lt l k hlt H20.out HWT.out
        have hgw : (words l).getD k 0 = word l k := by simp [words, hlt]
        have HI1 : Hid (tabI l (words l) (k + 1) = tabK (word l k) l[k] (putF (tabI l (words l) k) (word l k) l[k] k) l[k]) := by rw [Hid, HI.out, if_neg (by rw [hgl]; exact hx0), hgw, hgl]
        obtain ⟨bw, ow, rfl, hbw2, hcw⟩ := HRW.out.at (i := k) (by rw [words_length]; exact hlt)
        rw [words_getElem] at hcw
        have hbwl : bw < mb := (HNW.out _ rfl).2
        have HCW := Lib.hid hcw
        have hcw' : wr.cell? ⟨bw, ow + k, none⟩ = some (.int .u32 (word l k : Nat)) := (World.cell?_of_block (a := ⟨bw, ow + k, none⟩) (HG.out.block bw hbw2 (by intro e; cases e; omega))).trans hcw
        have hpt : wr.cell? ⟨mb + 1, 2, none⟩ = some (.map (some mb)) := by
          have := (HG.out.block (mb + 1) (by omega) (by intro e; cases e)).trans HP0.out
          exact (cells3' this)
        have b0 : ((l[k] : Int) == 0) = false := by simp; omega
        clear hck hcw hx0 hgl HI hgw
        generalize word l k = x at *
        generalize l[k] = m at *
        go_wp2_with fail
        go_still_tail 11, (by kernel_rfl)
        change wpList _ _ _ _ _ wr.drew
        refine wpList_mapF (b := mb) (n := n) (X := x) (k := m) (v := (k : Int)) (F := tabI l (words l) k) rfl (.tmp 36) (.tmp 42) (.tmp 43) rfl rfl rfl rfl HM.out (by omega) (Nat.lt_trans hwl (by decide)) (by omega) (by omega) ?_
        intro w5 hM5 hg5
        have HG5 := Lib.hid (show W0.grownBy w5 (some mb) from (grown_drew HG.out).trans hg5)
        have HM5 := Lib.hid hM5
        clear hM5 hg5 HG HM hcw' hpt hck'
        generalize putF (tabI l (words l) k) x m k = F0 at *
        go_wp2_with fail
        go_loopw [9, 45] (fun _ i A => ∃ j : Nat, j ≤ m ∧ i = .int .u8 j ∧ W0.grownBy A (some mb) ∧ MapF A mb (n + 1 + j) (tabK x m F0 j)) (fun _ i _ => m - (intOf i).toNat)
        case atStart => exact ⟨0, by omega, rfl, HG5.out, HM5.out⟩
        case round =>
          clear HG5 HM5
          obtain ⟨j, hj, rfl, hg, hM⟩ := hrel
          have HG := Lib.hid hg
          have HM := Lib.hid hM
          clear hg hM
          by_cases hjl : j < m
          · have hcw' : wr.cell? ⟨bw, ow + k, none⟩ = some (.int .u32 (x : Nat)) := (World.cell?_of_block (a := ⟨bw, ow + k, none⟩) (HG.out.block bw hbw2 (by intro e; cases e; omega))).trans HCW.out
            have hpt : wr.cell? ⟨mb + 1, 2, none⟩ = some (.map (some mb)) := by
              have := (HG.out.block (mb + 1) (by omega) (by intro e; cases e)).trans HP0.out
              exact (cells3' this)
            go_wp2_with fail
            go_still_tail 14, (by kernel_rfl)
            change wpList _ _ _ _ _ wr.drew
            refine wpList_mapF (b := mb) (n := n + 1 + j) (X := x / 2 ^ (m - j)) (k := j) (v := -1) (F := tabK x m F0 j) rfl (.tmp 51) (.tmp 61) (.const (.int .i64 (-1))) rfl rfl ?hx rfl HM.out (by omega) (Nat.lt_of_le_of_lt (Nat.div_le_self _ _) (Nat.lt_trans hwl (by decide))) (by omega) (by omega) ?_
            case hx =>
              show _ = wordV _ _
              unfold wordV
              refine congrArg (fun z => Value.agg #[z, _]) ?_
              rw [u8_sub_shift j m hjl hx20]
              exact congrArg (Value.int IntKind.u32) (by rw [Int.natCast_ediv, Int.natCast_pow]; rfl)
            intro w6 hM6 hg6
            have HG6 := Lib.hid (show W0.grownBy w6 (some mb) from (grown_drew HG.out).trans hg6)
            have HM6 := Lib.hid hM6
            clear hM6 hg6 HG HM hcw' hpt
            go_wp2
            go_roundw
            case rel => exact ⟨j + 1, by omega, by go_num, HG6.out, HM6.out⟩
            case measure => simp [intOf]; omega
          · obtain rfl : j = m := by omega
            go_wp2
            go_roundw
            case rel => exact ⟨k + 1, by omega, by go_num, HG.out, n + 1 + j, by omega, by rw [HI1.out]; exact HM.out⟩
            case measure => simp [intOf]; omega
    · obtain rfl : k = l.length := by omega
      go_wp2
      go_ret2
      have hwz := HG.out.size
      refine ⟨HB0.out.trans (Below.of_grown HG.out HB0.out.size (by intro x hx; cases hx; exact hsz)), mb + 1, rfl, ⟨a2, c2, a1, c1, mb, n, ?_, ?_, ?_, HM.out, Nat.le_refl _, ⟨by omega, by omega⟩, ⟨hsz, by omega⟩, ?_, ?_⟩⟩
      · exact (HG.out.block (mb + 1) (by omega) (by intro e; cases e)).trans HP0.out
      · exact HRL.out.keptR HG.out (fun y hy e => by cases e; have := HNL.out _ hy; omega)
      · exact HRW.out.keptR HG.out (fun y hy e => by cases e; have := HNW.out _ hy; omega)
      · exact fun y hy => by have := HNL.out _ hy; omega
      · exact fun y hy => by have := HNW.out _ hy; omega
end Go.Proofs.YtendielanacflaaGreat

namespace Go.Proofs.YtendielanacflaaGreat
open Go.RowKit Go.Shelf M01 M04 M08
set_option linter.unusedVariables false
theorem two_cells {w : World} {b : Nat} {x y : Value} {t : TypeId} (h : w.heap[b]? = some (.cells #[x, y] t (0, 0))) : w.cell? ⟨b, 0, none⟩ = some x ∧ w.cell? ⟨b, 1, none⟩ = some y :=
  ⟨(two_cell h).1, (two_cell h).2.1⟩
theorem Rd.lt {w : World} {p at_ : Nat} {bs : List Nat} (h : Rd w p bs at_) : p < w.heap.size := by
  obtain ⟨a, cap, h1, h2, h3⟩ := h
  exact (Array.getElem?_eq_some_iff.1 h1).1
theorem results_tmp3' {fn : Func} {t u v : Tmp} (h : fn.results = #[.tmp t, .tmp u, .tmp v]) (tmps : Array Value) (P : Program) (w : World) :
    (results fn tmps).run P w = .ok (.tuple #[tmps.getD t undef, tmps.getD u undef, tmps.getD v undef]) w := by
  simp [results, h, go_sem]
theorem box_b (w : World) (o : Obj) : Below w.heap.size w (w.alloc o) := (Below.refl _ _).alloc (Nat.le_refl _) _
theorem box2_cells (w : World) (u v : Value) (t : TypeId) : (w.alloc (.cells #[u, v] t)).cell? ⟨w.heap.size, 0, none⟩ = some u ∧ (w.alloc (.cells #[u, v] t)).cell? ⟨w.heap.size, 1, none⟩ = some v := by
  have h := World.alloc_heap_new w (.cells #[u, v] t)
  exact ⟨(two_cell h).1, (two_cell h).2.1⟩
def loS (s : Int) : Nat × Nat × Nat := if 257 ≤ s ∧ s ≤ 285 then (lensL.getD (s.toNat - 257) 0, lbits s.toNat, 0) else (0, 0, 5)
def doS (s : Int) : Nat × Nat × Nat := if 0 ≤ s ∧ s < 30 then (distL.getD s.toNat 0, dbits s.toNat, 0) else (0, 0, 5)
theorem only_drewN (T : Nat → Prop) (w : World) (q : Nat) : Only T w (w.drewN q) := ⟨rfl, rfl, rfl, Nat.le_refl _, fun _ _ _ => rfl⟩
def formP : List PanicEntry := [{ v := .iface 25 (.int .i64 2), recovered := false }]
theorem app1AtN {P : Program} {T E : TypeId} {k : IntKind} {bytes : Nat} (et : ElemTy P T E k bytes) {w : World} {ops : Array Oper} {rest : List Oper} {o : Oper} {ac : Act} {Q : Exit → Act → World → Prop} (hgd : o.guard = none) (s x : Operand)
    (ho : o.op = .call { callee := .builtin .append, args := #[s, x], argTypes := #[T, T] }) {base : Nat} {a : Option Addr} {cap : Nat} {l : List Nat} {y : Nat} {c E' : Nat}
    (hs : ac.eval s = .slice a l.length cap) (hown : OwnN E k w base a cap l) (hx : ac.eval x = .slice (some ⟨w.heap.size, 0, none⟩) 1 c) (hc : 1 ≤ c) (hc' : c ≤ 9223372036854775807)
    (hn : l.length + 1 ≤ 9223372036854775807) (hbytes : (l.length + 1) * bytes ≤ 140737488355328) (hbase : base ≤ w.heap.size)
    (h : ∀ a' cap' w', OwnN E k w' base a' cap' (l ++ [y]) → w.grownBy w' (Value.slice a l.length cap).ownBlock → (∀ g, a' = some ⟨g, 0, none⟩ → a = some ⟨g, 0, none⟩ ∨ w.heap.size ≤ g) → wpList P ops Q rest (ac.put o.dst (.slice a' (l.length + 1) cap')) w') :
    wpList P ops Q (o :: rest) ac (w.alloc (.cells #[.int k y] E')) := by
  obtain ⟨i, h2, h3, h4, h5⟩ := info_parts et.info
  refine wpList_plain hgd fun K hK' => ?_
  have hy : RowN k (w.alloc (.cells #[.int k y] E')) (some ⟨w.heap.size, 0, none⟩) c [y] := by
    refine ⟨by simpa using hc, ⟨hc', fun hn => by cases hn⟩, .inr ⟨w.heap.size, 0, rfl, by simp, fun i hi => ?_⟩⟩
    obtain rfl : i = 0 := by simp at hi; omega
    simp [World.cell?_alloc_at]
  obtain ⟨v', w', hr, h6, h7, h8, h9⟩ := run_append_own_at (P := P) (w.alloc (.cells #[.int k y] E')) base T o.type E i (.int k 0) 1 bytes et.und h2 h3 h4 h5 rfl (by decide) _ l.length _ (hown.alloc (.cells #[.int k y] E')) ⟨w.heap.size, 0, none⟩ 1 c ([y].map fun (n : Nat) => Value.int k n) (by simp)
    (cells_of_rowN hy _ rfl) (by intro u hu; simp only [List.mem_map] at hu; obtain ⟨n, _, rfl⟩ := hu; rfl) (by simpa [maxLen] using hn) hbytes (by simp; omega)
  have hv : ∃ a' cap', v' = .slice a' (l.length + 1) cap' := by
    rcases h6.2 with ⟨h9, h10⟩ | ⟨g, c', cur, h9, _⟩
    · exact ⟨none, 0, by rw [h9, h10]⟩
    · exact ⟨_, _, h9⟩
  obtain ⟨a', cap', rfl⟩ := hv
  have hown' : OwnN E k w' base a' cap' (l ++ [y]) := by
    unfold OwnN; rw [List.length_append, List.map_append]; exact h6
  unfold Oper.wp
  simp [execOp, ho, resolve, invoke, builtin, hs, hx, hr, Result.andThen]
  refine hK' _ _ (h a' cap' w' hown' ⟨h7.os, h7.tape, h7.output, Nat.le_trans (by simp) h7.size, fun q hq hr => (h7.block q (by simp; omega) hr).trans (Below.heap_alloc _ _ _ hq)⟩ ?_)
  rintro g rfl
  rcases h9 with h9 | h9
  · left
    rcases hown.form with ⟨rfl, _, _⟩ | ⟨g', rfl, _⟩
    · simp [Value.ownBlock] at h9
    · simp [Value.ownBlock] at h9
      rw [h9]
  · right
    simp [Value.ownBlock] at h9
    omega
theorem Rd.only {T : Nat → Prop} {w w' : World} {p at_ : Nat} {bs : List Nat} (h : Rd w p bs at_) (ho : Only T w w') (hT : ∀ b, b ≤ p → ¬ T b) : Rd w' p bs at_ := by
  have hlt := h.lt
  obtain ⟨a, cap, h1, h2, h3, h4, h5, h6⟩ := h
  exact ⟨a, cap, (ho.block p hlt (hT p (Nat.le_refl _))).trans h1, h2.same ho.size (fun x _ hx => ho.block _ (by have := h6 x hx; omega) (hT _ (by have := h6 x hx; omega))), h3, h4, h5, h6⟩
theorem four_cells {w : World} {b : Nat} {x y z u : Value} {t : TypeId} (h : w.heap[b]? = some (.cells #[x, y, z, u] t (0, 0))) : w.cell? ⟨b, 0, none⟩ = some x ∧ w.cell? ⟨b, 1, none⟩ = some y ∧ w.cell? ⟨b, 2, none⟩ = some z ∧ w.cell? ⟨b, 3, none⟩ = some u ∧ w.frozen? ⟨b, 1, none⟩ = false ∧ w.frozen? ⟨b, 3, none⟩ = false := by
  simp [World.cell?, World.frozen?, h]
theorem four_set {w : World} {b : Nat} {x y z u v : Value} {t : TypeId} (h : w.heap[b]? = some (.cells #[x, y, z, u] t (0, 0))) :
    (w.setCell ⟨b, 1, none⟩ v).heap[b]? = some (.cells #[x, v, z, u] t (0, 0)) ∧ (w.setCell ⟨b, 3, none⟩ v).heap[b]? = some (.cells #[x, y, z, v] t (0, 0)) := by
  constructor
  · show (w.heap.modify b _)[b]? = _
    rw [Array.getElem?_modify, if_pos rfl, h]; rfl
  · show (w.heap.modify b _)[b]? = _
    rw [Array.getElem?_modify, if_pos rfl, h]; rfl
theorem own_ne {E : TypeId} {k : IntKind} {w : World} {base cap n sp : Nat} {a : Option Addr} {l : List Nat} (h : OwnN E k w base a cap l) (h7 : ∀ g, a = some ⟨g, 0, none⟩ → sp < g) (b : Nat) (hb : b ≤ sp) : some b ≠ (Value.slice a n cap).ownBlock := by
  rcases h.form with ⟨rfl, _, _⟩ | ⟨g, rfl, _⟩
  · simp [Value.ownBlock]
  · have := h7 g rfl
    simp [Value.ownBlock]
    omega
theorem four_frozen {w : World} {b : Nat} {x y z u : Value} {t : TypeId} (h : w.heap[b]? = some (.cells #[x, y, z, u] t (0, 0))) : w.frozen? ⟨b, 0, none⟩ = false ∧ w.frozen? ⟨b, 1, none⟩ = false ∧ w.frozen? ⟨b, 2, none⟩ = false ∧ w.frozen? ⟨b, 3, none⟩ = false := by
  simp [World.frozen?, h]
theorem one_frozen {w : World} {b : Nat} {u : Value} {t : TypeId} (h : w.heap[b]? = some (.cells #[u] t (0, 0))) : w.frozen? ⟨b, 0, none⟩ = false := by simp [World.frozen?, h]
theorem xor_bits (n : Nat) (h : n < 65536) : bits .xor .i64 (n : Int) 65535 = ((65535 - n : Nat) : Int) := by
  have h1 : (BitVec.ofInt 64 (n : Int)).toNat = n := by
    rw [BitVec.ofInt_natCast, BitVec.toNat_ofNat]; exact Nat.mod_eq_of_lt (by omega)
  have h2 : (BitVec.ofInt 64 (65535 : Int)).toNat = 65535 := by decide
  have h3 : n ^^^ 65535 = 65535 - n := by
    have e : (BitVec.ofNat 16 n ^^^ BitVec.allOnes 16).toNat = 65535 - n := by
      rw [BitVec.xor_allOnes, BitVec.toNat_not, BitVec.toNat_ofNat, Nat.mod_eq_of_lt (by omega : n < 2 ^ 16)]
    rw [BitVec.toNat_xor, BitVec.toNat_ofNat, BitVec.toNat_allOnes, Nat.mod_eq_of_lt (by omega : n < 2 ^ 16)] at e
    exact e
  show IntKind.i64.wrap ((BitVec.ofInt 64 (n : Int) ^^^ BitVec.ofInt 64 (65535 : Int)).toNat : Int) = _
  rw [BitVec.toNat_xor, h1, h2, h3, IntKind.wrap_i64]
  omega
theorem rowN_take {k : IntKind} {w : World} {a : Option Addr} {cap : Nat} {l : List Nat} (h : RowN k w a cap l) (n : Nat) : RowN k w a cap (l.take n) := by
  obtain ⟨h1, h2, h3⟩ := h
  refine ⟨by simp; omega, h2, ?_⟩
  rcases h3 with rfl | ⟨b, off, rfl, hb, hc⟩
  · exact .inl (by simp)
  · refine .inr ⟨b, off, rfl, hb, fun i hi => ?_⟩
    have hi2 : i < l.length := by simp at hi; omega
    rw [hc i hi2]
    simp
theorem rowN_drop {k : IntKind} {w : World} {b off cap : Nat} {l : List Nat} (h : RowN k w (some ⟨b, off, none⟩) cap l) (n : Nat) (hn : n < l.length) : RowN k w (some ⟨b, off + n, none⟩) (cap - n) (l.drop n) := by
  obtain ⟨h1, h2, h3⟩ := h
  refine ⟨by simp; omega, ⟨by omega, fun e => by cases e⟩, ?_⟩
  rcases h3 with rfl | ⟨b', off', he, hb, hc⟩
  · simp at hn
  · simp only [Option.some.injEq, Addr.mk.injEq, and_true] at he
    obtain ⟨rfl, rfl⟩ := he
    refine .inr ⟨b, off + n, rfl, hb, fun i hi => ?_⟩
    have hi2 : n + i < l.length := by simp at hi; omega
    rw [Nat.add_assoc, hc _ hi2]
    simp
theorem Only.ofBelow {T : Nat → Prop} {w w' : World} (h : Below w.heap.size w w') : Only T w w' := ⟨h.os, h.tape, h.output, h.size, fun b hb _ => h.block b hb⟩
def Sub (P : Nat → Prop) (lo hi : Nat) (b : Nat) : Prop := P b ∧ ¬ (lo ≤ b ∧ b < hi)
theorem Only.widen {P : Nat → Prop} {lo hi : Nat} {w w' : World} (h : Only (Sub P lo hi) w w') : Only P w w' := h.mono (fun k _ hk => hk.1)
theorem Tb.widen {lo hi lo' hi' p : Nat} {w : World} {l : List Nat} (h : Tb lo hi w p l) (h1 : lo' ≤ lo) (h2 : hi ≤ hi') (h3 : hi' ≤ w.heap.size) : Tb lo' hi' w p l := by
  obtain ⟨a1, c1, a2, c2, mb, n, g1, g2, g3, g4, g5, g6, g7, g8, g9⟩ := h
  exact ⟨a1, c1, a2, c2, mb, n, g1, g2, g3, g4, h3, by omega, by omega, fun x hx => by have := g8 x hx; omega, fun x hx => by have := g9 x hx; omega⟩
theorem Tb.below {lo hi p : Nat} {w w' : World} {l : List Nat} (h : Tb lo hi w p l) (hb : Below w.heap.size w w') : Tb lo hi w' p l :=
  h.only (T := fun _ => False) (.ofBelow hb) (fun _ _ _ h => h)
theorem wordsE_may {l : List Nat} (h : (wordsE l).2 = 0) : May l ∧ weight l ≤ 2 ^ 20 := by
  unfold wordsE at h
  split at h
  · simp at h
  · split at h
    · simp at h
    · next h1 h2 => exact ⟨by simpa using h1, by omega⟩
def rdAt (A : World) (rp : Nat) : Nat := match A.cell? ⟨rp, 1, none⟩ with
  | some v => (intOf v).toNat
  | none => 0
theorem rdAt_eq {A : World} {rp at_ : Nat} {bs : List Nat} (h : Rd A rp bs at_) : rdAt A rp = at_ := by
  obtain ⟨a, cap, h1, _⟩ := h
  unfold rdAt
  simp only [(two_cells h1).2]
  simp [intOf]
theorem OwnN.lit {k : IntKind} (E : TypeId) (w : World) (base : Nat) (l : List Nat) (vs : Array Value) (B : Nat) (hB : B = w.heap.size) (hv : vs = (l.map fun (n : Nat) => Value.int k n).toArray) (hb : base ≤ w.heap.size) (hl : l.length ≤ maxLen) :
    OwnN E k (w.alloc (.cells vs E)) base (some ⟨B, 0, none⟩) l.length l := by
  subst hB hv
  exact ⟨by simp, .inr ⟨w.heap.size, l.length, (l.map fun (n : Nat) => Value.int k n).toArray, rfl, hb, World.alloc_heap_new w _, Nat.le_refl _, hl, by simp, by simp [List.take_of_length_le]⟩⟩
end Go.Proofs.YtendielanacflaaGreat

namespace Go.Proofs.YtendielanacflaaGreat
open Go.RowKit M04
set_option linter.unusedVariables false
def singleB (l : List Nat) : Bool := decide ((∀ x ∈ l, x ≤ 1) ∧ l.sum = 1)
theorem sum_take_le (l : List Nat) (k : Nat) (h : ∀ x ∈ l.take k, x ≤ 1) : (l.take k).sum ≤ k := by
  have : ∀ m : List Nat, (∀ x ∈ m, x ≤ 1) → m.sum ≤ m.length := by
    intro m hm
    induction m with
    | nil => simp
    | cons a m ih =>
      have := hm a (by simp)
      have := ih fun x hx => hm x (by simp [hx])
      simp only [List.sum_cons, List.length_cons]; omega
  exact Nat.le_trans (this _ h) (by simp; omega)
set_option maxHeartbeats 400000 in
theorem kraft_single (a : Option Addr) (cap : Nat) (l : List Nat) (w : World) (hr : RowN .u8 w a cap l) :
    Calls Tryz.prog 90 #[.slice a l.length cap] w fun e w' => e = .returned (.bool (singleB l)) ∧ w = w' := by
  have hlen := hr.len
  go_enter Tryz.func90, Tryz.ntmps90
  go_wp2
  go_loop [3, 8] (fun t i => ∃ k : Nat, k ≤ l.length ∧ i = .int .i64 k ∧ t = .int .i64 ((l.take k).sum : Nat) ∧ ∀ x ∈ l.take k, x ≤ 1) (fun _ i => l.length - (intOf i).toNat)
  case atStart => exact ⟨0, Nat.zero_le _, rfl, by simp, by simp⟩
  case round =>
    obtain ⟨k, hk, rfl, rfl, hall⟩ := hrel
    have HA := Lib.hid hall
    have hs := sum_take_le l k hall
    clear hall
    by_cases hlt : k < l.length
    · obtain ⟨b, off, rfl, hb, hck⟩ := hr.at hlt
      clear hr
      have HS : Hid ((l.take (k + 1)).sum = (l.take k).sum + l[k]) := by rw [Hid, take_snoc l k hlt]; simp only [List.sum_append, List.sum_cons, List.sum_nil]; omega
      by_cases hx : l[k] ≤ 1
      · have H : Hid (∀ x ∈ l.take (k + 1), x ≤ 1) := by
          rw [Hid, take_snoc l k hlt]
          intro x hm
          rcases List.mem_append.1 hm with hm | hm
          · exact HA.out x hm
          · simp at hm; omega
        generalize l[k] = x at *
        generalize (l.take k).sum = s at *
        go_wp2
        go_round
        case rel => exact ⟨k + 1, by omega, by go_num, by rw [HS.out]; go_num, H.out⟩
        case measure => simp [intOf]; omega
      · have H : Hid (singleB l = false) := by
          show decide (_ ∧ _) = false
          rw [decide_eq_false_iff_not]
          exact fun h => hx (h.1 _ (List.getElem_mem hlt))
        generalize l[k] = x at *
        go_wp2
        go_ret
        exact ⟨ret_bool H.out.symm, rfl⟩
    · have h2 : l.take k = l := List.take_of_length_le (by omega)
      rw [h2] at HA
      rw [h2] at hs
      rw [h2]
      have H : Hid (singleB l = ((l.sum : Int) == 1)) := by
        show decide (_ ∧ _) = _
        rw [Bool.eq_iff_iff, decide_eq_true_eq, beq_iff_eq]
        constructor
        · intro h; omega
        · intro h; exact ⟨HA.out, by omega⟩
      go_wp2
      go_ret
      exact ⟨ret_bool H.out.symm, rfl⟩
theorem rowN_lit (k : IntKind) (w : World) (l : List Nat) (E : TypeId) (c : Array Value) (B : Nat) (hB : B = w.heap.size) (hc : c = (l.map fun (n : Nat) => Value.int k n).toArray) (hl : l.length ≤ 9223372036854775807) :
    RowN k (w.alloc (.cells c E)) (some ⟨B, 0, none⟩) l.length l := by
  subst hc hB
  refine ⟨Nat.le_refl _, ⟨hl, fun hn => by cases hn⟩, .inr ⟨w.heap.size, 0, rfl, by simp, fun i hi => ?_⟩⟩
  rw [Nat.zero_add, World.cell?_alloc_at _ _ _ _ rfl]
  simp [hi]
end Go.Proofs.YtendielanacflaaGreat

namespace Go.Proofs.YtendielanacflaaGreat.M07
set_option linter.unusedVariables false
abbrev Sg := Nat × Nat
def rbits (c : Nat) : Nat := if c = 16 then 2 else if c = 17 then 3 else if c = 18 then 7 else 0
def times (s : Sg) : Nat := if s.1 < 16 then 1 else if s.1 < 18 then 3 + s.2 else 11 + s.2
def SgOk (s : Sg) : Prop := s.1 ≤ 18 ∧ s.2 < 2 ^ rbits s.1
theorem SgOk.lt {s : Sg} (h : SgOk s) : s.2 < 128 := by
  obtain ⟨h1, h2⟩ := h
  have : 2 ^ rbits s.1 ≤ 2 ^ 7 := Nat.pow_le_pow_right (by decide) (by unfold rbits; (repeat' split) <;> omega)
  omega
theorem times_bound {s : Sg} (h : SgOk s) : 1 ≤ times s ∧ times s ≤ 138 := by
  have := h.lt
  unfold times
  (repeat' split) <;> omega
def kOf (c : Nat) (out : List Nat) : Nat := if c = 16 then out.getD (out.length - 1) 0 else if 16 < c then 0 else c
def unp (n : Nat) : List Sg → List Nat → Option (List Nat)
  | [], out => if out.length = n then some out else none
  | s :: l, out => if s.1 = 16 ∧ out.length = 0 then none else if n < out.length + times s then none else unp n l (out ++ List.replicate (times s) (kOf s.1 out))
end Go.Proofs.YtendielanacflaaGreat.M07
