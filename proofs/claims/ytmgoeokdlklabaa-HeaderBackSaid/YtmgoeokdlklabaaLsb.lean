/- Contracts of package lsb: a reader. -/
import Derived.Test.YtmgoeokdlklabaaRef08
import Derived.Test.YtmgoeokdlklabaaRef04
import Derived.Test.YtmgoeokdlklabaaWords
import Derived.Test.YtmgoeokdlklabaaM01
import Derived.Laws.Bits64b
namespace Go.Proofs.Ytmgoeokdlklabaa
open Go.RowKit Go.Shelf M01
set_option linter.unusedVariables false

theorem bits_and_u32 (a b : Nat) (ha : a < 4294967296) (hb : b < 4294967296) : bits .and .u32 (a : Int) (b : Int) = ((a &&& b : Nat) : Int) := by
  have hx : a &&& b < 2 ^ 32 := Nat.and_lt_two_pow _ (by omega)
  have h1 : (BitVec.ofInt 32 (a : Int)).toNat = a := by
    rw [BitVec.ofInt_natCast, BitVec.toNat_ofNat]; exact Nat.mod_eq_of_lt (by omega)
  have h2 : (BitVec.ofInt 32 (b : Int)).toNat = b := by
    rw [BitVec.ofInt_natCast, BitVec.toNat_ofNat]; exact Nat.mod_eq_of_lt (by omega)
  show IntKind.u32.wrap ((BitVec.ofInt 32 (a : Int) &&& BitVec.ofInt 32 (b : Int)).toNat : Int) = _
  rw [BitVec.toNat_and, h1, h2, IntKind.wrap_u32]
  omega
theorem bits_or_u32 (a b : Nat) (ha : a < 4294967296) (hb : b < 4294967296) : bits .or .u32 (a : Int) (b : Int) = ((a ||| b : Nat) : Int) := by
  have hx : a ||| b < 2 ^ 32 := Nat.or_lt_two_pow (by omega) (by omega)
  have h1 : (BitVec.ofInt 32 (a : Int)).toNat = a := by
    rw [BitVec.ofInt_natCast, BitVec.toNat_ofNat]; exact Nat.mod_eq_of_lt (by omega)
  have h2 : (BitVec.ofInt 32 (b : Int)).toNat = b := by
    rw [BitVec.ofInt_natCast, BitVec.toNat_ofNat]; exact Nat.mod_eq_of_lt (by omega)
  show IntKind.u32.wrap ((BitVec.ofInt 32 (a : Int) ||| BitVec.ofInt 32 (b : Int)).toNat : Int) = _
  rw [BitVec.toNat_or, h1, h2, IntKind.wrap_u32]
  omega

theorem and_one (x r : Nat) (hx : x < 256) : bits .and .u32 ((x : Int) / 2 ^ r % 4294967296) 1 = ((x / 2 ^ r % 2 : Nat) : Int) := by
  have h0 : x / 2 ^ r ≤ x := Nat.div_le_self _ _
  have h1 : ((x : Int) / 2 ^ r % 4294967296) = ((x / 2 ^ r : Nat) : Int) := by
    have h2 : (2 : Int) ^ r = ((2 ^ r : Nat) : Int) := by simp
    rw [h2, ← Int.natCast_ediv]
    generalize x / 2 ^ r = y at *
    omega
  rw [h1]
  have := bits_and_u32 (x / 2 ^ r) 1 (by omega) (by omega)
  rw [Nat.and_one_is_mod] at this
  exact this
theorem or_step (v b k : Nat) (hv : v < 2 ^ k) (hb : b < 2) (hk : k < 32) : bits .or .u32 (v : Int) ((b : Int) * 2 ^ k % 4294967296) = ((v + b * 2 ^ k : Nat) : Int) := by
  have h2 : (2 : Int) ^ k = ((2 ^ k : Nat) : Int) := by simp
  have hp : 2 ^ k ≤ 2 ^ 31 := Nat.pow_le_pow_right (by decide) (by omega)
  have hbk : b * 2 ^ k ≤ 1 * 2 ^ k := Nat.mul_le_mul_right _ (by omega)
  rw [h2, ← Int.natCast_mul]
  have h3 : ((b * 2 ^ k : Nat) : Int) % 4294967296 = ((b * 2 ^ k : Nat) : Int) := by omega
  rw [h3, bits_or_u32 v (b * 2 ^ k) (by omega) (by omega), or_add v b k hv]
/-- a reader of bytes, at a place -/
def Rd (w : World) (p : Nat) (bs : List Nat) (at_ : Nat) : Prop :=
  ∃ a cap, w.heap[p]? = some (.cells #[.slice a bs.length cap, .int .i64 (at_ : Nat)] 109 (0, 0)) ∧ RowN .u8 w a cap bs ∧ (∀ x ∈ bs, x < 256) ∧ bs.length ≤ 100000000 ∧ at_ ≤ 8 * bs.length ∧ ∀ x, a = some x → x.block < p

theorem rd_step {A : World} {p m cap : Nat} {bs : List Nat} {a : Option Addr} (hc : A.heap[p]? = some (.cells #[.slice a bs.length cap, .int .i64 (m : Nat)] 109 (0, 0))) (hr : RowN .u8 A a cap bs) (hb : ∀ x ∈ bs, x < 256) (hl : bs.length ≤ 100000000) (hne : ∀ x, a = some x → x.block < p) (m' : Nat) (hm : m' ≤ 8 * bs.length) (q : Nat) :
    Rd ((A.drewN q).setCell ⟨p, 1, none⟩ (.int .i64 (m' : Nat))) p bs m' ∧ Only (fun b => b = p) A ((A.drewN q).setCell ⟨p, 1, none⟩ (.int .i64 (m' : Nat))) := by
  refine ⟨⟨a, cap, (two_set (w := A.drewN q) hc).2, ?_, hb, hl, hm, hne⟩, ?_⟩
  · refine hr.same (by simp [World.setCell, World.drewN]) (fun x h0 hx => ?_)
    exact Below.heap_setCell (A.drewN q) ⟨p, 1, none⟩ _ _ (Nat.ne_of_lt (hne x hx))
  · exact (⟨rfl, rfl, rfl, Nat.le_refl _, fun _ _ _ => rfl⟩ : Only (fun b => b = p) A (A.drewN q)).setCell (.inl rfl) _
set_option maxRecDepth 100000 in
set_option maxHeartbeats 1600000 in
theorem lsb_left (w : World) (p : Nat) (bs : List Nat) (at_ : Nat) (h : Rd w p bs at_) :
    Calls Try.prog 61 #[.pointer (some ⟨p, 0, none⟩)] w fun e w' => e = .returned (.int .i64 ((8 * bs.length - at_ : Nat) : Int)) ∧ ∃ q, w' = w.drewN q := by
  obtain ⟨a, cap, hc, hr, hb, hl, ha, hne⟩ := h
  obtain ⟨c0, c1, _, _⟩ := two_cell hc
  have HV : Hid (Ending.returned (.int .i64 (8 * (bs.length : Int) - (at_ : Int))) = Ending.returned (.int .i64 ((8 * bs.length - at_ : Nat) : Int))) := by
    unfold Hid; rw [show ((8 * bs.length - at_ : Nat) : Int) = 8 * (bs.length : Int) - (at_ : Int) by omega]
  clear hc hr hb hne
  go_enter Try.func61, Try.ntmps61
  go_wp2_with fail
  go_quiet (fail)
  go_wp2
  go_ret
  exact ⟨HV.out, _, rfl⟩

theorem lsb_at (w : World) (p : Nat) (bs : List Nat) (at_ : Nat) (h : Rd w p bs at_) :
    Calls Try.prog 26 #[.pointer (some ⟨p, 0, none⟩)] w fun e w' => e = .returned (.int .i64 (at_ : Nat)) ∧ w' = w := by
  obtain ⟨a, cap, hc, hr, hb, hl, ha, hne⟩ := h
  obtain ⟨c0, c1, _, _⟩ := two_cell hc
  clear hc hr hb hne
  go_enter Try.func26, Try.ntmps26
  go_wp2
  go_ret
  exact ⟨rfl, rfl⟩

set_option maxRecDepth 100000 in
set_option maxHeartbeats 1600000 in
theorem lsb_get (w : World) (p : Nat) (bs : List Nat) (at_ n : Nat) (hn : n ≤ 32) (h : Rd w p bs at_) (hle : at_ + n ≤ 8 * bs.length) :
    Calls Try.prog 25 #[.pointer (some ⟨p, 0, none⟩), .int .i64 (n : Nat)] w fun e w' => e = .returned (.tuple #[.int .u32 (num bs at_ n : Nat), .int .i64 0]) ∧ Rd w' p bs (at_ + n) ∧ Only (fun b => b = p) w w' := by
  have HL := Lib.hid (lsb_left w p bs at_ h)
  have t1 : decide ((n : Int) < 0) = false := by simp
  have t2 : decide ((32 : Int) < (n : Int)) = false := by simp; omega
  have t3 : decide (((8 * bs.length - at_ : Nat) : Int) < (n : Int)) = false := by simp; omega
  have H := Lib.hid h
  have HLE := Lib.hid hle
  clear h hle
  go_enter Try.func25, Try.ntmps25
  go_wp2_with fail
  refine HL.out.mono ?_
  rintro e w1 ⟨rfl, q, rfl⟩
  generalize hd : ((8 * bs.length - at_ : Nat) : Int) = lf at *
  clear HL hd
  go_wp2_with fail
  go_loopw [6, 7, 8, 25] (fun v _ _ i A => ∃ k : Nat, k ≤ n ∧ i = .int .i64 k ∧ v = .int .u32 (num bs at_ k : Nat) ∧ Rd A p bs (at_ + k) ∧ Only (fun b => b = p) w A) (fun _ _ _ i _ => n - (intOf i).toNat)
  case atStart => exact ⟨0, by omega, rfl, rfl, H.out, ⟨rfl, rfl, rfl, Nat.le_refl _, fun _ _ _ => rfl⟩⟩
  case round =>
    obtain ⟨k, hk, rfl, rfl, hrd, honly⟩ := hrel
    have HON := Lib.hid honly
    clear honly
    by_cases hlt : k < n
    · have hle := HLE.out
      obtain ⟨a, cap, hc, hr, hb, hl, ha, hne⟩ := hrd
      obtain ⟨c0, c1, d0, d1⟩ := two_cell hc
      have hil : (at_ + k) / 8 < bs.length := by omega
      obtain ⟨bl, off, rfl, hbl, hck⟩ := hr.at hil
      have hx := hb _ (List.getElem_mem hil)
      have hbit : bit bs (at_ + k) = bs[(at_ + k) / 8] / 2 ^ ((at_ + k) % 8) % 2 := by
        unfold bit; simp [hil]
      have HNUM := Lib.hid (show num bs at_ (k + 1) = num bs at_ k + bit bs (at_ + k) * 2 ^ k from rfl)
      have hnl := num_lt bs at_ k
      have HB := Lib.hid hb
      have HC := Lib.hid hc
      have HR := Lib.hid hr
      have HNE := Lib.hid hne
      have HAT := Lib.hid (show at_ + k + 1 = at_ + (k + 1) from rfl)
      have hmle : at_ + k + 1 ≤ 8 * bs.length := by omega
      generalize hm : at_ + k = m at *
      clear hb hc hr hne hle ha HLE
      generalize bs[m / 8] = x at *
      obtain ⟨t, ht⟩ : ∃ t, m / 8 = t := ⟨_, rfl⟩
      obtain ⟨r, hr8⟩ : ∃ r, m % 8 = r := ⟨_, rfl⟩
      rw [ht] at hck hil
      rw [hr8] at hbit
      have hq1 : (m : Int) / 8 = (t : Int) := by omega
      have hq2 : (m : Int) % 8 = (r : Int) := by omega
      have hr7 : r < 8 := by omega
      have hml : m ≤ 800000000 := by omega
      have hti : (t : Int) < (bs.length : Int) := by omega
      clear ht hr8 hm
      go_wp2_with fail
      go_quiet (fail)
      simp only [and_one x r hx]
      rw [← hbit]
      have hbv := bit_lt bs m
      generalize bit bs m = bv at *
      have HOR := Lib.hid (or_step _ bv k hnl hbv (by omega))
      generalize num bs at_ k = v at *
      have hc1' : (wr.drewN nq).cell? ⟨p, 1, none⟩ = some (.int .i64 (m : Nat)) := c1
      have hd1' : (wr.drewN nq).frozen? ⟨p, 1, none⟩ = false := d1
      clear c0 c1 d0 d1 hck hq1 hq2 hbit hbv hnl
      go_wp2
      go_roundw
      case rel =>
        obtain ⟨k1, k2⟩ := rd_step HC.out HR.out HB.out hl HNE.out (m + 1) hmle nq
        rw [show ((m + 1 : Nat) : Int) = (m : Int) + 1 by simp] at k1 k2
        exact ⟨k + 1, by omega, by go_num, by rw [HOR.out, HNUM.out], by rw [← HAT.out]; exact k1, HON.out.trans k2⟩
      case measure => simp [intOf]; omega
    · obtain rfl : k = n := by omega
      have HRD := Lib.hid hrd
      clear hrd
      go_wp2
      go_ret2
      exact ⟨rfl, HRD.out, HON.out⟩

set_option maxRecDepth 100000 in
theorem lsb_get_no (w : World) (p : Nat) (bs : List Nat) (at_ n : Nat) (hn : n ≤ 32) (h : Rd w p bs at_) (hle : 8 * bs.length < at_ + n) :
    Calls Try.prog 25 #[.pointer (some ⟨p, 0, none⟩), .int .i64 (n : Nat)] w fun e w' => e = .returned (.tuple #[.int .u32 0, .int .i64 2]) ∧ ∃ q, w' = w.drewN q := by
  have HL := Lib.hid (lsb_left w p bs at_ h)
  have hat : at_ ≤ 8 * bs.length := by obtain ⟨_, _, _, _, _, _, ha, _⟩ := h; exact ha
  have t1 : decide ((n : Int) < 0) = false := by simp
  have t2 : decide ((32 : Int) < (n : Int)) = false := by simp; omega
  have t3 : decide (((8 * bs.length - at_ : Nat) : Int) < (n : Int)) = true := by simp; omega
  clear h hle
  go_enter Try.func25, Try.ntmps25
  go_wp2_with fail
  refine HL.out.mono ?_
  rintro e w1 ⟨rfl, q, rfl⟩
  generalize hd : ((8 * bs.length - at_ : Nat) : Int) = lf at *
  clear HL hd
  go_wp2
  go_ret2
  exact ⟨rfl, q, rfl⟩

theorem eqNilT (w : World) : (binOp .eql 22 (.slice none 0 0) (.slice none 0 0)).run Try.prog w = .ok (.bool true) w := by kernel_rfl
theorem eqNilF (x : Addr) (n c : Nat) (w : World) : (binOp .eql 22 (.slice (some x) n c) (.slice none 0 0)).run Try.prog w = .ok (.bool false) w := by kernel_rfl
set_option maxRecDepth 100000 in
theorem slices_clone (w : World) (a : Option Addr) (cap : Nat) (l : List Nat) (hr : RowN .u8 w a cap l) (hl : l.length ≤ 100000000) :
    Calls Try.prog 52 #[.slice a l.length cap] w fun e w' => ∃ a' c', e = .returned (.slice a' l.length c') ∧ OwnN 5 .u8 w' w.heap.size a' c' l ∧ Below w.heap.size w w' := by
  by_cases ha : a = none
  · subst ha
    have h0 : cap = 0 := hr.2.1.2 rfl
    subst h0
    have hl0 : l = [] := List.eq_nil_of_length_eq_zero (by have := hr.1; omega)
    subst hl0
    clear hr
    go_enter Try.func52, Try.ntmps52
    go_wp2_with fail
    rw [eqNilT]
    go_wp2
    go_ret
    exact ⟨none, 0, rfl, OwnN.nil _ _ _ _, Below.refl _ _⟩
  · obtain ⟨x, rfl⟩ := Option.ne_none_iff_exists'.1 ha
    clear ha
    go_enter Try.func52, Try.ntmps52
    go_wp2_with fail
    rw [eqNilF]
    go_wp2_with (at_builtin; refine appAnyN et_u8 rfl (.tmp 5) (.tmp 6) rfl (a := some ⟨w.heap.size, 0, none⟩) (cap := 0) (l := []) (ys := l) (base := w.heap.size) rfl (OwnN.lit0 _ _ _ _ (Nat.le_refl _)) rfl rfl (hr.below ((Below.refl _ _).alloc (Nat.le_refl _) _)) (by simp; omega) (by simp; omega) (by simp) ?_; intro a1 cap1 w1 hown1 hg1 hb1; simp only [List.nil_append] at hown1; simp only [List.length_nil, Nat.zero_add])
    go_ret
    exact ⟨a1, cap1, rfl, hown1, ((Below.refl w.heap.size w).alloc (Nat.le_refl _) _).trans hb1⟩

theorem lsb_new (w : World) (a : Option Addr) (cap : Nat) (l : List Nat) (hr : RowN .u8 w a cap l) (hb : ∀ x ∈ l, x < 256) (hl : l.length ≤ 100000000) :
    Calls Try.prog 23 #[.slice a l.length cap] w fun e w' => ∃ p, e = .returned (.pointer (some ⟨p, 0, none⟩)) ∧ Rd w' p l 0 ∧ Below w.heap.size w w' ∧ w.heap.size ≤ p := by
  go_enter Try.func23, Try.ntmps23
  go_wp2_with fail
  refine (slices_clone _ _ _ _ hr hl).mono ?_
  rintro e w1 ⟨a1, c1, rfl, ho, hbw⟩
  have HO := Lib.hid ho
  have HB := Lib.hid hbw
  clear ho hbw
  go_wp2
  go_ret
  refine ⟨w1.heap.size, rfl, ⟨a1, c1, World.alloc_heap_new _ _, (HO.out.alloc _).row, hb, hl, by omega, fun x hx => ?_⟩, HB.out.alloc HB.out.size _, HB.out.size⟩
  rcases HO.out.form with ⟨h1, _⟩ | ⟨g, h1, _, h2⟩
  · rw [h1] at hx; cases hx
  · rw [h1] at hx; cases hx; exact h2
end Go.Proofs.Ytmgoeokdlklabaa
