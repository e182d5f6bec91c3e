/- inflate.Inflate: contract. -/
import Derived.Test.YtlofoocgiomfbaaCatch
import Derived.Test.YtlofoocgiomfbaaCol
import Derived.Test.YtlofoocgiomfbaaFlow
import Derived.Test.YtlofoocgiomfbaaFix
import Derived.Test.YtlofoocgiomfbaaRef08
import Derived.Laws.EntriesVeiled
namespace Go.Proofs.Ytlofoocgiomfbaa
open Go.RowKit Go.Shelf M01 M04 M09 M10
set_option linter.unusedVariables false

/-- how the call begins -/
structure FBegun (w w0 : World) (q : Nat) : Prop where
  base : w.heap.size = q
  below : Below w.heap.size w w0
  size : w0.heap.size = q + 1 + 1
  res : FRes q w0 (.slice none 0 0) (.int .i64 0) (.int .i64 0) (.bool false) (.int .i64 0)
theorem fbegun (w : World) : FBegun w ((w.alloc (.cells #[.slice none 0 0, .int .i64 0, .int .i64 0, .bool false] 39)).alloc (.cells #[.int .i64 0] 24)) w.heap.size := by
  refine ⟨rfl, (box_b w _).trans ((box_b _ _).mono (by simp)), by simp, ⟨?_, ?_⟩⟩
  · rw [Below.heap_alloc _ _ _ (by simp)]; exact World.alloc_heap_new _ _
  · have := World.alloc_heap_new (w.alloc (.cells #[.slice none 0 0, .int .i64 0, .int .i64 0, .bool false] 39)) (.cells #[.int .i64 0] 24)
    simpa using this
/-- the post that the call is walked to -/
def FPost (w : World) (keep : Nat) (R : Option (Nat × List Nat)) (e : Ending) (w' : World) : Prop := Below w.heap.size w w' ∧ InflOut keep R e w'

theorem Below.ofOnly {w w' : World} {n : Nat} (h : Only (fun b => n ≤ b) w w') (hn : n ≤ w.heap.size) : Below n w w' := ⟨h.os, h.tape, h.output, h.size, fun b hb => h.block b (Nat.lt_of_lt_of_le hb hn) (fun e => Nat.lt_irrefl _ (Nat.lt_of_lt_of_le hb e))⟩
/-- blocks of the stream: its own, the reader's, and what is made later -/
def PS (rp sp n b : Nat) : Prop := b = rp ∨ b = sp ∨ n ≤ b
/-- the call, in its midst -/
structure FMid (w w5 : World) (q rp sp : Nat) : Prop where
  base : w.heap.size = q
  size : q + 1 + 1 ≤ w5.heap.size
  below : Only (fun b => q + 1 + 1 ≤ b) w5 w5
  only : Below q w w5
  res : FRes q w5 (.slice none 0 0) (.int .i64 0) (.int .i64 0) (.bool false) (.int .i64 0)
  rpLe : q + 1 + 1 ≤ rp
  spLe : q + 1 + 1 ≤ sp
  kinds : w5.heap[sp + 1]? = some (.cells #[.func (Fn.func 36) #[] #[], .func (Fn.func 37) #[] #[], .func (Fn.func 38) #[] #[], .func (Fn.func 39) #[] #[]] 80 (0, 0))
  lt : rp < sp ∧ sp + 1 < w5.heap.size
theorem FMid.at {w w5 A : World} {q rp sp : Nat} (h : FMid w w5 q rp sp) (ho : Only (PS rp sp w5.heap.size) w5 A) : Below q w A ∧ FRes q A (.slice none 0 0) (.int .i64 0) (.int .i64 0) (.bool false) (.int .i64 0) ∧ A.heap[sp + 1]? = some (.cells #[.func (Fn.func 36) #[] #[], .func (Fn.func 37) #[] #[], .func (Fn.func 38) #[] #[], .func (Fn.func 39) #[] #[]] 80 (0, 0)) := by
  have h1 := h.rpLe
  have h2 := h.spLe
  have h3 := h.size
  have h4 := h.lt
  have hb : ∀ b, b < q + 1 + 1 → A.heap[b]? = w5.heap[b]? := fun b hb => ho.block b (by omega) (by unfold PS; omega)
  refine ⟨⟨ho.os.trans h.only.os, ho.tape.trans h.only.tape, ho.output.trans h.only.output, Nat.le_trans h.only.size ho.size, fun b hq => (hb b (by omega)).trans (h.only.block b hq)⟩, ⟨(hb q (by omega)).trans h.res.1, (hb (q + 1) (by omega)).trans h.res.2⟩, ?_⟩
  exact (ho.block (sp + 1) h4.2 (by unfold PS; omega)).trans h.kinds
theorem setF_below {w A : World} {q : Nat} (h : Below q w A) (hq : w.heap.size = q) (x0 x1 x2 x3 z : Value) : Below q w (setF q A x0 x1 x2 x3 z) := by
  subst hq
  have h1 := setF_only (T := fun _ => False) (Only.ofBelow h) (Nat.le_refl _) x0 x1 x2 x3 z
  exact ⟨h1.os, h1.tape, h1.output, h1.size, fun b hb => h1.block b hb (fun e => e)⟩
theorem infl_panics {w w5 A : World} {q rp sp keep : Nat} {R : Option (Nat × List Nat)} {tmps : Array Value} (h : FMid w w5 q rp sp) (ho : Only (PS rp sp w5.heap.size) w5 A) (hR : R = none)
    (t4 : tmps.getD 4 undef = .pointer (some ⟨q, 0, none⟩)) (t5 : tmps.getD 5 undef = .pointer (some ⟨q + 1, 0, none⟩)) :
    bodyPostD Try.prog Try.f18 (FPost w keep R) (.panic formP) { tmps := tmps, defers := idefr q } A := by
  obtain ⟨h1, h2, _⟩ := h.at ho
  refine infl_thrown h2 t4 t5 ?_
  subst hR
  exact ⟨by rw [h.base]; exact setF_below h1 h.base _ _ _ _ _, rfl⟩
theorem kinds_at {A : World} {b k : Nat} {t : TypeId} (h : A.heap[b]? = some (.cells #[.func (Fn.func 36) #[] #[], .func (Fn.func 37) #[] #[], .func (Fn.func 38) #[] #[], .func (Fn.func 39) #[] #[]] t (0, 0))) (hk : k < 4) : A.cell? ⟨b, k, none⟩ = some (.func (Fn.func (kindF k)) #[] #[]) := by
  obtain ⟨c0, c1, c2, c3, _, _⟩ := four_cells h
  match k, hk with
  | 0, _ => exact c0
  | 1, _ => exact c1
  | 2, _ => exact c2
  | 3, _ => exact c3

theorem quo8 (n : Nat) (h : n ≤ 10000000000) (w : World) : (binOp .quo 3 (.int .i64 (n : Nat)) (.int .i64 8) : Sem Value).run Try.prog w = .ok (.int .i64 ((n / 8 : Nat) : Int)) w := by
  have hx : IntKind.i64.wrap ((n : Int) / 8) = (n : Int) / 8 := IntWalk.i64_in _ (by omega)
  simp [binOp, hx, go_sem]
theorem fldS1 (b : Nat) (w : World) : (Instr.fieldAt 77 (.pointer (some ⟨b, 0, none⟩)) 1).run Try.prog w = .ok (.pointer (some ⟨b, 1, none⟩)) w := by kernel_rfl
theorem fldS3 (b : Nat) (w : World) : (Instr.fieldAt 77 (.pointer (some ⟨b, 0, none⟩)) 3).run Try.prog w = .ok (.pointer (some ⟨b, 3, none⟩)) w := by kernel_rfl
theorem fldS0 (b : Nat) (w : World) : (Instr.fieldAt 77 (.pointer (some ⟨b, 0, none⟩)) 0).run Try.prog w = .ok (.pointer (some ⟨b, 0, none⟩)) w := by kernel_rfl
theorem ldU8s (p : Addr) (v : Value) (w : World) (h : w.cell? p = some v) : (Instr.loadAt 23 (.pointer (some p))).run Try.prog w = .ok v w := by
  simp [Instr.loadAt, Instr.sureAddr, loadVar, isAgg, run_underlying Try.underlying23, h, go_sem]
theorem ldRd (p : Addr) (v : Value) (w : World) (h : w.cell? p = some v) : (Instr.loadAt 74 (.pointer (some p))).run Try.prog w = .ok v w := by
  simp [Instr.loadAt, Instr.sureAddr, loadVar, isAgg, run_underlying Try.underlying74, h, go_sem]
theorem stFlow (b : Nat) (a : Option Addr) (n c : Nat) (x y : Int) (z : Bool) (u0 u1 u2 u3 : Value) (w : World) (h : w.heap[b]? = some (.cells #[u0, u1, u2, u3] 39 (0, 0))) :
    (Instr.storeAt 39 (.pointer (some ⟨b, 0, none⟩)) (.agg #[.slice a n c, .int .i64 x, .int .i64 y, .bool z])).run Try.prog w = .ok () ((((w.setCell ⟨b, 0, none⟩ (.slice a n c)).setCell ⟨b, 1, none⟩ (.int .i64 x)).setCell ⟨b, 2, none⟩ (.int .i64 y)).setCell ⟨b, 3, none⟩ (.bool z)) := by
  have hs : (Try.prog.info? 39).map (·.size) = some 4 := by kernel_rfl
  obtain ⟨c0, c1, c2, c3, _, _⟩ := four_cells h
  obtain ⟨d0, d1, d2, d3⟩ := four_frozen h
  cases h5 : Try.prog.info? 39 with
  | none => rw [h5] at hs; cases hs
  | some ie =>
    simp only [h5, Option.map_some, Option.some.injEq] at hs
    simp [Instr.storeAt, Instr.sureAddr, storeVar, sizeOf, typeInfo, h5, hs, Value.cells, storeCells, c0, c1, c2, c3, d0, d1, d2, d3, go_sem]
theorem quoAt (n : Nat) (h : n + 7 ≤ 10000000000) (w : World) : (binOp .quo 3 (.int .i64 ((n : Int) + 7)) (.int .i64 8) : Sem Value).run Try.prog w = .ok (.int .i64 (((n : Int) + 7) / 8)) w := quo8 (n + 7) h w
theorem lsb_at_cell (w : World) (p at_ n cap : Nat) (a : Option Addr) (ha : at_ ≤ 8 * n) (hc : w.heap[p]? = some (.cells #[.slice a n cap, .int .i64 (at_ : Nat)] 110 (0, 0))) :
    Calls Try.prog 41 #[.pointer (some ⟨p, 0, none⟩)] w fun e w' => e = .returned (.int .i64 (at_ : Nat)) ∧ w' = w := by
  obtain ⟨c0, c1, _, _⟩ := two_cell hc
  clear hc ha
  go_enter Try.func41, Try.ntmps41
  go_wp2
  go_ret
  exact ⟨rfl, rfl⟩
theorem one_frozen {w : World} {b : Nat} {u : Value} {t : TypeId} (h : w.heap[b]? = some (.cells #[u] t (0, 0))) : w.frozen? ⟨b, 0, none⟩ = false := by simp [World.frozen?, h]
theorem eqgQ (t : TypeId) (x y : Operand) (u v : Value) (w : World) : (eqGuard .quo t x y u v).run Try.prog w = .ok () w := by simp [eqGuard, go_sem]
/-- the results are set, in whichever order -/
def FloR (q : Nat) (w0 : World) (x0 x1 x2 : Value) (b1 b2 : Bool) (A : World) : Prop := Only (fun b => b = q ∨ b = q + 1) w0 A ∧ FRes q A (if b1 = true then x0 else .slice none 0 0) (if b1 = true then x1 else .int .i64 0) (if b1 = true then x2 else .int .i64 0) (.bool false) (.int .i64 0)
theorem FloR.set1 {q : Nat} {w0 A : World} {x0 x1 x2 : Value} {b1 b2 : Bool} (h : FloR q w0 x0 x1 x2 b1 b2 A) : FloR q w0 x0 x1 x2 true b2 ((((A.setCell ⟨q, 0, none⟩ x0).setCell ⟨q, 1, none⟩ x1).setCell ⟨q, 2, none⟩ x2).setCell ⟨q, 3, none⟩ (.bool false)) := by
  obtain ⟨h0, h1, h2⟩ := h
  refine ⟨(((h0.setCell (p := ⟨q, 0, none⟩) (.inl (.inl rfl)) _).setCell (p := ⟨q, 1, none⟩) (.inl (.inl rfl)) _).setCell (p := ⟨q, 2, none⟩) (.inl (.inl rfl)) _).setCell (p := ⟨q, 3, none⟩) (.inl (.inl rfl)) _, set_four h1 _ _ _ _, ?_⟩
  rw [Below.heap_setCell _ _ _ _ (by show q + 1 ≠ q; omega), Below.heap_setCell _ _ _ _ (by show q + 1 ≠ q; omega), Below.heap_setCell _ _ _ _ (by show q + 1 ≠ q; omega), Below.heap_setCell _ _ _ _ (by show q + 1 ≠ q; omega)]
  exact h2
theorem FloR.set2 {q : Nat} {w0 A : World} {x0 x1 x2 : Value} {b1 b2 : Bool} (h : FloR q w0 x0 x1 x2 b1 b2 A) : FloR q w0 x0 x1 x2 b1 true (A.setCell ⟨q + 1, 0, none⟩ (.int .i64 0)) := by
  obtain ⟨h0, h1, h2⟩ := h
  exact ⟨h0.setCell (p := ⟨q + 1, 0, none⟩) (.inl (.inr rfl)) _, by rw [Below.heap_setCell _ _ _ _ (by show q ≠ q + 1; omega)]; exact h1, set_one h2⟩

set_option maxRecDepth 100000 in
set_option maxHeartbeats 3200000 in
theorem inflate_inflate (w : World) (a : Option Addr) (cap : Nat) (bs : List Nat) (keep : Nat) (hr : RowN .u8 w a cap bs) (hb : ∀ x ∈ bs, x < 256) (hl : bs.length ≤ 100000) (hk : keep ≤ 1000000000) :
    Calls Try.prog 18 #[.slice a bs.length cap, .int .i64 (keep : Nat)] w fun e w' => FPost w keep (inflB bs) e w' := by
  have HBG := Lib.hid (fbegun w)
  have HN := Lib.hid (lsb_new _ a cap bs (hr.below HBG.out.below) hb (by omega))
  clear hb hr
  obtain ⟨R, hR0⟩ : ∃ R, R = inflB bs := ⟨_, rfl⟩
  rw [← hR0]
  replace hR0 := Lib.hid hR0
  have hmf : ∀ (fn : Fn) (first cap : Array Value) (w : World), (Instr.makeFunc fn first cap).run Try.prog w = .ok (.func fn first cap) w := fun _ _ _ _ => rfl
  go_enter_defers Try.func18, Try.ntmps18
  go_wp2_with fail
  generalize (w.alloc (.cells #[.slice none 0 0, .int .i64 0, .int .i64 0, .bool false] 39)).alloc (.cells #[.int .i64 0] 24) = w0 at *
  obtain ⟨q, hq⟩ : ∃ q, w.heap.size = q := ⟨_, rfl⟩
  simp only [hq] at *
  refine HN.out.mono ?_
  rintro e w1 ⟨rp, rfl, hrd, hb1, hrp⟩
  have HRD := Lib.hid hrd
  have HB1 := Lib.hid hb1
  clear hrd hb1 HN
  go_wp2_with fail
  have HF : Hid (FMid w ((w1.alloc (.cells #[.pointer (some ⟨rp, 0, none⟩), .slice none 0 0, .int .i64 (keep : Nat), .int .i64 0] 77)).alloc (.cells #[.func (Fn.func 36) #[] #[], .func (Fn.func 37) #[] #[], .func (Fn.func 38) #[] #[], .func (Fn.func 39) #[] #[]] 80)) q rp w1.heap.size) := by
    unfold Hid
    have z0 := HBG.out.size
    have z1 := HB1.out.size
    have hw : w.heap.size = q := HBG.out.base
    have b2 : Below w0.heap.size w0 ((w1.alloc (.cells #[.pointer (some ⟨rp, 0, none⟩), .slice none 0 0, .int .i64 (keep : Nat), .int .i64 0] 77)).alloc (.cells #[.func (Fn.func 36) #[] #[], .func (Fn.func 37) #[] #[], .func (Fn.func 38) #[] #[], .func (Fn.func 39) #[] #[]] 80)) := (HB1.out.trans ((box_b w1 _).mono z1)).trans ((box_b _ _).mono (by simp; omega))
    refine ⟨hw, ?_, Only.refl _ _, ?_, ⟨?_, ?_⟩, by omega, by omega, ?_, ⟨HRD.out.lt, by simp⟩⟩
    · simp; omega
    · have := HBG.out.below
      rw [hw] at this
      exact this.trans (b2.mono (by omega))
    · rw [b2.block q (by omega)]; exact HBG.out.res.1
    · rw [b2.block (q + 1) (by omega)]; exact HBG.out.res.2
    · have := World.alloc_heap_new (w1.alloc (.cells #[.pointer (some ⟨rp, 0, none⟩), .slice none 0 0, .int .i64 (keep : Nat), .int .i64 0] 77)) (.cells #[.func (Fn.func 36) #[] #[], .func (Fn.func 37) #[] #[], .func (Fn.func 38) #[] #[], .func (Fn.func 39) #[] #[]] 80)
      simpa using this
  have HS : Hid (Strm (PS rp w1.heap.size ((w1.alloc (.cells #[.pointer (some ⟨rp, 0, none⟩), .slice none 0 0, .int .i64 (keep : Nat), .int .i64 0] 77)).alloc (.cells #[.func (Fn.func 36) #[] #[], .func (Fn.func 37) #[] #[], .func (Fn.func 38) #[] #[], .func (Fn.func 39) #[] #[]] 80)).heap.size) ((w1.alloc (.cells #[.pointer (some ⟨rp, 0, none⟩), .slice none 0 0, .int .i64 (keep : Nat), .int .i64 0] 77)).alloc (.cells #[.func (Fn.func 36) #[] #[], .func (Fn.func 37) #[] #[], .func (Fn.func 38) #[] #[], .func (Fn.func 39) #[] #[]] 80)) w1.heap.size rp bs keep 0 []) := by
    unfold Hid
    have hlt := HRD.out.lt
    refine ⟨none, 0, ?_, by simpa using OwnN.nil _ _ _ _, (HRD.out.below (box_b _ _)).below (box_b _ _), .inr (.inl rfl), .inl rfl, hlt, by simp, fun b hb => .inr (.inr hb), by simp, hk⟩
    rw [Below.heap_alloc _ _ _ (by simp)]
    have := World.alloc_heap_new w1 (.cells #[.pointer (some ⟨rp, 0, none⟩), .slice none 0 0, .int .i64 (keep : Nat), .int .i64 0] 77)
    simpa using this
  generalize (w1.alloc (.cells #[.pointer (some ⟨rp, 0, none⟩), .slice none 0 0, .int .i64 (keep : Nat), .int .i64 0] 77)).alloc (.cells #[.func (Fn.func 36) #[] #[], .func (Fn.func 37) #[] #[], .func (Fn.func 38) #[] #[], .func (Fn.func 39) #[] #[]] 80) = w5 at *
  generalize w1.heap.size = sp at *
  clear hmf hrp HB1 HRD HBG
  have HSZ := Lib.hid (show ∃ n, w5.heap.size = n from ⟨_, rfl⟩)
  have hRL := Lib.hid (show R = inflL bs (8 * bs.length + 1) 0 [] from hR0.out)
  clear hR0
  go_loopw [8] (fun s A => Only (PS rp sp w5.heap.size) w5 A ∧ ∃ at2 out, Strm (PS rp sp w5.heap.size) A sp rp bs keep at2 out ∧ ((s = .int .i64 0 ∧ ∃ f, 8 * bs.length + 1 ≤ f + at2 ∧ R = inflL bs f at2 out) ∨ (s = .int .i64 1 ∧ R = some (at2, out)))) (fun _ A => 8 * bs.length - rdAt A rp)
  case atStart => exact ⟨Only.refl _ _, 0, [], HS.out, .inl ⟨rfl, _, by omega, hRL.out⟩⟩
  case round =>
    clear HS hRL
    obtain ⟨ho, at2, out, hs, hrel⟩ := hrel
    have HO := Lib.hid ho
    have HST := Lib.hid hs
    clear ho hs
    rcases hrel with ⟨rfl, f, hf, hR⟩ | ⟨rfl, hR⟩
    · have hbd := HST.out.bound
      have hrdA := rdAt_eq HST.out.rd
      obtain ⟨f, rfl⟩ : ∃ g, f = g + 1 := ⟨f - 1, by omega⟩
      rw [inflL_succ] at hR
      have HR := Lib.hid (show R = if at2 + 1 ≤ 8 * bs.length then if at2 + 1 + 2 ≤ 8 * bs.length then
        match blkK (num bs (at2 + 1) 2) bs (at2 + 1 + 2) out with
        | none => none
        | some (a2, o2) => if num bs at2 1 = 0 then inflL bs f a2 o2 else some (a2, o2)
        else none else none from hR)
      clear hR
      go_wp2_with fail
      by_cases h1 : at2 + 1 ≤ 8 * bs.length
      case neg =>
        have HN : Hid (R = none) := by unfold Hid; rw [HR.out, if_neg h1]
        refine (strm_bits_no HST.out 1 (by decide) (by omega)).mono ?_
        rintro e w6 ⟨rfl, ho6⟩
        exact infl_panics HF.out (HO.out.trans ho6) HN.out rfl rfl
      refine (strm_bits_ok HST.out 1 (by decide) h1).mono ?_
      rintro e w6 ⟨rfl, ho6, hs6⟩
      have HO6 := Lib.hid (HO.out.trans ho6)
      have HS6 := Lib.hid hs6
      have hx := num_lt bs at2 1
      have HR2 : Hid (R = if at2 + 1 + 2 ≤ 8 * bs.length then
        match blkK (num bs (at2 + 1) 2) bs (at2 + 1 + 2) out with
        | none => none
        | some (a2, o2) => if num bs at2 1 = 0 then inflL bs f a2 o2 else some (a2, o2)
        else none) := by unfold Hid; rw [HR.out, if_pos h1]
      clear ho6 hs6 HR HO HST h1
      generalize num bs at2 1 = x at *
      go_wp2_with fail
      by_cases h2 : at2 + 1 + 2 ≤ 8 * bs.length
      case neg =>
        have HN : Hid (R = none) := by unfold Hid; rw [HR2.out, if_neg h2]
        refine (strm_bits_no HS6.out 2 (by decide) (by omega)).mono ?_
        rintro e w7 ⟨rfl, ho7⟩
        exact infl_panics HF.out (HO6.out.trans ho7) HN.out rfl rfl
      refine (strm_bits_ok HS6.out 2 (by decide) h2).mono ?_
      rintro e w7 ⟨rfl, ho7, hs7⟩
      have HO7 := Lib.hid (HO6.out.trans ho7)
      have HS7 := Lib.hid hs7
      have hy := num_lt bs (at2 + 1) 2
      have HR3 : Hid (R = match blkK (num bs (at2 + 1) 2) bs (at2 + 1 + 2) out with
        | none => none
        | some (a2, o2) => if x = 0 then inflL bs f a2 o2 else some (a2, o2)) := by unfold Hid; rw [HR2.out, if_pos h2]
      have HLC := Lib.hid (fun a2 o2 (hb : blkK (num bs (at2 + 1) 2) bs (at2 + 1 + 2) out = some (a2, o2)) => (blkK_loc (d := 0) (bs' := bs) (pre := []) rfl h2 hb).1)
      clear ho7 hs7 HR2 HO6 HS6
      generalize num bs (at2 + 1) 2 = y at *
      rcases (show y = 0 ∨ y = 1 ∨ y = 2 ∨ y = 3 by omega) with rfl | rfl | rfl | rfl
      · have hky : w7.cell? ⟨sp + 1, 0, none⟩ = some (.func (Fn.func 36) #[] #[]) := kinds_at (k := 0) (HF.out.at HO7.out).2.2 (by decide)
        have HKC := Lib.hid (show Calls Try.prog 36 #[.pointer (some ⟨sp, 0, none⟩)] w7 _ from strm_kind HS7.out 0)
        generalize blkK 0 bs (at2 + 1 + 2) out = B at *
        go_wp2_with fail
        refine HKC.out.mono ?_
        intro e w8 hso
        rcases B with _ | ⟨a3, o3⟩
        · obtain ⟨ho8, rfl⟩ : Only _ w7 w8 ∧ e = _ := hso
          have HN : Hid (R = none) := HR3.out
          exact infl_panics HF.out (HO7.out.trans ho8) HN.out rfl rfl
        · obtain ⟨ho8, rfl, hs8⟩ : Only _ w7 w8 ∧ e = _ ∧ _ := hso
          have HR4 : Hid (R = if x = 0 then inflL bs f a3 o3 else some (a3, o3)) := HR3.out
          have HO8 := Lib.hid (HO7.out.trans ho8)
          have HS8 := Lib.hid hs8
          have hlt := HLC.out a3 o3 rfl
          have hrd8 := rdAt_eq hs8.rd
          clear ho8 hs8 HR3 HLC HKC hky HO7 HS7
          go_wp2
          go_roundw
          case rel =>
            refine ⟨HO8.out, a3, o3, HS8.out, ?_⟩
            have hR4 := HR4.out
            by_cases hx0 : x = 0
            · subst hx0
              exact .inl ⟨rfl, f, by omega, by rw [hR4, if_pos rfl]⟩
            · obtain rfl : x = 1 := by omega
              exact .inr ⟨rfl, by rw [hR4, if_neg hx0]⟩
          case measure => rw [hrd8, hrdA]; omega
      · have hky : w7.cell? ⟨sp + 1, 1, none⟩ = some (.func (Fn.func 37) #[] #[]) := kinds_at (k := 1) (HF.out.at HO7.out).2.2 (by decide)
        have HKC := Lib.hid (show Calls Try.prog 37 #[.pointer (some ⟨sp, 0, none⟩)] w7 _ from strm_kind HS7.out 1)
        generalize blkK 1 bs (at2 + 1 + 2) out = B at *
        go_wp2_with fail
        refine HKC.out.mono ?_
        intro e w8 hso
        rcases B with _ | ⟨a3, o3⟩
        · obtain ⟨ho8, rfl⟩ : Only _ w7 w8 ∧ e = _ := hso
          have HN : Hid (R = none) := HR3.out
          exact infl_panics HF.out (HO7.out.trans ho8) HN.out rfl rfl
        · obtain ⟨ho8, rfl, hs8⟩ : Only _ w7 w8 ∧ e = _ ∧ _ := hso
          have HR4 : Hid (R = if x = 0 then inflL bs f a3 o3 else some (a3, o3)) := HR3.out
          have HO8 := Lib.hid (HO7.out.trans ho8)
          have HS8 := Lib.hid hs8
          have hlt := HLC.out a3 o3 rfl
          have hrd8 := rdAt_eq hs8.rd
          clear ho8 hs8 HR3 HLC HKC hky HO7 HS7
          go_wp2
          go_roundw
          case rel =>
            refine ⟨HO8.out, a3, o3, HS8.out, ?_⟩
            have hR4 := HR4.out
            by_cases hx0 : x = 0
            · subst hx0
              exact .inl ⟨rfl, f, by omega, by rw [hR4, if_pos rfl]⟩
            · obtain rfl : x = 1 := by omega
              exact .inr ⟨rfl, by rw [hR4, if_neg hx0]⟩
          case measure => rw [hrd8, hrdA]; omega
      · have hky : w7.cell? ⟨sp + 1, 2, none⟩ = some (.func (Fn.func 38) #[] #[]) := kinds_at (k := 2) (HF.out.at HO7.out).2.2 (by decide)
        have HKC := Lib.hid (show Calls Try.prog 38 #[.pointer (some ⟨sp, 0, none⟩)] w7 _ from strm_kind HS7.out 2)
        generalize blkK 2 bs (at2 + 1 + 2) out = B at *
        go_wp2_with fail
        refine HKC.out.mono ?_
        intro e w8 hso
        rcases B with _ | ⟨a3, o3⟩
        · obtain ⟨ho8, rfl⟩ : Only _ w7 w8 ∧ e = _ := hso
          have HN : Hid (R = none) := HR3.out
          exact infl_panics HF.out (HO7.out.trans ho8) HN.out rfl rfl
        · obtain ⟨ho8, rfl, hs8⟩ : Only _ w7 w8 ∧ e = _ ∧ _ := hso
          have HR4 : Hid (R = if x = 0 then inflL bs f a3 o3 else some (a3, o3)) := HR3.out
          have HO8 := Lib.hid (HO7.out.trans ho8)
          have HS8 := Lib.hid hs8
          have hlt := HLC.out a3 o3 rfl
          have hrd8 := rdAt_eq hs8.rd
          clear ho8 hs8 HR3 HLC HKC hky HO7 HS7
          go_wp2
          go_roundw
          case rel =>
            refine ⟨HO8.out, a3, o3, HS8.out, ?_⟩
            have hR4 := HR4.out
            by_cases hx0 : x = 0
            · subst hx0
              exact .inl ⟨rfl, f, by omega, by rw [hR4, if_pos rfl]⟩
            · obtain rfl : x = 1 := by omega
              exact .inr ⟨rfl, by rw [hR4, if_neg hx0]⟩
          case measure => rw [hrd8, hrdA]; omega
      · have hky : w7.cell? ⟨sp + 1, 3, none⟩ = some (.func (Fn.func 39) #[] #[]) := kinds_at (k := 3) (HF.out.at HO7.out).2.2 (by decide)
        have HKC := Lib.hid (show Calls Try.prog 39 #[.pointer (some ⟨sp, 0, none⟩)] w7 _ from strm_kind HS7.out 3)
        generalize blkK 3 bs (at2 + 1 + 2) out = B at *
        go_wp2_with fail
        refine HKC.out.mono ?_
        intro e w8 hso
        rcases B with _ | ⟨a3, o3⟩
        · obtain ⟨ho8, rfl⟩ : Only _ w7 w8 ∧ e = _ := hso
          have HN : Hid (R = none) := HR3.out
          exact infl_panics HF.out (HO7.out.trans ho8) HN.out rfl rfl
        · obtain ⟨ho8, rfl, hs8⟩ : Only _ w7 w8 ∧ e = _ ∧ _ := hso
          have HR4 : Hid (R = if x = 0 then inflL bs f a3 o3 else some (a3, o3)) := HR3.out
          have HO8 := Lib.hid (HO7.out.trans ho8)
          have HS8 := Lib.hid hs8
          have hlt := HLC.out a3 o3 rfl
          have hrd8 := rdAt_eq hs8.rd
          clear ho8 hs8 HR3 HLC HKC hky HO7 HS7
          go_wp2
          go_roundw
          case rel =>
            refine ⟨HO8.out, a3, o3, HS8.out, ?_⟩
            have hR4 := HR4.out
            by_cases hx0 : x = 0
            · subst hx0
              exact .inl ⟨rfl, f, by omega, by rw [hR4, if_pos rfl]⟩
            · obtain rfl : x = 1 := by omega
              exact .inr ⟨rfl, by rw [hR4, if_neg hx0]⟩
          case measure => rw [hrd8, hrdA]; omega
    · replace hR := Lib.hid hR
      go_wp2_with fail
      have hbd := HST.out.bound
      obtain ⟨oa, oc, hc, hown, hrd, _, _, hrs, hoa, _⟩ := HST.out
      have HRW := Lib.hid hown.row
      have HOA := Lib.hid hoa
      have HOWN := Lib.hid hown
      have hR2 := hR
      obtain ⟨hb1, hres, _⟩ := HF.out.at HO.out
      have HB1 := Lib.hid hb1
      have hrpl := HF.out.rpLe
      have hspl := HF.out.spLe
      have hslt := (Array.getElem?_eq_some_iff.1 hc).1
      have hw7 : IntKind.i64.wrap ((at2 : Int) + 7) = (at2 : Int) + 7 := IntWalk.i64_in _ (by omega)
      have hab : at2 ≤ 8 * bs.length := hbd.2.1
      have hq7 : at2 + 7 ≤ 10000000000 := by omega
      obtain ⟨ra, rc, hrc, _⟩ := hrd
      have hrlt := (Array.getElem?_eq_some_iff.1 hrc).1
      have hcl : ∀ {b1 b2 : Bool} A, FloR q wr.drew (.slice oa (out.take keep).length oc) (.int .i64 (out.length : Nat)) (.int .i64 (((at2 + 7) / 8 : Nat) : Int)) b1 b2 A → A.cell? ⟨sp, 1, none⟩ = some (.slice oa (out.take keep).length oc) ∧ A.cell? ⟨sp, 3, none⟩ = some (.int .i64 (out.length : Nat)) ∧ A.cell? ⟨sp, 0, none⟩ = some (.pointer (some ⟨rp, 0, none⟩)) ∧ A.heap[rp]? = some (.cells #[.slice ra bs.length rc, .int .i64 (at2 : Nat)] 110 (0, 0)) := fun A hA => by
        obtain ⟨k0, k1, k2, k3, _, _⟩ := four_cells ((hA.1.block sp hslt (by show ¬ (sp = q ∨ sp = q + 1); omega)).trans hc)
        exact ⟨k1, k3, k0, (hA.1.block rp hrlt (by show ¬ (rp = q ∨ rp = q + 1); omega)).trans hrc⟩
      clear hb1 hown hoa hR
      refine wp_region_flowL [29, 30, 31, 32, 33, 34, 35, 36, 37, 38, 39, 40, 41, 42, 43, 44] (fun _ => false) (fun listed w1 => FloR q wr.drew (.slice oa (out.take keep).length oc) (.int .i64 (out.length : Nat)) (.int .i64 (((at2 + 7) / 8 : Nat) : Int)) (listed.getD 16 false) (listed.getD 17 false) w1) (fun j v _ => match j with | 0 => v = (.pointer (some ⟨sp, 0, none⟩)) | 1 => v = (.pointer (some ⟨sp, 0, none⟩)) | 2 => v = (.pointer (some ⟨sp, 1, none⟩)) | 3 => v = (.slice oa (out.take keep).length oc) | 4 => v = (.pointer (some ⟨sp, 0, none⟩)) | 5 => v = (.pointer (some ⟨sp, 0, none⟩)) | 6 => v = (.pointer (some ⟨sp, 3, none⟩)) | 7 => v = (.int .i64 (out.length : Nat)) | 8 => v = (.pointer (some ⟨sp, 0, none⟩)) | 9 => v = (.pointer (some ⟨sp, 0, none⟩)) | 10 => v = (.pointer (some ⟨sp, 0, none⟩)) | 11 => v = (.pointer (some ⟨rp, 0, none⟩)) | 12 => v = (.int .i64 (at2 : Nat)) | 13 => v = (.int .i64 ((at2 + 7 : Nat) : Int)) | 14 => v = (.int .i64 (((at2 + 7) / 8 : Nat) : Int)) | 15 => v = (.agg #[(.slice oa (out.take keep).length oc), (.int .i64 (out.length : Nat)), (.int .i64 (((at2 + 7) / 8 : Nat) : Int)), .bool false]) | _ => True) (fun _ _ _ _ => True) (by kernel_rfl) (by kernel_rfl) (OneEach.mk' (by kernel_rfl) (by kernel_rfl)) (by kernel_rfl) (by kernel_rfl) ?_ ?_ ?_
      · exact ⟨Only.refl _ wr.drew, hres⟩
      · intro i0 o hi0 listed a1 w1 hR hil hunf hdes hanc hout hdep
        have hsz : i0 < 18 := (Array.getElem?_eq_some_iff.1 hi0).1
        have hall : i0 = 0 ∨ i0 = 1 ∨ i0 = 2 ∨ i0 = 3 ∨ i0 = 4 ∨ i0 = 5 ∨ i0 = 6 ∨ i0 = 7 ∨ i0 = 8 ∨ i0 = 9 ∨ i0 = 10 ∨ i0 = 11 ∨ i0 = 12 ∨ i0 = 13 ∨ i0 = 14 ∨ i0 = 15 ∨ i0 = 16 ∨ i0 = 17 := by omega
        clear hsz
        rcases hall with rfl | rfl | rfl | rfl | rfl | rfl | rfl | rfl | rfl | rfl | rfl | rfl | rfl | rfl | rfl | rfl | rfl | rfl <;> simp only [List.getElem?_toArray, List.getElem?_cons_zero, List.getElem?_cons_succ, Option.some.injEq] at hi0 <;> subst hi0
        · have f6 : a1.eval (.tmp 6) = (.pointer (some ⟨sp, 0, none⟩)) := hout 6 (by decide)
          refine stepTo_val (v := (.pointer (some ⟨sp, 0, none⟩))) (w' := w1) (by simp [execOp, f6]) ⟨_, rfl, ?_, fun j u hu hV _ => ⟨hV, trivial, trivial⟩, rfl⟩
          rw [getD_set_ne2 (by decide), getD_set_ne2 (by decide)]; exact hR
        · have e29 : a1.eval (.tmp 29) = (.pointer (some ⟨sp, 0, none⟩)) := hdep ⟨0, .data⟩ (by simp) rfl _ rfl
          have x29 : a1.tmps[29]?.getD undef = (.pointer (some ⟨sp, 0, none⟩)) := by simpa [Act.eval] using e29
          refine stepTo_val (v := (.pointer (some ⟨sp, 0, none⟩))) (w' := w1) (by simp [execOp, x29, go_sem]) ⟨_, rfl, ?_, fun j u hu hV _ => ⟨hV, trivial, trivial⟩, rfl⟩
          rw [getD_set_ne2 (by decide), getD_set_ne2 (by decide)]; exact hR
        · have e30 : a1.eval (.tmp 30) = (.pointer (some ⟨sp, 0, none⟩)) := hdep ⟨1, .data⟩ (by simp) rfl _ rfl
          refine stepTo_val (v := (.pointer (some ⟨sp, 1, none⟩))) (w' := w1) (by simp [execOp, e30, fldS1]) ⟨_, rfl, ?_, fun j u hu hV _ => ⟨hV, trivial, trivial⟩, rfl⟩
          rw [getD_set_ne2 (by decide), getD_set_ne2 (by decide)]; exact hR
        · have e31 : a1.eval (.tmp 31) = (.pointer (some ⟨sp, 1, none⟩)) := hdep ⟨2, .data⟩ (by simp) rfl _ rfl
          refine stepTo_val (v := (.slice oa (out.take keep).length oc)) (w' := w1) (by simp [execOp, e31, ldU8s _ _ w1 (hcl w1 hR).1]) ⟨_, rfl, ?_, fun j u hu hV _ => ⟨hV, trivial, trivial⟩, rfl⟩
          rw [getD_set_ne2 (by decide), getD_set_ne2 (by decide)]; exact hR
        · have f6 : a1.eval (.tmp 6) = (.pointer (some ⟨sp, 0, none⟩)) := hout 6 (by decide)
          refine stepTo_val (v := (.pointer (some ⟨sp, 0, none⟩))) (w' := w1) (by simp [execOp, f6]) ⟨_, rfl, ?_, fun j u hu hV _ => ⟨hV, trivial, trivial⟩, rfl⟩
          rw [getD_set_ne2 (by decide), getD_set_ne2 (by decide)]; exact hR
        · have e33 : a1.eval (.tmp 33) = (.pointer (some ⟨sp, 0, none⟩)) := hdep ⟨4, .data⟩ (by simp) rfl _ rfl
          have x33 : a1.tmps[33]?.getD undef = (.pointer (some ⟨sp, 0, none⟩)) := by simpa [Act.eval] using e33
          refine stepTo_val (v := (.pointer (some ⟨sp, 0, none⟩))) (w' := w1) (by simp [execOp, x33, go_sem]) ⟨_, rfl, ?_, fun j u hu hV _ => ⟨hV, trivial, trivial⟩, rfl⟩
          rw [getD_set_ne2 (by decide), getD_set_ne2 (by decide)]; exact hR
        · have e34 : a1.eval (.tmp 34) = (.pointer (some ⟨sp, 0, none⟩)) := hdep ⟨5, .data⟩ (by simp) rfl _ rfl
          refine stepTo_val (v := (.pointer (some ⟨sp, 3, none⟩))) (w' := w1) (by simp [execOp, e34, fldS3]) ⟨_, rfl, ?_, fun j u hu hV _ => ⟨hV, trivial, trivial⟩, rfl⟩
          rw [getD_set_ne2 (by decide), getD_set_ne2 (by decide)]; exact hR
        · have e35 : a1.eval (.tmp 35) = (.pointer (some ⟨sp, 3, none⟩)) := hdep ⟨6, .data⟩ (by simp) rfl _ rfl
          refine stepTo_val (v := (.int .i64 (out.length : Nat))) (w' := w1) (by simp [execOp, e35, ldInt _ _ w1 (hcl w1 hR).2.1]) ⟨_, rfl, ?_, fun j u hu hV _ => ⟨hV, trivial, trivial⟩, rfl⟩
          rw [getD_set_ne2 (by decide), getD_set_ne2 (by decide)]; exact hR
        · have f6 : a1.eval (.tmp 6) = (.pointer (some ⟨sp, 0, none⟩)) := hout 6 (by decide)
          refine stepTo_val (v := (.pointer (some ⟨sp, 0, none⟩))) (w' := w1) (by simp [execOp, f6]) ⟨_, rfl, ?_, fun j u hu hV _ => ⟨hV, trivial, trivial⟩, rfl⟩
          rw [getD_set_ne2 (by decide), getD_set_ne2 (by decide)]; exact hR
        · have e37 : a1.eval (.tmp 37) = (.pointer (some ⟨sp, 0, none⟩)) := hdep ⟨8, .data⟩ (by simp) rfl _ rfl
          have x37 : a1.tmps[37]?.getD undef = (.pointer (some ⟨sp, 0, none⟩)) := by simpa [Act.eval] using e37
          refine stepTo_val (v := (.pointer (some ⟨sp, 0, none⟩))) (w' := w1) (by simp [execOp, x37, go_sem]) ⟨_, rfl, ?_, fun j u hu hV _ => ⟨hV, trivial, trivial⟩, rfl⟩
          rw [getD_set_ne2 (by decide), getD_set_ne2 (by decide)]; exact hR
        · have e38 : a1.eval (.tmp 38) = (.pointer (some ⟨sp, 0, none⟩)) := hdep ⟨9, .data⟩ (by simp) rfl _ rfl
          refine stepTo_val (v := (.pointer (some ⟨sp, 0, none⟩))) (w' := w1) (by simp [execOp, e38, fldS0]) ⟨_, rfl, ?_, fun j u hu hV _ => ⟨hV, trivial, trivial⟩, rfl⟩
          rw [getD_set_ne2 (by decide), getD_set_ne2 (by decide)]; exact hR
        · have e39 : a1.eval (.tmp 39) = (.pointer (some ⟨sp, 0, none⟩)) := hdep ⟨10, .data⟩ (by simp) rfl _ rfl
          refine stepTo_val (v := (.pointer (some ⟨rp, 0, none⟩))) (w' := w1) (by simp [execOp, e39, ldRd _ _ w1 (hcl w1 hR).2.2.1]) ⟨_, rfl, ?_, fun j u hu hV _ => ⟨hV, trivial, trivial⟩, rfl⟩
          rw [getD_set_ne2 (by decide), getD_set_ne2 (by decide)]; exact hR
        · have e40 : a1.eval (.tmp 40) = (.pointer (some ⟨rp, 0, none⟩)) := hdep ⟨11, .data⟩ (by simp) rfl _ rfl
          have x40 : a1.tmps[40]?.getD undef = (.pointer (some ⟨rp, 0, none⟩)) := by simpa [Act.eval] using e40
          refine stepTo_call (f := 41) (args := #[.pointer (some ⟨rp, 0, none⟩)]) (by simp [x40, go_sem]) ((lsb_at_cell w1 rp at2 _ _ _ hab (hcl w1 hR).2.2.2).mono ?_)
          rintro e w2 ⟨rfl, rfl⟩
          refine ⟨_, rfl, ⟨_, rfl, ?_, fun j u hu hV _ => ⟨hV, trivial, trivial⟩, rfl⟩⟩
          rw [getD_set_ne2 (by decide), getD_set_ne2 (by decide)]; exact hR
        · have e41 : a1.eval (.tmp 41) = (.int .i64 (at2 : Nat)) := hdep ⟨12, .data⟩ (by simp) rfl _ rfl
          refine stepTo_val (v := (.int .i64 ((at2 + 7 : Nat) : Int))) (w' := w1) (by simp [execOp, e41, evalC, eqgA, addI, hw7]) ⟨_, rfl, ?_, fun j u hu hV _ => ⟨hV, trivial, trivial⟩, rfl⟩
          rw [getD_set_ne2 (by decide), getD_set_ne2 (by decide)]; exact hR
        · have e42 : a1.eval (.tmp 42) = (.int .i64 ((at2 + 7 : Nat) : Int)) := hdep ⟨13, .data⟩ (by simp) rfl _ rfl
          refine stepTo_val (v := (.int .i64 (((at2 + 7) / 8 : Nat) : Int))) (w' := w1) (by simp [execOp, e42, evalC, eqgQ, quoAt at2 hq7]) ⟨_, rfl, ?_, fun j u hu hV _ => ⟨hV, trivial, trivial⟩, rfl⟩
          rw [getD_set_ne2 (by decide), getD_set_ne2 (by decide)]; exact hR
        · have e32 : a1.eval (.tmp 32) = (.slice oa (out.take keep).length oc) := hdep ⟨3, .data⟩ (by simp) rfl _ rfl
          have x32 : a1.tmps[32]?.getD undef = (.slice oa (out.take keep).length oc) := by simpa [Act.eval] using e32
          have e36 : a1.eval (.tmp 36) = (.int .i64 (out.length : Nat)) := hdep ⟨7, .data⟩ (by simp) rfl _ rfl
          have x36 : a1.tmps[36]?.getD undef = (.int .i64 (out.length : Nat)) := by simpa [Act.eval] using e36
          have e43 : a1.eval (.tmp 43) = (.int .i64 (((at2 + 7) / 8 : Nat) : Int)) := hdep ⟨14, .data⟩ (by simp) rfl _ rfl
          have x43 : a1.tmps[43]?.getD undef = (.int .i64 (((at2 + 7) / 8 : Nat) : Int)) := by simpa [Act.eval] using e43
          refine stepTo_val (v := (.agg #[(.slice oa (out.take keep).length oc), (.int .i64 (out.length : Nat)), (.int .i64 (((at2 + 7) / 8 : Nat) : Int)), .bool false])) (w' := w1) (by simp [execOp, x32, x36, x43, go_sem]) ⟨_, rfl, ?_, fun j u hu hV _ => ⟨hV, trivial, trivial⟩, rfl⟩
          rw [getD_set_ne2 (by decide), getD_set_ne2 (by decide)]; exact hR
        · have f4 : a1.eval (.tmp 4) = .pointer (some ⟨q, 0, none⟩) := hout 4 (by decide)
          have e44 : a1.eval (.tmp 44) = (.agg #[(.slice oa (out.take keep).length oc), (.int .i64 (out.length : Nat)), (.int .i64 (((at2 + 7) / 8 : Nat) : Int)), .bool false]) := hdep ⟨15, .data⟩ (by simp) rfl _ rfl
          refine stepTo_skip (w' := (((w1.setCell ⟨q, 0, none⟩ (.slice oa (out.take keep).length oc)).setCell ⟨q, 1, none⟩ (.int .i64 (out.length : Nat))).setCell ⟨q, 2, none⟩ (.int .i64 (((at2 + 7) / 8 : Nat) : Int))).setCell ⟨q, 3, none⟩ (.bool false)) (by simp only [execOp, f4, e44]; simp [stFlow q oa _ oc _ _ _ _ _ _ _ w1 hR.2.1]) ⟨undef, rfl, ?_, fun j u hu hV _ => ⟨hV, trivial, trivial⟩, trivial⟩
          rw [set_getD_same hil, getD_set_ne2 (by decide)]; exact hR.set1
        · have f5 : a1.eval (.tmp 5) = .pointer (some ⟨q + 1, 0, none⟩) := hout 5 (by decide)
          have pc : a1.eval (.const (.int .i64 0)) = .int .i64 0 := rfl
          refine stepTo_skip (w' := w1.setCell ⟨q + 1, 0, none⟩ (.int .i64 0)) (by simp [execOp, f5, pc, stErr _ _ _ w1 (cell_of_one hR.2.2) (one_frozen hR.2.2)]) ⟨undef, rfl, ?_, fun j u hu hV _ => ⟨hV, trivial, trivial⟩, trivial⟩
          rw [getD_set_ne2 (by decide), set_getD_same hil]; exact hR.set2
      · intro listed f w1 hRR hall2 hV
        rw [hall2 16 (by decide), hall2 17 (by decide)] at hRR
        obtain ⟨O, HRES⟩ := hRR
        simp only [if_true] at HRES
        replace HRES := Lib.hid HRES
        replace O := Lib.hid O
        clear hcl
        simp only [spread, List.contains_cons, List.contains_nil, Nat.reduceBEq, Bool.or_false, Bool.or_true, cond_true, cond_false, Nat.reduceAdd, Nat.zero_add]
        go_wp2_with fail
        refine infl_idle HRES.out rfl rfl ?_
        have hqq := HF.out.base
        refine ⟨?_, ?_⟩
        · rw [hqq]
          refine ⟨O.out.os.trans HB1.out.os, O.out.tape.trans HB1.out.tape, O.out.output.trans HB1.out.output, Nat.le_trans HB1.out.size O.out.size, fun b hb => (O.out.block b (Nat.lt_of_lt_of_le (by omega) HB1.out.size) (by show ¬ (b = q ∨ b = q + 1); omega)).trans (HB1.out.block b hb)⟩
        · rw [hR2.out]
          refine ⟨oa, oc, rfl, HRW.out.same O.out.size (fun x hx hxe => ?_)⟩
          subst hxe
          obtain ⟨g, hg⟩ : ∃ g, x = ⟨g, 0, none⟩ := by
            rcases HOWN.out.form with ⟨h, _⟩ | ⟨g, h, _⟩
            · cases h
            · exact ⟨g, Option.some.inj h⟩
          subst hg
          have hsg := (HOA.out g rfl).2
          refine O.out.block g ?_ (by show ¬ (g = q ∨ g = q + 1); omega)
          rcases HOWN.out.form with ⟨h, _⟩ | ⟨g', h, _, hlt'⟩
          · cases h
          · simp only [Option.some.injEq, Addr.mk.injEq, and_true] at h
            subst h
            exact hlt'
end Go.Proofs.Ytlofoocgiomfbaa
