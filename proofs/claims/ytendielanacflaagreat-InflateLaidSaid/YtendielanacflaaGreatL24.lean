/- inflate.Inflate: contract. layer 10's laws: reads: contract; a flow in its cell; what Inflate answers, in two contracts. layer 10's laws: the fixed codes' lengths: contract. layer 10's laws: lay: contract. -/
import Derived.Test.YtendielanacflaaGreatL02
import Derived.Test.YtendielanacflaaGreatL03
import Derived.Test.YtendielanacflaaGreatL04
import Derived.Test.YtendielanacflaaGreatL07
import Derived.Test.YtendielanacflaaGreatL23
import Derived.Test.YtendielanacflaaGreatL08
import Derived.Test.YtendielanacflaaGreatL09
import Derived.Laws.EntriesVeiled
import Derived.Lib.SlicesS
namespace Go.Proofs.YtendielanacflaaGreat
open Go.RowKit Go.Shelf M01 M04 M09 M10
set_option linter.unusedVariables false
structure FBegun (w w0 : World) (q : Nat) : Prop where
  base : w.heap.size = q
  below : Below w.heap.size w w0
  size : w0.heap.size = q + 1 + 1
  res : FRes q w0 (.slice none 0 0) (.int .i64 0) (.int .i64 0) (.bool false) (.int .i64 0)
theorem fbegun (w : World) : FBegun w ((w.alloc (.cells #[.slice none 0 0, .int .i64 0, .int .i64 0, .bool false] 53)).alloc (.cells #[.int .i64 0] 25)) w.heap.size := by
  refine ⟨rfl, (box_b w _).trans ((box_b _ _).mono (by simp)), by simp, ⟨?_, ?_⟩⟩
  · rw [Below.heap_alloc _ _ _ (by simp)]; exact World.alloc_heap_new _ _
  · have := World.alloc_heap_new (w.alloc (.cells #[.slice none 0 0, .int .i64 0, .int .i64 0, .bool false] 53)) (.cells #[.int .i64 0] 25)
    simpa using this
def FPost (w : World) (keep : Nat) (R : Option (Nat × List Nat)) (e : Ending) (w' : World) : Prop := Below w.heap.size w w' ∧ InflOut keep R e w'
theorem Below.ofOnly {w w' : World} {n : Nat} (h : Only (fun b => n ≤ b) w w') (hn : n ≤ w.heap.size) : Below n w w' := ⟨h.os, h.tape, h.output, h.size, fun b hb => h.block b (Nat.lt_of_lt_of_le hb hn) (fun e => Nat.lt_irrefl _ (Nat.lt_of_lt_of_le hb e))⟩
def PS (rp sp n b : Nat) : Prop := b = rp ∨ b = sp ∨ n ≤ b
structure FMid (w w5 : World) (q rp sp : Nat) : Prop where
  base : w.heap.size = q
  size : q + 1 + 1 ≤ w5.heap.size
  below : Only (fun b => q + 1 + 1 ≤ b) w5 w5
  only : Below q w w5
  res : FRes q w5 (.slice none 0 0) (.int .i64 0) (.int .i64 0) (.bool false) (.int .i64 0)
  rpLe : q + 1 + 1 ≤ rp
  spLe : q + 1 + 1 ≤ sp
  kinds : w5.heap[sp + 1]? = some (.cells #[.func (Fn.func 52) #[] #[], .func (Fn.func 53) #[] #[], .func (Fn.func 54) #[] #[], .func (Fn.func 55) #[] #[]] 104 (0, 0))
  lt : rp < sp ∧ sp + 1 < w5.heap.size
theorem FMid.at {w w5 A : World} {q rp sp : Nat} (h : FMid w w5 q rp sp) (ho : Only (PS rp sp w5.heap.size) w5 A) : Below q w A ∧ FRes q A (.slice none 0 0) (.int .i64 0) (.int .i64 0) (.bool false) (.int .i64 0) ∧ A.heap[sp + 1]? = some (.cells #[.func (Fn.func 52) #[] #[], .func (Fn.func 53) #[] #[], .func (Fn.func 54) #[] #[], .func (Fn.func 55) #[] #[]] 104 (0, 0)) := by
  have h1 := h.rpLe
  have h2 := h.spLe
  have h3 := h.size
  have h4 := h.lt
  have hb : ∀ b, b < q + 1 + 1 → A.heap[b]? = w5.heap[b]? := fun b hb => ho.block b (by omega) (by unfold PS; omega)
  refine ⟨⟨ho.os.trans h.only.os, ho.tape.trans h.only.tape, ho.output.trans h.only.output, Nat.le_trans h.only.size ho.size, fun b hq => (hb b (by omega)).trans (h.only.block b hq)⟩, ⟨(hb q (by omega)).trans h.res.1, (hb (q + 1) (by omega)).trans h.res.2⟩, ?_⟩
  exact (ho.block (sp + 1) h4.2 (by unfold PS; omega)).trans h.kinds
theorem setF_below {w A : World} {q : Nat} (h : Below q w A) (hq : w.heap.size = q) (x0 x1 x2 x3 z : Value) : Below q w (setF q A x0 x1 x2 x3 z) := by
  subst hq
  have h1 := setF_only (T := fun _ => False) (Only.ofBelow h) (Nat.le_refl _) x0 x1 x2 x3 z
  exact ⟨h1.os, h1.tape, h1.output, h1.size, fun b hb => h1.block b hb (fun e => e)⟩
theorem infl_panics {w w5 A : World} {q rp sp keep : Nat} {R : Option (Nat × List Nat)} {tmps : Array Value} (h : FMid w w5 q rp sp) (ho : Only (PS rp sp w5.heap.size) w5 A) (hR : R = none)
    (t4 : tmps.getD 4 undef = .pointer (some ⟨q, 0, none⟩)) (t5 : tmps.getD 5 undef = .pointer (some ⟨q + 1, 0, none⟩)) :
    bodyPostD Tryz.prog Tryz.f24 (FPost w keep R) (.panic formP) { tmps := tmps, defers := idefr q } A := by
  obtain ⟨h1, h2, _⟩ := h.at ho
  refine infl_thrown h2 t4 t5 ?_
  subst hR
  exact ⟨by rw [h.base]; exact setF_below h1 h.base _ _ _ _ _, rfl⟩
theorem kinds_at {A : World} {b k : Nat} {t : TypeId} (h : A.heap[b]? = some (.cells #[.func (Fn.func 52) #[] #[], .func (Fn.func 53) #[] #[], .func (Fn.func 54) #[] #[], .func (Fn.func 55) #[] #[]] t (0, 0))) (hk : k < 4) : A.cell? ⟨b, k, none⟩ = some (.func (Fn.func (kindF k)) #[] #[]) := by
  obtain ⟨c0, c1, c2, c3, _, _⟩ := four_cells h
  match k, hk with
  | 0, _ => exact c0
  | 1, _ => exact c1
  | 2, _ => exact c2
  | 3, _ => exact c3
theorem quo8 (n : Nat) (h : n ≤ 10000000000) (w : World) : (binOp .quo 3 (.int .i64 (n : Nat)) (.int .i64 8) : Sem Value).run Tryz.prog w = .ok (.int .i64 ((n / 8 : Nat) : Int)) w := by
  have hx : IntKind.i64.wrap ((n : Int) / 8) = (n : Int) / 8 := IntWalk.i64_in _ (by omega)
  simp [binOp, hx, go_sem]
theorem fldS1 (b : Nat) (w : World) : (Instr.fieldAt 101 (.pointer (some ⟨b, 0, none⟩)) 1).run Tryz.prog w = .ok (.pointer (some ⟨b, 1, none⟩)) w := by kernel_rfl
theorem fldS3 (b : Nat) (w : World) : (Instr.fieldAt 101 (.pointer (some ⟨b, 0, none⟩)) 3).run Tryz.prog w = .ok (.pointer (some ⟨b, 3, none⟩)) w := by kernel_rfl
theorem fldS0 (b : Nat) (w : World) : (Instr.fieldAt 101 (.pointer (some ⟨b, 0, none⟩)) 0).run Tryz.prog w = .ok (.pointer (some ⟨b, 0, none⟩)) w := by kernel_rfl
theorem ldU8s (p : Addr) (v : Value) (w : World) (h : w.cell? p = some v) : (Instr.loadAt 24 (.pointer (some p))).run Tryz.prog w = .ok v w := by
  simp [Instr.loadAt, Instr.sureAddr, loadVar, isAgg, run_underlying Tryz.underlying24, h, go_sem]
theorem ldRd (p : Addr) (v : Value) (w : World) (h : w.cell? p = some v) : (Instr.loadAt 98 (.pointer (some p))).run Tryz.prog w = .ok v w := by
  simp [Instr.loadAt, Instr.sureAddr, loadVar, isAgg, run_underlying Tryz.underlying98, h, go_sem]
theorem stFlow (b : Nat) (a : Option Addr) (n c : Nat) (x y : Int) (z : Bool) (u0 u1 u2 u3 : Value) (w : World) (h : w.heap[b]? = some (.cells #[u0, u1, u2, u3] 53 (0, 0))) :
    (Instr.storeAt 53 (.pointer (some ⟨b, 0, none⟩)) (.agg #[.slice a n c, .int .i64 x, .int .i64 y, .bool z])).run Tryz.prog w = .ok () ((((w.setCell ⟨b, 0, none⟩ (.slice a n c)).setCell ⟨b, 1, none⟩ (.int .i64 x)).setCell ⟨b, 2, none⟩ (.int .i64 y)).setCell ⟨b, 3, none⟩ (.bool z)) := by
  have hs : (Tryz.prog.info? 53).map (·.size) = some 4 := by kernel_rfl
  obtain ⟨c0, c1, c2, c3, _, _⟩ := four_cells h
  obtain ⟨d0, d1, d2, d3⟩ := four_frozen h
  cases h5 : Tryz.prog.info? 53 with
  | none => rw [h5] at hs; cases hs
  | some ie =>
    simp only [h5, Option.map_some, Option.some.injEq] at hs
    simp [Instr.storeAt, Instr.sureAddr, storeVar, sizeOf, typeInfo, h5, hs, Value.cells, storeCells, c0, c1, c2, c3, d0, d1, d2, d3, go_sem]
theorem quoAt (n : Nat) (h : n + 7 ≤ 10000000000) (w : World) : (binOp .quo 3 (.int .i64 ((n : Int) + 7)) (.int .i64 8) : Sem Value).run Tryz.prog w = .ok (.int .i64 (((n : Int) + 7) / 8)) w := quo8 (n + 7) h w
theorem lsb_at_cell (w : World) (p at_ n cap : Nat) (a : Option Addr) (ha : at_ ≤ 8 * n) (hc : w.heap[p]? = some (.cells #[.slice a n cap, .int .i64 (at_ : Nat)] 158 (0, 0))) :
    Calls Tryz.prog 57 #[.pointer (some ⟨p, 0, none⟩)] w fun e w' => e = .returned (.int .i64 (at_ : Nat)) ∧ w' = w := by
  obtain ⟨c0, c1, _, _⟩ := two_cell hc
  clear hc ha
  go_enter Tryz.func57, Tryz.ntmps57
  go_wp2
  go_ret
  exact ⟨rfl, rfl⟩
theorem eqgQ (t : TypeId) (x y : Operand) (u v : Value) (w : World) : (eqGuard .quo t x y u v).run Tryz.prog w = .ok () w := by simp [eqGuard, go_sem]
def FloR (q : Nat) (w0 : World) (x0 x1 x2 : Value) (b1 b2 : Bool) (A : World) : Prop := Only (fun b => b = q ∨ b = q + 1) w0 A ∧ FRes q A (if b1 = true then x0 else .slice none 0 0) (if b1 = true then x1 else .int .i64 0) (if b1 = true then x2 else .int .i64 0) (.bool false) (.int .i64 0)
theorem FloR.set1 {q : Nat} {w0 A : World} {x0 x1 x2 : Value} {b1 b2 : Bool} (h : FloR q w0 x0 x1 x2 b1 b2 A) : FloR q w0 x0 x1 x2 true b2 ((((A.setCell ⟨q, 0, none⟩ x0).setCell ⟨q, 1, none⟩ x1).setCell ⟨q, 2, none⟩ x2).setCell ⟨q, 3, none⟩ (.bool false)) := by
  obtain ⟨h0, h1, h2⟩ := h
  refine ⟨(((h0.setCell (p := ⟨q, 0, none⟩) (.inl (.inl rfl)) _).setCell (p := ⟨q, 1, none⟩) (.inl (.inl rfl)) _).setCell (p := ⟨q, 2, none⟩) (.inl (.inl rfl)) _).setCell (p := ⟨q, 3, none⟩) (.inl (.inl rfl)) _, set_four h1 _ _ _ _, ?_⟩
  rw [Below.heap_setCell _ _ _ _ (by show q + 1 ≠ q; omega), Below.heap_setCell _ _ _ _ (by show q + 1 ≠ q; omega), Below.heap_setCell _ _ _ _ (by show q + 1 ≠ q; omega), Below.heap_setCell _ _ _ _ (by show q + 1 ≠ q; omega)]
  exact h2
theorem FloR.set2 {q : Nat} {w0 A : World} {x0 x1 x2 : Value} {b1 b2 : Bool} (h : FloR q w0 x0 x1 x2 b1 b2 A) : FloR q w0 x0 x1 x2 b1 true (A.setCell ⟨q + 1, 0, none⟩ (.int .i64 0)) := by
  obtain ⟨h0, h1, h2⟩ := h
  exact ⟨h0.setCell (p := ⟨q + 1, 0, none⟩) (.inl (.inr rfl)) _, by rw [Below.heap_setCell _ _ _ _ (by show q ≠ q + 1; omega)]; exact h1, set_one h2⟩
set_option maxRecDepth 100000 in
set_option maxHeartbeats 3200000 in
theorem inflate_inflate (w : World) (a : Option Addr) (cap : Nat) (bs : List Nat) (keep : Nat) (hr : RowN .u8 w a cap bs) (hb : ∀ x ∈ bs, x < 256) (hl : bs.length ≤ 100000) (hk : keep ≤ 1000000000) :
    Calls Tryz.prog 24 #[.slice a bs.length cap, .int .i64 (keep : Nat)] w fun e w' => FPost w keep (inflB bs) e w' := by
  have HBG := Lib.hid (fbegun w)
  have HN := Lib.hid (lsb_new _ a cap bs (hr.below HBG.out.below) hb (by omega))
  clear hb hr
  obtain ⟨R, hR0⟩ : ∃ R, R = inflB bs := ⟨_, rfl⟩
  rw [← hR0]
  replace hR0 := Lib.hid hR0
  have hmf : ∀ (fn : Fn) (first cap : Array Value) (w : World), (Instr.makeFunc fn first cap).run Tryz.prog w = .ok (.func fn first cap) w := fun _ _ _ _ => rfl
  go_enter_defers Tryz.func24, Tryz.ntmps24
  go_wp2_with fail
  generalize (w.alloc (.cells #[.slice none 0 0, .int .i64 0, .int .i64 0, .bool false] 53)).alloc (.cells #[.int .i64 0] 25) = w0 at *
  obtain ⟨q, hq⟩ : ∃ q, w.heap.size = q := ⟨_, rfl⟩
  simp only [hq] at *
  refine HN.out.mono ?_
  rintro e w1 ⟨rp, rfl, hrd, hb1, hrp⟩
  have HRD := Lib.hid hrd
  have HB1 := Lib.hid hb1
  clear hrd hb1 HN
  go_wp2_with fail
  have HF : Hid (FMid w ((w1.alloc (.cells #[.pointer (some ⟨rp, 0, none⟩), .slice none 0 0, .int .i64 (keep : Nat), .int .i64 0] 101)).alloc (.cells #[.func (Fn.func 52) #[] #[], .func (Fn.func 53) #[] #[], .func (Fn.func 54) #[] #[], .func (Fn.func 55) #[] #[]] 104)) q rp w1.heap.size) := by
    unfold Hid
    have z0 := HBG.out.size
    have z1 := HB1.out.size
    have hw : w.heap.size = q := HBG.out.base
    have b2 : Below w0.heap.size w0 ((w1.alloc (.cells #[.pointer (some ⟨rp, 0, none⟩), .slice none 0 0, .int .i64 (keep : Nat), .int .i64 0] 101)).alloc (.cells #[.func (Fn.func 52) #[] #[], .func (Fn.func 53) #[] #[], .func (Fn.func 54) #[] #[], .func (Fn.func 55) #[] #[]] 104)) := (HB1.out.trans ((box_b w1 _).mono z1)).trans ((box_b _ _).mono (by simp; omega))
    refine ⟨hw, ?_, Only.refl _ _, ?_, ⟨?_, ?_⟩, by omega, by omega, ?_, ⟨HRD.out.lt, by simp⟩⟩
    · simp; omega
    · have := HBG.out.below
      rw [hw] at this
      exact this.trans (b2.mono (by omega))
    · rw [b2.block q (by omega)]; exact HBG.out.res.1
    · rw [b2.block (q + 1) (by omega)]; exact HBG.out.res.2
    · have := World.alloc_heap_new (w1.alloc (.cells #[.pointer (some ⟨rp, 0, none⟩), .slice none 0 0, .int .i64 (keep : Nat), .int .i64 0] 101)) (.cells #[.func (Fn.func 52) #[] #[], .func (Fn.func 53) #[] #[], .func (Fn.func 54) #[] #[], .func (Fn.func 55) #[] #[]] 104)
      simpa using this
  have HS : Hid (Strm (PS rp w1.heap.size ((w1.alloc (.cells #[.pointer (some ⟨rp, 0, none⟩), .slice none 0 0, .int .i64 (keep : Nat), .int .i64 0] 101)).alloc (.cells #[.func (Fn.func 52) #[] #[], .func (Fn.func 53) #[] #[], .func (Fn.func 54) #[] #[], .func (Fn.func 55) #[] #[]] 104)).heap.size) ((w1.alloc (.cells #[.pointer (some ⟨rp, 0, none⟩), .slice none 0 0, .int .i64 (keep : Nat), .int .i64 0] 101)).alloc (.cells #[.func (Fn.func 52) #[] #[], .func (Fn.func 53) #[] #[], .func (Fn.func 54) #[] #[], .func (Fn.func 55) #[] #[]] 104)) w1.heap.size rp bs keep 0 []) := by
    unfold Hid
    have hlt := HRD.out.lt
    refine ⟨none, 0, ?_, by simpa using OwnN.nil _ _ _ _, (HRD.out.below (box_b _ _)).below (box_b _ _), .inr (.inl rfl), .inl rfl, hlt, by simp, fun b hb => .inr (.inr hb), by simp, hk⟩
    rw [Below.heap_alloc _ _ _ (by simp)]
    have := World.alloc_heap_new w1 (.cells #[.pointer (some ⟨rp, 0, none⟩), .slice none 0 0, .int .i64 (keep : Nat), .int .i64 0] 101)
    simpa using this
  generalize (w1.alloc (.cells #[.pointer (some ⟨rp, 0, none⟩), .slice none 0 0, .int .i64 (keep : Nat), .int .i64 0] 101)).alloc (.cells #[.func (Fn.func 52) #[] #[], .func (Fn.func 53) #[] #[], .func (Fn.func 54) #[] #[], .func (Fn.func 55) #[] #[]] 104) = w5 at *
  generalize w1.heap.size = sp at *
  clear hmf hrp HB1 HRD HBG
  have HSZ := Lib.hid (show ∃ n, w5.heap.size = n from ⟨_, rfl⟩)
  have hRL := Lib.hid (show R = inflL bs (8 * bs.length + 1) 0 [] from hR0.out)
  clear hR0
  go_loopw [8] (fun s A => Only (PS rp sp w5.heap.size) w5 A ∧ ∃ at2 out, Strm (PS rp sp w5.heap.size) A sp rp bs keep at2 out ∧ ((s = .int .i64 0 ∧ ∃ f, 8 * bs.length + 1 ≤ f + at2 ∧ R = inflL bs f at2 out) ∨ (s = .int .i64 1 ∧ R = some (at2, out)))) (fun _ A => 8 * bs.length - rdAt A rp)
  case atStart => exact ⟨Only.refl _ _, 0, [], HS.out, .inl ⟨rfl, _, by omega, hRL.out⟩⟩
  case round =>
    clear HS hRL
    obtain ⟨ho, at2, out, hs, hrel⟩ := hrel
    have HO := Lib.hid ho
    have HST := Lib.hid hs
    clear ho hs
    rcases hrel with ⟨rfl, f, hf, hR⟩ | ⟨rfl, hR⟩
    · have hbd := HST.out.bound
      have hrdA := rdAt_eq HST.out.rd
      obtain ⟨f, rfl⟩ : ∃ g, f = g + 1 := ⟨f - 1, by omega⟩
      rw [inflL_succ] at hR
      have HR := Lib.hid (show R = if at2 + 1 ≤ 8 * bs.length then if at2 + 1 + 2 ≤ 8 * bs.length then
        match blkK (num bs (at2 + 1) 2) bs (at2 + 1 + 2) out with
        | none => none
        | some (a2, o2) => if num bs at2 1 = 0 then inflL bs f a2 o2 else some (a2, o2)
        else none else none from hR)
      clear hR
      go_wp2_with fail
      by_cases h1 : at2 + 1 ≤ 8 * bs.length
      case neg =>
        have HN : Hid (R = none) := by unfold Hid; rw [HR.out, if_neg h1]
        refine (strm_bits_no HST.out 1 (by decide) (by omega)).mono ?_
        rintro e w6 ⟨rfl, ho6⟩
        exact infl_panics HF.out (HO.out.trans ho6) HN.out rfl rfl
      refine (strm_bits_ok HST.out 1 (by decide) h1).mono ?_
      rintro e w6 ⟨rfl, ho6, hs6⟩
      have HO6 := Lib.hid (HO.out.trans ho6)
      have HS6 := Lib.hid hs6
      have hx := num_lt bs at2 1
      have HR2 : Hid (R = if at2 + 1 + 2 ≤ 8 * bs.length then
        match blkK (num bs (at2 + 1) 2) bs (at2 + 1 + 2) out with
        | none => none
        | some (a2, o2) => if num bs at2 1 = 0 then inflL bs f a2 o2 else some (a2, o2)
        else none) := by unfold Hid; rw [HR.out, if_pos h1]
      clear ho6 hs6 HR HO HST h1
      generalize num bs at2 1 = x at *
      go_wp2_with fail
      by_cases h2 : at2 + 1 + 2 ≤ 8 * bs.length
      case neg =>
        have HN : Hid (R = none) := by unfold Hid; rw [HR2.out, if_neg h2]
        refine (strm_bits_no HS6.out 2 (by decide) (by omega)).mono ?_
        rintro e w7 ⟨rfl, ho7⟩
        exact infl_panics HF.out (HO6.out.trans ho7) HN.out rfl rfl
      refine (strm_bits_ok HS6.out 2 (by decide) h2).mono ?_
      rintro e w7 ⟨rfl, ho7, hs7⟩
      have HO7 := Lib.hid (HO6.out.trans ho7)
      have HS7 := Lib.hid hs7
      have hy := num_lt bs (at2 + 1) 2
      have HR3 : Hid (R = match blkK (num bs (at2 + 1) 2) bs (at2 + 1 + 2) out with
        | none => none
        | some (a2, o2) => if x = 0 then inflL bs f a2 o2 else some (a2, o2)) := by unfold Hid; rw [HR2.out, if_pos h2]
      have HLC := Lib.hid (fun a2 o2 (hb : blkK (num bs (at2 + 1) 2) bs (at2 + 1 + 2) out = some (a2, o2)) => (blkK_loc (d := 0) (bs' := bs) (pre := []) rfl h2 hb).1)
      clear ho7 hs7 HR2 HO6 HS6
      generalize num bs (at2 + 1) 2 = y at *
      rcases (show y = 0 ∨ y = 1 ∨ y = 2 ∨ y = 3 by omega) with rfl | rfl | rfl | rfl
      · have hky : w7.cell? ⟨sp + 1, 0, none⟩ = some (.func (Fn.func 52) #[] #[]) := kinds_at (k := 0) (HF.out.at HO7.out).2.2 (by decide)
        have HKC := Lib.hid (show Calls Tryz.prog 52 #[.pointer (some ⟨sp, 0, none⟩)] w7 _ from strm_kind HS7.out 0)
        generalize blkK 0 bs (at2 + 1 + 2) out = B at *
        go_wp2_with fail
        refine HKC.out.mono ?_
        intro e w8 hso
        rcases B with _ | ⟨a3, o3⟩
        · obtain ⟨ho8, rfl⟩ : Only _ w7 w8 ∧ e = _ := hso
          have HN : Hid (R = none) := HR3.out
          exact infl_panics HF.out (HO7.out.trans ho8) HN.out rfl rfl
        · obtain ⟨ho8, rfl, hs8⟩ : Only _ w7 w8 ∧ e = _ ∧ _ := hso
          have HR4 : Hid (R = if x = 0 then inflL bs f a3 o3 else some (a3, o3)) := HR3.out
          have HO8 := Lib.hid (HO7.out.trans ho8)
          have HS8 := Lib.hid hs8
          have hlt := HLC.out a3 o3 rfl
          have hrd8 := rdAt_eq hs8.rd
          clear ho8 hs8 HR3 HLC HKC hky HO7 HS7
          go_wp2
          go_roundw
          case rel =>
            refine ⟨HO8.out, a3, o3, HS8.out, ?_⟩
            have hR4 := HR4.out
            by_cases hx0 : x = 0
            · subst hx0
              exact .inl ⟨rfl, f, by omega, by rw [hR4, if_pos rfl]⟩
            · obtain rfl : x = 1 := by omega
              exact .inr ⟨rfl, by rw [hR4, if_neg hx0]⟩
          case measure => rw [hrd8, hrdA]; omega
      · have hky : w7.cell? ⟨sp + 1, 1, none⟩ = some (.func (Fn.func 53) #[] #[]) := kinds_at (k := 1) (HF.out.at HO7.out).2.2 (by decide)
        have HKC := Lib.hid (show Calls Tryz.prog 53 #[.pointer (some ⟨sp, 0, none⟩)] w7 _ from strm_kind HS7.out 1)
        generalize blkK 1 bs (at2 + 1 + 2) out = B at *
        go_wp2_with fail
        refine HKC.out.mono ?_
        intro e w8 hso
        rcases B with _ | ⟨a3, o3⟩
        · obtain ⟨ho8, rfl⟩ : Only _ w7 w8 ∧ e = _ := hso
          have HN : Hid (R = none) := HR3.out
          exact infl_panics HF.out (HO7.out.trans ho8) HN.out rfl rfl
        · obtain ⟨ho8, rfl, hs8⟩ : Only _ w7 w8 ∧ e = _ ∧ _ := hso
          have HR4 : Hid (R = if x = 0 then inflL bs f a3 o3 else some (a3, o3)) := HR3.out
          have HO8 := Lib.hid (HO7.out.trans ho8)
          have HS8 := Lib.hid hs8
          have hlt := HLC.out a3 o3 rfl
          have hrd8 := rdAt_eq hs8.rd
          clear ho8 hs8 HR3 HLC HKC hky HO7 HS7
          go_wp2
          go_roundw
          case rel =>
            refine ⟨HO8.out, a3, o3, HS8.out, ?_⟩
            have hR4 := HR4.out
            by_cases hx0 : x = 0
            · subst hx0
              exact .inl ⟨rfl, f, by omega, by rw [hR4, if_pos rfl]⟩
            · obtain rfl : x = 1 := by omega
              exact .inr ⟨rfl, by rw [hR4, if_neg hx0]⟩
          case measure => rw [hrd8, hrdA]; omega
      · have hky : w7.cell? ⟨sp + 1, 2, none⟩ = some (.func (Fn.func 54) #[] #[]) := kinds_at (k := 2) (HF.out.at HO7.out).2.2 (by decide)
        have HKC := Lib.hid (show Calls Tryz.prog 54 #[.pointer (some ⟨sp, 0, none⟩)] w7 _ from strm_kind HS7.out 2)
        generalize blkK 2 bs (at2 + 1 + 2) out = B at *
        go_wp2_with fail
        refine HKC.out.mono ?_
        intro e w8 hso
        rcases B with _ | ⟨a3, o3⟩
        · obtain ⟨ho8, rfl⟩ : Only _ w7 w8 ∧ e = _ := hso
          have HN : Hid (R = none) := HR3.out
          exact infl_panics HF.out (HO7.out.trans ho8) HN.out rfl rfl
        · obtain ⟨ho8, rfl, hs8⟩ : Only _ w7 w8 ∧ e = _ ∧ _ := hso
          have HR4 : Hid (R = if x = 0 then inflL bs f a3 o3 else some (a3, o3)) := HR3.out
          have HO8 := Lib.hid (HO7.out.trans ho8)
          have HS8 := Lib.hid hs8
          have hlt := HLC.out a3 o3 rfl
          have hrd8 := rdAt_eq hs8.rd
          clear ho8 hs8 HR3 HLC HKC hky HO7 HS7
          go_wp2
          go_roundw
          case rel =>
            refine ⟨HO8.out, a3, o3, HS8.out, ?_⟩
            have hR4 := HR4.out
            by_cases hx0 : x = 0
            · subst hx0
              exact .inl ⟨rfl, f, by omega, by rw [hR4, if_pos rfl]⟩
            · obtain rfl : x = 1 := by omega
              exact .inr ⟨rfl, by rw [hR4, if_neg hx0]⟩
          case measure => rw [hrd8, hrdA]; omega
      · have hky : w7.cell? ⟨sp + 1, 3, none⟩ = some (.func (Fn.func 55) #[] #[]) := kinds_at (k := 3) (HF.out.at HO7.out).2.2 (by decide)
        have HKC := Lib.hid (show Calls Tryz.prog 55 #[.pointer (some ⟨sp, 0, none⟩)] w7 _ from strm_kind HS7.out 3)
        generalize blkK 3 bs (at2 + 1 + 2) out = B at *
        go_wp2_with fail
        refine HKC.out.mono ?_
        intro e w8 hso
        rcases B with _ | ⟨a3, o3⟩
        · obtain ⟨ho8, rfl⟩ : Only _ w7 w8 ∧ e = _ := hso
          have HN : Hid (R = none) := HR3.out
          exact infl_panics HF.out (HO7.out.trans ho8) HN.out rfl rfl
        · obtain ⟨ho8, rfl, hs8⟩ : Only _ w7 w8 ∧ e = _ ∧ _ := hso
          have HR4 : Hid (R = if x = 0 then inflL bs f a3 o3 else some (a3, o3)) := HR3.out
          have HO8 := Lib.hid (HO7.out.trans ho8)
          have HS8 := Lib.hid hs8
          have hlt := HLC.out a3 o3 rfl
          have hrd8 := rdAt_eq hs8.rd
          clear ho8 hs8 HR3 HLC HKC hky HO7 HS7
          go_wp2
          go_roundw
          case rel =>
            refine ⟨HO8.out, a3, o3, HS8.out, ?_⟩
            have hR4 := HR4.out
            by_cases hx0 : x = 0
            · subst hx0
              exact .inl ⟨rfl, f, by omega, by rw [hR4, if_pos rfl]⟩
            · obtain rfl : x = 1 := by omega
              exact .inr ⟨rfl, by rw [hR4, if_neg hx0]⟩
          case measure => rw [hrd8, hrdA]; omega
    · replace hR := Lib.hid hR
      go_wp2_with fail
      have hbd := HST.out.bound
      obtain ⟨oa, oc, hc, hown, hrd, _, _, hrs, hoa, _⟩ := HST.out
      have HRW := Lib.hid hown.row
      have HOA := Lib.hid hoa
      have HOWN := Lib.hid hown
      have hR2 := hR
      obtain ⟨hb1, hres, _⟩ := HF.out.at HO.out
      have HB1 := Lib.hid hb1
      have hrpl := HF.out.rpLe
      have hspl := HF.out.spLe
      have hslt := (Array.getElem?_eq_some_iff.1 hc).1
      have hw7 : IntKind.i64.wrap ((at2 : Int) + 7) = (at2 : Int) + 7 := IntWalk.i64_in _ (by omega)
      have hab : at2 ≤ 8 * bs.length := hbd.2.1
      have hq7 : at2 + 7 ≤ 10000000000 := by omega
      obtain ⟨ra, rc, hrc, _⟩ := hrd
      have hrlt := (Array.getElem?_eq_some_iff.1 hrc).1
      have hcl : ∀ {b1 b2 : Bool} A, FloR q wr.drew (.slice oa (out.take keep).length oc) (.int .i64 (out.length : Nat)) (.int .i64 (((at2 + 7) / 8 : Nat) : Int)) b1 b2 A → A.cell? ⟨sp, 1, none⟩ = some (.slice oa (out.take keep).length oc) ∧ A.cell? ⟨sp, 3, none⟩ = some (.int .i64 (out.length : Nat)) ∧ A.cell? ⟨sp, 0, none⟩ = some (.pointer (some ⟨rp, 0, none⟩)) ∧ A.heap[rp]? = some (.cells #[.slice ra bs.length rc, .int .i64 (at2 : Nat)] 158 (0, 0)) := fun A hA => by
        obtain ⟨k0, k1, k2, k3, _, _⟩ := four_cells ((hA.1.block sp hslt (by show ¬ (sp = q ∨ sp = q + 1); omega)).trans hc)
        exact ⟨k1, k3, k0, (hA.1.block rp hrlt (by show ¬ (rp = q ∨ rp = q + 1); omega)).trans hrc⟩
      clear hb1 hown hoa hR
      refine wp_region_flowL [29, 30, 31, 32, 33, 34, 35, 36, 37, 38, 39, 40, 41, 42, 43, 44] (fun _ => false) (fun listed w1 => FloR q wr.drew (.slice oa (out.take keep).length oc) (.int .i64 (out.length : Nat)) (.int .i64 (((at2 + 7) / 8 : Nat) : Int)) (listed.getD 16 false) (listed.getD 17 false) w1) (fun j v _ => match j with | 0 => v = (.pointer (some ⟨sp, 0, none⟩)) | 1 => v = (.pointer (some ⟨sp, 0, none⟩)) | 2 => v = (.pointer (some ⟨sp, 1, none⟩)) | 3 => v = (.slice oa (out.take keep).length oc) | 4 => v = (.pointer (some ⟨sp, 0, none⟩)) | 5 => v = (.pointer (some ⟨sp, 0, none⟩)) | 6 => v = (.pointer (some ⟨sp, 3, none⟩)) | 7 => v = (.int .i64 (out.length : Nat)) | 8 => v = (.pointer (some ⟨sp, 0, none⟩)) | 9 => v = (.pointer (some ⟨sp, 0, none⟩)) | 10 => v = (.pointer (some ⟨sp, 0, none⟩)) | 11 => v = (.pointer (some ⟨rp, 0, none⟩)) | 12 => v = (.int .i64 (at2 : Nat)) | 13 => v = (.int .i64 ((at2 + 7 : Nat) : Int)) | 14 => v = (.int .i64 (((at2 + 7) / 8 : Nat) : Int)) | 15 => v = (.agg #[(.slice oa (out.take keep).length oc), (.int .i64 (out.length : Nat)), (.int .i64 (((at2 + 7) / 8 : Nat) : Int)), .bool false]) | _ => True) (fun _ _ _ _ => True) (by kernel_rfl) (by kernel_rfl) (OneEach.mk' (by kernel_rfl) (by kernel_rfl)) (by kernel_rfl) (by kernel_rfl) ?_ ?_ ?_
      · exact ⟨Only.refl _ wr.drew, hres⟩
      · intro i0 o hi0 listed a1 w1 hR hil hunf hdes hanc hout hdep
        have hsz : i0 < 18 := (Array.getElem?_eq_some_iff.1 hi0).1
        have hall : i0 = 0 ∨ i0 = 1 ∨ i0 = 2 ∨ i0 = 3 ∨ i0 = 4 ∨ i0 = 5 ∨ i0 = 6 ∨ i0 = 7 ∨ i0 = 8 ∨ i0 = 9 ∨ i0 = 10 ∨ i0 = 11 ∨ i0 = 12 ∨ i0 = 13 ∨ i0 = 14 ∨ i0 = 15 ∨ i0 = 16 ∨ i0 = 17 := by omega
        clear hsz
        rcases hall with rfl | rfl | rfl | rfl | rfl | rfl | rfl | rfl | rfl | rfl | rfl | rfl | rfl | rfl | rfl | rfl | rfl | rfl <;> simp only [List.getElem?_toArray, List.getElem?_cons_zero, List.getElem?_cons_succ, Option.some.injEq] at hi0 <;> subst hi0
        · have f6 : a1.eval (.tmp 6) = (.pointer (some ⟨sp, 0, none⟩)) := hout 6 (by decide)
          refine stepTo_val (v := (.pointer (some ⟨sp, 0, none⟩))) (w' := w1) (by simp [execOp, f6]) ⟨_, rfl, ?_, fun j u hu hV _ => ⟨hV, trivial, trivial⟩, rfl⟩
          rw [getD_set_ne2 (by decide), getD_set_ne2 (by decide)]; exact hR
        · have e29 : a1.eval (.tmp 29) = (.pointer (some ⟨sp, 0, none⟩)) := hdep ⟨0, .data⟩ (by simp) rfl _ rfl
          have x29 : a1.tmps[29]?.getD undef = (.pointer (some ⟨sp, 0, none⟩)) := by simpa [Act.eval] using e29
          refine stepTo_val (v := (.pointer (some ⟨sp, 0, none⟩))) (w' := w1) (by simp [execOp, x29, go_sem]) ⟨_, rfl, ?_, fun j u hu hV _ => ⟨hV, trivial, trivial⟩, rfl⟩
          rw [getD_set_ne2 (by decide), getD_set_ne2 (by decide)]; exact hR
        · have e30 : a1.eval (.tmp 30) = (.pointer (some ⟨sp, 0, none⟩)) := hdep ⟨1, .data⟩ (by simp) rfl _ rfl
          refine stepTo_val (v := (.pointer (some ⟨sp, 1, none⟩))) (w' := w1) (by simp [execOp, e30, fldS1]) ⟨_, rfl, ?_, fun j u hu hV _ => ⟨hV, trivial, trivial⟩, rfl⟩
          rw [getD_set_ne2 (by decide), getD_set_ne2 (by decide)]; exact hR
        · have e31 : a1.eval (.tmp 31) = (.pointer (some ⟨sp, 1, none⟩)) := hdep ⟨2, .data⟩ (by simp) rfl _ rfl
          refine stepTo_val (v := (.slice oa (out.take keep).length oc)) (w' := w1) (by simp [execOp, e31, ldU8s _ _ w1 (hcl w1 hR).1]) ⟨_, rfl, ?_, fun j u hu hV _ => ⟨hV, trivial, trivial⟩, rfl⟩
          rw [getD_set_ne2 (by decide), getD_set_ne2 (by decide)]; exact hR
        · have f6 : a1.eval (.tmp 6) = (.pointer (some ⟨sp, 0, none⟩)) := hout 6 (by decide)
          refine stepTo_val (v := (.pointer (some ⟨sp, 0, none⟩))) (w' := w1) (by simp [execOp, f6]) ⟨_, rfl, ?_, fun j u hu hV _ => ⟨hV, trivial, trivial⟩, rfl⟩
          rw [getD_set_ne2 (by decide), getD_set_ne2 (by decide)]; exact hR
        · have e33 : a1.eval (.tmp 33) = (.pointer (some ⟨sp, 0, none⟩)) := hdep ⟨4, .data⟩ (by simp) rfl _ rfl
          have x33 : a1.tmps[33]?.getD undef = (.pointer (some ⟨sp, 0, none⟩)) := by simpa [Act.eval] using e33
          refine stepTo_val (v := (.pointer (some ⟨sp, 0, none⟩))) (w' := w1) (by simp [execOp, x33, go_sem]) ⟨_, rfl, ?_, fun j u hu hV _ => ⟨hV, trivial, trivial⟩, rfl⟩
          rw [getD_set_ne2 (by decide), getD_set_ne2 (by decide)]; exact hR
        · have e34 : a1.eval (.tmp 34) = (.pointer (some ⟨sp, 0, none⟩)) := hdep ⟨5, .data⟩ (by simp) rfl _ rfl
          refine stepTo_val (v := (.pointer (some ⟨sp, 3, none⟩))) (w' := w1) (by simp [execOp, e34, fldS3]) ⟨_, rfl, ?_, fun j u hu hV _ => ⟨hV, trivial, trivial⟩, rfl⟩
          rw [getD_set_ne2 (by decide), getD_set_ne2 (by decide)]; exact hR
        · have e35 : a1.eval (.tmp 35) = (.pointer (some ⟨sp, 3, none⟩)) := hdep ⟨6, .data⟩ (by simp) rfl _ rfl
          refine stepTo_val (v := (.int .i64 (out.length : Nat))) (w' := w1) (by simp [execOp, e35, ldInt _ _ w1 (hcl w1 hR).2.1]) ⟨_, rfl, ?_, fun j u hu hV _ => ⟨hV, trivial, trivial⟩, rfl⟩
          rw [getD_set_ne2 (by decide), getD_set_ne2 (by decide)]; exact hR
        · have f6 : a1.eval (.tmp 6) = (.pointer (some ⟨sp, 0, none⟩)) := hout 6 (by decide)
          refine stepTo_val (v := (.pointer (some ⟨sp, 0, none⟩))) (w' := w1) (by simp [execOp, f6]) ⟨_, rfl, ?_, fun j u hu hV _ => ⟨hV, trivial, trivial⟩, rfl⟩
          rw [getD_set_ne2 (by decide), getD_set_ne2 (by decide)]; exact hR
        · have e37 : a1.eval (.tmp 37) = (.pointer (some ⟨sp, 0, none⟩)) := hdep ⟨8, .data⟩ (by simp) rfl _ rfl
          have x37 : a1.tmps[37]?.getD undef = (.pointer (some ⟨sp, 0, none⟩)) := by simpa [Act.eval] using e37
          refine stepTo_val (v := (.pointer (some ⟨sp, 0, none⟩))) (w' := w1) (by simp [execOp, x37, go_sem]) ⟨_, rfl, ?_, fun j u hu hV _ => ⟨hV, trivial, trivial⟩, rfl⟩
          rw [getD_set_ne2 (by decide), getD_set_ne2 (by decide)]; exact hR
        · have e38 : a1.eval (.tmp 38) = (.pointer (some ⟨sp, 0, none⟩)) := hdep ⟨9, .data⟩ (by simp) rfl _ rfl
          refine stepTo_val (v := (.pointer (some ⟨sp, 0, none⟩))) (w' := w1) (by simp [execOp, e38, fldS0]) ⟨_, rfl, ?_, fun j u hu hV _ => ⟨hV, trivial, trivial⟩, rfl⟩
          rw [getD_set_ne2 (by decide), getD_set_ne2 (by decide)]; exact hR
        · have e39 : a1.eval (.tmp 39) = (.pointer (some ⟨sp, 0, none⟩)) := hdep ⟨10, .data⟩ (by simp) rfl _ rfl
          refine stepTo_val (v := (.pointer (some ⟨rp, 0, none⟩))) (w' := w1) (by simp [execOp, e39, ldRd _ _ w1 (hcl w1 hR).2.2.1]) ⟨_, rfl, ?_, fun j u hu hV _ => ⟨hV, trivial, trivial⟩, rfl⟩
          rw [getD_set_ne2 (by decide), getD_set_ne2 (by decide)]; exact hR
        · have e40 : a1.eval (.tmp 40) = (.pointer (some ⟨rp, 0, none⟩)) := hdep ⟨11, .data⟩ (by simp) rfl _ rfl
          have x40 : a1.tmps[40]?.getD undef = (.pointer (some ⟨rp, 0, none⟩)) := by simpa [Act.eval] using e40
          refine stepTo_call (f := 57) (args := #[.pointer (some ⟨rp, 0, none⟩)]) (by simp [x40, go_sem]) ((lsb_at_cell w1 rp at2 _ _ _ hab (hcl w1 hR).2.2.2).mono ?_)
          rintro e w2 ⟨rfl, rfl⟩
          refine ⟨_, rfl, ⟨_, rfl, ?_, fun j u hu hV _ => ⟨hV, trivial, trivial⟩, rfl⟩⟩
          rw [getD_set_ne2 (by decide), getD_set_ne2 (by decide)]; exact hR
        · have e41 : a1.eval (.tmp 41) = (.int .i64 (at2 : Nat)) := hdep ⟨12, .data⟩ (by simp) rfl _ rfl
          refine stepTo_val (v := (.int .i64 ((at2 + 7 : Nat) : Int))) (w' := w1) (by simp [execOp, e41, evalC, eqgA, addI, hw7]) ⟨_, rfl, ?_, fun j u hu hV _ => ⟨hV, trivial, trivial⟩, rfl⟩
          rw [getD_set_ne2 (by decide), getD_set_ne2 (by decide)]; exact hR
        · have e42 : a1.eval (.tmp 42) = (.int .i64 ((at2 + 7 : Nat) : Int)) := hdep ⟨13, .data⟩ (by simp) rfl _ rfl
          refine stepTo_val (v := (.int .i64 (((at2 + 7) / 8 : Nat) : Int))) (w' := w1) (by simp [execOp, e42, evalC, eqgQ, quoAt at2 hq7]) ⟨_, rfl, ?_, fun j u hu hV _ => ⟨hV, trivial, trivial⟩, rfl⟩
          rw [getD_set_ne2 (by decide), getD_set_ne2 (by decide)]; exact hR
        · have e32 : a1.eval (.tmp 32) = (.slice oa (out.take keep).length oc) := hdep ⟨3, .data⟩ (by simp) rfl _ rfl
          have x32 : a1.tmps[32]?.getD undef = (.slice oa (out.take keep).length oc) := by simpa [Act.eval] using e32
          have e36 : a1.eval (.tmp 36) = (.int .i64 (out.length : Nat)) := hdep ⟨7, .data⟩ (by simp) rfl _ rfl
          have x36 : a1.tmps[36]?.getD undef = (.int .i64 (out.length : Nat)) := by simpa [Act.eval] using e36
          have e43 : a1.eval (.tmp 43) = (.int .i64 (((at2 + 7) / 8 : Nat) : Int)) := hdep ⟨14, .data⟩ (by simp) rfl _ rfl
          have x43 : a1.tmps[43]?.getD undef = (.int .i64 (((at2 + 7) / 8 : Nat) : Int)) := by simpa [Act.eval] using e43
          refine stepTo_val (v := (.agg #[(.slice oa (out.take keep).length oc), (.int .i64 (out.length : Nat)), (.int .i64 (((at2 + 7) / 8 : Nat) : Int)), .bool false])) (w' := w1) (by simp [execOp, x32, x36, x43, go_sem]) ⟨_, rfl, ?_, fun j u hu hV _ => ⟨hV, trivial, trivial⟩, rfl⟩
          rw [getD_set_ne2 (by decide), getD_set_ne2 (by decide)]; exact hR
        · have f4 : a1.eval (.tmp 4) = .pointer (some ⟨q, 0, none⟩) := hout 4 (by decide)
          have e44 : a1.eval (.tmp 44) = (.agg #[(.slice oa (out.take keep).length oc), (.int .i64 (out.length : Nat)), (.int .i64 (((at2 + 7) / 8 : Nat) : Int)), .bool false]) := hdep ⟨15, .data⟩ (by simp) rfl _ rfl
          refine stepTo_skip (w' := (((w1.setCell ⟨q, 0, none⟩ (.slice oa (out.take keep).length oc)).setCell ⟨q, 1, none⟩ (.int .i64 (out.length : Nat))).setCell ⟨q, 2, none⟩ (.int .i64 (((at2 + 7) / 8 : Nat) : Int))).setCell ⟨q, 3, none⟩ (.bool false)) (by simp only [execOp, f4, e44]; simp [stFlow q oa _ oc _ _ _ _ _ _ _ w1 hR.2.1]) ⟨undef, rfl, ?_, fun j u hu hV _ => ⟨hV, trivial, trivial⟩, trivial⟩
          rw [set_getD_same hil, getD_set_ne2 (by decide)]; exact hR.set1
        · have f5 : a1.eval (.tmp 5) = .pointer (some ⟨q + 1, 0, none⟩) := hout 5 (by decide)
          have pc : a1.eval (.const (.int .i64 0)) = .int .i64 0 := rfl
          refine stepTo_skip (w' := w1.setCell ⟨q + 1, 0, none⟩ (.int .i64 0)) (by simp [execOp, f5, pc, stErr _ _ _ w1 (cell_of_one hR.2.2) (one_frozen hR.2.2)]) ⟨undef, rfl, ?_, fun j u hu hV _ => ⟨hV, trivial, trivial⟩, trivial⟩
          rw [getD_set_ne2 (by decide), set_getD_same hil]; exact hR.set2
      · intro listed f w1 hRR hall2 hV
        rw [hall2 16 (by decide), hall2 17 (by decide)] at hRR
        obtain ⟨O, HRES⟩ := hRR
        simp only [if_true] at HRES
        replace HRES := Lib.hid HRES
        replace O := Lib.hid O
        clear hcl
        simp only [spread, List.contains_cons, List.contains_nil, Nat.reduceBEq, Bool.or_false, Bool.or_true, cond_true, cond_false, Nat.reduceAdd, Nat.zero_add]
        go_wp2_with fail
        refine infl_idle HRES.out rfl rfl ?_
        have hqq := HF.out.base
        refine ⟨?_, ?_⟩
        · rw [hqq]
          refine ⟨O.out.os.trans HB1.out.os, O.out.tape.trans HB1.out.tape, O.out.output.trans HB1.out.output, Nat.le_trans HB1.out.size O.out.size, fun b hb => (O.out.block b (Nat.lt_of_lt_of_le (by omega) HB1.out.size) (by show ¬ (b = q ∨ b = q + 1); omega)).trans (HB1.out.block b hb)⟩
        · rw [hR2.out]
          refine ⟨oa, oc, rfl, HRW.out.same O.out.size (fun x hx hxe => ?_)⟩
          subst hxe
          obtain ⟨g, hg⟩ : ∃ g, x = ⟨g, 0, none⟩ := by
            rcases HOWN.out.form with ⟨h, _⟩ | ⟨g, h, _⟩
            · cases h
            · exact ⟨g, Option.some.inj h⟩
          subst hg
          have hsg := (HOA.out g rfl).2
          refine O.out.block g ?_ (by show ¬ (g = q ∨ g = q + 1); omega)
          rcases HOWN.out.form with ⟨h, _⟩ | ⟨g', h, _, hlt'⟩
          · cases h
          · simp only [Option.some.injEq, Addr.mk.injEq, and_true] at h
            subst h
            exact hlt'
end Go.Proofs.YtendielanacflaaGreat

namespace Go.Proofs.YtendielanacflaaGreat
open Go.RowKit Go.Shelf M01 M04 M09 M10
set_option linter.unusedVariables false
theorem read1 : inflB [1, 2, 0, 253, 255, 97, 98, 99] = some (56, [97, 98]) := by decide +kernel
theorem read2 : inflB [3, 0] = some (10, []) := by decide +kernel
theorem read3 : inflB [7] = none := by decide +kernel
theorem read_lit (w : World) (l : List Nat) (vs : Array Value) (B n : Nat) (R : Option (Nat × List Nat)) (hB : B = w.heap.size) (hv : vs = (l.map fun (n : Nat) => Value.int .u8 n).toArray) (hn : n = l.length) (hb : ∀ x ∈ l, x < 256) (hl : l.length ≤ 100000) (hR : inflB l = R) :
    Calls Tryz.prog 24 #[.slice (some ⟨B, 0, none⟩) n n, .int .i64 9] (w.alloc (.cells vs 5)) fun e w' => Below w.heap.size w w' ∧ InflOut 9 R e w' := by
  subst hn hB
  have h := inflate_inflate (w.alloc (.cells vs 5)) (some ⟨w.heap.size, 0, none⟩) l.length l 9 (rowN_lit .u8 w l 5 vs w.heap.size rfl hv (by omega)) hb hl (by decide)
  rw [hR] at h
  exact h.mono fun e w' hp => ⟨(box_b w _).trans (hp.1.mono (by simp)), hp.2⟩
end Go.Proofs.YtendielanacflaaGreat
namespace Go.Proofs.YtendielanacflaaGreat
open Go.RowKit Go.Shelf M01 M04 M09 M10
set_option linter.unusedVariables false
set_option maxRecDepth 100000 in
set_option maxHeartbeats 1600000 in
theorem law10_reads (w : World) : Calls Tryz.prog 17 #[] w fun e w' => e = .returned (.bool true) ∧ Below w.heap.size w w' := by
  go_enter Tryz.func17, Tryz.ntmps17
  go_wp2_with fail
  refine (read_lit _ [1, 2, 0, 253, 255, 97, 98, 99] _ _ 8 _ rfl rfl rfl (by decide) (by decide) read1).mono ?_
  rintro e w1 ⟨hb1, a1, c1, he, hr1⟩
  obtain rfl : e = .returned (.tuple #[.agg #[.slice a1 2 c1, .int .i64 2, .int .i64 7, .bool false], .int .i64 0]) := he
  replace hr1 : RowN .u8 w1 a1 c1 [97, 98] := hr1
  have HB1 := Lib.hid hb1
  have HR1 := Lib.hid hr1
  clear hb1 hr1
  go_wp2_with fail
  have HA1 := Lib.hid (World.alloc_heap_new w1 (.cells #[.slice a1 2 c1, .int .i64 2, .int .i64 7, .bool false] 53))
  have HB2 := Lib.hid (HB1.out.trans ((box_b w1 (.cells #[.slice a1 2 c1, .int .i64 2, .int .i64 7, .bool false] 53)).mono HB1.out.size))
  have HR2 := Lib.hid (HR1.out.below (box_b w1 (.cells #[.slice a1 2 c1, .int .i64 2, .int .i64 7, .bool false] 53)))
  have hl1 : w1.heap.size < (w1.alloc (.cells #[.slice a1 2 c1, .int .i64 2, .int .i64 7, .bool false] 53)).heap.size := by simp
  have hs2 : w1.heap.size + 1 = (w1.alloc (.cells #[.slice a1 2 c1, .int .i64 2, .int .i64 7, .bool false] 53)).heap.size := by simp
  clear HB1 HR1
  generalize w1.alloc (.cells #[.slice a1 2 c1, .int .i64 2, .int .i64 7, .bool false] 53) = w2 at *
  generalize w1.heap.size = b1 at *
  refine (read_lit _ [3, 0] _ _ 2 _ hs2 rfl rfl (by decide) (by decide) read2).mono ?_
  rintro e w3 ⟨hb3, a2, c2, he, hr3⟩
  obtain rfl : e = .returned (.tuple #[.agg #[.slice a2 0 c2, .int .i64 0, .int .i64 2, .bool false], .int .i64 0]) := he
  have HA3 := Lib.hid ((hb3.block b1 hl1).trans HA1.out)
  have HB3 := Lib.hid (HB2.out.trans (hb3.mono HB2.out.size))
  have HR3 := Lib.hid (HR2.out.below hb3)
  have hl3 : b1 < w3.heap.size := Nat.lt_of_lt_of_le hl1 hb3.size
  clear hb3 hr3 HA1 HB2 HR2 hl1
  go_wp2_with fail
  have HC1 := Lib.hid (World.alloc_heap_new w3 (.cells #[.slice a2 0 c2, .int .i64 0, .int .i64 2, .bool false] 53))
  have hb4 := box_b w3 (.cells #[.slice a2 0 c2, .int .i64 0, .int .i64 2, .bool false] 53)
  have HB4 := Lib.hid (HB3.out.trans (hb4.mono HB3.out.size))
  have HR4 := Lib.hid (HR3.out.below hb4)
  have HA4 := Lib.hid ((hb4.block b1 hl3).trans HA3.out)
  have hl4 : w3.heap.size < (w3.alloc (.cells #[.slice a2 0 c2, .int .i64 0, .int .i64 2, .bool false] 53)).heap.size := by simp
  have hs4 : w3.heap.size + 1 = (w3.alloc (.cells #[.slice a2 0 c2, .int .i64 0, .int .i64 2, .bool false] 53)).heap.size := by simp
  clear HB3 HR3 HA3 hb4
  generalize w3.alloc (.cells #[.slice a2 0 c2, .int .i64 0, .int .i64 2, .bool false] 53) = w4 at *
  generalize w3.heap.size = b2 at *
  refine (read_lit _ [7] _ _ 1 _ hs4 rfl rfl (by decide) (by decide) read3).mono ?_
  rintro e w5 ⟨hb5, he⟩
  obtain rfl : e = .returned (.tuple #[.agg #[.slice none 0 0, .int .i64 0, .int .i64 0, .bool false], .int .i64 2]) := he
  have HA5 := Lib.hid ((hb5.block b1 (by omega)).trans HA4.out)
  have HC5 := Lib.hid ((hb5.block b2 hl4).trans HC1.out)
  have HB5 := Lib.hid (HB4.out.trans (hb5.mono HB4.out.size))
  have HR5 := Lib.hid (HR4.out.below hb5)
  have hl5 : b2 < w5.heap.size := Nat.lt_of_lt_of_le hl4 hb5.size
  clear hb5 HA4 HC1 HB4 HR4 hl4
  have hb6 := box_b w5 (.cells #[.slice none 0 0, .int .i64 0, .int .i64 0, .bool false] 53)
  obtain ⟨e0, e1, e2, e3, _, _⟩ := four_cells ((hb6.block b1 (by omega)).trans HA5.out)
  obtain ⟨d0, d1, d2, d3, _, _⟩ := four_cells ((hb6.block b2 hl5).trans HC5.out)
  have hcv := conv_row (n := 2) Tryz.underlying24 Tryz.underlying5 Tryz.underlying9 rfl (HR5.out.below hb6)
  rw [show strOf [97, 98] = ByteArray.mk #[97, 98] from rfl] at hcv
  have HB6 := Lib.hid (HB5.out.trans (hb6.mono HB5.out.size))
  clear hb6
  go_wp2
  go_ret
  exact ⟨rfl, HB6.out⟩
end Go.Proofs.YtendielanacflaaGreat
namespace Go.Proofs.YtendielanacflaaGreat
open Go.RowKit Go.Shelf M01 M04 M09 M10
set_option linter.unusedVariables false
theorem inflate_some {w : World} {a : Option Addr} {cap : Nat} {bs : List Nat} {keep at2 : Nat} {o : List Nat} (hr : RowN .u8 w a cap bs) (hb : ∀ x ∈ bs, x < 256) (hl : bs.length ≤ 100000) (hk : keep ≤ 1000000000) (hR : inflB bs = some (at2, o)) :
    Calls Tryz.prog 24 #[.slice a bs.length cap, .int .i64 (keep : Nat)] w fun e w' => Below w.heap.size w w' ∧ ∃ a2 c2, e = .returned (.tuple #[.agg #[.slice a2 (o.take keep).length c2, .int .i64 (o.length : Nat), .int .i64 ((at2 + 7) / 8 : Nat), .bool false], .int .i64 0]) ∧ RowN .u8 w' a2 c2 (o.take keep) := by
  have h := inflate_inflate w a cap bs keep hr hb hl hk
  rw [hR] at h
  exact h.mono fun e w' hp => ⟨hp.1, hp.2⟩
end Go.Proofs.YtendielanacflaaGreat

namespace Go.Proofs.YtendielanacflaaGreat
open Go.RowKit Go.Shelf
set_option linter.unusedVariables false
theorem fix_start10 {w w1 w2 : World} (h1 : OwnN 5 .u8 w1 w.heap.size (some ⟨w.heap.size, 0, none⟩) 288 (List.replicate 288 0)) (g1 : w.grownBy w1 none) (h2 : OwnN 5 .u8 w2 w1.heap.size (some ⟨w1.heap.size, 0, none⟩) 32 (List.replicate 32 0)) (g2 : w1.grownBy w2 none) :
    w.heap.size < w1.heap.size ∧ Hid (OwnN 5 .u8 w2 w.heap.size (some ⟨w.heap.size, 0, none⟩) 288 (partL fixN 288 0)) ∧ Hid (OwnN 5 .u8 w2 w.heap.size (some ⟨w1.heap.size, 0, none⟩) 32 (partL (fun _ => 5) 32 0)) ∧ Hid (Below w.heap.size w w2) := by
  have hB1 : Below w.heap.size w w1 := Below.of_grown g1 (Nat.le_refl _) (fun k e => by cases e)
  have hB2 : Below w1.heap.size w1 w2 := Below.of_grown g2 (Nat.le_refl _) (fun k e => by cases e)
  have o1 := h1.below hB2
  have hz1 : w.heap.size < w1.heap.size := by
    obtain ⟨g, he, _, hlt⟩ := (h1.form).resolve_left (by intro h; cases h.1)
    simp only [Option.some.injEq, Addr.mk.injEq, and_true] at he
    omega
  rw [partL_zero, partL_zero]
  exact ⟨hz1, o1, h2.mono (by omega), hB1.trans (hB2.mono hB1.size)⟩
set_option maxRecDepth 100000 in
set_option maxHeartbeats 1600000 in
theorem law10_fixed (w : World) :
    Calls Tryz.prog 20 #[] w fun e w' => ∃ g1 g2, e = .returned (.tuple #[.slice (some ⟨g1, 0, none⟩) 288 288, .slice (some ⟨g2, 0, none⟩) 32 32]) ∧ RowN .u8 w' (some ⟨g1, 0, none⟩) 288 (partL fixN 288 288) ∧ RowN .u8 w' (some ⟨g2, 0, none⟩) 32 (partL (fun _ => 5) 32 32) ∧ Below w.heap.size w w' := by
  go_enter Tryz.func20, Tryz.ntmps20
  go_wp2_with (first | (at_make; refine makeN (n := 288) et_u8 rfl _ _ rfl w.heap.size rfl rfl (by decide) (by decide) (Nat.le_refl _) ?_; intro w1 hown1 hg1) | (at_make; refine makeN (n := 32) et_u8 rfl _ _ rfl w1.heap.size rfl rfl (by decide) (by decide) (Nat.le_refl _) ?_; intro w2 hown2 hg2; obtain ⟨hz1, HO1, HO2, HB⟩ := fix_start10 hown1 hg1 hown2 hg2; clear hown1 hg1 hown2 hg2))
  obtain ⟨g1, hg1⟩ : ∃ g1, w.heap.size = g1 := ⟨_, rfl⟩
  obtain ⟨g2, hg2⟩ : ∃ g2, w1.heap.size = g2 := ⟨_, rfl⟩
  rw [hg1] at HO1
  rw [hg1, hg2] at HO2 hz1
  simp only [hg1, hg2]
  have HG1 := Lib.hid hg1
  clear hg1 hg2
  go_loopw [4] (fun i A => ∃ k : Nat, k ≤ 288 ∧ i = .int .i64 k ∧ OwnN 5 .u8 A g1 (some ⟨g1, 0, none⟩) 288 (partL fixN 288 k) ∧ OwnN 5 .u8 A g1 (some ⟨g2, 0, none⟩) 32 (partL (fun _ => 5) 32 0) ∧ Below w.heap.size w A) (fun i _ => 288 - (intOf i).toNat)
  case atStart => exact ⟨0, by omega, rfl, HO1.out, HO2.out, HB.out⟩
  case round =>
    clear HO1 HO2 HB
    obtain ⟨k, hk, rfl, ho1, ho2, hb⟩ := hrel
    have HO2 := Lib.hid ho2
    have HB := Lib.hid hb
    have HBW := Lib.hid (show ∀ (A : World) v, Below w.heap.size w A → Below w.heap.size w (A.setCell ⟨g1, k, none⟩ v) from fun A v h => h.setCell (by show w.heap.size ≤ g1; have := HG1.out; omega) _)
    have HN2 := Lib.hid (show ∀ (A : World) v, OwnN 5 .u8 A g1 (some ⟨g2, 0, none⟩) 32 (partL (fun _ => 5) 32 0) → OwnN 5 .u8 (A.setCell ⟨g1, k, none⟩ v) g1 (some ⟨g2, 0, none⟩) 32 (partL (fun _ => 5) 32 0) from fun A v h => OwnN.other h (fun x hx => by cases hx; show g1 ≠ g2; omega) _)
    clear ho2 hb
    by_cases hlt : k < 288
    · obtain ⟨⟨v, f1⟩, f2⟩ := part_at ho1 k hlt
      have b0 : decide ((k : Int) < 288) = true := by simp; omega
      have HO1 := Lib.hid ho1
      clear ho1
      rcases (show k < 144 ∨ (144 ≤ k ∧ k < 256) ∨ (256 ≤ k ∧ k < 280) ∨ 280 ≤ k by omega) with hc | hc | hc | hc
      · skip
        have hf : fixN k = 8 := by
          unfold fixN
          repeat' split
          all_goals omega
        have H1 := Lib.hid (part_put HO1.out hlt)
        rw [hf] at H1
        have b1 : decide ((k : Int) < 144) = true := by simp; omega
        clear hf hc HO1
        go_wp2
        go_roundw
        case rel => exact ⟨k + 1, by omega, by go_num, H1.out, HN2.out _ _ HO2.out, HBW.out _ _ HB.out⟩
        case measure => simp [intOf]; omega
      · skip
        have hf : fixN k = 9 := by
          unfold fixN
          repeat' split
          all_goals omega
        have H1 := Lib.hid (part_put HO1.out hlt)
        rw [hf] at H1
        have b1 : decide ((k : Int) < 144) = false := by simp; omega
        have b2 : decide (279 < (k : Int)) = false := by simp; omega
        have b3 : decide ((k : Int) < 256) = true := by simp; omega
        clear hf hc HO1
        go_wp2
        go_roundw
        case rel => exact ⟨k + 1, by omega, by go_num, H1.out, HN2.out _ _ HO2.out, HBW.out _ _ HB.out⟩
        case measure => simp [intOf]; omega
      · skip
        have hf : fixN k = 7 := by
          unfold fixN
          repeat' split
          all_goals omega
        have H1 := Lib.hid (part_put HO1.out hlt)
        rw [hf] at H1
        have b1 : decide ((k : Int) < 144) = false := by simp; omega
        have b2 : decide (279 < (k : Int)) = false := by simp; omega
        have b3 : decide ((k : Int) < 256) = false := by simp; omega
        clear hf hc HO1
        go_wp2
        go_roundw
        case rel => exact ⟨k + 1, by omega, by go_num, H1.out, HN2.out _ _ HO2.out, HBW.out _ _ HB.out⟩
        case measure => simp [intOf]; omega
      · skip
        have hf : fixN k = 8 := by
          unfold fixN
          repeat' split
          all_goals omega
        have H1 := Lib.hid (part_put HO1.out hlt)
        rw [hf] at H1
        have b1 : decide ((k : Int) < 144) = false := by simp; omega
        have b2 : decide (279 < (k : Int)) = true := by simp; omega
        clear hf hc HO1
        go_wp2
        go_roundw
        case rel => exact ⟨k + 1, by omega, by go_num, H1.out, HN2.out _ _ HO2.out, HBW.out _ _ HB.out⟩
        case measure => simp [intOf]; omega
    · obtain rfl : k = 288 := by omega
      have HO1 := Lib.hid ho1
      clear ho1 HBW HN2
      go_wp2_with fail
      go_loopw [5] (fun i A => ∃ k : Nat, k ≤ 32 ∧ i = .int .i64 k ∧ OwnN 5 .u8 A g1 (some ⟨g1, 0, none⟩) 288 (partL fixN 288 288) ∧ OwnN 5 .u8 A g1 (some ⟨g2, 0, none⟩) 32 (partL (fun _ => 5) 32 k) ∧ Below w.heap.size w A) (fun i _ => 32 - (intOf i).toNat)
      case atStart => exact ⟨0, by omega, rfl, HO1.out, HO2.out, HB.out⟩
      case round =>
        clear HO1 HO2 HB
        obtain ⟨k, hk, rfl, ho1, ho2, hb⟩ := hrel
        have HB := Lib.hid hb
        have HO1 := Lib.hid ho1
        clear hb ho1
        by_cases hlt : k < 32
        · obtain ⟨⟨v, f1⟩, f2⟩ := part_at ho2 k hlt
          have H2 := Lib.hid (part_put ho2 hlt)
          have H1 := Lib.hid (show ∀ v, OwnN 5 .u8 (wr.setCell ⟨g2, k, none⟩ v) g1 (some ⟨g1, 0, none⟩) 288 (partL fixN 288 288) from fun v => OwnN.other HO1.out (fun x hx => by cases hx; show g2 ≠ g1; omega) _)
          have H3 := Lib.hid (show ∀ v, Below w.heap.size w (wr.setCell ⟨g2, k, none⟩ v) from fun v => HB.out.setCell (by show w.heap.size ≤ g2; have := HG1.out; omega) _)
          clear ho2
          go_wp2
          go_roundw
          case rel => exact ⟨k + 1, by omega, by go_num, H1.out _, H2.out, H3.out _⟩
          case measure => simp [intOf]; omega
        · obtain rfl : k = 32 := by omega
          have HO2 := Lib.hid ho2.row
          clear ho2
          go_wp2
          go_ret2
          exact ⟨g1, g2, rfl, HO1.out.row, HO2.out, HB.out⟩
end Go.Proofs.YtendielanacflaaGreat

namespace Go.Proofs.YtendielanacflaaGreat
open Go.RowKit Go.Shelf M01 M04 M06 M08 M17
set_option linter.unusedVariables false
set_option maxRecDepth 100000 in
set_option maxHeartbeats 3200000 in
theorem law10_lay {P : Nat → Prop} {w : World} {p : Nat} {st : Wst} (hW : Wr P w p st) (a a1 a2 : Option Addr) (cap c1 c2 : Nat) (l : List Tok) (l1 l2 : List Nat) (hr : RowS encT w a cap l) (hby : ∀ t ∈ l, t.byte < 256)
    (hQ : ∀ x, 0 < l.length → a = some x → ¬ P x.block) (hQ2 : ∀ x, 0 < l.length → a = some x → x.block < w.heap.size) (r1 : RowN .u8 w a1 c1 l1) (r2 : RowN .u8 w a2 c2 l2) (h1 : (wordsE l1).2 = 0) (h2 : (wordsE l2).2 = 0) (hl : l.length ≤ 1000) (hst : st.2 ≤ 10000000) :
    Calls Tryz.prog 21 #[.pointer (some ⟨p, 0, none⟩), .slice a l.length cap, .slice a1 l1.length c1, .slice a2 l2.length c2] w fun e w' =>
      e = .returned (.tuple #[]) ∧ Only P w w' ∧ Wr P w' p (addSymE l1 (layTo l1 l2 st l) 256) := by
  have HM1 := Lib.hid (wordsE_may h1)
  have HM2 := Lib.hid (wordsE_may h2)
  have HN1 := Lib.hid (prefix_new a1 c1 l1 w r1)
  simp only [if_pos h1] at HN1
  have HN2 := Lib.hid (fun w' (h : RowN .u8 w' a2 c2 l2) => prefix_new a2 c2 l2 w' h)
  simp only [if_pos h2] at HN2
  have HW := Lib.hid hW
  have HR := Lib.hid hr
  have HBY := Lib.hid hby
  have HQ := Lib.hid hQ
  have HQ2 := Lib.hid hQ2
  have HR2 := Lib.hid r2
  have HST := Lib.hid hst
  clear hW hr hby hQ hQ2 r1 r2 h1 h2 hst
  go_enter Tryz.func21, Tryz.ntmps21
  go_wp2_with fail
  refine HN1.out.mono ?_
  rintro e w1 ⟨hb1, t1, rfl, tb1⟩
  have HB1 := Lib.hid hb1
  have HT1 := Lib.hid tb1
  clear HN1 hb1 tb1
  go_wp2_with fail
  refine (HN2.out w1 (HR2.out.below HB1.out)).mono ?_
  rintro e w2 ⟨hb2, t2, rfl, tb2⟩
  have HB2 := Lib.hid (HB1.out.trans (hb2.mono HB1.out.size))
  have HW2 := Lib.hid (HW.out.narrow HB2.out)
  have HR3 := Lib.hid (HR.out.below HB2.out)
  have hz1 := HB1.out.size
  have hz2 := hb2.size
  have HT12 := Lib.hid ((HT1.out.below hb2).widen (Nat.le_refl _) hz2 (Nat.le_refl _))
  have HT22 := Lib.hid (tb2.widen hz1 (Nat.le_refl _) (Nat.le_refl _))
  have HQ3 : Hid (∀ x, 0 < l.length → a = some x → ¬ Sub P w.heap.size w2.heap.size x.block) := fun x h0 hx h => HQ.out x h0 hx h.1
  have HQ4 : Hid (∀ x, 0 < l.length → a = some x → x.block < w2.heap.size) := fun x h0 hx => by have := HQ2.out x h0 hx; omega
  have HP2 : Hid (∀ b, w.heap.size ≤ b → b < w2.heap.size → ¬ Sub P w.heap.size w2.heap.size b) := fun b g1 g2 h => h.2 ⟨g1, g2⟩
  have HWD : Hid (∀ A st', Only (Sub P w.heap.size w2.heap.size) w2 A → Wr (Sub P w.heap.size w2.heap.size) A p st' → Only P w A ∧ Wr P A p st') := fun A st' g1 g2 => ⟨(Only.ofBelow HB2.out).trans g1.widen, g2.widen⟩
  generalize Sub P w.heap.size w2.heap.size = Q at *
  generalize w.heap.size = lo at *
  clear HB1 HT1 tb2 hb2 HW HR HQ HQ2 HR2 HN2 hz1 hz2
  obtain ⟨hi, hhi⟩ : ∃ hi, w2.heap.size = hi := ⟨_, rfl⟩
  rw [hhi] at HT12 HT22 HP2
  clear hhi HB2
  go_wp2_with fail
  go_loopw [12] (fun c A => ∃ k : Nat, k ≤ l.length ∧ c = .int .i64 (k : Nat) ∧ Only Q w2 A ∧ Wr Q A p (layTo l1 l2 st (l.take k))) (fun c _ => l.length - (intOf c).toNat)
  case atStart => exact ⟨0, by omega, rfl, Only.refl _ _, HW2.out⟩
  case round =>
    clear HW2
    obtain ⟨k, hk, rfl, ho, hw⟩ := hrel
    have HO := Lib.hid ho
    have HW := Lib.hid hw
    have HTA := Lib.hid (HT12.out.only ho HP2.out)
    have HTB := Lib.hid (HT22.out.only ho HP2.out)
    have hll := layTo_len HM1.out.1.1 HM2.out.1.1 (l.take k) st
    rw [List.length_take] at hll
    have hs1 : (layTo l1 l2 st (l.take k)).2 ≤ 20000000 := by have := HST.out; omega
    clear ho hw hll
    by_cases hlt : k < l.length
    · have HSN := Lib.hid (layTo_snoc l1 l2 st l k hlt)
      have hrA := HR3.out.same HO.out.size (fun x h0 hx => HO.out.block x.block (HQ4.out x h0 hx) (HQ3.out x h0 hx))
      obtain ⟨b, off, rfl, hbb, hcells⟩ := hrA.at hlt
      have HBB := Lib.hid (HQ4.out _ (by omega) rfl)
      have HQB := Lib.hid (HQ3.out _ (by omega) rfl)
      have htb := HBY.out _ (List.getElem_mem hlt)
      generalize l[k] = t at *
      have e0 := hcells 0 (.int .i64 t.len) rfl
      have e1 := hcells 1 (.int .i64 t.dist) rfl
      have e2 := hcells 2 (.int .u8 (t.byte : Nat)) rfl
      rw [show off + (k * encT.sz + 0) = off + k * 3 by show off + (k * 3 + 0) = _; omega] at e0
      rw [show off + (k * encT.sz + 1) = off + k * 3 + 1 by show off + (k * 3 + 1) = _; omega] at e1
      rw [show off + (k * encT.sz + 2) = off + k * 3 + 2 by show off + (k * 3 + 2) = _; omega] at e2
      have q3 : (0 : Int) ≤ (k : Int) := by omega
      have q4 : (k : Int) < (l.length : Int) := by omega
      clear hcells hrA hbb
      generalize layTo l1 l2 st (l.take k) = st0 at *
      by_cases h0 : t.len = 0
      · have t0 : (t.len == 0) = true := by simpa using h0
        have HC := Lib.hid (prefix_putLowE HTA.out HW.out HP2.out HM1.out.1.1 HM1.out.2 t.byte (by omega))
        have HX : Hid (addSymE l1 st0 t.byte = layTo l1 l2 st (l.take (k + 1))) := by unfold Hid; rw [HSN.out]; unfold layTok; rw [if_pos h0]
        rw [HX.out] at HC
        clear h0 HSN HX HTA HTB HW
        go_wp2_with fail
        refine HC.out.mono ?_
        rintro e w3 ⟨cc, rfl, ho3, hw3⟩
        have HO3 := Lib.hid (HO.out.trans ho3)
        have HW3 := Lib.hid hw3
        clear ho3 hw3 HC HO
        go_wp2
        go_roundw
        case rel => exact ⟨k + 1, by omega, by go_num, HO3.out, HW3.out⟩
        case measure => simp [intOf]; omega
      · have t0 : (t.len == 0) = false := by simpa using h0
        have E1 : Hid (∀ A, Only Q w2 A → A.cell? ⟨b, off + k * 3 + 1, none⟩ = some (.int .i64 t.dist)) := fun A hA => by
          have g1 := World.cell?_of_block (a := ⟨b, off + k * 3 + 1, none⟩) (hA.block b HBB.out HQB.out)
          have g2 := World.cell?_of_block (a := ⟨b, off + k * 3 + 1, none⟩) (HO.out.block b HBB.out HQB.out)
          rw [g1, ← g2]; exact e1
        have HX : Hid (addNum (addSymE l2 (addNum (addSymE l1 st0 (lenS t.len)) (lenX t.len) (lenB t.len)) (dstS t.dist)) (dstX t.dist) (dstB t.dist) = layTo l1 l2 st (l.take (k + 1))) := by unfold Hid; rw [HSN.out]; unfold layTok; rw [if_neg h0]
        obtain ⟨hx1, hx2⟩ := lenX_lt t.len
        obtain ⟨hy1, hy2⟩ := dstX_lt t.dist
        have HL := Lib.hid (fun A => token_length_all t.len A)
        have HD := Lib.hid (fun A => token_distance_all t.dist A)
        clear h0 HSN e1 e2 HTA HTB
        generalize lenS t.len = s5 at *
        generalize lenX t.len = x5 at *
        generalize lenB t.len = n5 at *
        generalize lenE t.len = ee5 at *
        generalize dstS t.dist = s6 at *
        generalize dstX t.dist = x6 at *
        generalize dstB t.dist = n6 at *
        generalize dstE t.dist = ee6 at *
        have hp5 : 2 ^ n5 ≤ 2 ^ 5 := Nat.pow_le_pow_right (by decide) hx2
        have hp6 : 2 ^ n6 ≤ 2 ^ 13 := Nat.pow_le_pow_right (by decide) hy2
        have hx32 : IntKind.u32.wrap (x5 : Int) = (x5 : Int) := by simp [IntKind.wrap, IntKind.bits, IntKind.signed]; omega
        have hy32 : IntKind.u32.wrap (x6 : Int) = (x6 : Int) := by simp [IntKind.wrap, IntKind.bits, IntKind.signed]; omega
        have hx64 : x5 < 4294967296 := by omega
        have hy64 : x6 < 4294967296 := by omega
        have HX1 := Lib.hid hx1
        have HY1 := Lib.hid hy1
        clear hp5 hp6 hx1 hy1
        have hs2 := addSymE_len HM1.out.1.1 st0 s5
        go_wp2_with fail
        refine (HL.out _).mono ?_
        rintro e w3 ⟨rfl, hb3⟩
        have HO3 := Lib.hid (HO.out.trans (Only.ofBelow hb3))
        have HW3 := Lib.hid (HW.out.below hb3)
        have HC := Lib.hid (prefix_putLowE (HT12.out.only HO3.out HP2.out) HW3.out HP2.out HM1.out.1.1 HM1.out.2 s5 (by omega))
        clear hb3 HL HO HW HW3
        go_wp2_with fail
        refine HC.out.mono ?_
        rintro e w4 ⟨cc, rfl, ho4, hw4⟩
        have HO4 := Lib.hid (HO3.out.trans ho4)
        have HC2 := Lib.hid (lsb_put hw4 x5 n5 (by omega) HX1.out (by omega))
        have hl3 := addNum_len (addSymE l1 st0 s5) x5 n5
        clear ho4 hw4 HC HO3
        generalize addNum (addSymE l1 st0 s5) x5 n5 = st1 at *
        go_wp2_with fail
        refine HC2.out.mono ?_
        rintro e w5 ⟨rfl, ho5, hw5⟩
        have HO5 := Lib.hid (HO4.out.trans ho5)
        have HW5 := Lib.hid hw5
        have f1 := E1.out w5 HO5.out
        clear ho5 hw5 HC2 HO4
        go_wp2_with fail
        refine (HD.out _).mono ?_
        rintro e w6 ⟨rfl, hb6⟩
        have HO6 := Lib.hid (HO5.out.trans (Only.ofBelow hb6))
        have HW6 := Lib.hid (HW5.out.below hb6)
        have HC3 := Lib.hid (prefix_putLowE (HT22.out.only HO6.out HP2.out) HW6.out HP2.out HM2.out.1.1 HM2.out.2 s6 (by omega))
        have hs4 := addSymE_len HM2.out.1.1 st1 s6
        clear hb6 HD HO5 HW5 HW6 f1
        go_wp2_with fail
        refine HC3.out.mono ?_
        rintro e w7 ⟨cc2, rfl, ho7, hw7⟩
        have HO7 := Lib.hid (HO6.out.trans ho7)
        have HC4 := Lib.hid (lsb_put hw7 x6 n6 (by omega) HY1.out (by omega))
        rw [HX.out] at HC4
        clear ho7 hw7 HC3 HO6
        go_wp2_with fail
        refine HC4.out.mono ?_
        rintro e w8 ⟨rfl, ho8, hw8⟩
        have HO8 := Lib.hid (HO7.out.trans ho8)
        have HW8 := Lib.hid hw8
        clear ho8 hw8 HC4 HO7 hs2 hl3 hs4
        go_wp2
        go_roundw
        case rel => exact ⟨k + 1, by omega, by go_num, HO8.out, HW8.out⟩
        case measure => simp [intOf]; omega
    · have htk : l.take k = l := List.take_of_length_le (by omega)
      rw [htk] at HW hs1
      have HC := Lib.hid (prefix_putLowE HTA.out HW.out HP2.out HM1.out.1.1 HM1.out.2 256 (by omega))
      clear HTA HTB HW htk
      go_wp2_with fail
      refine (show Calls Tryz.prog 42 #[.pointer (some ⟨t1, 0, none⟩), .pointer (some ⟨p, 0, none⟩), .int .i64 256] wr _ from HC.out).mono ?_
      rintro e w3 ⟨cc, rfl, ho3, hw3⟩
      have HO3 := Lib.hid (HWD.out _ _ (HO.out.trans ho3) hw3)
      clear ho3 hw3 HC HO
      go_wp2
      go_end0
      exact ⟨rfl, HO3.out.1, HO3.out.2⟩
end Go.Proofs.YtendielanacflaaGreat
