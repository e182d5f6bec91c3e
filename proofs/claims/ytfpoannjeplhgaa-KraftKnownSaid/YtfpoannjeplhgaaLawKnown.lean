/- KraftKnown: the law's walk. -/
import Derived.Test.YtfpoannjeplhgaaClasses
import Derived.Test.YtfpoannjeplhgaaOpen
import Derived.Test.YtfpoannjeplhgaaKnown
import Derived.Deep.Cut
import Derived.Deep.CutRange
import Derived.Great.BuildSlice
namespace Go.Proofs.Ytfpoannjeplhgaa
open Go.RowKit M04
set_option linter.unusedVariables false

def twenty (k : Nat) : List Nat := 20 :: (List.range k).map (· + 1)
theorem twenty_succ (k : Nat) : twenty (k + 1) = twenty k ++ [k + 1] := by simp [twenty, List.range_succ]
theorem twenty_len (k : Nat) : (twenty k).length = k + 1 := by simp [twenty]

theorem OwnN.lit {k : IntKind} {w : World} (E : TypeId) (base : Nat) (l : List Nat) (hb : base ≤ w.heap.size) (hl : l.length ≤ 9223372036854775807) :
    OwnN E k (w.alloc (.cells (l.map fun (n : Nat) => Value.int k n).toArray E)) base (some ⟨w.heap.size, 0, none⟩) l.length l := by
  unfold OwnN World.ownsRow
  exact ⟨by simp, .inr ⟨w.heap.size, l.length, _, rfl, hb, heap_alloc_new w _, Nat.le_refl _, by simpa [maxLen] using hl, by simp, by simp [List.take_of_length_le]⟩⟩

def knownRows : List (List Nat × Int × Int) := [([0, 0], 0, 0), ([], 0, 0), ([1], 1, 0), ([1, 1], 2, 0), ([1, 1, 1], 3, 0), ([21], 0, 5), (List.replicate 513 0, 0, 5), (List.replicate 512 0, 0, 0), (twenty 20, 2, 0), (twenty 20 ++ [20], 3, 0), ((twenty 20).drop 1, 1, 0)]
def kst (n : Nat) : KV := match knownRows[n]? with | some (l, c, e) => .st l c e | none => .any
def ksl (n : Nat) : KV := match knownRows[n]? with | some (l, _, _) => .sl l | none => .any
def kvs : Nat → KV
  | 0 => ksl 0 | 1 => kst 0 | 2 => kst 1 | 3 => ksl 2 | 4 => kst 2 | 5 => ksl 3 | 6 => kst 3 | 7 => ksl 4 | 8 => kst 4 | 9 => ksl 5 | 10 => kst 5
  | 11 => ksl 6 | 12 => kst 6 | 13 => ksl 7 | 14 => kst 7 | 15 => ksl 8 | 16 => kst 8 | 17 => .own [] | 18 => .sl (twenty 20) | 19 => .own (twenty 20) | 20 => .sl [20]
  | 21 => ksl 9 | 22 => kst 9 | 23 => .sl (twenty 20) | 24 => ksl 10 | 25 => kst 10 | 26 => .tab knownRows | 27 => .tab knownRows | _ => .any
theorem kvs_flat (j : Nat) (h1 : j ≠ 26) (h2 : j ≠ 27) : (kvs j).flat = true := by
  unfold kvs
  split <;> first | rfl | contradiction
def kgrow (i : Nat) : Bool := i == 17 || i == 19

theorem blk_st (ad : Option Addr) (n cap : Nat) (x y : Value) : blk (.agg #[.slice ad n cap, x, y]) = blk (.slice ad n cap) := by cases ad <;> rfl
theorem wpList_mv {P : Program} {ops : Array Oper} {rest : List Oper} {o : Oper} {a : Act} {w : World} {Q : Exit → Act → World → Prop} {x : Operand} {v : Value} (hg : o.guard = none)
    (ho : o.op = .move x) (hx : a.eval x = v) (h : wpList P ops Q rest (a.put o.dst v) w) : wpList P ops Q (o :: rest) a w := by
  refine wpList_plain hg fun K hK => ?_
  unfold Oper.wp
  simp [execOp, ho, hx]
  exact hK _ _ h
theorem wpList_asg {P : Program} {ops : Array Oper} {rest : List Oper} {o : Oper} {a : Act} {w : World} {Q : Exit → Act → World → Prop} {x : Operand} {v : Value} (hg : o.guard = none)
    (ho : o.op = .assign x) (hx : a.eval x = v) (h : wpList P ops Q rest (a.put o.dst v) w) : wpList P ops Q (o :: rest) a w := by
  refine wpList_plain hg fun K hK => ?_
  unfold Oper.wp
  simp [execOp, ho, hx]
  exact hK _ _ h
theorem wpList_cut1 {ops : Array Oper} {rest : List Oper} {o : Oper} {a : Act} {w : World} {Q : Exit → Act → World → Prop} {x : Operand} {b off n cap : Nat} (hg : o.guard = none)
    (ho : o.op = .slice 22 x (some (.const (.int .i64 1))) none none) (hx : a.eval x = .slice (some ⟨b, off, none⟩) n cap) (hn : 1 ≤ n) (hc : n ≤ cap) (h2 : 2 ≤ cap)
    (h : wpList Try.prog ops Q rest (a.put o.dst (.slice (some ⟨b, off + 1, none⟩) (n - 1) (cap - 1))) w) : wpList Try.prog ops Q (o :: rest) a w := by
  refine wpList_plain hg fun K hK => ?_
  have hc1 : ∀ v, a.eval (.const v) = v := fun _ => rfl
  have hsz : (Try.prog.info? 5).map (·.size) = some 1 := by kernel_rfl
  have h3 : (1 : Int) ≤ (n : Int) := by omega
  have h4 : ¬ cap = 1 := by omega
  cases h5 : Try.prog.info? 5 with
  | none => rw [h5] at hsz; cases hsz
  | some ie =>
    simp only [h5, Option.map_some, Option.some.injEq] at hsz
    have hrun : (Instr.sliceAt 22 (.slice (some ⟨b, off, none⟩) n cap) (some (.int .i64 1)) none none).run Try.prog w = .ok (.slice (some ⟨b, off + 1, none⟩) (n - 1) (cap - 1)) w := by
      simp [Instr.sliceAt, Instr.slice, Instr.sliceBounds, Instr.sliceBound, run_underlying Try.underlying22, asIntOf, sizeOf, typeInfo, h5, hsz, go_sem, h3, h4, Addr.add]
    unfold Oper.wp
    simp [execOp, ho, hx, hc1, hrun, Result.andThen]
    exact hK _ _ h
theorem rowN_drop1 {k : IntKind} {w : World} {b off cap : Nat} {l : List Nat} (h : RowN k w (some ⟨b, off, none⟩) cap l) (h2 : 2 ≤ cap) : RowN k w (some ⟨b, off + 1, none⟩) (cap - 1) (l.drop 1) := by
  obtain ⟨h1, ⟨h3, _⟩, h4⟩ := h
  refine ⟨by simp; omega, ⟨by omega, fun h => by cases h⟩, ?_⟩
  rcases h4 with rfl | ⟨b', off', he, hb, hc⟩
  · exact .inl rfl
  · cases he
    refine .inr ⟨b, off + 1, rfl, hb, fun i hi => ?_⟩
    have hi' : i + 1 < l.length := by simp at hi; omega
    have := hc (i + 1) hi'
    rw [show off + 1 + i = off + (i + 1) from by omega, this]
    simp
theorem wpList_st {ops : Array Oper} {rest : List Oper} {o : Oper} {a : Act} {w : World} {Q : Exit → Act → World → Prop} {x : Operand} {ad : Option Addr} {n cap : Nat} {c e : Int} (hg : o.guard = none)
    (ho : o.op = .build 38 #[(0, x), (1, .const (.int .u8 c)), (2, .const (.int .i64 e))]) (hx : a.eval x = .slice ad n cap)
    (h : wpList Try.prog ops Q rest (a.put o.dst (.agg #[.slice ad n cap, .int .u8 c, .int .i64 e])) w) : wpList Try.prog ops Q (o :: rest) a w := by
  refine wpList_plain hg fun K hK => ?_
  have hr := run_build (P := Try.prog) w 38 #[(0, .slice ad n cap), (1, .int .u8 c), (2, .int .i64 e)] #[.slice ad n cap, .int .u8 c, .int .i64 e] (by rfl)
  have hc : ∀ v, a.eval (.const v) = v := fun _ => rfl
  unfold Oper.wp
  simp [execOp, ho, hx, hc, hr, Result.andThen]
  exact hK _ _ h

def tw20 : List Nat := [1048574, 0, 2, 6, 14, 30, 62, 126, 254, 510, 1022, 2046, 4094, 8190, 16382, 32766, 65534, 131070, 262142, 524286, 1048575]
theorem ex5 : wordsE [1, 1, 1] = ([], 2) := by decide +kernel
theorem ex6 : wordsE [21] = ([], 5) := by decide +kernel
theorem ex7 : wordsE (twenty 20) = (tw20, 0) := by decide +kernel
theorem ex8 : singleB [] = false := by decide
theorem ex9 : singleB [1, 1] = false := by decide
theorem ex10 : singleB [1] = true := by decide
theorem known_cls : ∀ x ∈ knownRows, ((clsE x.1).1 : Int) = x.2.1 ∧ ((clsE x.1).2 : Int) = x.2.2 := by decide +kernel

set_option maxRecDepth 100000 in
set_option maxHeartbeats 3200000 in
theorem law_known (w : World) : Calls Try.prog 8 #[] w (RetTrue w) := by
  go_enter Try.func8, Try.ntmps8
  go_wp2_with fail
  go_loopw [1, 2] (fun o i wr => ∃ (k : Nat) (g : Nat) (c : Nat), k ≤ 20 ∧ i = .int .u8 ((k + 1 : Nat) : Int) ∧ o = .slice (some ⟨g, 0, none⟩) (twenty k).length c ∧ OwnN 5 .u8 wr w.heap.size (some ⟨g, 0, none⟩) c (twenty k) ∧ Below w.heap.size w wr) (fun _ i _ => 21 - (intOf i).toNat)
  case atStart =>
    refine ⟨0, w.heap.size, 1, by omega, rfl, rfl, OwnN.lit _ _ [20] (Nat.le_refl _) (by simp), (Below.refl _ _).alloc (Nat.le_refl _) _⟩
  case round =>
    obtain ⟨k, g, c, hk, rfl, rfl, hown, hbel⟩ := hrel
    have hln := twenty_len k
    have HS := Lib.hid (twenty_succ k)
    by_cases hlt : k < 20
    · generalize twenty k = o at *
      go_wp2_with (at_builtin; refine app1N et_u8 rfl (.tmp 18) (.tmp 20) rfl rfl hown rfl (Nat.le_refl _) (by omega) (by omega) (by omega) hbel.size ?_; intro a3 cap3 w3 hown3 hg3 hb3)
      go_roundw
      case rel =>
        rcases (show (a3 = none ∧ cap3 = 0 ∧ o ++ [k + 1] = []) ∨ ∃ g, a3 = some ⟨g, 0, none⟩ ∧ w.heap.size ≤ g ∧ g < w3.heap.size from hown3.form) with ⟨_, _, h0⟩ | ⟨g3, rfl, _⟩
        · simp at h0
        · exact ⟨k + 1, g3, cap3, by omega, by go_num, by rw [HS.out]; simp; omega, by rw [HS.out]; exact hown3, hbel.trans hb3⟩
      case measure => simp [intOf]; omega
    · obtain rfl : k = 20 := by omega
      go_wp2_with fail
      go_cut [3] from 22 to 48 (fun tb wx => VK 5 wr.heap.size (.tab knownRows) tb wx ∧ Below wr.heap.size wr wx)
      case first =>
        refine wp_region_flow [22, 23, 24, 25, 26, 27, 28, 29, 30, 31, 32, 33, 34, 35, 36, 37, 38, 39, 40, 41, 42, 43, 44, 45, 46, 47, 48, 3] (fun i => i == 27) (fun w => Below wr.heap.size wr w) (fun i v w => VK 5 wr.heap.size (kvs i) v w) (AP kgrow) (by kernel_rfl) (by kernel_rfl) (OneEach.mk' (by kernel_rfl) (by kernel_rfl)) (by kernel_rfl) (by kernel_rfl) ?_ ?_ ?_
        · exact ⟨rfl, rfl, rfl, Nat.le_refl _, fun _ _ => rfl⟩
        · intro i o hi a1 w1 hR hout hdep
          have hlt := (Array.getElem?_eq_some_iff.1 hi).1
          have hsz : i < 28 := hlt
          have hall : i = 0 ∨ i = 1 ∨ i = 2 ∨ i = 3 ∨ i = 4 ∨ i = 5 ∨ i = 6 ∨ i = 7 ∨ i = 8 ∨ i = 9 ∨ i = 10 ∨ i = 11 ∨ i = 12 ∨ i = 13 ∨ i = 14 ∨ i = 15 ∨ i = 16 ∨ i = 17 ∨ i = 18 ∨ i = 19 ∨ i = 20 ∨ i = 21 ∨ i = 22 ∨ i = 23 ∨ i = 24 ∨ i = 25 ∨ i = 26 ∨ i = 27 := by omega
          clear hlt hsz
          rcases hall with rfl | rfl | rfl | rfl | rfl | rfl | rfl | rfl | rfl | rfl | rfl | rfl | rfl | rfl | rfl | rfl | rfl | rfl | rfl | rfl | rfl | rfl | rfl | rfl | rfl | rfl | rfl | rfl <;> simp only [List.getElem?_toArray, List.getElem?_cons_zero, List.getElem?_cons_succ, Option.some.injEq] at hi <;> subst hi
          · refine step_of_list (ops := #[]) rfl (wpList_buildFlat rfl 22 5 2 _ rfl .u8 [0, 0] Try.underlying22 (by kernel_rfl) (by kernel_rfl) rfl (by decide) (by decide) rfl ?_)
            refine KSt.new rfl hR ((Below.refl _ _).alloc (Nat.le_refl _) _) ⟨_, _, rfl, rowN_lit .u8 w1 [0, 0] _ _ _ rfl rfl (by decide)⟩ ?_
            intro b hb
            cases hb
            exact ⟨Nat.le_refl _, by simp⟩
          · obtain ⟨⟨ad, cap, h1, h2⟩, h3⟩ := hdep ⟨0, .data⟩ (by simp) rfl _ rfl
            refine step_of_list (ops := #[]) rfl (wpList_st rfl rfl h1 ?_)
            exact KSt.from (e := ⟨0, .data⟩) rfl hR (by simp) rfl rfl (fun b hb => by rw [h1, ← blk_st]; exact hb) ⟨⟨_, _, rfl, h2⟩, fun b hb => h3 b (by rw [h1, ← blk_st]; exact hb)⟩ rfl (by kernel_rfl)
          · refine step_of_list (ops := #[]) rfl (wpList_st rfl rfl rfl ?_)
            exact KSt.new rfl hR (Below.refl _ _) ⟨none, 0, rfl, RowN.nil _ _⟩ (fun b hb => by cases hb)
          · refine step_of_list (ops := #[]) rfl (wpList_buildFlat rfl 22 5 1 _ rfl .u8 [1] Try.underlying22 (by kernel_rfl) (by kernel_rfl) rfl (by decide) (by decide) rfl ?_)
            refine KSt.new rfl hR ((Below.refl _ _).alloc (Nat.le_refl _) _) ⟨_, _, rfl, rowN_lit .u8 w1 [1] _ _ _ rfl rfl (by decide)⟩ ?_
            intro b hb
            cases hb
            exact ⟨Nat.le_refl _, by simp⟩
          · obtain ⟨⟨ad, cap, h1, h2⟩, h3⟩ := hdep ⟨3, .data⟩ (by simp) rfl _ rfl
            refine step_of_list (ops := #[]) rfl (wpList_st rfl rfl h1 ?_)
            exact KSt.from (e := ⟨3, .data⟩) rfl hR (by simp) rfl rfl (fun b hb => by rw [h1, ← blk_st]; exact hb) ⟨⟨_, _, rfl, h2⟩, fun b hb => h3 b (by rw [h1, ← blk_st]; exact hb)⟩ rfl (by kernel_rfl)
          · refine step_of_list (ops := #[]) rfl (wpList_buildFlat rfl 22 5 2 _ rfl .u8 [1, 1] Try.underlying22 (by kernel_rfl) (by kernel_rfl) rfl (by decide) (by decide) rfl ?_)
            refine KSt.new rfl hR ((Below.refl _ _).alloc (Nat.le_refl _) _) ⟨_, _, rfl, rowN_lit .u8 w1 [1, 1] _ _ _ rfl rfl (by decide)⟩ ?_
            intro b hb
            cases hb
            exact ⟨Nat.le_refl _, by simp⟩
          · obtain ⟨⟨ad, cap, h1, h2⟩, h3⟩ := hdep ⟨5, .data⟩ (by simp) rfl _ rfl
            refine step_of_list (ops := #[]) rfl (wpList_st rfl rfl h1 ?_)
            exact KSt.from (e := ⟨5, .data⟩) rfl hR (by simp) rfl rfl (fun b hb => by rw [h1, ← blk_st]; exact hb) ⟨⟨_, _, rfl, h2⟩, fun b hb => h3 b (by rw [h1, ← blk_st]; exact hb)⟩ rfl (by kernel_rfl)
          · refine step_of_list (ops := #[]) rfl (wpList_buildFlat rfl 22 5 3 _ rfl .u8 [1, 1, 1] Try.underlying22 (by kernel_rfl) (by kernel_rfl) rfl (by decide) (by decide) rfl ?_)
            refine KSt.new rfl hR ((Below.refl _ _).alloc (Nat.le_refl _) _) ⟨_, _, rfl, rowN_lit .u8 w1 [1, 1, 1] _ _ _ rfl rfl (by decide)⟩ ?_
            intro b hb
            cases hb
            exact ⟨Nat.le_refl _, by simp⟩
          · obtain ⟨⟨ad, cap, h1, h2⟩, h3⟩ := hdep ⟨7, .data⟩ (by simp) rfl _ rfl
            refine step_of_list (ops := #[]) rfl (wpList_st rfl rfl h1 ?_)
            exact KSt.from (e := ⟨7, .data⟩) rfl hR (by simp) rfl rfl (fun b hb => by rw [h1, ← blk_st]; exact hb) ⟨⟨_, _, rfl, h2⟩, fun b hb => h3 b (by rw [h1, ← blk_st]; exact hb)⟩ rfl (by kernel_rfl)
          · refine step_of_list (ops := #[]) rfl (wpList_buildFlat rfl 22 5 1 _ rfl .u8 [21] Try.underlying22 (by kernel_rfl) (by kernel_rfl) rfl (by decide) (by decide) rfl ?_)
            refine KSt.new rfl hR ((Below.refl _ _).alloc (Nat.le_refl _) _) ⟨_, _, rfl, rowN_lit .u8 w1 [21] _ _ _ rfl rfl (by decide)⟩ ?_
            intro b hb
            cases hb
            exact ⟨Nat.le_refl _, by simp⟩
          · obtain ⟨⟨ad, cap, h1, h2⟩, h3⟩ := hdep ⟨9, .data⟩ (by simp) rfl _ rfl
            refine step_of_list (ops := #[]) rfl (wpList_st rfl rfl h1 ?_)
            exact KSt.from (e := ⟨9, .data⟩) rfl hR (by simp) rfl rfl (fun b hb => by rw [h1, ← blk_st]; exact hb) ⟨⟨_, _, rfl, h2⟩, fun b hb => h3 b (by rw [h1, ← blk_st]; exact hb)⟩ rfl (by kernel_rfl)
          · refine step_of_list (ops := #[]) rfl (makeN (n := 513) et_u8 rfl _ _ rfl w1.heap.size rfl rfl (by decide) (by decide) (Nat.le_refl _) ?_)
            intro w2 hown2 hg2
            refine KSt.new rfl hR ⟨hg2.os, hg2.tape, hg2.output, hg2.size, fun k hk => hg2.block k hk (by simp)⟩ ⟨_, _, by simp, hown2.row⟩ (fun b hb => ?_)
            cases hb
            rcases hown2.form with ⟨h, _⟩ | ⟨g', h, _, h2⟩ <;> cases h
            exact ⟨Nat.le_refl _, h2⟩
          · obtain ⟨⟨ad, cap, h1, h2⟩, h3⟩ := hdep ⟨11, .data⟩ (by simp) rfl _ rfl
            refine step_of_list (ops := #[]) rfl (wpList_st rfl rfl h1 ?_)
            exact KSt.from (e := ⟨11, .data⟩) rfl hR (by simp) rfl rfl (fun b hb => by rw [h1, ← blk_st]; exact hb) ⟨⟨_, _, rfl, h2⟩, fun b hb => h3 b (by rw [h1, ← blk_st]; exact hb)⟩ rfl (by kernel_rfl)
          · refine step_of_list (ops := #[]) rfl (makeN (n := 512) et_u8 rfl _ _ rfl w1.heap.size rfl rfl (by decide) (by decide) (Nat.le_refl _) ?_)
            intro w2 hown2 hg2
            refine KSt.new rfl hR ⟨hg2.os, hg2.tape, hg2.output, hg2.size, fun k hk => hg2.block k hk (by simp)⟩ ⟨_, _, by simp, hown2.row⟩ (fun b hb => ?_)
            cases hb
            rcases hown2.form with ⟨h, _⟩ | ⟨g', h, _, h2⟩ <;> cases h
            exact ⟨Nat.le_refl _, h2⟩
          · obtain ⟨⟨ad, cap, h1, h2⟩, h3⟩ := hdep ⟨13, .data⟩ (by simp) rfl _ rfl
            refine step_of_list (ops := #[]) rfl (wpList_st rfl rfl h1 ?_)
            exact KSt.from (e := ⟨13, .data⟩) rfl hR (by simp) rfl rfl (fun b hb => by rw [h1, ← blk_st]; exact hb) ⟨⟨_, _, rfl, h2⟩, fun b hb => h3 b (by rw [h1, ← blk_st]; exact hb)⟩ rfl (by kernel_rfl)
          · refine step_of_list (ops := #[]) rfl (wpList_mv rfl rfl (hout 1 (by decide)) ?_)
            refine KSt.old rfl hR ⟨⟨_, _, rfl, hown.row.below hR⟩, fun b hb => ?_⟩ rfl (fun b hb => ?_) (fun j hj => ?_)
            · have hgg : g < wr.heap.size := by rcases hown.form with ⟨h, _⟩ | ⟨g', h, _, h2⟩ <;> cases h; exact h2
              cases hb
              exact Nat.lt_of_lt_of_le hgg hR.size
            · have hgg : g < wr.heap.size := by rcases hown.form with ⟨h, _⟩ | ⟨g', h, _, h2⟩ <;> cases h; exact h2
              cases hb
              exact hgg
            · simp only [kgrow, Bool.or_eq_true, beq_iff_eq] at hj
              rcases hj with rfl | rfl <;> exact ⟨_, rfl⟩
          · obtain ⟨⟨ad, cap, h1, h2⟩, h3⟩ := hdep ⟨15, .data⟩ (by simp) rfl _ rfl
            refine step_of_list (ops := #[]) rfl (wpList_st rfl rfl h1 ?_)
            exact KSt.from (e := ⟨15, .data⟩) rfl hR (by simp) rfl rfl (fun b hb => by rw [h1, ← blk_st]; exact hb) ⟨⟨_, _, rfl, h2⟩, fun b hb => h3 b (by rw [h1, ← blk_st]; exact hb)⟩ rfl (by kernel_rfl)
          · have hrun : (Instr.buildSlice 22 0 #[]).run Try.prog w1 = .ok (.slice (some ⟨w1.heap.size, 0, none⟩) 0 0) (w1.alloc (.cells #[] 5)) := by
              have hie : (Try.prog.info? 5).map (fun i => (i.zero, i.size)) = some (some (.int .u8 0), 1) := by kernel_rfl
              cases h5 : Try.prog.info? 5 with
              | none => rw [h5] at hie; cases hie
              | some ie =>
                simp only [h5, Option.map_some, Option.some.injEq, Prod.mk.injEq] at hie
                simp [Instr.buildSlice, run_underlying Try.underlying22, sizeOf, typeInfo, h5, Instr.fill, newRow]
                rw [show Array.range 0 = #[] from by simp [Array.range]]
                simp
            refine step_of_list (ops := #[]) rfl (wpList_plain rfl fun K hK => ?_)
            unfold Oper.wp
            simp [execOp, hrun, Result.andThen]
            refine hK _ _ (KSt.new rfl hR ((Below.refl _ _).alloc (Nat.le_refl _) _) ⟨_, _, rfl, OwnN.lit0 _ _ _ _ hR.size⟩ (fun b hb => ?_))
            cases hb
            exact ⟨Nat.le_refl _, by simp⟩
          · refine step_of_list (ops := #[]) rfl (wpList_mv rfl rfl (hout 1 (by decide)) ?_)
            refine KSt.old rfl hR ⟨⟨_, _, rfl, hown.row.below hR⟩, fun b hb => ?_⟩ rfl (fun b hb => ?_) (fun j hj => ?_)
            · have hgg : g < wr.heap.size := by rcases hown.form with ⟨h, _⟩ | ⟨g', h, _, h2⟩ <;> cases h; exact h2
              cases hb
              exact Nat.lt_of_lt_of_le hgg hR.size
            · have hgg : g < wr.heap.size := by rcases hown.form with ⟨h, _⟩ | ⟨g', h, _, h2⟩ <;> cases h; exact h2
              cases hb
              exact hgg
            · simp only [kgrow, Bool.or_eq_true, beq_iff_eq] at hj
              rcases hj with rfl | rfl <;> exact ⟨_, rfl⟩
          · obtain ⟨⟨a39, c39, e39, o39⟩, _⟩ := hdep ⟨17, .data⟩ (by simp) rfl _ rfl
            obtain ⟨⟨a40, c40, e40, r40⟩, _⟩ := hdep ⟨18, .data⟩ (by simp) rfl _ rfl
            refine step_of_list (ops := #[]) rfl (appNAt et_u8 rfl (.tmp 39) (.tmp 40) rfl e39 o39 rfl e40 r40 (by decide) (by decide) (by decide) hR.size ?_)
            intro a' cap' w2 ho2 hg2 hb2 hat
            exact KSt.grows (e := ⟨17, .data⟩) rfl hR (by simp) rfl rfl e39 rfl (by kernel_rfl) (fun j hj => kvs_flat j (fun h => by subst h; revert hj; exact fun h => absurd h (by rw [show usedB _ _ _ _ _ = false from by kernel_rfl]; decide)) (fun h => by subst h; revert hj; exact fun h => absurd h (by rw [show usedB _ _ _ _ _ = false from by kernel_rfl]; decide))) ho2 hg2 hb2 hat ⟨_, _, rfl, ho2⟩
          · refine step_of_list (ops := #[]) rfl (wpList_buildFlat rfl 22 5 1 _ rfl .u8 [20] Try.underlying22 (by kernel_rfl) (by kernel_rfl) rfl (by decide) (by decide) rfl ?_)
            refine KSt.new rfl hR ((Below.refl _ _).alloc (Nat.le_refl _) _) ⟨_, _, rfl, rowN_lit .u8 w1 [20] _ _ _ rfl rfl (by decide)⟩ ?_
            intro b hb
            cases hb
            exact ⟨Nat.le_refl _, by simp⟩
          · obtain ⟨⟨a39, c39, e39, o39⟩, _⟩ := hdep ⟨19, .data⟩ (by simp) rfl _ rfl
            obtain ⟨⟨a40, c40, e40, r40⟩, _⟩ := hdep ⟨20, .data⟩ (by simp) rfl _ rfl
            refine step_of_list (ops := #[]) rfl (appNAt et_u8 rfl (.tmp 41) (.tmp 42) rfl e39 o39 rfl e40 r40 (by decide) (by decide) (by decide) hR.size ?_)
            intro a' cap' w2 ho2 hg2 hb2 hat
            exact KSt.grows (e := ⟨19, .data⟩) rfl hR (by simp) rfl rfl e39 rfl (by kernel_rfl) (fun j hj => kvs_flat j (fun h => by subst h; revert hj; exact fun h => absurd h (by rw [show usedB _ _ _ _ _ = false from by kernel_rfl]; decide)) (fun h => by subst h; revert hj; exact fun h => absurd h (by rw [show usedB _ _ _ _ _ = false from by kernel_rfl]; decide))) ho2 hg2 hb2 hat ⟨_, _, rfl, ho2.row⟩
          · obtain ⟨⟨ad, cap, h1, h2⟩, h3⟩ := hdep ⟨21, .data⟩ (by simp) rfl _ rfl
            refine step_of_list (ops := #[]) rfl (wpList_st rfl rfl h1 ?_)
            exact KSt.from (e := ⟨21, .data⟩) rfl hR (by simp) rfl rfl (fun b hb => by rw [h1, ← blk_st]; exact hb) ⟨⟨_, _, rfl, h2⟩, fun b hb => h3 b (by rw [h1, ← blk_st]; exact hb)⟩ rfl (by kernel_rfl)
          · refine step_of_list (ops := #[]) rfl (wpList_mv rfl rfl (hout 1 (by decide)) ?_)
            refine KSt.old rfl hR ⟨⟨_, _, rfl, hown.row.below hR⟩, fun b hb => ?_⟩ rfl (fun b hb => ?_) (fun j hj => ?_)
            · have hgg : g < wr.heap.size := by rcases hown.form with ⟨h, _⟩ | ⟨g', h, _, h2⟩ <;> cases h; exact h2
              cases hb
              exact Nat.lt_of_lt_of_le hgg hR.size
            · have hgg : g < wr.heap.size := by rcases hown.form with ⟨h, _⟩ | ⟨g', h, _, h2⟩ <;> cases h; exact h2
              cases hb
              exact hgg
            · simp only [kgrow, Bool.or_eq_true, beq_iff_eq] at hj
              rcases hj with rfl | rfl <;> exact ⟨_, rfl⟩
          · obtain ⟨⟨ad, cap, h1, h2⟩, h3⟩ := hdep ⟨23, .data⟩ (by simp) rfl _ rfl
            obtain ⟨b, off, rfl, hb, _⟩ := h2.at (i := 0) (by decide)
            have hcap : 21 ≤ cap := h2.1
            refine step_of_list (ops := #[]) rfl (wpList_cut1 rfl rfl h1 (by decide) h2.1 (by omega) ?_)
            exact KSt.from (e := ⟨23, .data⟩) rfl hR (by simp) rfl rfl (fun b hb => by rw [h1]; exact hb) ⟨⟨_, _, rfl, rowN_drop1 h2 (by omega)⟩, fun b hb => h3 b (by rw [h1]; exact hb)⟩ rfl (by kernel_rfl)
          · obtain ⟨⟨ad, cap, h1, h2⟩, h3⟩ := hdep ⟨24, .data⟩ (by simp) rfl _ rfl
            refine step_of_list (ops := #[]) rfl (wpList_st rfl rfl h1 ?_)
            exact KSt.from (e := ⟨24, .data⟩) rfl hR (by simp) rfl rfl (fun b hb => by rw [h1, ← blk_st]; exact hb) ⟨⟨_, _, rfl, h2⟩, fun b hb => h3 b (by rw [h1, ← blk_st]; exact hb)⟩ rfl (by kernel_rfl)
          · have hT38 : (Try.prog.info? 38).map (fun i => (i.zero, i.size)) = some (some (.agg #[.slice none 0 0, .int .u8 0, .int .i64 0]), 3) := by kernel_rfl
            obtain ⟨ie, hie, hz, hsz⟩ : ∃ ie, Try.prog.info? 38 = some ie ∧ ie.zero = some (.agg #[.slice none 0 0, .int .u8 0, .int .i64 0]) ∧ ie.size = 3 := by
              cases h5 : Try.prog.info? 38 with
              | none => rw [h5] at hT38; cases hT38
              | some ie => rw [h5] at hT38; simp only [Option.map_some, Option.some.injEq, Prod.mk.injEq] at hT38; exact ⟨ie, rfl, hT38.1, hT38.2⟩
            obtain ⟨⟨y0, c0, h0, r0⟩, _⟩ := hdep ⟨1, .data⟩ (by simp) rfl _ rfl
            obtain ⟨⟨y1, c1, h1, r1⟩, _⟩ := hdep ⟨2, .data⟩ (by simp) rfl _ rfl
            obtain ⟨⟨y2, c2, h2, r2⟩, _⟩ := hdep ⟨4, .data⟩ (by simp) rfl _ rfl
            obtain ⟨⟨y3, c3, h3, r3⟩, _⟩ := hdep ⟨6, .data⟩ (by simp) rfl _ rfl
            obtain ⟨⟨y4, c4, h4, r4⟩, _⟩ := hdep ⟨8, .data⟩ (by simp) rfl _ rfl
            obtain ⟨⟨y5, c5, h5, r5⟩, _⟩ := hdep ⟨10, .data⟩ (by simp) rfl _ rfl
            obtain ⟨⟨y6, c6, h6, r6⟩, _⟩ := hdep ⟨12, .data⟩ (by simp) rfl _ rfl
            obtain ⟨⟨y7, c7, h7, r7⟩, _⟩ := hdep ⟨14, .data⟩ (by simp) rfl _ rfl
            obtain ⟨⟨y8, c8, h8, r8⟩, _⟩ := hdep ⟨16, .data⟩ (by simp) rfl _ rfl
            obtain ⟨⟨y9, c9, h9, r9⟩, _⟩ := hdep ⟨22, .data⟩ (by simp) rfl _ rfl
            obtain ⟨⟨y10, c10, h10, r10⟩, _⟩ := hdep ⟨25, .data⟩ (by simp) rfl _ rfl
            clear hdep
            obtain ⟨es, hes⟩ : ∃ es : List (Option Addr × Nat × List Nat × Int × Int), es = [(y0, c0, [0, 0], 0, 0), (y1, c1, [], 0, 0), (y2, c2, [1], 1, 0), (y3, c3, [1, 1], 2, 0), (y4, c4, [1, 1, 1], 3, 0), (y5, c5, [21], 0, 5), (y6, c6, List.replicate 513 0, 0, 5), (y7, c7, List.replicate 512 0, 0, 0), (y8, c8, twenty 20, 2, 0), (y9, c9, twenty 20 ++ [20], 3, 0), (y10, c10, (twenty 20).drop 1, 1, 0)] := ⟨_, rfl⟩
            have e0 : a1.eval (.tmp 23) = .agg (List.toArray <| encK.cells (y0, c0, [0, 0], 0, 0)) := h0
            have e1 : a1.eval (.tmp 24) = .agg (List.toArray <| encK.cells (y1, c1, [], 0, 0)) := h1
            have e2 : a1.eval (.tmp 26) = .agg (List.toArray <| encK.cells (y2, c2, [1], 1, 0)) := h2
            have e3 : a1.eval (.tmp 28) = .agg (List.toArray <| encK.cells (y3, c3, [1, 1], 2, 0)) := h3
            have e4 : a1.eval (.tmp 30) = .agg (List.toArray <| encK.cells (y4, c4, [1, 1, 1], 3, 0)) := h4
            have e5 : a1.eval (.tmp 32) = .agg (List.toArray <| encK.cells (y5, c5, [21], 0, 5)) := h5
            have e6 : a1.eval (.tmp 34) = .agg (List.toArray <| encK.cells (y6, c6, List.replicate 513 0, 0, 5)) := h6
            have e7 : a1.eval (.tmp 36) = .agg (List.toArray <| encK.cells (y7, c7, List.replicate 512 0, 0, 0)) := h7
            have e8 : a1.eval (.tmp 38) = .agg (List.toArray <| encK.cells (y8, c8, twenty 20, 2, 0)) := h8
            have e9 : a1.eval (.tmp 44) = .agg (List.toArray <| encK.cells (y9, c9, twenty 20 ++ [20], 3, 0)) := h9
            have e10 : a1.eval (.tmp 47) = .agg (List.toArray <| encK.cells (y10, c10, (twenty 20).drop 1, 1, 0)) := h10
            refine step_of_list (ops := #[]) rfl (wpList_buildSlice rfl 39 38 11 _ rfl (flat encK es).toArray ie _ Try.underlying39 hie hz (by rw [hsz]; decide) (by rw [hsz]; decide) ?_ ?_)
            · rw [hsz]
              simp only [List.map_toArray, List.map_cons, List.map_nil, e0, e1, e2, e3, e4, e5, e6, e7, e8, e9, e10]
              subst hes
              refine Eq.trans (Great.fill_whole (s := 3) (by decide) (List.map (fun x => Value.agg (encK.cells x).toArray) [(y0, c0, [0, 0], 0, 0), (y1, c1, [], 0, 0), (y2, c2, [1], 1, 0), (y3, c3, [1, 1], 2, 0), (y4, c4, [1, 1, 1], 3, 0), (y5, c5, [21], 0, 5), (y6, c6, List.replicate 513 0, 0, 5), (y7, c7, List.replicate 512 0, 0, 0), (y8, c8, twenty 20, 2, 0), (y9, c9, twenty 20 ++ [20], 3, 0), (y10, c10, (twenty 20).drop 1, 1, 0)]) _ ?_ (by simp)) rfl
              intro v hv
              obtain ⟨x, _, rfl⟩ := List.mem_map.1 hv
              rfl
            · refine KSt.new rfl hR ((Below.refl _ _).alloc (Nat.le_refl _) _) ⟨_, _, es, by subst hes; rfl, RowS.lit encK w1 es 38 _ _ rfl rfl (by subst hes; simp), by subst hes; rfl, ?_⟩ ?_
              · intro x hx
                subst hes
                simp only [List.mem_cons, List.not_mem_nil, or_false] at hx
                rcases hx with rfl | rfl | rfl | rfl | rfl | rfl | rfl | rfl | rfl | rfl | rfl
                · exact r0.below ((Below.refl _ _).alloc (Nat.le_refl _) _)
                · exact r1.below ((Below.refl _ _).alloc (Nat.le_refl _) _)
                · exact r2.below ((Below.refl _ _).alloc (Nat.le_refl _) _)
                · exact r3.below ((Below.refl _ _).alloc (Nat.le_refl _) _)
                · exact r4.below ((Below.refl _ _).alloc (Nat.le_refl _) _)
                · exact r5.below ((Below.refl _ _).alloc (Nat.le_refl _) _)
                · exact r6.below ((Below.refl _ _).alloc (Nat.le_refl _) _)
                · exact r7.below ((Below.refl _ _).alloc (Nat.le_refl _) _)
                · exact r8.below ((Below.refl _ _).alloc (Nat.le_refl _) _)
                · exact r9.below ((Below.refl _ _).alloc (Nat.le_refl _) _)
                · exact r10.below ((Below.refl _ _).alloc (Nat.le_refl _) _)
              · intro b hb
                cases hb
                exact ⟨Nat.le_refl _, by simp⟩
          · have h1 := hdep ⟨26, .data⟩ (by simp) rfl _ rfl
            refine step_of_list (ops := #[]) rfl (wpList_asg rfl rfl rfl ?_)
            exact KSt.from (e := ⟨26, .data⟩) rfl hR (by simp) rfl rfl (fun b hb => hb) h1 rfl (by kernel_rfl)
        · intro f w1 hR hV
          have h27 := hV 27 _ rfl rfl
          simp only [spread, List.contains_cons, List.contains_nil, Nat.reduceBEq, Bool.or_false, Bool.or_true, cond_true, cond_false, Nat.reduceAdd, Nat.zero_add]
          go_wp2_with fail
          go_meet
          case rel => exact ⟨h27, hR⟩
      case rest =>
        obtain ⟨⟨⟨at_, capt, es, rfl, hrow, hes, hrows⟩, -⟩, hbx⟩ := hcut
        have hlen : es.length = 11 := by have := congrArg List.length hes; simpa [knownRows] using this
        have htw : RowN .u8 wc (some ⟨g, 0, none⟩) c (twenty 20) := hown.row.below hbx
        have hB : Below w.heap.size w wc := hbel.trans (hbx.mono hbel.size)
        have HE := Lib.hid hes
        clear hown hbel hbx HS hes hln hk hlt
        rw [hlen, show ((20 + 1 : Nat) : Int) = 21 from rfl]
        have HL := Lib.hid hlen
        clear hlen
        go_wp2_with fail
        go_loopw [4, 5, 6] (fun i _ _ wr' => ∃ k : Nat, k ≤ 11 ∧ i = .int .i64 k ∧ Below wc.heap.size wc wr') (fun i _ _ _ => 11 - (intOf i).toNat)
        case atStart => exact ⟨0, by omega, rfl, Below.refl _ _⟩
        case round =>
          obtain ⟨k, hk, rfl, hbk⟩ := hrel
          by_cases hlt : k < 11
          · have hlt' : k < es.length := by have := HL.out; omega
            have hrk := hrow.below hbk
            obtain ⟨b, off, rfl, hb, hcl⟩ := hrk.at hlt'
            have hx := (hrows _ (List.getElem_mem hlt')).below hbk
            have hm : es[k].2.2 ∈ knownRows := by rw [← HE.out]; exact List.mem_map_of_mem (List.getElem_mem hlt')
            have hcls := known_cls _ hm
            have c0 := hcl 0 _ rfl
            have c1 := hcl 1 _ rfl
            have c2 := hcl 2 _ rfl
            clear hrows hrow hrk hcl HE hm HL
            generalize es[k] = x at *
            clear hlt'
            obtain ⟨xa, xc, xl, xcls, xe⟩ := x
            clear es
            simp only [encK, Nat.add_zero] at c0 c1 c2 hx hcls
            rw [← Nat.add_assoc] at c1 c2
            have HC1 := Lib.hid hcls.1
            have HC2 := Lib.hid hcls.2
            clear hcls
            go_wp2_with (go_at_call 9; refine (kraft_classify _ _ xl _ hx).mono ?_; rintro e w' ⟨rfl, rfl⟩; rw [HC1.out, HC2.out])
            go_roundw
            case rel => exact ⟨k + 1, by omega, by go_num, hbk⟩
            case measure => simp [intOf]; omega
          · obtain rfl : k = 11 := by omega
            clear hrows hrow HE HL hlt hk
            have htw2 := htw.below hbk
            have hB2 : Below w.heap.size w wr := hB.trans (hbk.mono hB.size)
            clear htw hB hbk
            go_wp2_with fail
            refine (kraft_words _ _ [1, 1, 1] _ ?h1).mono ?_
            case h1 => exact rowN_lit .u8 _ [1, 1, 1] _ _ _ rfl rfl (by decide)
            rintro e w2 ⟨a2, cap2, rfl, hown2, hb2⟩
            have hb2' : Below wr.heap.size wr w2 := ((Below.refl _ _).alloc (Nat.le_refl _) _).trans (hb2.mono (by simp))
            simp only [ex5]
            clear hown2 hb2
            have htw3 := htw2.below hb2'
            have hB3 : Below w.heap.size w w2 := hB2.trans (hb2'.mono hB2.size)
            clear hB2 hb2' htw2
            go_wp2_with fail
            refine (kraft_words _ _ [21] _ ?h2).mono ?_
            case h2 => exact rowN_lit .u8 _ [21] _ _ _ rfl rfl (by decide)
            rintro e w3 ⟨a3, cap3, rfl, hown3, hb3⟩
            have hb3' : Below w2.heap.size w2 w3 := ((Below.refl _ _).alloc (Nat.le_refl _) _).trans (hb3.mono (by simp))
            simp only [ex6]
            clear hown3 hb3
            have htw4 := htw3.below hb3'
            have hB4 : Below w.heap.size w w3 := hB3.trans (hb3'.mono hB3.size)
            clear hB3 hb3' htw3
            go_wp2_with fail
            refine (kraft_words _ _ (twenty 20) _ htw4).mono ?_
            rintro e w4 ⟨a4, cap4, rfl, hown4, hb4⟩
            have hB5 : Below w.heap.size w w4 := hB4.trans (hb4.mono hB4.size)
            simp only [ex7] at hown4 ⊢
            clear hb4 hB4 htw4
            obtain ⟨g4, rfl, hg1, hg2, hc0, _⟩ := hown4.at (i := 0) (by decide)
            obtain ⟨g', he, _, _, hc1, _⟩ := hown4.at (i := 1) (by decide)
            cases he
            obtain ⟨g', he, _, _, hc20, _⟩ := hown4.at (i := 20) (by decide)
            cases he
            have k0 : w4.cell? ⟨g4, 0, none⟩ = some (.int .u32 1048574) := hc0
            have k1 : w4.cell? ⟨g4, 1, none⟩ = some (.int .u32 0) := hc1
            have k20 : w4.cell? ⟨g4, 20, none⟩ = some (.int .u32 1048575) := hc20
            have hl20 : tw20.length = 21 := by decide
            rw [hl20]
            clear hown4 hc0 hc1 hc20 hl20
            have hlt : w.heap.size ≤ w4.heap.size := hB5.size
            go_wp2_with fail
            refine (kraft_single none 0 [] _ (RowN.nil _ _)).mono ?_
            rintro e w5 ⟨rfl, rfl⟩
            rw [ex8]
            go_wp2_with fail
            refine (kraft_single _ _ [1, 1] _ ?h3).mono ?_
            case h3 => exact rowN_lit .u8 _ [1, 1] _ _ _ rfl rfl (by decide)
            rintro e w5 ⟨rfl, rfl⟩
            rw [ex9]
            go_wp2_with fail
            refine (kraft_single _ _ [1] _ ?h4).mono ?_
            case h4 => exact rowN_lit .u8 _ [1] _ _ _ (by simp) rfl (by decide)
            rintro e w5 ⟨rfl, rfl⟩
            rw [ex10]
            go_wp2_with fail
            refine (law04_classes _).mono ?_
            rintro e w5 ⟨rfl, hb5⟩
            go_wp2
            go_ret
            exact ⟨rfl, ((hB5.alloc hlt _).alloc (by simp; omega) _).trans (hb5.mono (by simp; omega))⟩
end Go.Proofs.Ytfpoannjeplhgaa
