/- bits.Mul, slices.Repeat, slices.Grow, slices.Concat at bytes; cost.fixed: contracts. repeat.Bits, times, Unpack: contracts. -/
import Derived.Test.YtendielanacflaaGreatL04
import Derived.Test.YtendielanacflaaGreatL06
import Derived.Laws.CopyOwn
import Derived.Lib.AppendZerosOnto
import Derived.Laws.Bits64b
namespace Go.Proofs.YtendielanacflaaGreat
open Go.RowKit Go.Shelf M08 M17
set_option linter.unusedVariables false
theorem getD_set_ne2 {l : Array Bool} {i k : Nat} (h : i ≠ k) : (l.setIfInBounds i true).getD k false = l.getD k false := by
  simp [Array.getElem?_setIfInBounds_ne h]
theorem box_below' (w : World) (o : Obj) : Below w.heap.size w (w.alloc o) := (Below.refl _ _).alloc (Nat.le_refl _) _
theorem maskN (a : Nat) (ha : a < 4294967296) : bits .and .u64 (a : Int) 4294967295 = (a : Int) := by
  have h := bits_and_u64_nat a 4294967295 (by omega) (by omega)
  have e : a &&& 4294967295 = a % 4294967296 := Nat.and_two_pow_sub_one_eq_mod a 32
  rw [e, Nat.mod_eq_of_lt ha] at h
  exact h
theorem mask0 : bits .and .u64 0 4294967295 = 0 := by have := maskN 0 (by omega); simpa using this
theorem mask1 : bits .and .u64 1 4294967295 = 1 := by have := maskN 1 (by omega); simpa using this
set_option maxHeartbeats 800000 in
theorem bits_mul64 (n : Nat) (hn : n ≤ 100000) (w : World) :
    Calls Tryz.prog 151 #[.int .u64 1, .int .u64 n] w fun e w' => e = .returned (.tuple #[.int .u64 0, .int .u64 n]) ∧ w = w' := by
  have h1 := maskN n (by omega)
  have h2 := mask1
  have h3 : (n : Int) / 4294967296 = 0 := by omega
  go_enter Tryz.func151, Tryz.ntmps151
  go_wp2
  go_ret2
  exact ⟨by simp [mask0, IntKind.wrap_u64], rfl⟩
theorem bits_mul (n : Nat) (hn : n ≤ 100000) (w : World) :
    Calls Tryz.prog 129 #[.int .u64 1, .int .u64 n] w fun e w' => e = .returned (.tuple #[.int .u64 0, .int .u64 n]) ∧ w = w' := by
  go_enter Tryz.func129, Tryz.ntmps129
  go_wp2_with (go_at_call 151; refine (bits_mul64 n hn _).mono ?_; rintro e w' ⟨rfl, rfl⟩)
  go_ret2
  exact ⟨rfl, rfl⟩
def repL (n k m : Nat) : List Value := List.replicate m (.int .u8 (k : Nat)) ++ List.replicate (n - m) (.int .u8 ((0 : Nat) : Int))
theorem rep_splice (n k m c : Nat) (h : m + c ≤ n) : splice (repL n k m) m (List.replicate c (.int .u8 (k : Nat))) = repL n k (m + c) := by
  unfold splice repL
  rw [List.take_left' (by simp), List.length_replicate, List.drop_append, List.length_replicate, List.drop_of_length_le (by simp), List.nil_append, List.drop_replicate, ← List.append_assoc, List.replicate_append_replicate]
  congr 2
  omega
theorem rep_cell {w : World} {g n k m c : Nat} {t : TypeId} (h : w.heap[g]? = some (.cells (repL n k m).toArray t (0, 0))) (hm : c ≤ m) (j : Nat) (v : Value) (hj : (List.replicate c (Value.int .u8 (k : Nat)))[j]? = some v) : w.cell? ((⟨g, 0, none⟩ : Addr).add j) = some v := by
  have hjc : j < c := by have := (List.getElem?_eq_some_iff.1 hj).1; simpa using this
  have e : (⟨g, 0, none⟩ : Addr).add j = ⟨g, j, none⟩ := by unfold Addr.add; split <;> simp_all
  rw [e]
  have : (repL n k m)[j]? = some v := by
    unfold repL
    rw [List.getElem?_append_left (by simp; omega)]
    simp only [List.getElem?_replicate] at hj ⊢
    rw [if_pos hjc] at hj
    rw [if_pos (by omega)]; exact hj
  simp [World.cell?, h, this]
theorem cutHi (g m n : Nat) (h : m < n) (w : World) : (Instr.sliceAt 24 (.slice (some ⟨g, 0, none⟩) n n) (some (.int .i64 (m : Nat))) none none).run Tryz.prog w = .ok (.slice (some ⟨g, m, none⟩) (n - m) (n - m)) w := by
  have hsz : (Tryz.prog.info? 5).map (·.size) = some 1 := by kernel_rfl
  have h3 : m ≤ n := by omega
  have h4 : ¬ n = m := by omega
  have h6 : (if m = 0 then (⟨g, 0, none⟩ : Addr) else ⟨g, m, none⟩) = ⟨g, m, none⟩ := by
    split
    · rename_i h; rw [h]
    · rfl
  cases h5 : Tryz.prog.info? 5 with
  | none => rw [h5] at hsz; cases hsz
  | some ie =>
    simp only [h5, Option.map_some, Option.some.injEq] at hsz
    simp [Instr.sliceAt, Instr.slice, Instr.sliceBounds, Instr.sliceBound, run_underlying Tryz.underlying24, asIntOf, sizeOf, typeInfo, h5, hsz, go_sem, h3, h4, h6, Addr.add]
theorem cutLo (g m n : Nat) (h : m ≤ n) (w : World) : (Instr.sliceAt 24 (.slice (some ⟨g, 0, none⟩) n n) none (some (.int .i64 (m : Nat))) none).run Tryz.prog w = .ok (.slice (some ⟨g, 0, none⟩) m n) w := by
  have hsz : (Tryz.prog.info? 5).map (·.size) = some 1 := by kernel_rfl
  cases h5 : Tryz.prog.info? 5 with
  | none => rw [h5] at hsz; cases hsz
  | some ie =>
    simp only [h5, Option.map_some, Option.some.injEq] at hsz
    simp [Instr.sliceAt, Instr.slice, Instr.sliceBounds, Instr.sliceBound, run_underlying Tryz.underlying24, asIntOf, sizeOf, typeInfo, h5, go_sem, h, Addr.add]
theorem full_row {E : TypeId} {k : IntKind} {w : World} {base g : Nat} {l : List Nat} (h : OwnN E k w base (some ⟨g, 0, none⟩) l.length l) : w.heap[g]? = some (.cells (l.map fun (n : Nat) => Value.int k n).toArray E (0, 0)) := by
  rcases h.2 with ⟨h1, h2⟩ | ⟨g', c, cur, h1, h2, h3, h4, h5, h6, h7⟩
  · cases h1
  · simp only [Value.slice.injEq, Option.some.injEq, Addr.mk.injEq, and_true, true_and] at h1
    obtain ⟨rfl, rfl⟩ := h1
    rw [List.take_of_length_le (by simp [h6])] at h7
    rw [h3, ← h7]
set_option maxRecDepth 100000 in
set_option maxHeartbeats 1600000 in
theorem slices_repeat (n k b : Nat) (h1 : 1 ≤ n) (h2 : n ≤ 1000) (w : World) (hr : w.cell? ⟨b, 0, none⟩ = some (.int .u8 (k : Nat))) (hb : b < w.heap.size) :
    Calls Tryz.prog 99 #[.slice (some ⟨b, 0, none⟩) 1 1, .int .i64 n] w fun e w' => ∃ g, e = .returned (.slice (some ⟨g, 0, none⟩) n n) ∧ RowN .u8 w' (some ⟨g, 0, none⟩) n (List.replicate n k) ∧ Below w.heap.size w w' := by
  go_enter Tryz.func99, Tryz.ntmps99
  go_wp2_with (first | (go_at_call 129; refine (bits_mul n (by omega) _).mono ?_; rintro e w' ⟨rfl, rfl⟩) | (at_make; refine makeN et_u8 rfl _ _ rfl w.heap.size rfl rfl (by omega) (by omega) (Nat.le_refl _) ?_; intro w1 hown hg))
  have hB1 : Below w.heap.size w w1 := Below.of_grown hg (Nat.le_refl _) (fun k e => by cases e)
  have hrow := full_row (l := List.replicate n 0) (by simpa using hown)
  have hc1 : w1.cell? ⟨b, 0, none⟩ = some (.int .u8 (k : Nat)) := (hB1.cell (p := ⟨b, 0, none⟩) hb).trans hr
  have hrow0 : w1.heap[w.heap.size]? = some (.cells (repL n k 0).toArray 5 (0, 0)) := by rw [hrow]; simp [repL]
  have hg0 : w.heap.size ≤ w.heap.size := Nat.le_refl _
  clear hown hg hrow
  have hn1 : [Value.int .u8 (k : Nat)].length = Nat.min 1 n := by show 1 = min 1 n; omega
  have hf1 : 0 + [Value.int .u8 (k : Nat)].length ≤ (repL n k 0).length := by simp [repL]; omega
  have ho1 : ∀ v ∈ [Value.int .u8 (k : Nat)], v.oneCell' = true := by intro v hv; simp at hv; subst hv; rfl
  have hs1 : ∀ j v, [Value.int .u8 (k : Nat)][j]? = some v → w1.cell? ((⟨b, 0, none⟩ : Addr).add j) = some v := by
    intro j v hj
    cases j with
    | zero => simp only [List.getElem?_cons_zero, Option.some.injEq] at hj; subst hj; exact hc1
    | succ j => simp at hj
  have HN1 := Lib.hid hn1
  have HF1 := Lib.hid hf1
  have HO1 := Lib.hid ho1
  have HS1 := Lib.hid hs1
  clear hn1 hf1 ho1 hs1
  obtain ⟨w2, hrun, hrow1, hB2⟩ : ∃ w2, (∀ ty, (Builtin.copy_ #[24, 24] ty #[.slice (some ⟨w.heap.size, 0, none⟩) n n, .slice (some ⟨b, 0, none⟩) 1 1]).run Tryz.prog w1 = .ok (goInt 1) w2) ∧ w2.heap[w.heap.size]? = some (.cells (repL n k 1).toArray 5 (0, 0)) ∧ Below w.heap.size w w2 := by
    refine ⟨_, fun ty => run_copy_row (P := Tryz.prog) w1 24 24 ty 5 w.heap.size 0 n n ⟨b, 0, none⟩ 1 1 (repL n k 0).toArray 5 [Value.int .u8 (k : Nat)] Tryz.underlying24 (by kernel_rfl) hrow0 HN1.out HS1.out (by simpa using HF1.out) HO1.out, ?_, below_setRow hB1 (Nat.le_refl _) _⟩
    have h := rep_splice n k 0 1 (by omega)
    have h' : splice (repL n k 0) 0 [Value.int .u8 (k : Nat)] = repL n k 1 := h
    rw [← h', setRow_heap w1 w.heap.size _ _ _ _ hrow0]
    simp [splice]
  have HRUN := Lib.hid hrun
  have HROW1 := Lib.hid hrow1
  have HB2 := Lib.hid hB2
  clear hrun hrow1 hB2
  go_wp2_with fail
  rw [HRUN.out]
  simp only [goInt]
  clear HRUN HN1 HF1 HO1 HS1
  generalize hgd : w.heap.size = g at *
  have HGD := Lib.hid hgd
  clear hgd
  clear hrow0 hc1 hB1
  go_wp2_with fail
  go_loopw [8] (fun i A => ∃ m : Nat, 1 ≤ m ∧ m ≤ n ∧ i = .int .i64 m ∧ A.heap[g]? = some (.cells (repL n k m).toArray 5 (0, 0)) ∧ Below g w A) (fun i _ => n - (intOf i).toNat)
  case atStart => exact ⟨1, by omega, h1, rfl, HROW1.out, HB2.out⟩
  case round =>
    clear HROW1 HB2
    obtain ⟨m, hm1, hmn', rfl, hcur, hbel⟩ := hrel
    by_cases hlt : m < n
    · obtain ⟨c, hc⟩ : ∃ c, min m (n - m) = c := ⟨_, rfl⟩
      have hmn : m + c ≤ n := by rw [← hc]; omega
      have hcm : c ≤ m := by rw [← hc]; omega
      have hc0 : 1 ≤ c := by rw [← hc]; omega
      have HCUR := Lib.hid hcur
      have HBEL := Lib.hid hbel
      have hw1 : IntKind.i64.wrap ((m : Int) + (c : Int)) = (m : Int) + (c : Int) := IntWalk.i64_in _ (by omega)
      clear hcur hbel
      go_wp2_with fail
      have hcur := HCUR.out
      have hbel := HBEL.out
      refine wp_region_flowM [38, 39, 40, 41, 42, 43, 44, 45, 46, 8] (fun j => j == 9) (fun listed w1 => w1.heap[g]? = some (.cells (if listed.getD 7 false = true then repL n k (m + c) else repL n k m).toArray 5 (0, 0)) ∧ Below g w w1) (fun j v _ => match j with | 0 => v = .int .i64 (m : Nat) | 1 => v = .slice (some ⟨g, 0, none⟩) n n | 2 => v = .int .i64 (m : Nat) | 3 => v = .slice (some ⟨g, m, none⟩) (n - m) (n - m) | 4 => v = .slice (some ⟨g, 0, none⟩) n n | 5 => v = .int .i64 (m : Nat) | 6 => v = .slice (some ⟨g, 0, none⟩) m n | 7 => v = .int .i64 (c : Nat) | 8 => v = .int .i64 ((m + c : Nat) : Int) | 9 => v = .int .i64 ((m + c : Nat) : Int) | _ => True) (fun _ _ _ _ => True) (by kernel_rfl) (by kernel_rfl) (OneEach.mk' (by kernel_rfl) (by kernel_rfl)) (by kernel_rfl) (by kernel_rfl) ⟨by simpa using hcur, belDN hbel 1⟩ ?_ ?_
      · intro i0 o hi0 listed a1 w1 hR hil hunf hdes hanc hout hold hdep
        have hsz : i0 < 10 := (Array.getElem?_eq_some_iff.1 hi0).1
        have hall : i0 = 0 ∨ i0 = 1 ∨ i0 = 2 ∨ i0 = 3 ∨ i0 = 4 ∨ i0 = 5 ∨ i0 = 6 ∨ i0 = 7 ∨ i0 = 8 ∨ i0 = 9 := by omega
        clear hsz
        rcases hall with rfl | rfl | rfl | rfl | rfl | rfl | rfl | rfl | rfl | rfl <;> simp only [List.getElem?_toArray, List.getElem?_cons_zero, List.getElem?_cons_succ, Option.some.injEq] at hi0 <;> subst hi0
        · have f8 : a1.eval (.tmp 8) = .int .i64 (m : Nat) := hold 9 _ 8 rfl rfl (hdes 9 (by kernel_rfl))
          refine stepTo_val (v := .int .i64 (m : Nat)) (w' := w1) (by simp [execOp, f8]) ⟨_, rfl, ⟨?_, hR.2⟩, fun j u hu hV _ => ⟨hV, trivial, trivial⟩, rfl⟩
          rw [getD_set_ne2 (by decide)]; exact hR.1
        · have f7 : a1.eval (.tmp 7) = .slice (some ⟨g, 0, none⟩) n n := hout 7 (by decide)
          refine stepTo_val (v := .slice (some ⟨g, 0, none⟩) n n) (w' := w1) (by simp [execOp, f7]) ⟨_, rfl, ⟨?_, hR.2⟩, fun j u hu hV _ => ⟨hV, trivial, trivial⟩, rfl⟩
          rw [getD_set_ne2 (by decide)]; exact hR.1
        · have f8 : a1.eval (.tmp 8) = .int .i64 (m : Nat) := hold 9 _ 8 rfl rfl (hdes 9 (by kernel_rfl))
          refine stepTo_val (v := .int .i64 (m : Nat)) (w' := w1) (by simp [execOp, f8]) ⟨_, rfl, ⟨?_, hR.2⟩, fun j u hu hV _ => ⟨hV, trivial, trivial⟩, rfl⟩
          rw [getD_set_ne2 (by decide)]; exact hR.1
        · have e39 : a1.eval (.tmp 39) = .slice (some ⟨g, 0, none⟩) n n := hdep ⟨1, .data⟩ (by simp) rfl _ rfl
          have e40 : a1.eval (.tmp 40) = .int .i64 (m : Nat) := hdep ⟨2, .data⟩ (by simp) rfl _ rfl
          refine stepTo_val (v := .slice (some ⟨g, m, none⟩) (n - m) (n - m)) (w' := w1) (by simp [execOp, e39, e40, cutHi g m n hlt]) ⟨_, rfl, ⟨?_, hR.2⟩, fun j u hu hV _ => ⟨hV, trivial, trivial⟩, rfl⟩
          rw [getD_set_ne2 (by decide)]; exact hR.1
        · have f7 : a1.eval (.tmp 7) = .slice (some ⟨g, 0, none⟩) n n := hout 7 (by decide)
          refine stepTo_val (v := .slice (some ⟨g, 0, none⟩) n n) (w' := w1) (by simp [execOp, f7]) ⟨_, rfl, ⟨?_, hR.2⟩, fun j u hu hV _ => ⟨hV, trivial, trivial⟩, rfl⟩
          rw [getD_set_ne2 (by decide)]; exact hR.1
        · have f8 : a1.eval (.tmp 8) = .int .i64 (m : Nat) := hold 9 _ 8 rfl rfl (hdes 9 (by kernel_rfl))
          refine stepTo_val (v := .int .i64 (m : Nat)) (w' := w1) (by simp [execOp, f8]) ⟨_, rfl, ⟨?_, hR.2⟩, fun j u hu hV _ => ⟨hV, trivial, trivial⟩, rfl⟩
          rw [getD_set_ne2 (by decide)]; exact hR.1
        · have e42 : a1.eval (.tmp 42) = .slice (some ⟨g, 0, none⟩) n n := hdep ⟨4, .data⟩ (by simp) rfl _ rfl
          have e43 : a1.eval (.tmp 43) = .int .i64 (m : Nat) := hdep ⟨5, .data⟩ (by simp) rfl _ rfl
          refine stepTo_val (v := .slice (some ⟨g, 0, none⟩) m n) (w' := w1) (by simp [execOp, e42, e43, cutLo g m n (Nat.le_of_lt hlt)]) ⟨_, rfl, ⟨?_, hR.2⟩, fun j u hu hV _ => ⟨hV, trivial, trivial⟩, rfl⟩
          rw [getD_set_ne2 (by decide)]; exact hR.1
        · have e41 : a1.eval (.tmp 41) = .slice (some ⟨g, m, none⟩) (n - m) (n - m) := hdep ⟨3, .data⟩ (by simp) rfl _ rfl
          have e44 : a1.eval (.tmp 44) = .slice (some ⟨g, 0, none⟩) m n := hdep ⟨6, .data⟩ (by simp) rfl _ rfl
          rw [hunf] at hR
          simp only [Bool.false_eq_true, if_false] at hR
          refine step_of_list (ops := #[]) rfl (wpList_copy_splice rfl (.tmp 41) (.tmp 44) 24 24 rfl 5 Tryz.underlying24 (by kernel_rfl) _ _ (n - m) (n - m) m n e41 e44 g m (repL n k m) 5 hR.1 (List.replicate c (.int .u8 (k : Nat))) (by rw [List.length_replicate]; exact hc.symm) (fun _ => ⟨rfl, _, rfl, fun j v hj => rep_cell hR.1 hcm j v hj⟩) (by simp [repL]; omega) (by intro v hv; rw [(List.mem_replicate.1 hv).2]; rfl) g w hR.2 (Nat.le_refl _) ?_)
          intro w4 hg4 hb4
          refine ⟨_, rfl, ⟨?_, hb4⟩, fun j u hu hV _ => ⟨hV, trivial, trivial⟩, by simp [goInt]⟩
          rw [if_pos (set_getD_same hil)]
          rw [rep_splice n k m c hmn] at hg4
          exact hg4
        · have e38 : a1.eval (.tmp 38) = .int .i64 (m : Nat) := hdep ⟨0, .data⟩ (by simp) rfl _ rfl
          have e45 : a1.eval (.tmp 45) = .int .i64 (c : Nat) := hdep ⟨7, .data⟩ (by simp) rfl _ rfl
          refine stepTo_val (v := .int .i64 ((m + c : Nat) : Int)) (w' := w1) (by simp [execOp, e38, e45, eqgA, addI, hw1]) ⟨_, rfl, ⟨?_, hR.2⟩, fun j u hu hV _ => ⟨hV, trivial, trivial⟩, rfl⟩
          rw [getD_set_ne2 (by decide)]; exact hR.1
        · have e46 : a1.eval (.tmp 46) = .int .i64 ((m + c : Nat) : Int) := hdep ⟨8, .data⟩ (by simp) rfl _ rfl
          refine stepTo_val (v := .int .i64 ((m + c : Nat) : Int)) (w' := w1) (by simp [execOp, e46]) ⟨_, rfl, ⟨?_, hR.2⟩, fun j u hu hV _ => ⟨hV, trivial, trivial⟩, rfl⟩
          rw [getD_set_ne2 (by decide)]; exact hR.1
      · intro listed f w1 hR hall hV
        have v9 : f 8 = .int .i64 ((m + c : Nat) : Int) := hV 9 _ rfl rfl
        rw [if_pos (hall 7 (by decide))] at hR
        simp only [spread, List.contains_cons, List.contains_nil, Nat.reduceBEq, Bool.or_false, Bool.or_true, cond_true, cond_false, Nat.reduceAdd, Nat.zero_add, v9]
        go_wp2
        go_roundw
        case rel => exact ⟨m + c, by omega, hmn, rfl, hR.1, hR.2⟩
        case measure => simp [intOf]; omega
    · obtain rfl : m = n := by omega
      have HB := Lib.hid hbel
      have HC := Lib.hid hcur
      clear hcur hbel
      go_wp2
      go_ret
      refine ⟨g, rfl, ?_, by rw [HGD.out]; exact HB.out⟩
      refine ⟨by simp, ⟨by omega, fun h => by cases h⟩, .inr ⟨g, 0, rfl, (Array.getElem?_eq_some_iff.1 HC.out).1, fun i hi => ?_⟩⟩
      have hi' : i < m := by simpa using hi
      simp [World.cell?, HC.out, repL, hi']
theorem run_grow0 (n : Nat) (h1 : 1 ≤ n) (h2 : n ≤ 100000) (w : World) (ty : TypeId) :
    ∃ c w', n ≤ c ∧ c ≤ 9223372036854775807 ∧ (Builtin.append_ #[24, 3] ty #[.slice none 0 0, .int .i64 (n : Nat)]).run Tryz.prog w = .ok (.slice (some ⟨w.heap.size, 0, none⟩) n c) w' ∧ OwnN 5 .u8 w' w.heap.size (some ⟨w.heap.size, 0, none⟩) c [] ∧ Below w.heap.size w w' := by
  have hT : (Tryz.prog.info? 5).map (fun i => (i.zero, i.size, i.bytes)) = some (some (.int .u8 0), 1, 1) := by kernel_rfl
  obtain ⟨i, hi, hz, hsz, hby⟩ : ∃ i, Tryz.prog.info? 5 = some i ∧ i.zero = some (.int .u8 0) ∧ i.size = 1 ∧ i.bytes = 1 := by
    cases h5 : Tryz.prog.info? 5 with
    | none => rw [h5] at hT; cases hT
    | some ie => rw [h5] at hT; simp only [Option.map_some, Option.some.injEq, Prod.mk.injEq] at hT; exact ⟨ie, rfl, hT.1, hT.2.1, hT.2.2⟩
  have h := Lib.run_append_grow_zeros (P := Tryz.prog) w 24 3 ty 5 i (.int .u8 0) .i64 .i64 Tryz.underlying24 Tryz.underlying3 hi hz none 0 0 [] (by rw [hsz]; exact run_firstCells_none w.drew 1 0 0 0) n (by omega) (by omega) (by omega) (by omega) (by rw [hby]; omega) (by rw [Nat.zero_add]; exact growslice_fits (by omega) (by rw [hby]; omega))
  simp only [Nat.zero_add] at h
  have hge := grownCap_ge w n 0 5
  have hle := grownCap_le_maxLen w n 0 5 (by unfold maxLen; omega)
  generalize grownCap w n 0 5 = G at *
  refine ⟨G, _, hge, by simpa [maxLen] using hle, h, ?_, ?_⟩
  · refine ⟨rfl, .inr ⟨w.heap.size, G, _, rfl, Nat.le_refl _, World.alloc_heap_new w.drew _, Nat.zero_le _, hle, ?_, rfl⟩⟩
    simp [size_zeroCells, Value.cells]; omega
  · exact (belDN (Below.refl _ w) 1).alloc (Nat.le_refl _) _
theorem wpList_grow0 {ops : Array Oper} {rest : List Oper} {o : Oper} {ac : Act} {w : World} {Q : Exit → Act → World → Prop} (hgd : o.guard = none) (s x : Operand)
    (ho : o.op = .call { callee := .builtin .append, args := #[s, x], argTypes := #[24, 3] }) (hs : ac.eval s = .slice none 0 0) {n : Nat} (hx : ac.eval x = .int .i64 (n : Nat)) (h1 : 1 ≤ n) (h2 : n ≤ 100000)
    (h : ∀ c w', n ≤ c → c ≤ 9223372036854775807 → OwnN 5 .u8 w' w.heap.size (some ⟨w.heap.size, 0, none⟩) c [] → Below w.heap.size w w' → wpList Tryz.prog ops Q rest (ac.put o.dst (.slice (some ⟨w.heap.size, 0, none⟩) n c)) w') : wpList Tryz.prog ops Q (o :: rest) ac w := by
  refine wpList_plain hgd fun K hK => ?_
  obtain ⟨c, w', hc1, hc2, hrun, hown, hb⟩ := run_grow0 n h1 h2 w o.type
  unfold Oper.wp
  simp [execOp, ho, resolve, invoke, builtin, hs, hx, hrun, Result.andThen]
  exact hK _ _ (h c w' hc1 hc2 hown hb)
set_option maxRecDepth 100000 in
set_option maxHeartbeats 1600000 in
theorem slices_grow (n : Nat) (h1 : 1 ≤ n) (h2 : n ≤ 100000) (w : World) :
    Calls Tryz.prog 128 #[.slice none 0 0, .int .i64 n] w fun e w' => ∃ c, e = .returned (.slice (some ⟨w.heap.size, 0, none⟩) 0 c) ∧ OwnN 5 .u8 w' w.heap.size (some ⟨w.heap.size, 0, none⟩) c [] ∧ Below w.heap.size w w' := by
  go_enter Tryz.func128, Tryz.ntmps128
  go_wp2_with (at_builtin; refine wpList_grow0 rfl (.tmp 20) (.tmp 21) rfl rfl rfl h1 h2 ?_; intro c w1 hc1 hc2 hown hbel)
  go_ret
  exact ⟨c, rfl, hown, hbel⟩
def encSl : Enc (Option Addr × Nat × List Nat) where
  sz := 1
  cells x := [.slice x.1 x.2.2.length x.2.1]
  len _ := rfl
  one x u hu := by
    simp only [List.mem_cons, List.not_mem_nil, or_false] at hu
    subst hu; rfl
  pos := by decide
theorem flat_len_take (es : List (Option Addr × Nat × List Nat)) (k : Nat) (hk : k < es.length) : ((es.take (k + 1)).flatMap fun x => x.2.2) = ((es.take k).flatMap fun x => x.2.2) ++ es[k].2.2 := by
  rw [List.take_succ_eq_append_getElem hk, List.flatMap_append]; simp
theorem flat_len_le (es : List (Option Addr × Nat × List Nat)) (k : Nat) : ((es.take k).flatMap fun x => x.2.2).length ≤ (es.flatMap fun x => x.2.2).length := by
  have : es.flatMap (fun x => x.2.2) = (es.take k).flatMap (fun x => x.2.2) ++ (es.drop k).flatMap (fun x => x.2.2) := by rw [← List.flatMap_append, List.take_append_drop]
  rw [this, List.length_append]; omega
set_option maxRecDepth 100000 in
set_option maxHeartbeats 1600000 in
theorem slices_concat (a : Option Addr) (cap : Nat) (es : List (Option Addr × Nat × List Nat)) (w : World) (hr : RowS encSl w a cap es) (hrows : ∀ x ∈ es, RowN .u8 w x.1 x.2.1 x.2.2) (h1 : 1 ≤ (es.flatMap fun x => x.2.2).length) (h2 : (es.flatMap fun x => x.2.2).length ≤ 1000) (hes : es.length ≤ 100) :
    Calls Tryz.prog 92 #[.slice a es.length cap] w fun e w' => ∃ a' c', e = .returned (.slice a' (es.flatMap fun x => x.2.2).length c') ∧ RowN .u8 w' a' c' (es.flatMap fun x => x.2.2) ∧ Below w.heap.size w w' := by
  have HR := Lib.hid hrows
  clear hrows
  go_enter Tryz.func92, Tryz.ntmps92
  go_wp2
  go_loop [3, 5, 11] (fun s _ i => ∃ k : Nat, k ≤ es.length ∧ i = .int .i64 k ∧ s = .int .i64 ((es.take k).flatMap fun x => x.2.2).length) (fun _ _ i => es.length - (intOf i).toNat)
  case atStart => exact ⟨0, by omega, rfl, by simp⟩
  case round =>
    obtain ⟨k, hk, rfl, rfl⟩ := hrel
    by_cases hlt : k < es.length
    · obtain ⟨b, off, rfl, hb, hcl⟩ := hr.at hlt
      have c0 := hcl 0 _ rfl
      have hnx := congrArg List.length (flat_len_take es k hlt)
      have hle := flat_len_le es (k + 1)
      rw [List.length_append] at hnx
      clear hcl
      simp only [encSl, Nat.add_zero, Nat.mul_one] at c0
      generalize es[k] = x at *
      obtain ⟨xa, xc, xl⟩ := x
      simp only at hnx c0
      have HN := Lib.hid hnx
      generalize ((es.take k).flatMap fun x => x.2.2).length = m at *
      have hm : m + xl.length ≤ 1000 := by omega
      clear hnx hle
      go_wp2
      go_round
      case rel => exact ⟨k + 1, by omega, by go_num, by rw [HN.out]; go_num⟩
      case measure => simp [intOf]; omega
    · obtain rfl : k = es.length := by omega
      rw [List.take_length]
      obtain ⟨m, hm⟩ : ∃ m, (es.flatMap fun x => x.2.2).length = m := ⟨_, rfl⟩
      rw [hm] at h1 h2
      rw [hm]
      have HM := Lib.hid hm
      clear hm
      go_wp2_with (go_at_call 128; refine (slices_grow m h1 (by omega) _).mono ?_; rintro e w1 ⟨c, rfl, hown, hbel⟩)
      have HO := Lib.hid hown
      have HB := Lib.hid hbel
      clear hown hbel
      go_loopw [6, 8, 27] (fun s _ i A => ∃ k : Nat, k ≤ es.length ∧ i = .int .i64 k ∧ ∃ b c, s = .slice b ((es.take k).flatMap fun x => x.2.2).length c ∧ OwnN 5 .u8 A w.heap.size b c ((es.take k).flatMap fun x => x.2.2) ∧ Below w.heap.size w A) (fun _ _ i _ => es.length - (intOf i).toNat)
      case atStart => exact ⟨0, by omega, rfl, _, _, rfl, by simpa using HO.out, HB.out⟩
      case round =>
        clear HO HB
        obtain ⟨k, hk, rfl, b0, cb, rfl, hown, hbel⟩ := hrel
        by_cases hlt : k < es.length
        · have hrA := hr.below hbel
          obtain ⟨b, off, rfl, hb, hcl⟩ := hrA.at hlt
          have c0 := hcl 0 _ rfl
          have hx := (HR.out _ (List.getElem_mem hlt)).below hbel
          have hnx := flat_len_take es k hlt
          have hle := flat_len_le es (k + 1)
          rw [HM.out, hnx, List.length_append] at hle
          clear hcl hrA
          simp only [encSl, Nat.add_zero, Nat.mul_one] at c0
          generalize es[k] = x at *
          obtain ⟨xa, xc, xl⟩ := x
          simp only at hnx c0 hx hle
          have HN := Lib.hid hnx
          have HBEL := Lib.hid hbel
          have HW := Lib.hid hbel.size
          clear hnx hbel
          generalize ((es.take k).flatMap fun x => x.2.2) = L at *
          go_wp2_with (at_builtin; refine appAnyN et_u8 rfl (.tmp 31) (.tmp 32) rfl rfl hown rfl rfl hx (by omega) (by omega) HW.out ?_; intro a3 cap3 w3 hown3 hg3 hb3)
          have HO3 := Lib.hid hown3
          have HB3 := Lib.hid (HBEL.out.trans hb3)
          clear hown3 hg3 hb3 hown
          go_wp2
          go_roundw
          case rel => exact ⟨k + 1, by omega, by go_num, a3, cap3, by rw [HN.out, List.length_append], by rw [HN.out]; exact HO3.out, HB3.out⟩
          case measure => simp [intOf]; omega
        · obtain rfl : k = es.length := by omega
          rw [List.take_length] at hown ⊢
          have HO := Lib.hid hown
          have HB := Lib.hid hbel
          clear hown hbel
          go_wp2
          go_ret
          exact ⟨_, _, by rw [HM.out]; rfl, HO.out.row, HB.out⟩
def fixF : List Nat := List.replicate 144 8 ++ (List.replicate 112 9 ++ (List.replicate 24 7 ++ List.replicate 8 8))
def four4 (g1 g2 g3 g4 : Nat) : List (Option Addr × Nat × List Nat) := [(some ⟨g1, 0, none⟩, 144, List.replicate 144 8), (some ⟨g2, 0, none⟩, 112, List.replicate 112 9), (some ⟨g3, 0, none⟩, 24, List.replicate 24 7), (some ⟨g4, 0, none⟩, 8, List.replicate 8 8)]
theorem four4_flat (g1 g2 g3 g4 : Nat) : ((four4 g1 g2 g3 g4).flatMap fun x => x.2.2) = fixF := by simp [four4, fixF]
theorem four4_cells (g1 g2 g3 g4 : Nat) : (flat encSl (four4 g1 g2 g3 g4)).toArray = #[.slice (some ⟨g1, 0, none⟩) 144 144, .slice (some ⟨g2, 0, none⟩) 112 112, .slice (some ⟨g3, 0, none⟩) 24 24, .slice (some ⟨g4, 0, none⟩) 8 8] := by
  simp [four4, flat, encSl]
theorem fixF_len : fixF.length = 288 := by unfold fixF; simp only [List.length_append, List.length_replicate, Nat.reduceAdd]
theorem concat4 (g1 g2 g3 g4 : Nat) (w : World) (r1 : RowN .u8 w (some ⟨g1, 0, none⟩) 144 (List.replicate 144 8)) (r2 : RowN .u8 w (some ⟨g2, 0, none⟩) 112 (List.replicate 112 9)) (r3 : RowN .u8 w (some ⟨g3, 0, none⟩) 24 (List.replicate 24 7)) (r4 : RowN .u8 w (some ⟨g4, 0, none⟩) 8 (List.replicate 8 8)) :
    Calls Tryz.prog 92 #[.slice (some ⟨w.heap.size, 0, none⟩) 4 4] (w.alloc (.cells #[.slice (some ⟨g1, 0, none⟩) 144 144, .slice (some ⟨g2, 0, none⟩) 112 112, .slice (some ⟨g3, 0, none⟩) 24 24, .slice (some ⟨g4, 0, none⟩) 8 8] 24)) fun e w' =>
      ∃ a c, e = .returned (.slice a 288 c) ∧ RowN .u8 w' a c fixF ∧ Below w.heap.size w w' := by
  have hb := box_below' w (.cells #[.slice (some ⟨g1, 0, none⟩) 144 144, .slice (some ⟨g2, 0, none⟩) 112 112, .slice (some ⟨g3, 0, none⟩) 24 24, .slice (some ⟨g4, 0, none⟩) 8 8] 24)
  have hR := RowS.lit encSl w (four4 g1 g2 g3 g4) 24 _ _ rfl (four4_cells g1 g2 g3 g4).symm (by simp [four4])
  have h := slices_concat (some ⟨w.heap.size, 0, none⟩) 4 (four4 g1 g2 g3 g4) _ hR ?_ (by rw [four4_flat, fixF_len]; decide) (by rw [four4_flat, fixF_len]; decide) (by simp [four4])
  · rw [four4_flat, fixF_len] at h
    refine h.mono ?_
    rintro e w' ⟨a, c, rfl, hr, hb2⟩
    exact ⟨a, c, rfl, hr, hb.trans (hb2.mono (by simp))⟩
  · intro x hx
    simp only [four4, List.mem_cons, List.not_mem_nil, or_false] at hx
    rcases hx with rfl | rfl | rfl | rfl
    · exact r1.below hb
    · exact r2.below hb
    · exact r3.below hb
    · exact r4.below hb
def fixD : List Nat := List.replicate 32 5
end Go.Proofs.YtendielanacflaaGreat

namespace Go.Proofs.YtendielanacflaaGreat
open Go.RowKit Go.Shelf M07
set_option linter.unusedVariables false
def encSg : Enc Sg := ⟨2, fun s => [.int .u8 (s.1 : Nat), .int .u8 (s.2 : Nat)], fun _ => rfl, fun _ u hu => by simp at hu; rcases hu with rfl | rfl <;> rfl, by decide⟩
theorem sg_elems : ElemS Tryz.prog 91 95 encSg (.agg #[.int .u8 0, .int .u8 0]) 2 := ⟨Tryz.underlying91, by kernel_rfl, by kernel_rfl⟩
def sgV (s : Sg) : Value := .agg #[.int .u8 (s.1 : Nat), .int .u8 (s.2 : Nat)]
set_option maxRecDepth 100000 in
theorem repeat_bits (c : Nat) (w : World) : Calls Tryz.prog 49 #[.int .u8 (c : Nat)] w fun e w' => e = .returned (.int .i64 (rbits c : Nat)) ∧ w' = w := by
  by_cases h1 : c = 16
  · subst h1
    go_enter Tryz.func49, Tryz.ntmps49
    go_wp2
    go_ret
    exact ⟨rfl, rfl⟩
  by_cases h2 : c = 17
  · subst h2
    go_enter Tryz.func49, Tryz.ntmps49
    go_wp2
    go_ret
    exact ⟨rfl, rfl⟩
  by_cases h3 : c = 18
  · subst h3
    go_enter Tryz.func49, Tryz.ntmps49
    go_wp2
    go_ret
    exact ⟨rfl, rfl⟩
  have hr : Hid (rbits c = 0) := by unfold Hid rbits; rw [if_neg h1, if_neg h2, if_neg h3]
  have t1 : ((c : Int) == 16) = false := by simp; omega
  have t2 : ((c : Int) == 17) = false := by simp; omega
  have t3 : ((c : Int) == 18) = false := by simp; omega
  clear h1 h2 h3
  go_enter Tryz.func49, Tryz.ntmps49
  go_wp2
  go_ret
  exact ⟨by rw [hr.out]; rfl, rfl⟩
set_option maxRecDepth 100000 in
theorem repeat_times (s : Sg) (hs : SgOk s) (w : World) : Calls Tryz.prog 127 #[sgV s] w fun e w' => e = .returned (.int .i64 (times s : Nat)) ∧ Below w.heap.size w w' := by
  have hx := hs.lt
  obtain ⟨c, x⟩ := s
  unfold sgV
  have HB := Lib.hid (box_b w (.cells #[.int .u8 (c : Nat), .int .u8 (x : Nat)] 95))
  simp only at hx
  by_cases h1 : c < 16
  · have hr : Hid (times (c, x) = 1) := by unfold Hid times; rw [if_pos h1]
    have t1 : decide ((c : Int) < 16) = true := by simp; omega
    clear h1
    go_enter Tryz.func127, Tryz.ntmps127
    go_wp2
    go_ret
    exact ⟨by rw [hr.out]; rfl, HB.out⟩
  by_cases h2 : c < 18
  · have hr : Hid (Ending.returned (.int .i64 (3 + (x : Int))) = Ending.returned (.int .i64 (times (c, x) : Nat))) := by unfold Hid times; rw [if_neg h1, if_pos h2]; rfl
    have t1 : decide ((c : Int) < 16) = false := by simp; omega
    have t2 : decide ((c : Int) < 18) = true := by simp; omega
    clear h1 h2
    go_enter Tryz.func127, Tryz.ntmps127
    go_wp2
    go_ret
    exact ⟨hr.out, HB.out⟩
  have hr : Hid (Ending.returned (.int .i64 (11 + (x : Int))) = Ending.returned (.int .i64 (times (c, x) : Nat))) := by unfold Hid times; rw [if_neg h1, if_neg h2]; rfl
  have t1 : decide ((c : Int) < 16) = false := by simp; omega
  have t2 : decide ((c : Int) < 18) = false := by simp; omega
  clear h1 h2
  go_enter Tryz.func127, Tryz.ntmps127
  go_wp2
  go_ret
  exact ⟨hr.out, HB.out⟩
theorem bits_fit (n x : Nat) (h7 : n ≤ 7) (h : x < 2 ^ n) : decide (wrap64 ((2 : Int) ^ n) ≤ (x : Int)) = false := by
  have hall : ∀ k : Fin 8, wrap64 ((2 : Int) ^ k.val) = ((2 ^ k.val : Nat) : Int) := by decide +kernel
  have := hall ⟨n, by omega⟩
  simp only at this
  rw [this]
  simp only [decide_eq_false_iff_not]
  omega
theorem below_drewN {B : Nat} {w w' : World} (h : Below B w w') (q : Nat) : Below B w (w'.drewN q) := ⟨h.os, h.tape, h.output, h.size, h.block⟩
set_option maxRecDepth 100000 in
theorem unpack_bad (s : Sg) (hs : SgOk s) (w : World) : Calls Tryz.prog 154 #[sgV s] w fun e w' => e = .returned (.bool false) ∧ Below w.heap.size w w' := by
  have hx := hs.lt
  obtain ⟨c, x⟩ := s
  obtain ⟨hc, h2⟩ := hs
  unfold sgV
  simp only at hx hc h2
  have HB := Lib.hid (box_b w (.cells #[.int .u8 (c : Nat), .int .u8 (x : Nat)] 95))
  have t1 : decide ((18 : Int) < (c : Int)) = false := by simp; omega
  have HBT := Lib.hid (fun A => repeat_bits c A)
  have hr7 : rbits c ≤ 7 := by unfold rbits; (repeat' split) <;> omega
  clear hc
  generalize rbits c = n at *
  go_enter Tryz.func154, Tryz.ntmps154
  go_wp2_with fail
  obtain ⟨b0, b1⟩ := box2_cells w (.int .u8 (c : Nat)) (.int .u8 (x : Nat)) 95
  generalize w.alloc (.cells #[.int .u8 (c : Nat), .int .u8 (x : Nat)] 95) = W at *
  go_quiet ((go_at_call 49; exact (HBT.out _).mono (fun _ _ h => ⟨h.1, _, h.2⟩)))
  have hd : decide (wrap64 ((2 : Int) ^ n) ≤ (x : Int)) = false := bits_fit n x hr7 h2
  go_wp2_with fail
  simp only [hd]
  go_ret
  exact ⟨rfl, below_drewN HB.out _⟩
set_option maxRecDepth 100000 in
theorem sg_index (a : Option Addr) (cap : Nat) (l : List Sg) (w : World) (hr : RowS encSg w a cap l) (hok : ∀ s ∈ l, SgOk s) :
    Calls Tryz.prog 157 #[.slice a l.length cap, .func (Fn.func 154) #[] #[]] w fun e w' => e = .returned (.int .i64 (-1)) ∧ Below w.heap.size w w' := by
  have HOK := Lib.hid hok
  have hlen := hr.len
  clear hok
  go_enter Tryz.func157, Tryz.ntmps157
  go_wp2_with fail
  go_loopw [5, 8] (fun _ i A => ∃ k : Nat, k ≤ l.length ∧ i = .int .i64 k ∧ Below w.heap.size w A) (fun _ i _ => l.length - (intOf i).toNat)
  case atStart => exact ⟨0, by omega, rfl, Below.refl _ _⟩
  case round =>
    obtain ⟨k, hk, rfl, hbel⟩ := hrel
    by_cases hlt : k < l.length
    · have hrA := hr.below hbel
      obtain ⟨b, off, rfl, hb, hcl⟩ := hrA.at hlt
      have c0 := hcl 0 _ rfl
      have c1 := hcl 1 _ rfl
      have hs := HOK.out _ (List.getElem_mem hlt)
      have HBEL := Lib.hid hbel
      have HR := Lib.hid hr
      clear hrA hcl hbel hr
      generalize l[k] = s at *
      have HC := Lib.hid (unpack_bad s hs)
      clear hs
      obtain ⟨c, x⟩ := s
      simp only [encSg, Nat.add_zero] at c0 c1
      rw [← Nat.add_assoc] at c1
      go_wp2_with fail
      refine (HC.out _).mono ?_
      rintro e w1 ⟨rfl, hb1⟩
      have HB1 := Lib.hid (HBEL.out.trans (hb1.mono HBEL.out.size))
      clear hb1 HC HBEL c0 c1
      go_wp2
      go_roundw
      case rel => exact ⟨k + 1, by omega, by go_num, HB1.out⟩
      case measure => simp [intOf]; omega
    · obtain rfl : k = l.length := by omega
      have HBEL := Lib.hid hbel
      clear hbel
      go_wp2
      go_ret
      exact ⟨rfl, HBEL.out⟩
theorem sg_contains (a : Option Addr) (cap : Nat) (l : List Sg) (w : World) (hr : RowS encSg w a cap l) (hok : ∀ s ∈ l, SgOk s) :
    Calls Tryz.prog 153 #[.slice a l.length cap, .func (Fn.func 154) #[] #[]] w fun e w' => e = .returned (.bool false) ∧ Below w.heap.size w w' := by
  have HC := Lib.hid (sg_index a cap l w hr hok)
  clear hr hok
  go_enter Tryz.func153, Tryz.ntmps153
  go_wp2_with fail
  refine HC.out.mono ?_
  rintro e w1 ⟨rfl, hb⟩
  have HB := Lib.hid hb
  clear hb HC
  go_wp2
  go_ret
  exact ⟨rfl, HB.out⟩
def UnpOut (B n : Nat) (R : Option (List Nat)) (e : Ending) (w' : World) : Prop :=
  match R with
  | some o => ∃ a c, e = .returned (.tuple #[.slice a o.length c, .int .i64 0]) ∧ OwnN 5 .u8 w' B a c o
  | none => e = .returned (.tuple #[.slice none 0 0, .int .i64 2])
set_option maxRecDepth 100000 in
set_option maxHeartbeats 1600000 in
theorem repeat_unpack (a : Option Addr) (cap : Nat) (l : List Sg) (n : Nat) (w : World) (hr : RowS encSg w a cap l) (hok : ∀ s ∈ l, SgOk s) (hn : n ≤ 1000) (hl : l.length ≤ 100000) :
    Calls Tryz.prog 139 #[.slice a l.length cap, .int .i64 (n : Nat)] w fun e w' => Below w.heap.size w w' ∧ UnpOut w.heap.size n (unp n l []) e w' := by
  have HC := Lib.hid (sg_contains a cap l w hr hok)
  have HOK := Lib.hid hok
  have HR := Lib.hid hr
  clear hr hok
  obtain ⟨R, hR0⟩ : ∃ R, R = unp n l [] := ⟨_, rfl⟩
  rw [← hR0]
  replace hR0 := Lib.hid hR0
  go_enter Tryz.func139, Tryz.ntmps139
  go_wp2_with fail
  refine HC.out.mono ?_
  rintro e w1 ⟨rfl, hb1⟩
  have HB1 := Lib.hid hb1
  clear HC hb1
  go_wp2_with fail
  go_loopw [6, 8, 9, 14] (fun s _ _ i A => ∃ k : Nat, k ≤ l.length ∧ i = .int .i64 k ∧ ∃ out b c, s = .slice b out.length c ∧ OwnN 5 .u8 A w.heap.size b c out ∧ Below w.heap.size w A ∧ out.length ≤ n ∧ R = unp n (l.drop k) out) (fun _ _ _ i _ => l.length - (intOf i).toNat)
  case atStart => exact ⟨0, by omega, rfl, [], none, 0, rfl, OwnN.nil _ _ _ _, HB1.out, by simp, hR0.out⟩
  case round =>
    clear HB1 hR0
    obtain ⟨k, hk, rfl, out, ob, oc, rfl, hown, hbel, hon, hR⟩ := hrel
    have HBEL := Lib.hid hbel
    by_cases hlt : k < l.length
    · have hrA := HR.out.below hbel
      obtain ⟨b, off, rfl, hb, hcl⟩ := hrA.at hlt
      have c0 := hcl 0 _ rfl
      have c1 := hcl 1 _ rfl
      have hs := HOK.out _ (List.getElem_mem hlt)
      have hdrop : l.drop k = l[k] :: l.drop (k + 1) := List.drop_eq_getElem_cons hlt
      rw [hdrop] at hR
      clear hrA hcl hdrop hbel
      generalize l[k] = s at *
      have HT := Lib.hid (fun A => repeat_times s hs A)
      have htb := times_bound hs
      have hx := hs.lt
      have hc18 := hs.1
      clear hs
      unfold unp at hR
      obtain ⟨c, x⟩ := s
      simp only [encSg, Nat.add_zero] at c0 c1
      rw [← Nat.add_assoc] at c1
      simp only at hR hx hc18
      have HOWN := Lib.hid hown
      clear hown
      by_cases h16 : c = 16
      · subst h16
        by_cases ho0 : out.length = 0
        · have HRR : Hid (R = none) := by
            rw [if_pos ⟨rfl, ho0⟩] at hR; exact hR
          clear hR
          have t0 : ((out.length : Int) == 0) = true := by rw [ho0]; rfl
          clear ho0
          go_wp2_with fail
          go_ret2
          rw [HRR.out]
          exact ⟨HBEL.out.trans ((box_b wr _).mono HBEL.out.size), rfl⟩
        · rw [if_neg (fun h => ho0 h.2)] at hR
          have t0 : ((out.length : Int) == 0) = false := beq_eq_false_iff_ne.2 (by omega)
          have hil : out.length - 1 < out.length := by omega
          obtain ⟨lb, rfl, hlb0, hlb, hcl, _⟩ := HOWN.out.at hil
          have hcl2 := ((box_b wr (.cells #[.int .u8 16, .int .u8 (x : Nat)] 95)).cell (p := ⟨lb, out.length - 1, none⟩) hlb).trans hcl
          have hkv : kOf 16 out = out[out.length - 1] := by unfold kOf; rw [if_pos rfl]; simp [hil]
          rw [hkv] at hR
          have q1 : (out.length : Int) - 1 = ((out.length - 1 : Nat) : Int) := by omega
          have q2 : (out.length : Int) - 1 < (out.length : Int) := by omega
          have HR2 := Lib.hid hR
          clear hR hkv ho0 hcl
          generalize out[out.length - 1] = kv at *
          generalize hix : out.length - 1 = ix at *
          generalize htm : times (16, x) = tm at *
          replace hix := Lib.hid hix
          replace htm := Lib.hid htm
          go_wp2_with fail
          obtain ⟨e0, e1⟩ := box2_cells wr (.int .u8 (16 : Nat)) (.int .u8 (x : Nat)) 95
          have HBW := Lib.hid (HBEL.out.trans ((box_b wr (.cells #[.int .u8 (16 : Nat), .int .u8 (x : Nat)] 95)).mono HBEL.out.size))
          have HOW := Lib.hid (HOWN.out.below (box_b wr (.cells #[.int .u8 (16 : Nat), .int .u8 (x : Nat)] 95)))
          have hnb : wr.heap.size < (wr.alloc (.cells #[.int .u8 (16 : Nat), .int .u8 (x : Nat)] 95)).heap.size := by simp
          clear HBEL HOWN c0 c1
          generalize wr.alloc (.cells #[.int .u8 (16 : Nat), .int .u8 (x : Nat)] 95) = W at *
          generalize wr.heap.size = nb at *
          refine (HT.out W).mono ?_
          rintro e w3 ⟨rfl, hb3⟩
          have d0 := (hb3.cell (p := ⟨nb, 0, none⟩) hnb).trans e0
          have d1 := (hb3.cell (p := ⟨nb, 1, none⟩) hnb).trans e1
          have HB3 := Lib.hid (HBW.out.trans (hb3.mono HBW.out.size))
          have HO3 := Lib.hid (HOW.out.below hb3)
          have hnb3 : nb < w3.heap.size := Nat.lt_of_lt_of_le hnb hb3.size
          clear HBW HOW hb3 e0 e1 hnb
          by_cases hfit : n < out.length + tm
          · have HRR : Hid (R = none) := by have := HR2.out; rwa [if_pos hfit] at this
            have t5 : decide ((n : Int) - (out.length : Int) < (tm : Int)) = true := by simp; omega
            clear hfit
            go_wp2
            go_ret2
            rw [HRR.out]
            exact ⟨HB3.out, rfl⟩
          · have HRR : Hid (R = unp n (l.drop (k + 1)) (out ++ List.replicate tm kv)) := by have := HR2.out; rwa [if_neg hfit] at this
            have t5 : decide ((n : Int) - (out.length : Int) < (tm : Int)) = false := by simp; omega
            have hfit2 : out.length + tm ≤ n := by omega
            clear hfit HR2
            go_wp2_with fail
            have f0 := ((box_b w3 (.cells #[.int .u8 (kv : Nat)] 5)).cell (p := ⟨nb, 0, none⟩) hnb3).trans d0
            have f1 := ((box_b w3 (.cells #[.int .u8 (kv : Nat)] 5)).cell (p := ⟨nb, 1, none⟩) hnb3).trans d1
            have g0 : (w3.alloc (.cells #[.int .u8 (kv : Nat)] 5)).cell? ⟨w3.heap.size, 0, none⟩ = some (.int .u8 (kv : Nat)) := cell_of_one (World.alloc_heap_new _ _)
            have hgs : w3.heap.size < (w3.alloc (.cells #[.int .u8 (kv : Nat)] 5)).heap.size := by simp
            have HB4 := Lib.hid (HB3.out.trans ((box_b w3 (.cells #[.int .u8 (kv : Nat)] 5)).mono HB3.out.size))
            have HO4 := Lib.hid (HO3.out.below (box_b w3 (.cells #[.int .u8 (kv : Nat)] 5)))
            clear HB3 HO3 d0 d1
            generalize w3.alloc (.cells #[.int .u8 (kv : Nat)] 5) = W4 at *
            generalize w3.heap.size = gs at *
            go_wp2_with fail
            refine (HT.out W4).mono ?_
            rintro e w5 ⟨rfl, hb5⟩
            have g5 := (hb5.cell (p := ⟨gs, 0, none⟩) hgs).trans g0
            have hgs5 := Nat.lt_of_lt_of_le hgs hb5.size
            have HB5 := Lib.hid (HB4.out.trans (hb5.mono HB4.out.size))
            have HO5 := Lib.hid (HO4.out.below hb5)
            have HREP := Lib.hid (slices_repeat tm kv gs htb.1 (by omega) w5 g5 hgs5)
            clear HB4 HO4 hb5 f0 f1 g0 g5
            go_wp2_with fail
            refine HREP.out.mono ?_
            rintro e w6 ⟨g, rfl, hr6, hb6⟩
            have HB6 := Lib.hid (HB5.out.trans (hb6.mono HB5.out.size))
            have HO6 := Lib.hid (HO5.out.below hb6)
            have hl6 : tm = (List.replicate tm kv).length := by simp
            have HW6 := Lib.hid (HB6.out.size)
            have HR6 := Lib.hid hr6
            have hbd : out.length + tm ≤ 1000 := by omega
            have HL6 := Lib.hid hl6
            clear hb6 HB5 HO5 HREP hr6 hl6
            go_wp2_with (at_builtin; refine appAnyN et_u8 rfl (.tmp 47) (.tmp 52) rfl rfl HO6.out HL6.out rfl HR6.out (by omega) (by omega) HW6.out ?_; intro a7 cap7 w7 hown7 hg7 hb7; replace hown7 := Lib.hid hown7; replace hb7 := Lib.hid (HB6.out.trans hb7); clear hg7)
            go_wp2
            go_roundw
            case rel => exact ⟨k + 1, by omega, by go_num, _, a7, cap7, by rw [List.length_append, List.length_replicate], hown7.out, hb7.out, by rw [List.length_append, List.length_replicate]; omega, HRR.out⟩
            case measure => simp [intOf]; omega
      · rw [if_neg (fun h => h16 h.1)] at hR
        have t0 : ((c : Int) == 16) = false := beq_eq_false_iff_ne.2 (by omega)
        by_cases hgt : 16 < c
        · have hkv : kOf c out = 0 := by unfold kOf; rw [if_neg h16, if_pos hgt]
          have t1 : decide ((16 : Int) < (c : Int)) = true := by simp; omega
          rw [hkv] at hR
          have HR2 := Lib.hid hR
          obtain ⟨kv, hkv0⟩ : ∃ kv, kv = 0 := ⟨0, rfl⟩
          clear hR hkv h16 hgt
          generalize htm : times (c, x) = tm at *
          replace htm := Lib.hid htm
          rw [← hkv0] at HR2
          subst hkv0
          go_wp2_with fail
          obtain ⟨e0, e1⟩ := box2_cells wr (.int .u8 (c : Nat)) (.int .u8 (x : Nat)) 95
          have HBW := Lib.hid (HBEL.out.trans ((box_b wr (.cells #[.int .u8 (c : Nat), .int .u8 (x : Nat)] 95)).mono HBEL.out.size))
          have HOW := Lib.hid (HOWN.out.below (box_b wr (.cells #[.int .u8 (c : Nat), .int .u8 (x : Nat)] 95)))
          have hnb : wr.heap.size < (wr.alloc (.cells #[.int .u8 (c : Nat), .int .u8 (x : Nat)] 95)).heap.size := by simp
          clear HBEL HOWN c0 c1
          generalize wr.alloc (.cells #[.int .u8 (c : Nat), .int .u8 (x : Nat)] 95) = W at *
          generalize wr.heap.size = nb at *
          refine (HT.out W).mono ?_
          rintro e w3 ⟨rfl, hb3⟩
          have d0 := (hb3.cell (p := ⟨nb, 0, none⟩) hnb).trans e0
          have d1 := (hb3.cell (p := ⟨nb, 1, none⟩) hnb).trans e1
          have HB3 := Lib.hid (HBW.out.trans (hb3.mono HBW.out.size))
          have HO3 := Lib.hid (HOW.out.below hb3)
          have hnb3 : nb < w3.heap.size := Nat.lt_of_lt_of_le hnb hb3.size
          clear HBW HOW hb3 e0 e1 hnb
          by_cases hfit : n < out.length + tm
          · have HRR : Hid (R = none) := by have := HR2.out; rwa [if_pos hfit] at this
            have t5 : decide ((n : Int) - (out.length : Int) < (tm : Int)) = true := by simp; omega
            clear hfit
            go_wp2
            go_ret2
            rw [HRR.out]
            exact ⟨HB3.out, rfl⟩
          · have HRR : Hid (R = unp n (l.drop (k + 1)) (out ++ List.replicate tm 0)) := by have := HR2.out; rwa [if_neg hfit] at this
            have t5 : decide ((n : Int) - (out.length : Int) < (tm : Int)) = false := by simp; omega
            have hfit2 : out.length + tm ≤ n := by omega
            clear hfit HR2
            go_wp2_with fail
            have f0 := ((box_b w3 (.cells #[.int .u8 (0 : Nat)] 5)).cell (p := ⟨nb, 0, none⟩) hnb3).trans d0
            have f1 := ((box_b w3 (.cells #[.int .u8 (0 : Nat)] 5)).cell (p := ⟨nb, 1, none⟩) hnb3).trans d1
            have g0 : (w3.alloc (.cells #[.int .u8 (0 : Nat)] 5)).cell? ⟨w3.heap.size, 0, none⟩ = some (.int .u8 (0 : Nat)) := cell_of_one (World.alloc_heap_new _ _)
            have hgs : w3.heap.size < (w3.alloc (.cells #[.int .u8 (0 : Nat)] 5)).heap.size := by simp
            have HB4 := Lib.hid (HB3.out.trans ((box_b w3 (.cells #[.int .u8 (0 : Nat)] 5)).mono HB3.out.size))
            have HO4 := Lib.hid (HO3.out.below (box_b w3 (.cells #[.int .u8 (0 : Nat)] 5)))
            clear HB3 HO3 d0 d1
            generalize w3.alloc (.cells #[.int .u8 (0 : Nat)] 5) = W4 at *
            generalize w3.heap.size = gs at *
            go_wp2_with fail
            refine (HT.out W4).mono ?_
            rintro e w5 ⟨rfl, hb5⟩
            have g5 := (hb5.cell (p := ⟨gs, 0, none⟩) hgs).trans g0
            have hgs5 := Nat.lt_of_lt_of_le hgs hb5.size
            have HB5 := Lib.hid (HB4.out.trans (hb5.mono HB4.out.size))
            have HO5 := Lib.hid (HO4.out.below hb5)
            have HREP := Lib.hid (slices_repeat tm 0 gs htb.1 (by omega) w5 g5 hgs5)
            clear HB4 HO4 hb5 f0 f1 g0 g5
            go_wp2_with fail
            refine HREP.out.mono ?_
            rintro e w6 ⟨g, rfl, hr6, hb6⟩
            have HB6 := Lib.hid (HB5.out.trans (hb6.mono HB5.out.size))
            have HO6 := Lib.hid (HO5.out.below hb6)
            have hl6 : tm = (List.replicate tm 0).length := by simp
            have HW6 := Lib.hid (HB6.out.size)
            have HR6 := Lib.hid hr6
            have hbd : out.length + tm ≤ 1000 := by omega
            have HL6 := Lib.hid hl6
            clear hb6 HB5 HO5 HREP hr6 hl6
            go_wp2_with (at_builtin; refine appAnyN et_u8 rfl (.tmp 47) (.tmp 52) rfl rfl HO6.out HL6.out rfl HR6.out (by omega) (by omega) HW6.out ?_; intro a7 cap7 w7 hown7 hg7 hb7; replace hown7 := Lib.hid hown7; replace hb7 := Lib.hid (HB6.out.trans hb7); clear hg7)
            go_wp2
            go_roundw
            case rel => exact ⟨k + 1, by omega, by go_num, _, a7, cap7, by rw [List.length_append, List.length_replicate], hown7.out, hb7.out, by rw [List.length_append, List.length_replicate]; omega, HRR.out⟩
            case measure => simp [intOf]; omega
        · have hkv : kOf c out = c := by unfold kOf; rw [if_neg h16, if_neg hgt]
          have t1 : decide ((16 : Int) < (c : Int)) = false := by simp; omega
          rw [hkv] at hR
          have HR2 := Lib.hid hR
          clear hR hkv h16 hgt
          generalize htm : times (c, x) = tm at *
          replace htm := Lib.hid htm
          go_wp2_with fail
          obtain ⟨e0, e1⟩ := box2_cells wr (.int .u8 (c : Nat)) (.int .u8 (x : Nat)) 95
          have HBW := Lib.hid (HBEL.out.trans ((box_b wr (.cells #[.int .u8 (c : Nat), .int .u8 (x : Nat)] 95)).mono HBEL.out.size))
          have HOW := Lib.hid (HOWN.out.below (box_b wr (.cells #[.int .u8 (c : Nat), .int .u8 (x : Nat)] 95)))
          have hnb : wr.heap.size < (wr.alloc (.cells #[.int .u8 (c : Nat), .int .u8 (x : Nat)] 95)).heap.size := by simp
          clear HBEL HOWN c0 c1
          generalize wr.alloc (.cells #[.int .u8 (c : Nat), .int .u8 (x : Nat)] 95) = W at *
          generalize wr.heap.size = nb at *
          refine (HT.out W).mono ?_
          rintro e w3 ⟨rfl, hb3⟩
          have d0 := (hb3.cell (p := ⟨nb, 0, none⟩) hnb).trans e0
          have d1 := (hb3.cell (p := ⟨nb, 1, none⟩) hnb).trans e1
          have HB3 := Lib.hid (HBW.out.trans (hb3.mono HBW.out.size))
          have HO3 := Lib.hid (HOW.out.below hb3)
          have hnb3 : nb < w3.heap.size := Nat.lt_of_lt_of_le hnb hb3.size
          clear HBW HOW hb3 e0 e1 hnb
          by_cases hfit : n < out.length + tm
          · have HRR : Hid (R = none) := by have := HR2.out; rwa [if_pos hfit] at this
            have t5 : decide ((n : Int) - (out.length : Int) < (tm : Int)) = true := by simp; omega
            clear hfit
            go_wp2
            go_ret2
            rw [HRR.out]
            exact ⟨HB3.out, rfl⟩
          · have HRR : Hid (R = unp n (l.drop (k + 1)) (out ++ List.replicate tm c)) := by have := HR2.out; rwa [if_neg hfit] at this
            have t5 : decide ((n : Int) - (out.length : Int) < (tm : Int)) = false := by simp; omega
            have hfit2 : out.length + tm ≤ n := by omega
            clear hfit HR2
            go_wp2_with fail
            have f0 := ((box_b w3 (.cells #[.int .u8 (c : Nat)] 5)).cell (p := ⟨nb, 0, none⟩) hnb3).trans d0
            have f1 := ((box_b w3 (.cells #[.int .u8 (c : Nat)] 5)).cell (p := ⟨nb, 1, none⟩) hnb3).trans d1
            have g0 : (w3.alloc (.cells #[.int .u8 (c : Nat)] 5)).cell? ⟨w3.heap.size, 0, none⟩ = some (.int .u8 (c : Nat)) := cell_of_one (World.alloc_heap_new _ _)
            have hgs : w3.heap.size < (w3.alloc (.cells #[.int .u8 (c : Nat)] 5)).heap.size := by simp
            have HB4 := Lib.hid (HB3.out.trans ((box_b w3 (.cells #[.int .u8 (c : Nat)] 5)).mono HB3.out.size))
            have HO4 := Lib.hid (HO3.out.below (box_b w3 (.cells #[.int .u8 (c : Nat)] 5)))
            clear HB3 HO3 d0 d1
            generalize w3.alloc (.cells #[.int .u8 (c : Nat)] 5) = W4 at *
            generalize w3.heap.size = gs at *
            go_wp2_with fail
            refine (HT.out W4).mono ?_
            rintro e w5 ⟨rfl, hb5⟩
            have g5 := (hb5.cell (p := ⟨gs, 0, none⟩) hgs).trans g0
            have hgs5 := Nat.lt_of_lt_of_le hgs hb5.size
            have HB5 := Lib.hid (HB4.out.trans (hb5.mono HB4.out.size))
            have HO5 := Lib.hid (HO4.out.below hb5)
            have HREP := Lib.hid (slices_repeat tm c gs htb.1 (by omega) w5 g5 hgs5)
            clear HB4 HO4 hb5 f0 f1 g0 g5
            go_wp2_with fail
            refine HREP.out.mono ?_
            rintro e w6 ⟨g, rfl, hr6, hb6⟩
            have HB6 := Lib.hid (HB5.out.trans (hb6.mono HB5.out.size))
            have HO6 := Lib.hid (HO5.out.below hb6)
            have hl6 : tm = (List.replicate tm c).length := by simp
            have HW6 := Lib.hid (HB6.out.size)
            have HR6 := Lib.hid hr6
            have hbd : out.length + tm ≤ 1000 := by omega
            have HL6 := Lib.hid hl6
            clear hb6 HB5 HO5 HREP hr6 hl6
            go_wp2_with (at_builtin; refine appAnyN et_u8 rfl (.tmp 47) (.tmp 52) rfl rfl HO6.out HL6.out rfl HR6.out (by omega) (by omega) HW6.out ?_; intro a7 cap7 w7 hown7 hg7 hb7; replace hown7 := Lib.hid hown7; replace hb7 := Lib.hid (HB6.out.trans hb7); clear hg7)
            go_wp2
            go_roundw
            case rel => exact ⟨k + 1, by omega, by go_num, _, a7, cap7, by rw [List.length_append, List.length_replicate], hown7.out, hb7.out, by rw [List.length_append, List.length_replicate]; omega, HRR.out⟩
            case measure => simp [intOf]; omega
    · obtain rfl : k = l.length := by omega
      rw [List.drop_length] at hR
      unfold unp at hR
      have HOWN := Lib.hid hown
      have HRR := Lib.hid hR
      clear hown hR hbel
      by_cases hln : out.length = n
      · have t1 : ((out.length : Int) != (n : Int)) = false := by rw [hln]; simp
        have HRS : Hid (R = some out) := by have := HRR.out; rwa [if_pos hln] at this
        clear HRR hln
        go_wp2
        go_ret2
        rw [HRS.out]
        exact ⟨HBEL.out, ob, oc, rfl, HOWN.out⟩
      · have t1 : ((out.length : Int) != (n : Int)) = true := by simp; omega
        have HRS : Hid (R = none) := by have := HRR.out; rwa [if_neg hln] at this
        clear HRR hln
        go_wp2
        go_ret2
        rw [HRS.out]
        exact ⟨HBEL.out, rfl⟩
end Go.Proofs.YtendielanacflaaGreat
