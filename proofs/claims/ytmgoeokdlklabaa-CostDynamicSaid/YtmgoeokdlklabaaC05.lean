/- bits.Mul, slices.Repeat, slices.Grow, slices.Concat at bytes; cost.fixed: contracts. repeat.Bits, times, Unpack: contracts. header.may, the deferred closure of header.Get: contracts. layer 5: the rarest first: the library's stable sort, and its comparison: contracts. -/
import Derived.Test.YtmgoeokdlklabaaC04
import Derived.Test.YtmgoeokdlklabaaC03
import Derived.Test.YtmgoeokdlklabaaC01
import Derived.Test.YtmgoeokdlklabaaC02
import Derived.Laws.CopyOwn
import Derived.Lib.AppendZerosOnto
import Derived.Laws.Bits64b
import Derived.Defers
import Derived.Recover
import Derived.Laws.Pointers
namespace Go.Proofs.Ytmgoeokdlklabaa
open Go.RowKit Go.Shelf M08 M17
set_option linter.unusedVariables false
theorem getD_set_ne2 {l : Array Bool} {i k : Nat} (h : i ≠ k) : (l.setIfInBounds i true).getD k false = l.getD k false := by
  simp [Array.getElem?_setIfInBounds_ne h]
theorem box_below' (w : World) (o : Obj) : Below w.heap.size w (w.alloc o) := (Below.refl _ _).alloc (Nat.le_refl _) _
theorem maskN (a : Nat) (ha : a < 4294967296) : bits .and .u64 (a : Int) 4294967295 = (a : Int) := by
  have h := bits_and_u64_nat a 4294967295 (by omega) (by omega)
  have e : a &&& 4294967295 = a % 4294967296 := Nat.and_two_pow_sub_one_eq_mod a 32
  rw [e, Nat.mod_eq_of_lt ha] at h
  exact h
theorem mask0 : bits .and .u64 0 4294967295 = 0 := by have := maskN 0 (by omega); simpa using this
theorem mask1 : bits .and .u64 1 4294967295 = 1 := by have := maskN 1 (by omega); simpa using this
set_option maxHeartbeats 800000 in
theorem bits_mul64 (n : Nat) (hn : n ≤ 100000) (w : World) :
    Calls Try.prog 129 #[.int .u64 1, .int .u64 n] w fun e w' => e = .returned (.tuple #[.int .u64 0, .int .u64 n]) ∧ w = w' := by
  have h1 := maskN n (by omega)
  have h2 := mask1
  have h3 : (n : Int) / 4294967296 = 0 := by omega
  go_enter Try.func129, Try.ntmps129
  go_wp2
  go_ret2
  exact ⟨by simp [mask0, IntKind.wrap_u64], rfl⟩
theorem bits_mul (n : Nat) (hn : n ≤ 100000) (w : World) :
    Calls Try.prog 120 #[.int .u64 1, .int .u64 n] w fun e w' => e = .returned (.tuple #[.int .u64 0, .int .u64 n]) ∧ w = w' := by
  go_enter Try.func120, Try.ntmps120
  go_wp2_with (go_at_call 129; refine (bits_mul64 n hn _).mono ?_; rintro e w' ⟨rfl, rfl⟩)
  go_ret2
  exact ⟨rfl, rfl⟩
def repL (n k m : Nat) : List Value := List.replicate m (.int .u8 (k : Nat)) ++ List.replicate (n - m) (.int .u8 ((0 : Nat) : Int))
theorem rep_splice (n k m c : Nat) (h : m + c ≤ n) : splice (repL n k m) m (List.replicate c (.int .u8 (k : Nat))) = repL n k (m + c) := by
  unfold splice repL
  rw [List.take_left' (by simp), List.length_replicate, List.drop_append, List.length_replicate, List.drop_of_length_le (by simp), List.nil_append, List.drop_replicate, ← List.append_assoc, List.replicate_append_replicate]
  congr 2
  omega
theorem rep_cell {w : World} {g n k m c : Nat} {t : TypeId} (h : w.heap[g]? = some (.cells (repL n k m).toArray t (0, 0))) (hm : c ≤ m) (j : Nat) (v : Value) (hj : (List.replicate c (Value.int .u8 (k : Nat)))[j]? = some v) : w.cell? ((⟨g, 0, none⟩ : Addr).add j) = some v := by
  have hjc : j < c := by have := (List.getElem?_eq_some_iff.1 hj).1; simpa using this
  have e : (⟨g, 0, none⟩ : Addr).add j = ⟨g, j, none⟩ := by unfold Addr.add; split <;> simp_all
  rw [e]
  have : (repL n k m)[j]? = some v := by
    unfold repL
    rw [List.getElem?_append_left (by simp; omega)]
    simp only [List.getElem?_replicate] at hj ⊢
    rw [if_pos hjc] at hj
    rw [if_pos (by omega)]; exact hj
  simp [World.cell?, h, this]
theorem cutHi (g m n : Nat) (h : m < n) (w : World) : (Instr.sliceAt 22 (.slice (some ⟨g, 0, none⟩) n n) (some (.int .i64 (m : Nat))) none none).run Try.prog w = .ok (.slice (some ⟨g, m, none⟩) (n - m) (n - m)) w := by
  have hsz : (Try.prog.info? 5).map (·.size) = some 1 := by kernel_rfl
  have h3 : m ≤ n := by omega
  have h4 : ¬ n = m := by omega
  have h6 : (if m = 0 then (⟨g, 0, none⟩ : Addr) else ⟨g, m, none⟩) = ⟨g, m, none⟩ := by
    split
    · rename_i h; rw [h]
    · rfl
  cases h5 : Try.prog.info? 5 with
  | none => rw [h5] at hsz; cases hsz
  | some ie =>
    simp only [h5, Option.map_some, Option.some.injEq] at hsz
    simp [Instr.sliceAt, Instr.slice, Instr.sliceBounds, Instr.sliceBound, run_underlying Try.underlying22, asIntOf, sizeOf, typeInfo, h5, hsz, go_sem, h3, h4, h6, Addr.add]
theorem cutLo (g m n : Nat) (h : m ≤ n) (w : World) : (Instr.sliceAt 22 (.slice (some ⟨g, 0, none⟩) n n) none (some (.int .i64 (m : Nat))) none).run Try.prog w = .ok (.slice (some ⟨g, 0, none⟩) m n) w := by
  have hsz : (Try.prog.info? 5).map (·.size) = some 1 := by kernel_rfl
  cases h5 : Try.prog.info? 5 with
  | none => rw [h5] at hsz; cases hsz
  | some ie =>
    simp only [h5, Option.map_some, Option.some.injEq] at hsz
    simp [Instr.sliceAt, Instr.slice, Instr.sliceBounds, Instr.sliceBound, run_underlying Try.underlying22, asIntOf, sizeOf, typeInfo, h5, go_sem, h, Addr.add]
theorem full_row {E : TypeId} {k : IntKind} {w : World} {base g : Nat} {l : List Nat} (h : OwnN E k w base (some ⟨g, 0, none⟩) l.length l) : w.heap[g]? = some (.cells (l.map fun (n : Nat) => Value.int k n).toArray E (0, 0)) := by
  rcases h.2 with ⟨h1, h2⟩ | ⟨g', c, cur, h1, h2, h3, h4, h5, h6, h7⟩
  · cases h1
  · simp only [Value.slice.injEq, Option.some.injEq, Addr.mk.injEq, and_true, true_and] at h1
    obtain ⟨rfl, rfl⟩ := h1
    rw [List.take_of_length_le (by simp [h6])] at h7
    rw [h3, ← h7]
set_option maxRecDepth 100000 in
set_option maxHeartbeats 1600000 in
theorem slices_repeat (n k b : Nat) (h1 : 1 ≤ n) (h2 : n ≤ 1000) (w : World) (hr : w.cell? ⟨b, 0, none⟩ = some (.int .u8 (k : Nat))) (hb : b < w.heap.size) :
    Calls Try.prog 95 #[.slice (some ⟨b, 0, none⟩) 1 1, .int .i64 n] w fun e w' => ∃ g, e = .returned (.slice (some ⟨g, 0, none⟩) n n) ∧ RowN .u8 w' (some ⟨g, 0, none⟩) n (List.replicate n k) ∧ Below w.heap.size w w' := by
  go_enter Try.func95, Try.ntmps95
  go_wp2_with (first | (go_at_call 120; refine (bits_mul n (by omega) _).mono ?_; rintro e w' ⟨rfl, rfl⟩) | (at_make; refine makeN et_u8 rfl _ _ rfl w.heap.size rfl rfl (by omega) (by omega) (Nat.le_refl _) ?_; intro w1 hown hg))
  have hB1 : Below w.heap.size w w1 := Below.of_grown hg (Nat.le_refl _) (fun k e => by cases e)
  have hrow := full_row (l := List.replicate n 0) (by simpa using hown)
  have hc1 : w1.cell? ⟨b, 0, none⟩ = some (.int .u8 (k : Nat)) := (hB1.cell (p := ⟨b, 0, none⟩) hb).trans hr
  have hrow0 : w1.heap[w.heap.size]? = some (.cells (repL n k 0).toArray 5 (0, 0)) := by rw [hrow]; simp [repL]
  have hg0 : w.heap.size ≤ w.heap.size := Nat.le_refl _
  clear hown hg hrow
  have hn1 : [Value.int .u8 (k : Nat)].length = Nat.min 1 n := by show 1 = min 1 n; omega
  have hf1 : 0 + [Value.int .u8 (k : Nat)].length ≤ (repL n k 0).length := by simp [repL]; omega
  have ho1 : ∀ v ∈ [Value.int .u8 (k : Nat)], v.oneCell' = true := by intro v hv; simp at hv; subst hv; rfl
  have hs1 : ∀ j v, [Value.int .u8 (k : Nat)][j]? = some v → w1.cell? ((⟨b, 0, none⟩ : Addr).add j) = some v := by
    intro j v hj
    cases j with
    | zero => simp only [List.getElem?_cons_zero, Option.some.injEq] at hj; subst hj; exact hc1
    | succ j => simp at hj
  have HN1 := Lib.hid hn1
  have HF1 := Lib.hid hf1
  have HO1 := Lib.hid ho1
  have HS1 := Lib.hid hs1
  clear hn1 hf1 ho1 hs1
  obtain ⟨w2, hrun, hrow1, hB2⟩ : ∃ w2, (∀ ty, (Builtin.copy_ #[22, 22] ty #[.slice (some ⟨w.heap.size, 0, none⟩) n n, .slice (some ⟨b, 0, none⟩) 1 1]).run Try.prog w1 = .ok (goInt 1) w2) ∧ w2.heap[w.heap.size]? = some (.cells (repL n k 1).toArray 5 (0, 0)) ∧ Below w.heap.size w w2 := by
    refine ⟨_, fun ty => run_copy_row (P := Try.prog) w1 22 22 ty 5 w.heap.size 0 n n ⟨b, 0, none⟩ 1 1 (repL n k 0).toArray 5 [Value.int .u8 (k : Nat)] Try.underlying22 (by kernel_rfl) hrow0 HN1.out HS1.out (by simpa using HF1.out) HO1.out, ?_, below_setRow hB1 (Nat.le_refl _) _⟩
    have h := rep_splice n k 0 1 (by omega)
    have h' : splice (repL n k 0) 0 [Value.int .u8 (k : Nat)] = repL n k 1 := h
    rw [← h', setRow_heap w1 w.heap.size _ _ _ _ hrow0]
    simp [splice]
  have HRUN := Lib.hid hrun
  have HROW1 := Lib.hid hrow1
  have HB2 := Lib.hid hB2
  clear hrun hrow1 hB2
  go_wp2_with fail
  rw [HRUN.out]
  simp only [goInt]
  clear HRUN HN1 HF1 HO1 HS1
  generalize hgd : w.heap.size = g at *
  have HGD := Lib.hid hgd
  clear hgd
  clear hrow0 hc1 hB1
  go_wp2_with fail
  go_loopw [8] (fun i A => ∃ m : Nat, 1 ≤ m ∧ m ≤ n ∧ i = .int .i64 m ∧ A.heap[g]? = some (.cells (repL n k m).toArray 5 (0, 0)) ∧ Below g w A) (fun i _ => n - (intOf i).toNat)
  case atStart => exact ⟨1, by omega, h1, rfl, HROW1.out, HB2.out⟩
  case round =>
    clear HROW1 HB2
    obtain ⟨m, hm1, hmn', rfl, hcur, hbel⟩ := hrel
    by_cases hlt : m < n
    · obtain ⟨c, hc⟩ : ∃ c, min m (n - m) = c := ⟨_, rfl⟩
      have hmn : m + c ≤ n := by rw [← hc]; omega
      have hcm : c ≤ m := by rw [← hc]; omega
      have hc0 : 1 ≤ c := by rw [← hc]; omega
      have HCUR := Lib.hid hcur
      have HBEL := Lib.hid hbel
      have hw1 : IntKind.i64.wrap ((m : Int) + (c : Int)) = (m : Int) + (c : Int) := IntWalk.i64_in _ (by omega)
      clear hcur hbel
      go_wp2_with fail
      have hcur := HCUR.out
      have hbel := HBEL.out
      refine wp_region_flowM [38, 39, 40, 41, 42, 43, 44, 45, 46, 8] (fun j => j == 9) (fun listed w1 => w1.heap[g]? = some (.cells (if listed.getD 7 false = true then repL n k (m + c) else repL n k m).toArray 5 (0, 0)) ∧ Below g w w1) (fun j v _ => match j with | 0 => v = .int .i64 (m : Nat) | 1 => v = .slice (some ⟨g, 0, none⟩) n n | 2 => v = .int .i64 (m : Nat) | 3 => v = .slice (some ⟨g, m, none⟩) (n - m) (n - m) | 4 => v = .slice (some ⟨g, 0, none⟩) n n | 5 => v = .int .i64 (m : Nat) | 6 => v = .slice (some ⟨g, 0, none⟩) m n | 7 => v = .int .i64 (c : Nat) | 8 => v = .int .i64 ((m + c : Nat) : Int) | 9 => v = .int .i64 ((m + c : Nat) : Int) | _ => True) (fun _ _ _ _ => True) (by kernel_rfl) (by kernel_rfl) (OneEach.mk' (by kernel_rfl) (by kernel_rfl)) (by kernel_rfl) (by kernel_rfl) ⟨by simpa using hcur, belDN hbel 1⟩ ?_ ?_
      · intro i0 o hi0 listed a1 w1 hR hil hunf hdes hanc hout hold hdep
        have hsz : i0 < 10 := (Array.getElem?_eq_some_iff.1 hi0).1
        have hall : i0 = 0 ∨ i0 = 1 ∨ i0 = 2 ∨ i0 = 3 ∨ i0 = 4 ∨ i0 = 5 ∨ i0 = 6 ∨ i0 = 7 ∨ i0 = 8 ∨ i0 = 9 := by omega
        clear hsz
        rcases hall with rfl | rfl | rfl | rfl | rfl | rfl | rfl | rfl | rfl | rfl <;> simp only [List.getElem?_toArray, List.getElem?_cons_zero, List.getElem?_cons_succ, Option.some.injEq] at hi0 <;> subst hi0
        · have f8 : a1.eval (.tmp 8) = .int .i64 (m : Nat) := hold 9 _ 8 rfl rfl (hdes 9 (by kernel_rfl))
          refine stepTo_val (v := .int .i64 (m : Nat)) (w' := w1) (by simp [execOp, f8]) ⟨_, rfl, ⟨?_, hR.2⟩, fun j u hu hV _ => ⟨hV, trivial, trivial⟩, rfl⟩
          rw [getD_set_ne2 (by decide)]; exact hR.1
        · have f7 : a1.eval (.tmp 7) = .slice (some ⟨g, 0, none⟩) n n := hout 7 (by decide)
          refine stepTo_val (v := .slice (some ⟨g, 0, none⟩) n n) (w' := w1) (by simp [execOp, f7]) ⟨_, rfl, ⟨?_, hR.2⟩, fun j u hu hV _ => ⟨hV, trivial, trivial⟩, rfl⟩
          rw [getD_set_ne2 (by decide)]; exact hR.1
        · have f8 : a1.eval (.tmp 8) = .int .i64 (m : Nat) := hold 9 _ 8 rfl rfl (hdes 9 (by kernel_rfl))
          refine stepTo_val (v := .int .i64 (m : Nat)) (w' := w1) (by simp [execOp, f8]) ⟨_, rfl, ⟨?_, hR.2⟩, fun j u hu hV _ => ⟨hV, trivial, trivial⟩, rfl⟩
          rw [getD_set_ne2 (by decide)]; exact hR.1
        · have e39 : a1.eval (.tmp 39) = .slice (some ⟨g, 0, none⟩) n n := hdep ⟨1, .data⟩ (by simp) rfl _ rfl
          have e40 : a1.eval (.tmp 40) = .int .i64 (m : Nat) := hdep ⟨2, .data⟩ (by simp) rfl _ rfl
          refine stepTo_val (v := .slice (some ⟨g, m, none⟩) (n - m) (n - m)) (w' := w1) (by simp [execOp, e39, e40, cutHi g m n hlt]) ⟨_, rfl, ⟨?_, hR.2⟩, fun j u hu hV _ => ⟨hV, trivial, trivial⟩, rfl⟩
          rw [getD_set_ne2 (by decide)]; exact hR.1
        · have f7 : a1.eval (.tmp 7) = .slice (some ⟨g, 0, none⟩) n n := hout 7 (by decide)
          refine stepTo_val (v := .slice (some ⟨g, 0, none⟩) n n) (w' := w1) (by simp [execOp, f7]) ⟨_, rfl, ⟨?_, hR.2⟩, fun j u hu hV _ => ⟨hV, trivial, trivial⟩, rfl⟩
          rw [getD_set_ne2 (by decide)]; exact hR.1
        · have f8 : a1.eval (.tmp 8) = .int .i64 (m : Nat) := hold 9 _ 8 rfl rfl (hdes 9 (by kernel_rfl))
          refine stepTo_val (v := .int .i64 (m : Nat)) (w' := w1) (by simp [execOp, f8]) ⟨_, rfl, ⟨?_, hR.2⟩, fun j u hu hV _ => ⟨hV, trivial, trivial⟩, rfl⟩
          rw [getD_set_ne2 (by decide)]; exact hR.1
        · have e42 : a1.eval (.tmp 42) = .slice (some ⟨g, 0, none⟩) n n := hdep ⟨4, .data⟩ (by simp) rfl _ rfl
          have e43 : a1.eval (.tmp 43) = .int .i64 (m : Nat) := hdep ⟨5, .data⟩ (by simp) rfl _ rfl
          refine stepTo_val (v := .slice (some ⟨g, 0, none⟩) m n) (w' := w1) (by simp [execOp, e42, e43, cutLo g m n (Nat.le_of_lt hlt)]) ⟨_, rfl, ⟨?_, hR.2⟩, fun j u hu hV _ => ⟨hV, trivial, trivial⟩, rfl⟩
          rw [getD_set_ne2 (by decide)]; exact hR.1
        · have e41 : a1.eval (.tmp 41) = .slice (some ⟨g, m, none⟩) (n - m) (n - m) := hdep ⟨3, .data⟩ (by simp) rfl _ rfl
          have e44 : a1.eval (.tmp 44) = .slice (some ⟨g, 0, none⟩) m n := hdep ⟨6, .data⟩ (by simp) rfl _ rfl
          rw [hunf] at hR
          simp only [Bool.false_eq_true, if_false] at hR
          refine step_of_list (ops := #[]) rfl (wpList_copy_splice rfl (.tmp 41) (.tmp 44) 22 22 rfl 5 Try.underlying22 (by kernel_rfl) _ _ (n - m) (n - m) m n e41 e44 g m (repL n k m) 5 hR.1 (List.replicate c (.int .u8 (k : Nat))) (by rw [List.length_replicate]; exact hc.symm) (fun _ => ⟨rfl, _, rfl, fun j v hj => rep_cell hR.1 hcm j v hj⟩) (by simp [repL]; omega) (by intro v hv; rw [(List.mem_replicate.1 hv).2]; rfl) g w hR.2 (Nat.le_refl _) ?_)
          intro w4 hg4 hb4
          refine ⟨_, rfl, ⟨?_, hb4⟩, fun j u hu hV _ => ⟨hV, trivial, trivial⟩, by simp [goInt]⟩
          rw [if_pos (set_getD_same hil)]
          rw [rep_splice n k m c hmn] at hg4
          exact hg4
        · have e38 : a1.eval (.tmp 38) = .int .i64 (m : Nat) := hdep ⟨0, .data⟩ (by simp) rfl _ rfl
          have e45 : a1.eval (.tmp 45) = .int .i64 (c : Nat) := hdep ⟨7, .data⟩ (by simp) rfl _ rfl
          refine stepTo_val (v := .int .i64 ((m + c : Nat) : Int)) (w' := w1) (by simp [execOp, e38, e45, eqgA, addI, hw1]) ⟨_, rfl, ⟨?_, hR.2⟩, fun j u hu hV _ => ⟨hV, trivial, trivial⟩, rfl⟩
          rw [getD_set_ne2 (by decide)]; exact hR.1
        · have e46 : a1.eval (.tmp 46) = .int .i64 ((m + c : Nat) : Int) := hdep ⟨8, .data⟩ (by simp) rfl _ rfl
          refine stepTo_val (v := .int .i64 ((m + c : Nat) : Int)) (w' := w1) (by simp [execOp, e46]) ⟨_, rfl, ⟨?_, hR.2⟩, fun j u hu hV _ => ⟨hV, trivial, trivial⟩, rfl⟩
          rw [getD_set_ne2 (by decide)]; exact hR.1
      · intro listed f w1 hR hall hV
        have v9 : f 8 = .int .i64 ((m + c : Nat) : Int) := hV 9 _ rfl rfl
        rw [if_pos (hall 7 (by decide))] at hR
        simp only [spread, List.contains_cons, List.contains_nil, Nat.reduceBEq, Bool.or_false, Bool.or_true, cond_true, cond_false, Nat.reduceAdd, Nat.zero_add, v9]
        go_wp2
        go_roundw
        case rel => exact ⟨m + c, by omega, hmn, rfl, hR.1, hR.2⟩
        case measure => simp [intOf]; omega
    · obtain rfl : m = n := by omega
      have HB := Lib.hid hbel
      have HC := Lib.hid hcur
      clear hcur hbel
      go_wp2
      go_ret
      refine ⟨g, rfl, ?_, by rw [HGD.out]; exact HB.out⟩
      refine ⟨by simp, ⟨by omega, fun h => by cases h⟩, .inr ⟨g, 0, rfl, (Array.getElem?_eq_some_iff.1 HC.out).1, fun i hi => ?_⟩⟩
      have hi' : i < m := by simpa using hi
      simp [World.cell?, HC.out, repL, hi']
theorem run_grow0 (n : Nat) (h1 : 1 ≤ n) (h2 : n ≤ 100000) (w : World) (ty : TypeId) :
    ∃ c w', n ≤ c ∧ c ≤ 9223372036854775807 ∧ (Builtin.append_ #[22, 3] ty #[.slice none 0 0, .int .i64 (n : Nat)]).run Try.prog w = .ok (.slice (some ⟨w.heap.size, 0, none⟩) n c) w' ∧ OwnN 5 .u8 w' w.heap.size (some ⟨w.heap.size, 0, none⟩) c [] ∧ Below w.heap.size w w' := by
  have hT : (Try.prog.info? 5).map (fun i => (i.zero, i.size, i.bytes)) = some (some (.int .u8 0), 1, 1) := by kernel_rfl
  obtain ⟨i, hi, hz, hsz, hby⟩ : ∃ i, Try.prog.info? 5 = some i ∧ i.zero = some (.int .u8 0) ∧ i.size = 1 ∧ i.bytes = 1 := by
    cases h5 : Try.prog.info? 5 with
    | none => rw [h5] at hT; cases hT
    | some ie => rw [h5] at hT; simp only [Option.map_some, Option.some.injEq, Prod.mk.injEq] at hT; exact ⟨ie, rfl, hT.1, hT.2.1, hT.2.2⟩
  have h := Lib.run_append_grow_zeros (P := Try.prog) w 22 3 ty 5 i (.int .u8 0) .i64 .i64 Try.underlying22 Try.underlying3 hi hz none 0 0 [] (by rw [hsz]; exact run_firstCells_none w.drew 1 0 0 0) n (by omega) (by omega) (by omega) (by omega) (by rw [hby]; omega) (by rw [Nat.zero_add]; exact growslice_fits (by omega) (by rw [hby]; omega))
  simp only [Nat.zero_add] at h
  have hge := grownCap_ge w n 0 5
  have hle := grownCap_le_maxLen w n 0 5 (by unfold maxLen; omega)
  generalize grownCap w n 0 5 = G at *
  refine ⟨G, _, hge, by simpa [maxLen] using hle, h, ?_, ?_⟩
  · refine ⟨rfl, .inr ⟨w.heap.size, G, _, rfl, Nat.le_refl _, World.alloc_heap_new w.drew _, Nat.zero_le _, hle, ?_, rfl⟩⟩
    simp [size_zeroCells, Value.cells]; omega
  · exact (belDN (Below.refl _ w) 1).alloc (Nat.le_refl _) _
theorem wpList_grow0 {ops : Array Oper} {rest : List Oper} {o : Oper} {ac : Act} {w : World} {Q : Exit → Act → World → Prop} (hgd : o.guard = none) (s x : Operand)
    (ho : o.op = .call { callee := .builtin .append, args := #[s, x], argTypes := #[22, 3] }) (hs : ac.eval s = .slice none 0 0) {n : Nat} (hx : ac.eval x = .int .i64 (n : Nat)) (h1 : 1 ≤ n) (h2 : n ≤ 100000)
    (h : ∀ c w', n ≤ c → c ≤ 9223372036854775807 → OwnN 5 .u8 w' w.heap.size (some ⟨w.heap.size, 0, none⟩) c [] → Below w.heap.size w w' → wpList Try.prog ops Q rest (ac.put o.dst (.slice (some ⟨w.heap.size, 0, none⟩) n c)) w') : wpList Try.prog ops Q (o :: rest) ac w := by
  refine wpList_plain hgd fun K hK => ?_
  obtain ⟨c, w', hc1, hc2, hrun, hown, hb⟩ := run_grow0 n h1 h2 w o.type
  unfold Oper.wp
  simp [execOp, ho, resolve, invoke, builtin, hs, hx, hrun, Result.andThen]
  exact hK _ _ (h c w' hc1 hc2 hown hb)
set_option maxRecDepth 100000 in
set_option maxHeartbeats 1600000 in
theorem slices_grow (n : Nat) (h1 : 1 ≤ n) (h2 : n ≤ 100000) (w : World) :
    Calls Try.prog 109 #[.slice none 0 0, .int .i64 n] w fun e w' => ∃ c, e = .returned (.slice (some ⟨w.heap.size, 0, none⟩) 0 c) ∧ OwnN 5 .u8 w' w.heap.size (some ⟨w.heap.size, 0, none⟩) c [] ∧ Below w.heap.size w w' := by
  go_enter Try.func109, Try.ntmps109
  go_wp2_with (at_builtin; refine wpList_grow0 rfl (.tmp 20) (.tmp 21) rfl rfl rfl h1 h2 ?_; intro c w1 hc1 hc2 hown hbel)
  go_ret
  exact ⟨c, rfl, hown, hbel⟩
def encSl : Enc (Option Addr × Nat × List Nat) where
  sz := 1
  cells x := [.slice x.1 x.2.2.length x.2.1]
  len _ := rfl
  one x u hu := by
    simp only [List.mem_cons, List.not_mem_nil, or_false] at hu
    subst hu; rfl
  pos := by decide
theorem flat_len_take (es : List (Option Addr × Nat × List Nat)) (k : Nat) (hk : k < es.length) : ((es.take (k + 1)).flatMap fun x => x.2.2) = ((es.take k).flatMap fun x => x.2.2) ++ es[k].2.2 := by
  rw [List.take_succ_eq_append_getElem hk, List.flatMap_append]; simp
theorem flat_len_le (es : List (Option Addr × Nat × List Nat)) (k : Nat) : ((es.take k).flatMap fun x => x.2.2).length ≤ (es.flatMap fun x => x.2.2).length := by
  have : es.flatMap (fun x => x.2.2) = (es.take k).flatMap (fun x => x.2.2) ++ (es.drop k).flatMap (fun x => x.2.2) := by rw [← List.flatMap_append, List.take_append_drop]
  rw [this, List.length_append]; omega
set_option maxRecDepth 100000 in
set_option maxHeartbeats 1600000 in
theorem slices_concat (a : Option Addr) (cap : Nat) (es : List (Option Addr × Nat × List Nat)) (w : World) (hr : RowS encSl w a cap es) (hrows : ∀ x ∈ es, RowN .u8 w x.1 x.2.1 x.2.2) (h1 : 1 ≤ (es.flatMap fun x => x.2.2).length) (h2 : (es.flatMap fun x => x.2.2).length ≤ 1000) (hes : es.length ≤ 100) :
    Calls Try.prog 73 #[.slice a es.length cap] w fun e w' => ∃ a' c', e = .returned (.slice a' (es.flatMap fun x => x.2.2).length c') ∧ RowN .u8 w' a' c' (es.flatMap fun x => x.2.2) ∧ Below w.heap.size w w' := by
  have HR := Lib.hid hrows
  clear hrows
  go_enter Try.func73, Try.ntmps73
  go_wp2
  go_loop [3, 5, 11] (fun s _ i => ∃ k : Nat, k ≤ es.length ∧ i = .int .i64 k ∧ s = .int .i64 ((es.take k).flatMap fun x => x.2.2).length) (fun _ _ i => es.length - (intOf i).toNat)
  case atStart => exact ⟨0, by omega, rfl, by simp⟩
  case round =>
    obtain ⟨k, hk, rfl, rfl⟩ := hrel
    by_cases hlt : k < es.length
    · obtain ⟨b, off, rfl, hb, hcl⟩ := hr.at hlt
      have c0 := hcl 0 _ rfl
      have hnx := congrArg List.length (flat_len_take es k hlt)
      have hle := flat_len_le es (k + 1)
      rw [List.length_append] at hnx
      clear hcl
      simp only [encSl, Nat.add_zero, Nat.mul_one] at c0
      generalize es[k] = x at *
      obtain ⟨xa, xc, xl⟩ := x
      simp only at hnx c0
      have HN := Lib.hid hnx
      generalize ((es.take k).flatMap fun x => x.2.2).length = m at *
      have hm : m + xl.length ≤ 1000 := by omega
      clear hnx hle
      go_wp2
      go_round
      case rel => exact ⟨k + 1, by omega, by go_num, by rw [HN.out]; go_num⟩
      case measure => simp [intOf]; omega
    · obtain rfl : k = es.length := by omega
      rw [List.take_length]
      obtain ⟨m, hm⟩ : ∃ m, (es.flatMap fun x => x.2.2).length = m := ⟨_, rfl⟩
      rw [hm] at h1 h2
      rw [hm]
      have HM := Lib.hid hm
      clear hm
      go_wp2_with (go_at_call 109; refine (slices_grow m h1 (by omega) _).mono ?_; rintro e w1 ⟨c, rfl, hown, hbel⟩)
      have HO := Lib.hid hown
      have HB := Lib.hid hbel
      clear hown hbel
      go_loopw [6, 8, 27] (fun s _ i A => ∃ k : Nat, k ≤ es.length ∧ i = .int .i64 k ∧ ∃ b c, s = .slice b ((es.take k).flatMap fun x => x.2.2).length c ∧ OwnN 5 .u8 A w.heap.size b c ((es.take k).flatMap fun x => x.2.2) ∧ Below w.heap.size w A) (fun _ _ i _ => es.length - (intOf i).toNat)
      case atStart => exact ⟨0, by omega, rfl, _, _, rfl, by simpa using HO.out, HB.out⟩
      case round =>
        clear HO HB
        obtain ⟨k, hk, rfl, b0, cb, rfl, hown, hbel⟩ := hrel
        by_cases hlt : k < es.length
        · have hrA := hr.below hbel
          obtain ⟨b, off, rfl, hb, hcl⟩ := hrA.at hlt
          have c0 := hcl 0 _ rfl
          have hx := (HR.out _ (List.getElem_mem hlt)).below hbel
          have hnx := flat_len_take es k hlt
          have hle := flat_len_le es (k + 1)
          rw [HM.out, hnx, List.length_append] at hle
          clear hcl hrA
          simp only [encSl, Nat.add_zero, Nat.mul_one] at c0
          generalize es[k] = x at *
          obtain ⟨xa, xc, xl⟩ := x
          simp only at hnx c0 hx hle
          have HN := Lib.hid hnx
          have HBEL := Lib.hid hbel
          have HW := Lib.hid hbel.size
          clear hnx hbel
          generalize ((es.take k).flatMap fun x => x.2.2) = L at *
          go_wp2_with (at_builtin; refine appAnyN et_u8 rfl (.tmp 31) (.tmp 32) rfl rfl hown rfl rfl hx (by omega) (by omega) HW.out ?_; intro a3 cap3 w3 hown3 hg3 hb3)
          have HO3 := Lib.hid hown3
          have HB3 := Lib.hid (HBEL.out.trans hb3)
          clear hown3 hg3 hb3 hown
          go_wp2
          go_roundw
          case rel => exact ⟨k + 1, by omega, by go_num, a3, cap3, by rw [HN.out, List.length_append], by rw [HN.out]; exact HO3.out, HB3.out⟩
          case measure => simp [intOf]; omega
        · obtain rfl : k = es.length := by omega
          rw [List.take_length] at hown ⊢
          have HO := Lib.hid hown
          have HB := Lib.hid hbel
          clear hown hbel
          go_wp2
          go_ret
          exact ⟨_, _, by rw [HM.out]; rfl, HO.out.row, HB.out⟩
def fixF : List Nat := List.replicate 144 8 ++ (List.replicate 112 9 ++ (List.replicate 24 7 ++ List.replicate 8 8))
def fixO : List Nat := List.replicate 30 5
theorem fixed_many (n k : Nat) (h1 : 1 ≤ n) (h2 : n ≤ 1000) (w : World) :
    Calls Try.prog 105 #[.int .i64 n, .int .u8 k] w fun e w' => ∃ g, e = .returned (.slice (some ⟨g, 0, none⟩) n n) ∧ RowN .u8 w' (some ⟨g, 0, none⟩) n (List.replicate n k) ∧ Below w.heap.size w w' := by
  go_enter Try.func105, Try.ntmps105
  go_wp2_with fail
  refine (slices_repeat n k _ h1 h2 _ ?h1 ?h2).mono ?_
  case h1 => exact cell_of_one (World.alloc_heap_new _ _)
  case h2 => simp
  rintro e w1 ⟨g, rfl, hr, hb⟩
  have HR := Lib.hid hr
  have HB := Lib.hid hb
  clear hr hb
  go_wp2
  go_ret
  exact ⟨g, rfl, HR.out, (box_below' _ _).trans (HB.out.mono (by simp))⟩
def four4 (g1 g2 g3 g4 : Nat) : List (Option Addr × Nat × List Nat) := [(some ⟨g1, 0, none⟩, 144, List.replicate 144 8), (some ⟨g2, 0, none⟩, 112, List.replicate 112 9), (some ⟨g3, 0, none⟩, 24, List.replicate 24 7), (some ⟨g4, 0, none⟩, 8, List.replicate 8 8)]
theorem four4_flat (g1 g2 g3 g4 : Nat) : ((four4 g1 g2 g3 g4).flatMap fun x => x.2.2) = fixF := by simp [four4, fixF]
theorem four4_cells (g1 g2 g3 g4 : Nat) : (flat encSl (four4 g1 g2 g3 g4)).toArray = #[.slice (some ⟨g1, 0, none⟩) 144 144, .slice (some ⟨g2, 0, none⟩) 112 112, .slice (some ⟨g3, 0, none⟩) 24 24, .slice (some ⟨g4, 0, none⟩) 8 8] := by
  simp [four4, flat, encSl]
theorem fixF_len : fixF.length = 288 := by unfold fixF; simp only [List.length_append, List.length_replicate, Nat.reduceAdd]
theorem concat4 (g1 g2 g3 g4 : Nat) (w : World) (r1 : RowN .u8 w (some ⟨g1, 0, none⟩) 144 (List.replicate 144 8)) (r2 : RowN .u8 w (some ⟨g2, 0, none⟩) 112 (List.replicate 112 9)) (r3 : RowN .u8 w (some ⟨g3, 0, none⟩) 24 (List.replicate 24 7)) (r4 : RowN .u8 w (some ⟨g4, 0, none⟩) 8 (List.replicate 8 8)) :
    Calls Try.prog 73 #[.slice (some ⟨w.heap.size, 0, none⟩) 4 4] (w.alloc (.cells #[.slice (some ⟨g1, 0, none⟩) 144 144, .slice (some ⟨g2, 0, none⟩) 112 112, .slice (some ⟨g3, 0, none⟩) 24 24, .slice (some ⟨g4, 0, none⟩) 8 8] 22)) fun e w' =>
      ∃ a c, e = .returned (.slice a 288 c) ∧ RowN .u8 w' a c fixF ∧ Below w.heap.size w w' := by
  have hb := box_below' w (.cells #[.slice (some ⟨g1, 0, none⟩) 144 144, .slice (some ⟨g2, 0, none⟩) 112 112, .slice (some ⟨g3, 0, none⟩) 24 24, .slice (some ⟨g4, 0, none⟩) 8 8] 22)
  have hR := RowS.lit encSl w (four4 g1 g2 g3 g4) 22 _ _ rfl (four4_cells g1 g2 g3 g4).symm (by simp [four4])
  have h := slices_concat (some ⟨w.heap.size, 0, none⟩) 4 (four4 g1 g2 g3 g4) _ hR ?_ (by rw [four4_flat, fixF_len]; decide) (by rw [four4_flat, fixF_len]; decide) (by simp [four4])
  · rw [four4_flat, fixF_len] at h
    refine h.mono ?_
    rintro e w' ⟨a, c, rfl, hr, hb2⟩
    exact ⟨a, c, rfl, hr, hb.trans (hb2.mono (by simp))⟩
  · intro x hx
    simp only [four4, List.mem_cons, List.not_mem_nil, or_false] at hx
    rcases hx with rfl | rfl | rfl | rfl
    · exact r1.below hb
    · exact r2.below hb
    · exact r3.below hb
    · exact r4.below hb
set_option maxRecDepth 100000 in
set_option maxHeartbeats 1600000 in
theorem cost_fixed (w : World) :
    Calls Try.prog 68 #[] w fun e w' => ∃ a1 c1 a2 c2, e = .returned (.tuple #[.slice a1 288 c1, .slice a2 30 c2]) ∧ RowN .u8 w' a1 c1 fixF ∧ RowN .u8 w' a2 c2 fixO ∧ Below w.heap.size w w' := by
  go_enter Try.func68, Try.ntmps68
  go_wp2_with fail
  refine (fixed_many 144 8 (by decide) (by decide) _).mono ?_
  rintro e w1 ⟨g1, rfl, r1, b1⟩
  go_wp2_with fail
  refine (fixed_many 112 9 (by decide) (by decide) _).mono ?_
  rintro e w2 ⟨g2, rfl, r2, b2⟩
  go_wp2_with fail
  refine (fixed_many 24 7 (by decide) (by decide) _).mono ?_
  rintro e w3 ⟨g3, rfl, r3, b3⟩
  go_wp2_with fail
  refine (fixed_many 8 8 (by decide) (by decide) _).mono ?_
  rintro e w4 ⟨g4, rfl, r4, b4⟩
  have R1 := ((r1.below b2).below b3).below b4
  have R2 := (r2.below b3).below b4
  have R3 := r3.below b4
  have B := ((b1.trans (b2.mono b1.size)).trans (b3.mono (b1.trans (b2.mono b1.size)).size)).trans (b4.mono ((b1.trans (b2.mono b1.size)).trans (b3.mono (b1.trans (b2.mono b1.size)).size)).size)
  have HR1 := Lib.hid R1
  have HR2 := Lib.hid R2
  have HR3 := Lib.hid R3
  have HR4 := Lib.hid r4
  have HB := Lib.hid B
  clear r1 r2 r3 r4 b1 b2 b3 b4 R1 R2 R3 B
  go_wp2_with fail
  refine (concat4 g1 g2 g3 g4 w4 HR1.out HR2.out HR3.out HR4.out).mono ?_
  rintro e w5 ⟨a5, c5, rfl, r5, b5⟩
  have HR5 := Lib.hid r5
  have HB5 := Lib.hid (HB.out.trans (b5.mono HB.out.size))
  clear r5 b5 HR1 HR2 HR3 HR4 HB
  go_wp2_with fail
  refine (fixed_many 30 5 (by decide) (by decide) _).mono ?_
  rintro e w6 ⟨g6, rfl, r6, b6⟩
  have HR6 := Lib.hid r6
  have HR7 := Lib.hid (HR5.out.below b6)
  have HB6 := Lib.hid (HB5.out.trans (b6.mono HB5.out.size))
  clear r6 b6 HR5 HB5
  go_wp2
  go_ret2
  exact ⟨a5, c5, _, 30, rfl, HR7.out, HR6.out, HB6.out⟩
end Go.Proofs.Ytmgoeokdlklabaa

namespace Go.Proofs.Ytmgoeokdlklabaa
open Go.RowKit Go.Shelf M07
set_option linter.unusedVariables false
def encSg : Enc Sg := ⟨2, fun s => [.int .u8 (s.1 : Nat), .int .u8 (s.2 : Nat)], fun _ => rfl, fun _ u hu => by simp at hu; rcases hu with rfl | rfl <;> rfl, by decide⟩
theorem sg_elems : ElemS Try.prog 71 78 encSg (.agg #[.int .u8 0, .int .u8 0]) 2 := ⟨Try.underlying71, by kernel_rfl, by kernel_rfl⟩
def sgV (s : Sg) : Value := .agg #[.int .u8 (s.1 : Nat), .int .u8 (s.2 : Nat)]
set_option maxRecDepth 100000 in
theorem repeat_bits (c : Nat) (w : World) : Calls Try.prog 41 #[.int .u8 (c : Nat)] w fun e w' => e = .returned (.int .i64 (rbits c : Nat)) ∧ w' = w := by
  by_cases h1 : c = 16
  · subst h1
    go_enter Try.func41, Try.ntmps41
    go_wp2
    go_ret
    exact ⟨rfl, rfl⟩
  by_cases h2 : c = 17
  · subst h2
    go_enter Try.func41, Try.ntmps41
    go_wp2
    go_ret
    exact ⟨rfl, rfl⟩
  by_cases h3 : c = 18
  · subst h3
    go_enter Try.func41, Try.ntmps41
    go_wp2
    go_ret
    exact ⟨rfl, rfl⟩
  have hr : Hid (rbits c = 0) := by unfold Hid rbits; rw [if_neg h1, if_neg h2, if_neg h3]
  have t1 : ((c : Int) == 16) = false := by simp; omega
  have t2 : ((c : Int) == 17) = false := by simp; omega
  have t3 : ((c : Int) == 18) = false := by simp; omega
  clear h1 h2 h3
  go_enter Try.func41, Try.ntmps41
  go_wp2
  go_ret
  exact ⟨by rw [hr.out]; rfl, rfl⟩
set_option maxRecDepth 100000 in
theorem repeat_times (s : Sg) (hs : SgOk s) (w : World) : Calls Try.prog 94 #[sgV s] w fun e w' => e = .returned (.int .i64 (times s : Nat)) ∧ Below w.heap.size w w' := by
  have hx := hs.lt
  obtain ⟨c, x⟩ := s
  unfold sgV
  have HB := Lib.hid (box_b w (.cells #[.int .u8 (c : Nat), .int .u8 (x : Nat)] 78))
  simp only at hx
  by_cases h1 : c < 16
  · have hr : Hid (times (c, x) = 1) := by unfold Hid times; rw [if_pos h1]
    have t1 : decide ((c : Int) < 16) = true := by simp; omega
    clear h1
    go_enter Try.func94, Try.ntmps94
    go_wp2
    go_ret
    exact ⟨by rw [hr.out]; rfl, HB.out⟩
  by_cases h2 : c < 18
  · have hr : Hid (Ending.returned (.int .i64 (3 + (x : Int))) = Ending.returned (.int .i64 (times (c, x) : Nat))) := by unfold Hid times; rw [if_neg h1, if_pos h2]; rfl
    have t1 : decide ((c : Int) < 16) = false := by simp; omega
    have t2 : decide ((c : Int) < 18) = true := by simp; omega
    clear h1 h2
    go_enter Try.func94, Try.ntmps94
    go_wp2
    go_ret
    exact ⟨hr.out, HB.out⟩
  have hr : Hid (Ending.returned (.int .i64 (11 + (x : Int))) = Ending.returned (.int .i64 (times (c, x) : Nat))) := by unfold Hid times; rw [if_neg h1, if_neg h2]; rfl
  have t1 : decide ((c : Int) < 16) = false := by simp; omega
  have t2 : decide ((c : Int) < 18) = false := by simp; omega
  clear h1 h2
  go_enter Try.func94, Try.ntmps94
  go_wp2
  go_ret
  exact ⟨hr.out, HB.out⟩
end Go.Proofs.Ytmgoeokdlklabaa

namespace Go.Proofs.Ytmgoeokdlklabaa
open Go.RowKit Go.Shelf M04
set_option linter.unusedVariables false
def long (l : List Nat) : Bool := l.any (fun x => decide (15 < x))
def mayH (f o : List Nat) : Bool :=
  decide (257 ≤ f.length) && decide (f.length ≤ 286) && decide (1 ≤ o.length) && decide (o.length ≤ 30) && decide (f.getD 256 0 ≠ 0) && !(long f) && !(long o) &&
    (decide ((clsE f).1 = 2) || singleB f) && (decide ((clsE o).1 = 2) || decide ((clsE o).1 = 0) || singleB o)
theorem may_long (n : Nat) (w : World) : Calls Try.prog 69 #[.int .u8 (n : Nat)] w fun e w' => e = .returned (.bool (decide (15 < n))) ∧ w' = w := by
  go_enter Try.func69, Try.ntmps69
  go_wp2
  go_ret
  exact ⟨congrArg (fun b => Ending.returned (.bool b)) (decide_eq_decide.2 (by omega)), rfl⟩
def IdxOut (l : List Nat) (e : Ending) : Prop := if long l then ∃ k : Nat, e = .returned (.int .i64 k) else e = .returned (.int .i64 (-1))
theorem u8_index (a : Option Addr) (cap : Nat) (l : List Nat) (w : World) (hr : RowN .u8 w a cap l) :
    Calls Try.prog 106 #[.slice a l.length cap, .func (Fn.func 69) #[] #[]] w fun e w' => IdxOut l e ∧ w' = w := by
  have hlen := hr.len
  go_enter Try.func106, Try.ntmps106
  go_wp2_with fail
  go_loop [5, 8] (fun _ i => ∃ k : Nat, k ≤ l.length ∧ i = .int .i64 k ∧ ∀ x ∈ l.take k, x ≤ 15) (fun _ i => l.length - (intOf i).toNat)
  case atStart => exact ⟨0, by omega, rfl, by simp⟩
  case round =>
    obtain ⟨k, hk, rfl, hall⟩ := hrel
    have HA := Lib.hid hall
    clear hall
    by_cases hlt : k < l.length
    · obtain ⟨b, off, rfl, hb, hck⟩ := hr.at hlt
      clear hr
      have HM := Lib.hid (List.getElem_mem hlt)
      have HT := Lib.hid (take_snoc l k hlt)
      generalize l[k] = x at *
      by_cases hx : 15 < x
      · have hd : decide (15 < x) = true := by simpa using hx
        have HL : Hid (long l = true) := by
          unfold Hid long
          rw [List.any_eq_true]
          exact ⟨x, HM.out, hd⟩
        go_wp2_with (go_at_call 69; refine (may_long x _).mono ?_; rintro e w' ⟨rfl, rfl⟩; rw [hd])
        go_ret
        exact ⟨by unfold IdxOut; rw [if_pos HL.out]; exact ⟨k, rfl⟩, rfl⟩
      · have hd : decide (15 < x) = false := by simpa using hx
        go_wp2_with (go_at_call 69; refine (may_long x _).mono ?_; rintro e w' ⟨rfl, rfl⟩; rw [hd])
        go_round
        case rel => exact ⟨k + 1, by omega, by go_num, by rw [HT.out]; intro y hy; rcases List.mem_append.1 hy with h | h; exact HA.out y h; simp at h; omega⟩
        case measure => simp [intOf]; omega
    · have h2 : l.take k = l := List.take_of_length_le (by omega)
      rw [h2] at HA
      have HL : Hid (long l = false) := by
        unfold Hid long
        rw [List.any_eq_false]
        intro x hx
        have := HA.out x hx
        simpa using this
      go_wp2
      go_ret
      exact ⟨by unfold IdxOut; rw [if_neg (by rw [HL.out]; decide)]; rfl, rfl⟩
theorem u8_contains (a : Option Addr) (cap : Nat) (l : List Nat) (w : World) (hr : RowN .u8 w a cap l) :
    Calls Try.prog 70 #[.slice a l.length cap, .func (Fn.func 69) #[] #[]] w fun e w' => e = .returned (.bool (long l)) ∧ w' = w := by
  have HC := Lib.hid (u8_index a cap l w hr)
  clear hr
  go_enter Try.func70, Try.ntmps70
  go_wp2_with fail
  refine HC.out.mono ?_
  by_cases hl : long l = true
  · have HL := Lib.hid hl
    rintro e w1 ⟨h, rfl⟩
    unfold IdxOut at h
    rw [if_pos hl] at h
    obtain ⟨k, rfl⟩ := h
    have t1 : decide ((0 : Int) ≤ (k : Int)) = true := by simp
    clear hl HC
    go_wp2
    go_ret
    exact ⟨by rw [HL.out]; rfl, rfl⟩
  · have HL := Lib.hid (show long l = false by simpa using hl)
    rintro e w1 ⟨h, rfl⟩
    unfold IdxOut at h
    rw [if_neg hl] at h
    subst h
    clear hl HC
    go_wp2
    go_ret
    exact ⟨by rw [HL.out]; rfl, rfl⟩
theorem hdr_order (w : World) : Calls Try.prog 38 #[] w fun e w' => e = .returned (.slice (some ⟨w.heap.size, 0, none⟩) 19 19) ∧ w' = w.alloc (.cells #[.int .u8 16, .int .u8 17, .int .u8 18, .int .u8 0, .int .u8 8, .int .u8 7, .int .u8 9, .int .u8 6, .int .u8 10, .int .u8 5, .int .u8 11, .int .u8 4, .int .u8 12, .int .u8 3, .int .u8 13, .int .u8 2, .int .u8 14, .int .u8 1, .int .u8 15] 5) := by
  go_enter Try.func38, Try.ntmps38
  go_wp2
  go_ret
  exact ⟨rfl, rfl⟩
end Go.Proofs.Ytmgoeokdlklabaa

namespace Go.Proofs.Ytmgoeokdlklabaa
open Go.RowKit Go.Shelf M04 M05
attribute [local go_sem] Oper.semAt_some
set_option linter.unusedVariables false
set_option linter.unusedSimpArgs false
def cmpN (a b : Nat) : Int := if a < b then -1 else if b < a then 1 else 0
set_option maxRecDepth 100000 in
theorem cmp_isNaN (x : Int) (w : World) : Calls Try.prog 127 #[.int .i64 x] w fun e w' => e = .returned (.bool false) ∧ w' = w := by
  go_enter Try.func127, Try.ntmps127
  go_wp2
  go_ret
  simp
set_option maxRecDepth 100000 in
theorem cmp_compare (a b : Nat) (w : World) : Calls Try.prog 116 #[.int .i64 (a : Nat), .int .i64 (b : Nat)] w fun e w' => e = .returned (.int .i64 (cmpN a b)) ∧ w' = w := by
  have H1 := Lib.hid (cmp_isNaN (a : Int) w)
  have H2 := Lib.hid (cmp_isNaN (b : Int) w)
  have HC : Hid (cmpN a b = if a < b then -1 else if b < a then 1 else 0) := rfl
  by_cases h1 : a < b
  · have b1 : decide (a < b) = true := by simp; omega
    rw [if_pos h1] at HC
    clear h1
    go_enter Try.func116, Try.ntmps116
    go_wp2_with (first | (go_at_call 127; refine H1.out.mono ?_; rintro e w' ⟨rfl, rfl⟩) | (go_at_call 127; refine H2.out.mono ?_; rintro e w' ⟨rfl, rfl⟩))
    go_ret
    exact ⟨by rw [HC.out]; rfl, rfl⟩
  · have b1 : decide (a < b) = false := by simp; omega
    rw [if_neg h1] at HC
    by_cases h2 : b < a
    · have b2 : decide (b < a) = true := by simp; omega
      rw [if_pos h2] at HC
      clear h1 h2
      go_enter Try.func116, Try.ntmps116
      go_wp2_with (first | (go_at_call 127; refine H1.out.mono ?_; rintro e w' ⟨rfl, rfl⟩) | (go_at_call 127; refine H2.out.mono ?_; rintro e w' ⟨rfl, rfl⟩))
      go_ret
      exact ⟨by rw [HC.out]; rfl, rfl⟩
    · have b2 : decide (b < a) = false := by simp; omega
      rw [if_neg h2] at HC
      clear h1 h2
      go_enter Try.func116, Try.ntmps116
      go_wp2_with (first | (go_at_call 127; refine H1.out.mono ?_; rintro e w' ⟨rfl, rfl⟩) | (go_at_call 127; refine H2.out.mono ?_; rintro e w' ⟨rfl, rfl⟩))
      go_ret
      exact ⟨by rw [HC.out]; rfl, rfl⟩
set_option maxRecDepth 100000 in
theorem rarest_cmp (w : World) (p : Nat) (a : Option Addr) (c : Nat) (f : List Nat) (x y : Nat) (h1 : w.cell? ⟨p, 0, none⟩ = some (.slice a f.length c)) (h2 : RowN .i64 w a c f) (hx : x < f.length) (hy : y < f.length) :
    Calls Try.prog 115 #[.int .i64 (x : Nat), .int .i64 (y : Nat), .pointer (some ⟨p, 0, none⟩)] w fun e w' => e = .returned (.int .i64 (cmpN (f.getD x 0) (f.getD y 0))) ∧ ∃ q, w' = w.drewN q := by
  obtain ⟨b, off, rfl, hb, hcx⟩ := h2.at hx
  obtain ⟨b', off', he, _, hcy⟩ := h2.at hy
  simp only [Option.some.injEq, Addr.mk.injEq, and_true] at he
  obtain ⟨rfl, rfl⟩ := he
  have ex : f.getD x 0 = f[x] := by rw [List.getD_eq_getElem?_getD, List.getElem?_eq_getElem hx]; rfl
  have ey : f.getD y 0 = f[y] := by rw [List.getD_eq_getElem?_getD, List.getElem?_eq_getElem hy]; rfl
  rw [ex, ey]
  generalize f[x] = u at *
  generalize f[y] = v at *
  have HC := Lib.hid (fun w => cmp_compare u v w)
  have qx : (x : Int) < (f.length : Int) := by omega
  have qy : (y : Int) < (f.length : Int) := by omega
  clear ex ey h2
  go_enter Try.func115, Try.ntmps115
  go_wp2_with fail
  go_still_tail 8, (by kernel_rfl)
  go_wp2_with (go_at_call 116; refine (HC.out _).mono ?_; rintro e w' ⟨rfl, rfl⟩)
  go_ret
  exact ⟨rfl, 1, rfl⟩
theorem stInt (p : Addr) (n : Int) (u : Value) (w : World) (h : w.cell? p = some u) (hf : w.frozen? p = false) : (Instr.storeAt 3 (.pointer (some p)) (.int .i64 n)).run Try.prog w = .ok () (w.setCell p (.int .i64 n)) := by
  have hsz : (Try.prog.info? 3).map (·.size) = some 1 := by kernel_rfl
  cases h5 : Try.prog.info? 3 with
  | none => rw [h5] at hsz; cases hsz
  | some ie =>
    have hs : ie.size = 1 := by simpa [h5] using hsz
    simp [Instr.storeAt, Instr.sureAddr, storeVar, sizeOf, typeInfo, h5, hs, Value.cells, storeCells, h, hf, go_sem]
def Ph2 (W0 W1 W2 : World) : Bool → Bool → World
  | _, true => W2
  | true, false => W1
  | false, false => W0
theorem swapL_mem {d : List Nat} {j n : Nat} (hj : j + 1 < d.length) (h : ∀ x ∈ d, x < n) : ∀ x ∈ swapL d j, x < n := by
  intro x hx
  unfold swapL at hx
  have h1 : d.getD j 0 < n := by rw [List.getD_eq_getElem?_getD, List.getElem?_eq_getElem (by omega)]; exact h _ (List.getElem_mem _)
  have h2 : d.getD (j + 1) 0 < n := by rw [List.getD_eq_getElem?_getD, List.getElem?_eq_getElem hj]; exact h _ (List.getElem_mem _)
  rcases List.mem_or_eq_of_mem_set hx with h' | rfl
  · rcases List.mem_or_eq_of_mem_set h' with h'' | rfl
    · exact h _ h''
    · exact h1
  · exact h2
structure SrtI (A0 : World) (g base cap p : Nat) (fa : Option Addr) (fc : Nat) (f : List Nat) (n : Nat) (D : List Nat) (A : World) : Prop where
  own : OwnN 3 .i64 A base (some ⟨g, 0, none⟩) cap D
  len : D.length = n
  mem : ∀ x ∈ D, x < f.length
  only : Only (fun b => b = g) A0 A
  cell : A.cell? ⟨p, 0, none⟩ = some (.slice fa f.length fc)
  row : RowN .i64 A fa fc f
theorem SrtI.drewN {A0 A : World} {g base cap p fc n : Nat} {fa : Option Addr} {f D : List Nat} (h : SrtI A0 g base cap p fa fc f n D A) (q : Nat) : SrtI A0 g base cap p fa fc f n D (A.drewN q) :=
  ⟨h.own, h.len, h.mem, h.only.trans ⟨rfl, rfl, rfl, Nat.le_refl _, fun _ _ _ => rfl⟩, h.cell, h.row⟩
theorem SrtI.swap {A0 A : World} {g base cap p fc n : Nat} {fa : Option Addr} {f D : List Nat} (h : SrtI A0 g base cap p fa fc f n D A) (hp : p < base) (hfa : ∀ x, 0 < f.length → fa = some x → x.block < base) {j : Nat} (hj : j + 1 < n) :
    SrtI A0 g base cap p fa fc f n (swapL D j) ((A.setCell ⟨g, j + 1, none⟩ (.int .i64 (D.getD j 0 : Nat))).setCell ⟨g, j, none⟩ (.int .i64 (D.getD (j + 1) 0 : Nat))) := by
  obtain ⟨o1, g1⟩ := h.own.stored (j + 1) (D.getD j 0)
  obtain ⟨o2, g2⟩ := o1.stored j (D.getD (j + 1) 0)
  have hg : base ≤ g := by
    rcases h.own.form with ⟨h', _⟩ | ⟨g', h', hb, _⟩
    · cases h'
    · simp only [Option.some.injEq, Addr.mk.injEq, and_true] at h'; omega
  have ho : Only (fun b => b = g) A ((A.setCell ⟨g, j + 1, none⟩ (.int .i64 (D.getD j 0 : Nat))).setCell ⟨g, j, none⟩ (.int .i64 (D.getD (j + 1) 0 : Nat))) :=
    Only.trans ⟨g1.os, g1.tape, g1.output, g1.size, fun b hb hne => g1.block b hb (fun e => by cases e; exact hne rfl)⟩ ⟨g2.os, g2.tape, g2.output, g2.size, fun b hb hne => g2.block b hb (fun e => by cases e; exact hne rfl)⟩
  refine ⟨o2, by rw [swapL_len]; exact h.len, swapL_mem (by rw [h.len]; exact hj) h.mem, h.only.trans ho, ?_, h.row.same ho.size (fun x h0 hx => ?_)⟩
  · exact (World.cell?_of_block (a := ⟨p, 0, none⟩) (ho.block p (cell_lt h.cell) (by omega))).trans h.cell
  · have := hfa x h0 hx
    refine ho.block _ ?_ (by omega)
    obtain ⟨b', off, he, hlt, _⟩ := h.row.at h0
    rw [hx] at he; cases he; exact hlt
set_option maxRecDepth 100000 in
set_option maxHeartbeats 3200000 in
theorem ins_sort (A : World) (g base cap p a b : Nat) (fa : Option Addr) (fc : Nat) (f d : List Nat) (hI : SrtI A g base cap p fa fc f d.length d A) (hp : p < base) (hfa : ∀ x, 0 < f.length → fa = some x → x.block < base) (hab : a ≤ b) (hb : b ≤ d.length) (hl : d.length ≤ 600) :
    Calls Try.prog 133 #[.slice (some ⟨g, 0, none⟩) d.length cap, .int .i64 (a : Nat), .int .i64 (b : Nat), .func (.func 115) #[] #[.pointer (some ⟨p, 0, none⟩)]] A fun e w' => e = .returned (.tuple #[]) ∧ SrtI A g base cap p fa fc f d.length (insS f a b d) w' := by
  obtain ⟨n, hn⟩ : ∃ n, d.length = n := ⟨_, rfl⟩
  rw [hn] at hI hb hl ⊢
  have HI := Lib.hid hI
  have HSW := Lib.hid (fun D A' j (h : SrtI A g base cap p fa fc f n D A') (hj : j + 1 < n) => h.swap hp hfa hj)
  obtain ⟨T, hT⟩ : ∃ T, insS f a b d = T := ⟨_, rfl⟩
  have HT := Lib.hid (show insO f a (a + 1) (b - (a + 1)) d = T from hT)
  rw [hT]
  clear hI hT
  go_enter Try.func133, Try.ntmps133
  go_wp2
  go_loopw [8, 9] (fun x _ A' => ∃ i D, x = .int .i64 (i : Nat) ∧ i ≤ n + 1 ∧ insO f a i (b - i) D = T ∧ SrtI A g base cap p fa fc f n D A') (fun x _ _ => n + 1 - (intOf x).toNat)
  case atStart => exact ⟨a + 1, d, by go_num, by omega, HT.out, HI.out⟩
  case round =>
    clear HT HI
    obtain ⟨i, D, rfl, hi, ht, hs⟩ := hrel
    have HS := Lib.hid hs
    have HT := Lib.hid ht
    clear hs ht
    by_cases hib : i < b
    · have b1 : decide (i < b) = true := by simp; omega
      obtain ⟨m, hm⟩ : ∃ m, b - i = m + 1 := ⟨b - i - 1, by omega⟩
      have HT2 := Lib.hid (show insO f a (i + 1) m (insD f a i D) = T from by have := HT.out; rw [hm] at this; exact this)
      have HM := Lib.hid (show m = b - (i + 1) from by omega)
      clear HT hm
      go_wp2_with fail
      go_loopw [9] (fun y A' => ∃ j D', y = .int .i64 (j : Nat) ∧ j ≤ i ∧ insD f a j D' = insD f a i D ∧ SrtI A g base cap p fa fc f n D' A') (fun y _ => (intOf y).toNat)
      case atStart => exact ⟨i, D, rfl, Nat.le_refl _, rfl, HS.out⟩
      case round =>
        clear HS
        obtain ⟨j, D', rfl, hj, hd, hs⟩ := hrel
        have HS := Lib.hid hs
        have HD := Lib.hid hd
        clear hs hd
        by_cases haj : a < j
        · have b2 : decide (a < j) = true := by simp; omega
          obtain ⟨j', rfl⟩ : ∃ j', j = j' + 1 := ⟨j - 1, by omega⟩
          have hj1 : j' + 1 < D'.length := by rw [HS.out.len]; omega
          have hjn : j' < n := by omega
          have hj1n : j' + 1 < n := by omega
          have eu : D'.getD j' 0 = D'[j'] := by rw [List.getD_eq_getElem?_getD, List.getElem?_eq_getElem (by omega)]; rfl
          have ev : D'.getD (j' + 1) 0 = D'[j' + 1] := by rw [List.getD_eq_getElem?_getD, List.getElem?_eq_getElem hj1]; rfl
          obtain ⟨g1, hg1, _, _, hcu, hfu⟩ := HS.out.own.at (show j' < D'.length by omega)
          obtain ⟨g2, hg2, _, _, hcv, hfv⟩ := HS.out.own.at hj1
          simp only [Option.some.injEq, Addr.mk.injEq, and_true] at hg1 hg2
          subst hg1
          subst hg2
          have hul : D'[j'] < f.length := HS.out.mem _ (List.getElem_mem _)
          have hvl : D'[j' + 1] < f.length := HS.out.mem _ (List.getElem_mem _)
          have HCMP := Lib.hid (fun q => (rarest_cmp (wr.drewN q) p fa fc f (D'[j' + 1]) (D'[j']) HS.out.cell HS.out.row hvl hul).mono (fun e w' (h : e = .returned (.int .i64 (cmpN (f.getD D'[j' + 1] 0) (f.getD D'[j'] 0))) ∧ ∃ q', w' = (wr.drewN q).drewN q') => (show e = .returned (.int .i64 (cmpN (f.getD D'[j' + 1] 0) (f.getD D'[j'] 0))) ∧ ∃ m, w' = wr.drewN m from ⟨h.1, by obtain ⟨_, q', h2⟩ := h; exact ⟨q + q', by rw [h2, World.drewN_drewN]⟩⟩)))
          have HSW2 := Lib.hid (fun q => HSW.out D' (wr.drewN q) j' (HS.out.drewN q) hj1n)
          have HK0 := Lib.hid (fun q => (show ∃ kv, ((wr.drewN q).setCell ⟨g, j' + 1, none⟩ (.int .i64 (D'.getD j' 0 : Nat))).cell? ⟨g, j', none⟩ = some kv ∧ ((wr.drewN q).setCell ⟨g, j' + 1, none⟩ (.int .i64 (D'.getD j' 0 : Nat))).frozen? ⟨g, j', none⟩ = false from by
            obtain ⟨g3, hg3, _, _, h4, h5⟩ := (((HS.out.drewN q).own.stored (j' + 1) (D'.getD j' 0)).1).at (i := j') (by rw [List.length_set, HS.out.len]; exact hjn)
            simp only [Option.some.injEq, Addr.mk.injEq, and_true] at hg3
            subst hg3
            exact ⟨_, h4, h5⟩))
          have HDD := Lib.hid (show (if a < j' + 1 ∧ f.getD D'[j' + 1] 0 < f.getD D'[j'] 0 then insD f a j' (swapL D' j') else D') = insD f a i D from by rw [← HD.out, ← eu, ← ev]; rfl)
          rw [eu] at HK0
          simp only [eu, ev] at HSW2
          clear HD hul hvl eu ev
          generalize D'[j'] = xu at *
          generalize D'[j' + 1] = xv at *
          have hib1 : j' + 1 ≤ 600 := by omega
          clear hj1
          obtain ⟨j1, hj1e⟩ : ∃ j1, j' + 1 = j1 := ⟨_, rfl⟩
          have qj1 : (j1 : Int) < (n : Int) := by omega
          have qj : (j' : Int) < (n : Int) := by omega
          have qsub : (j1 : Int) - 1 = (j' : Int) := by omega
          have qwj : IntKind.i64.wrap (j' : Int) = (j' : Int) := IntWalk.i64_in _ (by omega)
          rw [hj1e] at HSW2 hcv hfv b2 hj1n HK0
          simp only [hj1e]
          by_cases hlt : f.getD xv 0 < f.getD xu 0
          · have b3 : decide (cmpN (f.getD xv 0) (f.getD xu 0) < 0) = true := by unfold cmpN; rw [if_pos hlt]; rfl
            rw [if_pos ⟨haj, hlt⟩] at HDD
            obtain ⟨cm, hcm⟩ : ∃ cm, cmpN (f.getD xv 0) (f.getD xu 0) = cm := ⟨_, rfl⟩
            rw [hcm] at HCMP b3
            clear hlt hcm
            go_wp2_with fail
            go_quiet ((go_at_call 115; exact (HCMP.out _)))
            go_wp2_with fail
            obtain ⟨kv, hk1, hk2⟩ := HK0.out (nq + 1)
            have hend := HSW2.out (nq + 1)
            have hw : ((wr.drewN nq).drew) = wr.drewN (nq + 1) := rfl
            have hcu' : (wr.drewN (nq + 1)).cell? ⟨g, j', none⟩ = some (.int .i64 (xu : Nat)) := hcu
            have hcv' : (wr.drewN (nq + 1)).cell? ⟨g, j1, none⟩ = some (.int .i64 (xv : Nat)) := hcv
            have hfv' : (wr.drewN (nq + 1)).frozen? ⟨g, j1, none⟩ = false := hfv
            obtain ⟨W0, hW0⟩ : ∃ W0, wr.drewN (nq + 1) = W0 := ⟨_, rfl⟩
            rw [hW0] at hk1 hk2 hend hw hcu' hcv' hfv'
            have HW0 := Lib.hid hw
            obtain ⟨W1, hW1⟩ : ∃ W1, W0.setCell ⟨g, j1, none⟩ (.int .i64 (xu : Nat)) = W1 := ⟨_, rfl⟩
            rw [hW1] at hk1 hk2 hend
            have HW1 := Lib.hid hW1
            obtain ⟨W2, hW2⟩ : ∃ W2, W1.setCell ⟨g, j', none⟩ (.int .i64 (xv : Nat)) = W2 := ⟨_, rfl⟩
            rw [hW2] at hend
            have HW2 := Lib.hid hW2
            have HCU := Lib.hid hcu'
            have HCV := Lib.hid hcv'
            have HF1 := Lib.hid hfv'
            have HCK := Lib.hid hk1
            have HF2 := Lib.hid hk2
            have HEND := Lib.hid hend
            clear hk1 hk2 hend hw hcu' hcv' hfv' hW0 hW1 hW2
            -- region begins
            refine wp_region_flowL [37, 38, 39, 40, 41, 42, 43, 44, 45, 46, 47, 48, 49, 50, 51, 52] (fun j => false) (fun listed w1 => w1 = Ph2 W0 W1 W2 (listed.getD 15 false) (listed.getD 17 false)) (fun j v _ => match j with | 0 => v = .slice (some ⟨g, 0, none⟩) n cap | 1 => v = .int .i64 (j1 : Nat) | 2 => v = .slice (some ⟨g, 0, none⟩) n cap | 3 => v = .int .i64 (j1 : Nat) | 4 => v = .int .i64 (j' : Nat) | 5 => v = .slice (some ⟨g, 0, none⟩) n cap | 6 => v = .int .i64 (j1 : Nat) | 7 => v = .int .i64 (j' : Nat) | 8 => v = .pointer (some ⟨g, j', none⟩) | 9 => v = .int .i64 (xu : Nat) | 10 => v = .slice (some ⟨g, 0, none⟩) n cap | 11 => v = .int .i64 (j1 : Nat) | 12 => v = .pointer (some ⟨g, j1, none⟩) | 13 => v = .int .i64 (xv : Nat) | 14 => v = .pointer (some ⟨g, j1, none⟩) | 16 => v = .pointer (some ⟨g, j', none⟩) | _ => True) (fun _ _ _ _ => True) (by kernel_rfl) (by kernel_rfl) (OneEach.mk' (by kernel_rfl) (by kernel_rfl)) (by kernel_rfl) (by kernel_rfl) (by exact HW0.out) ?_ ?_
            · intro i0 o hi0 listed a1 w1 hR hil hunf hdes hanc hout hdep
              have hsz : i0 < 18 := (Array.getElem?_eq_some_iff.1 hi0).1
              have hall : i0 = 0 ∨ i0 = 1 ∨ i0 = 2 ∨ i0 = 3 ∨ i0 = 4 ∨ i0 = 5 ∨ i0 = 6 ∨ i0 = 7 ∨ i0 = 8 ∨ i0 = 9 ∨ i0 = 10 ∨ i0 = 11 ∨ i0 = 12 ∨ i0 = 13 ∨ i0 = 14 ∨ i0 = 15 ∨ i0 = 16 ∨ i0 = 17 := by omega
              clear hsz
              rcases hall with rfl | rfl | rfl | rfl | rfl | rfl | rfl | rfl | rfl | rfl | rfl | rfl | rfl | rfl | rfl | rfl | rfl | rfl <;> simp only [List.getElem?_toArray, List.getElem?_cons_zero, List.getElem?_cons_succ, Option.some.injEq] at hi0 <;> subst hi0
              · have f0 : a1.eval (.tmp 0) = .slice (some ⟨g, 0, none⟩) n cap := hout 0 (by decide)
                refine stepTo_val (v := .slice (some ⟨g, 0, none⟩) n cap) (w' := w1) (by simp [execOp, f0]) ⟨_, rfl, ?_, fun j u hu hV _ => ⟨hV, trivial, trivial⟩, rfl⟩
                rw [getD_set_ne2 (by decide), getD_set_ne2 (by decide)]; exact hR
              · have f9 : a1.eval (.tmp 9) = .int .i64 (j1 : Nat) := hout 9 (by decide)
                refine stepTo_val (v := .int .i64 (j1 : Nat)) (w' := w1) (by simp [execOp, f9]) ⟨_, rfl, ?_, fun j u hu hV _ => ⟨hV, trivial, trivial⟩, rfl⟩
                rw [getD_set_ne2 (by decide), getD_set_ne2 (by decide)]; exact hR
              · have f0 : a1.eval (.tmp 0) = .slice (some ⟨g, 0, none⟩) n cap := hout 0 (by decide)
                refine stepTo_val (v := .slice (some ⟨g, 0, none⟩) n cap) (w' := w1) (by simp [execOp, f0]) ⟨_, rfl, ?_, fun j u hu hV _ => ⟨hV, trivial, trivial⟩, rfl⟩
                rw [getD_set_ne2 (by decide), getD_set_ne2 (by decide)]; exact hR
              · have f9 : a1.eval (.tmp 9) = .int .i64 (j1 : Nat) := hout 9 (by decide)
                refine stepTo_val (v := .int .i64 (j1 : Nat)) (w' := w1) (by simp [execOp, f9]) ⟨_, rfl, ?_, fun j u hu hV _ => ⟨hV, trivial, trivial⟩, rfl⟩
                rw [getD_set_ne2 (by decide), getD_set_ne2 (by decide)]; exact hR
              · have e40 : a1.eval (.tmp 40) = .int .i64 (j1 : Nat) := hdep ⟨3, .data⟩ (by simp) rfl _ rfl
                refine stepTo_val (v := .int .i64 (j' : Nat)) (w' := w1) (by simp [execOp, e40, evalC, eqgS, subI, qsub, qwj]) ⟨_, rfl, ?_, fun j u hu hV _ => ⟨hV, trivial, trivial⟩, rfl⟩
                rw [getD_set_ne2 (by decide), getD_set_ne2 (by decide)]; exact hR
              · have f0 : a1.eval (.tmp 0) = .slice (some ⟨g, 0, none⟩) n cap := hout 0 (by decide)
                refine stepTo_val (v := .slice (some ⟨g, 0, none⟩) n cap) (w' := w1) (by simp [execOp, f0]) ⟨_, rfl, ?_, fun j u hu hV _ => ⟨hV, trivial, trivial⟩, rfl⟩
                rw [getD_set_ne2 (by decide), getD_set_ne2 (by decide)]; exact hR
              · have f9 : a1.eval (.tmp 9) = .int .i64 (j1 : Nat) := hout 9 (by decide)
                refine stepTo_val (v := .int .i64 (j1 : Nat)) (w' := w1) (by simp [execOp, f9]) ⟨_, rfl, ?_, fun j u hu hV _ => ⟨hV, trivial, trivial⟩, rfl⟩
                rw [getD_set_ne2 (by decide), getD_set_ne2 (by decide)]; exact hR
              · have e43 : a1.eval (.tmp 43) = .int .i64 (j1 : Nat) := hdep ⟨6, .data⟩ (by simp) rfl _ rfl
                refine stepTo_val (v := .int .i64 (j' : Nat)) (w' := w1) (by simp [execOp, e43, evalC, eqgS, subI, qsub, qwj]) ⟨_, rfl, ?_, fun j u hu hV _ => ⟨hV, trivial, trivial⟩, rfl⟩
                rw [getD_set_ne2 (by decide), getD_set_ne2 (by decide)]; exact hR
              · have e42 : a1.eval (.tmp 42) = .slice (some ⟨g, 0, none⟩) n cap := hdep ⟨5, .data⟩ (by simp) rfl _ rfl
                have e44 : a1.eval (.tmp 44) = .int .i64 (j' : Nat) := hdep ⟨7, .data⟩ (by simp) rfl _ rfl
                refine stepTo_val (v := .pointer (some ⟨g, j', none⟩)) (w' := w1) (by simp [execOp, e42, e44, ixI g j' n cap hjn]) ⟨_, rfl, ?_, fun j u hu hV _ => ⟨hV, trivial, trivial⟩, rfl⟩
                rw [getD_set_ne2 (by decide), getD_set_ne2 (by decide)]; exact hR
              · have e45 : a1.eval (.tmp 45) = .pointer (some ⟨g, j', none⟩) := hdep ⟨8, .data⟩ (by simp) rfl _ rfl
                have x45 : a1.tmps[45]?.getD undef = .pointer (some ⟨g, j', none⟩) := by simpa [Act.eval] using e45
                have hc : w1.cell? ⟨g, j', none⟩ = some (.int .i64 (xu : Nat)) := by
                  rw [hdes 15 (by kernel_rfl), hdes 17 (by kernel_rfl)] at hR
                  rw [hR]; exact HCU.out
                refine stepTo_val (v := .int .i64 (xu : Nat)) (w' := w1) (by simp [execOp, e45, ldInt _ _ _ hc]) ⟨_, rfl, ?_, fun j u hu hV _ => ⟨hV, trivial, trivial⟩, rfl⟩
                rw [getD_set_ne2 (by decide), getD_set_ne2 (by decide)]; exact hR
              · have f0 : a1.eval (.tmp 0) = .slice (some ⟨g, 0, none⟩) n cap := hout 0 (by decide)
                refine stepTo_val (v := .slice (some ⟨g, 0, none⟩) n cap) (w' := w1) (by simp [execOp, f0]) ⟨_, rfl, ?_, fun j u hu hV _ => ⟨hV, trivial, trivial⟩, rfl⟩
                rw [getD_set_ne2 (by decide), getD_set_ne2 (by decide)]; exact hR
              · have f9 : a1.eval (.tmp 9) = .int .i64 (j1 : Nat) := hout 9 (by decide)
                refine stepTo_val (v := .int .i64 (j1 : Nat)) (w' := w1) (by simp [execOp, f9]) ⟨_, rfl, ?_, fun j u hu hV _ => ⟨hV, trivial, trivial⟩, rfl⟩
                rw [getD_set_ne2 (by decide), getD_set_ne2 (by decide)]; exact hR
              · have e47 : a1.eval (.tmp 47) = .slice (some ⟨g, 0, none⟩) n cap := hdep ⟨10, .data⟩ (by simp) rfl _ rfl
                have e48 : a1.eval (.tmp 48) = .int .i64 (j1 : Nat) := hdep ⟨11, .data⟩ (by simp) rfl _ rfl
                refine stepTo_val (v := .pointer (some ⟨g, j1, none⟩)) (w' := w1) (by simp [execOp, e47, e48, ixI g j1 n cap hj1n]) ⟨_, rfl, ?_, fun j u hu hV _ => ⟨hV, trivial, trivial⟩, rfl⟩
                rw [getD_set_ne2 (by decide), getD_set_ne2 (by decide)]; exact hR
              · have e49 : a1.eval (.tmp 49) = .pointer (some ⟨g, j1, none⟩) := hdep ⟨12, .data⟩ (by simp) rfl _ rfl
                have x49 : a1.tmps[49]?.getD undef = .pointer (some ⟨g, j1, none⟩) := by simpa [Act.eval] using e49
                have hc : w1.cell? ⟨g, j1, none⟩ = some (.int .i64 (xv : Nat)) := by
                  rw [hdes 15 (by kernel_rfl), hdes 17 (by kernel_rfl)] at hR
                  rw [hR]; exact HCV.out
                refine stepTo_val (v := .int .i64 (xv : Nat)) (w' := w1) (by simp [execOp, e49, ldInt _ _ _ hc]) ⟨_, rfl, ?_, fun j u hu hV _ => ⟨hV, trivial, trivial⟩, rfl⟩
                rw [getD_set_ne2 (by decide), getD_set_ne2 (by decide)]; exact hR
              · have e37 : a1.eval (.tmp 37) = .slice (some ⟨g, 0, none⟩) n cap := hdep ⟨0, .data⟩ (by simp) rfl _ rfl
                have e38 : a1.eval (.tmp 38) = .int .i64 (j1 : Nat) := hdep ⟨1, .data⟩ (by simp) rfl _ rfl
                refine stepTo_val (v := .pointer (some ⟨g, j1, none⟩)) (w' := w1) (by simp [execOp, e37, e38, ixI g j1 n cap hj1n]) ⟨_, rfl, ?_, fun j u hu hV _ => ⟨hV, trivial, trivial⟩, rfl⟩
                rw [getD_set_ne2 (by decide), getD_set_ne2 (by decide)]; exact hR
              · have e51 : a1.eval (.tmp 51) = .pointer (some ⟨g, j1, none⟩) := hdep ⟨14, .data⟩ (by simp) rfl _ rfl
                have x51 : a1.tmps[51]?.getD undef = .pointer (some ⟨g, j1, none⟩) := by simpa [Act.eval] using e51
                have e46 : a1.eval (.tmp 46) = .int .i64 (xu : Nat) := hdep ⟨9, .data⟩ (by simp) rfl _ rfl
                have x46 : a1.tmps[46]?.getD undef = .int .i64 (xu : Nat) := by simpa [Act.eval] using e46
                rw [hunf, hdes 17 (by kernel_rfl)] at hR
                obtain rfl : w1 = W0 := hR
                refine stepTo_skip (w' := W1) (by simp [execOp, e51, e46, stInt _ _ _ w1 HCV.out HF1.out, HW1.out]) ⟨undef, rfl, ?_, fun j u hu hV _ => ⟨hV, trivial, trivial⟩, trivial⟩
                rw [set_getD_same hil, getD_set_ne2 (by decide), hdes 17 (by kernel_rfl)]
                rfl
              · have e39 : a1.eval (.tmp 39) = .slice (some ⟨g, 0, none⟩) n cap := hdep ⟨2, .data⟩ (by simp) rfl _ rfl
                have e41 : a1.eval (.tmp 41) = .int .i64 (j' : Nat) := hdep ⟨4, .data⟩ (by simp) rfl _ rfl
                refine stepTo_val (v := .pointer (some ⟨g, j', none⟩)) (w' := w1) (by simp [execOp, e39, e41, ixI g j' n cap hjn]) ⟨_, rfl, ?_, fun j u hu hV _ => ⟨hV, trivial, trivial⟩, rfl⟩
                rw [getD_set_ne2 (by decide), getD_set_ne2 (by decide)]; exact hR
              · have e52 : a1.eval (.tmp 52) = .pointer (some ⟨g, j', none⟩) := hdep ⟨16, .data⟩ (by simp) rfl _ rfl
                have x52 : a1.tmps[52]?.getD undef = .pointer (some ⟨g, j', none⟩) := by simpa [Act.eval] using e52
                have e50 : a1.eval (.tmp 50) = .int .i64 (xv : Nat) := hdep ⟨13, .data⟩ (by simp) rfl _ rfl
                have x50 : a1.tmps[50]?.getD undef = .int .i64 (xv : Nat) := by simpa [Act.eval] using e50
                rw [hanc 15 (by kernel_rfl), hunf] at hR
                obtain rfl : w1 = W1 := hR
                refine stepTo_skip (w' := W2) (by simp [execOp, e52, e50, stInt _ _ _ w1 HCK.out HF2.out, HW2.out]) ⟨undef, rfl, ?_, fun j u hu hV _ => ⟨hV, trivial, trivial⟩, trivial⟩
                rw [set_getD_same hil, getD_set_ne2 (by decide), hanc 15 (by kernel_rfl)]
                rfl
            · intro listed fv w1 hR hall hV
              rw [hall 15 (by decide), hall 17 (by decide)] at hR
              obtain rfl : w1 = W2 := hR
              simp only [spread, List.contains_cons, List.contains_nil, Nat.reduceBEq, Bool.or_false, Bool.or_true, cond_true, cond_false, Nat.reduceAdd, Nat.zero_add]
              go_wp2
              go_roundw
              case rel => exact ⟨j', swapL D' j', rfl, by omega, HDD.out, HEND.out⟩
              case measure => simp [intOf]; omega
            -- region ends
          · have b3 : decide (cmpN (f.getD xv 0) (f.getD xu 0) < 0) = false := by unfold cmpN; rw [if_neg hlt]; split <;> rfl
            rw [if_neg (fun h => hlt h.2)] at HDD
            obtain ⟨cm, hcm⟩ : ∃ cm, cmpN (f.getD xv 0) (f.getD xu 0) = cm := ⟨_, rfl⟩
            rw [hcm] at HCMP b3
            clear hlt hcm
            go_wp2_with fail
            go_quiet ((go_at_call 115; exact (HCMP.out _)))
            go_wp2
            go_roundw
            case rel => exact ⟨i + 1, D', by go_num, by omega, by rw [HDD.out, ← HM.out]; exact HT2.out, HS.out.drewN _⟩
            case measure => simp [intOf]; omega
        · have b2 : decide (a < j) = false := by simp; omega
          have HDD := Lib.hid (show D' = insD f a i D from by
            rw [← HD.out]
            cases j with
            | zero => rfl
            | succ j => show _ = if _ then _ else _; rw [if_neg (fun h => haj h.1)])
          clear HD haj
          go_wp2_with fail
          go_quiet (fail)
          go_wp2
          go_roundw
          case rel => exact ⟨i + 1, D', by go_num, by omega, by rw [HDD.out, ← HM.out]; exact HT2.out, HS.out.drewN _⟩
          case measure => simp [intOf]; omega
    · have b1 : decide (i < b) = false := by simp; omega
      have HT3 := Lib.hid (show D = T from by have := HT.out; rw [show b - i = 0 by omega] at this; exact this)
      clear HT hib
      go_wp2
      go_end0
      exact ⟨rfl, by rw [← HT3.out]; exact HS.out⟩
set_option maxRecDepth 100000 in
set_option maxHeartbeats 3200000 in
theorem stable_few (A : World) (g base cap p : Nat) (fa : Option Addr) (fc : Nat) (f d : List Nat) (hI : SrtI A g base cap p fa fc f d.length d A) (hp : p < base) (hfa : ∀ x, 0 < f.length → fa = some x → x.block < base) (hl : d.length < 20) :
    Calls Try.prog 126 #[.slice (some ⟨g, 0, none⟩) d.length cap, .int .i64 (d.length : Nat), .func (.func 115) #[] #[.pointer (some ⟨p, 0, none⟩)]] A fun e w' => e = .returned (.tuple #[]) ∧ SrtI A g base cap p fa fc f d.length (insS f 0 d.length d) w' := by
  have HINS := Lib.hid (ins_sort A g base cap p 0 d.length fa fc f d hI hp hfa (Nat.zero_le _) (Nat.le_refl _) (by omega))
  obtain ⟨T, hT⟩ : ∃ T, insS f 0 d.length d = T := ⟨_, rfl⟩
  rw [hT] at HINS ⊢
  clear hI hT
  generalize d.length = n at *
  have b1 : decide (20 ≤ n) = false := by simp; omega
  have b2 : decide (20 < n) = false := by simp; omega
  go_enter Try.func126, Try.ntmps126
  go_wp2
  go_loopw [7, 8] (fun x y A' => x = .int .i64 0 ∧ y = .int .i64 20 ∧ A' = A) (fun x y _ => 0)
  case atStart => exact ⟨rfl, rfl, rfl⟩
  case round =>
    obtain ⟨rfl, rfl, rfl⟩ := hrel
    go_wp2_with (go_at_call 133; refine HINS.out.mono ?_; rintro e w' ⟨rfl, hs⟩; have HS := Lib.hid hs; clear hs)
    go_loopw [6, 7, 8, 9] (fun x _ _ _ A' => x = .int .i64 20 ∧ A' = w') (fun _ _ _ _ _ => 0)
    case atStart => exact ⟨rfl, rfl⟩
    case round =>
      obtain ⟨rfl, rfl⟩ := hrel
      go_wp2
      go_end0
      exact ⟨rfl, HS.out⟩
set_option maxRecDepth 100000 in
theorem sort_few (A : World) (g base cap p : Nat) (fa : Option Addr) (fc : Nat) (f d : List Nat) (hI : SrtI A g base cap p fa fc f d.length d A) (hp : p < base) (hfa : ∀ x, 0 < f.length → fa = some x → x.block < base) (hl : d.length < 20) :
    Calls Try.prog 114 #[.slice (some ⟨g, 0, none⟩) d.length cap, .func (.func 115) #[] #[.pointer (some ⟨p, 0, none⟩)]] A fun e w' => e = .returned (.tuple #[]) ∧ SrtI A g base cap p fa fc f d.length (insS f 0 d.length d) w' := by
  have HST := Lib.hid (stable_few A g base cap p fa fc f d hI hp hfa hl)
  clear hI
  go_enter Try.func114, Try.ntmps114
  go_wp2_with (go_at_call 126; refine HST.out.mono ?_; rintro e w' ⟨rfl, hs⟩)
  go_end0
  exact ⟨rfl, hs⟩
end Go.Proofs.Ytmgoeokdlklabaa
