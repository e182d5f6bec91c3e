/- Contracts of the reference of layer 8. Contracts of the reference of layer 4: May, Weight, Classify, Words; and kraft.Single. Contracts of package kraft and of its reference: may, weight, Classify, Single. kraft.order hands out the symbols in order; kraft.Words answers the words. Plain mathematics of layer 1: bits of bytes, the least first. Contracts of package lsb: a reader. Plain mathematics of layer 6: what a table of words holds, symbol by symbol. A map from words (bits, how many) to numbers, as a function. Plain mathematics of layer 4: words of a code do not begin with one another; a row of 20 bits begins with one word, where the code is full. prefix.New: contract. Words that all seats use: of the model's parts, and of the layers. kraft.Single: contract. Plain mathematics of layer 7: signs. -/
import Derived.Test.YtmgoeokdlklabaaC03
import Derived.Test.YtmgoeokdlklabaaC01
import Derived.Test.YtmgoeokdlklabaaC02
import Derived.Deep.RegionHeld3
import Derived.Test.YtmgoeokdlklabaaChecked
import Derived.BigQuiet
import Derived.Deep.QuietTactic
import Derived.Lib.Hide
import Derived.Laws.Bits64b
import Derived.Maps.Own
import Derived.Maps.OwnOps
import Derived.Maps.OwnSet
import Derived.Maps.Views
import Derived.DeepKeys4
import Derived.WalkArith
import Derived.StillTailTactics
import Derived.Maps.AppendAt
import Derived.WalkLawsBesides
import Derived.Lib.SlicesS
namespace Go.Proofs.Ytmgoeokdlklabaa
open Go.RowKit Go.Shelf M08 M17
set_option linter.unusedVariables false
def encT : Enc Tok where
  sz := 3
  cells t := [.int .i64 t.len, .int .i64 t.dist, .int .u8 (t.byte : Nat)]
  len _ := rfl
  one x u hu := by
    simp only [List.mem_cons, List.not_mem_nil, or_false] at hu
    rcases hu with rfl | rfl | rfl <;> rfl
  pos := by decide
def tokV (t : Tok) : Value := .agg #[.int .i64 t.len, .int .i64 t.dist, .int .u8 (t.byte : Nat)]
set_option maxHeartbeats 800000 in
theorem ref08_last (w : World) (a : Option Addr) (c : Nat) (L : List Nat) (n : Nat) (h0 : 0 < L.length) (h100 : L.length ≤ 100) (hup : Up L) (hn : L.getD 0 0 ≤ n) (hr : RowN .i64 w a c L) :
    Calls Try.prog 100 #[.slice a L.length c, .int .i64 n] w fun e w' => e = .returned (.int .i64 (lastLe L n : Nat)) ∧ w = w' := by
  have HU := Lib.hid hup
  have HN := Lib.hid hn
  clear hup hn
  go_enter Try.func100, Try.ntmps100
  go_wp2
  go_loop [5] (fun i => ∃ k : Nat, k < L.length ∧ i = .int .i64 k ∧ L.getD k 0 ≤ n) (fun i => L.length - (intOf i).toNat)
  case atStart => exact ⟨0, h0, rfl, HN.out⟩
  case round =>
    obtain ⟨k, hk, rfl, hkn⟩ := hrel
    by_cases hlt : k + 1 < L.length
    · obtain ⟨b, off, rfl, _, hck⟩ := hr.at hlt
      have hg : L.getD (k + 1) 0 = L[k + 1] := by simp [hlt]
      by_cases hx : L[k + 1] ≤ n
      · have HX : Hid (L.getD (k + 1) 0 ≤ n) := by rw [Hid, hg]; exact hx
        have bx : decide ((L[k + 1] : Int) ≤ (n : Int)) = true := by simp; omega
        have bx2 : decide (L[k + 1] ≤ n) = true := by simp; omega
        clear hg hkn
        generalize L[k + 1] = x at *
        go_wp2
        go_round
        case rel => exact ⟨k + 1, hlt, by go_num, HX.out⟩
        case measure => simp [intOf]; omega
      · have hl := lastLe_up HU.out n k hk hkn (fun _ => by rw [hg]; omega)
        have HL := Lib.hid hl
        have bx : decide ((L[k + 1] : Int) ≤ (n : Int)) = false := by simp; omega
        have bx2 : decide (L[k + 1] ≤ n) = false := by simp; omega
        clear hg hkn hl
        generalize L[k + 1] = x at *
        go_wp2
        go_ret
        exact ⟨ret_int (by rw [HL.out]), rfl⟩
    · have HL := Lib.hid (lastLe_up HU.out n k hk hkn (fun h => absurd h hlt))
      clear hkn
      go_wp2
      go_ret
      exact ⟨ret_int (by rw [HL.out]), rfl⟩
def lensI : List Int := lensL.map fun (n : Nat) => (n : Int)
def distI : List Int := distL.map fun (n : Nat) => (n : Int)
theorem lens_row (w : World) (B : Nat) (hB : B = w.heap.size) : RowN .i64 (w.alloc (.cells (lensI.map (Value.int .i64)).toArray 3)) (some ⟨B, 0, none⟩) 29 lensL := rowN_lit' .i64 w lensL _ _ _ hB (by simp [lensI]) (by decide)
theorem dist_row (w : World) (B : Nat) (hB : B = w.heap.size) : RowN .i64 (w.alloc (.cells (distI.map (Value.int .i64)).toArray 3)) (some ⟨B, 0, none⟩) 30 distL := rowN_lit' .i64 w distL _ _ _ hB (by simp [distI]) (by decide)
theorem ref08_lengths (w : World) :
    Calls Try.prog 101 #[] w fun e w' => e = .returned (.slice (some ⟨w.heap.size, 0, none⟩) 29 29) ∧ w' = w.alloc (.cells (lensI.map (Value.int .i64)).toArray 3) := by
  go_enter Try.func101, Try.ntmps101
  go_wp2_with (refine wpList_buildFlat rfl 59 3 29 _ rfl .i64 lensI Try.underlying59 (by kernel_rfl) (by kernel_rfl) rfl (by decide) (by decide) rfl ?_)
  go_ret
  exact ⟨rfl, rfl⟩
theorem ref08_distances (w : World) :
    Calls Try.prog 103 #[] w fun e w' => e = .returned (.slice (some ⟨w.heap.size, 0, none⟩) 30 30) ∧ w' = w.alloc (.cells (distI.map (Value.int .i64)).toArray 3) := by
  go_enter Try.func103, Try.ntmps103
  go_wp2_with (refine wpList_buildFlat rfl 59 3 30 _ rfl .i64 distI Try.underlying59 (by kernel_rfl) (by kernel_rfl) rfl (by decide) (by decide) rfl ?_)
  go_ret
  exact ⟨rfl, rfl⟩
theorem ref08_lbits (s : Nat) (w : World) (h : s ≤ 1000) :
    Calls Try.prog 102 #[.int .i64 s] w fun e w' => e = .returned (.int .i64 (lbits s : Nat)) ∧ w = w' := by
  by_cases h1 : s < 265
  · have H : Hid (lbits s = 0) := by unfold Hid lbits; rw [if_pos (.inl h1)]
    have b1 : decide ((s : Int) < 265) = true := by simp; omega
    go_enter Try.func102, Try.ntmps102
    go_wp2
    go_ret
    exact ⟨ret_int (by rw [H.out]; rfl), rfl⟩
  · by_cases h2 : s = 285
    · subst h2
      go_enter Try.func102, Try.ntmps102
      go_wp2
      go_ret
      exact ⟨rfl, rfl⟩
    · have H : Hid (lbits s = (s - 261) / 4) := by unfold Hid lbits; rw [if_neg (by omega)]
      have b1 : decide ((s : Int) < 265) = false := by simp; omega
      have b2 : ((s : Int) == 285) = false := by simp; omega
      go_enter Try.func102, Try.ntmps102
      go_wp2
      go_ret
      exact ⟨ret_int (by rw [H.out]; omega), rfl⟩
theorem ref08_dbits (s : Nat) (w : World) (h : s ≤ 1000) :
    Calls Try.prog 104 #[.int .i64 s] w fun e w' => e = .returned (.int .i64 (dbits s : Nat)) ∧ w = w' := by
  by_cases h1 : s < 4
  · have H : Hid (dbits s = 0) := by unfold Hid dbits; rw [if_pos h1]
    have b1 : decide ((s : Int) < 4) = true := by simp; omega
    go_enter Try.func104, Try.ntmps104
    go_wp2
    go_ret
    exact ⟨ret_int (by rw [H.out]; rfl), rfl⟩
  · have H : Hid (dbits s = (s - 2) / 2) := by unfold Hid dbits; rw [if_neg h1]
    have b1 : decide ((s : Int) < 4) = false := by simp; omega
    go_enter Try.func104, Try.ntmps104
    go_wp2
    go_ret
    exact ⟨ret_int (by rw [H.out]; omega), rfl⟩
theorem ref08_lbits_k (k : Nat) (w : World) (h : k ≤ 100) :
    Calls Try.prog 102 #[.int .i64 (257 + (k : Int))] w fun e w' => e = .returned (.int .i64 (lbits (257 + k) : Nat)) ∧ w = w' := by
  have := ref08_lbits (257 + k) w (by omega)
  rwa [show ((257 + k : Nat) : Int) = 257 + (k : Int) from by simp] at this
theorem lens_made (w : World) (k : Nat) (hk : k < 29) :
    Calls Try.prog 101 #[] w fun e w' => ∃ b, e = .returned (.slice (some ⟨b, 0, none⟩) 29 29) ∧ w'.cell? ⟨b, k, none⟩ = some (.int .i64 (lensL.getD k 0 : Nat)) ∧ Below w.heap.size w w' :=
  (ref08_lengths w).mono fun e w' ⟨h1, h2⟩ => by
    subst h2
    refine ⟨_, h1, ?_, (Below.refl _ _).alloc (Nat.le_refl _) _⟩
    obtain ⟨b, off, he, _, hc⟩ := (lens_row w _ rfl).at (i := k) hk
    cases he
    rw [Nat.zero_add] at hc
    rw [hc]
    simp [show k < lensL.length from hk] <;> rfl
theorem dist_made (w : World) (k : Nat) (hk : k < 30) :
    Calls Try.prog 103 #[] w fun e w' => ∃ b, e = .returned (.slice (some ⟨b, 0, none⟩) 30 30) ∧ w'.cell? ⟨b, k, none⟩ = some (.int .i64 (distL.getD k 0 : Nat)) ∧ Below w.heap.size w w' :=
  (ref08_distances w).mono fun e w' ⟨h1, h2⟩ => by
    subst h2
    refine ⟨_, h1, ?_, (Below.refl _ _).alloc (Nat.le_refl _) _⟩
    obtain ⟨b, off, he, _, hc⟩ := (dist_row w _ rfl).at (i := k) hk
    cases he
    rw [Nat.zero_add] at hc
    rw [hc]
    simp [show k < distL.length from hk] <;> rfl
theorem evalC (a : Act) (v : Value) : a.eval (.const v) = v := rfl
theorem eqgA (t : TypeId) (x y : Operand) (u v : Value) (w : World) : (eqGuard .add t x y u v).run Try.prog w = .ok () w := by simp [eqGuard, go_sem]
theorem eqgS (t : TypeId) (x y : Operand) (u v : Value) (w : World) : (eqGuard .sub t x y u v).run Try.prog w = .ok () w := by simp [eqGuard, go_sem]
theorem addI (t : TypeId) (x y : Int) (w : World) : (binOp .add t (.int .i64 x) (.int .i64 y) : Sem Value).run Try.prog w = .ok (.int .i64 (IntKind.i64.wrap (x + y))) w := by
  simp [binOp, Op.intArith, go_sem]
theorem subI (t : TypeId) (x y : Int) (w : World) : (binOp .sub t (.int .i64 x) (.int .i64 y) : Sem Value).run Try.prog w = .ok (.int .i64 (IntKind.i64.wrap (x - y))) w := by
  simp [binOp, Op.intArith, go_sem]
theorem ixI (b k N c : Nat) (h : k < N) (w : World) : (Instr.indexAt 59 (.slice (some ⟨b, 0, none⟩) N c) (.int .i64 (k : Nat))).run Try.prog w = .ok (.pointer (some ⟨b, k, none⟩)) w := by
  have h1 : ¬ N ≤ k := by omega
  simp [Instr.indexAt, asIntOf, run_underlying Try.underlying59, h, go_sem]
theorem ldInt (p : Addr) (v : Value) (w : World) (h : w.cell? p = some v) : (Instr.loadAt 3 (.pointer (some p))).run Try.prog w = .ok v w := by
  simp [Instr.loadAt, Instr.sureAddr, loadVar, isAgg, run_underlying Try.underlying3, h, go_sem]
theorem cell_lt {w : World} {b o : Nat} {v : Value} (h : w.cell? ⟨b, o, none⟩ = some v) : b < w.heap.size := by
  rcases Nat.lt_or_ge b w.heap.size with h' | h'
  · exact h'
  · simp [World.cell?, Array.getElem?_eq_none h'] at h
def rlV (n k bb xx : Nat) (j : Nat) (v : Value) (w : World) : Prop :=
  match j with
  | 0 => v = .int .i64 (k : Nat)
  | 1 => v = .int .i64 (257 + (k : Int))
  | 2 => v = .int .i64 (k : Nat)
  | 3 => v = .int .i64 (257 + (k : Int))
  | 4 => v = .int .i64 (bb : Nat)
  | 5 => v = .int .i64 (n : Nat)
  | 6 => ∃ b, v = .slice (some ⟨b, 0, none⟩) 29 29 ∧ w.cell? ⟨b, k, none⟩ = some (.int .i64 (xx : Nat)) ∧ b < w.heap.size
  | 7 => v = .int .i64 (k : Nat)
  | 8 => ∃ b, v = .pointer (some ⟨b, k, none⟩) ∧ w.cell? ⟨b, k, none⟩ = some (.int .i64 (xx : Nat)) ∧ b < w.heap.size
  | 9 => v = .int .i64 (xx : Nat)
  | 10 => v = .int .i64 ((n : Int) - (xx : Nat))
  | 11 => v = .int .i64 (257 + (k : Int))
  | 12 => v = .int .i64 (bb : Nat)
  | 13 => v = .int .i64 ((n : Int) - (xx : Nat))
  | 14 => v = .int .i64 0
  | _ => True
theorem rlV_below {n k bb xx : Nat} {w w' : World} (j : Nat) (u : Value) (hb : Below w.heap.size w w') (h : rlV n k bb xx j u w) : rlV n k bb xx j u w' := by
  unfold rlV at *
  split at h
  all_goals try exact h
  all_goals
    obtain ⟨b, h1, h2, h3⟩ := h
    exact ⟨b, h1, (hb.cell (p := ⟨b, k, none⟩) h3).trans h2, Nat.lt_of_lt_of_le h3 hb.size⟩
def rdV (n k bb xx : Nat) (j : Nat) (v : Value) (w : World) : Prop :=
  match j with
  | 0 => v = .int .i64 (k : Nat)
  | 1 => v = .int .i64 (k : Nat)
  | 2 => v = .int .i64 (bb : Nat)
  | 3 => v = .int .i64 (n : Nat)
  | 4 => ∃ b, v = .slice (some ⟨b, 0, none⟩) 30 30 ∧ w.cell? ⟨b, k, none⟩ = some (.int .i64 (xx : Nat)) ∧ b < w.heap.size
  | 5 => v = .int .i64 (k : Nat)
  | 6 => ∃ b, v = .pointer (some ⟨b, k, none⟩) ∧ w.cell? ⟨b, k, none⟩ = some (.int .i64 (xx : Nat)) ∧ b < w.heap.size
  | 7 => v = .int .i64 (xx : Nat)
  | 8 => v = .int .i64 ((n : Int) - (xx : Nat))
  | 9 => v = .int .i64 (k : Nat)
  | 10 => v = .int .i64 (bb : Nat)
  | 11 => v = .int .i64 ((n : Int) - (xx : Nat))
  | 12 => v = .int .i64 0
  | _ => True
theorem rdV_below {n k bb xx : Nat} {w w' : World} (j : Nat) (u : Value) (hb : Below w.heap.size w w') (h : rdV n k bb xx j u w) : rdV n k bb xx j u w' := by
  unfold rdV at *
  split at h
  all_goals try exact h
  all_goals
    obtain ⟨b, h1, h2, h3⟩ := h
    exact ⟨b, h1, (hb.cell (p := ⟨b, k, none⟩) h3).trans h2, Nat.lt_of_lt_of_le h3 hb.size⟩
set_option maxHeartbeats 1600000 in
theorem ref08_length (n : Nat) (w : World) (h3 : 3 ≤ n) (h258 : n ≤ 258) :
    Calls Try.prog 66 #[.int .i64 n] w fun e w' =>
      e = .returned (.tuple #[.int .i64 (257 + lk n : Nat), .int .i64 (lbits (257 + lk n) : Nat), .int .i64 ((n - lensL.getD (lk n) 0 : Nat) : Int), .int .i64 0]) ∧ Below w.heap.size w w' := by
  have hk : lk n < 29 := lastLe_lt n (by decide)
  have hle : lensL.getD (lk n) 0 ≤ n := (lastLe_spec lens_up n (by decide) h3).1
  have HL := Lib.hid (show lastLe lensL n = lk n from rfl)
  have HP : ((257 + lk n : Nat) : Int) = 257 + ((lk n : Nat) : Int) := by simp
  have HD : ((n - lensL.getD (lk n) 0 : Nat) : Int) = (n : Int) - (lensL.getD (lk n) 0 : Nat) := by omega
  rw [HP, HD]
  clear HP HD
  generalize lk n = k at *
  have HM := Lib.hid (fun (w : World) => lens_made w k hk)
  have HBB := Lib.hid (fun (w : World) => ref08_lbits_k k w (by omega))
  generalize lensL.getD k 0 = xx at *
  generalize lbits (257 + k) = bb at *
  have hB0 : Below w.heap.size w (w.alloc (.cells (lensI.map (Value.int .i64)).toArray 3)) := (Below.refl _ _).alloc (Nat.le_refl _) _
  have HB := Lib.hid hB0
  clear hB0
  go_enter Try.func66, Try.ntmps66
  go_wp2_with (first | (go_at_call 101; refine (ref08_lengths _).mono ?_; rintro e w' ⟨rfl, rfl⟩) | (go_at_call 100; refine (ref08_last _ _ _ lensL n (by decide) (by decide) lens_up h3 (lens_row w _ rfl)).mono ?_; rintro e w' ⟨rfl, rfl⟩; rw [HL.out]))
  clear HL
  generalize w.alloc (.cells (lensI.map (Value.int .i64)).toArray 3) = w1 at *
  have hw1 : IntKind.i64.wrap (257 + (k : Int)) = 257 + (k : Int) := IntWalk.i64_in _ (by omega)
  have hw2 : IntKind.i64.wrap ((n : Int) - (xx : Int)) = (n : Int) - (xx : Int) := IntWalk.i64_in _ (by omega)
  refine wp_region_flow [16, 17, 18, 19, 20, 21, 22, 23, 24, 25, 26, 2, 3, 4, 5] (fun j => j == 11 || j == 12 || j == 13 || j == 14) (fun w => Below w1.heap.size w1 w) (rlV n k bb xx) (fun _ _ _ _ => True) (by kernel_rfl) (by kernel_rfl) (OneEach.mk' (by kernel_rfl) (by kernel_rfl)) (by kernel_rfl) (by kernel_rfl) ?_ ?_ ?_
  · exact ⟨rfl, rfl, rfl, Nat.le_refl _, fun _ _ => rfl⟩
  · intro i0 o hi0 a1 W hR hout hdep
    have hsz : i0 < 15 := (Array.getElem?_eq_some_iff.1 hi0).1
    have hall : i0 = 0 ∨ i0 = 1 ∨ i0 = 2 ∨ i0 = 3 ∨ i0 = 4 ∨ i0 = 5 ∨ i0 = 6 ∨ i0 = 7 ∨ i0 = 8 ∨ i0 = 9 ∨ i0 = 10 ∨ i0 = 11 ∨ i0 = 12 ∨ i0 = 13 ∨ i0 = 14 := by omega
    clear hsz
    rcases hall with rfl | rfl | rfl | rfl | rfl | rfl | rfl | rfl | rfl | rfl | rfl | rfl | rfl | rfl | rfl <;> simp only [List.getElem?_toArray, List.getElem?_cons_zero, List.getElem?_cons_succ, Option.some.injEq] at hi0 <;> subst hi0
    · have f6 : a1.eval (.tmp 6) = .int .i64 (k : Nat) := hout 6 (by decide)
      refine stepTo_val (v := .int .i64 (k : Nat)) (w' := W) (by simp [execOp, f6]) ⟨_, rfl, hR, fun j u hu hV _ => ⟨hV, trivial, trivial⟩, rfl⟩
    · have e16 : a1.eval (.tmp 16) = .int .i64 (k : Nat) := hdep ⟨0, .data⟩ (by simp) rfl _ rfl
      refine stepTo_val (v := .int .i64 (257 + (k : Int))) (w' := W) (by simp [execOp, e16, evalC, eqgA, addI, hw1]) ⟨_, rfl, hR, fun j u hu hV _ => ⟨hV, trivial, trivial⟩, rfl⟩
    · have f6 : a1.eval (.tmp 6) = .int .i64 (k : Nat) := hout 6 (by decide)
      refine stepTo_val (v := .int .i64 (k : Nat)) (w' := W) (by simp [execOp, f6]) ⟨_, rfl, hR, fun j u hu hV _ => ⟨hV, trivial, trivial⟩, rfl⟩
    · have e18 : a1.eval (.tmp 18) = .int .i64 (k : Nat) := hdep ⟨2, .data⟩ (by simp) rfl _ rfl
      refine stepTo_val (v := .int .i64 (257 + (k : Int))) (w' := W) (by simp [execOp, e18, evalC, eqgA, addI, hw1]) ⟨_, rfl, hR, fun j u hu hV _ => ⟨hV, trivial, trivial⟩, rfl⟩
    · have e19 : a1.tmps[19]?.getD undef = .int .i64 (257 + (k : Int)) := by simpa [leftBy] using (show leftBy a1 _ = .int .i64 (257 + (k : Int)) from hdep ⟨3, .data⟩ (by simp) rfl _ rfl)
      refine stepTo_call (f := 102) (args := #[.int .i64 (257 + (k : Int))]) (by simp [e19, go_sem]) ((HBB.out W).mono ?_)
      rintro e w' ⟨rfl, rfl⟩
      exact ⟨_, rfl, _, rfl, hR, fun j u hu hV _ => ⟨hV, trivial, trivial⟩, rfl⟩
    · have f0 : a1.eval (.tmp 0) = .int .i64 (n : Nat) := hout 0 (by decide)
      refine stepTo_val (v := .int .i64 (n : Nat)) (w' := W) (by simp [execOp, f0]) ⟨_, rfl, hR, fun j u hu hV _ => ⟨hV, trivial, trivial⟩, rfl⟩
    · refine stepTo_call (f := 101) (args := #[]) (by simp [go_sem]) ((HM.out W).mono ?_)
      rintro e w' ⟨b, rfl, hc, hb⟩
      exact ⟨_, rfl, _, rfl, hR.trans (hb.mono hR.size), fun j u hu hV _ => ⟨rlV_below j u hb hV, trivial, trivial⟩, b, rfl, hc, cell_lt hc⟩
    · have f6 : a1.eval (.tmp 6) = .int .i64 (k : Nat) := hout 6 (by decide)
      refine stepTo_val (v := .int .i64 (k : Nat)) (w' := W) (by simp [execOp, f6]) ⟨_, rfl, hR, fun j u hu hV _ => ⟨hV, trivial, trivial⟩, rfl⟩
    · obtain ⟨b, e22', hcell, hblt⟩ := hdep ⟨6, .data⟩ (by simp) rfl _ rfl
      have e22 : a1.eval (.tmp 22) = .slice (some ⟨b, 0, none⟩) 29 29 := e22'
      have e23 : a1.eval (.tmp 23) = .int .i64 (k : Nat) := hdep ⟨7, .data⟩ (by simp) rfl _ rfl
      refine stepTo_val (v := .pointer (some ⟨b, k, none⟩)) (w' := W) (by simp [execOp, e22, e23, ixI b k 29 29 hk]) ⟨_, rfl, hR, fun j u hu hV _ => ⟨hV, trivial, trivial⟩, b, rfl, hcell, hblt⟩
    · obtain ⟨b, e24', hcell, hblt⟩ := hdep ⟨8, .data⟩ (by simp) rfl _ rfl
      have e24 : a1.eval (.tmp 24) = .pointer (some ⟨b, k, none⟩) := e24'
      refine stepTo_val (v := .int .i64 (xx : Nat)) (w' := W) (by simp [execOp, e24, ldInt _ _ _ hcell]) ⟨_, rfl, hR, fun j u hu hV _ => ⟨hV, trivial, trivial⟩, rfl⟩
    · have e21 : a1.eval (.tmp 21) = .int .i64 (n : Nat) := hdep ⟨5, .data⟩ (by simp) rfl _ rfl
      have e25 : a1.eval (.tmp 25) = .int .i64 (xx : Nat) := hdep ⟨9, .data⟩ (by simp) rfl _ rfl
      refine stepTo_val (v := .int .i64 ((n : Int) - (xx : Nat))) (w' := W) (by simp [execOp, e21, e25, eqgS, subI, hw2]) ⟨_, rfl, hR, fun j u hu hV _ => ⟨hV, trivial, trivial⟩, rfl⟩
    · have e17 : a1.eval (.tmp 17) = .int .i64 (257 + (k : Int)) := hdep ⟨1, .data⟩ (by simp) rfl _ rfl
      refine stepTo_val (v := .int .i64 (257 + (k : Int))) (w' := W) (by simp [execOp, e17]) ⟨_, rfl, hR, fun j u hu hV _ => ⟨hV, trivial, trivial⟩, rfl⟩
    · have e20 : a1.eval (.tmp 20) = .int .i64 (bb : Nat) := hdep ⟨4, .data⟩ (by simp) rfl _ rfl
      refine stepTo_val (v := .int .i64 (bb : Nat)) (w' := W) (by simp [execOp, e20]) ⟨_, rfl, hR, fun j u hu hV _ => ⟨hV, trivial, trivial⟩, rfl⟩
    · have e26 : a1.eval (.tmp 26) = .int .i64 ((n : Int) - (xx : Nat)) := hdep ⟨10, .data⟩ (by simp) rfl _ rfl
      refine stepTo_val (v := .int .i64 ((n : Int) - (xx : Nat))) (w' := W) (by simp [execOp, e26]) ⟨_, rfl, hR, fun j u hu hV _ => ⟨hV, trivial, trivial⟩, rfl⟩
    · refine stepTo_val (v := .int .i64 0) (w' := W) (by simp [execOp, evalC]) ⟨_, rfl, hR, fun j u hu hV _ => ⟨hV, trivial, trivial⟩, rfl⟩
  · intro f W hR hV
    have v1 : f 2 = .int .i64 (257 + (k : Int)) := hV 11 _ rfl rfl
    have v2 : f 3 = .int .i64 (bb : Nat) := hV 12 _ rfl rfl
    have v3 : f 4 = .int .i64 ((n : Int) - (xx : Nat)) := hV 13 _ rfl rfl
    have v4 : f 5 = .int .i64 0 := hV 14 _ rfl rfl
    simp only [spread, List.contains_cons, List.contains_nil, Nat.reduceBEq, Bool.or_false, Bool.or_true, cond_true, cond_false, Nat.reduceAdd, Nat.zero_add, v1, v2, v3, v4]
    go_wp2_with fail
    refine bodyPost_ret (results_tmp4 rfl _ _ _) rfl ?_
    exact ⟨rfl, HB.out.trans (hR.mono HB.out.size)⟩
set_option maxHeartbeats 1600000 in
theorem ref08_distance (n : Nat) (w : World) (h1 : 1 ≤ n) (h2 : n ≤ 32768) :
    Calls Try.prog 67 #[.int .i64 n] w fun e w' =>
      e = .returned (.tuple #[.int .i64 (dk n : Nat), .int .i64 (dbits (dk n) : Nat), .int .i64 ((n - distL.getD (dk n) 0 : Nat) : Int), .int .i64 0]) ∧ Below w.heap.size w w' := by
  have hk : dk n < 30 := lastLe_lt n (by decide)
  have hle : distL.getD (dk n) 0 ≤ n := (lastLe_spec dist_up n (by decide) h1).1
  have HL := Lib.hid (show lastLe distL n = dk n from rfl)
  have HD : ((n - distL.getD (dk n) 0 : Nat) : Int) = (n : Int) - (distL.getD (dk n) 0 : Nat) := by omega
  rw [HD]
  clear HD
  generalize dk n = k at *
  have HM := Lib.hid (fun (w : World) => dist_made w k hk)
  have HBB := Lib.hid (fun (w : World) => ref08_dbits k w (by omega))
  generalize distL.getD k 0 = xx at *
  generalize dbits k = bb at *
  have hB0 : Below w.heap.size w (w.alloc (.cells (distI.map (Value.int .i64)).toArray 3)) := (Below.refl _ _).alloc (Nat.le_refl _) _
  have HB := Lib.hid hB0
  clear hB0
  go_enter Try.func67, Try.ntmps67
  go_wp2_with (first | (go_at_call 103; refine (ref08_distances _).mono ?_; rintro e w' ⟨rfl, rfl⟩) | (go_at_call 100; refine (ref08_last _ _ _ distL n (by decide) (by decide) dist_up h1 (dist_row w _ rfl)).mono ?_; rintro e w' ⟨rfl, rfl⟩; rw [HL.out]))
  clear HL
  generalize w.alloc (.cells (distI.map (Value.int .i64)).toArray 3) = w1 at *
  have hw2 : IntKind.i64.wrap ((n : Int) - (xx : Int)) = (n : Int) - (xx : Int) := IntWalk.i64_in _ (by omega)
  refine wp_region_flow [16, 17, 18, 19, 20, 21, 22, 23, 24, 2, 3, 4, 5] (fun j => j == 9 || j == 10 || j == 11 || j == 12) (fun w => Below w1.heap.size w1 w) (rdV n k bb xx) (fun _ _ _ _ => True) (by kernel_rfl) (by kernel_rfl) (OneEach.mk' (by kernel_rfl) (by kernel_rfl)) (by kernel_rfl) (by kernel_rfl) ?_ ?_ ?_
  · exact ⟨rfl, rfl, rfl, Nat.le_refl _, fun _ _ => rfl⟩
  · intro i0 o hi0 a1 W hR hout hdep
    have hsz : i0 < 13 := (Array.getElem?_eq_some_iff.1 hi0).1
    have hall : i0 = 0 ∨ i0 = 1 ∨ i0 = 2 ∨ i0 = 3 ∨ i0 = 4 ∨ i0 = 5 ∨ i0 = 6 ∨ i0 = 7 ∨ i0 = 8 ∨ i0 = 9 ∨ i0 = 10 ∨ i0 = 11 ∨ i0 = 12 := by omega
    clear hsz
    rcases hall with rfl | rfl | rfl | rfl | rfl | rfl | rfl | rfl | rfl | rfl | rfl | rfl | rfl <;> simp only [List.getElem?_toArray, List.getElem?_cons_zero, List.getElem?_cons_succ, Option.some.injEq] at hi0 <;> subst hi0
    · have f6 : a1.eval (.tmp 6) = .int .i64 (k : Nat) := hout 6 (by decide)
      refine stepTo_val (v := .int .i64 (k : Nat)) (w' := W) (by simp [execOp, f6]) ⟨_, rfl, hR, fun j u hu hV _ => ⟨hV, trivial, trivial⟩, rfl⟩
    · have f6 : a1.eval (.tmp 6) = .int .i64 (k : Nat) := hout 6 (by decide)
      refine stepTo_val (v := .int .i64 (k : Nat)) (w' := W) (by simp [execOp, f6]) ⟨_, rfl, hR, fun j u hu hV _ => ⟨hV, trivial, trivial⟩, rfl⟩
    · have e17 : a1.tmps[17]?.getD undef = .int .i64 (k : Nat) := by simpa [leftBy] using (show leftBy a1 _ = .int .i64 (k : Nat) from hdep ⟨1, .data⟩ (by simp) rfl _ rfl)
      refine stepTo_call (f := 104) (args := #[.int .i64 (k : Nat)]) (by simp [e17, go_sem]) ((HBB.out W).mono ?_)
      rintro e w' ⟨rfl, rfl⟩
      exact ⟨_, rfl, _, rfl, hR, fun j u hu hV _ => ⟨hV, trivial, trivial⟩, rfl⟩
    · have f0 : a1.eval (.tmp 0) = .int .i64 (n : Nat) := hout 0 (by decide)
      refine stepTo_val (v := .int .i64 (n : Nat)) (w' := W) (by simp [execOp, f0]) ⟨_, rfl, hR, fun j u hu hV _ => ⟨hV, trivial, trivial⟩, rfl⟩
    · refine stepTo_call (f := 103) (args := #[]) (by simp [go_sem]) ((HM.out W).mono ?_)
      rintro e w' ⟨b, rfl, hc, hb⟩
      exact ⟨_, rfl, _, rfl, hR.trans (hb.mono hR.size), fun j u hu hV _ => ⟨rdV_below j u hb hV, trivial, trivial⟩, b, rfl, hc, cell_lt hc⟩
    · have f6 : a1.eval (.tmp 6) = .int .i64 (k : Nat) := hout 6 (by decide)
      refine stepTo_val (v := .int .i64 (k : Nat)) (w' := W) (by simp [execOp, f6]) ⟨_, rfl, hR, fun j u hu hV _ => ⟨hV, trivial, trivial⟩, rfl⟩
    · obtain ⟨b, e20', hcell, hblt⟩ := hdep ⟨4, .data⟩ (by simp) rfl _ rfl
      have e20 : a1.eval (.tmp 20) = .slice (some ⟨b, 0, none⟩) 30 30 := e20'
      have e21 : a1.eval (.tmp 21) = .int .i64 (k : Nat) := hdep ⟨5, .data⟩ (by simp) rfl _ rfl
      refine stepTo_val (v := .pointer (some ⟨b, k, none⟩)) (w' := W) (by simp [execOp, e20, e21, ixI b k 30 30 hk]) ⟨_, rfl, hR, fun j u hu hV _ => ⟨hV, trivial, trivial⟩, b, rfl, hcell, hblt⟩
    · obtain ⟨b, e22', hcell, hblt⟩ := hdep ⟨6, .data⟩ (by simp) rfl _ rfl
      have e22 : a1.eval (.tmp 22) = .pointer (some ⟨b, k, none⟩) := e22'
      refine stepTo_val (v := .int .i64 (xx : Nat)) (w' := W) (by simp [execOp, e22, ldInt _ _ _ hcell]) ⟨_, rfl, hR, fun j u hu hV _ => ⟨hV, trivial, trivial⟩, rfl⟩
    · have e19 : a1.eval (.tmp 19) = .int .i64 (n : Nat) := hdep ⟨3, .data⟩ (by simp) rfl _ rfl
      have e23 : a1.eval (.tmp 23) = .int .i64 (xx : Nat) := hdep ⟨7, .data⟩ (by simp) rfl _ rfl
      refine stepTo_val (v := .int .i64 ((n : Int) - (xx : Nat))) (w' := W) (by simp [execOp, e19, e23, eqgS, subI, hw2]) ⟨_, rfl, hR, fun j u hu hV _ => ⟨hV, trivial, trivial⟩, rfl⟩
    · have e16 : a1.eval (.tmp 16) = .int .i64 (k : Nat) := hdep ⟨0, .data⟩ (by simp) rfl _ rfl
      refine stepTo_val (v := .int .i64 (k : Nat)) (w' := W) (by simp [execOp, e16]) ⟨_, rfl, hR, fun j u hu hV _ => ⟨hV, trivial, trivial⟩, rfl⟩
    · have e18 : a1.eval (.tmp 18) = .int .i64 (bb : Nat) := hdep ⟨2, .data⟩ (by simp) rfl _ rfl
      refine stepTo_val (v := .int .i64 (bb : Nat)) (w' := W) (by simp [execOp, e18]) ⟨_, rfl, hR, fun j u hu hV _ => ⟨hV, trivial, trivial⟩, rfl⟩
    · have e24 : a1.eval (.tmp 24) = .int .i64 ((n : Int) - (xx : Nat)) := hdep ⟨8, .data⟩ (by simp) rfl _ rfl
      refine stepTo_val (v := .int .i64 ((n : Int) - (xx : Nat))) (w' := W) (by simp [execOp, e24]) ⟨_, rfl, hR, fun j u hu hV _ => ⟨hV, trivial, trivial⟩, rfl⟩
    · refine stepTo_val (v := .int .i64 0) (w' := W) (by simp [execOp, evalC]) ⟨_, rfl, hR, fun j u hu hV _ => ⟨hV, trivial, trivial⟩, rfl⟩
  · intro f W hR hV
    have v1 : f 2 = .int .i64 (k : Nat) := hV 9 _ rfl rfl
    have v2 : f 3 = .int .i64 (bb : Nat) := hV 10 _ rfl rfl
    have v3 : f 4 = .int .i64 ((n : Int) - (xx : Nat)) := hV 11 _ rfl rfl
    have v4 : f 5 = .int .i64 0 := hV 12 _ rfl rfl
    simp only [spread, List.contains_cons, List.contains_nil, Nat.reduceBEq, Bool.or_false, Bool.or_true, cond_true, cond_false, Nat.reduceAdd, Nat.zero_add, v1, v2, v3, v4]
    go_wp2_with fail
    refine bodyPost_ret (results_tmp4 rfl _ _ _) rfl ?_
    exact ⟨rfl, HB.out.trans (hR.mono HB.out.size)⟩
end Go.Proofs.Ytmgoeokdlklabaa

namespace Go.Proofs.Ytmgoeokdlklabaa
open Go.RowKit M04
set_option linter.unusedVariables false
theorem et_u32 : ElemTy Try.prog 129 27 .u32 4 := ⟨Try.underlying129, by kernel_rfl⟩
theorem et_u8 : ElemTy Try.prog 22 5 .u8 1 := ⟨Try.underlying22, by kernel_rfl⟩
def WordsOut (w : World) (l : List Nat) (e : Ending) (w' : World) : Prop :=
  ∃ a cap, e = .returned (.tuple #[.slice a (wordsE l).1.length cap, .int .i64 (wordsE l).2]) ∧ OwnN 27 .u32 w' w.heap.size a cap (wordsE l).1 ∧ Below w.heap.size w w'
end Go.Proofs.Ytmgoeokdlklabaa

namespace Go.Proofs.Ytmgoeokdlklabaa
open Go.RowKit M04
set_option linter.unusedVariables false
set_option maxHeartbeats 400000 in
theorem kraft_weight (a : Option Addr) (cap : Nat) (l : List Nat) (w : World) (hr : RowN .u8 w a cap l) (hm : May l) :
    Calls Try.prog 90 #[.slice a l.length cap] w fun e w' => e = .returned (.int .i64 (weight l)) ∧ w = w' := by
  have hlen := hr.len
  obtain ⟨hl, hn⟩ := hm
  go_enter Try.func90, Try.ntmps90
  go_wp2
  go_loop [3, 8] (fun t i => ∃ k : Nat, k ≤ l.length ∧ i = .int .i64 k ∧ t = .int .i64 (weight (l.take k))) (fun _ i => l.length - (intOf i).toNat)
  case atStart => exact ⟨0, Nat.zero_le _, rfl, rfl⟩
  case round =>
    obtain ⟨k, hk, rfl, rfl⟩ := hrel
    by_cases hlt : k < l.length
    · obtain ⟨b, off, rfl, hb, hck⟩ := hr.at hlt
      clear hr
      have hx := hl _ (List.getElem_mem hlt)
      have H := Lib.hid (weight_succ l k hlt)
      have hw : weight (l.take k) ≤ 512 * 2 ^ 20 := weight_take_le l k hn
      clear hl
      generalize l[k] = x at *
      generalize weight (l.take k) = s at *
      go_wp2
      · go_round
        case rel =>
          refine ⟨k + 1, by omega, by go_num, int_eq ?_⟩
          have h0 : x ≠ 0 := by omega
          have h2 : (2 : Int) ^ (20 - x) = ((2 ^ (20 - x) : Nat) : Int) := by simp
          have h3 : 2 ^ (20 - x) ≤ 2 ^ 20 := Nat.pow_le_pow_right (by simp) (by omega)
          rw [H.out, h2, wt, if_neg h0]
          generalize 2 ^ (20 - x) = p at *
          rw [IntWalk.wrap64_in p (by omega), IntWalk.wrap64_in _ (by omega)]; simp
        case measure => simp [intOf]; omega
      · go_round
        case rel =>
          refine ⟨k + 1, by omega, by go_num, int_eq ?_⟩
          have h0 : x = 0 := by omega
          rw [H.out, wt, if_pos h0]; simp
        case measure => simp [intOf]; omega
    · go_wp2
      go_ret
      exact ⟨ret_int (by rw [List.take_of_length_le (by omega)]), rfl⟩
set_option maxHeartbeats 400000 in
theorem slices_max (a : Option Addr) (cap : Nat) (l : List Nat) (w : World) (hr : RowN .u8 w a cap l) (h0 : 0 < l.length) :
    Calls Try.prog 118 #[.slice a l.length cap] w fun e w' => e = .returned (.int .u8 (top l)) ∧ w = w' := by
  have hlen := hr.len
  obtain ⟨b, off, rfl, hb, hc0⟩ := hr.at h0
  simp only [Nat.add_zero] at hc0
  have H0 : Hid (top (l.take 1) = l[0]) := by have := top_snoc l 0 h0; simpa [Hid, top] using this
  go_enter Try.func118, Try.ntmps118
  go_wp2
  go_loop [3, 4] (fun t i => ∃ k : Nat, 1 ≤ k ∧ k ≤ l.length ∧ i = .int .i64 k ∧ t = .int .u8 (top (l.take k))) (fun _ i => l.length - (intOf i).toNat)
  case atStart => exact ⟨1, by omega, by omega, rfl, by rw [H0.out]⟩
  case round =>
    obtain ⟨k, hk1, hk, rfl, rfl⟩ := hrel
    by_cases hlt : k < l.length
    · obtain ⟨b', off', he, hb', hck⟩ := hr.at hlt
      simp only [Option.some.injEq, Addr.mk.injEq, and_true] at he
      obtain ⟨rfl, rfl⟩ := he
      clear hr hc0 H0
      have H := Lib.hid (top_snoc l k hlt)
      generalize l[k] = x at *
      generalize top (l.take k) = s at *
      go_wp2
      go_round
      case rel => exact ⟨k + 1, by omega, by omega, by go_num, int_eq (by rw [H.out]; split <;> omega)⟩
      case measure => simp [intOf]; omega
    · go_wp2
      go_ret
      exact ⟨ret_int (by rw [List.take_of_length_le (by omega)]), rfl⟩
set_option maxHeartbeats 400000 in
theorem kraft_may (a : Option Addr) (cap : Nat) (l : List Nat) (w : World) (hr : RowN .u8 w a cap l) :
    Calls Try.prog 89 #[.slice a l.length cap] w fun e w' => e = .returned (.bool (mayB l)) ∧ w = w' := by
  have hlen := hr.len
  by_cases h5 : l.length ≤ 512
  · by_cases h0 : l = []
    · subst h0
      go_enter Try.func89, Try.ntmps89
      go_wp2
      go_ret
      exact ⟨rfl, rfl⟩
    · have hp : 0 < l.length := List.length_pos_iff.2 h0
      have hb : ((l.length : Int) == 0) = false := by simp; omega
      have H : Hid (mayB l = decide ((top l : Int) ≤ 20)) := by
        have := top_le l 20
        show decide (May l) = _
        rw [decide_eq_decide, May]
        constructor
        · intro h; have := this.2 h.1; omega
        · intro h; exact ⟨this.1 (by omega), h5⟩
      clear h0
      go_enter Try.func89, Try.ntmps89
      go_wp2_with (go_at_call 118; refine (slices_max _ _ _ _ hr hp).mono ?_; rintro e w' ⟨rfl, rfl⟩)
      go_ret
      exact ⟨ret_bool H.out.symm, rfl⟩
  · have H : Hid (mayB l = false) := by unfold Hid mayB May; simp [h5]
    go_enter Try.func89, Try.ntmps89
    go_wp2
    go_ret
    exact ⟨ret_bool H.out.symm, rfl⟩
set_option maxHeartbeats 400000 in
theorem kraft_classify (a : Option Addr) (cap : Nat) (l : List Nat) (w : World) (hr : RowN .u8 w a cap l) :
    Calls Try.prog 56 #[.slice a l.length cap] w fun e w' => e = .returned (.tuple #[.int .u8 (clsE l).1, .int .i64 (clsE l).2]) ∧ w = w' := by
  have hlen := hr.len
  by_cases hm : May l
  · have hB : mayB l = true := by simp [mayB, hm]
    have H : Hid (clsE l = (cls l, 0)) := by simp [Hid, clsE, hm]
    have H2 : Hid (cls l = if weight l = 0 then 0 else if weight l < 2 ^ 20 then 1 else if weight l = 2 ^ 20 then 2 else 3) := rfl
    have hw : weight l ≤ 512 * 2 ^ 20 := by have := weight_take_le l l.length hm.2; simpa using this
    have HM := Lib.hid hm
    clear hm
    rcases (by omega : weight l = 0 ∨ (weight l ≠ 0 ∧ weight l < 2 ^ 20) ∨ weight l = 2 ^ 20 ∨ 2 ^ 20 < weight l) with c | ⟨c, d⟩ | c | c
    · have b0 : ((weight l : Int) == 0) = true := by simp [c]
      have H3 : Hid (cls l = 0) := by rw [Hid, H2.out, if_pos c]
      clear c
      go_enter Try.func56, Try.ntmps56
      go_wp2_with (first | (go_at_call 89; refine (kraft_may _ _ _ _ hr).mono ?_; rintro e w' ⟨rfl, rfl⟩) | (go_at_call 90; refine (kraft_weight _ _ _ _ hr HM.out).mono ?_; rintro e w' ⟨rfl, rfl⟩))
      go_ret2
      exact ⟨by rw [H.out, H3.out]; rfl, rfl⟩
    · have b0 : ((weight l : Int) == 0) = false := by simp [c]
      have b1 : decide ((weight l : Int) < 1048576) = true := by simp; omega
      have H3 : Hid (cls l = 1) := by rw [Hid, H2.out, if_neg c, if_pos d]
      clear c
      go_enter Try.func56, Try.ntmps56
      go_wp2_with (first | (go_at_call 89; refine (kraft_may _ _ _ _ hr).mono ?_; rintro e w' ⟨rfl, rfl⟩) | (go_at_call 90; refine (kraft_weight _ _ _ _ hr HM.out).mono ?_; rintro e w' ⟨rfl, rfl⟩))
      go_ret2
      exact ⟨by rw [H.out, H3.out]; rfl, rfl⟩
    · have b0 : ((weight l : Int) == 0) = false := by simp [c]
      have H3 : Hid (cls l = 2) := by rw [Hid, H2.out, if_neg (by omega), if_neg (by omega), if_pos c]
      have b1 : decide ((weight l : Int) < 1048576) = false := by simp; omega
      have b2 : ((weight l : Int) == 1048576) = true := by simp [c]
      clear c
      go_enter Try.func56, Try.ntmps56
      go_wp2_with (first | (go_at_call 89; refine (kraft_may _ _ _ _ hr).mono ?_; rintro e w' ⟨rfl, rfl⟩) | (go_at_call 90; refine (kraft_weight _ _ _ _ hr HM.out).mono ?_; rintro e w' ⟨rfl, rfl⟩))
      go_ret2
      exact ⟨by rw [H.out, H3.out]; rfl, rfl⟩
    · have b0 : ((weight l : Int) == 0) = false := by simp; omega
      have H3 : Hid (cls l = 3) := by rw [Hid, H2.out, if_neg (by omega), if_neg (by omega), if_neg (by omega)]
      have b1 : decide ((weight l : Int) < 1048576) = false := by simp; omega
      have b2 : ((weight l : Int) == 1048576) = false := by simp; omega
      clear c
      go_enter Try.func56, Try.ntmps56
      go_wp2_with (first | (go_at_call 89; refine (kraft_may _ _ _ _ hr).mono ?_; rintro e w' ⟨rfl, rfl⟩) | (go_at_call 90; refine (kraft_weight _ _ _ _ hr HM.out).mono ?_; rintro e w' ⟨rfl, rfl⟩))
      go_ret2
      exact ⟨by rw [H.out, H3.out]; rfl, rfl⟩
  · have hB : mayB l = false := by simp [mayB, hm]
    have H : Hid (clsE l = (0, 5)) := by simp [Hid, clsE, hm]
    clear hm
    go_enter Try.func56, Try.ntmps56
    go_wp2_with (go_at_call 89; refine (kraft_may _ _ _ _ hr).mono ?_; rintro e w' ⟨rfl, rfl⟩)
    go_ret2
    exact ⟨by rw [H.out]; rfl, rfl⟩
end Go.Proofs.Ytmgoeokdlklabaa

namespace Go.Proofs.Ytmgoeokdlklabaa
open Go.RowKit Go.Shelf M04
attribute [local go_sem] Oper.semAt_some
set_option linter.unusedVariables false
theorem RowN.same {k : IntKind} {w W : World} {a : Option Addr} {cap : Nat} {l : List Nat} (h : RowN k w a cap l) (hs : w.heap.size ≤ W.heap.size) (hb : ∀ x, 0 < l.length → a = some x → W.heap[x.block]? = w.heap[x.block]?) : RowN k W a cap l := by
  obtain ⟨h1, h2, h3⟩ := h
  refine ⟨h1, h2, ?_⟩
  rcases h3 with h3 | ⟨b, off, rfl, hb', hc⟩
  · exact .inl h3
  · exact .inr ⟨b, off, rfl, by omega, fun i hi => (World.cell?_of_block (a := ⟨b, off + i, none⟩) (hb ⟨b, off, none⟩ (by omega) rfl)).trans (hc i hi)⟩
def orderS (a : Option Addr) (B : Nat) (l : List Nat) (b : Nat) : Prop := b = B ∨ (0 < l.length ∧ ∃ x, a = some x ∧ b = x.block)
def orderRow (l : List Nat) (i : Nat) : Array Value := #[.int .i64 (((ord l).getD i (0, 0)).1 : Nat), .int .u8 (((ord l).getD i (0, 0)).2 : Nat)]
theorem kraft_order (a : Option Addr) (cap : Nat) (l : List Nat) (w : World) :
    Calls Try.prog 110 #[.slice a l.length cap] w fun e w' => e = .returned (.func (.func 125) #[] #[.pointer (some ⟨w.heap.size, 0, none⟩)]) ∧ w' = w.alloc (.cells #[.slice a l.length cap] 22) := by
  have hmf : ∀ (fn : Fn) (first cap : Array Value) (w : World), (Instr.makeFunc fn first cap).run Try.prog w = .ok (.func fn first cap) w := fun _ _ _ _ => rfl
  go_enter Try.func110, Try.ntmps110
  go_wp2
  go_ret
  exact ⟨rfl, rfl⟩
theorem round_wide {n m : Nat} {P : Program} {l : Nat} {f : FuncId} {tmps : Array Value} {assign body : Code} {w : World} {R : Ending → World → Prop} (h : RoundIn Fence.wide n P l f tmps assign body w R) : RoundIn Fence.wide m P l f tmps assign body w R := ⟨h.1, fun c cs _ => h.2 c cs (room_wide _)⟩
theorem orderRow_at (l : List Nat) (i k n : Nat) (h : (ord l)[i]? = some (k, n)) : i < (ord l).length ∧ orderRow l i = #[.int .i64 (k : Nat), .int .u8 (n : Nat)] := by
  refine ⟨(List.getElem?_eq_some_iff.1 h).1, ?_⟩
  simp [orderRow, List.getD, h]
set_option maxHeartbeats 800000 in
theorem order_yields (a : Option Addr) (cap : Nat) (l : List Nat) (w : World) (B : Nat) (hr : RowN .u8 w a cap l) (hB : w.heap[B]? = some (.cells #[.slice a l.length cap] 22 (0, 0))) :
    Yields Try.prog 125 #[.pointer (some ⟨B, 0, none⟩)] (ord l).length (orderRow l) (orderS a B l) (fun _ => False) w := by
  intro y J Jx W hsame hJ hJx hY h0
  have hlen := hr.len
  have HY := Lib.hid hY
  clear hJ hJx hY
  refine callsIn_of_wp Try.func125 rfl trivial ?_ rfl
  simp only [Try.ntmps125, List.size_toArray, List.length_cons, List.length_nil, Nat.reduceAdd, Nat.reduceSub, Array.replicate_succ, Array.replicate_zero, List.push_toArray, List.append_toArray, List.nil_append, List.cons_append]
  gi_wp2
  gi_loopw [3] (fun n A => ∃ k : Nat, 1 ≤ k ∧ k ≤ 21 ∧ n = .int .u8 k ∧ SameOn (orderS a B l) w A ∧ J (if k = 21 then (ord l).length else (ordB l k 0).length) A) (fun n _ => 21 - (intOf n).toNat)
  case atStart => exact ⟨1, by omega, by omega, rfl, hsame, by simpa [ordB_one] using h0⟩
  case round =>
    obtain ⟨n, h1, h21, rfl, hsameA, hJA⟩ := hrel
    by_cases hn : n ≤ 20
    · rw [if_neg (by omega)] at hJA
      have hbn : decide ((n : Int) ≤ 20) = true := by simp; omega
      have hbox : wr.cell? ⟨B, 0, none⟩ = some (.slice a l.length cap) := cell_of_one ((hsameA.same B (.inl rfl)).trans hB)
      gi_wp2
      gi_loopw [12] (fun i A => ∃ k : Nat, k ≤ l.length ∧ i = .int .i64 k ∧ SameOn (orderS a B l) w A ∧ J (ordB l n k).length A) (fun i _ => l.length - (intOf i).toNat)
      case atStart => exact ⟨0, by omega, rfl, hsameA, hJA⟩
      case round =>
        clear hJA hsameA hbox
        obtain ⟨k, hk, rfl, hsameA, hJA⟩ := hrel
        by_cases hlt : k < l.length
        · have hrA := hr.same hsameA.size (fun x h0 hx => hsameA.same _ (.inr ⟨h0, x, hx, rfl⟩))
          obtain ⟨b, off, rfl, hb, hck⟩ := hrA.at hlt
          have hg : l.getD k 0 = l[k] := by simp [hlt]
          by_cases hx : l[k] = n
          · obtain ⟨hi, hrow⟩ := orderRow_at l _ k n (ord_at l n k hn (by omega) hlt (by omega))
            have hyy := HY.out _ _ hi hJA
            rw [hrow] at hyy
            obtain ⟨fn, tmps, assign, body, hy, hR⟩ := hyy
            have H := Lib.hid (ordB_hit l n k (by omega))
            have hbx : ((l[k] : Int) == (n : Int)) = true := by simp; omega
            clear hx hg hrow
            have HJ := Lib.hid hJA
            have HR := Lib.hid hR
            have HI := Lib.hid hi
            clear hJA hR hi
            generalize l[k] = x at *
            gi_wp2
            refine (round_wide HR.out).mono ?_
            rintro e W' (⟨rfl, hJ', hk'⟩ | ⟨rfl, hJx'⟩)
            · gi_wp2
              go_roundw
              case rel => exact ⟨k + 1, by omega, by go_num, hsameA.trans hk', by rw [H.out]; simpa using hJ'⟩
              case measure => simp [intOf]; omega
            · gi_wp2
              refine bodyPost_ret (results_none rfl _ _ _) rfl ?_
              exact ⟨⟨_, rfl⟩, .inr ⟨_, HI.out, hJx'⟩⟩
          · have H := Lib.hid (ordB_miss l n k (by omega))
            have hbx : ((l[k] : Int) == (n : Int)) = false := by simp; omega
            have HJ := Lib.hid hJA
            clear hx hg hJA
            generalize l[k] = x at *
            gi_wp2
            refine ⟨fun _ h => (by cases h), ?_⟩
            gi_wp2
            go_roundw
            case rel => exact ⟨k + 1, by omega, by go_num, hsameA, by rw [H.out]; exact HJ.out⟩
            case measure => simp [intOf]; omega
        · obtain rfl : k = l.length := by omega
          have HJ := Lib.hid hJA
          have H : Hid (ordB l n l.length = if n + 1 = 21 then ord l else ordB l (n + 1) 0) := by
            unfold Hid; split
            · obtain rfl : n = 20 := by omega
              rfl
            · exact (ordB_row l n (by omega)).symm
          clear hJA
          gi_wp2
          go_roundw
          case rel =>
            refine ⟨n + 1, by omega, by omega, by go_num, hsameA, ?_⟩
            have h3 := HJ.out
            rw [H.out] at h3
            split <;> simp_all
          case measure => simp [intOf]; omega
    · obtain rfl : n = 21 := by omega
      rw [if_pos rfl] at hJA
      have HJ := Lib.hid hJA
      clear hJA
      gi_wp2
      go_end0
      exact ⟨⟨_, rfl⟩, .inl HJ.out⟩
theorem four (w : World) (o1 o2 o3 o4 : Obj) : ((((w.alloc o1).alloc o2).alloc o3).alloc o4).heap.size = w.heap.size + 4 ∧ ((((w.alloc o1).alloc o2).alloc o3).alloc o4).heap[w.heap.size]? = some o1 ∧ ((((w.alloc o1).alloc o2).alloc o3).alloc o4).heap[w.heap.size + 1]? = some o2 ∧
    ((((w.alloc o1).alloc o2).alloc o3).alloc o4).heap[w.heap.size + 2]? = some o3 ∧ ((((w.alloc o1).alloc o2).alloc o3).alloc o4).heap[w.heap.size + 3]? = some o4 ∧ Below w.heap.size w ((((w.alloc o1).alloc o2).alloc o3).alloc o4) := by
  have h1 := World.alloc_heap_new w o1
  have h2 := World.alloc_heap_new (w.alloc o1) o2
  have h3 := World.alloc_heap_new ((w.alloc o1).alloc o2) o3
  have h4 := World.alloc_heap_new (((w.alloc o1).alloc o2).alloc o3) o4
  simp only [World.size_alloc] at h2 h3 h4
  refine ⟨by simp, ?_, ?_, ?_, h4, (((((Below.refl _ w).alloc (Nat.le_refl _) _).alloc (by simp) _).alloc (by simp; omega) _).alloc (by simp; omega) _)⟩
  · rw [Below.heap_alloc _ _ _ (by simp only [World.size_alloc]; omega), Below.heap_alloc _ _ _ (by simp only [World.size_alloc]; omega), Below.heap_alloc _ _ _ (by simp)]; exact h1
  · rw [Below.heap_alloc _ _ _ (by simp only [World.size_alloc]; omega), Below.heap_alloc _ _ _ (by simp)]; exact h2
  · rw [Below.heap_alloc _ _ _ (by simp)]; exact h3
theorem words_after (l : List Nat) (w : World) (B1 : Nat) (a : Option Addr) (N k n m : Nat) (o : List Nat) (A : World) {v1 v2 v3 : Value}
    (h1 : A.heap[B1 + 1]? = some (.cells #[v1] 27)) (h3 : A.heap[B1 + 2]? = some (.cells #[v2] 5)) (h4 : A.heap[B1]? = some (.cells #[v3] 129))
    (h5 : OwnN 27 .u32 A w.heap.size (some ⟨w.heap.size, 0, none⟩) l.length o) (h6 : Below w.heap.size w A) (hbl : ∀ x, 0 < l.length → a = some x → x.block < w.heap.size) (hlt : w.heap.size < B1) (hA : B1 + 4 ≤ A.heap.size) :
    let B := (((A.setCell ⟨B1 + 1, 0, none⟩ (.int .u32 m)).setCell ⟨w.heap.size, k, none⟩ (.int .u32 m)).setCell ⟨B1 + 1, 0, none⟩ (.int .u32 ((m + 1 : Nat) : Int))).setCell ⟨B1 + 1 + 1, 0, none⟩ (.int .u8 n)
    KeepsFrom N A B ∧ SameOn (orderS a (B1 + 3) l) A B ∧ B.heap[B1 + 1]? = some (.cells #[.int .u32 ((m + 1 : Nat) : Int)] 27) ∧ B.heap[B1 + 2]? = some (.cells #[.int .u8 n] 5) ∧ B.heap[B1]? = some (.cells #[v3] 129) ∧
      OwnN 27 .u32 B w.heap.size (some ⟨w.heap.size, 0, none⟩) l.length (o.set k m) ∧ Below w.heap.size w B := by
  intro B
  have s1 := one_setCell (u := .int .u32 m) h1
  have s2 := (Below.heap_setCell (A.setCell ⟨B1 + 1, 0, none⟩ (.int .u32 m)) ⟨w.heap.size, k, none⟩ (.int .u32 m) (B1 + 1) (by show B1 + 1 ≠ w.heap.size; omega)).trans s1
  have s3 := one_setCell (u := .int .u32 ((m + 1 : Nat) : Int)) s2
  have t1 := (Below.heap_setCell A ⟨B1 + 1, 0, none⟩ (.int .u32 m) (B1 + 2) (by show B1 + 2 ≠ B1 + 1; omega)).trans h3
  have t2 := (Below.heap_setCell (A.setCell ⟨B1 + 1, 0, none⟩ (.int .u32 m)) ⟨w.heap.size, k, none⟩ (.int .u32 m) (B1 + 2) (by show B1 + 2 ≠ w.heap.size; omega)).trans t1
  have t3 := (Below.heap_setCell ((A.setCell ⟨B1 + 1, 0, none⟩ (.int .u32 m)).setCell ⟨w.heap.size, k, none⟩ (.int .u32 m)) ⟨B1 + 1, 0, none⟩ (.int .u32 ((m + 1 : Nat) : Int)) (B1 + 2) (by show B1 + 2 ≠ B1 + 1; omega)).trans t2
  have u1 := (Below.heap_setCell A ⟨B1 + 1, 0, none⟩ (.int .u32 m) B1 (by show B1 ≠ B1 + 1; omega)).trans h4
  have u2 := (Below.heap_setCell (A.setCell ⟨B1 + 1, 0, none⟩ (.int .u32 m)) ⟨w.heap.size, k, none⟩ (.int .u32 m) B1 (by show B1 ≠ w.heap.size; omega)).trans u1
  have u3 := (Below.heap_setCell ((A.setCell ⟨B1 + 1, 0, none⟩ (.int .u32 m)).setCell ⟨w.heap.size, k, none⟩ (.int .u32 m)) ⟨B1 + 1, 0, none⟩ (.int .u32 ((m + 1 : Nat) : Int)) B1 (by show B1 ≠ B1 + 1; omega)).trans u2
  have ne : ∀ p : Addr, p.block ≠ w.heap.size → ∀ g, some (⟨w.heap.size, 0, none⟩ : Addr) = some ⟨g, 0, none⟩ → p.block ≠ g := fun p hp g hg => by
    simp only [Option.some.injEq, Addr.mk.injEq, and_true] at hg; rw [← hg]; exact hp
  refine ⟨((((KeepsOthers.setCell _ _ _).trans (KeepsOthers.setCell _ _ _)).trans (KeepsOthers.setCell _ _ _)).trans (KeepsOthers.setCell _ _ _)).from _, ?_, ?_, one_setCell t3, ?_, ?_, ?_⟩
  · refine (((((Only.refl (fun b => b = w.heap.size ∨ b = B1 + 1 ∨ b = B1 + 2) A).setCell (.inl (.inr (.inl rfl))) _).setCell (.inl (.inl rfl)) _).setCell (.inl (.inr (.inl rfl))) _).setCell (.inl (.inr (.inr rfl))) _).sameOn ?_
    rintro b (rfl | ⟨h0, x, hx, rfl⟩)
    · exact ⟨by omega, by omega⟩
    · have := hbl x h0 hx
      exact ⟨by omega, by omega⟩
  · exact (Below.heap_setCell _ _ _ _ (by show B1 + 1 ≠ B1 + 1 + 1; omega)).trans s3
  · exact (Below.heap_setCell _ _ _ _ (by show B1 ≠ B1 + 1 + 1; omega)).trans u3
  · exact OwnN.other (OwnN.other (OwnN.stored (OwnN.other h5 (ne _ (by show B1 + 1 ≠ _; omega)) _) k m).1 (ne _ (by show B1 + 1 ≠ _; omega)) _) (ne _ (by show B1 + 1 + 1 ≠ _; omega)) _
  · exact (((h6.setCell (by show w.heap.size ≤ B1 + 1; omega) _).setCell (Nat.le_refl _) _).setCell (by show w.heap.size ≤ B1 + 1; omega) _).setCell (by show w.heap.size ≤ B1 + 1 + 1; omega) _
theorem cls_over (l : List Nat) : cls l = 3 ↔ 2 ^ 20 < weight l := by
  unfold cls
  split
  · omega
  · split
    · omega
    · split <;> omega
set_option maxHeartbeats 800000 in
theorem kraft_words (a : Option Addr) (cap : Nat) (l : List Nat) (w : World) (hr : RowN .u8 w a cap l) :
    Calls Try.prog 77 #[.slice a l.length cap] w (WordsOut w l) := by
  have hlen := hr.len
  by_cases hm : May l
  case neg =>
    have H : Hid (wordsE l = ([], 5)) := by simp [Hid, wordsE, hm]
    have HC : clsE l = (0, 5) := by simp [clsE, hm]
    clear hm
    go_enter Try.func77, Try.ntmps77
    go_wp2_with (go_at_call 56; refine (kraft_classify _ _ _ _ hr).mono ?_; rintro e w' ⟨rfl, rfl⟩; rw [HC])
    go_ret2
    unfold WordsOut
    rw [H.out]
    exact ⟨none, 0, rfl, OwnN.nil _ _ _ _, Below.refl _ _⟩
  have HC : clsE l = (cls l, 0) := by simp [clsE, hm]
  by_cases ho : 2 ^ 20 < weight l
  · have H : Hid (wordsE l = ([], 2)) := by simp only [Hid, wordsE, hm, ho, not_true, if_false, if_true]
    have H3 := (cls_over l).2 ho
    rw [H3] at HC
    clear hm ho H3
    go_enter Try.func77, Try.ntmps77
    go_wp2_with (go_at_call 56; refine (kraft_classify _ _ _ _ hr).mono ?_; rintro e w' ⟨rfl, rfl⟩; rw [HC])
    go_ret2
    unfold WordsOut
    rw [H.out]
    exact ⟨none, 0, rfl, OwnN.nil _ _ _ _, Below.refl _ _⟩
  have H : Hid (wordsE l = (words l, 0)) := by simp only [Hid, wordsE, hm, ho, not_true, if_false]
  have h3 : ((cls l : Int) == 3) = false := by have := cls_over l; simp; omega
  have h512 : l.length ≤ 512 := hm.2
  have HM := Lib.hid hm
  have HO : weight l ≤ 2 ^ 20 := by omega
  have HCC := Lib.hid HC
  clear hm ho HC
  refine (callsIn_wide (n := 9)).1 ?_
  refine callsIn_of_wp_marks Try.func77 rfl trivial ?_ rfl
  simp only [Try.ntmps77, List.size_toArray, List.length_cons, List.length_nil, Nat.reduceAdd, Nat.reduceSub, Array.replicate_succ, Array.replicate_zero, List.push_toArray, List.append_toArray, List.nil_append, List.cons_append]
  gi_wp2_with (first | (refine ⟨trivial, ?_⟩; gi_at_call 56; refine (callsIn_wide.2 (kraft_classify _ _ _ _ hr)).mono ?_; rintro e w' ⟨rfl, rfl⟩; rw [HCC.out]) | (gi_at_make; refine makeNIn et_u32 rfl _ _ rfl w.heap.size rfl rfl (by omega) (by omega) (Nat.le_refl _) ?_; intro w1 hown hg) | (refine ⟨trivial, ?_⟩; gi_at_call 110; refine (callsIn_wide.2 (kraft_order _ _ _ _)).mono ?_; rintro e w' ⟨rfl, rfl⟩))
  obtain ⟨hz, hb0, hb1, hb2, hb3, hbel⟩ := four w1 (.cells #[.slice (some ⟨w.heap.size, 0, none⟩) l.length l.length] 129) (.cells #[.int .u32 0] 27) (.cells #[.int .u8 0] 5) (.cells #[.slice a l.length cap] 22)
  have h01 : w.heap.size < w1.heap.size := by
    obtain ⟨g, he, _, hlt⟩ := (hown.form).resolve_left (by simp)
    simp only [Option.some.injEq, Addr.mk.injEq, and_true] at he
    omega
  have hB1 : Below w.heap.size w w1 := Below.of_grown hg (Nat.le_refl _) (fun k e => by cases e)
  have hB4 := hB1.trans (hbel.mono hB1.size)
  have hown4 := hown.below hbel
  clear hbel hown hg
  generalize (((w1.alloc (Obj.cells #[Value.slice (some ⟨w.heap.size, 0, none⟩) l.length l.length] 129)).alloc (Obj.cells #[Value.int .u32 0] 27)).alloc (Obj.cells #[Value.int .u8 0] 5)).alloc (Obj.cells #[Value.slice a l.length cap] 22) = W0 at *
  have hr4 : RowN .u8 W0 a cap l := hr.below hB4
  refine range_law (g := .tmp 27) (gf := 125) (lb := #[.pointer (some ⟨w1.heap.size + 3, 0, none⟩)]) rfl (enters_of Try.func125 (by kernel_rfl) rfl)
    (order_yields a cap l W0 (w1.heap.size + 3) hr4 hb3) (SameOn.refl _ _) ?hS (fun _ h => h.elim) (fun _ => rfl)
    (fun i A => (∃ nx : Nat, A.heap[w1.heap.size + 1]? = some (.cells #[.int .u32 nx] 27) ∧ nx * 2 ^ (20 - bitsI l i) = accI l i) ∧ A.heap[w1.heap.size + 2]? = some (.cells #[.int .u8 (bitsI l i : Nat)] 5) ∧
      A.heap[w1.heap.size]? = some (.cells #[.slice (some ⟨w.heap.size, 0, none⟩) l.length l.length] 129) ∧ OwnN 27 .u32 A w.heap.size (some ⟨w.heap.size, 0, none⟩) l.length (outsI l i) ∧ Below w.heap.size w A)
    (fun _ _ _ => False) ?hI ?hIp (fun _ _ _ _ h _ => h) (fun _ _ _ _ _ _ h _ _ _ => h) ?h0 ?a1 ?assign ?body ?done (fun _ _ _ _ h _ => h.elim)
  case hS =>
    rintro b (rfl | ⟨h0, x, hx, rfl⟩)
    · omega
    · obtain ⟨b', off, he, hlt, _⟩ := hr4.at h0
      rw [hx] at he
      cases he
      exact hlt
  case hI =>
    rintro i A B ⟨⟨nx, h1, h2⟩, h3, h4, h5, h6⟩ ho
    exact ⟨⟨nx, box_only h1 ho id, h2⟩, box_only h3 ho id, box_only h4 ho id, h5.only ho (fun _ _ => id), Below.only h6 ho (Nat.le_refl _) (fun _ h => h.elim)⟩
  case hIp =>
    rintro i A r o o' ⟨⟨nx, h1, h2⟩, h3, h4, h5, h6⟩ hr0 hro hoc
    exact ⟨⟨nx, box_put h1 hro hoc, h2⟩, box_put h3 hro hoc, box_put h4 hro hoc, h5.put hro hoc _, Below.put h6 (Nat.le_refl _) hro (by omega) _⟩
  case h0 => exact ⟨⟨0, hb1, by simp [accI]⟩, hb2, hb0, by simpa [outsI] using hown4, hB4⟩
  case assign =>
    intro y i W K hK
    simp only [orderRow]
    gi_wp2
    exact hK
  case body =>
    rintro y i hi A hz2 ⟨⟨nx, h1, h2⟩, h3, h4, h5, h6⟩
    obtain ⟨k, n, hrow, hk, hn0, hn20, hbn, hbn1, hwd, hnx, hac⟩ := words_step l i nx hi HO h2
    have hp : (ord l).getD i (0, 0) = (k, n) := by simp [List.getD, hrow]
    have hp' : (ord l)[i]?.getD (0, 0) = (k, n) := by simp [hrow]
    simp only [hp']
    obtain ⟨g, he, _, hg2, hcell, hfree⟩ := h5.at (i := k) (by rw [outsI_length]; exact hk)
    simp only [Option.some.injEq, Addr.mk.injEq, and_true] at he
    subst he
    have c1 := cell_of_one h1
    have f1 := free_of_one h1
    have c2 := cell_of_one h3
    have f2 := free_of_one h3
    have c3 := cell_of_one h4
    have HX := Lib.hid hwd
    have HY := Lib.hid hac
    have HZ := Lib.hid hbn1
    have HR := Lib.hid hrow
    have H1 := Lib.hid h1
    have H3 := Lib.hid h3
    have H4 := Lib.hid h4
    clear hrow hp hp' hwd hac hbn1 hb0 hb1 hb2 hb3 h1 h3 h4 h2
    generalize bitsI l i = bt at *
    have hlt1 : w.heap.size < w1.heap.size := h01
    gi_wp2
    have hm : ((nx : Int) * 2 ^ (n - bt)) % 4294967296 = ((nx * 2 ^ (n - bt) : Nat) : Int) := by
      have h2 : (2 : Int) ^ (n - bt) = ((2 ^ (n - bt) : Nat) : Int) := by simp
      rw [h2, ← Int.natCast_mul]
      generalize nx * 2 ^ (n - bt) = m at *
      omega
    have hm1 : ((nx : Int) * 2 ^ (n - bt) + 1) % 4294967296 = ((nx * 2 ^ (n - bt) + 1 : Nat) : Int) := by
      have h2 : (2 : Int) ^ (n - bt) = ((2 ^ (n - bt) : Nat) : Int) := by simp
      rw [h2, ← Int.natCast_mul]
      generalize nx * 2 ^ (n - bt) = m at *
      omega
    simp only [hm, hm1]
    have hbl : ∀ x, 0 < l.length → a = some x → x.block < w.heap.size := fun x h0 hx => by
      obtain ⟨b', off, he, hlt, _⟩ := hr.at h0
      rw [hx] at he
      cases he
      exact hlt
    obtain ⟨q1, q2, q3, q4, q5, q6, q7⟩ := words_after l w w1.heap.size a W0.heap.size k n (nx * 2 ^ (n - bt)) (outsI l i) A H1.out H3.out H4.out h5 h6 hbl hlt1 (by omega)
    refine ⟨q1, q2, ⟨nx * 2 ^ (n - bt) + 1, q3, by rw [HZ.out]; exact HY.out⟩, by rw [HZ.out]; exact q4, q5, ?_, q7⟩
    rw [outsI_succ l i k n HR.out, HX.out]
    exact q6
  case done =>
    rintro A ⟨⟨nx, h1, h2⟩, h3, h4, h5, h6⟩ hD
    have c3 := cell_of_one h4
    clear h1 h2 h3 h4
    gi_wp2
    refine ⟨by simp, .inl ⟨_, _, rfl, run_takeDeferred hD, ?_⟩⟩
    refine ⟨_, results_tmp2 rfl _ _ _, ?_⟩
    unfold WordsOut
    rw [H.out]
    rw [outsI_end l HM.out.1] at h5
    refine ⟨some ⟨w.heap.size, 0, none⟩, l.length, ?_, h5.put hD rfl _, Below.put h6 (Nat.le_refl _) hD (by omega) _⟩
    simp [words_length]
end Go.Proofs.Ytmgoeokdlklabaa

namespace Go.Proofs.Ytmgoeokdlklabaa.M01
set_option linter.unusedVariables false
def bit (bs : List Nat) (i : Nat) : Nat := bs.getD (i / 8) 0 / 2 ^ (i % 8) % 2
def num (bs : List Nat) (at_ : Nat) : Nat → Nat
  | 0 => 0
  | n + 1 => num bs at_ n + bit bs (at_ + n) * 2 ^ n
end Go.Proofs.Ytmgoeokdlklabaa.M01

namespace Go.Proofs.Ytmgoeokdlklabaa
open Go.RowKit Go.Shelf M01
set_option linter.unusedVariables false
theorem eqNilT (w : World) : (binOp .eql 22 (.slice none 0 0) (.slice none 0 0)).run Try.prog w = .ok (.bool true) w := by kernel_rfl
theorem eqNilF (x : Addr) (n c : Nat) (w : World) : (binOp .eql 22 (.slice (some x) n c) (.slice none 0 0)).run Try.prog w = .ok (.bool false) w := by kernel_rfl
set_option maxRecDepth 100000 in
theorem slices_clone (w : World) (a : Option Addr) (cap : Nat) (l : List Nat) (hr : RowN .u8 w a cap l) (hl : l.length ≤ 100000000) :
    Calls Try.prog 52 #[.slice a l.length cap] w fun e w' => ∃ a' c', e = .returned (.slice a' l.length c') ∧ OwnN 5 .u8 w' w.heap.size a' c' l ∧ Below w.heap.size w w' := by
  by_cases ha : a = none
  · subst ha
    have h0 : cap = 0 := hr.2.1.2 rfl
    subst h0
    have hl0 : l = [] := List.eq_nil_of_length_eq_zero (by have := hr.1; omega)
    subst hl0
    clear hr
    go_enter Try.func52, Try.ntmps52
    go_wp2_with fail
    rw [eqNilT]
    go_wp2
    go_ret
    exact ⟨none, 0, rfl, OwnN.nil _ _ _ _, Below.refl _ _⟩
  · obtain ⟨x, rfl⟩ := Option.ne_none_iff_exists'.1 ha
    clear ha
    go_enter Try.func52, Try.ntmps52
    go_wp2_with fail
    rw [eqNilF]
    go_wp2_with (at_builtin; refine appAnyN et_u8 rfl (.tmp 5) (.tmp 6) rfl (a := some ⟨w.heap.size, 0, none⟩) (cap := 0) (l := []) (ys := l) (base := w.heap.size) rfl (OwnN.lit0 _ _ _ _ (Nat.le_refl _)) rfl rfl (hr.below ((Below.refl _ _).alloc (Nat.le_refl _) _)) (by simp; omega) (by simp; omega) (by simp) ?_; intro a1 cap1 w1 hown1 hg1 hb1; simp only [List.nil_append] at hown1; simp only [List.length_nil, Nat.zero_add])
    go_ret
    exact ⟨a1, cap1, rfl, hown1, ((Below.refl w.heap.size w).alloc (Nat.le_refl _) _).trans hb1⟩
end Go.Proofs.Ytmgoeokdlklabaa

namespace Go.Proofs.Ytmgoeokdlklabaa.M06
set_option linter.unusedVariables false
abbrev TF := Nat → Nat → Option Int
def putF (F : TF) (x k : Nat) (v : Int) : TF := fun x' k' => if x' = x ∧ k' = k then some v else F x' k'
def tabK (x n : Nat) (F : TF) : Nat → TF
  | 0 => F
  | k + 1 => putF (tabK x n F k) (x / 2 ^ (n - k)) k (-1)
def tabI (lens ws : List Nat) : Nat → TF
  | 0 => fun _ _ => none
  | i + 1 => if lens.getD i 0 = 0 then tabI lens ws i else tabK (ws.getD i 0) (lens.getD i 0) (putF (tabI lens ws i) (ws.getD i 0) (lens.getD i 0) i) (lens.getD i 0)
end Go.Proofs.Ytmgoeokdlklabaa.M06

namespace Go.Proofs.Ytmgoeokdlklabaa
open Go.RowKit Go.Maps M06
set_option linter.unusedVariables false
theorem tab_laid : laidOutB Try.prog = true := by kernel_rfl
theorem word_row : (136 : TypeId) < Try.prog.types.size := of_decide_eq_true (by kernel_rfl)
theorem word_wide : (match Try.prog.underlying 136 with | some (.array _ _) | some (.struct _) => true | _ => false) = true := by rw [Try.underlying136]
set_option maxRecDepth 100000 in
theorem word_law : Keyed Try.prog 136 := Keyed.of_law (deep_law_laid tab_laid (m := 2) (by omega) word_row (by kernel_rfl) word_wide)
theorem word_type : Try.prog.keyType 136 = true := by kernel_rfl
def wordV (x k : Nat) : Value := .agg #[.int .u32 (x : Nat), .int .u8 (k : Nat)]
theorem cast_le {x m : Nat} (h : x < m + 1) : (x : Int) ≤ (m : Int) := Int.ofNat_le.2 (Nat.le_of_lt_succ h)
theorem word_key (x k : Nat) (hx : x < 4294967296) (hk : k < 256) : ∃ kl, keyOf Try.prog 136 (wordV x k) = some kl := by
  have c101 : Try.prog.cellsOf 136 = 2 := by kernel_rfl
  have c36 : Try.prog.cellsOf 27 = 1 := by kernel_rfl
  have c5 : Try.prog.cellsOf 5 = 1 := by kernel_rfl
  obtain ⟨m, hm⟩ : ∃ m, Try.prog.types.size = m + 1 := by
    have h := word_row
    revert h
    generalize Try.prog.types.size = n
    intro h
    cases n with
    | zero => exact absurd h (Nat.not_lt_zero _)
    | succ n => exact ⟨n, rfl⟩
  have wx : (Lit.int .u32 (x : Int)).wf = true := WalkArith.wf_u32 ⟨Int.natCast_nonneg _, cast_le (m := 4294967295) hx⟩
  have wk : (Lit.int .u8 (k : Int)).wf = true := WalkArith.wf_u8 ⟨Int.natCast_nonneg _, cast_le (m := 255) hk⟩
  refine ⟨.string (keyBytes [.int .u32 (x : Int), .int .u8 (k : Int)]), ?_⟩
  unfold keyOf wordV
  simp only [Try.underlying136]
  rw [if_pos (by simp [word_type, Value.formed, Try.underlying136, c101]), hm]
  unfold Program.keyLits
  simp only [Try.underlying136, Value.cells]
  rw [if_pos ⟨by rw [c101]; rfl, by decide +kernel⟩]
  simp [c36, c5, Program.keyLits, Try.underlying27, Try.underlying5, wx, wk]
theorem word_inj {x k x' k' : Nat} (h : wordV x k = wordV x' k') : x = x' ∧ k = k' := by
  unfold wordV at h
  simp only [Value.agg.injEq, Array.mk.injEq, List.cons.injEq, Value.int.injEq, true_and, and_true] at h
  omega
def MapF (w : World) (b n : Nat) (F : Nat → Nat → Option Int) : Prop :=
  ∃ D : DataW Unit, w.ownsMap Try.prog 136 (plainElem Try.prog 3) b n D ∧ IsMap D ∧
    ∀ x k kl, keyOf Try.prog 136 (wordV x k) = some kl → Maps.has D kl = (F x k).isSome ∧ D.atKey kl (.lit (.int .i64 0)) = .lit (.int .i64 ((F x k).getD 0))
theorem mapF_made (w : World) : MapF (w.alloc (.map #[] 0)) w.heap.size 0 (fun _ _ => none) :=
  ⟨.map [], World.ownsMap_made _ _ _ _, isMap_empty, fun x k kl _ => ⟨rfl, rfl⟩⟩
theorem MapF.kept {w w' : World} {b n : Nat} {F : Nat → Nat → Option Int} {row : Option Nat} (h : MapF w b n F) (hg : w.grownBy w' row) (hne : some b ≠ row) : MapF w' b n F := by
  obtain ⟨D, h1, h2⟩ := h
  exact ⟨D, h1.kept hg hne, h2⟩
theorem MapF.lt {w : World} {b n : Nat} {F : Nat → Nat → Option Int} (h : MapF w b n F) : b < w.heap.size := by
  obtain ⟨D, h1, _⟩ := h
  exact h1.lt
theorem MapF.put {w : World} {b n : Nat} {F : Nat → Nat → Option Int} (h : MapF w b n F) (hn : n < maxLen) (x k : Nat) (v : Int) (hx : x < 4294967296) (hk : k < 256) (hv : -1000000 ≤ v ∧ v ≤ 1000000) :
    ∃ w', (Instr.mapUpdate 132 (.map (some b)) (wordV x k) (.int .i64 v)).run Try.prog w = .ok () w' ∧ MapF w' b (n + 1) (putF F x k v) ∧ w.grownBy w' (some b) := by
  obtain ⟨D, h1, hD, h2⟩ := h
  obtain ⟨kl, hkl⟩ := word_key x k hx hk
  have wv : (Lit.int .i64 v).wf = true := WalkArith.wf_i64 (by omega)
  obtain ⟨w', hrun, hown, hg⟩ := h1.update word_law Try.underlying132 hn hkl (plainElem_int Try.underlying3 wv)
  refine ⟨w', hrun, ⟨_, hown, hD.put _ _, fun x' k' kl' hkl' => ?_⟩, hg⟩
  unfold putF
  by_cases he : kl' = kl
  · subst he
    have := word_law.inj hkl' hkl
    obtain ⟨rfl, rfl⟩ := word_inj this
    rw [if_pos ⟨rfl, rfl⟩]
    exact ⟨by rw [has_put_same hD (word_law.key hkl)]; rfl, atKey_put_same hD (word_law.key hkl) _ _⟩
  · have hne : ¬ (x' = x ∧ k' = k) := fun ⟨h3, h4⟩ => by
      subst h3 h4
      rw [hkl] at hkl'
      exact he (Option.some.inj hkl').symm
    rw [if_neg hne]
    obtain ⟨g1, g2⟩ := h2 x' k' kl' hkl'
    exact ⟨by rw [has_put_other he]; exact g1, by rw [atKey_put_other he]; exact g2⟩
end Go.Proofs.Ytmgoeokdlklabaa

namespace Go.Proofs.Ytmgoeokdlklabaa.M04
set_option linter.unusedVariables false
def start (l : List Nat) (i : Nat) : Nat := acc l (l.getD i 0) i
def size (l : List Nat) (i : Nat) : Nat := 2 ^ (20 - l.getD i 0)
theorem pre_mono (l : List Nat) {n k n' k' j : Nat} (h : n < n' ∨ n = n' ∧ k ≤ k') (hp : pre l n k j) : pre l n' k' j := by
  unfold pre at *; omega
theorem acc_mono (l : List Nat) {n k n' k' : Nat} (h : n < n' ∨ n = n' ∧ k ≤ k') : acc l n k ≤ acc l n' k' := S_le fun j _ => by
  by_cases hp : pre l n k j
  · rw [if_pos hp, if_pos (pre_mono l h hp)]; exact Nat.le_refl _
  · rw [if_neg hp]; exact Nat.zero_le _
theorem start_end (l : List Nat) (i : Nat) (hi : i < l.length) (h0 : l.getD i 0 ≠ 0) : acc l (l.getD i 0) (i + 1) = start l i + size l i :=
  acc_hit l _ i h0 hi (by simp [hi])
theorem start_le (l : List Nat) (i : Nat) (hi : i < l.length) (h0 : l.getD i 0 ≠ 0) : start l i + size l i ≤ weight l := by
  rw [← start_end l i hi h0]; exact acc_le _ _ _
theorem start_before (l : List Nat) (i k : Nat) (hi : i < l.length) (h0 : l.getD i 0 ≠ 0) (h : l.getD i 0 < l.getD k 0 ∨ l.getD i 0 = l.getD k 0 ∧ i < k) : start l i + size l i ≤ start l k := by
  rw [← start_end l i hi h0]; exact acc_mono l (by omega)
theorem size_pos (l : List Nat) (i : Nat) : 0 < size l i := Nat.pow_pos (by decide)
theorem start_word (l : List Nat) (i : Nat) (h0 : l.getD i 0 ≠ 0) : start l i = word l i * size l i := by
  rw [word, if_neg h0]
  exact (Nat.div_mul_cancel (acc_dvd l _ i)).symm
def hit (l : List Nat) (row i : Nat) : Prop := l.getD i 0 ≠ 0 ∧ row / size l i = word l i
instance (l : List Nat) (row i : Nat) : Decidable (hit l row i) := by unfold hit; infer_instance
theorem apart (l : List Nat) (i k : Nat) (hi : i < l.length) (hk : k < l.length) (h0 : l.getD i 0 ≠ 0) (h1 : l.getD k 0 ≠ 0) (hne : i ≠ k) : start l i + size l i ≤ start l k ∨ start l k + size l k ≤ start l i := by
  by_cases h : l.getD i 0 < l.getD k 0 ∨ l.getD i 0 = l.getD k 0 ∧ i < k
  · exact .inl (start_before l i k hi h0 h)
  · exact .inr (start_before l k i hk h1 (by omega))
theorem word_small (l : List Nat) (i : Nat) (hi : i < l.length) (h20 : ∀ x ∈ l, x ≤ 20) (hw : weight l ≤ 2 ^ 20) : word l i / 2 ^ l.getD i 0 = 0 := by
  by_cases h0 : l.getD i 0 = 0
  · rw [word, if_pos h0]; exact Nat.zero_div _
  · have h1 := start_le l i hi h0
    have h2 := start_word l i h0
    have h3 := size_pos l i
    have h4 := getD_le h20 i
    have h5 : size l i * 2 ^ l.getD i 0 = 2 ^ 20 := by unfold size; rw [← Nat.pow_add]; congr 1; omega
    refine Nat.div_eq_of_lt ?_
    rw [h2] at h1
    have h6 : word l i * size l i < 2 ^ l.getD i 0 * size l i := by rw [Nat.mul_comm (2 ^ _), h5]; omega
    exact Nat.lt_of_mul_lt_mul_right h6
theorem words_getElem (l : List Nat) (i : Nat) (hi : i < (words l).length) : (words l)[i] = word l i := by simp [words]
end Go.Proofs.Ytmgoeokdlklabaa.M04

namespace Go.Proofs.Ytmgoeokdlklabaa
open Go.RowKit Go.Shelf M04 M06
set_option linter.unusedVariables false
theorem RowN.keptR {k : IntKind} {w w' : World} {a : Option Addr} {cap : Nat} {l : List Nat} {row : Option Nat} (h : RowN k w a cap l) (hg : w.grownBy w' row) (hr : ∀ x, a = some x → row ≠ some x.block) : RowN k w' a cap l := by
  obtain ⟨h1, h2, h3⟩ := h
  refine ⟨h1, h2, ?_⟩
  rcases h3 with h3 | ⟨b, off, rfl, hb', hc⟩
  · exact .inl h3
  · exact .inr ⟨b, off, rfl, Nat.lt_of_lt_of_le hb' hg.size, fun i hi => (World.cell?_of_block (a := ⟨b, off + i, none⟩) (hg.block b hb' (fun e => hr _ rfl e.symm))).trans (hc i hi)⟩
theorem word_lt (l : List Nat) (i : Nat) (hi : i < l.length) (h20 : ∀ x ∈ l, x ≤ 20) (hw : weight l ≤ 2 ^ 20) : word l i < 2 ^ 20 := by
  have h := word_small l i hi h20 hw
  have h2 : word l i < 2 ^ l.getD i 0 := by
    rcases Nat.lt_or_ge (word l i) (2 ^ l.getD i 0) with h3 | h3
    · exact h3
    · have := Nat.div_pos h3 (Nat.pow_pos (by decide))
      omega
  exact Nat.lt_of_lt_of_le h2 (Nat.pow_le_pow_right (by decide) (getD_le h20 i))
theorem u8_sub_shift (j m : Nat) (h : j < m) (hm : m ≤ 20) : min (IntKind.u8.wrap (m - j : Int)).toNat 32 = m - j := by
  have h2 : IntKind.u8.wrap (m - j : Int) = ((m - j : Nat) : Int) := by
    unfold IntKind.wrap IntKind.signed IntKind.bits
    simp only [Bool.false_and]
    rw [if_neg (by decide)]
    omega
  rw [h2]
  omega
theorem grown_drew {w w' : World} {row : Option Nat} (h : w.grownBy w' row) : w.grownBy w'.drew row := ⟨h.os, h.tape, h.output, h.size, h.block⟩
theorem cells3' {w : World} {b : Nat} {x y z : Value} {t : TypeId} (h : w.heap[b]? = some (.cells #[x, y, z] t (0, 0))) : w.cell? ⟨b, 2, none⟩ = some z := by
  simp [World.cell?, h]
theorem wpList_mapF {ops : Array Oper} {rest : List Oper} {o : Oper} {ac : Act} {w : World} {Q : Exit → Act → World → Prop} {b n X k : Nat} {F : TF} {v : Int} (hgd : o.guard = none) (mo xo vo : Operand) (hop : o.op = Op.mapUpdate 132 mo xo vo)
    (hm : ac.eval mo = .map (some b)) (hx : ac.eval xo = wordV X k) (hv : ac.eval vo = .int .i64 v) (h : MapF w b n F) (hn : n < 1000000) (hX : X < 4294967296) (hk : k < 256) (hb : -1000000 ≤ v ∧ v ≤ 1000000)
    (hK : ∀ w', MapF w' b (n + 1) (putF F X k v) → w.grownBy w' (some b) → wpList Try.prog ops Q rest (ac.put o.dst undef) w') : wpList Try.prog ops Q (o :: rest) ac w := by
  refine wpList_plain hgd fun K hK' => ?_
  obtain ⟨w', hrun, h1, h2⟩ := h.put (by unfold maxLen; omega) X k v hX hk hb
  unfold Oper.wp
  simp [execOp, hop, hm, hx, hv, hrun, Result.andThen]
  exact hK' _ _ (hK w' h1 h2)
def Tb (lo hi : Nat) (w : World) (p : Nat) (l : List Nat) : Prop :=
  ∃ a1 c1 a2 c2 mb n, w.heap[p]? = some (.cells #[.slice a1 l.length c1, .slice a2 l.length c2, .map (some mb)] 134 (0, 0)) ∧ RowN .u8 w a1 c1 l ∧ RowN .u32 w a2 c2 (words l) ∧ MapF w mb n (tabI l (words l) l.length) ∧ hi ≤ w.heap.size ∧
    (lo ≤ p ∧ p < hi) ∧ (lo ≤ mb ∧ mb < hi) ∧ (∀ x, a1 = some x → lo ≤ x.block ∧ x.block < hi) ∧ (∀ x, a2 = some x → lo ≤ x.block ∧ x.block < hi)
theorem MapF.same {w w' : World} {b n : Nat} {F : Nat → Nat → Option Int} (h : MapF w b n F) (hs : w'.heap[b]? = w.heap[b]?) : MapF w' b n F := by
  obtain ⟨D, ⟨es, clock, hb, h1⟩, h2⟩ := h
  exact ⟨D, ⟨es, clock, hs.trans hb, h1⟩, h2⟩
theorem Tb.only {T : Nat → Prop} {lo hi p : Nat} {w w' : World} {l : List Nat} (h : Tb lo hi w p l) (ho : Only T w w') (hT : ∀ b, lo ≤ b → b < hi → ¬ T b) : Tb lo hi w' p l := by
  obtain ⟨a1, c1, a2, c2, mb, n, h1, h2, h3, h4, hs, hp, hm, h5, h6⟩ := h
  refine ⟨a1, c1, a2, c2, mb, n, box_only h1 ho (hT p hp.1 hp.2), ?_, ?_, h4.same (ho.block mb (by omega) (hT mb hm.1 hm.2)), Nat.le_trans hs ho.size, hp, hm, h5, h6⟩
  · exact h2.same ho.size (fun x h0 hx => ho.block _ (by have := (h5 x hx).2; omega) (hT _ (h5 x hx).1 (h5 x hx).2))
  · exact h3.same ho.size (fun x h0 hx => ho.block _ (by have := (h6 x hx).2; omega) (hT _ (h6 x hx).1 (h6 x hx).2))
set_option maxRecDepth 100000 in
set_option maxHeartbeats 1600000 in
theorem prefix_new (a : Option Addr) (cap : Nat) (l : List Nat) (w : World) (hr : RowN .u8 w a cap l) :
    Calls Try.prog 39 #[.slice a l.length cap] w fun e w' => Below w.heap.size w w' ∧ if (wordsE l).2 = 0 then ∃ p, e = .returned (.tuple #[.pointer (some ⟨p, 0, none⟩), .int .i64 0]) ∧ Tb w.heap.size w'.heap.size w' p l else e = .returned (.tuple #[.pointer none, .int .i64 (wordsE l).2]) := by
  by_cases hm : May l ∧ weight l ≤ 2 ^ 20
  case neg =>
    have he : (wordsE l).2 = 5 ∨ (wordsE l).2 = 2 := by
      unfold wordsE
      by_cases h1 : May l
      · rw [if_neg (by simpa using h1), if_pos (by rw [not_and] at hm; have := hm h1; omega)]; exact .inr rfl
      · rw [if_pos h1]; exact .inl rfl
    have HE := Lib.hid he
    have H0 : Hid ((wordsE l).2 ≠ 0) := by unfold Hid; omega
    have HW := Lib.hid (kraft_words a cap l w hr)
    clear hm he
    generalize hwe : wordsE l = we at *
    obtain ⟨w1l, er⟩ := we
    have HWE := Lib.hid hwe
    clear hwe
    have hb : (er == 0) = false := by have := H0.out; simpa using this
    go_enter Try.func39, Try.ntmps39
    go_wp2_with fail
    refine HW.out.mono ?_
    rintro e w1 ⟨a1, c1, rfl, _, hb1⟩
    rw [HWE.out]
    rcases HE.out with h5 | h5
    · obtain rfl : er = 5 := h5
      go_wp2
      go_ret2
      exact ⟨hb1, rfl⟩
    · obtain rfl : er = 2 := h5
      go_wp2
      go_ret2
      exact ⟨hb1, rfl⟩
  obtain ⟨hmay, hwt⟩ := hm
  have hwe : wordsE l = (words l, 0) := by
    unfold wordsE
    rw [if_neg (by simpa using hmay), if_neg (by omega)]
  have h512 := hmay.2
  have H20 := Lib.hid hmay.1
  have HWT := Lib.hid hwt
  have HW := Lib.hid (kraft_words a cap l w hr)
  unfold WordsOut at HW
  rw [hwe, words_length] at HW
  rw [hwe]
  simp only [if_true]
  clear hwe hmay hwt
  go_enter Try.func39, Try.ntmps39
  go_wp2_with fail
  refine HW.out.mono ?_
  rintro e w1 ⟨a1, c1, rfl, ho1, hb1⟩
  clear HW
  have HO1 := Lib.hid ho1
  have HB1 := Lib.hid hb1
  clear ho1 hb1
  go_wp2_with fail
  refine (slices_clone w1 a cap l (hr.below HB1.out) (by omega)).mono ?_
  rintro e w2 ⟨a2, c2, rfl, ho2, hb2⟩
  have HO2 := Lib.hid ho2
  have HB2 := Lib.hid (HB1.out.trans (hb2.mono HB1.out.size))
  have HOW := Lib.hid (HO1.out.below hb2)
  clear ho2 hb2 HO1
  have hmm := @run_makeMap Try.prog
  go_wp2_with fail
  obtain ⟨W0, hW0⟩ : ∃ W0, (w2.alloc (.map #[] 0)).alloc (.cells #[.slice a2 l.length c2, .slice a1 l.length c1, .map (some w2.heap.size)] 134) = W0 := ⟨_, rfl⟩
  have hz0 : W0.heap.size = w2.heap.size + 2 := by rw [← hW0]; simp
  have hp0 : W0.heap[w2.heap.size + 1]? = some (.cells #[.slice a2 l.length c2, .slice a1 l.length c1, .map (some w2.heap.size)] 134 (0, 0)) := by
    rw [← hW0]; have := World.alloc_heap_new (w2.alloc (.map #[] 0)) (.cells #[.slice a2 l.length c2, .slice a1 l.length c1, .map (some w2.heap.size)] 134); rwa [World.size_alloc] at this
  have hb0 : Below w2.heap.size w2 W0 := by rw [← hW0]; exact ((Below.refl _ _).alloc (Nat.le_refl _) _).alloc (by simp) _
  have hM0 : MapF W0 w2.heap.size 0 (fun _ _ => none) := by rw [← hW0]; exact (mapF_made w2).kept (World.grownBy_alloc _ _ none) (by simp)
  simp only [hW0]
  have hO0 := HOW.out.below hb0
  have hL0 := HO2.out.below hb0
  have hB0 : Below w.heap.size w W0 := HB2.out.trans (hb0.mono HB2.out.size)
  have hr0 := hr.below hB0
  have hsz := HB2.out.size
  have hne : ∀ {base cap : Nat} {a : Option Addr} {k : IntKind} {E : TypeId} {L : List Nat}, OwnN E k w2 base a cap L → ∀ x, a = some x → base ≤ x.block ∧ x.block < w2.heap.size := by
    intro base cap a k E L h x hx
    rcases h.form with ⟨h1, _⟩ | ⟨g, h1, hb, h2⟩
    · rw [h1] at hx; cases hx
    · rw [h1] at hx; cases hx; exact ⟨hb, h2⟩
  have hnw : ∀ x, a1 = some x → w.heap.size ≤ x.block ∧ x.block < w2.heap.size := hne HOW.out
  have hnl : ∀ x, a2 = some x → w.heap.size ≤ x.block ∧ x.block < w2.heap.size := fun x hx => ⟨Nat.le_trans HB1.out.size (hne HO2.out x hx).1, (hne HO2.out x hx).2⟩
  have hna : ∀ x, 0 < l.length → a = some x → x.block < w.heap.size := fun x h0 hx => by
    obtain ⟨b', off, he, hlt, _⟩ := hr.at h0
    rw [hx] at he; cases he; exact hlt
  have HNW := Lib.hid hnw
  have HNL := Lib.hid hnl
  have HNA := Lib.hid hna
  have HP0 := Lib.hid hp0
  have HB0 := Lib.hid hB0
  have HR0 := Lib.hid hr0
  have HRW := Lib.hid hO0.row
  have HRL := Lib.hid hL0.row
  have HM0 := Lib.hid hM0
  generalize hmbd : w2.heap.size = mb at *
  clear hW0 hp0 hb0 hM0 hO0 hL0 hB0 hr0 hne hnw hnl hna HO2 HOW hmm HB2
  go_loopw [7, 8, 9, 26, 45] (fun _ _ _ i _ A => ∃ k : Nat, k ≤ l.length ∧ i = .int .i64 k ∧ W0.grownBy A (some mb) ∧ ∃ n, n ≤ k * 32 ∧ MapF A mb n (tabI l (words l) k)) (fun _ _ _ i _ _ => l.length - (intOf i).toNat)
  case atStart => exact ⟨0, by omega, rfl, ⟨rfl, rfl, rfl, Nat.le_refl _, fun _ _ _ => rfl⟩, 0, by omega, HM0.out⟩
  case round =>
    obtain ⟨k, hk, rfl, hg, n, hn, hM⟩ := hrel
    have HG := Lib.hid hg
    have HM := Lib.hid hM
    clear hg hM
    by_cases hlt : k < l.length
    · obtain ⟨b, off, rfl, hb, hck⟩ := HR0.out.at hlt
      have hbw : b < w.heap.size := HNA.out _ (by omega) rfl
      have hck' : wr.cell? ⟨b, off + k, none⟩ = some (.int .u8 (l[k] : Nat)) := (World.cell?_of_block (a := ⟨b, off + k, none⟩) (HG.out.block b hb (by intro e; cases e; omega))).trans hck
      have hx20 := H20.out _ (List.getElem_mem hlt)
      have hgl : l.getD k 0 = l[k] := by simp [hlt]
      have HI := Lib.hid (show tabI l (words l) (k + 1) = if l.getD k 0 = 0 then tabI l (words l) k else tabK ((words l).getD k 0) (l.getD k 0) (putF (tabI l (words l) k) ((words l).getD k 0) (l.getD k 0) k) (l.getD k 0) from rfl)
      by_cases hx0 : l[k] = 0
      · have HI0 : Hid (tabI l (words l) (k + 1) = tabI l (words l) k) := by rw [Hid, HI.out, if_pos (by rw [hgl]; exact hx0)]
        rw [hx0] at hck'
        clear hck hx0 hgl hx20 HI
        go_wp2
        go_roundw
        case rel => exact ⟨k + 1, by omega, by go_num, HG.out, n, by omega, by rw [HI0.out]; exact HM.out⟩
        case measure => simp [intOf]; omega
      · have hwl := word_lt l k hlt H20.out HWT.out
        have hgw : (words l).getD k 0 = word l k := by simp [words, hlt]
        have HI1 : Hid (tabI l (words l) (k + 1) = tabK (word l k) l[k] (putF (tabI l (words l) k) (word l k) l[k] k) l[k]) := by rw [Hid, HI.out, if_neg (by rw [hgl]; exact hx0), hgw, hgl]
        obtain ⟨bw, ow, rfl, hbw2, hcw⟩ := HRW.out.at (i := k) (by rw [words_length]; exact hlt)
        rw [words_getElem] at hcw
        have hbwl : bw < mb := (HNW.out _ rfl).2
        have HCW := Lib.hid hcw
        have hcw' : wr.cell? ⟨bw, ow + k, none⟩ = some (.int .u32 (word l k : Nat)) := (World.cell?_of_block (a := ⟨bw, ow + k, none⟩) (HG.out.block bw hbw2 (by intro e; cases e; omega))).trans hcw
        have hpt : wr.cell? ⟨mb + 1, 2, none⟩ = some (.map (some mb)) := by
          have := (HG.out.block (mb + 1) (by omega) (by intro e; cases e)).trans HP0.out
          exact (cells3' this)
        have b0 : ((l[k] : Int) == 0) = false := by simp; omega
        clear hck hcw hx0 hgl HI hgw
        generalize word l k = x at *
        generalize l[k] = m at *
        go_wp2_with fail
        go_still_tail 11, (by kernel_rfl)
        change wpList _ _ _ _ _ wr.drew
        refine wpList_mapF (b := mb) (n := n) (X := x) (k := m) (v := (k : Int)) (F := tabI l (words l) k) rfl (.tmp 36) (.tmp 42) (.tmp 43) rfl rfl rfl rfl HM.out (by omega) (Nat.lt_trans hwl (by decide)) (by omega) (by omega) ?_
        intro w5 hM5 hg5
        have HG5 := Lib.hid (show W0.grownBy w5 (some mb) from (grown_drew HG.out).trans hg5)
        have HM5 := Lib.hid hM5
        clear hM5 hg5 HG HM hcw' hpt hck'
        generalize putF (tabI l (words l) k) x m k = F0 at *
        go_wp2_with fail
        go_loopw [9, 45] (fun _ i A => ∃ j : Nat, j ≤ m ∧ i = .int .u8 j ∧ W0.grownBy A (some mb) ∧ MapF A mb (n + 1 + j) (tabK x m F0 j)) (fun _ i _ => m - (intOf i).toNat)
        case atStart => exact ⟨0, by omega, rfl, HG5.out, HM5.out⟩
        case round =>
          clear HG5 HM5
          obtain ⟨j, hj, rfl, hg, hM⟩ := hrel
          have HG := Lib.hid hg
          have HM := Lib.hid hM
          clear hg hM
          by_cases hjl : j < m
          · have hcw' : wr.cell? ⟨bw, ow + k, none⟩ = some (.int .u32 (x : Nat)) := (World.cell?_of_block (a := ⟨bw, ow + k, none⟩) (HG.out.block bw hbw2 (by intro e; cases e; omega))).trans HCW.out
            have hpt : wr.cell? ⟨mb + 1, 2, none⟩ = some (.map (some mb)) := by
              have := (HG.out.block (mb + 1) (by omega) (by intro e; cases e)).trans HP0.out
              exact (cells3' this)
            go_wp2_with fail
            go_still_tail 14, (by kernel_rfl)
            change wpList _ _ _ _ _ wr.drew
            refine wpList_mapF (b := mb) (n := n + 1 + j) (X := x / 2 ^ (m - j)) (k := j) (v := -1) (F := tabK x m F0 j) rfl (.tmp 51) (.tmp 61) (.const (.int .i64 (-1))) rfl rfl ?hx rfl HM.out (by omega) (Nat.lt_of_le_of_lt (Nat.div_le_self _ _) (Nat.lt_trans hwl (by decide))) (by omega) (by omega) ?_
            case hx =>
              show _ = wordV _ _
              unfold wordV
              refine congrArg (fun z => Value.agg #[z, _]) ?_
              rw [u8_sub_shift j m hjl hx20]
              exact congrArg (Value.int IntKind.u32) (by rw [Int.natCast_ediv, Int.natCast_pow]; rfl)
            intro w6 hM6 hg6
            have HG6 := Lib.hid (show W0.grownBy w6 (some mb) from (grown_drew HG.out).trans hg6)
            have HM6 := Lib.hid hM6
            clear hM6 hg6 HG HM hcw' hpt
            go_wp2
            go_roundw
            case rel => exact ⟨j + 1, by omega, by go_num, HG6.out, HM6.out⟩
            case measure => simp [intOf]; omega
          · obtain rfl : j = m := by omega
            go_wp2
            go_roundw
            case rel => exact ⟨k + 1, by omega, by go_num, HG.out, n + 1 + j, by omega, by rw [HI1.out]; exact HM.out⟩
            case measure => simp [intOf]; omega
    · obtain rfl : k = l.length := by omega
      go_wp2
      go_ret2
      have hwz := HG.out.size
      refine ⟨HB0.out.trans (Below.of_grown HG.out HB0.out.size (by intro x hx; cases hx; exact hsz)), mb + 1, rfl, ⟨a2, c2, a1, c1, mb, n, ?_, ?_, ?_, HM.out, Nat.le_refl _, ⟨by omega, by omega⟩, ⟨hsz, by omega⟩, ?_, ?_⟩⟩
      · exact (HG.out.block (mb + 1) (by omega) (by intro e; cases e)).trans HP0.out
      · exact HRL.out.keptR HG.out (fun y hy e => by cases e; have := HNL.out _ hy; omega)
      · exact HRW.out.keptR HG.out (fun y hy e => by cases e; have := HNW.out _ hy; omega)
      · exact fun y hy => by have := HNL.out _ hy; omega
      · exact fun y hy => by have := HNW.out _ hy; omega
end Go.Proofs.Ytmgoeokdlklabaa

namespace Go.Proofs.Ytmgoeokdlklabaa
open Go.RowKit Go.Shelf M01 M04 M08
set_option linter.unusedVariables false
theorem two_cells {w : World} {b : Nat} {x y : Value} {t : TypeId} (h : w.heap[b]? = some (.cells #[x, y] t (0, 0))) : w.cell? ⟨b, 0, none⟩ = some x ∧ w.cell? ⟨b, 1, none⟩ = some y :=
  ⟨(two_cell h).1, (two_cell h).2.1⟩
theorem box_b (w : World) (o : Obj) : Below w.heap.size w (w.alloc o) := (Below.refl _ _).alloc (Nat.le_refl _) _
theorem box2_cells (w : World) (u v : Value) (t : TypeId) : (w.alloc (.cells #[u, v] t)).cell? ⟨w.heap.size, 0, none⟩ = some u ∧ (w.alloc (.cells #[u, v] t)).cell? ⟨w.heap.size, 1, none⟩ = some v := by
  have h := World.alloc_heap_new w (.cells #[u, v] t)
  exact ⟨(two_cell h).1, (two_cell h).2.1⟩
theorem only_drewN (T : Nat → Prop) (w : World) (q : Nat) : Only T w (w.drewN q) := ⟨rfl, rfl, rfl, Nat.le_refl _, fun _ _ _ => rfl⟩
theorem app1AtN {P : Program} {T E : TypeId} {k : IntKind} {bytes : Nat} (et : ElemTy P T E k bytes) {w : World} {ops : Array Oper} {rest : List Oper} {o : Oper} {ac : Act} {Q : Exit → Act → World → Prop} (hgd : o.guard = none) (s x : Operand)
    (ho : o.op = .call { callee := .builtin .append, args := #[s, x], argTypes := #[T, T] }) {base : Nat} {a : Option Addr} {cap : Nat} {l : List Nat} {y : Nat} {c E' : Nat}
    (hs : ac.eval s = .slice a l.length cap) (hown : OwnN E k w base a cap l) (hx : ac.eval x = .slice (some ⟨w.heap.size, 0, none⟩) 1 c) (hc : 1 ≤ c) (hc' : c ≤ 9223372036854775807)
    (hn : l.length + 1 ≤ 9223372036854775807) (hbytes : (l.length + 1) * bytes ≤ 140737488355328) (hbase : base ≤ w.heap.size)
    (h : ∀ a' cap' w', OwnN E k w' base a' cap' (l ++ [y]) → w.grownBy w' (Value.slice a l.length cap).ownBlock → (∀ g, a' = some ⟨g, 0, none⟩ → a = some ⟨g, 0, none⟩ ∨ w.heap.size ≤ g) → wpList P ops Q rest (ac.put o.dst (.slice a' (l.length + 1) cap')) w') :
    wpList P ops Q (o :: rest) ac (w.alloc (.cells #[.int k y] E')) := by
  obtain ⟨i, h2, h3, h4, h5⟩ := info_parts et.info
  refine wpList_plain hgd fun K hK' => ?_
  have hy : RowN k (w.alloc (.cells #[.int k y] E')) (some ⟨w.heap.size, 0, none⟩) c [y] := by
    refine ⟨by simpa using hc, ⟨hc', fun hn => by cases hn⟩, .inr ⟨w.heap.size, 0, rfl, by simp, fun i hi => ?_⟩⟩
    obtain rfl : i = 0 := by simp at hi; omega
    simp [World.cell?_alloc_at]
  obtain ⟨v', w', hr, h6, h7, h8, h9⟩ := run_append_own_at (P := P) (w.alloc (.cells #[.int k y] E')) base T o.type E i (.int k 0) 1 bytes et.und h2 h3 h4 h5 rfl (by decide) _ l.length _ (hown.alloc (.cells #[.int k y] E')) ⟨w.heap.size, 0, none⟩ 1 c ([y].map fun (n : Nat) => Value.int k n) (by simp)
    (cells_of_rowN hy _ rfl) (by intro u hu; simp only [List.mem_map] at hu; obtain ⟨n, _, rfl⟩ := hu; rfl) (by simpa [maxLen] using hn) hbytes (by simp; omega)
  have hv : ∃ a' cap', v' = .slice a' (l.length + 1) cap' := by
    rcases h6.2 with ⟨h9, h10⟩ | ⟨g, c', cur, h9, _⟩
    · exact ⟨none, 0, by rw [h9, h10]⟩
    · exact ⟨_, _, h9⟩
  obtain ⟨a', cap', rfl⟩ := hv
  have hown' : OwnN E k w' base a' cap' (l ++ [y]) := by
    unfold OwnN; rw [List.length_append, List.map_append]; exact h6
  unfold Oper.wp
  simp [execOp, ho, resolve, invoke, builtin, hs, hx, hr, Result.andThen]
  refine hK' _ _ (h a' cap' w' hown' ⟨h7.os, h7.tape, h7.output, Nat.le_trans (by simp) h7.size, fun q hq hr => (h7.block q (by simp; omega) hr).trans (Below.heap_alloc _ _ _ hq)⟩ ?_)
  rintro g rfl
  rcases h9 with h9 | h9
  · left
    rcases hown.form with ⟨rfl, _, _⟩ | ⟨g', rfl, _⟩
    · simp [Value.ownBlock] at h9
    · simp [Value.ownBlock] at h9
      rw [h9]
  · right
    simp [Value.ownBlock] at h9
    omega
theorem own_ne {E : TypeId} {k : IntKind} {w : World} {base cap n sp : Nat} {a : Option Addr} {l : List Nat} (h : OwnN E k w base a cap l) (h7 : ∀ g, a = some ⟨g, 0, none⟩ → sp < g) (b : Nat) (hb : b ≤ sp) : some b ≠ (Value.slice a n cap).ownBlock := by
  rcases h.form with ⟨rfl, _, _⟩ | ⟨g, rfl, _⟩
  · simp [Value.ownBlock]
  · have := h7 g rfl
    simp [Value.ownBlock]
    omega
theorem rowN_take {k : IntKind} {w : World} {a : Option Addr} {cap : Nat} {l : List Nat} (h : RowN k w a cap l) (n : Nat) : RowN k w a cap (l.take n) := by
  obtain ⟨h1, h2, h3⟩ := h
  refine ⟨by simp; omega, h2, ?_⟩
  rcases h3 with rfl | ⟨b, off, rfl, hb, hc⟩
  · exact .inl (by simp)
  · refine .inr ⟨b, off, rfl, hb, fun i hi => ?_⟩
    have hi2 : i < l.length := by simp at hi; omega
    rw [hc i hi2]
    simp
theorem Only.ofBelow {T : Nat → Prop} {w w' : World} (h : Below w.heap.size w w') : Only T w w' := ⟨h.os, h.tape, h.output, h.size, fun b hb _ => h.block b hb⟩
def Sub (P : Nat → Prop) (lo hi : Nat) (b : Nat) : Prop := P b ∧ ¬ (lo ≤ b ∧ b < hi)
theorem Only.widen {P : Nat → Prop} {lo hi : Nat} {w w' : World} (h : Only (Sub P lo hi) w w') : Only P w w' := h.mono (fun k _ hk => hk.1)
theorem Tb.widen {lo hi lo' hi' p : Nat} {w : World} {l : List Nat} (h : Tb lo hi w p l) (h1 : lo' ≤ lo) (h2 : hi ≤ hi') (h3 : hi' ≤ w.heap.size) : Tb lo' hi' w p l := by
  obtain ⟨a1, c1, a2, c2, mb, n, g1, g2, g3, g4, g5, g6, g7, g8, g9⟩ := h
  exact ⟨a1, c1, a2, c2, mb, n, g1, g2, g3, g4, h3, by omega, by omega, fun x hx => by have := g8 x hx; omega, fun x hx => by have := g9 x hx; omega⟩
theorem Tb.below {lo hi p : Nat} {w w' : World} {l : List Nat} (h : Tb lo hi w p l) (hb : Below w.heap.size w w') : Tb lo hi w' p l :=
  h.only (T := fun _ => False) (.ofBelow hb) (fun _ _ _ h => h)
theorem OwnN.lit {k : IntKind} (E : TypeId) (w : World) (base : Nat) (l : List Nat) (vs : Array Value) (B : Nat) (hB : B = w.heap.size) (hv : vs = (l.map fun (n : Nat) => Value.int k n).toArray) (hb : base ≤ w.heap.size) (hl : l.length ≤ maxLen) :
    OwnN E k (w.alloc (.cells vs E)) base (some ⟨B, 0, none⟩) l.length l := by
  subst hB hv
  exact ⟨by simp, .inr ⟨w.heap.size, l.length, (l.map fun (n : Nat) => Value.int k n).toArray, rfl, hb, World.alloc_heap_new w _, Nat.le_refl _, hl, by simp, by simp [List.take_of_length_le]⟩⟩
end Go.Proofs.Ytmgoeokdlklabaa

namespace Go.Proofs.Ytmgoeokdlklabaa
open Go.RowKit M04
set_option linter.unusedVariables false
def singleB (l : List Nat) : Bool := decide ((∀ x ∈ l, x ≤ 1) ∧ l.sum = 1)
theorem sum_take_le (l : List Nat) (k : Nat) (h : ∀ x ∈ l.take k, x ≤ 1) : (l.take k).sum ≤ k := by
  have : ∀ m : List Nat, (∀ x ∈ m, x ≤ 1) → m.sum ≤ m.length := by
    intro m hm
    induction m with
    | nil => simp
    | cons a m ih =>
      have := hm a (by simp)
      have := ih fun x hx => hm x (by simp [hx])
      simp only [List.sum_cons, List.length_cons]; omega
  exact Nat.le_trans (this _ h) (by simp; omega)
set_option maxHeartbeats 400000 in
theorem kraft_single (a : Option Addr) (cap : Nat) (l : List Nat) (w : World) (hr : RowN .u8 w a cap l) :
    Calls Try.prog 71 #[.slice a l.length cap] w fun e w' => e = .returned (.bool (singleB l)) ∧ w = w' := by
  have hlen := hr.len
  go_enter Try.func71, Try.ntmps71
  go_wp2
  go_loop [3, 8] (fun t i => ∃ k : Nat, k ≤ l.length ∧ i = .int .i64 k ∧ t = .int .i64 ((l.take k).sum : Nat) ∧ ∀ x ∈ l.take k, x ≤ 1) (fun _ i => l.length - (intOf i).toNat)
  case atStart => exact ⟨0, Nat.zero_le _, rfl, by simp, by simp⟩
  case round =>
    obtain ⟨k, hk, rfl, rfl, hall⟩ := hrel
    have HA := Lib.hid hall
    have hs := sum_take_le l k hall
    clear hall
    by_cases hlt : k < l.length
    · obtain ⟨b, off, rfl, hb, hck⟩ := hr.at hlt
      clear hr
      have HS : Hid ((l.take (k + 1)).sum = (l.take k).sum + l[k]) := by rw [Hid, take_snoc l k hlt]; simp only [List.sum_append, List.sum_cons, List.sum_nil]; omega
      by_cases hx : l[k] ≤ 1
      · have H : Hid (∀ x ∈ l.take (k + 1), x ≤ 1) := by
          rw [Hid, take_snoc l k hlt]
          intro x hm
          rcases List.mem_append.1 hm with hm | hm
          · exact HA.out x hm
          · simp at hm; omega
        generalize l[k] = x at *
        generalize (l.take k).sum = s at *
        go_wp2
        go_round
        case rel => exact ⟨k + 1, by omega, by go_num, by rw [HS.out]; go_num, H.out⟩
        case measure => simp [intOf]; omega
      · have H : Hid (singleB l = false) := by
          show decide (_ ∧ _) = false
          rw [decide_eq_false_iff_not]
          exact fun h => hx (h.1 _ (List.getElem_mem hlt))
        generalize l[k] = x at *
        go_wp2
        go_ret
        exact ⟨ret_bool H.out.symm, rfl⟩
    · have h2 : l.take k = l := List.take_of_length_le (by omega)
      rw [h2] at HA
      rw [h2] at hs
      rw [h2]
      have H : Hid (singleB l = ((l.sum : Int) == 1)) := by
        show decide (_ ∧ _) = _
        rw [Bool.eq_iff_iff, decide_eq_true_eq, beq_iff_eq]
        constructor
        · intro h; omega
        · intro h; exact ⟨HA.out, by omega⟩
      go_wp2
      go_ret
      exact ⟨ret_bool H.out.symm, rfl⟩
theorem rowN_lit (k : IntKind) (w : World) (l : List Nat) (E : TypeId) (c : Array Value) (B : Nat) (hB : B = w.heap.size) (hc : c = (l.map fun (n : Nat) => Value.int k n).toArray) (hl : l.length ≤ 9223372036854775807) :
    RowN k (w.alloc (.cells c E)) (some ⟨B, 0, none⟩) l.length l := by
  subst hc hB
  refine ⟨Nat.le_refl _, ⟨hl, fun hn => by cases hn⟩, .inr ⟨w.heap.size, 0, rfl, by simp, fun i hi => ?_⟩⟩
  rw [Nat.zero_add, World.cell?_alloc_at _ _ _ _ rfl]
  simp [hi]
end Go.Proofs.Ytmgoeokdlklabaa

namespace Go.Proofs.Ytmgoeokdlklabaa.M07
set_option linter.unusedVariables false
abbrev Sg := Nat × Nat
def rbits (c : Nat) : Nat := if c = 16 then 2 else if c = 17 then 3 else if c = 18 then 7 else 0
def times (s : Sg) : Nat := if s.1 < 16 then 1 else if s.1 < 18 then 3 + s.2 else 11 + s.2
def SgOk (s : Sg) : Prop := s.1 ≤ 18 ∧ s.2 < 2 ^ rbits s.1
theorem SgOk.lt {s : Sg} (h : SgOk s) : s.2 < 128 := by
  obtain ⟨h1, h2⟩ := h
  have : 2 ^ rbits s.1 ≤ 2 ^ 7 := Nat.pow_le_pow_right (by decide) (by unfold rbits; (repeat' split) <;> omega)
  omega
def kOf (c : Nat) (out : List Nat) : Nat := if c = 16 then out.getD (out.length - 1) 0 else if 16 < c then 0 else c
def unp (n : Nat) : List Sg → List Nat → Option (List Nat)
  | [], out => if out.length = n then some out else none
  | s :: l, out => if s.1 = 16 ∧ out.length = 0 then none else if n < out.length + times s then none else unp n l (out ++ List.replicate (times s) (kOf s.1 out))
end Go.Proofs.Ytmgoeokdlklabaa.M07
