/- Contracts of the reference of layer 8. -/
import Derived.Test.YtmgoeokdlklabaaTok3
import Derived.Test.YtmgoeokdlklabaaM17
import Derived.Test.YtmgoeokdlklabaaLibS
import Derived.Deep.RegionHeld3
namespace Go.Proofs.Ytmgoeokdlklabaa
open Go.RowKit Go.Shelf M08 M17
set_option linter.unusedVariables false

def encT : Enc Tok where
  sz := 3
  cells t := [.int .i64 t.len, .int .i64 t.dist, .int .u8 (t.byte : Nat)]
  len _ := rfl
  one x u hu := by
    simp only [List.mem_cons, List.not_mem_nil, or_false] at hu
    rcases hu with rfl | rfl | rfl <;> rfl
  pos := by decide
def tokV (t : Tok) : Value := .agg #[.int .i64 t.len, .int .i64 t.dist, .int .u8 (t.byte : Nat)]

set_option maxHeartbeats 800000 in
theorem ref08_last (w : World) (a : Option Addr) (c : Nat) (L : List Nat) (n : Nat) (h0 : 0 < L.length) (h100 : L.length ≤ 100) (hup : Up L) (hn : L.getD 0 0 ≤ n) (hr : RowN .i64 w a c L) :
    Calls Try.prog 100 #[.slice a L.length c, .int .i64 n] w fun e w' => e = .returned (.int .i64 (lastLe L n : Nat)) ∧ w = w' := by
  have HU := Lib.hid hup
  have HN := Lib.hid hn
  clear hup hn
  go_enter Try.func100, Try.ntmps100
  go_wp2
  go_loop [5] (fun i => ∃ k : Nat, k < L.length ∧ i = .int .i64 k ∧ L.getD k 0 ≤ n) (fun i => L.length - (intOf i).toNat)
  case atStart => exact ⟨0, h0, rfl, HN.out⟩
  case round =>
    obtain ⟨k, hk, rfl, hkn⟩ := hrel
    by_cases hlt : k + 1 < L.length
    · obtain ⟨b, off, rfl, _, hck⟩ := hr.at hlt
      have hg : L.getD (k + 1) 0 = L[k + 1] := by simp [hlt]
      by_cases hx : L[k + 1] ≤ n
      · have HX : Hid (L.getD (k + 1) 0 ≤ n) := by rw [Hid, hg]; exact hx
        have bx : decide ((L[k + 1] : Int) ≤ (n : Int)) = true := by simp; omega
        have bx2 : decide (L[k + 1] ≤ n) = true := by simp; omega
        clear hg hkn
        generalize L[k + 1] = x at *
        go_wp2
        go_round
        case rel => exact ⟨k + 1, hlt, by go_num, HX.out⟩
        case measure => simp [intOf]; omega
      · have hl := lastLe_up HU.out n k hk hkn (fun _ => by rw [hg]; omega)
        have HL := Lib.hid hl
        have bx : decide ((L[k + 1] : Int) ≤ (n : Int)) = false := by simp; omega
        have bx2 : decide (L[k + 1] ≤ n) = false := by simp; omega
        clear hg hkn hl
        generalize L[k + 1] = x at *
        go_wp2
        go_ret
        exact ⟨ret_int (by rw [HL.out]), rfl⟩
    · have HL := Lib.hid (lastLe_up HU.out n k hk hkn (fun h => absurd h hlt))
      clear hkn
      go_wp2
      go_ret
      exact ⟨ret_int (by rw [HL.out]), rfl⟩
def lensI : List Int := lensL.map fun (n : Nat) => (n : Int)
def distI : List Int := distL.map fun (n : Nat) => (n : Int)
theorem lens_row (w : World) (B : Nat) (hB : B = w.heap.size) : RowN .i64 (w.alloc (.cells (lensI.map (Value.int .i64)).toArray 3)) (some ⟨B, 0, none⟩) 29 lensL := rowN_lit' .i64 w lensL _ _ _ hB (by simp [lensI]) (by decide)
theorem dist_row (w : World) (B : Nat) (hB : B = w.heap.size) : RowN .i64 (w.alloc (.cells (distI.map (Value.int .i64)).toArray 3)) (some ⟨B, 0, none⟩) 30 distL := rowN_lit' .i64 w distL _ _ _ hB (by simp [distI]) (by decide)
theorem ref08_lengths (w : World) :
    Calls Try.prog 101 #[] w fun e w' => e = .returned (.slice (some ⟨w.heap.size, 0, none⟩) 29 29) ∧ w' = w.alloc (.cells (lensI.map (Value.int .i64)).toArray 3) := by
  go_enter Try.func101, Try.ntmps101
  go_wp2_with (refine wpList_buildFlat rfl 59 3 29 _ rfl .i64 lensI Try.underlying59 (by kernel_rfl) (by kernel_rfl) rfl (by decide) (by decide) rfl ?_)
  go_ret
  exact ⟨rfl, rfl⟩
theorem ref08_distances (w : World) :
    Calls Try.prog 103 #[] w fun e w' => e = .returned (.slice (some ⟨w.heap.size, 0, none⟩) 30 30) ∧ w' = w.alloc (.cells (distI.map (Value.int .i64)).toArray 3) := by
  go_enter Try.func103, Try.ntmps103
  go_wp2_with (refine wpList_buildFlat rfl 59 3 30 _ rfl .i64 distI Try.underlying59 (by kernel_rfl) (by kernel_rfl) rfl (by decide) (by decide) rfl ?_)
  go_ret
  exact ⟨rfl, rfl⟩
theorem ref08_lbits (s : Nat) (w : World) (h : s ≤ 1000) :
    Calls Try.prog 102 #[.int .i64 s] w fun e w' => e = .returned (.int .i64 (lbits s : Nat)) ∧ w = w' := by
  by_cases h1 : s < 265
  · have H : Hid (lbits s = 0) := by unfold Hid lbits; rw [if_pos (.inl h1)]
    have b1 : decide ((s : Int) < 265) = true := by simp; omega
    go_enter Try.func102, Try.ntmps102
    go_wp2
    go_ret
    exact ⟨ret_int (by rw [H.out]; rfl), rfl⟩
  · by_cases h2 : s = 285
    · subst h2
      go_enter Try.func102, Try.ntmps102
      go_wp2
      go_ret
      exact ⟨rfl, rfl⟩
    · have H : Hid (lbits s = (s - 261) / 4) := by unfold Hid lbits; rw [if_neg (by omega)]
      have b1 : decide ((s : Int) < 265) = false := by simp; omega
      have b2 : ((s : Int) == 285) = false := by simp; omega
      go_enter Try.func102, Try.ntmps102
      go_wp2
      go_ret
      exact ⟨ret_int (by rw [H.out]; omega), rfl⟩
theorem ref08_dbits (s : Nat) (w : World) (h : s ≤ 1000) :
    Calls Try.prog 104 #[.int .i64 s] w fun e w' => e = .returned (.int .i64 (dbits s : Nat)) ∧ w = w' := by
  by_cases h1 : s < 4
  · have H : Hid (dbits s = 0) := by unfold Hid dbits; rw [if_pos h1]
    have b1 : decide ((s : Int) < 4) = true := by simp; omega
    go_enter Try.func104, Try.ntmps104
    go_wp2
    go_ret
    exact ⟨ret_int (by rw [H.out]; rfl), rfl⟩
  · have H : Hid (dbits s = (s - 2) / 2) := by unfold Hid dbits; rw [if_neg h1]
    have b1 : decide ((s : Int) < 4) = false := by simp; omega
    go_enter Try.func104, Try.ntmps104
    go_wp2
    go_ret
    exact ⟨ret_int (by rw [H.out]; omega), rfl⟩

theorem ref08_lbits_k (k : Nat) (w : World) (h : k ≤ 100) :
    Calls Try.prog 102 #[.int .i64 (257 + (k : Int))] w fun e w' => e = .returned (.int .i64 (lbits (257 + k) : Nat)) ∧ w = w' := by
  have := ref08_lbits (257 + k) w (by omega)
  rwa [show ((257 + k : Nat) : Int) = 257 + (k : Int) from by simp] at this
theorem lens_made (w : World) (k : Nat) (hk : k < 29) :
    Calls Try.prog 101 #[] w fun e w' => ∃ b, e = .returned (.slice (some ⟨b, 0, none⟩) 29 29) ∧ w'.cell? ⟨b, k, none⟩ = some (.int .i64 (lensL.getD k 0 : Nat)) ∧ Below w.heap.size w w' :=
  (ref08_lengths w).mono fun e w' ⟨h1, h2⟩ => by
    subst h2
    refine ⟨_, h1, ?_, (Below.refl _ _).alloc (Nat.le_refl _) _⟩
    obtain ⟨b, off, he, _, hc⟩ := (lens_row w _ rfl).at (i := k) hk
    cases he
    rw [Nat.zero_add] at hc
    rw [hc]
    simp [show k < lensL.length from hk] <;> rfl
theorem dist_made (w : World) (k : Nat) (hk : k < 30) :
    Calls Try.prog 103 #[] w fun e w' => ∃ b, e = .returned (.slice (some ⟨b, 0, none⟩) 30 30) ∧ w'.cell? ⟨b, k, none⟩ = some (.int .i64 (distL.getD k 0 : Nat)) ∧ Below w.heap.size w w' :=
  (ref08_distances w).mono fun e w' ⟨h1, h2⟩ => by
    subst h2
    refine ⟨_, h1, ?_, (Below.refl _ _).alloc (Nat.le_refl _) _⟩
    obtain ⟨b, off, he, _, hc⟩ := (dist_row w _ rfl).at (i := k) hk
    cases he
    rw [Nat.zero_add] at hc
    rw [hc]
    simp [show k < distL.length from hk] <;> rfl

theorem evalC (a : Act) (v : Value) : a.eval (.const v) = v := rfl
theorem eqgA (t : TypeId) (x y : Operand) (u v : Value) (w : World) : (eqGuard .add t x y u v).run Try.prog w = .ok () w := by simp [eqGuard, go_sem]
theorem eqgS (t : TypeId) (x y : Operand) (u v : Value) (w : World) : (eqGuard .sub t x y u v).run Try.prog w = .ok () w := by simp [eqGuard, go_sem]
theorem addI (t : TypeId) (x y : Int) (w : World) : (binOp .add t (.int .i64 x) (.int .i64 y) : Sem Value).run Try.prog w = .ok (.int .i64 (IntKind.i64.wrap (x + y))) w := by
  simp [binOp, Op.intArith, go_sem]
theorem subI (t : TypeId) (x y : Int) (w : World) : (binOp .sub t (.int .i64 x) (.int .i64 y) : Sem Value).run Try.prog w = .ok (.int .i64 (IntKind.i64.wrap (x - y))) w := by
  simp [binOp, Op.intArith, go_sem]
theorem ixI (b k N c : Nat) (h : k < N) (w : World) : (Instr.indexAt 59 (.slice (some ⟨b, 0, none⟩) N c) (.int .i64 (k : Nat))).run Try.prog w = .ok (.pointer (some ⟨b, k, none⟩)) w := by
  have h1 : ¬ N ≤ k := by omega
  simp [Instr.indexAt, asIntOf, run_underlying Try.underlying59, h, go_sem]
theorem ldInt (p : Addr) (v : Value) (w : World) (h : w.cell? p = some v) : (Instr.loadAt 3 (.pointer (some p))).run Try.prog w = .ok v w := by
  simp [Instr.loadAt, Instr.sureAddr, loadVar, isAgg, run_underlying Try.underlying3, h, go_sem]
theorem cell_lt {w : World} {b o : Nat} {v : Value} (h : w.cell? ⟨b, o, none⟩ = some v) : b < w.heap.size := by
  rcases Nat.lt_or_ge b w.heap.size with h' | h'
  · exact h'
  · simp [World.cell?, Array.getElem?_eq_none h'] at h
def rlV (n k bb xx : Nat) (j : Nat) (v : Value) (w : World) : Prop :=
  match j with
  | 0 => v = .int .i64 (k : Nat)
  | 1 => v = .int .i64 (257 + (k : Int))
  | 2 => v = .int .i64 (k : Nat)
  | 3 => v = .int .i64 (257 + (k : Int))
  | 4 => v = .int .i64 (bb : Nat)
  | 5 => v = .int .i64 (n : Nat)
  | 6 => ∃ b, v = .slice (some ⟨b, 0, none⟩) 29 29 ∧ w.cell? ⟨b, k, none⟩ = some (.int .i64 (xx : Nat)) ∧ b < w.heap.size
  | 7 => v = .int .i64 (k : Nat)
  | 8 => ∃ b, v = .pointer (some ⟨b, k, none⟩) ∧ w.cell? ⟨b, k, none⟩ = some (.int .i64 (xx : Nat)) ∧ b < w.heap.size
  | 9 => v = .int .i64 (xx : Nat)
  | 10 => v = .int .i64 ((n : Int) - (xx : Nat))
  | 11 => v = .int .i64 (257 + (k : Int))
  | 12 => v = .int .i64 (bb : Nat)
  | 13 => v = .int .i64 ((n : Int) - (xx : Nat))
  | 14 => v = .int .i64 0
  | _ => True
theorem rlV_below {n k bb xx : Nat} {w w' : World} (j : Nat) (u : Value) (hb : Below w.heap.size w w') (h : rlV n k bb xx j u w) : rlV n k bb xx j u w' := by
  unfold rlV at *
  split at h
  all_goals try exact h
  all_goals
    obtain ⟨b, h1, h2, h3⟩ := h
    exact ⟨b, h1, (hb.cell (p := ⟨b, k, none⟩) h3).trans h2, Nat.lt_of_lt_of_le h3 hb.size⟩
def rdV (n k bb xx : Nat) (j : Nat) (v : Value) (w : World) : Prop :=
  match j with
  | 0 => v = .int .i64 (k : Nat)
  | 1 => v = .int .i64 (k : Nat)
  | 2 => v = .int .i64 (bb : Nat)
  | 3 => v = .int .i64 (n : Nat)
  | 4 => ∃ b, v = .slice (some ⟨b, 0, none⟩) 30 30 ∧ w.cell? ⟨b, k, none⟩ = some (.int .i64 (xx : Nat)) ∧ b < w.heap.size
  | 5 => v = .int .i64 (k : Nat)
  | 6 => ∃ b, v = .pointer (some ⟨b, k, none⟩) ∧ w.cell? ⟨b, k, none⟩ = some (.int .i64 (xx : Nat)) ∧ b < w.heap.size
  | 7 => v = .int .i64 (xx : Nat)
  | 8 => v = .int .i64 ((n : Int) - (xx : Nat))
  | 9 => v = .int .i64 (k : Nat)
  | 10 => v = .int .i64 (bb : Nat)
  | 11 => v = .int .i64 ((n : Int) - (xx : Nat))
  | 12 => v = .int .i64 0
  | _ => True
theorem rdV_below {n k bb xx : Nat} {w w' : World} (j : Nat) (u : Value) (hb : Below w.heap.size w w') (h : rdV n k bb xx j u w) : rdV n k bb xx j u w' := by
  unfold rdV at *
  split at h
  all_goals try exact h
  all_goals
    obtain ⟨b, h1, h2, h3⟩ := h
    exact ⟨b, h1, (hb.cell (p := ⟨b, k, none⟩) h3).trans h2, Nat.lt_of_lt_of_le h3 hb.size⟩

set_option maxHeartbeats 1600000 in
theorem ref08_length (n : Nat) (w : World) (h3 : 3 ≤ n) (h258 : n ≤ 258) :
    Calls Try.prog 66 #[.int .i64 n] w fun e w' =>
      e = .returned (.tuple #[.int .i64 (257 + lk n : Nat), .int .i64 (lbits (257 + lk n) : Nat), .int .i64 ((n - lensL.getD (lk n) 0 : Nat) : Int), .int .i64 0]) ∧ Below w.heap.size w w' := by
  have hk : lk n < 29 := lastLe_lt n (by decide)
  have hle : lensL.getD (lk n) 0 ≤ n := (lastLe_spec lens_up n (by decide) h3).1
  have HL := Lib.hid (show lastLe lensL n = lk n from rfl)
  have HP : ((257 + lk n : Nat) : Int) = 257 + ((lk n : Nat) : Int) := by simp
  have HD : ((n - lensL.getD (lk n) 0 : Nat) : Int) = (n : Int) - (lensL.getD (lk n) 0 : Nat) := by omega
  rw [HP, HD]
  clear HP HD
  generalize lk n = k at *
  have HM := Lib.hid (fun (w : World) => lens_made w k hk)
  have HBB := Lib.hid (fun (w : World) => ref08_lbits_k k w (by omega))
  generalize lensL.getD k 0 = xx at *
  generalize lbits (257 + k) = bb at *
  have hB0 : Below w.heap.size w (w.alloc (.cells (lensI.map (Value.int .i64)).toArray 3)) := (Below.refl _ _).alloc (Nat.le_refl _) _
  have HB := Lib.hid hB0
  clear hB0
  go_enter Try.func66, Try.ntmps66
  go_wp2_with (first | (go_at_call 101; refine (ref08_lengths _).mono ?_; rintro e w' ⟨rfl, rfl⟩) | (go_at_call 100; refine (ref08_last _ _ _ lensL n (by decide) (by decide) lens_up h3 (lens_row w _ rfl)).mono ?_; rintro e w' ⟨rfl, rfl⟩; rw [HL.out]))
  clear HL
  generalize w.alloc (.cells (lensI.map (Value.int .i64)).toArray 3) = w1 at *
  have hw1 : IntKind.i64.wrap (257 + (k : Int)) = 257 + (k : Int) := IntWalk.i64_in _ (by omega)
  have hw2 : IntKind.i64.wrap ((n : Int) - (xx : Int)) = (n : Int) - (xx : Int) := IntWalk.i64_in _ (by omega)
  refine wp_region_flow [16, 17, 18, 19, 20, 21, 22, 23, 24, 25, 26, 2, 3, 4, 5] (fun j => j == 11 || j == 12 || j == 13 || j == 14) (fun w => Below w1.heap.size w1 w) (rlV n k bb xx) (fun _ _ _ _ => True) (by kernel_rfl) (by kernel_rfl) (OneEach.mk' (by kernel_rfl) (by kernel_rfl)) (by kernel_rfl) (by kernel_rfl) ?_ ?_ ?_
  · exact ⟨rfl, rfl, rfl, Nat.le_refl _, fun _ _ => rfl⟩
  · intro i0 o hi0 a1 W hR hout hdep
    have hsz : i0 < 15 := (Array.getElem?_eq_some_iff.1 hi0).1
    have hall : i0 = 0 ∨ i0 = 1 ∨ i0 = 2 ∨ i0 = 3 ∨ i0 = 4 ∨ i0 = 5 ∨ i0 = 6 ∨ i0 = 7 ∨ i0 = 8 ∨ i0 = 9 ∨ i0 = 10 ∨ i0 = 11 ∨ i0 = 12 ∨ i0 = 13 ∨ i0 = 14 := by omega
    clear hsz
    rcases hall with rfl | rfl | rfl | rfl | rfl | rfl | rfl | rfl | rfl | rfl | rfl | rfl | rfl | rfl | rfl <;> simp only [List.getElem?_toArray, List.getElem?_cons_zero, List.getElem?_cons_succ, Option.some.injEq] at hi0 <;> subst hi0
    · have f6 : a1.eval (.tmp 6) = .int .i64 (k : Nat) := hout 6 (by decide)
      refine stepTo_val (v := .int .i64 (k : Nat)) (w' := W) (by simp [execOp, f6]) ⟨_, rfl, hR, fun j u hu hV _ => ⟨hV, trivial, trivial⟩, rfl⟩
    · have e16 : a1.eval (.tmp 16) = .int .i64 (k : Nat) := hdep ⟨0, .data⟩ (by simp) rfl _ rfl
      refine stepTo_val (v := .int .i64 (257 + (k : Int))) (w' := W) (by simp [execOp, e16, evalC, eqgA, addI, hw1]) ⟨_, rfl, hR, fun j u hu hV _ => ⟨hV, trivial, trivial⟩, rfl⟩
    · have f6 : a1.eval (.tmp 6) = .int .i64 (k : Nat) := hout 6 (by decide)
      refine stepTo_val (v := .int .i64 (k : Nat)) (w' := W) (by simp [execOp, f6]) ⟨_, rfl, hR, fun j u hu hV _ => ⟨hV, trivial, trivial⟩, rfl⟩
    · have e18 : a1.eval (.tmp 18) = .int .i64 (k : Nat) := hdep ⟨2, .data⟩ (by simp) rfl _ rfl
      refine stepTo_val (v := .int .i64 (257 + (k : Int))) (w' := W) (by simp [execOp, e18, evalC, eqgA, addI, hw1]) ⟨_, rfl, hR, fun j u hu hV _ => ⟨hV, trivial, trivial⟩, rfl⟩
    · have e19 : a1.tmps[19]?.getD undef = .int .i64 (257 + (k : Int)) := by simpa [leftBy] using (show leftBy a1 _ = .int .i64 (257 + (k : Int)) from hdep ⟨3, .data⟩ (by simp) rfl _ rfl)
      refine stepTo_call (f := 102) (args := #[.int .i64 (257 + (k : Int))]) (by simp [e19, go_sem]) ((HBB.out W).mono ?_)
      rintro e w' ⟨rfl, rfl⟩
      exact ⟨_, rfl, _, rfl, hR, fun j u hu hV _ => ⟨hV, trivial, trivial⟩, rfl⟩
    · have f0 : a1.eval (.tmp 0) = .int .i64 (n : Nat) := hout 0 (by decide)
      refine stepTo_val (v := .int .i64 (n : Nat)) (w' := W) (by simp [execOp, f0]) ⟨_, rfl, hR, fun j u hu hV _ => ⟨hV, trivial, trivial⟩, rfl⟩
    · refine stepTo_call (f := 101) (args := #[]) (by simp [go_sem]) ((HM.out W).mono ?_)
      rintro e w' ⟨b, rfl, hc, hb⟩
      exact ⟨_, rfl, _, rfl, hR.trans (hb.mono hR.size), fun j u hu hV _ => ⟨rlV_below j u hb hV, trivial, trivial⟩, b, rfl, hc, cell_lt hc⟩
    · have f6 : a1.eval (.tmp 6) = .int .i64 (k : Nat) := hout 6 (by decide)
      refine stepTo_val (v := .int .i64 (k : Nat)) (w' := W) (by simp [execOp, f6]) ⟨_, rfl, hR, fun j u hu hV _ => ⟨hV, trivial, trivial⟩, rfl⟩
    · obtain ⟨b, e22', hcell, hblt⟩ := hdep ⟨6, .data⟩ (by simp) rfl _ rfl
      have e22 : a1.eval (.tmp 22) = .slice (some ⟨b, 0, none⟩) 29 29 := e22'
      have e23 : a1.eval (.tmp 23) = .int .i64 (k : Nat) := hdep ⟨7, .data⟩ (by simp) rfl _ rfl
      refine stepTo_val (v := .pointer (some ⟨b, k, none⟩)) (w' := W) (by simp [execOp, e22, e23, ixI b k 29 29 hk]) ⟨_, rfl, hR, fun j u hu hV _ => ⟨hV, trivial, trivial⟩, b, rfl, hcell, hblt⟩
    · obtain ⟨b, e24', hcell, hblt⟩ := hdep ⟨8, .data⟩ (by simp) rfl _ rfl
      have e24 : a1.eval (.tmp 24) = .pointer (some ⟨b, k, none⟩) := e24'
      refine stepTo_val (v := .int .i64 (xx : Nat)) (w' := W) (by simp [execOp, e24, ldInt _ _ _ hcell]) ⟨_, rfl, hR, fun j u hu hV _ => ⟨hV, trivial, trivial⟩, rfl⟩
    · have e21 : a1.eval (.tmp 21) = .int .i64 (n : Nat) := hdep ⟨5, .data⟩ (by simp) rfl _ rfl
      have e25 : a1.eval (.tmp 25) = .int .i64 (xx : Nat) := hdep ⟨9, .data⟩ (by simp) rfl _ rfl
      refine stepTo_val (v := .int .i64 ((n : Int) - (xx : Nat))) (w' := W) (by simp [execOp, e21, e25, eqgS, subI, hw2]) ⟨_, rfl, hR, fun j u hu hV _ => ⟨hV, trivial, trivial⟩, rfl⟩
    · have e17 : a1.eval (.tmp 17) = .int .i64 (257 + (k : Int)) := hdep ⟨1, .data⟩ (by simp) rfl _ rfl
      refine stepTo_val (v := .int .i64 (257 + (k : Int))) (w' := W) (by simp [execOp, e17]) ⟨_, rfl, hR, fun j u hu hV _ => ⟨hV, trivial, trivial⟩, rfl⟩
    · have e20 : a1.eval (.tmp 20) = .int .i64 (bb : Nat) := hdep ⟨4, .data⟩ (by simp) rfl _ rfl
      refine stepTo_val (v := .int .i64 (bb : Nat)) (w' := W) (by simp [execOp, e20]) ⟨_, rfl, hR, fun j u hu hV _ => ⟨hV, trivial, trivial⟩, rfl⟩
    · have e26 : a1.eval (.tmp 26) = .int .i64 ((n : Int) - (xx : Nat)) := hdep ⟨10, .data⟩ (by simp) rfl _ rfl
      refine stepTo_val (v := .int .i64 ((n : Int) - (xx : Nat))) (w' := W) (by simp [execOp, e26]) ⟨_, rfl, hR, fun j u hu hV _ => ⟨hV, trivial, trivial⟩, rfl⟩
    · refine stepTo_val (v := .int .i64 0) (w' := W) (by simp [execOp, evalC]) ⟨_, rfl, hR, fun j u hu hV _ => ⟨hV, trivial, trivial⟩, rfl⟩
  · intro f W hR hV
    have v1 : f 2 = .int .i64 (257 + (k : Int)) := hV 11 _ rfl rfl
    have v2 : f 3 = .int .i64 (bb : Nat) := hV 12 _ rfl rfl
    have v3 : f 4 = .int .i64 ((n : Int) - (xx : Nat)) := hV 13 _ rfl rfl
    have v4 : f 5 = .int .i64 0 := hV 14 _ rfl rfl
    simp only [spread, List.contains_cons, List.contains_nil, Nat.reduceBEq, Bool.or_false, Bool.or_true, cond_true, cond_false, Nat.reduceAdd, Nat.zero_add, v1, v2, v3, v4]
    go_wp2_with fail
    refine bodyPost_ret (results_tmp4 rfl _ _ _) rfl ?_
    exact ⟨rfl, HB.out.trans (hR.mono HB.out.size)⟩

set_option maxHeartbeats 1600000 in
theorem ref08_distance (n : Nat) (w : World) (h1 : 1 ≤ n) (h2 : n ≤ 32768) :
    Calls Try.prog 67 #[.int .i64 n] w fun e w' =>
      e = .returned (.tuple #[.int .i64 (dk n : Nat), .int .i64 (dbits (dk n) : Nat), .int .i64 ((n - distL.getD (dk n) 0 : Nat) : Int), .int .i64 0]) ∧ Below w.heap.size w w' := by
  have hk : dk n < 30 := lastLe_lt n (by decide)
  have hle : distL.getD (dk n) 0 ≤ n := (lastLe_spec dist_up n (by decide) h1).1
  have HL := Lib.hid (show lastLe distL n = dk n from rfl)
  have HD : ((n - distL.getD (dk n) 0 : Nat) : Int) = (n : Int) - (distL.getD (dk n) 0 : Nat) := by omega
  rw [HD]
  clear HD
  generalize dk n = k at *
  have HM := Lib.hid (fun (w : World) => dist_made w k hk)
  have HBB := Lib.hid (fun (w : World) => ref08_dbits k w (by omega))
  generalize distL.getD k 0 = xx at *
  generalize dbits k = bb at *
  have hB0 : Below w.heap.size w (w.alloc (.cells (distI.map (Value.int .i64)).toArray 3)) := (Below.refl _ _).alloc (Nat.le_refl _) _
  have HB := Lib.hid hB0
  clear hB0
  go_enter Try.func67, Try.ntmps67
  go_wp2_with (first | (go_at_call 103; refine (ref08_distances _).mono ?_; rintro e w' ⟨rfl, rfl⟩) | (go_at_call 100; refine (ref08_last _ _ _ distL n (by decide) (by decide) dist_up h1 (dist_row w _ rfl)).mono ?_; rintro e w' ⟨rfl, rfl⟩; rw [HL.out]))
  clear HL
  generalize w.alloc (.cells (distI.map (Value.int .i64)).toArray 3) = w1 at *
  have hw2 : IntKind.i64.wrap ((n : Int) - (xx : Int)) = (n : Int) - (xx : Int) := IntWalk.i64_in _ (by omega)
  refine wp_region_flow [16, 17, 18, 19, 20, 21, 22, 23, 24, 2, 3, 4, 5] (fun j => j == 9 || j == 10 || j == 11 || j == 12) (fun w => Below w1.heap.size w1 w) (rdV n k bb xx) (fun _ _ _ _ => True) (by kernel_rfl) (by kernel_rfl) (OneEach.mk' (by kernel_rfl) (by kernel_rfl)) (by kernel_rfl) (by kernel_rfl) ?_ ?_ ?_
  · exact ⟨rfl, rfl, rfl, Nat.le_refl _, fun _ _ => rfl⟩
  · intro i0 o hi0 a1 W hR hout hdep
    have hsz : i0 < 13 := (Array.getElem?_eq_some_iff.1 hi0).1
    have hall : i0 = 0 ∨ i0 = 1 ∨ i0 = 2 ∨ i0 = 3 ∨ i0 = 4 ∨ i0 = 5 ∨ i0 = 6 ∨ i0 = 7 ∨ i0 = 8 ∨ i0 = 9 ∨ i0 = 10 ∨ i0 = 11 ∨ i0 = 12 := by omega
    clear hsz
    rcases hall with rfl | rfl | rfl | rfl | rfl | rfl | rfl | rfl | rfl | rfl | rfl | rfl | rfl <;> simp only [List.getElem?_toArray, List.getElem?_cons_zero, List.getElem?_cons_succ, Option.some.injEq] at hi0 <;> subst hi0
    · have f6 : a1.eval (.tmp 6) = .int .i64 (k : Nat) := hout 6 (by decide)
      refine stepTo_val (v := .int .i64 (k : Nat)) (w' := W) (by simp [execOp, f6]) ⟨_, rfl, hR, fun j u hu hV _ => ⟨hV, trivial, trivial⟩, rfl⟩
    · have f6 : a1.eval (.tmp 6) = .int .i64 (k : Nat) := hout 6 (by decide)
      refine stepTo_val (v := .int .i64 (k : Nat)) (w' := W) (by simp [execOp, f6]) ⟨_, rfl, hR, fun j u hu hV _ => ⟨hV, trivial, trivial⟩, rfl⟩
    · have e17 : a1.tmps[17]?.getD undef = .int .i64 (k : Nat) := by simpa [leftBy] using (show leftBy a1 _ = .int .i64 (k : Nat) from hdep ⟨1, .data⟩ (by simp) rfl _ rfl)
      refine stepTo_call (f := 104) (args := #[.int .i64 (k : Nat)]) (by simp [e17, go_sem]) ((HBB.out W).mono ?_)
      rintro e w' ⟨rfl, rfl⟩
      exact ⟨_, rfl, _, rfl, hR, fun j u hu hV _ => ⟨hV, trivial, trivial⟩, rfl⟩
    · have f0 : a1.eval (.tmp 0) = .int .i64 (n : Nat) := hout 0 (by decide)
      refine stepTo_val (v := .int .i64 (n : Nat)) (w' := W) (by simp [execOp, f0]) ⟨_, rfl, hR, fun j u hu hV _ => ⟨hV, trivial, trivial⟩, rfl⟩
    · refine stepTo_call (f := 103) (args := #[]) (by simp [go_sem]) ((HM.out W).mono ?_)
      rintro e w' ⟨b, rfl, hc, hb⟩
      exact ⟨_, rfl, _, rfl, hR.trans (hb.mono hR.size), fun j u hu hV _ => ⟨rdV_below j u hb hV, trivial, trivial⟩, b, rfl, hc, cell_lt hc⟩
    · have f6 : a1.eval (.tmp 6) = .int .i64 (k : Nat) := hout 6 (by decide)
      refine stepTo_val (v := .int .i64 (k : Nat)) (w' := W) (by simp [execOp, f6]) ⟨_, rfl, hR, fun j u hu hV _ => ⟨hV, trivial, trivial⟩, rfl⟩
    · obtain ⟨b, e20', hcell, hblt⟩ := hdep ⟨4, .data⟩ (by simp) rfl _ rfl
      have e20 : a1.eval (.tmp 20) = .slice (some ⟨b, 0, none⟩) 30 30 := e20'
      have e21 : a1.eval (.tmp 21) = .int .i64 (k : Nat) := hdep ⟨5, .data⟩ (by simp) rfl _ rfl
      refine stepTo_val (v := .pointer (some ⟨b, k, none⟩)) (w' := W) (by simp [execOp, e20, e21, ixI b k 30 30 hk]) ⟨_, rfl, hR, fun j u hu hV _ => ⟨hV, trivial, trivial⟩, b, rfl, hcell, hblt⟩
    · obtain ⟨b, e22', hcell, hblt⟩ := hdep ⟨6, .data⟩ (by simp) rfl _ rfl
      have e22 : a1.eval (.tmp 22) = .pointer (some ⟨b, k, none⟩) := e22'
      refine stepTo_val (v := .int .i64 (xx : Nat)) (w' := W) (by simp [execOp, e22, ldInt _ _ _ hcell]) ⟨_, rfl, hR, fun j u hu hV _ => ⟨hV, trivial, trivial⟩, rfl⟩
    · have e19 : a1.eval (.tmp 19) = .int .i64 (n : Nat) := hdep ⟨3, .data⟩ (by simp) rfl _ rfl
      have e23 : a1.eval (.tmp 23) = .int .i64 (xx : Nat) := hdep ⟨7, .data⟩ (by simp) rfl _ rfl
      refine stepTo_val (v := .int .i64 ((n : Int) - (xx : Nat))) (w' := W) (by simp [execOp, e19, e23, eqgS, subI, hw2]) ⟨_, rfl, hR, fun j u hu hV _ => ⟨hV, trivial, trivial⟩, rfl⟩
    · have e16 : a1.eval (.tmp 16) = .int .i64 (k : Nat) := hdep ⟨0, .data⟩ (by simp) rfl _ rfl
      refine stepTo_val (v := .int .i64 (k : Nat)) (w' := W) (by simp [execOp, e16]) ⟨_, rfl, hR, fun j u hu hV _ => ⟨hV, trivial, trivial⟩, rfl⟩
    · have e18 : a1.eval (.tmp 18) = .int .i64 (bb : Nat) := hdep ⟨2, .data⟩ (by simp) rfl _ rfl
      refine stepTo_val (v := .int .i64 (bb : Nat)) (w' := W) (by simp [execOp, e18]) ⟨_, rfl, hR, fun j u hu hV _ => ⟨hV, trivial, trivial⟩, rfl⟩
    · have e24 : a1.eval (.tmp 24) = .int .i64 ((n : Int) - (xx : Nat)) := hdep ⟨8, .data⟩ (by simp) rfl _ rfl
      refine stepTo_val (v := .int .i64 ((n : Int) - (xx : Nat))) (w' := W) (by simp [execOp, e24]) ⟨_, rfl, hR, fun j u hu hV _ => ⟨hV, trivial, trivial⟩, rfl⟩
    · refine stepTo_val (v := .int .i64 0) (w' := W) (by simp [execOp, evalC]) ⟨_, rfl, hR, fun j u hu hV _ => ⟨hV, trivial, trivial⟩, rfl⟩
  · intro f W hR hV
    have v1 : f 2 = .int .i64 (k : Nat) := hV 9 _ rfl rfl
    have v2 : f 3 = .int .i64 (bb : Nat) := hV 10 _ rfl rfl
    have v3 : f 4 = .int .i64 ((n : Int) - (xx : Nat)) := hV 11 _ rfl rfl
    have v4 : f 5 = .int .i64 0 := hV 12 _ rfl rfl
    simp only [spread, List.contains_cons, List.contains_nil, Nat.reduceBEq, Bool.or_false, Bool.or_true, cond_true, cond_false, Nat.reduceAdd, Nat.zero_add, v1, v2, v3, v4]
    go_wp2_with fail
    refine bodyPost_ret (results_tmp4 rfl _ _ _) rfl ?_
    exact ⟨rfl, HB.out.trans (hR.mono HB.out.size)⟩
end Go.Proofs.Ytmgoeokdlklabaa
