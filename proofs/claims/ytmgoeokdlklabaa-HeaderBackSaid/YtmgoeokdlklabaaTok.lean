/- Contracts of package token: the scales, their search, the symbols of lengths and distances. -/
import Derived.Test.YtmgoeokdlklabaaChecked
import Derived.Test.YtmgoeokdlklabaaRange
import Derived.Test.YtmgoeokdlklabaaFlow
import Derived.Test.YtmgoeokdlklabaaM08
import Derived.BigQuiet
import Derived.Deep.QuietTactic
namespace Go.Proofs.Ytmgoeokdlklabaa
open Go.RowKit Go.Shelf M08
attribute [local go_sem] Oper.semAt_some
set_option linter.unusedVariables false

def scRow (none each least i : Nat) : Array Value := #[.int .i64 (sleast none each least i : Nat), .int .i64 (sbits none each i : Nat)]
def scS (B b : Nat) : Prop := b = B ∨ b = B + 1 ∨ b = B + 1 + 1 ∨ b = B + 1 + 1 + 1
theorem alloc4 (w : World) (o1 o2 o3 o4 : Obj) : ((((w.alloc o1).alloc o2).alloc o3).alloc o4).heap.size = w.heap.size + 4 ∧ ((((w.alloc o1).alloc o2).alloc o3).alloc o4).heap[w.heap.size]? = some o1 ∧ ((((w.alloc o1).alloc o2).alloc o3).alloc o4).heap[w.heap.size + 1]? = some o2 ∧
    ((((w.alloc o1).alloc o2).alloc o3).alloc o4).heap[w.heap.size + 1 + 1]? = some o3 ∧ ((((w.alloc o1).alloc o2).alloc o3).alloc o4).heap[w.heap.size + 1 + 1 + 1]? = some o4 ∧ Below w.heap.size w ((((w.alloc o1).alloc o2).alloc o3).alloc o4) := by
  have h1 := World.alloc_heap_new w o1
  have h2 := World.alloc_heap_new (w.alloc o1) o2
  have h3 := World.alloc_heap_new ((w.alloc o1).alloc o2) o3
  have h4 := World.alloc_heap_new (((w.alloc o1).alloc o2).alloc o3) o4
  simp only [World.size_alloc] at h2 h3 h4
  refine ⟨by simp, ?_, ?_, ?_, h4, (((((Below.refl _ w).alloc (Nat.le_refl _) _).alloc (by simp) _).alloc (by simp; omega) _).alloc (by simp; omega) _)⟩
  · rw [Below.heap_alloc _ _ _ (by simp only [World.size_alloc]; omega), Below.heap_alloc _ _ _ (by simp only [World.size_alloc]; omega), Below.heap_alloc _ _ _ (by simp)]; exact h1
  · rw [Below.heap_alloc _ _ _ (by simp only [World.size_alloc]; omega), Below.heap_alloc _ _ _ (by simp)]; exact h2
  · rw [Below.heap_alloc _ _ _ (by simp)]; exact h3

theorem token_scale (n none each least : Nat) (w : World) :
    Calls Try.prog 122 #[.int .i64 n, .int .i64 none, .int .i64 each, .int .i64 least] w fun e w' =>
      e = .returned (.func (.func 130) #[] #[.pointer (some ⟨w.heap.size, 0, .none⟩), .pointer (some ⟨w.heap.size + 1, 0, .none⟩), .pointer (some ⟨w.heap.size + 1 + 1, 0, .none⟩), .pointer (some ⟨w.heap.size + 1 + 1 + 1, 0, .none⟩)]) ∧
      w' = (((w.alloc (.cells #[.int .i64 n] 3)).alloc (.cells #[.int .i64 none] 3)).alloc (.cells #[.int .i64 each] 3)).alloc (.cells #[.int .i64 least] 3) := by
  have hmf : ∀ (fn : Fn) (first cap : Array Value) (w : World), (Instr.makeFunc fn first cap).run Try.prog w = .ok (.func fn first cap) w := fun _ _ _ _ => rfl
  go_enter Try.func122, Try.ntmps122
  go_wp2
  go_ret
  exact ⟨rfl, rfl⟩

theorem round_wide' {n m : Nat} {P : Program} {l : Nat} {f : FuncId} {tmps : Array Value} {assign body : Code} {w : World} {R : Ending → World → Prop} (h : RoundIn Fence.wide n P l f tmps assign body w R) : RoundIn Fence.wide m P l f tmps assign body w R := ⟨h.1, fun c cs _ => h.2 c cs (room_wide _)⟩

theorem sbits_int {none each k : Nat} (h : none ≤ k) : (1 : Int) + ((k : Int) - (none : Int)) / (each : Int) = ((sbits none each k : Nat) : Int) := by
  unfold sbits
  rw [if_pos h]
  have : ((k : Int) - (none : Int)) = ((k - none : Nat) : Int) := by omega
  rw [this]
  simp

set_option maxHeartbeats 1600000 in
theorem scale_yields (n none each least B : Nat) (w : World) (hn : n ≤ 100) (hno : none ≤ 100) (he : 1 ≤ each) (he2 : each ≤ 100) (hb : ∀ i, i < n → sbits none each i ≤ 20) (hl : ∀ i, i ≤ n → sleast none each least i ≤ 1000000)
    (h1 : w.heap[B]? = some (.cells #[.int .i64 n] 3 (0, 0))) (h2 : w.heap[B + 1]? = some (.cells #[.int .i64 none] 3 (0, 0))) (h3 : w.heap[B + 1 + 1]? = some (.cells #[.int .i64 each] 3 (0, 0))) (h4 : w.heap[B + 1 + 1 + 1]? = some (.cells #[.int .i64 least] 3 (0, 0))) :
    Yields Try.prog 130 #[.pointer (some ⟨B, 0, .none⟩), .pointer (some ⟨B + 1, 0, .none⟩), .pointer (some ⟨B + 1 + 1, 0, .none⟩), .pointer (some ⟨B + 1 + 1 + 1, 0, .none⟩)] n (scRow none each least) (scS B) (fun b => b = B + 1 + 1 + 1) w := by
  intro y J Jx W hsame hJ hJx hY h0
  have HY := Lib.hid hY
  have HJ := Lib.hid hJ
  have HB := Lib.hid hb
  have HL := Lib.hid hl
  have e1 := (hsame.same B (.inl rfl)).trans h1
  have e2 := (hsame.same (B + 1) (.inr (.inl rfl))).trans h2
  have e3 := (hsame.same (B + 1 + 1) (.inr (.inr (.inl rfl)))).trans h3
  have e4 := (hsame.same (B + 1 + 1 + 1) (.inr (.inr (.inr rfl)))).trans h4
  have c1 := cell_of_one e1
  clear hJ hJx hY hb hl h1 h2 h3 h4
  refine callsIn_of_wp Try.func130 rfl trivial ?_ rfl
  simp only [Try.ntmps130, List.size_toArray, List.length_cons, List.length_nil, Nat.reduceAdd, Nat.reduceSub, Array.replicate_succ, Array.replicate_zero, List.push_toArray, List.append_toArray, List.nil_append, List.cons_append]
  gi_wp2
  gi_loopw [9] (fun i A => ∃ k : Nat, k ≤ n ∧ i = .int .i64 k ∧ A.heap[B + 1]? = some (.cells #[.int .i64 none] 3 (0, 0)) ∧ A.heap[B + 1 + 1]? = some (.cells #[.int .i64 each] 3 (0, 0)) ∧ A.heap[B + 1 + 1 + 1]? = some (.cells #[.int .i64 (sleast none each least k : Nat)] 3 (0, 0)) ∧ J k A) (fun i _ => n - (intOf i).toNat)
  case atStart => exact ⟨0, by omega, rfl, e2, e3, e4, h0⟩
  case round =>
    clear hsame e1 e2 e3 e4 c1
    obtain ⟨k, hk, rfl, e2, e3, e4, hJA⟩ := hrel
    have c2 := cell_of_one e2
    have c3 := cell_of_one e3
    have c4 := cell_of_one e4
    by_cases hlt : k < n
    · have hbk := HB.out k hlt
      have hlk := HL.out k (by omega)
      have hlk2 := HL.out (k + 1) (by omega)
      obtain ⟨fn, tmps, assign, body, hy, hR⟩ := HY.out _ _ hlt hJA
      have HR := Lib.hid hR
      have H2 := Lib.hid (show sleast none each least (k + 1) = sleast none each least k + 2 ^ sbits none each k from rfl)
      have HJA := Lib.hid hJA
      unfold scRow at hy
      clear hR hJA
      generalize sleast none each least k = x at *
      by_cases hnk : none ≤ k
      · have hbi := sbits_int (each := each) hnk
        generalize sbits none each k = bb at *
        gi_wp2
        refine (round_wide' HR.out).mono ?_
        rintro e W' (⟨rfl, hJ', hk'⟩ | ⟨rfl, hJx'⟩)
        · have f2 := (hk'.same (B + 1) (.inr (.inl rfl))).trans e2
          have f3 := (hk'.same (B + 1 + 1) (.inr (.inr (.inl rfl)))).trans e3
          have f4 := (hk'.same (B + 1 + 1 + 1) (.inr (.inr (.inr rfl)))).trans e4
          have d4 := cell_of_one f4
          have z4 := free_of_one f4
          have HJ' := Lib.hid hJ'
          clear hJ' hk' hy
          gi_wp2
          gi_region
          gi_wp2
          go_roundw
          case rel =>
            clear hbi
            have hp : (2 : Nat) ^ bb ≤ 2 ^ 20 := Nat.pow_le_pow_right (by simp) hbk
            have hv : Hid (wrap64 (↑x + wrap64 ((2 : Int) ^ bb)) = ((sleast none each least (k + 1) : Nat) : Int)) := by
              unfold Hid
              rw [H2.out]
              have h2 : (2 : Int) ^ bb = ((2 ^ bb : Nat) : Int) := by simp
              rw [h2]
              generalize (2 : Nat) ^ bb = pp at *
              have i1 : wrap64 (pp : Int) = pp := IntWalk.wrap64_in _ (by omega)
              rw [i1, IntWalk.wrap64_in _ (by omega)]; simp
            refine ⟨k + 1, Nat.succ_le_of_lt hlt, int_eq (Int.natCast_succ k).symm, ?_, ?_, ?_, HJ.out _ _ _ HJ'.out (Only.drew (Only.setCell (T := fun b => b = B + 1 + 1 + 1) (p := ⟨B + 1 + 1 + 1, 0, .none⟩) (Only.refl _ _) (.inl rfl) _))⟩
            · exact (Below.heap_setCell W' _ _ _ (by show B + 1 ≠ B + 1 + 1 + 1; omega)).trans f2
            · exact (Below.heap_setCell W' _ _ _ (by show B + 1 + 1 ≠ B + 1 + 1 + 1; omega)).trans f3
            · rw [← hv.out]; exact one_setCell f4
          case measure => simp [intOf]; omega
        · gi_wp2
          refine bodyPost_ret (results_none rfl _ _ _) rfl ?_
          exact ⟨⟨_, rfl⟩, .inr ⟨_, hlt, hJx'⟩⟩
      · have h0 : sbits none each k = 0 := by unfold sbits; rw [if_neg hnk]
        rw [h0] at hy H2
        simp only [Int.natCast_zero] at hy
        gi_wp2
        refine (round_wide' HR.out).mono ?_
        rintro e W' (⟨rfl, hJ', hk'⟩ | ⟨rfl, hJx'⟩)
        · have f2 := (hk'.same (B + 1) (.inr (.inl rfl))).trans e2
          have f3 := (hk'.same (B + 1 + 1) (.inr (.inr (.inl rfl)))).trans e3
          have f4 := (hk'.same (B + 1 + 1 + 1) (.inr (.inr (.inr rfl)))).trans e4
          have d4 := cell_of_one f4
          have z4 := free_of_one f4
          have HJ' := Lib.hid hJ'
          clear hJ' hk' hy
          gi_wp2
          gi_region
          gi_wp2
          go_roundw
          case rel =>
            have hv : Hid ((x : Int) + 1 = ((sleast none each least (k + 1) : Nat) : Int)) := by unfold Hid; rw [H2.out]; simp
            refine ⟨k + 1, Nat.succ_le_of_lt hlt, int_eq (Int.natCast_succ k).symm, ?_, ?_, ?_, HJ.out _ _ _ HJ'.out (Only.drew (Only.setCell (T := fun b => b = B + 1 + 1 + 1) (p := ⟨B + 1 + 1 + 1, 0, .none⟩) (Only.refl _ _) (.inl rfl) _))⟩
            · exact (Below.heap_setCell W' _ _ _ (by show B + 1 ≠ B + 1 + 1 + 1; omega)).trans f2
            · exact (Below.heap_setCell W' _ _ _ (by show B + 1 + 1 ≠ B + 1 + 1 + 1; omega)).trans f3
            · rw [← hv.out]; exact one_setCell f4
          case measure => simp [intOf]; omega
        · gi_wp2
          refine bodyPost_ret (results_none rfl _ _ _) rfl ?_
          exact ⟨⟨_, rfl⟩, .inr ⟨_, hlt, hJx'⟩⟩
    · obtain rfl : k = n := by omega
      gi_wp2
      go_end0
      exact ⟨⟨_, rfl⟩, .inl hJA⟩

set_option maxRecDepth 100000 in
set_option maxHeartbeats 800000 in
theorem sort_search (N : Nat) (cf : FuncId) (cap : Array Value) (p : Nat → Bool) (w : World) (hN : N ≤ 1000)
    (eg : ∀ args w, (callFunc cf args).run Try.prog w = .ok (.enter cf args) w) (hf : ∀ i q, i < N → Calls Try.prog cf (#[.int .i64 i] ++ cap) (w.drewN q) fun e w' => e = .returned (.bool (p i)) ∧ ∃ q', w' = w.drewN q') :
    Calls Try.prog 131 #[.int .i64 N, .func (.func cf) #[] cap] w fun e w' => ∃ (k q : Nat), e = .returned (.int .i64 k) ∧ w' = w.drewN q ∧ k ≤ N ∧ (0 < k → p (k - 1) = false) ∧ (k < N → p k = true) := by
  have HF := Lib.hid hf
  clear hf
  go_enter Try.func131, Try.ntmps131
  go_wp2
  go_loopw [5, 6] (fun i j wr => ∃ a b q : Nat, a ≤ b ∧ b ≤ N ∧ i = .int .i64 a ∧ j = .int .i64 b ∧ wr = w.drewN q ∧ (0 < a → p (a - 1) = false) ∧ (b < N → p b = true)) (fun i j _ => (intOf j).toNat - (intOf i).toNat)
  case atStart => exact ⟨0, N, 0, by omega, by omega, rfl, rfl, rfl, by omega, by omega⟩
  case round =>
    obtain ⟨a, b, q, hab, hb, rfl, rfl, rfl, hpa, hpb⟩ := hrel
    have HA := Lib.hid hpa
    have HB := Lib.hid hpb
    clear hpa hpb
    by_cases hlt : a < b
    · obtain ⟨m, hm⟩ : ∃ m, (a + b) / 2 = m := ⟨_, rfl⟩
      have hmi : ((a : Int) + (b : Int)) / 2 = (m : Int) := by omega
      have hma : a ≤ m := by omega
      have hmb : m < b := by omega
      clear hm
      have HC := Lib.hid (HF.out m q (by omega))
      cases hp : p m with
      | true =>
        have HP := Lib.hid hp
        rw [hp] at HC
        clear hp
        go_wp2_with (first | (refine HC.out.mono ?_; rintro e w' ⟨rfl, q', rfl⟩))
        go_roundw
        case rel => exact ⟨a, m, q', by omega, by omega, rfl, rfl, rfl, HA.out, fun _ => HP.out⟩
        case measure => simp [intOf]; omega
      | false =>
        have HP := Lib.hid hp
        rw [hp] at HC
        clear hp
        go_wp2_with (first | (refine HC.out.mono ?_; rintro e w' ⟨rfl, q', rfl⟩))
        go_roundw
        case rel => exact ⟨m + 1, b, q', by omega, by omega, by go_num, rfl, rfl, fun _ => by simpa using HP.out, HB.out⟩
        case measure => simp [intOf]; omega
    · obtain rfl : a = b := by omega
      go_wp2_with fail
      go_ret
      exact ⟨a, q, rfl, rfl, hb, HA.out, HB.out⟩
end Go.Proofs.Ytmgoeokdlklabaa
