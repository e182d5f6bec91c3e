/- header.may, the deferred closure of header.Get: contracts. -/
import Derived.Test.YtmgoeokdlklabaaGen
import Derived.Test.YtmgoeokdlklabaaSingle
import Derived.Test.YtmgoeokdlklabaaRep
import Derived.Defers
import Derived.Recover
import Derived.Laws.Pointers
namespace Go.Proofs.Ytmgoeokdlklabaa
open Go.RowKit Go.Shelf M04
set_option linter.unusedVariables false

theorem ta_nil (w : World) : (Instr.typeAssert Value.nilIface 20 25 true).run Try.prog w = .ok (.tuple #[.int .i64 0, .bool false]) w := by kernel_rfl
theorem ta_err (n : Int) (w : World) : (Instr.typeAssert (.iface 25 (.int .i64 n)) 20 25 true).run Try.prog w = .ok (.tuple #[.int .i64 n, .bool true]) w := by kernel_rfl
theorem hdr_catch (p q r : Nat) (x y z : Value) (w : World) (h1 : w.heap[p]? = some (.cells #[x] 22 (0, 0))) (h2 : w.heap[q]? = some (.cells #[y] 22 (0, 0))) (h3 : w.heap[r]? = some (.cells #[z] 25 (0, 0))) (hpq : p ≠ q) (hpr : p ≠ r) (hqr : q ≠ r) :
    CallsD Try.prog 54 #[.pointer (some ⟨p, 0, none⟩), .pointer (some ⟨q, 0, none⟩), .pointer (some ⟨r, 0, none⟩)] (.panicking formP) w fun e u' w' =>
      e = .returned (.tuple #[]) ∧ u' = .panicking [{ v := .iface 25 (.int .i64 2), recovered := true }] ∧ w' = ((w.setCell ⟨p, 0, none⟩ (.slice none 0 0)).setCell ⟨q, 0, none⟩ (.slice none 0 0)).setCell ⟨r, 0, none⟩ (.int .i64 2) := by
  unfold formP
  refine callsD_of_wpS Try.func54 rfl fun c₀ cs hu => ?_
  have f1 : w.frozen? ⟨p, 0, none⟩ = false := by simp [World.frozen?, h1]
  have f2 : w.frozen? ⟨q, 0, none⟩ = false := by simp [World.frozen?, h2]
  have f3 : w.frozen? ⟨r, 0, none⟩ = false := by simp [World.frozen?, h3]
  have g1 : w.cell? ⟨p, 0, none⟩ = some x := cell_of_one h1
  have g2 : w.cell? ⟨q, 0, none⟩ = some y := cell_of_one h2
  have g3 : w.cell? ⟨r, 0, none⟩ = some z := cell_of_one h3
  have te := ta_err 2
  apply wpS_seq
  apply wpS_region
  simp [wpOpsS, go_sem, recoverD, hu, te, Try.ntmps54, Exit.thenS]
  apply wpS_seq
  apply wpS_region
  simp [wpOpsS, go_sem, Exit.thenS]
  refine wpS_cond (t := true) (by simp [Act.eval, Array.replicate]) ?_
  simp only [if_true]
  apply wpS_region
  simp [wpOpsS, go_sem, g1, g2, g3, f1, f2, f3, bodyPostS, results, Try.results54]
theorem hdr_catch_idle (p q r : Nat) (w : World) :
    CallsD Try.prog 54 #[.pointer (some ⟨p, 0, none⟩), .pointer (some ⟨q, 0, none⟩), .pointer (some ⟨r, 0, none⟩)] .returning w fun e u' w' =>
      e = .returned (.tuple #[]) ∧ u' = .returning ∧ w' = w := by
  refine callsD_of_wpS Try.func54 rfl fun c₀ cs hu => ?_
  apply wpS_seq
  apply wpS_region
  have te := ta_nil
  simp [wpOpsS, go_sem, recoverD, hu, te, Try.ntmps54, Exit.thenS]
  apply wpS_seq
  apply wpS_region
  simp [wpOpsS, go_sem, Exit.thenS]
  refine wpS_cond (t := false) (by simp [Act.eval, Array.replicate]) ?_
  simp only [Bool.false_eq_true, if_false]
  refine wpS_of_wp (wp_skip ?_)
  cases c₀
  simp_all [bodyPostS, results, Try.results54]

def long (l : List Nat) : Bool := l.any (fun x => decide (15 < x))
def mayH (f o : List Nat) : Bool :=
  decide (257 ≤ f.length) && decide (f.length ≤ 286) && decide (1 ≤ o.length) && decide (o.length ≤ 30) && decide (f.getD 256 0 ≠ 0) && !(long f) && !(long o) &&
    (decide ((clsE f).1 = 2) || singleB f) && (decide ((clsE o).1 = 2) || decide ((clsE o).1 = 0) || singleB o)
theorem may_long (n : Nat) (w : World) : Calls Try.prog 69 #[.int .u8 (n : Nat)] w fun e w' => e = .returned (.bool (decide (15 < n))) ∧ w' = w := by
  go_enter Try.func69, Try.ntmps69
  go_wp2
  go_ret
  exact ⟨congrArg (fun b => Ending.returned (.bool b)) (decide_eq_decide.2 (by omega)), rfl⟩
def IdxOut (l : List Nat) (e : Ending) : Prop := if long l then ∃ k : Nat, e = .returned (.int .i64 k) else e = .returned (.int .i64 (-1))
theorem u8_index (a : Option Addr) (cap : Nat) (l : List Nat) (w : World) (hr : RowN .u8 w a cap l) :
    Calls Try.prog 106 #[.slice a l.length cap, .func (Fn.func 69) #[] #[]] w fun e w' => IdxOut l e ∧ w' = w := by
  have hlen := hr.len
  go_enter Try.func106, Try.ntmps106
  go_wp2_with fail
  go_loop [5, 8] (fun _ i => ∃ k : Nat, k ≤ l.length ∧ i = .int .i64 k ∧ ∀ x ∈ l.take k, x ≤ 15) (fun _ i => l.length - (intOf i).toNat)
  case atStart => exact ⟨0, by omega, rfl, by simp⟩
  case round =>
    obtain ⟨k, hk, rfl, hall⟩ := hrel
    have HA := Lib.hid hall
    clear hall
    by_cases hlt : k < l.length
    · obtain ⟨b, off, rfl, hb, hck⟩ := hr.at hlt
      clear hr
      have HM := Lib.hid (List.getElem_mem hlt)
      have HT := Lib.hid (take_snoc l k hlt)
      generalize l[k] = x at *
      by_cases hx : 15 < x
      · have hd : decide (15 < x) = true := by simpa using hx
        have HL : Hid (long l = true) := by
          unfold Hid long
          rw [List.any_eq_true]
          exact ⟨x, HM.out, hd⟩
        go_wp2_with (go_at_call 69; refine (may_long x _).mono ?_; rintro e w' ⟨rfl, rfl⟩; rw [hd])
        go_ret
        exact ⟨by unfold IdxOut; rw [if_pos HL.out]; exact ⟨k, rfl⟩, rfl⟩
      · have hd : decide (15 < x) = false := by simpa using hx
        go_wp2_with (go_at_call 69; refine (may_long x _).mono ?_; rintro e w' ⟨rfl, rfl⟩; rw [hd])
        go_round
        case rel => exact ⟨k + 1, by omega, by go_num, by rw [HT.out]; intro y hy; rcases List.mem_append.1 hy with h | h; exact HA.out y h; simp at h; omega⟩
        case measure => simp [intOf]; omega
    · have h2 : l.take k = l := List.take_of_length_le (by omega)
      rw [h2] at HA
      have HL : Hid (long l = false) := by
        unfold Hid long
        rw [List.any_eq_false]
        intro x hx
        have := HA.out x hx
        simpa using this
      go_wp2
      go_ret
      exact ⟨by unfold IdxOut; rw [if_neg (by rw [HL.out]; decide)]; rfl, rfl⟩
theorem u8_contains (a : Option Addr) (cap : Nat) (l : List Nat) (w : World) (hr : RowN .u8 w a cap l) :
    Calls Try.prog 70 #[.slice a l.length cap, .func (Fn.func 69) #[] #[]] w fun e w' => e = .returned (.bool (long l)) ∧ w' = w := by
  have HC := Lib.hid (u8_index a cap l w hr)
  clear hr
  go_enter Try.func70, Try.ntmps70
  go_wp2_with fail
  refine HC.out.mono ?_
  by_cases hl : long l = true
  · have HL := Lib.hid hl
    rintro e w1 ⟨h, rfl⟩
    unfold IdxOut at h
    rw [if_pos hl] at h
    obtain ⟨k, rfl⟩ := h
    have t1 : decide ((0 : Int) ≤ (k : Int)) = true := by simp
    clear hl HC
    go_wp2
    go_ret
    exact ⟨by rw [HL.out]; rfl, rfl⟩
  · have HL := Lib.hid (show long l = false by simpa using hl)
    rintro e w1 ⟨h, rfl⟩
    unfold IdxOut at h
    rw [if_neg hl] at h
    subst h
    clear hl HC
    go_wp2
    go_ret
    exact ⟨by rw [HL.out]; rfl, rfl⟩
theorem hdr_order (w : World) : Calls Try.prog 38 #[] w fun e w' => e = .returned (.slice (some ⟨w.heap.size, 0, none⟩) 19 19) ∧ w' = w.alloc (.cells #[.int .u8 16, .int .u8 17, .int .u8 18, .int .u8 0, .int .u8 8, .int .u8 7, .int .u8 9, .int .u8 6, .int .u8 10, .int .u8 5, .int .u8 11, .int .u8 4, .int .u8 12, .int .u8 3, .int .u8 13, .int .u8 2, .int .u8 14, .int .u8 1, .int .u8 15] 5) := by
  go_enter Try.func38, Try.ntmps38
  go_wp2
  go_ret
  exact ⟨rfl, rfl⟩
theorem hmust_u32_ok (v : Value) (w : World) : Calls Try.prog 55 #[v, .int .i64 0] w fun e w' => e = .returned v ∧ w' = w := by
  go_enter Try.func55, Try.ntmps55
  go_wp2
  go_ret
  exact ⟨rfl, rfl⟩
theorem hmust_u32_no (v : Value) (c : Nat) (hc : 0 < c) (w : World) : Calls Try.prog 55 #[v, .int .i64 (c : Nat)] w fun e w' => e = .panicked formP ∧ w' = w := by
  have t1 : ((c : Int) == 0) = false := by simp; omega
  go_enter Try.func55, Try.ntmps55
  go_wp2
  exact ⟨rfl, rfl, rfl⟩
theorem hmust_int_ok (v : Value) (w : World) : Calls Try.prog 57 #[v, .int .i64 0] w fun e w' => e = .returned v ∧ w' = w := by
  go_enter Try.func57, Try.ntmps57
  go_wp2
  go_ret
  exact ⟨rfl, rfl⟩
theorem hmust_int_no (v : Value) (c : Nat) (hc : 0 < c) (w : World) : Calls Try.prog 57 #[v, .int .i64 (c : Nat)] w fun e w' => e = .panicked formP ∧ w' = w := by
  have t1 : ((c : Int) == 0) = false := by simp; omega
  go_enter Try.func57, Try.ntmps57
  go_wp2
  exact ⟨rfl, rfl, rfl⟩
theorem hmust_row_ok (v : Value) (w : World) : Calls Try.prog 59 #[v, .int .i64 0] w fun e w' => e = .returned v ∧ w' = w := by
  go_enter Try.func59, Try.ntmps59
  go_wp2
  go_ret
  exact ⟨rfl, rfl⟩
theorem hmust_row_no (v : Value) (c : Nat) (hc : 0 < c) (w : World) : Calls Try.prog 59 #[v, .int .i64 (c : Nat)] w fun e w' => e = .panicked formP ∧ w' = w := by
  have t1 : ((c : Int) == 0) = false := by simp; omega
  go_enter Try.func59, Try.ntmps59
  go_wp2
  exact ⟨rfl, rfl, rfl⟩
end Go.Proofs.Ytmgoeokdlklabaa
