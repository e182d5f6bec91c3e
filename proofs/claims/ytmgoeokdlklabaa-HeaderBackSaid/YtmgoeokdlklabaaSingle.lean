/- kraft.Single: contract. -/
import Derived.Test.YtmgoeokdlklabaaWords
namespace Go.Proofs.Ytmgoeokdlklabaa
open Go.RowKit M04
set_option linter.unusedVariables false

def singleB (l : List Nat) : Bool := decide ((∀ x ∈ l, x ≤ 1) ∧ l.sum = 1)
theorem sum_take_le (l : List Nat) (k : Nat) (h : ∀ x ∈ l.take k, x ≤ 1) : (l.take k).sum ≤ k := by
  have : ∀ m : List Nat, (∀ x ∈ m, x ≤ 1) → m.sum ≤ m.length := by
    intro m hm
    induction m with
    | nil => simp
    | cons a m ih =>
      have := hm a (by simp)
      have := ih fun x hx => hm x (by simp [hx])
      simp only [List.sum_cons, List.length_cons]; omega
  exact Nat.le_trans (this _ h) (by simp; omega)

set_option maxHeartbeats 400000 in
theorem kraft_single (a : Option Addr) (cap : Nat) (l : List Nat) (w : World) (hr : RowN .u8 w a cap l) :
    Calls Try.prog 71 #[.slice a l.length cap] w fun e w' => e = .returned (.bool (singleB l)) ∧ w = w' := by
  have hlen := hr.len
  go_enter Try.func71, Try.ntmps71
  go_wp2
  go_loop [3, 8] (fun t i => ∃ k : Nat, k ≤ l.length ∧ i = .int .i64 k ∧ t = .int .i64 ((l.take k).sum : Nat) ∧ ∀ x ∈ l.take k, x ≤ 1) (fun _ i => l.length - (intOf i).toNat)
  case atStart => exact ⟨0, Nat.zero_le _, rfl, by simp, by simp⟩
  case round =>
    obtain ⟨k, hk, rfl, rfl, hall⟩ := hrel
    have HA := Lib.hid hall
    have hs := sum_take_le l k hall
    clear hall
    by_cases hlt : k < l.length
    · obtain ⟨b, off, rfl, hb, hck⟩ := hr.at hlt
      clear hr
      have HS : Hid ((l.take (k + 1)).sum = (l.take k).sum + l[k]) := by rw [Hid, take_snoc l k hlt]; simp only [List.sum_append, List.sum_cons, List.sum_nil]; omega
      by_cases hx : l[k] ≤ 1
      · have H : Hid (∀ x ∈ l.take (k + 1), x ≤ 1) := by
          rw [Hid, take_snoc l k hlt]
          intro x hm
          rcases List.mem_append.1 hm with hm | hm
          · exact HA.out x hm
          · simp at hm; omega
        generalize l[k] = x at *
        generalize (l.take k).sum = s at *
        go_wp2
        go_round
        case rel => exact ⟨k + 1, by omega, by go_num, by rw [HS.out]; go_num, H.out⟩
        case measure => simp [intOf]; omega
      · have H : Hid (singleB l = false) := by
          show decide (_ ∧ _) = false
          rw [decide_eq_false_iff_not]
          exact fun h => hx (h.1 _ (List.getElem_mem hlt))
        generalize l[k] = x at *
        go_wp2
        go_ret
        exact ⟨ret_bool H.out.symm, rfl⟩
    · have h2 : l.take k = l := List.take_of_length_le (by omega)
      rw [h2] at HA
      rw [h2] at hs
      rw [h2]
      have H : Hid (singleB l = ((l.sum : Int) == 1)) := by
        show decide (_ ∧ _) = _
        rw [Bool.eq_iff_iff, decide_eq_true_eq, beq_iff_eq]
        constructor
        · intro h; omega
        · intro h; exact ⟨HA.out, by omega⟩
      go_wp2
      go_ret
      exact ⟨ret_bool H.out.symm, rfl⟩
theorem rowN_lit (k : IntKind) (w : World) (l : List Nat) (E : TypeId) (c : Array Value) (B : Nat) (hB : B = w.heap.size) (hc : c = (l.map fun (n : Nat) => Value.int k n).toArray) (hl : l.length ≤ 9223372036854775807) :
    RowN k (w.alloc (.cells c E)) (some ⟨B, 0, none⟩) l.length l := by
  subst hc hB
  refine ⟨Nat.le_refl _, ⟨hl, fun hn => by cases hn⟩, .inr ⟨w.heap.size, 0, rfl, by simp, fun i hi => ?_⟩⟩
  rw [Nat.zero_add, World.cell?_alloc_at _ _ _ _ rfl]
  simp [hi]
end Go.Proofs.Ytmgoeokdlklabaa
