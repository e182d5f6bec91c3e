/- kraft.Single, and the example that every law of layer 4 ends with. -/
import Derived.Test.YtfpoannjeplhgaaWords
namespace Go.Proofs.Ytfpoannjeplhgaa
open Go.RowKit M04
set_option linter.unusedVariables false

def singleB (l : List Nat) : Bool := decide ((∀ x ∈ l, x ≤ 1) ∧ l.sum = 1)
theorem sum_take_le (l : List Nat) (k : Nat) (h : ∀ x ∈ l.take k, x ≤ 1) : (l.take k).sum ≤ k := by
  have : ∀ m : List Nat, (∀ x ∈ m, x ≤ 1) → m.sum ≤ m.length := by
    intro m hm
    induction m with
    | nil => simp
    | cons a m ih =>
      have := hm a (by simp)
      have := ih fun x hx => hm x (by simp [hx])
      simp only [List.sum_cons, List.length_cons]; omega
  exact Nat.le_trans (this _ h) (by simp; omega)

set_option maxHeartbeats 400000 in
theorem kraft_single (a : Option Addr) (cap : Nat) (l : List Nat) (w : World) (hr : RowN .u8 w a cap l) :
    Calls Try.prog 11 #[.slice a l.length cap] w fun e w' => e = .returned (.bool (singleB l)) ∧ w = w' := by
  have hlen := hr.len
  go_enter Try.func11, Try.ntmps11
  go_wp2
  go_loop [3, 8] (fun t i => ∃ k : Nat, k ≤ l.length ∧ i = .int .i64 k ∧ t = .int .i64 ((l.take k).sum : Nat) ∧ ∀ x ∈ l.take k, x ≤ 1) (fun _ i => l.length - (intOf i).toNat)
  case atStart => exact ⟨0, Nat.zero_le _, rfl, by simp, by simp⟩
  case round =>
    obtain ⟨k, hk, rfl, rfl, hall⟩ := hrel
    have HA := Lib.hid hall
    have hs := sum_take_le l k hall
    clear hall
    by_cases hlt : k < l.length
    · obtain ⟨b, off, rfl, hb, hck⟩ := hr.at hlt
      clear hr
      have HS : Hid ((l.take (k + 1)).sum = (l.take k).sum + l[k]) := by rw [Hid, take_snoc l k hlt]; simp only [List.sum_append, List.sum_cons, List.sum_nil]; omega
      by_cases hx : l[k] ≤ 1
      · have H : Hid (∀ x ∈ l.take (k + 1), x ≤ 1) := by
          rw [Hid, take_snoc l k hlt]
          intro x hm
          rcases List.mem_append.1 hm with hm | hm
          · exact HA.out x hm
          · simp at hm; omega
        generalize l[k] = x at *
        generalize (l.take k).sum = s at *
        go_wp2
        go_round
        case rel => exact ⟨k + 1, by omega, by go_num, by rw [HS.out]; go_num, H.out⟩
        case measure => simp [intOf]; omega
      · have H : Hid (singleB l = false) := by
          show decide (_ ∧ _) = false
          rw [decide_eq_false_iff_not]
          exact fun h => hx (h.1 _ (List.getElem_mem hlt))
        generalize l[k] = x at *
        go_wp2
        go_ret
        exact ⟨ret_bool H.out.symm, rfl⟩
    · have h2 : l.take k = l := List.take_of_length_le (by omega)
      rw [h2] at HA
      rw [h2] at hs
      rw [h2]
      have H : Hid (singleB l = ((l.sum : Int) == 1)) := by
        show decide (_ ∧ _) = _
        rw [Bool.eq_iff_iff, decide_eq_true_eq, beq_iff_eq]
        constructor
        · intro h; omega
        · intro h; exact ⟨HA.out, by omega⟩
      go_wp2
      go_ret
      exact ⟨ret_bool H.out.symm, rfl⟩

theorem rowN_lit (k : IntKind) (w : World) (l : List Nat) (E : TypeId) (c : Array Value) (B : Nat) (hB : B = w.heap.size) (hc : c = (l.map fun (n : Nat) => Value.int k n).toArray) (hl : l.length ≤ 9223372036854775807) :
    RowN k (w.alloc (.cells c E)) (some ⟨B, 0, none⟩) l.length l := by
  subst hc hB
  refine ⟨Nat.le_refl _, ⟨hl, fun hn => by cases hn⟩, .inr ⟨w.heap.size, 0, rfl, by simp, fun i hi => ?_⟩⟩
  rw [Nat.zero_add, World.cell?_alloc_at _ _ _ _ rfl]
  simp [hi]

def RetTrue (w : World) (e : Ending) (w' : World) : Prop := e = .returned (.bool true) ∧ Below w.heap.size w w'
theorem ex1 : clsE [2, 1, 0, 2] = (2, 0) := by decide
theorem ex2 : wordsE [2, 1, 0, 2] = ([2, 0, 0, 3], 0) := by decide +kernel
theorem ex3 : singleB [0, 1] = true := by decide
theorem ex4 : singleB [2] = false := by decide

set_option maxHeartbeats 800000 in
theorem law04_classes (w : World) : Calls Try.prog 12 #[] w (RetTrue w) := by
  go_enter Try.func12, Try.ntmps12
  go_wp2_with fail
  refine (kraft_classify _ _ [2, 1, 0, 2] _ ?h1).mono ?_
  case h1 => exact rowN_lit .u8 w [2, 1, 0, 2] _ _ _ rfl rfl (by decide)
  rintro e w1 ⟨rfl, rfl⟩
  rw [ex1]
  go_wp2_with fail
  refine (kraft_words _ _ [2, 1, 0, 2] _ ?h1).mono ?_
  case h1 => exact rowN_lit .u8 _ [2, 1, 0, 2] _ _ _ (by simp) rfl (by decide)
  rintro e w2 ⟨a, cap, rfl, hown, hb⟩
  simp only [ex2] at hown ⊢
  obtain ⟨g, rfl, hg1, hg2, hc0, _⟩ := hown.at (i := 0) (by simp)
  obtain ⟨g', he, _, _, hc1, _⟩ := hown.at (i := 1) (by simp)
  cases he
  obtain ⟨g', he, _, _, hc3, _⟩ := hown.at (i := 3) (by simp)
  cases he
  simp only [List.getElem_cons_zero, List.getElem_cons_succ] at hc0 hc1 hc3
  have b2 : Below w.heap.size w w2 := (((Below.refl w.heap.size w).alloc (Nat.le_refl _) _).alloc (by simp) _).trans (hb.mono (by simp; omega))
  have hlt : w.heap.size ≤ w2.heap.size := b2.size
  clear hown hb
  go_wp2_with fail
  refine (kraft_single _ _ [0, 1] _ ?h1).mono ?_
  case h1 => exact rowN_lit .u8 _ [0, 1] _ _ _ rfl rfl (by decide)
  rintro e w3 ⟨rfl, rfl⟩
  rw [ex3]
  go_wp2_with fail
  refine (kraft_single _ _ [2] _ ?h1).mono ?_
  case h1 => exact rowN_lit .u8 _ [2] _ _ _ (by simp) rfl (by decide)
  rintro e w3 ⟨rfl, rfl⟩
  rw [ex4]
  go_wp2
  go_ret
  exact ⟨rfl, (b2.alloc hlt _).alloc (by simp; omega) _⟩
end Go.Proofs.Ytfpoannjeplhgaa
