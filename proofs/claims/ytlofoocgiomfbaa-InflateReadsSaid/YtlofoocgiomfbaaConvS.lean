/- A string's bytes as a new row; Inflate of a keep below 0: contracts. -/
import Derived.Test.YtlofoocgiomfbaaFlw
import Derived.Lib.ConvBytes
namespace Go.Proofs.Ytlofoocgiomfbaa
open Go.RowKit Go.Shelf M01 M10
set_option linter.unusedVariables false

theorem conv_str (w : World) (l : List Nat) (hb : ∀ x ∈ l, x < 256) (hl : l.length ≤ 1000000) :
    ∃ c w', (convert 9 23 (.string (strOf l))).run Try.prog w = .ok (.slice (some ⟨w.heap.size, 0, none⟩) l.length c) w' ∧ RowN .u8 w' (some ⟨w.heap.size, 0, none⟩) c l ∧ Below w.heap.size w w' ∧ w'.heap.size = w.heap.size + 1 := by
  have hs := strOf_size l
  refine ⟨grownCap w l.length 0 5, Lib.bytesWorld w 5 (strOf l), ?_, ?_, ?_, Lib.bytesWorld_size w _ _⟩
  · rw [Lib.run_convert_string_bytes w 9 23 5 (strOf l) Try.underlying9 Try.underlying23 Try.underlying5, hs]
  · refine ⟨grownCap_ge w _ 0 _, ⟨grownCap_le_maxLen w _ 0 _ (by simp [maxLen]; omega), fun h => by cases h⟩, .inr ⟨w.heap.size, 0, rfl, by rw [Lib.bytesWorld_size]; omega, fun i hi => ?_⟩⟩
    rw [Nat.zero_add, Lib.bytesWorld_cell w _ _ i (by rw [hs]; exact hi), strOf_eq]
    have hx := hb _ (List.getElem_mem hi)
    simp [List.getD, hi, Nat.mod_eq_of_lt hx]
  · exact ⟨rfl, rfl, rfl, by rw [Lib.bytesWorld_size]; omega, fun b h => Lib.bytesWorld_at_old w _ _ b h⟩
theorem fres5 (w : World) : FRes w.heap.size ((w.alloc (.cells #[.slice none 0 0, .int .i64 0, .int .i64 0, .bool false] 39)).alloc (.cells #[.int .i64 5] 24)) (.slice none 0 0) (.int .i64 0) (.int .i64 0) (.bool false) (.int .i64 5) := by
  refine ⟨?_, ?_⟩
  · rw [Below.heap_alloc _ _ _ (by simp)]; exact World.alloc_heap_new _ _
  · have := World.alloc_heap_new (w.alloc (.cells #[.slice none 0 0, .int .i64 0, .int .i64 0, .bool false] 39)) (.cells #[.int .i64 5] 24)
    simpa using this
theorem inflate_neg (w : World) (a : Option Addr) (n cap : Nat) (k : Int) (hk : k < 0) :
    Calls Try.prog 18 #[.slice a n cap, .int .i64 k] w fun e w' => e = .returned (.tuple #[.agg #[.slice none 0 0, .int .i64 0, .int .i64 0, .bool false], .int .i64 5]) ∧ Below w.heap.size w w' := by
  have t1 : decide (k < 0) = true := by simpa using hk
  have HBG := Lib.hid (fbegun w)
  obtain ⟨h1, h2⟩ := HBG.out.res
  obtain ⟨c0, c1, c2, c3, _, _⟩ := four_cells h1
  obtain ⟨f0, f1, f2, f3⟩ := four_frozen h1
  have g4 := cell_of_one h2
  have f4 := one_frozen h2
  have hb := HBG.out.below
  have HB := Lib.hid hb
  clear hb h1 h2 hk
  go_enter Try.func18, Try.ntmps18
  go_wp2
  obtain ⟨h1, h2⟩ := fres5 w
  obtain ⟨b0, b1, b2, b3, _, _⟩ := four_cells h1
  have b4 := cell_of_one h2
  have hbl : Below w.heap.size w ((w.alloc (.cells #[.slice none 0 0, .int .i64 0, .int .i64 0, .bool false] 39)).alloc (.cells #[.int .i64 5] 24)) := (box_b w _).trans ((box_b _ _).mono (by simp))
  generalize (w.alloc (.cells #[.slice none 0 0, .int .i64 0, .int .i64 0, .bool false] 39)).alloc (.cells #[.int .i64 5] 24) = W at *
  refine bodyPost_ret (v := .tuple #[.agg #[.slice none 0 0, .int .i64 0, .int .i64 0, .bool false], .int .i64 5]) ?_ rfl ⟨rfl, hbl⟩
  simp [results, Try.results18, go_sem, b0, b1, b2, b3, b4]
end Go.Proofs.Ytlofoocgiomfbaa
