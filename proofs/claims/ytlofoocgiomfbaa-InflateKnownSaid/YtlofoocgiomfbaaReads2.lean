/- layer 10's laws: reads: contract. -/
import Derived.Test.YtlofoocgiomfbaaReads
namespace Go.Proofs.Ytlofoocgiomfbaa
open Go.RowKit Go.Shelf M01 M04 M09 M10
set_option linter.unusedVariables false

set_option maxRecDepth 100000 in
set_option maxHeartbeats 1600000 in
theorem law10_reads (w : World) : Calls Try.prog 21 #[] w fun e w' => e = .returned (.bool true) ∧ Below w.heap.size w w' := by
  go_enter Try.func21, Try.ntmps21
  go_wp2_with fail
  refine (read_lit _ [1, 2, 0, 253, 255, 97, 98, 99] _ _ 8 _ rfl rfl rfl (by decide) (by decide) read1).mono ?_
  rintro e w1 ⟨hb1, a1, c1, he, hr1⟩
  obtain rfl : e = .returned (.tuple #[.agg #[.slice a1 2 c1, .int .i64 2, .int .i64 7, .bool false], .int .i64 0]) := he
  replace hr1 : RowN .u8 w1 a1 c1 [97, 98] := hr1
  have HB1 := Lib.hid hb1
  have HR1 := Lib.hid hr1
  clear hb1 hr1
  go_wp2_with fail
  have HA1 := Lib.hid (World.alloc_heap_new w1 (.cells #[.slice a1 2 c1, .int .i64 2, .int .i64 7, .bool false] 39))
  have HB2 := Lib.hid (HB1.out.trans ((box_b w1 (.cells #[.slice a1 2 c1, .int .i64 2, .int .i64 7, .bool false] 39)).mono HB1.out.size))
  have HR2 := Lib.hid (HR1.out.below (box_b w1 (.cells #[.slice a1 2 c1, .int .i64 2, .int .i64 7, .bool false] 39)))
  have hl1 : w1.heap.size < (w1.alloc (.cells #[.slice a1 2 c1, .int .i64 2, .int .i64 7, .bool false] 39)).heap.size := by simp
  have hs2 : w1.heap.size + 1 = (w1.alloc (.cells #[.slice a1 2 c1, .int .i64 2, .int .i64 7, .bool false] 39)).heap.size := by simp
  clear HB1 HR1
  generalize w1.alloc (.cells #[.slice a1 2 c1, .int .i64 2, .int .i64 7, .bool false] 39) = w2 at *
  generalize w1.heap.size = b1 at *
  refine (read_lit _ [3, 0] _ _ 2 _ hs2 rfl rfl (by decide) (by decide) read2).mono ?_
  rintro e w3 ⟨hb3, a2, c2, he, hr3⟩
  obtain rfl : e = .returned (.tuple #[.agg #[.slice a2 0 c2, .int .i64 0, .int .i64 2, .bool false], .int .i64 0]) := he
  have HA3 := Lib.hid ((hb3.block b1 hl1).trans HA1.out)
  have HB3 := Lib.hid (HB2.out.trans (hb3.mono HB2.out.size))
  have HR3 := Lib.hid (HR2.out.below hb3)
  have hl3 : b1 < w3.heap.size := Nat.lt_of_lt_of_le hl1 hb3.size
  clear hb3 hr3 HA1 HB2 HR2 hl1
  go_wp2_with fail
  have HC1 := Lib.hid (World.alloc_heap_new w3 (.cells #[.slice a2 0 c2, .int .i64 0, .int .i64 2, .bool false] 39))
  have hb4 := box_b w3 (.cells #[.slice a2 0 c2, .int .i64 0, .int .i64 2, .bool false] 39)
  have HB4 := Lib.hid (HB3.out.trans (hb4.mono HB3.out.size))
  have HR4 := Lib.hid (HR3.out.below hb4)
  have HA4 := Lib.hid ((hb4.block b1 hl3).trans HA3.out)
  have hl4 : w3.heap.size < (w3.alloc (.cells #[.slice a2 0 c2, .int .i64 0, .int .i64 2, .bool false] 39)).heap.size := by simp
  have hs4 : w3.heap.size + 1 = (w3.alloc (.cells #[.slice a2 0 c2, .int .i64 0, .int .i64 2, .bool false] 39)).heap.size := by simp
  clear HB3 HR3 HA3 hb4
  generalize w3.alloc (.cells #[.slice a2 0 c2, .int .i64 0, .int .i64 2, .bool false] 39) = w4 at *
  generalize w3.heap.size = b2 at *
  refine (read_lit _ [7] _ _ 1 _ hs4 rfl rfl (by decide) (by decide) read3).mono ?_
  rintro e w5 ⟨hb5, he⟩
  obtain rfl : e = .returned (.tuple #[.agg #[.slice none 0 0, .int .i64 0, .int .i64 0, .bool false], .int .i64 2]) := he
  have HA5 := Lib.hid ((hb5.block b1 (by omega)).trans HA4.out)
  have HC5 := Lib.hid ((hb5.block b2 hl4).trans HC1.out)
  have HB5 := Lib.hid (HB4.out.trans (hb5.mono HB4.out.size))
  have HR5 := Lib.hid (HR4.out.below hb5)
  have hl5 : b2 < w5.heap.size := Nat.lt_of_lt_of_le hl4 hb5.size
  clear hb5 HA4 HC1 HB4 HR4 hl4
  have hb6 := box_b w5 (.cells #[.slice none 0 0, .int .i64 0, .int .i64 0, .bool false] 39)
  obtain ⟨e0, e1, e2, e3, _, _⟩ := four_cells ((hb6.block b1 (by omega)).trans HA5.out)
  obtain ⟨d0, d1, d2, d3, _, _⟩ := four_cells ((hb6.block b2 hl5).trans HC5.out)
  have hcv := conv_row (n := 2) Try.underlying23 Try.underlying5 Try.underlying9 rfl (HR5.out.below hb6)
  rw [show strOf [97, 98] = ByteArray.mk #[97, 98] from rfl] at hcv
  have HB6 := Lib.hid (HB5.out.trans (hb6.mono HB5.out.size))
  clear hb6
  go_wp2
  go_ret
  exact ⟨rfl, HB6.out⟩
end Go.Proofs.Ytlofoocgiomfbaa
