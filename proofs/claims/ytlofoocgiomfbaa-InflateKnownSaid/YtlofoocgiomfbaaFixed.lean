/- inflate: a block by the fixed codes: contract. -/
import Derived.Test.YtlofoocgiomfbaaSyms
import Derived.Test.YtlofoocgiomfbaaFix
namespace Go.Proofs.Ytlofoocgiomfbaa
open Go.RowKit Go.Shelf M01 M04 M10
set_option linter.unusedVariables false

def fixD : List Nat := List.replicate 32 5
theorem infl_many (n k : Nat) (h1 : 1 ≤ n) (h2 : n ≤ 1000) (w : World) :
    Calls Try.prog 61 #[.int .i64 n, .int .u8 k] w fun e w' => ∃ g, e = .returned (.slice (some ⟨g, 0, none⟩) n n) ∧ RowN .u8 w' (some ⟨g, 0, none⟩) n (List.replicate n k) ∧ Below w.heap.size w w' := by
  go_enter Try.func61, Try.ntmps61
  go_wp2_with fail
  refine (slices_repeat n k _ h1 h2 _ ?h1 ?h2).mono ?_
  case h1 => exact cell_of_one (World.alloc_heap_new _ _)
  case h2 => simp
  rintro e w1 ⟨g, rfl, hr, hb⟩
  have HR := Lib.hid hr
  have HB := Lib.hid hb
  clear hr hb
  go_wp2
  go_ret
  exact ⟨g, rfl, HR.out, (box_below' _ _).trans (HB.out.mono (by simp))⟩
theorem StepOut.behind {P : Nat → Prop} {sp rp keep : Nat} {bs : List Nat} {R : Option (Nat × List Nat)} {w w1 w' : World} {e : Ending} (hb : Below w.heap.size w w1) (h : StepOut P sp rp bs keep R w1 e w') : StepOut P sp rp bs keep R w e w' :=
  ⟨(Only.ofBelow hb).trans h.1, h.2⟩
/-- a method's end, where another one's is its own -/
theorem StepOut.post {P : Nat → Prop} {sp rp keep : Nat} {bs : List Nat} {R : Option (Nat × List Nat)} {w w' : World} {e : Ending} (h : StepOut P sp rp bs keep R w e w') : (e = .returned (.tuple #[]) ∨ e = .panicked formP) := by
  have h2 := h.2
  cases R with
  | none => exact .inr h2
  | some r => exact .inl h2.1

set_option maxRecDepth 100000 in
set_option maxHeartbeats 1600000 in
theorem strm_fixed {P : Nat → Prop} {w : World} {sp rp keep at_ : Nat} {bs out : List Nat} (h : Strm P w sp rp bs keep at_ out) :
    Calls Try.prog 37 #[.pointer (some ⟨sp, 0, none⟩)] w fun e w' => StepOut P sp rp bs keep (symsB fixF fixD bs at_ out) w e w' := by
  have H := Lib.hid h
  clear h
  generalize hR : symsB fixF fixD bs at_ out = R
  have HRR := Lib.hid hR
  clear hR
  go_enter Try.func37, Try.ntmps37
  go_wp2_with fail
  refine (infl_many 144 8 (by decide) (by decide) _).mono ?_
  rintro e w1 ⟨g1, rfl, r1, b1⟩
  go_wp2_with fail
  refine (infl_many 112 9 (by decide) (by decide) _).mono ?_
  rintro e w2 ⟨g2, rfl, r2, b2⟩
  go_wp2_with fail
  refine (infl_many 24 7 (by decide) (by decide) _).mono ?_
  rintro e w3 ⟨g3, rfl, r3, b3⟩
  go_wp2_with fail
  refine (infl_many 8 8 (by decide) (by decide) _).mono ?_
  rintro e w4 ⟨g4, rfl, r4, b4⟩
  have R1 := ((r1.below b2).below b3).below b4
  have R2 := (r2.below b3).below b4
  have R3 := r3.below b4
  have B := ((b1.trans (b2.mono b1.size)).trans (b3.mono (b1.trans (b2.mono b1.size)).size)).trans (b4.mono ((b1.trans (b2.mono b1.size)).trans (b3.mono (b1.trans (b2.mono b1.size)).size)).size)
  have HR1 := Lib.hid R1
  have HR2 := Lib.hid R2
  have HR3 := Lib.hid R3
  have HR4 := Lib.hid r4
  have HB := Lib.hid B
  clear r1 r2 r3 r4 b1 b2 b3 b4 R1 R2 R3 B
  go_wp2_with fail
  refine (concat4 g1 g2 g3 g4 w4 HR1.out HR2.out HR3.out HR4.out).mono ?_
  rintro e w5 ⟨a5, c5, rfl, r5, b5⟩
  have HR5 := Lib.hid r5
  have HB5 := Lib.hid (HB.out.trans (b5.mono HB.out.size))
  clear r5 b5 HR1 HR2 HR3 HR4 HB
  go_wp2_with fail
  refine (infl_many 32 5 (by decide) (by decide) _).mono ?_
  rintro e w6 ⟨g6, rfl, r6, b6⟩
  have HR6 := Lib.hid (show RowN .u8 w6 (some ⟨g6, 0, none⟩) 32 fixD from r6)
  have HR56 := Lib.hid (HR5.out.below b6)
  have HB6 := Lib.hid (HB5.out.trans (b6.mono HB5.out.size))
  clear r6 b6 HR5 HB5
  go_wp2_with fail
  refine (strm_symbols (H.out.below HB6.out).2 a5 (some ⟨g6, 0, none⟩) c5 32 fixF fixD HR56.out HR6.out).mono ?_
  rw [HRR.out]
  intro e w7 hs
  have HS := Lib.hid (hs.behind HB6.out)
  rcases hs.post with rfl | rfl
  · clear hs
    go_wp2
    go_end0
    exact HS.out
  · exact ⟨rfl, HS.out⟩
end Go.Proofs.Ytlofoocgiomfbaa
