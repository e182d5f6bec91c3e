/- inflate: a dynamic block, a block of any kind: contracts. -/
import Derived.Test.YtlofoocgiomfbaaHdr
import Derived.Test.YtlofoocgiomfbaaLoc
namespace Go.Proofs.Ytlofoocgiomfbaa
open Go.RowKit Go.Shelf M01 M04 M09 M10
set_option linter.unusedVariables false

theorem StepOut.after {P : Nat → Prop} {sp rp keep : Nat} {bs : List Nat} {R : Option (Nat × List Nat)} {w w1 w' : World} {e : Ending} (hb : Only P w w1) (h : StepOut P sp rp bs keep R w1 e w') : StepOut P sp rp bs keep R w e w' :=
  ⟨hb.trans h.1, h.2⟩
theorem Strm.pRp {P : Nat → Prop} {w w' : World} {sp rp keep at_ : Nat} {bs out : List Nat} (h : Strm P w sp rp bs keep at_ out) (ho : Only (fun b => b = rp) w w') : Only P w w' := by
  obtain ⟨oa, oc, h1, h2, h3, h4, h5, h6⟩ := h
  exact ho.mono (fun k _ e => by subst e; exact h5)
set_option maxRecDepth 100000 in
set_option maxHeartbeats 1600000 in
theorem strm_dynamic {P : Nat → Prop} {w : World} {sp rp keep at_ : Nat} {bs out : List Nat} (h : Strm P w sp rp bs keep at_ out) :
    Calls Try.prog 38 #[.pointer (some ⟨sp, 0, none⟩)] w fun e w' => StepOut P sp rp bs keep (dynB bs at_ out) w e w' := by
  obtain ⟨c0, c2, c3⟩ := h.cells
  have HG := Lib.hid (hdr_get w rp bs at_ h.rd)
  have H := Lib.hid h
  have HLE := Lib.hid (fun fo a2 (hh : hdr bs at_ = some (fo, a2)) => (hdr_loc (d := 0) (bs' := bs) hh).1)
  have HB : Hid (dynB bs at_ out = match hdr bs at_ with
    | none => none
    | some (fo, a2) => symsB fo.1 fo.2 bs a2 out) := rfl
  clear h c2 c3
  generalize dynB bs at_ out = R at *
  generalize hdr bs at_ = U at *
  go_enter Try.func38, Try.ntmps38
  go_wp2_with fail
  refine HG.out.mono ?_
  rintro e w1 ⟨ho1, h1⟩
  rcases U with _ | ⟨⟨f, o⟩, at2⟩
  · obtain rfl : e = _ := h1
    have HO := Lib.hid (H.out.pRp ho1)
    have HR : Hid (R = none) := HB.out
    clear ho1 c0 HG
    go_wp2_with fail
    refine (must_int_no (.int .i64 0) 2 (by decide) w1).mono ?_
    rintro e w2 ⟨rfl, rfl⟩
    exact ⟨rfl, StepOut.fail HR.out HO.out⟩
  · obtain ⟨a1, k1, a2, k2, rfl, r1, r2, hrd⟩ := h1
    have HM := Lib.hid (H.out.moved ho1 hrd (HLE.out _ _ rfl))
    have HR : Hid (R = symsB f o bs at2 out) := HB.out
    have R1 := Lib.hid r1
    have R2 := Lib.hid r2
    clear ho1 c0 HG hrd r1 r2
    go_wp2_with fail
    refine (must_int_ok (.int .i64 0) w1).mono ?_
    rintro e w2 ⟨rfl, rfl⟩
    go_wp2_with fail
    refine (strm_symbols HM.out.2 a1 a2 k1 k2 f o R1.out R2.out).mono ?_
    rw [← HR.out]
    intro e w7 hs
    have HS := Lib.hid (hs.after HM.out.1)
    rcases hs.post with rfl | rfl
    · clear hs
      go_wp2
      go_end0
      exact HS.out
    · exact ⟨rfl, HS.out⟩
/-- which method a kind of block has -/
def kindF : Nat → FuncId
  | 0 => 36
  | 1 => 37
  | 2 => 38
  | _ => 39
theorem strm_kind {P : Nat → Prop} {w : World} {sp rp keep at_ : Nat} {bs out : List Nat} (h : Strm P w sp rp bs keep at_ out) (k : Nat) :
    Calls Try.prog (kindF k) #[.pointer (some ⟨sp, 0, none⟩)] w fun e w' => StepOut P sp rp bs keep (blkK k bs at_ out) w e w' := by
  unfold blkK
  match k with
  | 0 => rw [if_pos rfl]; exact strm_stored h
  | 1 => rw [if_neg (by decide), if_pos rfl]; exact strm_fixed h
  | 2 => rw [if_neg (by decide), if_neg (by decide), if_pos rfl]; exact strm_dynamic h
  | k + 3 =>
    rw [if_neg (by omega), if_neg (by omega), if_neg (by omega)]
    refine (strm_none _ w).mono ?_
    rintro e w' ⟨rfl, rfl⟩
    exact StepOut.fail rfl (Only.refl _ _)
end Go.Proofs.Ytlofoocgiomfbaa
