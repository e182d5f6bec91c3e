/- inflate: symbols by two codes: contract. inflate: a block by the fixed codes: contract. inflate: a dynamic block, a block of any kind: contracts. inflate.Inflate: the deferred closure: contracts. -/
import Derived.Test.YtendielanacflaaGreatL07
import Derived.Test.YtendielanacflaaGreatL09
import Derived.Test.YtendielanacflaaGreatL22
import Derived.Test.YtendielanacflaaGreatL10
import Derived.Test.YtendielanacflaaGreatL19
namespace Go.Proofs.YtendielanacflaaGreat
open Go.RowKit Go.Shelf M01 M04 M10
set_option linter.unusedVariables false
theorem Strm.below {P : Nat → Prop} {w w' : World} {sp rp keep at_ : Nat} {bs out : List Nat} (h : Strm P w sp rp bs keep at_ out) (hb : Below w.heap.size w w') : Only P w w' ∧ Strm P w' sp rp bs keep at_ out := by
  have hlt := h.lt
  obtain ⟨oa, oc, h1, h2, h3, h4, h5, h6, h7, h8, h9, h10⟩ := h
  exact ⟨.ofBelow hb, oa, oc, (hb.block sp hlt).trans h1, h2.below hb, h3.below hb, h4, h5, h6, h7, fun b hb' => h8 b (Nat.le_trans hb.size hb'), h9, h10⟩
theorem Strm.narrow {P : Nat → Prop} {w w' : World} {sp rp keep at_ : Nat} {bs out : List Nat} (h : Strm P w sp rp bs keep at_ out) (hb : Below w.heap.size w w') : Strm (Sub P w.heap.size w'.heap.size) w' sp rp bs keep at_ out := by
  have hlt := h.lt
  obtain ⟨oa, oc, h1, h2, h3, h4, h5, h6, h7, h8, h9, h10⟩ := h
  have hz := hb.size
  refine ⟨oa, oc, (hb.block sp hlt).trans h1, h2.below hb, h3.below hb, ⟨h4, by omega⟩, ⟨h5, by omega⟩, h6, fun g hg => ⟨⟨(h7 g hg).1, ?_⟩, (h7 g hg).2⟩, fun b hb' => ⟨h8 b (by omega), by omega⟩, h9, h10⟩
  rcases h2.form with ⟨rfl, _, _⟩ | ⟨g', rfl, _, hg'⟩
  · cases hg
  · cases hg; omega
theorem Strm.widen {P : Nat → Prop} {lo hi : Nat} {w : World} {sp rp keep at_ : Nat} {bs out : List Nat} (h : Strm (Sub P lo hi) w sp rp bs keep at_ out) : Strm P w sp rp bs keep at_ out := by
  obtain ⟨oa, oc, h1, h2, h3, h4, h5, h6, h7, h8, h9, h10⟩ := h
  exact ⟨oa, oc, h1, h2, h3, h4.1, h5.1, h6, fun g hg => ⟨(h7 g hg).1.1, (h7 g hg).2⟩, fun b hb => (h8 b hb).1, h9, h10⟩
def InS (Q : Nat → Prop) (w : World) (sp rp : Nat) (bs : List Nat) (keep : Nat) (A : World) (at_ : Nat) (out : List Nat) : Prop := Only Q w A ∧ Strm Q A sp rp bs keep at_ out
theorem InS.moved {Q : Nat → Prop} {w A B : World} {sp rp keep at_ at2 : Nat} {bs out : List Nat} (h : InS Q w sp rp bs keep A at_ out) (ho : Only (fun b => b = rp) A B) (hr : Rd B rp bs at2) (ha : at_ ≤ at2) : InS Q w sp rp bs keep B at2 out :=
  ⟨h.1.trans (h.2.moved ho hr ha).1, (h.2.moved ho hr ha).2⟩
theorem InS.rpOnly {Q : Nat → Prop} {w A B : World} {sp rp keep at_ : Nat} {bs out : List Nat} (h : InS Q w sp rp bs keep A at_ out) (ho : Only (fun b => b = rp) A B) : Only Q w B := by
  obtain ⟨h1, oa, oc, _, _, _, _, h5, _⟩ := h
  exact h1.trans (ho.mono (fun k _ e => by subst e; exact h5))
theorem InS.below {Q : Nat → Prop} {w A B : World} {sp rp keep at_ : Nat} {bs out : List Nat} (h : InS Q w sp rp bs keep A at_ out) (hb : Below A.heap.size A B) : InS Q w sp rp bs keep B at_ out :=
  ⟨h.1.trans (h.2.below hb).1, (h.2.below hb).2⟩
theorem InS.step {Q : Nat → Prop} {w A B : World} {sp rp keep at_ at2 : Nat} {bs out out2 : List Nat} (h : InS Q w sp rp bs keep A at_ out) (ho : Only Q A B) (hs : Strm Q B sp rp bs keep at2 out2) : InS Q w sp rp bs keep B at2 out2 := ⟨h.1.trans ho, hs⟩
theorem StepOut.fail {P : Nat → Prop} {sp rp keep : Nat} {bs : List Nat} {R : Option (Nat × List Nat)} {w w' : World} (hR : R = none) (ho : Only P w w') : StepOut P sp rp bs keep R w (.panicked formP) w' := by
  subst hR; exact ⟨ho, rfl⟩
theorem StepOut.done {P : Nat → Prop} {sp rp keep at2 : Nat} {bs out2 : List Nat} {R : Option (Nat × List Nat)} {w w' : World} (hR : R = some (at2, out2)) (h : InS P w sp rp bs keep w' at2 out2) : StepOut P sp rp bs keep R w (.returned (.tuple #[])) w' := by
  subst hR; exact ⟨h.1, rfl, h.2⟩
set_option maxRecDepth 100000 in
set_option maxHeartbeats 3200000 in
theorem strm_symbols {P : Nat → Prop} {w : World} {sp rp keep at_ : Nat} {bs out : List Nat} (h : Strm P w sp rp bs keep at_ out) (a b : Option Addr) (ca cb : Nat) (l1 l2 : List Nat) (ha : RowN .u8 w a ca l1) (hb : RowN .u8 w b cb l2) :
    Calls Tryz.prog 100 #[.pointer (some ⟨sp, 0, none⟩), .slice a l1.length ca, .slice b l2.length cb] w fun e w' => StepOut P sp rp bs keep (symsB l1 l2 bs at_ out) w e w' := by
  have H := Lib.hid h
  have HA := Lib.hid ha
  have HB := Lib.hid hb
  have HN1 := Lib.hid (prefix_new a ca l1 w ha)
  clear h ha hb
  unfold symsB
  by_cases e1 : (wordsE l1).2 = 0
  case neg =>
    rw [if_neg e1]
    simp only [if_neg e1] at HN1
    have hp : 0 < (wordsE l1).2 := by omega
    clear e1
    generalize (wordsE l1).2 = c at *
    go_enter Tryz.func100, Tryz.ntmps100
    go_wp2_with fail
    refine HN1.out.mono ?_
    rintro e w1 ⟨hb1, rfl⟩
    have HB1 := Lib.hid hb1
    clear HN1 hb1
    go_wp2_with fail
    refine (must_tab_no (.pointer none) c hp w1).mono ?_
    rintro e w2 ⟨rfl, rfl⟩
    exact ⟨rfl, .ofBelow HB1.out, rfl⟩
  rw [if_pos e1]
  simp only [if_pos e1] at HN1
  have HM1 := Lib.hid (wordsE_may e1)
  clear e1
  have HN2 := Lib.hid (fun w' (h : RowN .u8 w' b cb l2) => prefix_new b cb l2 w' h)
  by_cases e2 : (wordsE l2).2 = 0
  case neg =>
    rw [if_neg e2]
    simp only [if_neg e2] at HN2
    have hp : 0 < (wordsE l2).2 := by omega
    clear e2
    generalize (wordsE l2).2 = c at *
    go_enter Tryz.func100, Tryz.ntmps100
    go_wp2_with fail
    refine HN1.out.mono ?_
    rintro e w1 ⟨hb1, p1, rfl, ht1⟩
    have HB1 := Lib.hid hb1
    clear HN1 hb1 ht1
    go_wp2_with fail
    refine (must_tab_ok _ w1).mono ?_
    rintro e w1' ⟨rfl, rfl⟩
    go_wp2_with fail
    refine (HN2.out w1' (HB.out.below HB1.out)).mono ?_
    rintro e w2 ⟨hb2, rfl⟩
    have HB2 := Lib.hid hb2
    clear HN2 hb2
    go_wp2_with fail
    refine (must_tab_no (.pointer none) c hp w2).mono ?_
    rintro e w3 ⟨rfl, rfl⟩
    exact ⟨rfl, .ofBelow (HB1.out.trans (HB2.out.mono HB1.out.size)), rfl⟩
  rw [if_pos e2]
  simp only [if_pos e2] at HN2
  have HM2 := Lib.hid (wordsE_may e2)
  clear e2
  obtain ⟨R, hR0⟩ : ∃ R, R = symsL l1 l2 bs (8 * bs.length + 1) at_ out := ⟨_, rfl⟩
  rw [← hR0]
  replace hR0 := Lib.hid hR0
  go_enter Tryz.func100, Tryz.ntmps100
  go_wp2_with fail
  refine HN1.out.mono ?_
  rintro e w1 ⟨hb1, p1, rfl, ht1⟩
  have HB1 := Lib.hid hb1
  have HT1 := Lib.hid ht1
  clear HN1 hb1 ht1
  go_wp2_with fail
  refine (must_tab_ok _ w1).mono ?_
  rintro e w1' ⟨rfl, rfl⟩
  go_wp2_with fail
  refine (HN2.out w1' (HB.out.below HB1.out)).mono ?_
  rintro e w2 ⟨hb2, p2, rfl, ht2⟩
  have HB2 := Lib.hid (HB1.out.trans (hb2.mono HB1.out.size))
  have HT1' := Lib.hid ((HT1.out.below hb2).widen (Nat.le_refl _) hb2.size (Nat.le_refl _))
  have HT2 := Lib.hid (ht2.widen HB1.out.size (Nat.le_refl _) (Nat.le_refl _))
  clear HN2 hb2 ht2 HT1 HB1
  go_wp2_with fail
  refine (must_tab_ok _ w2).mono ?_
  rintro e w2' ⟨rfl, rfl⟩
  have HS := Lib.hid (H.out.narrow HB2.out)
  have HSZ := Lib.hid (show rp < w.heap.size from H.out.rd.lt)
  have HPN := Lib.hid (fun (A : World) (e : Ending) (h : StepOut (Sub P w.heap.size w2'.heap.size) sp rp bs keep R w2' e A) => (show StepOut P sp rp bs keep R w e A from by
    refine ⟨(Only.ofBelow HB2.out).trans h.1.widen, ?_⟩
    have h2 := h.2
    cases R with
    | none => exact h2
    | some r => exact ⟨h2.1, h2.2.widen⟩))
  clear H HB2 HA HB
  generalize hQ : Sub P w.heap.size w2'.heap.size = Q at *
  have HQ : Hid (∀ b, w.heap.size ≤ b → b < w2'.heap.size → ¬ Q b) := fun b h1 h2 h3 => by rw [← hQ] at h3; exact h3.2 ⟨h1, h2⟩
  generalize w.heap.size = lo at *
  generalize hhi : w2'.heap.size = hi at *
  clear hQ
  go_wp2_with fail
  go_loopw [8, 9, 10, 11, 12] (fun _ _ _ _ _ A => ∃ f at2 out2, InS Q w2' sp rp bs keep A at2 out2 ∧ 8 * bs.length + 1 ≤ f + at2 ∧ R = symsL l1 l2 bs f at2 out2) (fun _ _ _ _ _ A => 8 * bs.length - rdAt A rp)
  case atStart => exact ⟨8 * bs.length + 1, at_, out, ⟨Only.refl _ _, HS.out⟩, Nat.le_add_right _ _, hR0.out⟩
  case round =>
    clear HS hR0
    obtain ⟨f, at2, out2, hi2, hf, hr⟩ := hrel
    obtain ⟨c0, _, _⟩ := hi2.2.cells
    have hb2 := hi2.2.bound
    obtain ⟨f, rfl⟩ : ∃ g, f = g + 1 := ⟨f - 1, by omega⟩
    have HRA := Lib.hid (rdAt_eq hi2.2.rd)
    have HG1 := Lib.hid (prefix_getLow wr lo hi p1 rp l1 bs at2 HM1.out.1.1 (HT1'.out.only hi2.1 HQ.out) hi2.2.rd (.inl HSZ.out))
    have HI := Lib.hid hi2
    have HB2 := Lib.hid hb2
    have HF := Lib.hid hf
    rw [symsL_succ] at hr
    unfold symsStep at hr
    have HSS := Lib.hid (fun s a h => sym_some (l := l1) (bs := bs) (at_ := at2) (s := s) (at2 := a) HM1.out.1.1 h)
    clear hi2 hb2 hf
    generalize hsy : sym l1 bs at2 = s1 at *
    rcases s1 with _ | ⟨c, a1⟩
    · have HR : Hid (R = none) := hr
      clear hr hsy HSS
      go_wp2_with fail
      refine HG1.out.mono ?_
      rintro e w3 ⟨ho3, hs3⟩
      obtain rfl : e = _ := hs3
      have HO3 := Lib.hid (HI.out.rpOnly ho3)
      clear ho3 HG1 HI
      go_wp2_with fail
      refine (must_int_no (.int .i64 0) 2 (by decide) w3).mono ?_
      rintro e w4 ⟨rfl, rfl⟩
      exact ⟨rfl, HPN.out _ _ (.fail HR.out HO3.out)⟩
    · have hlt := (HSS.out c a1 rfl).2.2
      have hbd : out2.length + 258 ≤ 258 * a1 := by have := HB2.out; omega
      clear hsy HSS
      replace hr := Lib.hid hr
      go_wp2_with fail
      refine HG1.out.mono ?_
      rintro e w3 ⟨ho3, hs3⟩
      obtain ⟨rfl, hrd3⟩ : e = _ ∧ _ := hs3
      have HI3 := Lib.hid (HI.out.moved ho3 hrd3 (by omega))
      clear ho3 hrd3 HG1 HI
      go_wp2_with fail
      refine (must_int_ok _ w3).mono ?_
      rintro e w3' ⟨rfl, rfl⟩
      have h3 := HI3.out.2.bound
      have h3a : a1 ≤ 8 * bs.length := h3.2.1
      have h3b : bs.length ≤ 100000000 := h3.2.2
      clear h3
      by_cases h256 : c < 256
      · have HR : Hid (R = symsL l1 l2 bs f a1 (out2 ++ [c])) := by
          unfold Hid
          have := hr.out
          simpa [h256] using this
        have HP := Lib.hid (strm_put HI3.out.2 c (by omega))
        have t1 : decide ((c : Int) < 256) = true := by simp; omega
        clear hr
        go_wp2_with fail
        refine HP.out.mono ?_
        rintro e w4 ⟨rfl, ho4, hs4⟩
        have HI4 := Lib.hid (HI3.out.step ho4 hs4)
        clear ho4 hs4 HI3
        go_wp2
        go_roundw
        case rel => exact ⟨f, a1, out2 ++ [c], HI4.out, by have := HF.out; omega, HR.out⟩
        case measure => rw [HRA.out, rdAt_eq HI4.out.2.rd]; omega
      have t1 : decide ((c : Int) < 256) = false := by simp; omega
      by_cases h6 : c = 256
      · have HR : Hid (R = some (a1, out2)) := by
          unfold Hid
          have := hr.out
          simpa [h256, h6] using this
        have t2 : ((c : Int) == 256) = true := by simp; omega
        clear hr h256 h6
        go_wp2
        go_end0
        exact HPN.out _ _ (.done HR.out HI3.out)
      have t2 : ((c : Int) == 256) = false := by simp; omega
      have hr2 := hr.out
      simp only [if_neg h256, if_neg h6] at hr2
      have hbl := loS_bound c
      have HL := Lib.hid (fun A => token_lengthOf (c : Int) A)
      clear hr h256 h6
      generalize loS (c : Int) = lo3 at *
      obtain ⟨ll, ln, le⟩ := lo3
      simp only [] at hr2 hbl HL
      by_cases hle : le = 0
      case neg =>
        have HR : Hid (R = none) := by unfold Hid; simpa [hle] using hr2
        have hlp : 0 < le := by omega
        clear hr2 hbl hle
        go_wp2_with fail
        refine (HL.out _).mono ?_
        rintro e w4 ⟨rfl, hb4⟩
        have HI4 := Lib.hid (HI3.out.below hb4)
        clear hb4 HI3 HL
        go_wp2_with fail
        refine (must_int_no (.int .i64 0) le hlp w4).mono ?_
        rintro e w5 ⟨rfl, rfl⟩
        exact ⟨rfl, HPN.out _ _ (.fail HR.out HI4.out.1)⟩
      subst hle
      obtain ⟨hln, hll⟩ := hbl rfl
      simp only [ne_eq, not_true_eq_false, if_false] at hr2
      clear hbl
      have HR2 := Lib.hid hr2
      clear hr2
      go_wp2_with fail
      refine (HL.out _).mono ?_
      rintro e w4 ⟨rfl, hb4⟩
      have HI4 := Lib.hid (HI3.out.below hb4)
      clear hb4 HI3 HL
      go_wp2_with fail
      refine (must_int_ok _ w4).mono ?_
      rintro e w4' ⟨rfl, rfl⟩
      go_wp2_with fail
      by_cases h5 : a1 + ln ≤ 8 * bs.length
      case neg =>
        have HR : Hid (R = none) := by
          have := HR2.out
          unfold rdN at this
          rwa [if_neg h5] at this
        have HBT := Lib.hid (strm_bits_no HI4.out.2 ln (by omega) (by omega))
        clear HR2 h5
        refine HBT.out.mono ?_
        rintro e w5 ⟨rfl, ho5⟩
        exact ⟨rfl, HPN.out _ _ (.fail HR.out (HI4.out.1.trans ho5))⟩
      have HBT := Lib.hid (strm_bits_ok HI4.out.2 ln (by omega) h5)
      have hr3 := HR2.out
      unfold rdN at hr3
      simp only [if_pos h5] at hr3
      have hx := num_lt bs a1 ln
      obtain ⟨x, hxe⟩ : ∃ x, x = num bs a1 ln := ⟨_, rfl⟩
      rw [← hxe] at hr3 hx HBT
      have hlen : ll + x ≤ 258 := by omega
      obtain ⟨len, hlene⟩ : ∃ len, len = ll + x := ⟨_, rfl⟩
      rw [← hlene] at hr3 hlen
      have q1 : (ll : Int) + (x : Int) = (len : Int) := by omega
      have ha2 : a1 ≤ a1 + ln := by omega
      generalize a1 + ln = a2 at *
      replace hr3 := Lib.hid hr3
      clear HR2 h5 hxe hlene hx hll
      refine HBT.out.mono ?_
      rintro e w5 ⟨rfl, ho5, hs5⟩
      have HI5 := Lib.hid (HI4.out.step ho5 hs5)
      clear ho5 hs5 HBT HI4
      obtain ⟨c0, _, _⟩ := HI5.out.2.cells
      go_wp2_with fail
      have HG2 := Lib.hid (prefix_getLow w5 lo hi p2 rp l2 bs a2 HM2.out.1.1 (HT2.out.only HI5.out.1 HQ.out) HI5.out.2.rd (.inl HSZ.out))
      have HSS2 := Lib.hid (fun s a h => sym_some (l := l2) (bs := bs) (at_ := a2) (s := s) (at2 := a) HM2.out.1.1 h)
      have hr4 := hr3.out
      clear hr3
      generalize hsy2 : sym l2 bs a2 = s2 at *
      rcases s2 with _ | ⟨d, a3⟩
      · have HR : Hid (R = none) := hr4
        clear hr4 hsy2 HSS2
        refine HG2.out.mono ?_
        rintro e w6 ⟨ho6, hs6⟩
        obtain rfl : e = _ := hs6
        have HO6 := Lib.hid (HI5.out.rpOnly ho6)
        clear ho6 HG2 HI5
        go_wp2_with fail
        refine (must_int_no (.int .i64 0) 2 (by decide) w6).mono ?_
        rintro e w7 ⟨rfl, rfl⟩
        exact ⟨rfl, HPN.out _ _ (.fail HR.out HO6.out)⟩
      have hlt2 := (HSS2.out d a3 rfl).2.2
      clear hsy2 HSS2
      replace hr4 := Lib.hid hr4
      refine HG2.out.mono ?_
      rintro e w6 ⟨ho6, hs6⟩
      obtain ⟨rfl, hrd6⟩ : e = _ ∧ _ := hs6
      have HI6 := Lib.hid (HI5.out.moved ho6 hrd6 (by omega))
      clear ho6 hrd6 HG2 HI5
      go_wp2_with fail
      refine (must_int_ok _ w6).mono ?_
      rintro e w6' ⟨rfl, rfl⟩
      have hbl := doS_bound d
      have HL := Lib.hid (fun A => token_distanceOf (d : Int) A)
      have hr5 := hr4.out
      clear hr4
      generalize doS (d : Int) = do3 at *
      obtain ⟨dl, dn, de⟩ := do3
      simp only [] at hr5 hbl HL
      by_cases hde : de = 0
      case neg =>
        have HR : Hid (R = none) := by unfold Hid; simpa [hde] using hr5
        have hdp : 0 < de := by omega
        clear hr5 hbl hde
        go_wp2_with fail
        refine (HL.out _).mono ?_
        rintro e w7 ⟨rfl, hb7⟩
        have HI7 := Lib.hid (HI6.out.below hb7)
        clear hb7 HI6 HL
        go_wp2_with fail
        refine (must_int_no (.int .i64 0) de hdp w7).mono ?_
        rintro e w8 ⟨rfl, rfl⟩
        exact ⟨rfl, HPN.out _ _ (.fail HR.out HI7.out.1)⟩
      subst hde
      obtain ⟨hdn, hdl, hdl2⟩ := hbl rfl
      simp only [not_true_eq_false, if_false] at hr5
      clear hbl
      have HR5 := Lib.hid hr5
      clear hr5
      go_wp2_with fail
      refine (HL.out _).mono ?_
      rintro e w7 ⟨rfl, hb7⟩
      have HI7 := Lib.hid (HI6.out.below hb7)
      clear hb7 HI6 HL
      go_wp2_with fail
      refine (must_int_ok _ w7).mono ?_
      rintro e w7' ⟨rfl, rfl⟩
      go_wp2_with fail
      by_cases h7 : a3 + dn ≤ 8 * bs.length
      case neg =>
        have HR : Hid (R = none) := by
          have := HR5.out
          unfold rdN at this
          rwa [if_neg h7] at this
        have HBT := Lib.hid (strm_bits_no HI7.out.2 dn (by omega) (by omega))
        clear HR5 h7
        refine HBT.out.mono ?_
        rintro e w8 ⟨rfl, ho8⟩
        exact ⟨rfl, HPN.out _ _ (.fail HR.out (HI7.out.1.trans ho8))⟩
      have HBT := Lib.hid (strm_bits_ok HI7.out.2 dn (by omega) h7)
      have hr6 := HR5.out
      unfold rdN at hr6
      simp only [if_pos h7] at hr6
      have hy := num_lt bs a3 dn
      have hy13 : 2 ^ dn ≤ 2 ^ 13 := Nat.pow_le_pow_right (by decide) hdn
      obtain ⟨y, hye⟩ : ∃ y, y = num bs a3 dn := ⟨_, rfl⟩
      rw [← hye] at hr6 hy HBT
      have hfar : dl + y ≤ 50000 := by omega
      have hfar1 : 1 ≤ dl + y := by omega
      obtain ⟨far, hfare⟩ : ∃ far, far = dl + y := ⟨_, rfl⟩
      rw [← hfare] at hr6 hfar hfar1
      have q2 : (dl : Int) + (y : Int) = (far : Int) := by omega
      have ha4 : a3 ≤ a3 + dn := by omega
      generalize a3 + dn = a4 at *
      replace hr6 := Lib.hid hr6
      clear HR5 h7 hye hfare hy hy13 hdl hdl2
      refine HBT.out.mono ?_
      rintro e w8 ⟨rfl, ho8, hs8⟩
      have HI8 := Lib.hid (HI7.out.step ho8 hs8)
      clear ho8 hs8 HBT HI7
      go_wp2_with fail
      by_cases hfo : out2.length < far
      · have HR : Hid (R = none) := by
          have := hr6.out
          rwa [if_pos hfo] at this
        refine (strm_repeat_no HI8.out.2 len far hfo).mono ?_
        rintro e w9 ⟨rfl, rfl⟩
        exact ⟨rfl, HPN.out _ _ (.fail HR.out HI8.out.1)⟩
      · have HR : Hid (R = symsL l1 l2 bs f a4 (repOut far out2 len)) := by
          have := hr6.out
          rwa [if_neg hfo] at this
        refine (strm_repeat HI8.out.2 len far (by omega) hfar1 hlen (by omega)).mono ?_
        rintro e w9 ⟨rfl, ho9, hs9⟩
        have HI9 := Lib.hid (HI8.out.step ho9 hs9)
        clear ho9 hs9 HI8 hr6
        go_wp2
        go_roundw
        case rel => exact ⟨f, a4, repOut far out2 len, HI9.out, by have := HF.out; omega, HR.out⟩
        case measure => rw [HRA.out, rdAt_eq HI9.out.2.rd]; have := HI9.out.2.bound; omega
end Go.Proofs.YtendielanacflaaGreat
namespace Go.Proofs.YtendielanacflaaGreat
open Go.RowKit Go.Shelf M01 M04 M10
set_option linter.unusedVariables false
theorem infl_many (n k : Nat) (h1 : 1 ≤ n) (h2 : n ≤ 1000) (w : World) :
    Calls Tryz.prog 98 #[.int .i64 n, .int .u8 k] w fun e w' => ∃ g, e = .returned (.slice (some ⟨g, 0, none⟩) n n) ∧ RowN .u8 w' (some ⟨g, 0, none⟩) n (List.replicate n k) ∧ Below w.heap.size w w' := by
  go_enter Tryz.func98, Tryz.ntmps98
  go_wp2_with fail
  refine (slices_repeat n k _ h1 h2 _ ?h1 ?h2).mono ?_
  case h1 => exact cell_of_one (World.alloc_heap_new _ _)
  case h2 => simp
  rintro e w1 ⟨g, rfl, hr, hb⟩
  have HR := Lib.hid hr
  have HB := Lib.hid hb
  clear hr hb
  go_wp2
  go_ret
  exact ⟨g, rfl, HR.out, (box_below' _ _).trans (HB.out.mono (by simp))⟩
theorem StepOut.behind {P : Nat → Prop} {sp rp keep : Nat} {bs : List Nat} {R : Option (Nat × List Nat)} {w w1 w' : World} {e : Ending} (hb : Below w.heap.size w w1) (h : StepOut P sp rp bs keep R w1 e w') : StepOut P sp rp bs keep R w e w' :=
  ⟨(Only.ofBelow hb).trans h.1, h.2⟩
theorem StepOut.post {P : Nat → Prop} {sp rp keep : Nat} {bs : List Nat} {R : Option (Nat × List Nat)} {w w' : World} {e : Ending} (h : StepOut P sp rp bs keep R w e w') : (e = .returned (.tuple #[]) ∨ e = .panicked formP) := by
  have h2 := h.2
  cases R with
  | none => exact .inr h2
  | some r => exact .inl h2.1
set_option maxRecDepth 100000 in
set_option maxHeartbeats 1600000 in
theorem strm_fixed {P : Nat → Prop} {w : World} {sp rp keep at_ : Nat} {bs out : List Nat} (h : Strm P w sp rp bs keep at_ out) :
    Calls Tryz.prog 53 #[.pointer (some ⟨sp, 0, none⟩)] w fun e w' => StepOut P sp rp bs keep (symsB fixF fixD bs at_ out) w e w' := by
  have H := Lib.hid h
  clear h
  generalize hR : symsB fixF fixD bs at_ out = R
  have HRR := Lib.hid hR
  clear hR
  go_enter Tryz.func53, Tryz.ntmps53
  go_wp2_with fail
  refine (infl_many 144 8 (by decide) (by decide) _).mono ?_
  rintro e w1 ⟨g1, rfl, r1, b1⟩
  go_wp2_with fail
  refine (infl_many 112 9 (by decide) (by decide) _).mono ?_
  rintro e w2 ⟨g2, rfl, r2, b2⟩
  go_wp2_with fail
  refine (infl_many 24 7 (by decide) (by decide) _).mono ?_
  rintro e w3 ⟨g3, rfl, r3, b3⟩
  go_wp2_with fail
  refine (infl_many 8 8 (by decide) (by decide) _).mono ?_
  rintro e w4 ⟨g4, rfl, r4, b4⟩
  have R1 := ((r1.below b2).below b3).below b4
  have R2 := (r2.below b3).below b4
  have R3 := r3.below b4
  have B := ((b1.trans (b2.mono b1.size)).trans (b3.mono (b1.trans (b2.mono b1.size)).size)).trans (b4.mono ((b1.trans (b2.mono b1.size)).trans (b3.mono (b1.trans (b2.mono b1.size)).size)).size)
  have HR1 := Lib.hid R1
  have HR2 := Lib.hid R2
  have HR3 := Lib.hid R3
  have HR4 := Lib.hid r4
  have HB := Lib.hid B
  clear r1 r2 r3 r4 b1 b2 b3 b4 R1 R2 R3 B
  go_wp2_with fail
  refine (concat4 g1 g2 g3 g4 w4 HR1.out HR2.out HR3.out HR4.out).mono ?_
  rintro e w5 ⟨a5, c5, rfl, r5, b5⟩
  have HR5 := Lib.hid r5
  have HB5 := Lib.hid (HB.out.trans (b5.mono HB.out.size))
  clear r5 b5 HR1 HR2 HR3 HR4 HB
  go_wp2_with fail
  refine (infl_many 32 5 (by decide) (by decide) _).mono ?_
  rintro e w6 ⟨g6, rfl, r6, b6⟩
  have HR6 := Lib.hid (show RowN .u8 w6 (some ⟨g6, 0, none⟩) 32 fixD from r6)
  have HR56 := Lib.hid (HR5.out.below b6)
  have HB6 := Lib.hid (HB5.out.trans (b6.mono HB5.out.size))
  clear r6 b6 HR5 HB5
  go_wp2_with fail
  refine (strm_symbols (H.out.below HB6.out).2 a5 (some ⟨g6, 0, none⟩) c5 32 fixF fixD HR56.out HR6.out).mono ?_
  rw [HRR.out]
  intro e w7 hs
  have HS := Lib.hid (hs.behind HB6.out)
  rcases hs.post with rfl | rfl
  · clear hs
    go_wp2
    go_end0
    exact HS.out
  · exact ⟨rfl, HS.out⟩
end Go.Proofs.YtendielanacflaaGreat

namespace Go.Proofs.YtendielanacflaaGreat
open Go.RowKit Go.Shelf M01 M04 M09 M10
set_option linter.unusedVariables false
theorem StepOut.after {P : Nat → Prop} {sp rp keep : Nat} {bs : List Nat} {R : Option (Nat × List Nat)} {w w1 w' : World} {e : Ending} (hb : Only P w w1) (h : StepOut P sp rp bs keep R w1 e w') : StepOut P sp rp bs keep R w e w' :=
  ⟨hb.trans h.1, h.2⟩
theorem Strm.pRp {P : Nat → Prop} {w w' : World} {sp rp keep at_ : Nat} {bs out : List Nat} (h : Strm P w sp rp bs keep at_ out) (ho : Only (fun b => b = rp) w w') : Only P w w' := by
  obtain ⟨oa, oc, h1, h2, h3, h4, h5, h6⟩ := h
  exact ho.mono (fun k _ e => by subst e; exact h5)
set_option maxRecDepth 100000 in
set_option maxHeartbeats 1600000 in
theorem strm_dynamic {P : Nat → Prop} {w : World} {sp rp keep at_ : Nat} {bs out : List Nat} (h : Strm P w sp rp bs keep at_ out) :
    Calls Tryz.prog 54 #[.pointer (some ⟨sp, 0, none⟩)] w fun e w' => StepOut P sp rp bs keep (dynB bs at_ out) w e w' := by
  obtain ⟨c0, c2, c3⟩ := h.cells
  have HG := Lib.hid (hdr_get w rp bs at_ h.rd)
  have H := Lib.hid h
  have HLE := Lib.hid (fun fo a2 (hh : hdr bs at_ = some (fo, a2)) => (hdr_loc (d := 0) (bs' := bs) hh).1)
  have HB : Hid (dynB bs at_ out = match hdr bs at_ with
    | none => none
    | some (fo, a2) => symsB fo.1 fo.2 bs a2 out) := rfl
  clear h c2 c3
  generalize dynB bs at_ out = R at *
  generalize hdr bs at_ = U at *
  go_enter Tryz.func54, Tryz.ntmps54
  go_wp2_with fail
  refine HG.out.mono ?_
  rintro e w1 ⟨ho1, h1⟩
  rcases U with _ | ⟨⟨f, o⟩, at2⟩
  · obtain rfl : e = _ := h1
    have HO := Lib.hid (H.out.pRp ho1)
    have HR : Hid (R = none) := HB.out
    clear ho1 c0 HG
    go_wp2_with fail
    refine (must_int_no (.int .i64 0) 2 (by decide) w1).mono ?_
    rintro e w2 ⟨rfl, rfl⟩
    exact ⟨rfl, StepOut.fail HR.out HO.out⟩
  · obtain ⟨a1, k1, a2, k2, rfl, r1, r2, hrd⟩ := h1
    have HM := Lib.hid (H.out.moved ho1 hrd (HLE.out _ _ rfl))
    have HR : Hid (R = symsB f o bs at2 out) := HB.out
    have R1 := Lib.hid r1
    have R2 := Lib.hid r2
    clear ho1 c0 HG hrd r1 r2
    go_wp2_with fail
    refine (must_int_ok (.int .i64 0) w1).mono ?_
    rintro e w2 ⟨rfl, rfl⟩
    go_wp2_with fail
    refine (strm_symbols HM.out.2 a1 a2 k1 k2 f o R1.out R2.out).mono ?_
    rw [← HR.out]
    intro e w7 hs
    have HS := Lib.hid (hs.after HM.out.1)
    rcases hs.post with rfl | rfl
    · clear hs
      go_wp2
      go_end0
      exact HS.out
    · exact ⟨rfl, HS.out⟩
def kindF : Nat → FuncId
  | 0 => 52
  | 1 => 53
  | 2 => 54
  | _ => 55
theorem strm_kind {P : Nat → Prop} {w : World} {sp rp keep at_ : Nat} {bs out : List Nat} (h : Strm P w sp rp bs keep at_ out) (k : Nat) :
    Calls Tryz.prog (kindF k) #[.pointer (some ⟨sp, 0, none⟩)] w fun e w' => StepOut P sp rp bs keep (blkK k bs at_ out) w e w' := by
  unfold blkK
  match k with
  | 0 => rw [if_pos rfl]; exact strm_stored h
  | 1 => rw [if_neg (by decide), if_pos rfl]; exact strm_fixed h
  | 2 => rw [if_neg (by decide), if_neg (by decide), if_pos rfl]; exact strm_dynamic h
  | k + 3 =>
    rw [if_neg (by omega), if_neg (by omega), if_neg (by omega)]
    refine (strm_none _ w).mono ?_
    rintro e w' ⟨rfl, rfl⟩
    exact StepOut.fail rfl (Only.refl _ _)
end Go.Proofs.YtendielanacflaaGreat

namespace Go.Proofs.YtendielanacflaaGreat
open Go.RowKit Go.Shelf M01 M04 M09 M10
set_option linter.unusedVariables false
def FRes (q : Nat) (A : World) (x0 x1 x2 x3 z : Value) : Prop := A.heap[q]? = some (.cells #[x0, x1, x2, x3] 53 (0, 0)) ∧ A.heap[q + 1]? = some (.cells #[z] 25 (0, 0))
def setF (q : Nat) (A : World) (x0 x1 x2 x3 z : Value) : World := ((((A.setCell ⟨q, 0, none⟩ x0).setCell ⟨q, 1, none⟩ x1).setCell ⟨q, 2, none⟩ x2).setCell ⟨q, 3, none⟩ x3).setCell ⟨q + 1, 0, none⟩ z
theorem set_at {A : World} {b i : Nat} {cs : Array Value} {x : Value} {t : TypeId} (h : A.heap[b]? = some (.cells cs t (0, 0))) : (A.setCell ⟨b, i, none⟩ x).heap[b]? = some (.cells (cs.setIfInBounds i x) t (0, 0)) := by
  show (A.heap.modify b _)[b]? = _
  rw [Array.getElem?_modify, if_pos rfl, h]; rfl
theorem set_four {A : World} {b : Nat} {y0 y1 y2 y3 : Value} {t : TypeId} (h : A.heap[b]? = some (.cells #[y0, y1, y2, y3] t (0, 0))) (x0 x1 x2 x3 : Value) :
    ((((A.setCell ⟨b, 0, none⟩ x0).setCell ⟨b, 1, none⟩ x1).setCell ⟨b, 2, none⟩ x2).setCell ⟨b, 3, none⟩ x3).heap[b]? = some (.cells #[x0, x1, x2, x3] t (0, 0)) := by
  have := set_at (i := 3) (x := x3) (set_at (i := 2) (x := x2) (set_at (i := 1) (x := x1) (set_at (i := 0) (x := x0) h)))
  simpa using this
theorem FRes.set {q : Nat} {A : World} {y0 y1 y2 y3 y : Value} (h : FRes q A y0 y1 y2 y3 y) (x0 x1 x2 x3 z : Value) : FRes q (setF q A x0 x1 x2 x3 z) x0 x1 x2 x3 z := by
  obtain ⟨h1, h2⟩ := h
  unfold setF
  refine ⟨?_, ?_⟩
  · rw [Below.heap_setCell _ _ _ _ (by show q ≠ q + 1; omega)]
    exact set_four h1 x0 x1 x2 x3
  · refine set_one (u := y) ?_
    rw [Below.heap_setCell _ _ _ _ (by show q + 1 ≠ q; omega), Below.heap_setCell _ _ _ _ (by show q + 1 ≠ q; omega), Below.heap_setCell _ _ _ _ (by show q + 1 ≠ q; omega), Below.heap_setCell _ _ _ _ (by show q + 1 ≠ q; omega)]
    exact h2
theorem setF_only {T : Nat → Prop} {q : Nat} {w A : World} (h : Only T w A) (hq : w.heap.size ≤ q) (x0 x1 x2 x3 z : Value) : Only T w (setF q A x0 x1 x2 x3 z) :=
  ((((h.setCell (p := ⟨q, 0, none⟩) (.inr hq) _).setCell (p := ⟨q, 1, none⟩) (.inr hq) _).setCell (p := ⟨q, 2, none⟩) (.inr hq) _).setCell (p := ⟨q, 3, none⟩) (.inr hq) _).setCell (p := ⟨q + 1, 0, none⟩) (.inr (by show w.heap.size ≤ q + 1; omega)) _
theorem infl_catch (p : Nat) (x0 x1 x2 x3 z : Value) (w : World) (h : FRes p w x0 x1 x2 x3 z) :
    CallsD Tryz.prog 51 #[.pointer (some ⟨p, 0, none⟩), .pointer (some ⟨p + 1, 0, none⟩)] (.panicking formP) w fun e u' w' =>
      e = .returned (.tuple #[]) ∧ u' = .panicking [{ v := .iface 25 (.int .i64 2), recovered := true }] ∧ w' = setF p w (.slice none 0 0) (.int .i64 0) (.int .i64 0) (.bool false) (.int .i64 2) := by
  unfold formP
  obtain ⟨h1, h2⟩ := h
  refine callsD_of_wpS Tryz.func51 rfl fun c₀ cs hu => ?_
  obtain ⟨f0, f1, f2, f3⟩ := four_frozen h1
  obtain ⟨c0, c1, c2, c3, _, _⟩ := four_cells h1
  have g4 : w.cell? ⟨p + 1, 0, none⟩ = some z := cell_of_one h2
  have f4 : w.frozen? ⟨p + 1, 0, none⟩ = false := by simp [World.frozen?, h2]
  have te := ta_err 2
  unfold setF
  apply wpS_seq
  apply wpS_region
  simp [wpOpsS, go_sem, recoverD, hu, te, Tryz.ntmps51, Exit.thenS]
  apply wpS_seq
  apply wpS_region
  simp [wpOpsS, go_sem, Exit.thenS]
  refine wpS_cond (t := true) (by simp [Act.eval, Array.replicate]) ?_
  simp only [if_true]
  apply wpS_region
  simp [wpOpsS, go_sem, c0, c1, c2, c3, g4, f0, f1, f2, f3, f4, bodyPostS, results, Tryz.results51]
theorem infl_catch_idle (p q : Nat) (w : World) :
    CallsD Tryz.prog 51 #[.pointer (some ⟨p, 0, none⟩), .pointer (some ⟨q, 0, none⟩)] .returning w fun e u' w' =>
      e = .returned (.tuple #[]) ∧ u' = .returning ∧ w' = w := by
  refine callsD_of_wpS Tryz.func51 rfl fun c₀ cs hu => ?_
  apply wpS_seq
  apply wpS_region
  have te := ta_nil
  simp [wpOpsS, go_sem, recoverD, hu, te, Tryz.ntmps51, Exit.thenS]
  apply wpS_seq
  apply wpS_region
  simp [wpOpsS, go_sem, Exit.thenS]
  refine wpS_cond (t := false) (by simp [Act.eval, Array.replicate]) ?_
  simp only [Bool.false_eq_true, if_false]
  refine wpS_of_wp (wp_skip ?_)
  cases c₀
  simp_all [bodyPostS, results, Tryz.results51]
def InflOut (keep : Nat) (R : Option (Nat × List Nat)) (e : Ending) (w' : World) : Prop :=
  match R with
  | some (at2, o) => ∃ a c, e = .returned (.tuple #[.agg #[.slice a (o.take keep).length c, .int .i64 (o.length : Nat), .int .i64 ((at2 + 7) / 8 : Nat), .bool false], .int .i64 0]) ∧ RowN .u8 w' a c (o.take keep)
  | none => e = .returned (.tuple #[.agg #[.slice none 0 0, .int .i64 0, .int .i64 0, .bool false], .int .i64 2])
def idefr (q : Nat) : List Deferred := [{ target := Target.fn (Fn.func 51) #[.pointer (some ⟨q, 0, none⟩), .pointer (some ⟨q + 1, 0, none⟩)], args := #[] }]
theorem infl_idle {q : Nat} {A : World} {x0 x1 x2 x3 z : Value} {tmps : Array Value} {Rr : Ending → World → Prop} (h : FRes q A x0 x1 x2 x3 z) (t4 : tmps.getD 4 undef = .pointer (some ⟨q, 0, none⟩)) (t5 : tmps.getD 5 undef = .pointer (some ⟨q + 1, 0, none⟩))
    (hK : Rr (.returned (.tuple #[.agg #[x0, x1, x2, x3], z])) A) : bodyPostD Tryz.prog Tryz.f24 Rr .ret { tmps := tmps, defers := idefr q } A := by
  show Leaves _ _ _ _ (idefr q) .returning A
  unfold idefr
  refine leaves_cons (f := 51) (args := #[.pointer (some ⟨q, 0, none⟩), .pointer (some ⟨q + 1, 0, none⟩)]) (by simp) (by simp [go_sem]) ?_
  refine (infl_catch_idle q (q + 1) A).mono ?_
  rintro e u' w'' ⟨rfl, rfl, rfl⟩
  obtain ⟨h1, h2⟩ := h
  obtain ⟨c0, c1, c2, c3, _, _⟩ := four_cells h1
  have g4 := cell_of_one h2
  simp only [Leaves, settle]
  refine ⟨_, ?_, hK⟩
  have s4 : tmps[4]?.getD undef = .pointer (some ⟨q, 0, none⟩) := by simpa using t4
  have s5 : tmps[5]?.getD undef = .pointer (some ⟨q + 1, 0, none⟩) := by simpa using t5
  simp [results, Tryz.results24, go_sem, s4, s5, c0, c1, c2, c3, g4]
theorem infl_thrown {q : Nat} {A : World} {x0 x1 x2 x3 z : Value} {tmps : Array Value} {Rr : Ending → World → Prop} (h : FRes q A x0 x1 x2 x3 z) (t4 : tmps.getD 4 undef = .pointer (some ⟨q, 0, none⟩)) (t5 : tmps.getD 5 undef = .pointer (some ⟨q + 1, 0, none⟩))
    (hK : Rr (.returned (.tuple #[.agg #[.slice none 0 0, .int .i64 0, .int .i64 0, .bool false], .int .i64 2])) (setF q A (.slice none 0 0) (.int .i64 0) (.int .i64 0) (.bool false) (.int .i64 2))) : bodyPostD Tryz.prog Tryz.f24 Rr (.panic formP) { tmps := tmps, defers := idefr q } A := by
  show Leaves _ _ _ _ (idefr q) (.panicking formP) A
  unfold idefr
  refine leaves_cons (f := 51) (args := #[.pointer (some ⟨q, 0, none⟩), .pointer (some ⟨q + 1, 0, none⟩)]) (by simp) (by simp [go_sem]) ?_
  refine (infl_catch q x0 x1 x2 x3 z A h).mono ?_
  rintro e u' w'' ⟨rfl, rfl, rfl⟩
  obtain ⟨h1, h2⟩ := h.set (.slice none 0 0) (.int .i64 0) (.int .i64 0) (.bool false) (.int .i64 2)
  obtain ⟨c0, c1, c2, c3, _, _⟩ := four_cells h1
  have g4 := cell_of_one h2
  have s4 : tmps[4]?.getD undef = .pointer (some ⟨q, 0, none⟩) := by simpa using t4
  have s5 : tmps[5]?.getD undef = .pointer (some ⟨q + 1, 0, none⟩) := by simpa using t5
  generalize setF q A (.slice none 0 0) (.int .i64 0) (.int .i64 0) (.bool false) (.int .i64 2) = B at *
  simp only [settle]
  simp [Leaves, results, Tryz.results24, go_sem, s4, s5, c0, c1, c2, c3, g4, hK]
end Go.Proofs.YtendielanacflaaGreat
