/- inflate: symbols by two codes: contract. inflate: a block by the fixed codes: contract. -/
import Derived.Test.YtlofoocgiomfbaaInfl
import Derived.Test.YtlofoocgiomfbaaM10b
import Derived.Test.YtlofoocgiomfbaaFix
namespace Go.Proofs.Ytlofoocgiomfbaa
open Go.RowKit Go.Shelf M01 M04 M10
set_option linter.unusedVariables false

theorem Only.ofBelow {T : Nat → Prop} {w w' : World} (h : Below w.heap.size w w') : Only T w w' := ⟨h.os, h.tape, h.output, h.size, fun b hb _ => h.block b hb⟩
theorem Strm.below {P : Nat → Prop} {w w' : World} {sp rp keep at_ : Nat} {bs out : List Nat} (h : Strm P w sp rp bs keep at_ out) (hb : Below w.heap.size w w') : Only P w w' ∧ Strm P w' sp rp bs keep at_ out := by
  have hlt := h.lt
  obtain ⟨oa, oc, h1, h2, h3, h4, h5, h6, h7, h8, h9, h10⟩ := h
  exact ⟨.ofBelow hb, oa, oc, (hb.block sp hlt).trans h1, h2.below hb, h3.below hb, h4, h5, h6, h7, fun b hb' => h8 b (Nat.le_trans hb.size hb'), h9, h10⟩
/-- the same, but for blocks that were made since -/
def Sub (P : Nat → Prop) (lo hi : Nat) (b : Nat) : Prop := P b ∧ ¬ (lo ≤ b ∧ b < hi)
theorem Strm.narrow {P : Nat → Prop} {w w' : World} {sp rp keep at_ : Nat} {bs out : List Nat} (h : Strm P w sp rp bs keep at_ out) (hb : Below w.heap.size w w') : Strm (Sub P w.heap.size w'.heap.size) w' sp rp bs keep at_ out := by
  have hlt := h.lt
  obtain ⟨oa, oc, h1, h2, h3, h4, h5, h6, h7, h8, h9, h10⟩ := h
  have hz := hb.size
  refine ⟨oa, oc, (hb.block sp hlt).trans h1, h2.below hb, h3.below hb, ⟨h4, by omega⟩, ⟨h5, by omega⟩, h6, fun g hg => ⟨⟨(h7 g hg).1, ?_⟩, (h7 g hg).2⟩, fun b hb' => ⟨h8 b (by omega), by omega⟩, h9, h10⟩
  rcases h2.form with ⟨rfl, _, _⟩ | ⟨g', rfl, _, hg'⟩
  · cases hg
  · cases hg; omega
theorem Strm.widen {P : Nat → Prop} {lo hi : Nat} {w : World} {sp rp keep at_ : Nat} {bs out : List Nat} (h : Strm (Sub P lo hi) w sp rp bs keep at_ out) : Strm P w sp rp bs keep at_ out := by
  obtain ⟨oa, oc, h1, h2, h3, h4, h5, h6, h7, h8, h9, h10⟩ := h
  exact ⟨oa, oc, h1, h2, h3, h4.1, h5.1, h6, fun g hg => ⟨(h7 g hg).1.1, (h7 g hg).2⟩, fun b hb => (h8 b hb).1, h9, h10⟩
theorem Only.widen {P : Nat → Prop} {lo hi : Nat} {w w' : World} (h : Only (Sub P lo hi) w w') : Only P w w' := h.mono (fun k _ hk => hk.1)
theorem Tb.widen {lo hi lo' hi' p : Nat} {w : World} {l : List Nat} (h : Tb lo hi w p l) (h1 : lo' ≤ lo) (h2 : hi ≤ hi') (h3 : hi' ≤ w.heap.size) : Tb lo' hi' w p l := by
  obtain ⟨a1, c1, a2, c2, mb, n, g1, g2, g3, g4, g5, g6, g7, g8, g9⟩ := h
  exact ⟨a1, c1, a2, c2, mb, n, g1, g2, g3, g4, h3, by omega, by omega, fun x hx => by have := g8 x hx; omega, fun x hx => by have := g9 x hx; omega⟩
theorem Tb.below {lo hi p : Nat} {w w' : World} {l : List Nat} (h : Tb lo hi w p l) (hb : Below w.heap.size w w') : Tb lo hi w' p l :=
  h.only (T := fun _ => False) (.ofBelow hb) (fun _ _ _ h => h)
theorem wordsE_may {l : List Nat} (h : (wordsE l).2 = 0) : May l ∧ weight l ≤ 2 ^ 20 := by
  unfold wordsE at h
  split at h
  · simp at h
  · split at h
    · simp at h
    · next h1 h2 => exact ⟨by simpa using h1, by omega⟩
/-- where a reader stands -/
def rdAt (A : World) (rp : Nat) : Nat := match A.cell? ⟨rp, 1, none⟩ with
  | some v => (intOf v).toNat
  | none => 0
theorem rdAt_eq {A : World} {rp at_ : Nat} {bs : List Nat} (h : Rd A rp bs at_) : rdAt A rp = at_ := by
  obtain ⟨a, cap, h1, _⟩ := h
  unfold rdAt
  simp only [(two_cells h1).2]
  simp [intOf]

/-- a stream in the midst of a call -/
def InS (Q : Nat → Prop) (w : World) (sp rp : Nat) (bs : List Nat) (keep : Nat) (A : World) (at_ : Nat) (out : List Nat) : Prop := Only Q w A ∧ Strm Q A sp rp bs keep at_ out
theorem InS.moved {Q : Nat → Prop} {w A B : World} {sp rp keep at_ at2 : Nat} {bs out : List Nat} (h : InS Q w sp rp bs keep A at_ out) (ho : Only (fun b => b = rp) A B) (hr : Rd B rp bs at2) (ha : at_ ≤ at2) : InS Q w sp rp bs keep B at2 out :=
  ⟨h.1.trans (h.2.moved ho hr ha).1, (h.2.moved ho hr ha).2⟩
theorem InS.rpOnly {Q : Nat → Prop} {w A B : World} {sp rp keep at_ : Nat} {bs out : List Nat} (h : InS Q w sp rp bs keep A at_ out) (ho : Only (fun b => b = rp) A B) : Only Q w B := by
  obtain ⟨h1, oa, oc, _, _, _, _, h5, _⟩ := h
  exact h1.trans (ho.mono (fun k _ e => by subst e; exact h5))
theorem InS.below {Q : Nat → Prop} {w A B : World} {sp rp keep at_ : Nat} {bs out : List Nat} (h : InS Q w sp rp bs keep A at_ out) (hb : Below A.heap.size A B) : InS Q w sp rp bs keep B at_ out :=
  ⟨h.1.trans (h.2.below hb).1, (h.2.below hb).2⟩
theorem InS.step {Q : Nat → Prop} {w A B : World} {sp rp keep at_ at2 : Nat} {bs out out2 : List Nat} (h : InS Q w sp rp bs keep A at_ out) (ho : Only Q A B) (hs : Strm Q B sp rp bs keep at2 out2) : InS Q w sp rp bs keep B at2 out2 := ⟨h.1.trans ho, hs⟩
theorem StepOut.fail {P : Nat → Prop} {sp rp keep : Nat} {bs : List Nat} {R : Option (Nat × List Nat)} {w w' : World} (hR : R = none) (ho : Only P w w') : StepOut P sp rp bs keep R w (.panicked formP) w' := by
  subst hR; exact ⟨ho, rfl⟩
theorem StepOut.done {P : Nat → Prop} {sp rp keep at2 : Nat} {bs out2 : List Nat} {R : Option (Nat × List Nat)} {w w' : World} (hR : R = some (at2, out2)) (h : InS P w sp rp bs keep w' at2 out2) : StepOut P sp rp bs keep R w (.returned (.tuple #[])) w' := by
  subst hR; exact ⟨h.1, rfl, h.2⟩

set_option maxRecDepth 100000 in
set_option maxHeartbeats 3200000 in
theorem strm_symbols {P : Nat → Prop} {w : World} {sp rp keep at_ : Nat} {bs out : List Nat} (h : Strm P w sp rp bs keep at_ out) (a b : Option Addr) (ca cb : Nat) (l1 l2 : List Nat) (ha : RowN .u8 w a ca l1) (hb : RowN .u8 w b cb l2) :
    Calls Try.prog 62 #[.pointer (some ⟨sp, 0, none⟩), .slice a l1.length ca, .slice b l2.length cb] w fun e w' => StepOut P sp rp bs keep (symsB l1 l2 bs at_ out) w e w' := by
  have H := Lib.hid h
  have HA := Lib.hid ha
  have HB := Lib.hid hb
  have HN1 := Lib.hid (prefix_new a ca l1 w ha)
  clear h ha hb
  unfold symsB
  by_cases e1 : (wordsE l1).2 = 0
  case neg =>
    rw [if_neg e1]
    simp only [if_neg e1] at HN1
    have hp : 0 < (wordsE l1).2 := by omega
    clear e1
    generalize (wordsE l1).2 = c at *
    go_enter Try.func62, Try.ntmps62
    go_wp2_with fail
    refine HN1.out.mono ?_
    rintro e w1 ⟨hb1, rfl⟩
    have HB1 := Lib.hid hb1
    clear HN1 hb1
    go_wp2_with fail
    refine (must_tab_no (.pointer none) c hp w1).mono ?_
    rintro e w2 ⟨rfl, rfl⟩
    exact ⟨rfl, .ofBelow HB1.out, rfl⟩
  rw [if_pos e1]
  simp only [if_pos e1] at HN1
  have HM1 := Lib.hid (wordsE_may e1)
  clear e1
  have HN2 := Lib.hid (fun w' (h : RowN .u8 w' b cb l2) => prefix_new b cb l2 w' h)
  by_cases e2 : (wordsE l2).2 = 0
  case neg =>
    rw [if_neg e2]
    simp only [if_neg e2] at HN2
    have hp : 0 < (wordsE l2).2 := by omega
    clear e2
    generalize (wordsE l2).2 = c at *
    go_enter Try.func62, Try.ntmps62
    go_wp2_with fail
    refine HN1.out.mono ?_
    rintro e w1 ⟨hb1, p1, rfl, ht1⟩
    have HB1 := Lib.hid hb1
    clear HN1 hb1 ht1
    go_wp2_with fail
    refine (must_tab_ok _ w1).mono ?_
    rintro e w1' ⟨rfl, rfl⟩
    go_wp2_with fail
    refine (HN2.out w1' (HB.out.below HB1.out)).mono ?_
    rintro e w2 ⟨hb2, rfl⟩
    have HB2 := Lib.hid hb2
    clear HN2 hb2
    go_wp2_with fail
    refine (must_tab_no (.pointer none) c hp w2).mono ?_
    rintro e w3 ⟨rfl, rfl⟩
    exact ⟨rfl, .ofBelow (HB1.out.trans (HB2.out.mono HB1.out.size)), rfl⟩
  rw [if_pos e2]
  simp only [if_pos e2] at HN2
  have HM2 := Lib.hid (wordsE_may e2)
  clear e2
  obtain ⟨R, hR0⟩ : ∃ R, R = symsL l1 l2 bs (8 * bs.length + 1) at_ out := ⟨_, rfl⟩
  rw [← hR0]
  replace hR0 := Lib.hid hR0
  go_enter Try.func62, Try.ntmps62
  go_wp2_with fail
  refine HN1.out.mono ?_
  rintro e w1 ⟨hb1, p1, rfl, ht1⟩
  have HB1 := Lib.hid hb1
  have HT1 := Lib.hid ht1
  clear HN1 hb1 ht1
  go_wp2_with fail
  refine (must_tab_ok _ w1).mono ?_
  rintro e w1' ⟨rfl, rfl⟩
  go_wp2_with fail
  refine (HN2.out w1' (HB.out.below HB1.out)).mono ?_
  rintro e w2 ⟨hb2, p2, rfl, ht2⟩
  have HB2 := Lib.hid (HB1.out.trans (hb2.mono HB1.out.size))
  have HT1' := Lib.hid ((HT1.out.below hb2).widen (Nat.le_refl _) hb2.size (Nat.le_refl _))
  have HT2 := Lib.hid (ht2.widen HB1.out.size (Nat.le_refl _) (Nat.le_refl _))
  clear HN2 hb2 ht2 HT1 HB1
  go_wp2_with fail
  refine (must_tab_ok _ w2).mono ?_
  rintro e w2' ⟨rfl, rfl⟩
  have HS := Lib.hid (H.out.narrow HB2.out)
  have HSZ := Lib.hid (show rp < w.heap.size from H.out.rd.lt)
  have HPN := Lib.hid (fun (A : World) (e : Ending) (h : StepOut (Sub P w.heap.size w2'.heap.size) sp rp bs keep R w2' e A) => (show StepOut P sp rp bs keep R w e A from by
    refine ⟨(Only.ofBelow HB2.out).trans h.1.widen, ?_⟩
    have h2 := h.2
    cases R with
    | none => exact h2
    | some r => exact ⟨h2.1, h2.2.widen⟩))
  clear H HB2 HA HB
  generalize hQ : Sub P w.heap.size w2'.heap.size = Q at *
  have HQ : Hid (∀ b, w.heap.size ≤ b → b < w2'.heap.size → ¬ Q b) := fun b h1 h2 h3 => by rw [← hQ] at h3; exact h3.2 ⟨h1, h2⟩
  generalize w.heap.size = lo at *
  generalize hhi : w2'.heap.size = hi at *
  clear hQ
  go_wp2_with fail
  go_loopw [8, 9, 10, 11, 12] (fun _ _ _ _ _ A => ∃ f at2 out2, InS Q w2' sp rp bs keep A at2 out2 ∧ 8 * bs.length + 1 ≤ f + at2 ∧ R = symsL l1 l2 bs f at2 out2) (fun _ _ _ _ _ A => 8 * bs.length - rdAt A rp)
  case atStart => exact ⟨8 * bs.length + 1, at_, out, ⟨Only.refl _ _, HS.out⟩, Nat.le_add_right _ _, hR0.out⟩
  case round =>
    clear HS hR0
    obtain ⟨f, at2, out2, hi2, hf, hr⟩ := hrel
    obtain ⟨c0, _, _⟩ := hi2.2.cells
    have hb2 := hi2.2.bound
    obtain ⟨f, rfl⟩ : ∃ g, f = g + 1 := ⟨f - 1, by omega⟩
    have HRA := Lib.hid (rdAt_eq hi2.2.rd)
    have HG1 := Lib.hid (prefix_getLow wr lo hi p1 rp l1 bs at2 HM1.out.1.1 (HT1'.out.only hi2.1 HQ.out) hi2.2.rd (.inl HSZ.out))
    have HI := Lib.hid hi2
    have HB2 := Lib.hid hb2
    have HF := Lib.hid hf
    rw [symsL_succ] at hr
    unfold symsStep at hr
    have HSS := Lib.hid (fun s a h => sym_some (l := l1) (bs := bs) (at_ := at2) (s := s) (at2 := a) HM1.out.1.1 h)
    clear hi2 hb2 hf
    generalize hsy : sym l1 bs at2 = s1 at *
    rcases s1 with _ | ⟨c, a1⟩
    · have HR : Hid (R = none) := hr
      clear hr hsy HSS
      go_wp2_with fail
      refine HG1.out.mono ?_
      rintro e w3 ⟨ho3, hs3⟩
      obtain rfl : e = _ := hs3
      have HO3 := Lib.hid (HI.out.rpOnly ho3)
      clear ho3 HG1 HI
      go_wp2_with fail
      refine (must_int_no (.int .i64 0) 2 (by decide) w3).mono ?_
      rintro e w4 ⟨rfl, rfl⟩
      exact ⟨rfl, HPN.out _ _ (.fail HR.out HO3.out)⟩
    · have hlt := (HSS.out c a1 rfl).2.2
      have hbd : out2.length + 258 ≤ 258 * a1 := by have := HB2.out; omega
      clear hsy HSS
      replace hr := Lib.hid hr
      go_wp2_with fail
      refine HG1.out.mono ?_
      rintro e w3 ⟨ho3, hs3⟩
      obtain ⟨rfl, hrd3⟩ : e = _ ∧ _ := hs3
      have HI3 := Lib.hid (HI.out.moved ho3 hrd3 (by omega))
      clear ho3 hrd3 HG1 HI
      go_wp2_with fail
      refine (must_int_ok _ w3).mono ?_
      rintro e w3' ⟨rfl, rfl⟩
      have h3 := HI3.out.2.bound
      have h3a : a1 ≤ 8 * bs.length := h3.2.1
      have h3b : bs.length ≤ 100000000 := h3.2.2
      clear h3
      by_cases h256 : c < 256
      · have HR : Hid (R = symsL l1 l2 bs f a1 (out2 ++ [c])) := by
          unfold Hid
          have := hr.out
          simpa [h256] using this
        have HP := Lib.hid (strm_put HI3.out.2 c (by omega))
        have t1 : decide ((c : Int) < 256) = true := by simp; omega
        clear hr
        go_wp2_with fail
        refine HP.out.mono ?_
        rintro e w4 ⟨rfl, ho4, hs4⟩
        have HI4 := Lib.hid (HI3.out.step ho4 hs4)
        clear ho4 hs4 HI3
        go_wp2
        go_roundw
        case rel => exact ⟨f, a1, out2 ++ [c], HI4.out, by have := HF.out; omega, HR.out⟩
        case measure => rw [HRA.out, rdAt_eq HI4.out.2.rd]; omega
      have t1 : decide ((c : Int) < 256) = false := by simp; omega
      by_cases h6 : c = 256
      · have HR : Hid (R = some (a1, out2)) := by
          unfold Hid
          have := hr.out
          simpa [h256, h6] using this
        have t2 : ((c : Int) == 256) = true := by simp; omega
        clear hr h256 h6
        go_wp2
        go_end0
        exact HPN.out _ _ (.done HR.out HI3.out)
      have t2 : ((c : Int) == 256) = false := by simp; omega
      have hr2 := hr.out
      simp only [if_neg h256, if_neg h6] at hr2
      have hbl := loS_bound c
      have HL := Lib.hid (fun A => token_lengthOf (c : Int) A)
      clear hr h256 h6
      generalize loS (c : Int) = lo3 at *
      obtain ⟨ll, ln, le⟩ := lo3
      simp only [] at hr2 hbl HL
      by_cases hle : le = 0
      case neg =>
        have HR : Hid (R = none) := by unfold Hid; simpa [hle] using hr2
        have hlp : 0 < le := by omega
        clear hr2 hbl hle
        go_wp2_with fail
        refine (HL.out _).mono ?_
        rintro e w4 ⟨rfl, hb4⟩
        have HI4 := Lib.hid (HI3.out.below hb4)
        clear hb4 HI3 HL
        go_wp2_with fail
        refine (must_int_no (.int .i64 0) le hlp w4).mono ?_
        rintro e w5 ⟨rfl, rfl⟩
        exact ⟨rfl, HPN.out _ _ (.fail HR.out HI4.out.1)⟩
      subst hle
      obtain ⟨hln, hll⟩ := hbl rfl
      simp only [ne_eq, not_true_eq_false, if_false] at hr2
      clear hbl
      have HR2 := Lib.hid hr2
      clear hr2
      go_wp2_with fail
      refine (HL.out _).mono ?_
      rintro e w4 ⟨rfl, hb4⟩
      have HI4 := Lib.hid (HI3.out.below hb4)
      clear hb4 HI3 HL
      go_wp2_with fail
      refine (must_int_ok _ w4).mono ?_
      rintro e w4' ⟨rfl, rfl⟩
      go_wp2_with fail
      by_cases h5 : a1 + ln ≤ 8 * bs.length
      case neg =>
        have HR : Hid (R = none) := by
          have := HR2.out
          unfold rdN at this
          rwa [if_neg h5] at this
        have HBT := Lib.hid (strm_bits_no HI4.out.2 ln (by omega) (by omega))
        clear HR2 h5
        refine HBT.out.mono ?_
        rintro e w5 ⟨rfl, ho5⟩
        exact ⟨rfl, HPN.out _ _ (.fail HR.out (HI4.out.1.trans ho5))⟩
      have HBT := Lib.hid (strm_bits_ok HI4.out.2 ln (by omega) h5)
      have hr3 := HR2.out
      unfold rdN at hr3
      simp only [if_pos h5] at hr3
      have hx := num_lt bs a1 ln
      obtain ⟨x, hxe⟩ : ∃ x, x = num bs a1 ln := ⟨_, rfl⟩
      rw [← hxe] at hr3 hx HBT
      have hlen : ll + x ≤ 258 := by omega
      obtain ⟨len, hlene⟩ : ∃ len, len = ll + x := ⟨_, rfl⟩
      rw [← hlene] at hr3 hlen
      have q1 : (ll : Int) + (x : Int) = (len : Int) := by omega
      have ha2 : a1 ≤ a1 + ln := by omega
      generalize a1 + ln = a2 at *
      replace hr3 := Lib.hid hr3
      clear HR2 h5 hxe hlene hx hll
      refine HBT.out.mono ?_
      rintro e w5 ⟨rfl, ho5, hs5⟩
      have HI5 := Lib.hid (HI4.out.step ho5 hs5)
      clear ho5 hs5 HBT HI4
      obtain ⟨c0, _, _⟩ := HI5.out.2.cells
      go_wp2_with fail
      have HG2 := Lib.hid (prefix_getLow w5 lo hi p2 rp l2 bs a2 HM2.out.1.1 (HT2.out.only HI5.out.1 HQ.out) HI5.out.2.rd (.inl HSZ.out))
      have HSS2 := Lib.hid (fun s a h => sym_some (l := l2) (bs := bs) (at_ := a2) (s := s) (at2 := a) HM2.out.1.1 h)
      have hr4 := hr3.out
      clear hr3
      generalize hsy2 : sym l2 bs a2 = s2 at *
      rcases s2 with _ | ⟨d, a3⟩
      · have HR : Hid (R = none) := hr4
        clear hr4 hsy2 HSS2
        refine HG2.out.mono ?_
        rintro e w6 ⟨ho6, hs6⟩
        obtain rfl : e = _ := hs6
        have HO6 := Lib.hid (HI5.out.rpOnly ho6)
        clear ho6 HG2 HI5
        go_wp2_with fail
        refine (must_int_no (.int .i64 0) 2 (by decide) w6).mono ?_
        rintro e w7 ⟨rfl, rfl⟩
        exact ⟨rfl, HPN.out _ _ (.fail HR.out HO6.out)⟩
      have hlt2 := (HSS2.out d a3 rfl).2.2
      clear hsy2 HSS2
      replace hr4 := Lib.hid hr4
      refine HG2.out.mono ?_
      rintro e w6 ⟨ho6, hs6⟩
      obtain ⟨rfl, hrd6⟩ : e = _ ∧ _ := hs6
      have HI6 := Lib.hid (HI5.out.moved ho6 hrd6 (by omega))
      clear ho6 hrd6 HG2 HI5
      go_wp2_with fail
      refine (must_int_ok _ w6).mono ?_
      rintro e w6' ⟨rfl, rfl⟩
      have hbl := doS_bound d
      have HL := Lib.hid (fun A => token_distanceOf (d : Int) A)
      have hr5 := hr4.out
      clear hr4
      generalize doS (d : Int) = do3 at *
      obtain ⟨dl, dn, de⟩ := do3
      simp only [] at hr5 hbl HL
      by_cases hde : de = 0
      case neg =>
        have HR : Hid (R = none) := by unfold Hid; simpa [hde] using hr5
        have hdp : 0 < de := by omega
        clear hr5 hbl hde
        go_wp2_with fail
        refine (HL.out _).mono ?_
        rintro e w7 ⟨rfl, hb7⟩
        have HI7 := Lib.hid (HI6.out.below hb7)
        clear hb7 HI6 HL
        go_wp2_with fail
        refine (must_int_no (.int .i64 0) de hdp w7).mono ?_
        rintro e w8 ⟨rfl, rfl⟩
        exact ⟨rfl, HPN.out _ _ (.fail HR.out HI7.out.1)⟩
      subst hde
      obtain ⟨hdn, hdl, hdl2⟩ := hbl rfl
      simp only [not_true_eq_false, if_false] at hr5
      clear hbl
      have HR5 := Lib.hid hr5
      clear hr5
      go_wp2_with fail
      refine (HL.out _).mono ?_
      rintro e w7 ⟨rfl, hb7⟩
      have HI7 := Lib.hid (HI6.out.below hb7)
      clear hb7 HI6 HL
      go_wp2_with fail
      refine (must_int_ok _ w7).mono ?_
      rintro e w7' ⟨rfl, rfl⟩
      go_wp2_with fail
      by_cases h7 : a3 + dn ≤ 8 * bs.length
      case neg =>
        have HR : Hid (R = none) := by
          have := HR5.out
          unfold rdN at this
          rwa [if_neg h7] at this
        have HBT := Lib.hid (strm_bits_no HI7.out.2 dn (by omega) (by omega))
        clear HR5 h7
        refine HBT.out.mono ?_
        rintro e w8 ⟨rfl, ho8⟩
        exact ⟨rfl, HPN.out _ _ (.fail HR.out (HI7.out.1.trans ho8))⟩
      have HBT := Lib.hid (strm_bits_ok HI7.out.2 dn (by omega) h7)
      have hr6 := HR5.out
      unfold rdN at hr6
      simp only [if_pos h7] at hr6
      have hy := num_lt bs a3 dn
      have hy13 : 2 ^ dn ≤ 2 ^ 13 := Nat.pow_le_pow_right (by decide) hdn
      obtain ⟨y, hye⟩ : ∃ y, y = num bs a3 dn := ⟨_, rfl⟩
      rw [← hye] at hr6 hy HBT
      have hfar : dl + y ≤ 50000 := by omega
      have hfar1 : 1 ≤ dl + y := by omega
      obtain ⟨far, hfare⟩ : ∃ far, far = dl + y := ⟨_, rfl⟩
      rw [← hfare] at hr6 hfar hfar1
      have q2 : (dl : Int) + (y : Int) = (far : Int) := by omega
      have ha4 : a3 ≤ a3 + dn := by omega
      generalize a3 + dn = a4 at *
      replace hr6 := Lib.hid hr6
      clear HR5 h7 hye hfare hy hy13 hdl hdl2
      refine HBT.out.mono ?_
      rintro e w8 ⟨rfl, ho8, hs8⟩
      have HI8 := Lib.hid (HI7.out.step ho8 hs8)
      clear ho8 hs8 HBT HI7
      go_wp2_with fail
      by_cases hfo : out2.length < far
      · have HR : Hid (R = none) := by
          have := hr6.out
          rwa [if_pos hfo] at this
        refine (strm_repeat_no HI8.out.2 len far hfo).mono ?_
        rintro e w9 ⟨rfl, rfl⟩
        exact ⟨rfl, HPN.out _ _ (.fail HR.out HI8.out.1)⟩
      · have HR : Hid (R = symsL l1 l2 bs f a4 (repOut far out2 len)) := by
          have := hr6.out
          rwa [if_neg hfo] at this
        refine (strm_repeat HI8.out.2 len far (by omega) hfar1 hlen (by omega)).mono ?_
        rintro e w9 ⟨rfl, ho9, hs9⟩
        have HI9 := Lib.hid (HI8.out.step ho9 hs9)
        clear ho9 hs9 HI8 hr6
        go_wp2
        go_roundw
        case rel => exact ⟨f, a4, repOut far out2 len, HI9.out, by have := HF.out; omega, HR.out⟩
        case measure => rw [HRA.out, rdAt_eq HI9.out.2.rd]; have := HI9.out.2.bound; omega
end Go.Proofs.Ytlofoocgiomfbaa

namespace Go.Proofs.Ytlofoocgiomfbaa
open Go.RowKit Go.Shelf M01 M04 M10
set_option linter.unusedVariables false

def fixD : List Nat := List.replicate 32 5
theorem infl_many (n k : Nat) (h1 : 1 ≤ n) (h2 : n ≤ 1000) (w : World) :
    Calls Try.prog 61 #[.int .i64 n, .int .u8 k] w fun e w' => ∃ g, e = .returned (.slice (some ⟨g, 0, none⟩) n n) ∧ RowN .u8 w' (some ⟨g, 0, none⟩) n (List.replicate n k) ∧ Below w.heap.size w w' := by
  go_enter Try.func61, Try.ntmps61
  go_wp2_with fail
  refine (slices_repeat n k _ h1 h2 _ ?h1 ?h2).mono ?_
  case h1 => exact cell_of_one (World.alloc_heap_new _ _)
  case h2 => simp
  rintro e w1 ⟨g, rfl, hr, hb⟩
  have HR := Lib.hid hr
  have HB := Lib.hid hb
  clear hr hb
  go_wp2
  go_ret
  exact ⟨g, rfl, HR.out, (box_below' _ _).trans (HB.out.mono (by simp))⟩
theorem StepOut.behind {P : Nat → Prop} {sp rp keep : Nat} {bs : List Nat} {R : Option (Nat × List Nat)} {w w1 w' : World} {e : Ending} (hb : Below w.heap.size w w1) (h : StepOut P sp rp bs keep R w1 e w') : StepOut P sp rp bs keep R w e w' :=
  ⟨(Only.ofBelow hb).trans h.1, h.2⟩
/-- a method's end, where another one's is its own -/
theorem StepOut.post {P : Nat → Prop} {sp rp keep : Nat} {bs : List Nat} {R : Option (Nat × List Nat)} {w w' : World} {e : Ending} (h : StepOut P sp rp bs keep R w e w') : (e = .returned (.tuple #[]) ∨ e = .panicked formP) := by
  have h2 := h.2
  cases R with
  | none => exact .inr h2
  | some r => exact .inl h2.1

set_option maxRecDepth 100000 in
set_option maxHeartbeats 1600000 in
theorem strm_fixed {P : Nat → Prop} {w : World} {sp rp keep at_ : Nat} {bs out : List Nat} (h : Strm P w sp rp bs keep at_ out) :
    Calls Try.prog 37 #[.pointer (some ⟨sp, 0, none⟩)] w fun e w' => StepOut P sp rp bs keep (symsB fixF fixD bs at_ out) w e w' := by
  have H := Lib.hid h
  clear h
  generalize hR : symsB fixF fixD bs at_ out = R
  have HRR := Lib.hid hR
  clear hR
  go_enter Try.func37, Try.ntmps37
  go_wp2_with fail
  refine (infl_many 144 8 (by decide) (by decide) _).mono ?_
  rintro e w1 ⟨g1, rfl, r1, b1⟩
  go_wp2_with fail
  refine (infl_many 112 9 (by decide) (by decide) _).mono ?_
  rintro e w2 ⟨g2, rfl, r2, b2⟩
  go_wp2_with fail
  refine (infl_many 24 7 (by decide) (by decide) _).mono ?_
  rintro e w3 ⟨g3, rfl, r3, b3⟩
  go_wp2_with fail
  refine (infl_many 8 8 (by decide) (by decide) _).mono ?_
  rintro e w4 ⟨g4, rfl, r4, b4⟩
  have R1 := ((r1.below b2).below b3).below b4
  have R2 := (r2.below b3).below b4
  have R3 := r3.below b4
  have B := ((b1.trans (b2.mono b1.size)).trans (b3.mono (b1.trans (b2.mono b1.size)).size)).trans (b4.mono ((b1.trans (b2.mono b1.size)).trans (b3.mono (b1.trans (b2.mono b1.size)).size)).size)
  have HR1 := Lib.hid R1
  have HR2 := Lib.hid R2
  have HR3 := Lib.hid R3
  have HR4 := Lib.hid r4
  have HB := Lib.hid B
  clear r1 r2 r3 r4 b1 b2 b3 b4 R1 R2 R3 B
  go_wp2_with fail
  refine (concat4 g1 g2 g3 g4 w4 HR1.out HR2.out HR3.out HR4.out).mono ?_
  rintro e w5 ⟨a5, c5, rfl, r5, b5⟩
  have HR5 := Lib.hid r5
  have HB5 := Lib.hid (HB.out.trans (b5.mono HB.out.size))
  clear r5 b5 HR1 HR2 HR3 HR4 HB
  go_wp2_with fail
  refine (infl_many 32 5 (by decide) (by decide) _).mono ?_
  rintro e w6 ⟨g6, rfl, r6, b6⟩
  have HR6 := Lib.hid (show RowN .u8 w6 (some ⟨g6, 0, none⟩) 32 fixD from r6)
  have HR56 := Lib.hid (HR5.out.below b6)
  have HB6 := Lib.hid (HB5.out.trans (b6.mono HB5.out.size))
  clear r6 b6 HR5 HB5
  go_wp2_with fail
  refine (strm_symbols (H.out.below HB6.out).2 a5 (some ⟨g6, 0, none⟩) c5 32 fixF fixD HR56.out HR6.out).mono ?_
  rw [HRR.out]
  intro e w7 hs
  have HS := Lib.hid (hs.behind HB6.out)
  rcases hs.post with rfl | rfl
  · clear hs
    go_wp2
    go_end0
    exact HS.out
  · exact ⟨rfl, HS.out⟩
end Go.Proofs.Ytlofoocgiomfbaa
