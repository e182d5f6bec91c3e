/- The reference of layer 10: fixed, block: contracts. The reference of layer 10: Inflate: contract. -/
import Derived.Test.YtlofoocgiomfbaaR10d
import Derived.Test.YtlofoocgiomfbaaLFix
import Derived.Test.YtlofoocgiomfbaaAhead
namespace Go.Proofs.Ytlofoocgiomfbaa
open Go.RowKit Go.Shelf M01 M04 M07 M08 M09 M10
set_option linter.unusedVariables false

theorem weight_ones (l : List Nat) (h : ∀ x ∈ l, x ≤ 1) : weight l = 2 ^ 19 * l.sum := by
  induction l with
  | nil => rfl
  | cons a l ih =>
    have h1 := h a (by simp)
    have h2 := ih (fun x hx => h x (by simp [hx]))
    rcases (show a = 0 ∨ a = 1 by omega) with rfl | rfl
    · simp [weight, wt] at *
      omega
    · simp [weight, wt] at *
      omega
theorem short_may {l : List Nat} (h1 : long l = false) (h2 : l.length ≤ 300) : May l := by
  refine ⟨fun x hx => ?_, by omega⟩
  unfold long at h1
  rw [List.any_eq_false] at h1
  have := h1 x hx
  simp at this
  omega
theorem words_of {l : List Nat} (h1 : long l = false) (h2 : l.length ≤ 300) (h : (clsE l).1 = 2 ∨ (clsE l).1 = 0 ∨ singleB l = true) : (wordsE l).2 = 0 := by
  have hm := short_may h1 h2
  have hw : ¬ 2 ^ 20 < weight l := by
    rcases h with h | h | h
    · unfold clsE at h
      rw [if_pos hm] at h
      unfold cls at h
      intro hc
      simp only at h
      rw [if_neg (by omega), if_neg (by omega), if_neg (by omega)] at h
      omega
    · unfold clsE at h
      rw [if_pos hm] at h
      unfold cls at h
      intro hc
      simp only at h
      rw [if_neg (by omega), if_neg (by omega), if_neg (by omega)] at h
      omega
    · unfold singleB at h
      rw [decide_eq_true_eq] at h
      rw [weight_ones l h.1, h.2]
      omega
  unfold wordsE
  rw [if_neg (by simpa using hm), if_neg hw]
theorem hdr_words {bs f o : List Nat} {at_ a2 : Nat} (h : hdr bs at_ = some ((f, o), a2)) : (wordsE f).2 = 0 ∧ (wordsE o).2 = 0 := by
  have hm : mayH f o = true := by
    unfold hdr at h
    split at h
    · cases h
    · unfold hdrB at h
      split at h
      · cases h
      · split at h
        · cases h
        · unfold hdrE at h
          split at h
          · cases h
          · split at h
            · cases h
            · split at h
              · rename_i h1
                simp only [Option.some.injEq, Prod.mk.injEq] at h
                obtain ⟨⟨rfl, rfl⟩, _⟩ := h
                exact h1
              · cases h
  unfold mayH at hm
  simp only [Bool.and_eq_true, Bool.or_eq_true, decide_eq_true_eq, Bool.not_eq_true'] at hm
  obtain ⟨⟨⟨⟨⟨⟨⟨⟨h1, h2⟩, h3⟩, h4⟩, h5⟩, h6⟩, h7⟩, h8⟩, h9⟩ := hm
  exact ⟨words_of h6 (by omega) (by rcases h8 with h | h; exact .inl h; exact .inr (.inr h)), words_of h7 (by omega) (by rcases h9 with (h | h) | h; exact .inl h; exact .inr (.inl h); exact .inr (.inr h))⟩
theorem fix_words : (wordsE fixF).2 = 0 ∧ (wordsE fixD).2 = 0 := by decide +kernel

set_option maxRecDepth 100000 in
set_option maxHeartbeats 1600000 in
theorem ref10_fixed (w : World) :
    Calls Try.prog 71 #[] w fun e w' => ∃ g, e = .returned (.slice (some ⟨g, 0, none⟩) 288 288) ∧ RowN .u8 w' (some ⟨g, 0, none⟩) 288 fixF ∧ Below w.heap.size w w' := by
  go_enter Try.func71, Try.ntmps71
  go_wp2_with (first | (at_make; refine makeN (n := 288) et_u8 rfl _ _ rfl w.heap.size rfl rfl (by decide) (by decide) (Nat.le_refl _) ?_; intro w1 hown1 hg1))
  have HB0 := Lib.hid (Below.of_grown hg1 (Nat.le_refl _) (fun k e => by cases e))
  obtain ⟨g1, hg⟩ : ∃ g1, w.heap.size = g1 := ⟨_, rfl⟩
  rw [← partL_zero fixN 288] at hown1
  have HO := Lib.hid hown1
  clear hg1 hown1
  simp only [hg]
  rw [hg] at HO
  have HG1 := Lib.hid hg
  clear hg
  go_loopw [2] (fun i A => ∃ k : Nat, k ≤ 288 ∧ i = .int .i64 k ∧ OwnN 5 .u8 A g1 (some ⟨g1, 0, none⟩) 288 (partL fixN 288 k) ∧ Below w.heap.size w A) (fun i _ => 288 - (intOf i).toNat)
  case atStart => exact ⟨0, by omega, by trivial, HO.out, HB0.out⟩
  case round =>
    clear HO HB0
    obtain ⟨k, hk, rfl, ho, hb⟩ := hrel
    have HB := Lib.hid hb
    have HBW := Lib.hid (show ∀ (A : World) v, Below w.heap.size w A → Below w.heap.size w (A.setCell ⟨g1, k, none⟩ v) from fun A v h => h.setCell (by show w.heap.size ≤ g1; have := HG1.out; omega) _)
    clear hb
    by_cases hlt : k < 288
    · obtain ⟨⟨v, f1⟩, f2⟩ := part_at ho k hlt
      have b0 : decide ((k : Int) < 288) = true := by simp; omega
      have HO1 := Lib.hid ho
      clear ho
      rcases (show k < 144 ∨ (144 ≤ k ∧ k < 256) ∨ (256 ≤ k ∧ k < 280) ∨ 280 ≤ k by omega) with hc | hc | hc | hc
      · have hf : fixN k = 8 := by
          unfold fixN
          repeat' split
          all_goals omega
        have H1 := Lib.hid (part_put HO1.out hlt)
        rw [hf] at H1
        have b1 : decide ((143 : Int) < (k : Int)) = false := by simp; omega
        have b2 : decide ((255 : Int) < (k : Int)) = false := by simp; omega
        clear hf hc HO1
        go_wp2
        go_roundw
        case rel => exact ⟨k + 1, by omega, by go_num, H1.out, HBW.out _ _ HB.out⟩
        case measure => simp [intOf]; omega
      · have hf : fixN k = 9 := by
          unfold fixN
          repeat' split
          all_goals omega
        have H1 := Lib.hid (part_put2 (x := 8) HO1.out hlt)
        rw [hf] at H1
        have b1 : decide ((143 : Int) < (k : Int)) = true := by simp; omega
        have b2 : decide ((k : Int) < 256) = true := by simp; omega
        have b3 : decide ((255 : Int) < (k : Int)) = false := by simp; omega
        clear hf hc HO1
        go_wp2
        go_roundw
        case rel => exact ⟨k + 1, by omega, by go_num, H1.out, HBW.out _ _ (HBW.out _ _ HB.out)⟩
        case measure => simp [intOf]; omega
      · have hf : fixN k = 7 := by
          unfold fixN
          repeat' split
          all_goals omega
        have H1 := Lib.hid (part_put2 (x := 8) HO1.out hlt)
        rw [hf] at H1
        have b1 : decide ((143 : Int) < (k : Int)) = true := by simp; omega
        have b2 : decide ((k : Int) < 256) = false := by simp; omega
        have b3 : decide ((255 : Int) < (k : Int)) = true := by simp; omega
        have b4 : decide ((k : Int) < 280) = true := by simp; omega
        clear hf hc HO1
        go_wp2
        go_roundw
        case rel => exact ⟨k + 1, by omega, by go_num, H1.out, HBW.out _ _ (HBW.out _ _ HB.out)⟩
        case measure => simp [intOf]; omega
      · have hf : fixN k = 8 := by
          unfold fixN
          repeat' split
          all_goals omega
        have H1 := Lib.hid (part_put HO1.out hlt)
        rw [hf] at H1
        have b1 : decide ((143 : Int) < (k : Int)) = true := by simp; omega
        have b2 : decide ((k : Int) < 256) = false := by simp; omega
        have b3 : decide ((255 : Int) < (k : Int)) = true := by simp; omega
        have b4 : decide ((k : Int) < 280) = false := by simp; omega
        clear hf hc HO1
        go_wp2
        go_roundw
        case rel => exact ⟨k + 1, by omega, by go_num, H1.out, HBW.out _ _ HB.out⟩
        case measure => simp [intOf]; omega
    · obtain rfl : k = 288 := by omega
      have HO1 := Lib.hid ho
      clear ho
      go_wp2
      go_ret
      exact ⟨g1, rfl, by have := HO1.out.row; rwa [fix10F] at this, HB.out⟩

/-- what a block comes to -/
def BlkR (bs : List Nat) (at_ : Nat) (out : List Nat) : Option (Nat × List Nat) := if at_ + 1 + 2 ≤ 8 * bs.length then blkK (num bs (at_ + 1) 2) bs (at_ + 1 + 2) out else none
def BlkOut (P : Nat → Prop) (sp : Nat) (bs : List Nat) (keep at_ : Nat) (out : List Nat) (w : World) (e : Ending) (w' : World) : Prop :=
  ∃ b, e = .returned (.bool b) ∧ ROut P sp bs keep (BlkR bs at_ out) w w' ∧ ((BlkR bs at_ out).isSome = true → b = decide (num bs at_ 1 = 1))
set_option maxRecDepth 100000 in
set_option maxHeartbeats 3200000 in
theorem rst_block {P : Nat → Prop} {w : World} {sp keep at_ : Nat} {bs out : List Nat} (h : RSt P w sp bs keep at_ out false) (hl : out.length ≤ 258 * at_) :
    Calls Try.prog 44 #[.pointer (some ⟨sp, 0, none⟩)] w fun e w' => BlkOut P sp bs keep at_ out w e w' := by
  have HN1 := Lib.hid (rst_number h 1 (by decide))
  have hv1 := nVal_lt bs at_ 1 false
  have hnm := h.nums
  clear h
  have HQ : Hid ((nFit bs (nAt bs at_ 1 false) 2 (!nFit bs at_ 1 false) = true → BlkR bs at_ out = blkK (nVal bs (nAt bs at_ 1 false) 2 (!nFit bs at_ 1 false)) bs (nAt bs (nAt bs at_ 1 false) 2 (!nFit bs at_ 1 false)) out ∧ nVal bs at_ 1 false = num bs at_ 1 ∧ at_ ≤ nAt bs (nAt bs at_ 1 false) 2 (!nFit bs at_ 1 false)) ∧
      (nFit bs (nAt bs at_ 1 false) 2 (!nFit bs at_ 1 false) = false → BlkR bs at_ out = none ∧ nVal bs (nAt bs at_ 1 false) 2 (!nFit bs at_ 1 false) = 0)) := by
    unfold Hid BlkR nAt nVal nFit
    by_cases h1 : at_ + 1 ≤ 8 * bs.length
    · by_cases h2 : at_ + 1 + 2 ≤ 8 * bs.length
      · simp [h1, h2]; omega
      · simp [h1, h2]
    · simp [h1, show ¬ at_ + 1 + 2 ≤ 8 * bs.length by omega]
  have HD : Hid ((BlkR bs at_ out).isSome = true → nFit bs (nAt bs at_ 1 false) 2 (!nFit bs at_ 1 false) = true) := by
    unfold Hid
    intro h
    cases hf : nFit bs (nAt bs at_ 1 false) 2 (!nFit bs at_ 1 false) with
    | true => rfl
    | false => rw [(HQ.out.2 hf).1] at h; cases h
  have HL0 : Hid (nFit bs (nAt bs at_ 1 false) 2 (!nFit bs at_ 1 false) = true → 0 < bs.length) := by
    unfold Hid nFit
    intro h
    simp only [Bool.and_eq_true, decide_eq_true_eq] at h
    omega
  unfold BlkOut
  obtain ⟨R, hR⟩ : ∃ R, BlkR bs at_ out = R := ⟨_, rfl⟩
  rw [hR] at HQ HD ⊢
  clear hR
  have ha1 := (nAt_le bs at_ 1 false hnm.1).2
  have HN2 := Lib.hid (fun w1 (h : RSt P w1 sp bs keep (nAt bs at_ 1 false) out (!nFit bs at_ 1 false)) => rst_number h 2 (by decide))
  have hv2 := nVal_lt bs (nAt bs at_ 1 false) 2 (!nFit bs at_ 1 false)
  have ha2 := (nAt_le bs (nAt bs at_ 1 false) 2 (!nFit bs at_ 1 false) ha1).2
  generalize nVal bs (nAt bs at_ 1 false) 2 (!nFit bs at_ 1 false) = v2 at *
  generalize nAt bs (nAt bs at_ 1 false) 2 (!nFit bs at_ 1 false) = a2 at *
  generalize nFit bs (nAt bs at_ 1 false) 2 (!nFit bs at_ 1 false) = f2 at *
  generalize nVal bs at_ 1 false = v1 at *
  generalize nAt bs at_ 1 false = a1 at *
  generalize nFit bs at_ 1 false = f1 at *
  have HB : Hid (R.isSome = true → ((v1 : Int) == 1) = decide (num bs at_ 1 = 1)) := by
    unfold Hid
    intro h
    rw [← (HQ.out.1 (HD.out h)).2.1]
    by_cases e : v1 = 1
    · subst e; rfl
    · rw [decide_eq_false e]; exact beq_eq_false_iff_ne.2 (by omega)
  clear HD
  go_enter Try.func44, Try.ntmps44
  go_wp2_with fail
  refine HN1.out.mono ?_
  rintro e w1 ⟨rfl, ho1, hs1⟩
  have HO1 := Lib.hid ho1
  replace HN2 := Lib.hid (HN2.out w1 hs1)
  clear ho1 hs1 HN1
  obtain ⟨lb, hlb⟩ : ∃ lb, ((v1 : Int) == 1) = lb := ⟨_, rfl⟩
  rw [hlb] at HB
  go_wp2_with fail
  clear hlb
  refine HN2.out.mono ?_
  rintro e w2 ⟨rfl, ho2, hs2⟩
  have HO2 := Lib.hid (HO1.out.trans ho2)
  have HS2 := Lib.hid hs2
  clear ho2 hs2 HN2 HO1
  cases f2 with
  | false =>
    obtain ⟨hr, rfl⟩ := HQ.out.2 rfl
    have HST := Lib.hid (rst_stored (bad := true) HS2.out (fun h => by cases h))
    have HR := Lib.hid hr
    clear hr HQ
    go_wp2_with fail
    refine HST.out.mono ?_
    rintro e w3 ⟨rfl, hr3⟩
    have HR3 := Lib.hid hr3
    clear hr3 HST
    go_wp2_with fail
    go_ret
    exact ⟨lb, rfl, by have h := HR3.out.from HO2.out; rw [HR.out]; simpa using h, HB.out⟩
  | true =>
    obtain ⟨hr, _, hle⟩ := HQ.out.1 rfl
    have h0 := HL0.out rfl
    have hl2 : out.length ≤ 258 * a2 := by omega
    have HR := Lib.hid hr
    replace HS2 := Lib.hid (show RSt P w2 sp bs keep a2 out false from HS2.out)
    clear hr HQ
    rcases (show v2 = 0 ∨ v2 = 1 ∨ v2 = 2 ∨ v2 = 3 by omega) with rfl | rfl | rfl | rfl
    · have HST := Lib.hid (rst_stored HS2.out (fun _ => hl2))
      go_wp2_with fail
      refine HST.out.mono ?_
      rintro e w3 ⟨rfl, hr3⟩
      have HR3 := Lib.hid hr3
      clear hr3 HST
      go_wp2_with fail
      go_ret
      exact ⟨lb, rfl, by have h := HR3.out.from HO2.out; rw [HR.out, show blkK 0 bs a2 out = stoB bs a2 out from rfl]; simpa using h, HB.out⟩
    · go_wp2_with (first | (at_make; refine makeN (n := 32) et_u8 rfl _ _ rfl w2.heap.size rfl rfl (by decide) (by decide) (Nat.le_refl _) ?_; intro w3 hown3 hg3))
      have HB0 := Lib.hid (Below.of_grown hg3 (Nat.le_refl _) (fun k e => by cases e))
      obtain ⟨g1, hg⟩ : ∃ g1, w2.heap.size = g1 := ⟨_, rfl⟩
      rw [← partL_zero (fun _ => 5) 32] at hown3
      have HO := Lib.hid hown3
      clear hg3 hown3
      simp only [hg]
      rw [hg] at HO
      have HG1 := Lib.hid hg
      clear hg
      go_loopw [6] (fun i A => ∃ k : Nat, k ≤ 32 ∧ i = .int .i64 k ∧ OwnN 5 .u8 A g1 (some ⟨g1, 0, none⟩) 32 (partL (fun _ => 5) 32 k) ∧ Below w2.heap.size w2 A) (fun i _ => 32 - (intOf i).toNat)
      case atStart => exact ⟨0, by omega, by trivial, HO.out, HB0.out⟩
      case round =>
        clear HO HB0
        obtain ⟨k, hk, rfl, ho, hb⟩ := hrel
        by_cases hlt : k < 32
        · have HBW := Lib.hid (hb.setCell (p := ⟨g1, k, none⟩) (by show w2.heap.size ≤ g1; have := HG1.out; omega) (.int .u8 ((5 : Nat) : Int)))
          obtain ⟨⟨v, f1⟩, f2⟩ := part_at ho k hlt
          have b0 : decide ((k : Int) < 32) = true := by simp; omega
          have H1 := Lib.hid (part_put ho hlt)
          clear ho hb
          go_wp2
          go_roundw
          case rel => exact ⟨k + 1, by omega, by go_num, H1.out, HBW.out⟩
          case measure => simp [intOf]; omega
        · obtain rfl : k = 32 := by omega
          have HB5 := Lib.hid hb
          have HO5 := Lib.hid (show RowN .u8 wr (some ⟨g1, 0, none⟩) 32 fixD from by have := ho.row; rwa [fix10D] at this)
          clear ho hb
          go_wp2_with fail
          refine (ref10_fixed wr).mono ?_
          rintro e w4 ⟨g4, rfl, hr4, hb4⟩
          have HB4 := Lib.hid (HB5.out.trans (hb4.mono HB5.out.size))
          have HSY := Lib.hid (rst_symbols (HS2.out.below HB4.out) hl2 (some ⟨g4, 0, none⟩) (some ⟨g1, 0, none⟩) 288 32 fixF fixD hr4 (HO5.out.below hb4) fix_words.1 fix_words.2 h0)
          rw [show fixF.length = 288 from rfl, show fixD.length = 32 from rfl] at HSY
          clear hr4 hb4 HO5 HB5
          go_wp2_with fail
          refine HSY.out.mono ?_
          rintro e w5 ⟨rfl, hr5⟩
          have HR5 := Lib.hid hr5
          clear hr5 HSY
          go_wp2_with fail
          go_ret
          refine ⟨lb, rfl, ?_, HB.out⟩
          rw [HR.out]
          unfold blkK symsB
          rw [if_neg (by decide), if_pos rfl, if_pos fix_words.1, if_pos fix_words.2]
          exact HR5.out.from (HO2.out.trans (.ofBelow HB4.out))
    · obtain ⟨ra, rc, ba, bc, oa, oc, q1, q2, ⟨q3, _⟩, _, _, _, _, _, q9, q10, q11, q12⟩ := HS2.out
      obtain ⟨⟨c0, c1, c2, c3, c4, c5, c6⟩, d2, d3, d5, d6⟩ := seven_cells q1
      have HGH := Lib.hid (ref09_get ra rc bs a2 w2.drew (show RowB w2.drew ra rc (bitL bs) from q3) q11 h0 q9)
      have HLC := Lib.hid (fun fo a3 (h : hdr bs a2 = some (fo, a3)) => (⟨(hdr_loc (d := 0) (bs' := bs) h).1, (hdr_loc (d := 0) (bs' := bs) h).2.1⟩ : a2 ≤ a3 ∧ a3 ≤ 8 * bs.length))
      have HWD := Lib.hid (fun f o a3 (h : hdr bs a2 = some ((f, o), a3)) => hdr_words h)
      replace HR := Lib.hid (show R = match hdr bs a2 with | none => none | some (fo, a3) => symsB fo.1 fo.2 bs a3 out from HR.out)
      clear q1 q2 q3
      generalize (bitL bs).length = L at *
      generalize hdr bs a2 = Hd at *
      go_wp2_with fail
      refine wp_region_still_mid 8 _ rfl (by kernel_rfl) (by kernel_rfl) ?_
      simp only [List.take_succ_cons, List.take_zero, List.drop_succ_cons, List.drop_zero]
      repeat still_step
      refine wpStill_nil ?_
      go_wp2_with fail
      refine HGH.out.mono ?_
      rintro e w3 ⟨hb3, ho3⟩
      have HB3 := Lib.hid (show Below w2.heap.size w2 w3 from ⟨hb3.os, hb3.tape, hb3.output, hb3.size, hb3.block⟩)
      have HS3 := Lib.hid (HS2.out.below HB3.out)
      obtain ⟨e6, e2, _, _, k6, k2⟩ := HS3.out.cel
      have HS2' := Lib.hid HS2.out.lt
      clear HGH HS2 hb3 c0 c1 c2 c3 c4 c5 c6 d2 d3 d5 d6
      rcases Hd with _ | ⟨⟨f, o⟩, a3⟩
      · obtain ⟨m, hm, rfl⟩ := ho3
        have HK := Lib.hid (HS3.out.setAt m hm)
        have HK2 := Lib.hid (HK.out.2.setBad true)
        have HRN := Lib.hid (show R = none from HR.out)
        clear HS3 HLC HWD HR
        go_wp2_with fail
        repeat still_step
        refine wpStill_nil ?_
        go_wp2_with fail
        go_ret
        exact ⟨true, rfl, by rw [HRN.out]; exact ⟨((HO2.out.trans (.ofBelow HB3.out)).trans HK.out.1).trans HK2.out.1, _, _, HK2.out.2⟩, fun h => by rw [HRN.out] at h; cases h⟩
      · obtain ⟨g1, c1, g2, c2, rfl, hf, ho, hg1, hg2⟩ := ho3
        obtain ⟨hl3, hm3⟩ := HLC.out _ _ rfl
        obtain ⟨hw1, hw2⟩ := HWD.out _ _ _ rfl
        have HRN := Lib.hid (show R = symsB f o bs a3 out from HR.out)
        have HK := Lib.hid (HS3.out.setAt a3 hm3)
        have hkb : ∀ x : Addr, w2.heap.size ≤ x.block → (w3.setCell ⟨sp, 2, none⟩ (.int .i64 (a3 : Nat))).heap[x.block]? = w3.heap[x.block]? := fun x hx => by
          have := HS2'.out
          exact Below.heap_setCell _ _ _ _ (by show x.block ≠ sp; omega)
        have hsz : w3.heap.size ≤ (w3.setCell ⟨sp, 2, none⟩ (.int .i64 (a3 : Nat))).heap.size := HK.out.1.size
        have HF := Lib.hid (hf.same hsz (fun x _ hx => hkb x (hg1 x hx)))
        have HO := Lib.hid (ho.same hsz (fun x _ hx => hkb x (hg2 x hx)))
        have HSY := Lib.hid (fun A (h1 : RSt P A sp bs keep a3 out false) (h2 : RowN .u8 A g1 c1 f) (h3 : RowN .u8 A g2 c2 o) => rst_symbols h1 (show out.length ≤ 258 * a3 by omega) g1 g2 c1 c2 f o h2 h3 hw1 hw2 h0)
        have hnf := hf.len
        have hno := ho.len
        clear HS3 HLC HWD HR hf ho hg1 hg2 hkb
        go_wp2_with fail
        repeat still_step
        refine wpStill_nil ?_
        go_wp2_with fail
        refine (HSY.out _ HK.out.2 HF.out HO.out).mono ?_
        rintro e w5 ⟨rfl, hr5⟩
        have HR5 := Lib.hid hr5
        clear hr5 HSY
        go_wp2_with fail
        go_ret
        refine ⟨lb, rfl, ?_, HB.out⟩
        rw [HRN.out]
        unfold symsB
        rw [if_pos hw1, if_pos hw2]
        exact HR5.out.from ((HO2.out.trans (.ofBelow HB3.out)).trans HK.out.1)
    · have HK := Lib.hid (HS2.out.setBad true)
      obtain ⟨e6, _, _, _, k6, _⟩ := HS2.out.cel
      go_wp2_with fail
      go_ret
      exact ⟨lb, rfl, by rw [HR.out]; exact ⟨HO2.out.trans HK.out.1, _, _, HK.out.2⟩, HB.out⟩
end Go.Proofs.Ytlofoocgiomfbaa

namespace Go.Proofs.Ytlofoocgiomfbaa
open Go.RowKit Go.Shelf M01 M04 M07 M08 M09 M10
set_option linter.unusedVariables false

theorem inflStep_blk (bs : List Nat) (k : Nat → List Nat → Option (Nat × List Nat)) (at_ : Nat) (out : List Nat) :
    inflStep bs k at_ out = match BlkR bs at_ out with
      | none => none
      | some (a2, o2) => if num bs at_ 1 = 0 then k a2 o2 else some (a2, o2) := by
  unfold inflStep BlkR
  by_cases h1 : at_ + 1 ≤ 8 * bs.length
  · by_cases h2 : at_ + 1 + 2 ≤ 8 * bs.length
    · simp only [h1, h2, if_true]
      generalize blkK (num bs (at_ + 1) 2) bs (at_ + 1 + 2) out = B
      cases B <;> rfl
    · simp [h1, h2]
  · simp [h1, show ¬ at_ + 1 + 2 ≤ 8 * bs.length by omega]
theorem blkR_some {bs out o2 : List Nat} {at_ a2 : Nat} (h : BlkR bs at_ out = some (a2, o2)) : at_ + 3 < a2 ∧ a2 ≤ 8 * bs.length := by
  unfold BlkR at h
  split at h
  · rename_i h1
    have := blkK_loc (d := 0) (bs' := bs) (pre := []) rfl (by omega) h
    omega
  · cases h

/-- the stream as it begins -/
theorem rst_start {w : World} {bs : List Nat} {keep rc bc : Nat} {rg bg : Option Addr} {b1 b2 : Nat} (h1 : OwnB w b1 rg rc (bitL bs)) (h2 : OwnN 5 .u8 w b2 bg bc (bitL bs)) (hk : keep ≤ 3000) (hl : bs.length ≤ 1000) :
    RSt (fun b => w.heap.size ≤ b) (w.alloc (.cells #[.slice rg (bitL bs).length rc, .slice bg (bitL bs).length bc, .int .i64 0, .slice none 0 0, .int .i64 (keep : Nat), .int .i64 0, .bool false] 88)) w.heap.size bs keep 0 [] false := by
  have hb := box_b w (.cells #[.slice rg (bitL bs).length rc, .slice bg (bitL bs).length bc, .int .i64 0, .slice none 0 0, .int .i64 (keep : Nat), .int .i64 0, .bool false] 88)
  refine ⟨rg, rc, bg, bc, none, 0, ?_, ?_, ⟨h1.row.below hb, fun x hx => ?_⟩, ⟨h2.row.below hb, fun x hx => ?_⟩, Nat.le_refl _, fun g hg => (by cases hg), fun b hb' => Nat.le_trans hb.size hb', fun b h => h, Nat.zero_le _, hk, hl, Nat.zero_le _⟩
  · rw [List.take_nil]; exact World.alloc_heap_new w _
  · rw [List.take_nil]; exact OwnN.nil _ _ _ _
  · rcases h1.form with ⟨h, _⟩ | ⟨g, h, _, hlt⟩
    · rw [h] at hx; cases hx
    · rw [h] at hx; cases hx; exact hlt
  · rcases h2.form with ⟨h, _⟩ | ⟨g, h, _, hlt⟩
    · rw [h] at hx; cases hx
    · rw [h] at hx; cases hx; exact hlt
theorem below_only {B : Nat} {P : Nat → Prop} {w w3 w4 : World} (h : Below B w w3) (hB : B ≤ w.heap.size) (ho : Only P w3 w4) (hP : ∀ b, b < B → ¬ P b) : Below B w w4 :=
  ⟨ho.os.trans h.os, ho.tape.trans h.tape, ho.output.trans h.output, Nat.le_trans h.size ho.size, fun b hb => (ho.block b (Nat.lt_of_lt_of_le hb (Nat.le_trans hB h.size)) (hP b hb)).trans (h.block b hb)⟩
theorem flow_cells {w : World} {b : Nat} {x y z u : Value} {t : TypeId} (h : w.heap[b]? = some (.cells #[x, y, z, u] t (0, 0))) : w.cell? ⟨b, 0, none⟩ = some x ∧ w.cell? ⟨b, 1, none⟩ = some y ∧ w.cell? ⟨b, 2, none⟩ = some z ∧ w.cell? ⟨b, 3, none⟩ = some u ∧ w.frozen? ⟨b, 0, none⟩ = false ∧ w.frozen? ⟨b, 1, none⟩ = false ∧ w.frozen? ⟨b, 2, none⟩ = false ∧ w.frozen? ⟨b, 3, none⟩ = false := by
  simp [World.cell?, World.frozen?, h]
set_option maxRecDepth 100000 in
set_option maxHeartbeats 3200000 in
theorem ref10_inflate (w : World) (a : Option Addr) (cap : Nat) (bs : List Nat) (keep : Nat) (hr : RowN .u8 w a cap bs) (hb : ∀ x ∈ bs, x < 256) (hl : bs.length ≤ 1000) (hk : keep ≤ 3000) :
    Calls Try.prog 19 #[.slice a bs.length cap, .int .i64 (keep : Nat)] w fun e w' => FPost w keep (inflB bs) e w' := by
  have HBX := Lib.hid hb
  obtain ⟨R, hR⟩ : ∃ R, R = inflB bs := ⟨_, rfl⟩
  rw [← hR]
  unfold inflB at hR
  replace hR := Lib.hid hR
  have hbx := box_b w (.cells #[.slice none 0 0, .int .i64 0, .int .i64 0, .bool false] 39)
  have HA0 := Lib.hid (World.alloc_heap_new w (.cells #[.slice none 0 0, .int .i64 0, .int .i64 0, .bool false] 39))
  have HR0 := Lib.hid (hr.below hbx)
  have hz0 : w.heap.size + 1 = (w.alloc (.cells #[.slice none 0 0, .int .i64 0, .int .i64 0, .bool false] 39)).heap.size := by simp
  have HB0 := Lib.hid hbx
  have t0 : decide ((keep : Int) < 0) = false := by simp
  clear hr hb hbx
  go_enter Try.func19, Try.ntmps19
  go_wp2_with fail
  generalize w.alloc (.cells #[.slice none 0 0, .int .i64 0, .int .i64 0, .bool false] 39) = w0 at *
  obtain ⟨q, hq⟩ : ∃ q, w.heap.size = q := ⟨_, rfl⟩
  rw [hq] at HA0 HB0 hz0
  rw [hq]
  have HQ := Lib.hid hq
  clear hq
  refine (ref01_of a cap bs w0 HR0.out HBX.out hl).mono ?_
  rintro e w1 ⟨rg, rc, rfl, hown1, hb1⟩
  have HB1 := Lib.hid (HB0.out.trans (hb1.mono (by have := HB0.out.size; have := HQ.out; omega)))
  have HA1 := Lib.hid ((hb1.block q (by omega)).trans HA0.out)
  have HO1 := Lib.hid hown1
  have hz1 : q < w1.heap.size := by have := hb1.size; omega
  clear hown1 hb1 HA0 HB0 HR0 hz0
  have HBT := Lib.hid (ref09_bits rg rc (bitL bs) w1 HO1.out.row (bitL_lt bs) (by rw [bitL_len]; omega))
  go_wp2_with fail
  refine HBT.out.mono ?_
  rintro e w2 ⟨bg, bc, rfl, hown2, hb2⟩
  have HB2 := Lib.hid (HB1.out.trans (hb2.mono (by have := HB1.out.size; have := HQ.out; omega)))
  have HA2 := Lib.hid ((hb2.block q hz1).trans HA1.out)
  have HO2 := Lib.hid (HO1.out.below hb2)
  have HO3 := Lib.hid hown2
  have hz2 : q < w2.heap.size := by have := hb2.size; omega
  clear hown2 hb2 HA1 HB1 HO1 HBT hz1
  have HS0 := Lib.hid (rst_start HO2.out HO3.out hk hl)
  have HBX3 := Lib.hid (box_b w2 (.cells #[.slice rg (bitL bs).length rc, .slice bg (bitL bs).length bc, .int .i64 0, .slice none 0 0, .int .i64 (keep : Nat), .int .i64 0, .bool false] 88))
  clear HO2 HO3
  obtain ⟨L, hL⟩ : ∃ L, L = (bitL bs).length := ⟨_, rfl⟩
  rw [← hL] at HS0 HBX3 ⊢
  clear hL
  go_wp2_with fail
  generalize w2.alloc (.cells #[.slice rg L rc, .slice bg L bc, .int .i64 0, .slice none 0 0, .int .i64 (keep : Nat), .int .i64 0, .bool false] 88) = w3 at *
  have HB3 := Lib.hid (HB2.out.trans (HBX3.out.mono (by have := HB2.out.size; have := HQ.out; omega)))
  have HA3 := Lib.hid ((HBX3.out.block q hz2).trans HA2.out)
  have hz3 : q < w3.heap.size := by have := HBX3.out.size; omega
  obtain ⟨sp, hsp⟩ : ∃ sp, w2.heap.size = sp := ⟨_, rfl⟩
  rw [hsp] at HS0 hz2
  rw [hsp]
  clear HBX3 hsp HA2 HB2
  obtain ⟨P, hP⟩ : ∃ P : Nat → Prop, P = fun b => sp ≤ b := ⟨_, rfl⟩
  rw [← hP] at HS0
  have HP : Hid (∀ b, P b → sp ≤ b) := fun b h => by rw [hP] at h; exact h
  clear hP
  go_loopw [19, 20, 21] (fun _ _ _ A => ∃ f at2 out2, Only P w3 A ∧ RSt P A sp bs keep at2 out2 false ∧ out2.length ≤ 258 * at2 ∧ 8 * bs.length + 1 ≤ f + at2 ∧ R = inflL bs f at2 out2) (fun _ _ _ A => 8 * bs.length - rAt A sp)
  case atStart => exact ⟨8 * bs.length + 1, 0, [], Only.refl _ _, HS0.out, by simp, by omega, hR.out⟩
  case round =>
    clear HS0 hR
    obtain ⟨f, at2, out2, ho, hs, hlen, hf, hr⟩ := hrel
    have HO := Lib.hid ho
    have HRA := Lib.hid (rAt_eq hs)
    have hnm := hs.nums
    obtain ⟨f, rfl⟩ : ∃ g, f = g + 1 := ⟨f - 1, by omega⟩
    rw [inflL_succ, inflStep_blk] at hr
    have HBK := Lib.hid (rst_block hs hlen)
    have HBS := Lib.hid (fun a2 o2 (h : BlkR bs at2 out2 = some (a2, o2)) => blkR_some h)
    unfold BlkOut at HBK
    have hb2 := num_lt bs at2 1
    clear ho hs hlen
    generalize num bs at2 1 = nb at *
    generalize BlkR bs at2 out2 = B at *
    replace hr := Lib.hid hr
    go_wp2_with fail
    refine HBK.out.mono ?_
    rintro e w4 ⟨b, rfl, hr4, hbb⟩
    have HBB := Lib.hid hbb
    have HR4 := Lib.hid hr4
    clear hr4 hbb HBK
    rcases B with _ | ⟨a2, o2⟩
    · have HR : Hid (R = none) := hr.out
      obtain ⟨ho4, a5, o5, hs4⟩ := HR4.out
      obtain ⟨e6, _, _, _, _, _⟩ := hs4.cel
      have HO4 := Lib.hid (HO.out.trans ho4)
      have HA4 := Lib.hid ((HO4.out.block q hz3 (fun h => by have := HP.out q h; omega)).trans HA3.out)
      obtain ⟨c0, c1, c2, c3, d0, d1, d2, d3⟩ := flow_cells HA4.out
      have HFIN : Hid (FPost w keep R (.returned (.tuple #[.agg #[.slice none 0 0, .int .i64 0, .int .i64 0, .bool false], .int .i64 2])) ((((w4.setCell ⟨q, 0, none⟩ (.slice none 0 0)).setCell ⟨q, 1, none⟩ (.int .i64 0)).setCell ⟨q, 2, none⟩ (.int .i64 0)).setCell ⟨q, 3, none⟩ (.bool false))) := by
        have hq := HQ.out
        refine ⟨?_, by rw [HR.out]; rfl⟩
        refine (((Below.setCell ?_ ?_ _).setCell ?_ _).setCell ?_ _).setCell ?_ _
        · exact hq ▸ below_only HB3.out (by omega) HO4.out (fun b hb h => by have := HP.out b h; omega)
        all_goals (show w.heap.size ≤ q; omega)
      clear HR4 hs4 ho4 hr HBB HBS HO
      cases b with
      | true =>
        go_wp2_with fail
        refine bodyPost_ret (v := .tuple #[.agg #[.slice none 0 0, .int .i64 0, .int .i64 0, .bool false], .int .i64 2]) (by simp [results, Try.results19, go_sem, c0, c1, c2, c3]) rfl ?_
        exact HFIN.out
      | false =>
        go_wp2_with fail
        refine bodyPost_ret (v := .tuple #[.agg #[.slice none 0 0, .int .i64 0, .int .i64 0, .bool false], .int .i64 2]) (by simp [results, Try.results19, go_sem, c0, c1, c2, c3]) rfl ?_
        exact HFIN.out
    · obtain ⟨h3, h8⟩ := HBS.out a2 o2 rfl
      obtain ⟨ho4, hs4, hl4⟩ := HR4.out
      have HO4 := Lib.hid (HO.out.trans ho4)
      have HS4 := Lib.hid hs4
      obtain ⟨e6, _, _, _, _, _⟩ := hs4.cel
      have hr2 := hr.out
      simp only at hr2
      have hbv := HBB.out rfl
      clear HR4 hs4 ho4 hr HBB HBS HO
      rcases (show nb = 0 ∨ nb = 1 by omega) with rfl | rfl
      · rw [if_pos rfl] at hr2
        have HR := Lib.hid hr2
        rw [show decide ((0 : Nat) = 1) = false from rfl] at hbv
        subst hbv
        clear hr2
        go_wp2_with fail
        go_roundw
        case rel => exact ⟨f, a2, o2, HO4.out, HS4.out, hl4, by omega, HR.out⟩
        case measure => rw [HRA.out, rAt_eq HS4.out]; omega
      · rw [if_neg (by decide)] at hr2
        have HR := Lib.hid hr2
        rw [show decide ((1 : Nat) = 1) = true from rfl] at hbv
        subst hbv
        clear hr2
        have HA4 := Lib.hid ((HO4.out.block q hz3 (fun h => by have := HP.out q h; omega)).trans HA3.out)
        have hnm4 := HS4.out.nums
        obtain ⟨ra, rc4, ba, bc4, oa, oc, q1, q2, _, _, _, q6, _⟩ := HS4.out
        obtain ⟨⟨c0, c1, c2, c3, c4, c5, c6⟩, _⟩ := seven_cells q1
        obtain ⟨k0, k1, k2, k3, d0, d1, d2, d3⟩ := flow_cells HA4.out
        have HFIN : Hid (FPost w keep R (.returned (.tuple #[.agg #[.slice oa (o2.take keep).length oc, .int .i64 (o2.length : Nat), .int .i64 (((a2 + 7) / 8 : Nat) : Int), .bool false], .int .i64 0])) ((((w4.drew.setCell ⟨q, 0, none⟩ (.slice oa (o2.take keep).length oc)).setCell ⟨q, 1, none⟩ (.int .i64 (o2.length : Nat))).setCell ⟨q, 2, none⟩ (.int .i64 (((a2 + 7) / 8 : Nat) : Int))).setCell ⟨q, 3, none⟩ (.bool false))) := by
          have hq := HQ.out
          have hrow := q2.row
          refine ⟨?_, ?_⟩
          · refine (((Below.setCell ?_ ?_ _).setCell ?_ _).setCell ?_ _).setCell ?_ _
            · exact belDN (hq ▸ below_only HB3.out (by omega) HO4.out (fun b hb h => by have := HP.out b h; omega)) 1
            all_goals (show w.heap.size ≤ q; omega)
          · rw [HR.out]
            refine ⟨oa, oc, rfl, (show RowN .u8 w4.drew oa oc (o2.take keep) from hrow).same (by simp [World.setCell]) (fun x hx hxe => ?_)⟩
            obtain ⟨g, hg⟩ : ∃ g, x = ⟨g, 0, none⟩ := by
              rcases q2.form with ⟨h, _⟩ | ⟨g, h, _⟩
              · rw [h] at hxe; cases hxe
              · rw [h] at hxe; exact ⟨g, (Option.some.inj hxe).symm⟩
            subst hg
            have hsg := (q6 g hxe).2
            have hne : g ≠ q := by omega
            rw [Below.heap_setCell _ _ _ _ (by exact hne), Below.heap_setCell _ _ _ _ (by exact hne), Below.heap_setCell _ _ _ _ (by exact hne), Below.heap_setCell _ _ _ _ (by exact hne)]
        have hq7 : a2 + 7 ≤ 100000 := by omega
        have hdiv : (((a2 : Int) + 7) / 8) = (((a2 + 7) / 8 : Nat) : Int) := by omega
        clear q1 q2 q6
        generalize (o2.take keep).length = tl at *
        generalize o2.length = ol at *
        go_wp2_with fail
        go_still_tail 15, (by kernel_rfl)
        change wpList _ _ _ _ _ w4.drew
        go_wp2_with fail
        refine bodyPost_ret (v := .tuple #[.agg #[.slice oa tl oc, .int .i64 (ol : Nat), .int .i64 (((a2 + 7) / 8 : Nat) : Int), .bool false], .int .i64 0]) (by simp [results, Try.results19, go_sem, k0, k1, k2, k3]) rfl ?_
        exact HFIN.out
end Go.Proofs.Ytlofoocgiomfbaa
