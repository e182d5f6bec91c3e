/- HeaderGets: the law's walk. Printed by gen/law09gets.py. -/
import Derived.Test.YtmgoeokdlklabaaPutH
import Derived.Test.YtmgoeokdlklabaaR9G
import Derived.Test.YtmgoeokdlklabaaOpen
namespace Go.Proofs.Ytmgoeokdlklabaa
open Go.RowKit Go.Shelf M01 M04 M05 M06 M07 M09
attribute [local go_sem] Oper.semAt_some
set_option linter.unusedVariables false
set_option linter.unusedSimpArgs false

set_option maxRecDepth 100000 in
theorem ref09_get_nil (a : Option Addr) (cap : Nat) (w : World) (hr : RowB w a cap (bitL [])) :
    Calls Try.prog 18 #[.slice a (bitL []).length cap, .int .i64 (0 : Nat)] w fun e w' => Below w.heap.size w w' ∧ GetR (hdr [] 0) (8 * ([] : List Nat).length) w.heap.size e w' := by
  have HC1 := Lib.hid (ref01_not (n := 5) hr (by simp) (at_ := 0) (by simp) (by simp) (by decide))
  have HC3 := Lib.hid (ref01_not (n := 4) hr (by simp) (at_ := 0) (by simp) (by simp) (by decide))
  generalize (bitL []).length = n at *
  have HR : Hid (hdr [] 0 = none) := hdr_none
  clear hr
  go_enter Try.func18, Try.ntmps18
  go_wp2_with fail
  refine HC1.out.mono ?_
  rintro e w1 ⟨rfl, rfl⟩
  go_wp2_with fail
  refine HC1.out.mono ?_
  rintro e w1 ⟨rfl, rfl⟩
  go_wp2_with fail
  refine HC3.out.mono ?_
  rintro e w1 ⟨rfl, rfl⟩
  go_wp2
  ((try simp only [Exit.inBlock, Exit.then]); refine bodyPost_ret (results_tmp4 rfl _ _ _) rfl ?_)
  exact getR_none HR.out (Below.refl _ _) (Nat.zero_le _) rfl
theorem ref09_get' (a : Option Addr) (cap : Nat) (bs : List Nat) (at_ : Nat) (w : World) (hr : RowB w a cap (bitL bs)) (hl : bs.length ≤ 1000) (ha : at_ ≤ 8 * bs.length) :
    Calls Try.prog 18 #[.slice a (bitL bs).length cap, .int .i64 (at_ : Nat)] w fun e w' => Below w.heap.size w w' ∧ GetR (hdr bs at_) (8 * bs.length) w.heap.size e w' := by
  by_cases h0 : 0 < bs.length
  · exact ref09_get a cap bs at_ w hr hl h0 ha
  · have : bs = [] := List.eq_nil_of_length_eq_zero (by omega)
    subst this
    obtain rfl : at_ = 0 := by simpa using ha
    exact ref09_get_nil a cap w hr

set_option maxRecDepth 100000 in
set_option maxHeartbeats 3200000 in
theorem law_gets9 (w : World) (a : Option Addr) (cap : Nat) (l : List Nat) (s : Nat) (hr : RowN .u8 w a cap l) (hb : ∀ x ∈ l, x < 256) (hs : s < 256) :
    Calls Try.prog 7 #[.slice a l.length cap, .int .u8 (s : Nat)] w fun e w' => e = .returned (.bool true) ∧ Below w.heap.size w w' := by
  by_cases h400 : 400 < l.length
  · have t1 : decide ((400 : Int) < (l.length : Int)) = true := by simp; omega
    clear hr hb
    go_enter Try.func7, Try.ntmps7
    go_wp2
    go_ret
    exact ⟨rfl, Below.refl _ _⟩
  have t1 : decide ((400 : Int) < (l.length : Int)) = false := by simp; omega
  obtain ⟨k, hk⟩ : ∃ k, s % 16 = k := ⟨_, rfl⟩
  have qk : (s : Int) % 16 = (k : Int) := by omega
  have qk2 : Int.tmod (s : Int) 16 = (k : Int) := by rw [Int.tmod_eq_emod_of_nonneg (by omega)]; exact qk
  have hk16 : k < 16 := by omega
  have HNEW := Lib.hid (lsb_new w a cap l hr hb (by omega))
  have HROW := Lib.hid hr
  have HOF := Lib.hid (fun w1 (h : RowN .u8 w1 a cap l) => ref01_of a cap l w1 h hb (by omega))
  have HREF := Lib.hid (fun g c at_ A (h : RowB A g c (bitL l)) (ha : at_ ≤ 8 * l.length) => (by have := ref09_get' g c l at_ A h (by omega) ha; rw [bitL_len] at this; exact this : _))
  have hbl := bitL_len l
  have HHE := Lib.hid (fun A => law09_heads A)
  clear hr hb hk
  go_enter Try.func7, Try.ntmps7
  go_wp2_with fail
  refine HNEW.out.mono ?_
  rintro e w1 ⟨rp, rfl, hrd, hb1, hrp⟩
  have hrl := hrd.lt
  have HB1 := Lib.hid hb1
  have HRD1 := Lib.hid hrd
  have HR1 := Lib.hid (HROW.out.below hb1)
  clear hb1 hrd HNEW HROW
  go_wp2_with fail
  refine (HOF.out w1 HR1.out).mono ?_
  rintro e w2 ⟨g, c, rfl, hob, hb2⟩
  have HRD2 := Lib.hid (HRD1.out.below hb2)
  have HB2 := Lib.hid (HB1.out.trans (hb2.mono HB1.out.size))
  have HOB := Lib.hid hob
  have hz2 := hb2.size
  clear hob hb2 HB1 HR1 HRD1 HOF
  by_cases hbig : 8 * l.length < k
  · have t2 : decide ((bitL l).length < k) = true := by rw [hbl]; simp; omega
    have t2' : decide (((bitL l).length : Int) < (k : Int)) = true := by rw [hbl]; simp; omega
    obtain ⟨at_, hat⟩ : ∃ at_, at_ = 0 := ⟨_, rfl⟩
    have hfit : 0 ≤ 8 * l.length := by omega
    have hrow2 := HOB.out.row
    have HROW2 := Lib.hid hrow2
    have HOBF := Lib.hid (fun A (h : Only (fun b => b = rp) w2 A) => (show RowB A g c (bitL l) from HROW2.out.same h.size (fun x h0 hx => by
      rcases HOB.out.form with ⟨h1, _⟩ | ⟨g', h1, h2, h3⟩
      · rw [h1] at hx; cases hx
      · rw [h1] at hx; cases hx
        exact h.block g' h3 (by show ¬ g' = rp; omega))))
    clear hrow2 HOB HROW2 hat
    go_wp2_with fail
    refine (lsb_get w2 rp l 0 0 (by omega) HRD2.out (by omega)).mono ?_
    rintro e w3 ⟨rfl, hrd3, ho3⟩
    have HO3 := Lib.hid ho3
    have hg := hdr_get w3 rp l (0 + 0) hrd3
    rw [Nat.zero_add] at hg
    have HG := Lib.hid hg
    have HRF := Lib.hid (fun A (h : Only (fun b => b = rp) w2 A) => HREF.out g c 0 A (HOBF.out A h) hfit)
    generalize hRR : hdr l 0 = R at *
    clear hRR hrd3 ho3 hg HRD2 HREF HOBF
    generalize num l 0 0 = nn at *
    go_wp2_with fail
    refine HG.out.mono ?_
    rintro e w4 ⟨ho4, hout⟩
    have HO4 := Lib.hid (HO3.out.trans ho4)
    clear ho4 HO3 HG
    match R, hout with
    | none, hout =>
      obtain rfl := hout
      go_wp2_with fail
      refine (HRF.out w4 HO4.out).mono ?_
      rintro e w5 ⟨hb5, m, hm, rfl⟩
      have HB5 := Lib.hid ((Below.skip HB2.out HO4.out hrp (Nat.le_refl _)).trans (hb5.mono (by have := HB2.out.size; have := HO4.out.size; omega)))
      clear hb5 HRF HO4 HB2
      go_wp2_with fail
      refine (HHE.out _).mono ?_
      rintro e w6 ⟨rfl, hb6⟩
      have HB6 := Lib.hid (HB5.out.trans (hb6.mono HB5.out.size))
      clear hb6 HB5
      go_wp2
      go_ret
      exact ⟨rfl, HB6.out⟩
    | some ((f, o), at2), hout =>
      obtain ⟨x1, y1, x2, y2, rfl, hx1, hx2, hrd4⟩ := hout
      have HX1 := Lib.hid hx1
      have HX2 := Lib.hid hx2
      have HRD4 := Lib.hid hrd4
      clear hx1 hx2 hrd4
      go_wp2_with fail
      refine (HRF.out w4 HO4.out).mono ?_
      rintro e w5 ⟨hb5, z1, u1, z2, u2, rfl, hz1, hz2, _, _⟩
      have HB5 := Lib.hid ((Below.skip HB2.out HO4.out hrp (Nat.le_refl _)).trans (hb5.mono (by have := HB2.out.size; have := HO4.out.size; omega)))
      have hcv1 := conv_row Try.underlying22 Try.underlying5 Try.underlying9 rfl (HX1.out.below hb5)
      have hcv2 := conv_row Try.underlying22 Try.underlying5 Try.underlying9 rfl (HX2.out.below hb5)
      have hcv3 := conv_row Try.underlying22 Try.underlying5 Try.underlying9 rfl hz1
      have hcv4 := conv_row Try.underlying22 Try.underlying5 Try.underlying9 rfl hz2
      have HAT := Lib.hid (lsb_at w5 rp l at2 (HRD4.out.below hb5))
      have tl1 : ((strOf f).toList == (strOf f).toList) = true := by simp
      have tl2 : ((strOf o).toList == (strOf o).toList) = true := by simp
      have tl3 : ((at2 : Int) == (at2 : Int)) = true := by simp
      clear hb5 HX1 HX2 hz1 hz2 HRD4 HRF HO4 HB2
      generalize strOf f = s1 at *
      generalize strOf o = s2 at *
      go_wp2_with (first | (go_at_call 26; refine HAT.out.mono ?_; rintro e w' ⟨rfl, rfl⟩) | (go_at_call 17; refine (HHE.out _).mono ?_; rintro e w6 ⟨rfl, hb6⟩; have HB6 := Lib.hid (HB5.out.trans (hb6.mono HB5.out.size)); clear hb6))
      go_ret
      exact ⟨rfl, HB6.out⟩
  · have t2 : decide ((bitL l).length < k) = false := by rw [hbl]; simp; omega
    have t2' : decide (((bitL l).length : Int) < (k : Int)) = false := by rw [hbl]; simp; omega
    obtain ⟨at_, hat⟩ : ∃ at_, at_ = k := ⟨_, rfl⟩
    have hfit : k ≤ 8 * l.length := by omega
    have hrow2 := HOB.out.row
    have HROW2 := Lib.hid hrow2
    have HOBF := Lib.hid (fun A (h : Only (fun b => b = rp) w2 A) => (show RowB A g c (bitL l) from HROW2.out.same h.size (fun x h0 hx => by
      rcases HOB.out.form with ⟨h1, _⟩ | ⟨g', h1, h2, h3⟩
      · rw [h1] at hx; cases hx
      · rw [h1] at hx; cases hx
        exact h.block g' h3 (by show ¬ g' = rp; omega))))
    clear hrow2 HOB HROW2 hat
    go_wp2_with fail
    refine (lsb_get w2 rp l 0 k (by omega) HRD2.out (by omega)).mono ?_
    rintro e w3 ⟨rfl, hrd3, ho3⟩
    have HO3 := Lib.hid ho3
    have hg := hdr_get w3 rp l (0 + k) hrd3
    rw [Nat.zero_add] at hg
    have HG := Lib.hid hg
    have HRF := Lib.hid (fun A (h : Only (fun b => b = rp) w2 A) => HREF.out g c k A (HOBF.out A h) hfit)
    generalize hRR : hdr l k = R at *
    clear hRR hrd3 ho3 hg HRD2 HREF HOBF
    generalize num l 0 k = nn at *
    go_wp2_with fail
    refine HG.out.mono ?_
    rintro e w4 ⟨ho4, hout⟩
    have HO4 := Lib.hid (HO3.out.trans ho4)
    clear ho4 HO3 HG
    match R, hout with
    | none, hout =>
      obtain rfl := hout
      go_wp2_with fail
      refine (HRF.out w4 HO4.out).mono ?_
      rintro e w5 ⟨hb5, m, hm, rfl⟩
      have HB5 := Lib.hid ((Below.skip HB2.out HO4.out hrp (Nat.le_refl _)).trans (hb5.mono (by have := HB2.out.size; have := HO4.out.size; omega)))
      clear hb5 HRF HO4 HB2
      go_wp2_with fail
      refine (HHE.out _).mono ?_
      rintro e w6 ⟨rfl, hb6⟩
      have HB6 := Lib.hid (HB5.out.trans (hb6.mono HB5.out.size))
      clear hb6 HB5
      go_wp2
      go_ret
      exact ⟨rfl, HB6.out⟩
    | some ((f, o), at2), hout =>
      obtain ⟨x1, y1, x2, y2, rfl, hx1, hx2, hrd4⟩ := hout
      have HX1 := Lib.hid hx1
      have HX2 := Lib.hid hx2
      have HRD4 := Lib.hid hrd4
      clear hx1 hx2 hrd4
      go_wp2_with fail
      refine (HRF.out w4 HO4.out).mono ?_
      rintro e w5 ⟨hb5, z1, u1, z2, u2, rfl, hz1, hz2, _, _⟩
      have HB5 := Lib.hid ((Below.skip HB2.out HO4.out hrp (Nat.le_refl _)).trans (hb5.mono (by have := HB2.out.size; have := HO4.out.size; omega)))
      have hcv1 := conv_row Try.underlying22 Try.underlying5 Try.underlying9 rfl (HX1.out.below hb5)
      have hcv2 := conv_row Try.underlying22 Try.underlying5 Try.underlying9 rfl (HX2.out.below hb5)
      have hcv3 := conv_row Try.underlying22 Try.underlying5 Try.underlying9 rfl hz1
      have hcv4 := conv_row Try.underlying22 Try.underlying5 Try.underlying9 rfl hz2
      have HAT := Lib.hid (lsb_at w5 rp l at2 (HRD4.out.below hb5))
      have tl1 : ((strOf f).toList == (strOf f).toList) = true := by simp
      have tl2 : ((strOf o).toList == (strOf o).toList) = true := by simp
      have tl3 : ((at2 : Int) == (at2 : Int)) = true := by simp
      clear hb5 HX1 HX2 hz1 hz2 HRD4 HRF HO4 HB2
      generalize strOf f = s1 at *
      generalize strOf o = s2 at *
      go_wp2_with (first | (go_at_call 26; refine HAT.out.mono ?_; rintro e w' ⟨rfl, rfl⟩) | (go_at_call 17; refine (HHE.out _).mono ?_; rintro e w6 ⟨rfl, hb6⟩; have HB6 := Lib.hid (HB5.out.trans (hb6.mono HB5.out.size)); clear hb6))
      go_ret
      exact ⟨rfl, HB6.out⟩
end Go.Proofs.Ytmgoeokdlklabaa
