/- header.may: contract. -/
import Derived.Test.YtmgoeokdlklabaaHdrA
import Derived.Test.YtmgoeokdlklabaaKraft
namespace Go.Proofs.Ytmgoeokdlklabaa
open Go.RowKit Go.Shelf M04
set_option linter.unusedVariables false

set_option maxRecDepth 100000 in
set_option maxHeartbeats 3200000 in
theorem hdr_may (a b : Option Addr) (ca cb : Nat) (f o : List Nat) (w : World) (h1 : RowN .u8 w a ca f) (h2 : RowN .u8 w b cb o) (hf : f.length ≤ 1000) (ho : o.length ≤ 1000) :
    Calls Try.prog 36 #[.slice a f.length ca, .slice b o.length cb] w fun e w' => e = .returned (.bool (mayH f o)) ∧ w' = w := by
  have HC1 := Lib.hid (u8_contains a ca f w h1)
  have HC2 := Lib.hid (u8_contains b cb o w h2)
  have HK1 := Lib.hid (kraft_classify a ca f w h1)
  have HK2 := Lib.hid (kraft_classify b cb o w h2)
  have HS1 := Lib.hid (kraft_single a ca f w h1)
  have HS2 := Lib.hid (kraft_single b cb o w h2)
  have H1 := Lib.hid h1
  clear h1 h2
  by_cases c1 : f.length < 257
  · have HR : Hid (mayH f o = false) := by unfold Hid mayH; simp; omega
    have t1 : decide ((f.length : Int) < 257) = true := by simp; omega
    clear c1 hf ho
    go_enter Try.func36, Try.ntmps36
    go_wp2
    go_ret
    exact ⟨by rw [HR.out]; rfl, rfl⟩
  have t1 : decide ((f.length : Int) < 257) = false := by simp; omega
  by_cases c2 : 286 < f.length
  · have HR : Hid (mayH f o = false) := by unfold Hid mayH; simp; omega
    have t2 : decide ((286 : Int) < (f.length : Int)) = true := by simp; omega
    clear c1 c2 hf ho
    go_enter Try.func36, Try.ntmps36
    go_wp2
    go_ret
    exact ⟨by rw [HR.out]; rfl, rfl⟩
  have t2 : decide ((286 : Int) < (f.length : Int)) = false := by simp; omega
  by_cases c3 : o.length < 1
  · have HR : Hid (mayH f o = false) := by unfold Hid mayH; simp; omega
    have t3 : decide ((o.length : Int) < 1) = true := by simp; omega
    clear c1 c2 c3 hf ho
    go_enter Try.func36, Try.ntmps36
    go_wp2
    go_ret
    exact ⟨by rw [HR.out]; rfl, rfl⟩
  have t3 : decide ((o.length : Int) < 1) = false := by simp; omega
  by_cases c4 : 30 < o.length
  · have HR : Hid (mayH f o = false) := by unfold Hid mayH; simp; omega
    have t4 : decide ((30 : Int) < (o.length : Int)) = true := by simp; omega
    clear c1 c2 c3 c4 hf ho
    go_enter Try.func36, Try.ntmps36
    go_wp2
    go_ret
    exact ⟨by rw [HR.out]; rfl, rfl⟩
  have t4 : decide ((30 : Int) < (o.length : Int)) = false := by simp; omega
  have hil : 256 < f.length := by omega
  obtain ⟨bl, off, rfl, hbl, hck⟩ := H1.out.at hil
  have hgd : f.getD 256 0 = f[256] := by simp [hil]
  have hq : (256 : Int) < (f.length : Int) := by omega
  have HM : Hid (mayH f o = (decide (f[256] ≠ 0) && !(long f) && !(long o) && (decide ((clsE f).1 = 2) || singleB f) && (decide ((clsE o).1 = 2) || decide ((clsE o).1 = 0) || singleB o))) := by
    have e1 : 257 ≤ f.length := by omega
    have e2 : f.length ≤ 286 := by omega
    have e3 : 1 ≤ o.length := by omega
    have e4 : o.length ≤ 30 := by omega
    unfold Hid mayH
    rw [hgd]
    simp only [e1, e2, e3, e4, decide_true, Bool.true_and]
  clear c1 c2 c3 c4 hf ho hgd H1
  generalize f[256] = x at *
  by_cases c5 : x = 0
  · have HR : Hid (mayH f o = false) := by unfold Hid; rw [HM.out]; simp [c5]
    subst c5
    clear HM
    go_enter Try.func36, Try.ntmps36
    go_wp2
    go_ret
    exact ⟨by rw [HR.out]; rfl, rfl⟩
  have t5 : ((x : Int) == 0) = false := beq_eq_false_iff_ne.2 (by omega)
  have HM2 : Hid (mayH f o = (!(long f) && !(long o) && (decide ((clsE f).1 = 2) || singleB f) && (decide ((clsE o).1 = 2) || decide ((clsE o).1 = 0) || singleB o))) := by
    unfold Hid; rw [HM.out]; simp [c5]
  clear c5 HM
  generalize mayH f o = R at *
  generalize long f = lf at *
  cases lf
  case true =>
    have HR : Hid (R = false) := by unfold Hid; rw [HM2.out]; simp
    clear HM2
    go_enter Try.func36, Try.ntmps36
    go_wp2_with (first | (go_at_call 70; refine HC1.out.mono ?_; rintro e w' ⟨rfl, rfl⟩))
    go_ret
    exact ⟨by rw [HR.out]; rfl, rfl⟩
  generalize long o = lo at *
  cases lo
  case true =>
    have HR : Hid (R = false) := by unfold Hid; rw [HM2.out]; simp
    clear HM2
    go_enter Try.func36, Try.ntmps36
    go_wp2_with (first | (go_at_call 70; refine HC1.out.mono ?_; rintro e w' ⟨rfl, rfl⟩; clear HC1) | (go_at_call 70; refine HC2.out.mono ?_; rintro e w' ⟨rfl, rfl⟩))
    go_ret
    exact ⟨by rw [HR.out]; rfl, rfl⟩
  -- classes
  generalize clsE f = kf at *
  generalize clsE o = ko at *
  generalize singleB f = sf at *
  generalize singleB o = so at *
  obtain ⟨cf, ef⟩ := kf
  obtain ⟨co, eo⟩ := ko
  simp only [] at HM2 HK1 HK2
  by_cases d1 : cf = 2
  · have u1 : ((cf : Int) == 2) = true := by rw [d1]; rfl
    by_cases d2 : co = 2
    · have u3 : ((co : Int) == 2) = true := by rw [d2]; rfl
      have HR : Hid (R = true) := by unfold Hid; rw [HM2.out]; simp_all
      clear HM2
      go_enter Try.func36, Try.ntmps36
      go_wp2_with (first | (go_at_call 70; refine HC1.out.mono ?_; rintro e w' ⟨rfl, rfl⟩; clear HC1) | (go_at_call 70; refine HC2.out.mono ?_; rintro e w' ⟨rfl, rfl⟩; clear HC2) | (go_at_call 56; refine HK1.out.mono ?_; rintro e w' ⟨rfl, rfl⟩; clear HK1) | (go_at_call 56; refine HK2.out.mono ?_; rintro e w' ⟨rfl, rfl⟩; clear HK2) | (go_at_call 71; refine HSF.out.mono ?_; rintro e w' ⟨rfl, rfl⟩; clear HSF) | (go_at_call 71; refine HSO.out.mono ?_; rintro e w' ⟨rfl, rfl⟩; clear HSO))
      go_ret
      exact ⟨by rw [HR.out]; rfl, rfl⟩
    have u3 : ((co : Int) == 2) = false := beq_eq_false_iff_ne.2 (by omega)
    by_cases d0 : co = 0
    · have u4 : ((co : Int) == 0) = true := by rw [d0]; rfl
      have HR : Hid (R = true) := by unfold Hid; rw [HM2.out]; simp_all
      clear HM2
      go_enter Try.func36, Try.ntmps36
      go_wp2_with (first | (go_at_call 70; refine HC1.out.mono ?_; rintro e w' ⟨rfl, rfl⟩; clear HC1) | (go_at_call 70; refine HC2.out.mono ?_; rintro e w' ⟨rfl, rfl⟩; clear HC2) | (go_at_call 56; refine HK1.out.mono ?_; rintro e w' ⟨rfl, rfl⟩; clear HK1) | (go_at_call 56; refine HK2.out.mono ?_; rintro e w' ⟨rfl, rfl⟩; clear HK2) | (go_at_call 71; refine HSF.out.mono ?_; rintro e w' ⟨rfl, rfl⟩; clear HSF) | (go_at_call 71; refine HSO.out.mono ?_; rintro e w' ⟨rfl, rfl⟩; clear HSO))
      go_ret
      exact ⟨by rw [HR.out]; rfl, rfl⟩
    have u4 : ((co : Int) == 0) = false := beq_eq_false_iff_ne.2 (by omega)
    have HSO := HS2
    clear HS2
    have HR : Hid (R = so) := by unfold Hid; rw [HM2.out]; simp_all
    clear HM2
    go_enter Try.func36, Try.ntmps36
    go_wp2_with (first | (go_at_call 70; refine HC1.out.mono ?_; rintro e w' ⟨rfl, rfl⟩; clear HC1) | (go_at_call 70; refine HC2.out.mono ?_; rintro e w' ⟨rfl, rfl⟩; clear HC2) | (go_at_call 56; refine HK1.out.mono ?_; rintro e w' ⟨rfl, rfl⟩; clear HK1) | (go_at_call 56; refine HK2.out.mono ?_; rintro e w' ⟨rfl, rfl⟩; clear HK2) | (go_at_call 71; refine HSF.out.mono ?_; rintro e w' ⟨rfl, rfl⟩; clear HSF) | (go_at_call 71; refine HSO.out.mono ?_; rintro e w' ⟨rfl, rfl⟩; clear HSO))
    go_ret
    exact ⟨by rw [HR.out]; rfl, rfl⟩
  have u1 : ((cf : Int) == 2) = false := beq_eq_false_iff_ne.2 (by omega)
  cases sf
  case false =>
    have HSF := HS1
    clear HS1 HS2
    have HR : Hid (R = false) := by unfold Hid; rw [HM2.out]; simp_all
    clear HM2
    go_enter Try.func36, Try.ntmps36
    go_wp2_with (first | (go_at_call 70; refine HC1.out.mono ?_; rintro e w' ⟨rfl, rfl⟩; clear HC1) | (go_at_call 70; refine HC2.out.mono ?_; rintro e w' ⟨rfl, rfl⟩; clear HC2) | (go_at_call 56; refine HK1.out.mono ?_; rintro e w' ⟨rfl, rfl⟩; clear HK1) | (go_at_call 56; refine HK2.out.mono ?_; rintro e w' ⟨rfl, rfl⟩; clear HK2) | (go_at_call 71; refine HSF.out.mono ?_; rintro e w' ⟨rfl, rfl⟩; clear HSF) | (go_at_call 71; refine HSO.out.mono ?_; rintro e w' ⟨rfl, rfl⟩; clear HSO))
    go_ret
    exact ⟨by rw [HR.out]; rfl, rfl⟩
  have HSF := HS1
  clear HS1
  by_cases d2 : co = 2
  · have u3 : ((co : Int) == 2) = true := by rw [d2]; rfl
    have HR : Hid (R = true) := by unfold Hid; rw [HM2.out]; simp_all
    clear HM2
    go_enter Try.func36, Try.ntmps36
    go_wp2_with (first | (go_at_call 70; refine HC1.out.mono ?_; rintro e w' ⟨rfl, rfl⟩; clear HC1) | (go_at_call 70; refine HC2.out.mono ?_; rintro e w' ⟨rfl, rfl⟩; clear HC2) | (go_at_call 56; refine HK1.out.mono ?_; rintro e w' ⟨rfl, rfl⟩; clear HK1) | (go_at_call 56; refine HK2.out.mono ?_; rintro e w' ⟨rfl, rfl⟩; clear HK2) | (go_at_call 71; refine HSF.out.mono ?_; rintro e w' ⟨rfl, rfl⟩; clear HSF) | (go_at_call 71; refine HSO.out.mono ?_; rintro e w' ⟨rfl, rfl⟩; clear HSO))
    go_ret
    exact ⟨by rw [HR.out]; rfl, rfl⟩
  have u3 : ((co : Int) == 2) = false := beq_eq_false_iff_ne.2 (by omega)
  by_cases d0 : co = 0
  · have u4 : ((co : Int) == 0) = true := by rw [d0]; rfl
    have HR : Hid (R = true) := by unfold Hid; rw [HM2.out]; simp_all
    clear HM2
    go_enter Try.func36, Try.ntmps36
    go_wp2_with (first | (go_at_call 70; refine HC1.out.mono ?_; rintro e w' ⟨rfl, rfl⟩; clear HC1) | (go_at_call 70; refine HC2.out.mono ?_; rintro e w' ⟨rfl, rfl⟩; clear HC2) | (go_at_call 56; refine HK1.out.mono ?_; rintro e w' ⟨rfl, rfl⟩; clear HK1) | (go_at_call 56; refine HK2.out.mono ?_; rintro e w' ⟨rfl, rfl⟩; clear HK2) | (go_at_call 71; refine HSF.out.mono ?_; rintro e w' ⟨rfl, rfl⟩; clear HSF) | (go_at_call 71; refine HSO.out.mono ?_; rintro e w' ⟨rfl, rfl⟩; clear HSO))
    go_ret
    exact ⟨by rw [HR.out]; rfl, rfl⟩
  have u4 : ((co : Int) == 0) = false := beq_eq_false_iff_ne.2 (by omega)
  have HSO := HS2
  clear HS2
  have HR : Hid (R = so) := by unfold Hid; rw [HM2.out]; simp_all
  clear HM2
  go_enter Try.func36, Try.ntmps36
  go_wp2_with (first | (go_at_call 70; refine HC1.out.mono ?_; rintro e w' ⟨rfl, rfl⟩; clear HC1) | (go_at_call 70; refine HC2.out.mono ?_; rintro e w' ⟨rfl, rfl⟩; clear HC2) | (go_at_call 56; refine HK1.out.mono ?_; rintro e w' ⟨rfl, rfl⟩; clear HK1) | (go_at_call 56; refine HK2.out.mono ?_; rintro e w' ⟨rfl, rfl⟩; clear HK2) | (go_at_call 71; refine HSF.out.mono ?_; rintro e w' ⟨rfl, rfl⟩; clear HSF) | (go_at_call 71; refine HSO.out.mono ?_; rintro e w' ⟨rfl, rfl⟩; clear HSO))
  go_ret
  exact ⟨by rw [HR.out]; rfl, rfl⟩
end Go.Proofs.Ytmgoeokdlklabaa
