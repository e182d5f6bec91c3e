/- HeaderPuts: the law's walk. Printed by gen/law09puts.py. -/
import Derived.Test.YtmgoeokdlklabaaLawGets9
namespace Go.Proofs.Ytmgoeokdlklabaa
open Go.RowKit Go.Shelf M01 M04 M05 M06 M07 M09
attribute [local go_sem] Oper.semAt_some
set_option linter.unusedVariables false
set_option linter.unusedSimpArgs false

theorem putsS_lenE (lens : List Nat) : ∀ (l : List Sg) (s : Wst), (putsS lens s l).2 = s.2 + (l.map fun g => lens.getD g.1 0 + rbits g.1).sum := by
  intro l
  induction l with
  | nil => intro s; rfl
  | cons g l ih =>
    intro s
    have := ih (putS lens s g)
    have h4 : (putS lens s g).2 = s.2 + lens.getD g.1 0 + rbits g.1 := by unfold putS; rw [addNum_len, addSym_len]
    show (putsS lens (putS lens s g) l).2 = _
    rw [List.map_cons, List.sum_cons, this, h4]
    omega
theorem hputW_shift (s t : Wst) (f o : List Nat) : (hputW s f o).2 + t.2 = (hputW t f o).2 + s.2 := by
  unfold hputW hputL
  rw [putsS_lenE, putsS_lenE, put3_len, put3_len, put14_len, put14_len]
  omega

set_option maxRecDepth 100000 in
set_option maxHeartbeats 3200000 in
theorem law_puts9 (w : World) (a b : Option Addr) (ca cb : Nat) (f o : List Nat) (s : Nat) (h1 : RowN .u8 w a ca f) (h2 : RowN .u8 w b cb o) (hs : s < 256) :
    Calls Try.prog 3 #[.slice a f.length ca, .slice b o.length cb, .int .u8 (s : Nat)] w fun e w' => e = .returned (.bool true) ∧ Below w.heap.size w w' := by
  by_cases h300 : 300 < f.length
  · have t1 : decide ((300 : Int) < (f.length : Int)) = true := by simp; omega
    clear h1 h2
    go_enter Try.func3, Try.ntmps3
    go_wp2
    go_ret
    exact ⟨rfl, Below.refl _ _⟩
  have t1 : decide ((300 : Int) < (f.length : Int)) = false := by simp; omega
  by_cases h40 : 40 < o.length
  · have t2 : decide ((40 : Int) < (o.length : Int)) = true := by simp; omega
    clear h1 h2
    go_enter Try.func3, Try.ntmps3
    go_wp2
    go_ret
    exact ⟨rfl, Below.refl _ _⟩
  have t2 : decide ((40 : Int) < (o.length : Int)) = false := by simp; omega
  obtain ⟨k, hk⟩ : ∃ k, s % 16 = k := ⟨_, rfl⟩
  have qk : (s : Int) % 16 = (k : Int) := by omega
  have qk2 : Int.tmod (s : Int) 16 = (k : Int) := by rw [Int.tmod_eq_emod_of_nonneg (by omega)]; exact qk
  have hk16 : k < 16 := by omega
  have hfl : f.length ≤ 300 := by omega
  have hol : o.length ≤ 40 := by omega
  have HHE := Lib.hid (fun A => law09_heads A)
  have hbl := box_b w (.cells #[] 5)
  have HF0 := Lib.hid h1
  have HO0 := Lib.hid h2
  have HF1 := Lib.hid (h1.below hbl)
  have HB1 := Lib.hid hbl
  have HN1 := Lib.hid (OwnN.lit0 5 .u8 w w.heap.size (Nat.le_refl _))
  have hwz : w.heap.size ≤ (w.alloc (.cells #[] 5)).heap.size := by simp
  clear h1 h2 hk h300 h40 hbl
  go_enter Try.func3, Try.ntmps3
  go_wp2_with (at_builtin; refine (fun h => Hid.out h) ?_)
  unfold Hid
  refine appAnyN et_u8 rfl (.tmp 26) (.tmp 27) rfl (base := w.heap.size) (l := []) (ys := f) rfl HN1.out rfl rfl HF1.out (by simp; omega) (by simp; omega) hwz ?_
  intro a1 c1 w1 hown1 hg1 hb1
  simp only [List.nil_append, List.length_nil, Nat.zero_add] at hown1 ⊢
  have HR1 := Lib.hid hown1.row
  have HB2 := Lib.hid (HB1.out.trans (hb1.mono (Nat.le_refl _)))
  clear hown1 hg1 hb1 HB1 HF1 HN1 hwz
  have hbl := box_b w1 (.cells #[] 5)
  have HB3 := Lib.hid (HB2.out.trans (hbl.mono HB2.out.size))
  have HO1 := Lib.hid (HO0.out.below HB3.out)
  have HN1 := Lib.hid (OwnN.lit0 5 .u8 w1 w1.heap.size (Nat.le_refl _))
  have hwz : w1.heap.size ≤ (w1.alloc (.cells #[] 5)).heap.size := by simp
  have hbx := hbl
  clear hbl
  go_wp2_with (at_builtin; refine (fun h => Hid.out h) ?_)
  unfold Hid
  refine appAnyN et_u8 rfl (.tmp 29) (.tmp 30) rfl (base := w1.heap.size) (l := []) (ys := o) rfl HN1.out rfl rfl HO1.out (by simp; omega) (by simp; omega) hwz ?_
  intro a2 c2 w2 hown2 hg2 hb2
  simp only [List.nil_append, List.length_nil, Nat.zero_add] at hown2 ⊢
  have HS2 := Lib.hid hown2.row
  have HR3 := Lib.hid (HR1.out.below (hbx.trans hb2))
  have HB4 := Lib.hid (HB2.out.trans ((hbx.trans hb2).mono HB2.out.size))
  clear hown2 hg2 hb2 HB2 HB3 HR1 HO1 HN1 hwz hbx
  have hbx := box_b w2 (.cells #[.slice none 0 0, .int .i64 0] 24)
  have HF2 := Lib.hid (HF0.out.below HB4.out)
  have HO2 := Lib.hid (HO0.out.below HB4.out)
  have HW4 := Lib.hid (wrE_new w2)
  have HBX := Lib.hid (fun A (ho : Only (fun b => w2.heap.size ≤ b) (w2.alloc (.cells #[.slice none 0 0, .int .i64 0] 24)) A) => (Below.only hbx ho (Nat.le_refl _) (fun b hb => hb) : Below w2.heap.size w2 A))
  clear hbx HF0 HO0
  obtain ⟨s0, hs0⟩ : ∃ s0, addNum ([], 0) 0 k = s0 := ⟨_, rfl⟩
  have hs0k : s0.2 = k := by rw [← hs0, addNum_len]; exact Nat.zero_add k
  have HG0 := Lib.hid (by rw [← hs0]; exact (addNum_g empty_g 0 k).1 : WG s0)
  obtain ⟨T, hT⟩ : ∃ T, hputW s0 f o = T := ⟨_, rfl⟩
  obtain ⟨Z, hZ⟩ : ∃ Z, hputW ([], 0) f o = Z := ⟨_, rfl⟩
  have HTZ := Lib.hid (by have := hputW_shift s0 ([], 0) f o; rw [hT, hZ] at this; exact this : T.2 + 0 = Z.2 + s0.2)
  have HHT := Lib.hid (fun hm : mayH f o = true => (show hdr T.1 k = some ((f, o), T.2) ∧ WG T from by
    have hg := (hputW_g HG0.out f o).1
    have h := hdr_laid (s := s0) (t := T) HG0.out (by rw [← hT]; exact hg) f o hm (by rw [hT]; exact .refl _)
    rw [hT, hs0k] at h
    exact ⟨h, by rw [← hT]; exact hg⟩))
  have HTL := Lib.hid (fun hm : mayH f o = true => (by
    obtain ⟨_, _, _, _, m5, m6⟩ := mayH_facts hm
    have := hputW_len HG0.out f o (by
      intro x hx
      rcases List.mem_append.1 hx with h | h
      · exact m5 x h
      · exact m6 x h)
    rw [hT, hs0k] at this
    omega : T.2 ≤ 5000))
  have HPU := Lib.hid (fun A (hw : Wr (fun b => w2.heap.size ≤ b) A w2.heap.size s0) (h1 : RowN .u8 A a1 c1 f) (h2 : RowN .u8 A a2 c2 o) => (by have := header_put hw a1 a2 c1 c2 f o h1 h2 (by omega) (by omega) (by omega); rw [hT] at this; exact this : _))
  have HSZ := Lib.hid (fun A (h1 : RowN .u8 A a1 c1 f) (h2 : RowN .u8 A a2 c2 o) => (by have := header_size A a1 a2 c1 c2 f o h1 h2 (by omega) (by omega); rw [hZ] at this; exact this : _))
  have HMY := Lib.hid (fun A (h1 : RowN .u8 A a ca f) (h2 : RowN .u8 A b cb o) => ref09_may a b ca cb f o A h1 h2 (by omega) (by omega))
  clear hT hZ
  go_wp2_with fail
  generalize w2.alloc (.cells #[.slice none 0 0, .int .i64 0] 24) = w4 at *
  have hlp := lsb_put HW4.out 0 k (by omega) (Nat.pow_pos (by decide)) (by show 0 + k ≤ 100000000; omega)
  rw [hs0] at hlp
  refine hlp.mono ?_
  rintro e w5 ⟨rfl, ho5, hw5⟩
  have hb5 := HBX.out w5 ho5
  have HPU5 := Lib.hid (HPU.out w5 hw5 (HR3.out.below hb5) (HS2.out.below hb5))
  have HO5 := Lib.hid ho5
  clear hlp hs0 ho5 hw5 hb5 HPU HW4
  go_wp2_with fail
  refine HPU5.out.mono ?_
  rintro e w6 ⟨ho6, hcase⟩
  have HB6 := Lib.hid (HBX.out w6 (HO5.out.trans ho6))
  clear HPU5 HBX HO5 ho6
  cases hm : mayH f o with
  | true =>
    rw [hm] at hcase HSZ HMY
    obtain ⟨rfl, hw6⟩ := hcase
    have HW6 := Lib.hid hw6
    clear hw6
    have HSZ6 := Lib.hid (HSZ.out w6 (HR3.out.below HB6.out) (HS2.out.below HB6.out))
    clear HSZ
    go_wp2_with fail
    refine HSZ6.out.mono ?_
    rintro e w7 ⟨hb7, rfl⟩
    have HB7 := Lib.hid (HB6.out.trans (hb7.mono HB6.out.size))
    have HW7 := Lib.hid (HW6.out.below hb7)
    have hcv1 := conv_row Try.underlying22 Try.underlying5 Try.underlying9 rfl (HR3.out.below HB7.out)
    have hcv2 := conv_row Try.underlying22 Try.underlying5 Try.underlying9 rfl (HS2.out.below HB7.out)
    have hcv3 := conv_row Try.underlying22 Try.underlying5 Try.underlying9 rfl (HF2.out.below HB7.out)
    have hcv4 := conv_row Try.underlying22 Try.underlying5 Try.underlying9 rfl (HO2.out.below HB7.out)
    have tl1 : ((strOf f).toList == (strOf f).toList) = true := by simp
    have tl2 : ((strOf o).toList == (strOf o).toList) = true := by simp
    have HMY7 := Lib.hid (HMY.out w7 (HF2.out.below HB7.out) (HO2.out.below HB7.out))
    clear hb7 HSZ6 HB6 HW6 HMY
    obtain ⟨hh, hwg⟩ := HHT.out hm
    have htl := HTL.out hm
    have HH := Lib.hid hh
    have htb := hwg.1.2
    have htb2 : T.1.length ≤ 1000 := by have := hwg.1.1; omega
    have htk : k ≤ 8 * T.1.length := by have := hwg.1.1; have := HTZ.out; omega
    obtain ⟨x1, hx1⟩ : ∃ x1, strOf f = x1 := ⟨_, rfl⟩
    obtain ⟨x2, hx2⟩ : ∃ x2, strOf o = x2 := ⟨_, rfl⟩
    rw [hx1] at hcv1 hcv3 tl1
    rw [hx2] at hcv2 hcv4 tl2
    have HX1 := Lib.hid hx1
    have HX2 := Lib.hid hx2
    clear hh hwg HHT HTL hm hx1 hx2
    go_wp2_with fail
    refine HMY7.out.mono ?_
    rintro e w7' ⟨rfl, hww⟩
    replace hww := hww.symm
    subst hww
    clear hcv1 hcv2 hcv3 hcv4
    go_wp2_with fail
    refine (lsb_bytes HW7.out).mono ?_
    rintro e w8 ⟨a3, c3, rfl, ho8, hb8⟩
    have hof := ref01_of a3 c3 T.1 w8 ho8.row htb htb2
    rw [bitL_len] at hof
    have HOF := Lib.hid hof
    have HB8 := Lib.hid (HB7.out.trans (hb8.mono HB7.out.size))
    have HW8 := Lib.hid (HW7.out.below hb8)
    clear hof ho8 hb8 HB7 HW7 HMY7
    go_wp2_with fail
    refine HOF.out.mono ?_
    rintro e w9 ⟨g9, c9, rfl, ho9, hb9⟩
    have hrg := ref09_get' g9 c9 T.1 k w9 ho9.row htb2 htk
    rw [bitL_len, HH.out] at hrg
    have HRG := Lib.hid hrg
    have HB9 := Lib.hid (HB8.out.trans (hb9.mono HB8.out.size))
    have HW9 := Lib.hid (HW8.out.below hb9)
    clear hrg ho9 hb9 HB8 HW8 HOF
    go_wp2_with fail
    refine HRG.out.mono ?_
    rintro e w10 ⟨hb10, z1, u1, z2, u2, rfl, hz1, hz2, _, _⟩
    have HB10 := Lib.hid (HB9.out.trans (hb10.mono HB9.out.size))
    have HW10 := Lib.hid (HW9.out.below hb10)
    have hcv1 := conv_row Try.underlying22 Try.underlying5 Try.underlying9 rfl hz1
    have hcv2 := conv_row Try.underlying22 Try.underlying5 Try.underlying9 rfl hz2
    have hcv3 := conv_row Try.underlying22 Try.underlying5 Try.underlying9 rfl (HF2.out.below HB10.out)
    have hcv4 := conv_row Try.underlying22 Try.underlying5 Try.underlying9 rfl (HO2.out.below HB10.out)
    rw [HX1.out] at hcv1 hcv3
    rw [HX2.out] at hcv2 hcv4
    have HLN := Lib.hid (lsb_len HW10.out)
    have HHA := Lib.hid (law09_heads w10)
    have HBE := Lib.hid (HB4.out.trans (HB10.out.mono HB4.out.size))
    have e1 : (T.2 : Int) - (k : Int) = (Z.2 : Int) := by have := HTZ.out; omega
    have e2 : ((T.2 : Int) == (T.2 : Int)) = true := by simp
    have e3 : ((Z.2 : Int) == (Z.2 : Int)) = true := by simp
    clear hb10 hz1 hz2 HB9 HW9 HRG HH
    generalize T.2 = tn at *
    generalize Z.2 = zn at *
    go_wp2_with (first | (go_at_call 16; refine HLN.out.mono ?_; rintro e w' ⟨rfl, hww⟩; replace hww := hww.symm; subst hww) | (go_at_call 17; refine HHA.out.mono ?_; rintro e w11 ⟨rfl, hb11⟩; have HB11 := Lib.hid (HBE.out.trans (hb11.mono HBE.out.size)); clear hb11))
    go_ret
    exact ⟨rfl, HB11.out⟩
  | false =>
    rw [hm] at hcase HSZ HMY
    obtain ⟨rfl, hw6⟩ := hcase
    have HW6 := Lib.hid hw6
    clear hw6
    have HSZ6 := Lib.hid (HSZ.out w6 (HR3.out.below HB6.out) (HS2.out.below HB6.out))
    clear HSZ
    go_wp2_with fail
    refine HSZ6.out.mono ?_
    rintro e w7 ⟨hb7, rfl⟩
    have HB7 := Lib.hid (HB6.out.trans (hb7.mono HB6.out.size))
    have HW7 := Lib.hid (HW6.out.below hb7)
    have hcv1 := conv_row Try.underlying22 Try.underlying5 Try.underlying9 rfl (HR3.out.below HB7.out)
    have hcv2 := conv_row Try.underlying22 Try.underlying5 Try.underlying9 rfl (HS2.out.below HB7.out)
    have hcv3 := conv_row Try.underlying22 Try.underlying5 Try.underlying9 rfl (HF2.out.below HB7.out)
    have hcv4 := conv_row Try.underlying22 Try.underlying5 Try.underlying9 rfl (HO2.out.below HB7.out)
    have tl1 : ((strOf f).toList == (strOf f).toList) = true := by simp
    have tl2 : ((strOf o).toList == (strOf o).toList) = true := by simp
    have HMY7 := Lib.hid (HMY.out w7 (HF2.out.below HB7.out) (HO2.out.below HB7.out))
    clear hb7 HSZ6 HB6 HW6 HMY
    have HLN := Lib.hid (lsb_len HW7.out)
    rw [hs0k] at HLN
    have HHA := Lib.hid (law09_heads w7)
    have HBE := Lib.hid (HB4.out.trans (HB7.out.mono HB4.out.size))
    have e2 : ((k : Int) == (k : Int)) = true := by simp
    clear HHT HTL hm
    generalize strOf f = x1 at *
    generalize strOf o = x2 at *
    go_wp2_with (first | (go_at_call 15; refine HMY7.out.mono ?_; rintro e w' ⟨rfl, hww⟩; replace hww := hww.symm; subst hww) | (go_at_call 16; refine HLN.out.mono ?_; rintro e w' ⟨rfl, hww⟩; replace hww := hww.symm; subst hww) | (go_at_call 17; refine HHA.out.mono ?_; rintro e w11 ⟨rfl, hb11⟩; have HB11 := Lib.hid (HBE.out.trans (hb11.mono HBE.out.size)); clear hb11))
    go_ret
    exact ⟨rfl, HB11.out⟩
end Go.Proofs.Ytmgoeokdlklabaa
