/- CostSymbols: the law's walk. -/
import Derived.Test.YtlofoocgiomfbaaLawSums
namespace Go.Proofs.Ytlofoocgiomfbaa
open Go.RowKit M17
set_option linter.unusedVariables false

theorem fix_ref (l : List Tok) (hb : ∀ t ∈ l, t.byte < 256) : fixOut l = if (symOut fixR fixQ l).2 = 0 then ((symOut fixR fixQ l).1 + 3, 0) else symOut fixR fixQ l := by
  unfold fixOut symOut
  rw [symU_fixed l hb]
  cases symU fixR fixQ (useU l) 0 with
  | none => rfl
  | some m => simp [Nat.add_comm]
theorem symOut_le (f o : List Nat) (l : List Tok) (hf : ∀ x ∈ f, x ≤ 255) (ho : ∀ x ∈ o, x ≤ 255) (hl : l.length ≤ 1000) : (symOut f o l).1 ≤ 1000000 ∧ ((symOut f o l).2 = 0 ∨ (symOut f o l).2 = 5) := by
  unfold symOut
  cases h : symU f o (useU l) 0 with
  | none => exact ⟨by simp, .inr rfl⟩
  | some m =>
    have h1 := symU_le f o hf ho _ (bits_le l) 0 m h
    have h2 := useU_len l
    have : (useU l).length * 400 ≤ 2001 * 400 := Nat.mul_le_mul_right _ (by omega)
    exact ⟨by show m ≤ _; omega, .inl rfl⟩

set_option maxRecDepth 100000 in
set_option maxHeartbeats 1600000 in
theorem law_symbols (a0 a1 a2 : Option Addr) (cap0 cap1 cap2 : Nat) (l : List Tok) (f o : List Nat) (w : World) (h0 : RowS encT w a0 cap0 l) (b0 : ∀ t ∈ l, t.byte < 256) (h1 : RowN .u8 w a1 cap1 f) (h2 : RowN .u8 w a2 cap2 o) (hf : ∀ x ∈ f, x ≤ 255) (ho : ∀ x ∈ o, x ≤ 255) :
    Calls Try.prog 3 #[.slice a0 l.length cap0, .slice a1 f.length cap1, .slice a2 o.length cap2] w (RetTrue17 w) := by
  have hll := h0.len
  have hlf := h1.len
  have hlo := h2.len
  by_cases hl2 : l.length ≤ 400
  case neg =>
    have c0 : decide ((400 : Int) < (l.length : Int)) = true := by simp; omega
    clear hl2
    go_enter Try.func3, Try.ntmps3
    go_wp2
    go_ret
    exact ⟨rfl, Below.refl _ _⟩
  have c0 : decide ((400 : Int) < (l.length : Int)) = false := by simp; omega
  by_cases hf2 : f.length ≤ 300
  case neg =>
    have c1 : decide ((300 : Int) < (f.length : Int)) = true := by simp; omega
    clear hl2 hf2
    go_enter Try.func3, Try.ntmps3
    go_wp2
    go_ret
    exact ⟨rfl, Below.refl _ _⟩
  have c1 : decide ((300 : Int) < (f.length : Int)) = false := by simp; omega
  by_cases ho2 : o.length ≤ 40
  case neg =>
    have c2 : decide ((40 : Int) < (o.length : Int)) = true := by simp; omega
    clear hl2 hf2 ho2
    go_enter Try.func3, Try.ntmps3
    go_wp2
    go_ret
    exact ⟨rfl, Below.refl _ _⟩
  have c2 : decide ((40 : Int) < (o.length : Int)) = false := by simp; omega
  have B0 := Lib.hid b0
  have HF := Lib.hid hf
  have HO := Lib.hid ho
  clear b0 hf ho hf2 ho2
  go_enter Try.func3, Try.ntmps3
  go_wp2_with (at_builtin; refine appAnyS tok_elems rfl (.tmp 32) (.tmp 33) rfl (a := some ⟨w.heap.size, 0, none⟩) (cap := 0) (l := []) (ys := l) (base := w.heap.size) rfl (OwnS.lit0 _ _ _ _ (Nat.le_refl _)) rfl rfl (h0.below (box_below _ _)) (by simp; omega) (by simp; omega) (by simp) ?_; intro a3 cap3 w1 hown1 hg1 hb1; simp only [List.nil_append] at hown1; simp only [List.length_nil, Nat.zero_add]; replace hb1 := (box_below w _).trans hb1)
  have hr1 := hown1.row
  clear hown1 hg1
  obtain ⟨s1, s2⟩ := symOut_le f o l HF.out HO.out (by omega)
  refine (cost_symbols a3 a1 a2 cap3 cap1 cap2 l f o _ (by omega) B0.out hr1 (h1.below hb1) (h2.below hb1) HF.out HO.out).mono ?_
  rintro e w2 ⟨rfl, hb2⟩
  have hB2 := hb1.trans (hb2.mono hb1.size)
  have HREF := Lib.hid (ref17_symbols a0 a1 a2 cap0 cap1 cap2 l f o w2 (by omega) B0.out (h0.below hB2) (h1.below hB2) (h2.below hB2) HF.out HO.out)
  have HR1 := Lib.hid (hr1.below hb2)
  have HB2 := Lib.hid hB2
  clear hb1 hb2 hr1 hB2
  generalize symOut f o l = so at *
  obtain ⟨sn, se⟩ := so
  simp only at s1 s2 HREF ⊢
  have S2 := Lib.hid s2
  clear s2
  go_wp2_with fail
  refine HREF.out.mono ?_
  rintro e w3 ⟨rfl, hb3⟩
  have HB3 := Lib.hid (HB2.out.trans (hb3.mono HB2.out.size))
  have HR1' := Lib.hid (HR1.out.below hb3)
  have HR0 := Lib.hid (h0.below HB3.out)
  clear HREF HR1 HB2 hb3
  go_wp2_with fail
  go_loopw [12] (fun i A => ∃ k q : Nat, k ≤ l.length ∧ i = .int .i64 k ∧ A = w3.drewN q) (fun i _ => l.length - (intOf i).toNat)
  case atStart => exact ⟨0, 0, by omega, rfl, rfl⟩
  case round =>
    obtain ⟨k, q, hk, rfl, rfl⟩ := hrel
    by_cases hlt : k < l.length
    · obtain ⟨b, off, rfl, hb, hcl⟩ := (HR0.out.drewN q).at hlt
      obtain ⟨b', off', rfl, hb', hcl'⟩ := (HR1'.out.drewN q).at hlt
      have c0' := hcl 0 _ rfl
      have c1' := hcl 1 _ rfl
      have c2' := hcl 2 _ rfl
      have d0' := hcl' 0 _ rfl
      have d1' := hcl' 1 _ rfl
      have d2' := hcl' 2 _ rfl
      clear hcl hcl'
      generalize l[k] = t at *
      obtain ⟨L, D, bt⟩ := t
      simp only [encT, Nat.add_zero] at c0' c1' c2' d0' d1' d2'
      rw [← Nat.add_assoc] at c1' c2' d1' d2'
      obtain ⟨A, hA⟩ : ∃ A, w3.drewN q = A := ⟨_, rfl⟩
      rw [hA] at c0' c1' c2' d0' d1' d2'
      simp only [hA]
      have hki : (k : Int) < (l.length : Int) := by omega
      have HA := Lib.hid hA
      clear hA hb hb'
      go_wp2_with fail
      go_quiet (fail)
      go_wp2
      go_roundw
      case rel => exact ⟨k + 1, q + nq, by omega, by go_num, by rw [← HA.out, World.drewN_drewN]⟩
      case measure => simp [intOf]; omega
    · obtain rfl : k = l.length := by omega
      have HBQ := Lib.hid (belDN HB3.out q)
      have HR0q := Lib.hid (HR0.out.drewN q)
      clear HR0 HR1' HB3
      generalize w3.drewN q = A at *
      go_wp2_with fail
      refine (cost_Fixed a0 cap0 l _ (by omega) B0.out HR0q.out).mono ?_
      rintro e w4 ⟨rfl, hb4⟩
      have HB4 := Lib.hid (HBQ.out.trans (hb4.mono HBQ.out.size))
      clear hb4 HR0q HBQ
      rw [fix_ref l B0.out]
      obtain ⟨s3, s4⟩ := symOut_le fixR fixQ l fixR_le fixQ_le (by omega)
      have HREF := Lib.hid (fun (g1 g2 : Nat) (W : World) (r1 : RowN .u8 W (some ⟨g1, 0, none⟩) 286 fixR) (r2 : RowN .u8 W (some ⟨g2, 0, none⟩) 30 fixQ) (r0 : RowS encT W a0 cap0 l) => ref17_symbols a0 (some ⟨g1, 0, none⟩) (some ⟨g2, 0, none⟩) cap0 286 30 l fixR fixQ W (by omega) B0.out r0 r1 r2 fixR_le fixQ_le)
      rw [fixR_len, fixQ_len] at HREF
      generalize symOut fixR fixQ l = so at *
      obtain ⟨yn, ye⟩ := so
      simp only at s3 s4 HREF ⊢
      rcases s4 with rfl | rfl
      · rw [if_pos rfl]
        go_wp2_with fail
        refine (ref17_fixed _).mono ?_
        rintro e w5 ⟨g1, g2, rfl, r1, r2, hb5⟩
        have HB5 := Lib.hid (HB4.out.trans (hb5.mono HB4.out.size))
        have HC := Lib.hid (HREF.out g1 g2 w5 r1 r2 (h0.below HB5.out))
        clear r1 r2 hb5 HREF HB4
        go_wp2_with fail
        refine HC.out.mono ?_
        rintro e w6 ⟨rfl, hb6⟩
        have HB6 := Lib.hid (HB5.out.trans (hb6.mono HB5.out.size))
        clear HC hb6 HB5
        go_wp2_with fail
        refine (law17_counts _).mono ?_
        rintro e w7 ⟨rfl, hb7⟩
        go_wp2
        go_ret
        exact ⟨rfl, HB6.out.trans (hb7.mono HB6.out.size)⟩
      · rw [if_neg (by decide)]
        go_wp2_with fail
        refine (ref17_fixed _).mono ?_
        rintro e w5 ⟨g1, g2, rfl, r1, r2, hb5⟩
        have HB5 := Lib.hid (HB4.out.trans (hb5.mono HB4.out.size))
        have HC := Lib.hid (HREF.out g1 g2 w5 r1 r2 (h0.below HB5.out))
        clear r1 r2 hb5 HREF HB4
        go_wp2_with fail
        refine HC.out.mono ?_
        rintro e w6 ⟨rfl, hb6⟩
        have HB6 := Lib.hid (HB5.out.trans (hb6.mono HB5.out.size))
        clear HC hb6 HB5
        go_wp2_with fail
        refine (law17_counts _).mono ?_
        rintro e w7 ⟨rfl, hb7⟩
        go_wp2
        go_ret
        exact ⟨rfl, HB6.out.trans (hb7.mono HB6.out.size)⟩
end Go.Proofs.Ytlofoocgiomfbaa
