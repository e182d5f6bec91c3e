/- CostSums: the law's walk. -/
import Derived.Test.YtlofoocgiomfbaaCost
namespace Go.Proofs.Ytlofoocgiomfbaa
open Go.RowKit M17
set_option linter.unusedVariables false

theorem fix_bad (l : List Tok) (h : ∃ t ∈ l, ¬ tokOk t) : fixOut l = (0, 5) := by
  unfold fixOut; rw [symU_bad _ _ _ _ (useU_bad l h)]
/-- the bits of tokens that may be, by the fixed codes -/
def fixB (l : List Tok) : Nat := sumL (fun r => lensOf fixF fixO r + r.bits) (l.flatMap tokU)
theorem fix_ok (l : List Tok) (h : ∀ t ∈ l, tokOk t) (hb : ∀ t ∈ l, t.byte < 256) : fixOut l = (fixB l + 10, 0) := by
  have hr := useU_rows l h hb
  have hs : symU fixF fixO (useU l) 0 = some (fixB l + 7) := by
    rw [symU_eq _ _ _ _ fun r hr' => (hr r hr').1, if_pos]
    · rw [useU_ok l h, sumL_append]
      congr 1
      have : sumL (fun r => lensOf fixF fixO r + r.bits) [endU] = 7 := by decide +kernel
      rw [this, Nat.zero_add]; rfl
    · intro r hr'
      have h3 := (hr r hr').2.2
      unfold lensOf
      cases hf : r.far with
      | false => rw [hf] at h3; exact fix_pos1 _ (by simpa using h3)
      | true => rw [hf] at h3; exact fix_pos2 _ (by simpa using h3)
  unfold fixOut
  rw [hs]
  simp only [Prod.mk.injEq, and_true]
  omega
theorem fixB_app (l o : List Tok) : fixB (l ++ o) = fixB l + fixB o := by unfold fixB; rw [List.flatMap_append, sumL_append]
theorem fixB_le (l : List Tok) (h : ∀ t ∈ l, tokOk t) (hb : ∀ t ∈ l, t.byte < 256) (hl : l.length ≤ 1000) : fixB l ≤ 1000000 := by
  have h1 := fix_ok l h hb
  have hs : ∀ m, symU fixF fixO (useU l) 0 = some m → m ≤ 2001 * 400 := fun m hm => by
    have h1 := symU_le fixF fixO fixF_le fixO_le _ (bits_le l) 0 m hm
    have h2 := useU_len l
    have : (useU l).length * 400 ≤ 2001 * 400 := Nat.mul_le_mul_right _ (by omega)
    omega
  unfold fixOut at h1
  cases hc : symU fixF fixO (useU l) 0 with
  | none => rw [hc] at h1; cases h1
  | some m => rw [hc] at h1; have := hs m hc; simp at h1; omega
theorem tok_elems : ElemS Try.prog 22 28 encT (.agg #[.int .i64 0, .int .i64 0, .int .u8 0]) 24 := ⟨Try.underlying22, by kernel_rfl, by kernel_rfl⟩

theorem sums_stored (n a : Nat) : storedZ n a = ((st n a - a : Nat) : Int) ∧ (st n a) % 8 = 0 ∧ st n a - a ≤ 8 * n + 42 * (n / 65535 + 1) ∧ 8 * n + 35 ≤ st n a - a ∧ a ≤ st n a := by
  have h := st_le n a
  refine ⟨?_, h.2.2, by omega, by omega, by omega⟩
  unfold storedZ
  rw [if_neg (by omega)]
  simp only [Int.toNat_natCast]
  omega

set_option maxRecDepth 100000 in
set_option maxHeartbeats 1600000 in
theorem law_sums (a0 a1 : Option Addr) (cap0 cap1 : Nat) (l o : List Tok) (n a : Nat) (w : World) (h0 : RowS encT w a0 cap0 l) (h1 : RowS encT w a1 cap1 o) (b0 : ∀ t ∈ l, t.byte < 256) (b1 : ∀ t ∈ o, t.byte < 256) (hn : n < 4294967296) (ha : a < 4294967296) :
    Calls Try.prog 5 #[.slice a0 l.length cap0, .slice a1 o.length cap1, .int .u32 n, .int .u32 a] w (RetTrue17 w) := by
  have hll := h0.len
  have hlo := h1.len
  by_cases hl2 : l.length ≤ 200
  case neg =>
    have c0 : decide ((200 : Int) < (l.length : Int)) = true := by simp; omega
    clear hl2
    go_enter Try.func5, Try.ntmps5
    go_wp2
    go_ret
    exact ⟨rfl, Below.refl _ _⟩
  have c0 : decide ((200 : Int) < (l.length : Int)) = false := by simp; omega
  by_cases ho2 : o.length ≤ 200
  case neg =>
    have c1 : decide ((200 : Int) < (o.length : Int)) = true := by simp; omega
    clear hl2 ho2
    go_enter Try.func5, Try.ntmps5
    go_wp2
    go_ret
    exact ⟨rfl, Below.refl _ _⟩
  have c1 : decide ((200 : Int) < (o.length : Int)) = false := by simp; omega
  have B0 := Lib.hid b0
  have B1 := Lib.hid b1
  clear b0 b1
  go_enter Try.func5, Try.ntmps5
  go_wp2_with fail
  obtain ⟨x, hx, hxl⟩ : ∃ x : Nat, (n : Int) % 1048576 = (x : Int) ∧ x ≤ 1048576 := ⟨n % 1048576, by omega, by omega⟩
  obtain ⟨y, hy, hyl⟩ : ∃ y : Nat, (a : Int) % 1048576 = (y : Int) ∧ y ≤ 1048576 := ⟨a % 1048576, by omega, by omega⟩
  simp only [hx, hy]
  clear hx hy hn ha
  refine (cost_stored x y _ (by omega) (by omega)).mono ?_
  rintro e w1 ⟨rfl, rfl⟩
  obtain ⟨z1, z2, z3, z4, z5⟩ := sums_stored x y
  rw [z1]
  obtain ⟨z, hz⟩ : ∃ z, st x y - y = z := ⟨_, rfl⟩
  have z6 : (y + z) % 8 = 0 := by omega
  rw [hz] at z3 z4
  rw [hz]
  clear z1 z2 z5 hz
  have t1 : (((y : Int) + (z : Int)) % 8 != 0) = false := by simp; omega
  have t2 : decide (8 * (x : Int) + 42 * ((x : Int) / 65535 + 1) < (z : Int)) = false := by simp; omega
  have t3 : decide ((z : Int) < 8 * (x : Int) + 35) = false := by simp; omega
  have hzl : z ≤ 100000000 := by omega
  clear z3 z4 z6
  go_wp2_with fail
  refine (cost_Fixed a0 cap0 l _ (by omega) B0.out h0).mono ?_
  rintro e w2 ⟨rfl, hb2⟩
  have HB2 := Lib.hid hb2
  clear hb2
  go_wp2_with fail
  refine (cost_Fixed a1 cap1 o _ (by omega) B1.out (h1.below HB2.out)).mono ?_
  rintro e w3 ⟨rfl, hb3⟩
  have HB3 := Lib.hid (HB2.out.trans (hb3.mono HB2.out.size))
  have H0 := h0.below HB3.out
  have H1 := h1.below HB3.out
  clear hb3 HB2
  have HLO := Lib.hid (show (l ++ o).length ≤ 1000 by rw [List.length_append]; omega)
  have HBY := Lib.hid (show ∀ t ∈ l ++ o, t.byte < 256 from fun t ht => (List.mem_append.1 ht).elim (B0.out t) (B1.out t))
  have HLE := Lib.hid (show ((l ++ o).length : Nat) = l.length + o.length from List.length_append)
  obtain ⟨fl, hfl⟩ : ∃ fl, fixOut l = fl := ⟨_, rfl⟩
  obtain ⟨fo, hfo⟩ : ∃ fo, fixOut o = fo := ⟨_, rfl⟩
  obtain ⟨fb, hfb⟩ : ∃ fb, fixOut (l ++ o) = fb := ⟨_, rfl⟩
  have HK : Hid ((fl.2 = 0 ∧ fo.2 = 0 ∧ fb.2 = 0 ∧ fb.1 + 10 = fl.1 + fo.1 ∧ fl.1 ≤ 2000000 ∧ fo.1 ≤ 2000000) ∨ ((fl.2 = 5 ∨ fl.2 = 0 ∧ fo.2 = 5) ∧ fb.2 = 5)) := by
    unfold Hid
    by_cases k1 : ∀ t ∈ l, tokOk t
    · by_cases k2 : ∀ t ∈ o, tokOk t
      · left
        have e1 := fix_ok l k1 B0.out
        have e2 := fix_ok o k2 B1.out
        have e3 := fix_ok (l ++ o) (fun t ht => (List.mem_append.1 ht).elim (k1 t) (k2 t)) HBY.out
        have e4 := fixB_le l k1 B0.out (by omega)
        have e5 := fixB_le o k2 B1.out (by omega)
        rw [← hfl, ← hfo, ← hfb, e1, e2, e3, fixB_app]
        simp only [true_and]
        omega
      · right
        have hx : ∃ t ∈ o, ¬ tokOk t := by
          apply Classical.byContradiction
          intro hc
          exact k2 fun t ht => Classical.byContradiction fun hn => hc ⟨t, ht, hn⟩
        obtain ⟨t, ht, hn⟩ := hx
        rw [← hfl, ← hfo, ← hfb, fix_ok l k1 B0.out, fix_bad o ⟨t, ht, hn⟩, fix_bad (l ++ o) ⟨t, by simp [ht], hn⟩]
        exact ⟨.inr ⟨rfl, rfl⟩, rfl⟩
    · right
      have hx : ∃ t ∈ l, ¬ tokOk t := by
        apply Classical.byContradiction
        intro hc
        exact k1 fun t ht => Classical.byContradiction fun hn => hc ⟨t, ht, hn⟩
      obtain ⟨t, ht, hn⟩ := hx
      rw [← hfl, ← hfb, fix_bad l ⟨t, ht, hn⟩, fix_bad (l ++ o) ⟨t, by simp [ht], hn⟩]
      exact ⟨.inl rfl, rfl⟩
  rw [hfl, hfo]
  have HFB := Lib.hid hfb
  clear hfl hfo hfb
  obtain ⟨fl1, fl2⟩ := fl
  obtain ⟨fo1, fo2⟩ := fo
  obtain ⟨fb1, fb2⟩ := fb
  simp only at HK ⊢
  clear t1 t2 t3 hxl hyl hzl B0 B1 h0 h1
  go_wp2_with (first | (at_builtin; refine appAnyS tok_elems rfl (.tmp 69) (.tmp 70) rfl (a := some ⟨w3.heap.size, 0, none⟩) (cap := 0) (l := []) (ys := l) (base := w3.heap.size) rfl (OwnS.lit0 _ _ _ _ (Nat.le_refl _)) rfl rfl (H0.below (box_below _ _)) (by simp; omega) (by simp; omega) (by simp) ?_; intro a3 cap3 w4 hown4 hg4 hb4; simp only [List.nil_append] at hown4; simp only [List.length_nil, Nat.zero_add]; replace hb4 := (box_below w3 _).trans hb4) | (at_builtin; refine appAnyS tok_elems rfl (.tmp 71) (.tmp 72) rfl rfl hown4 rfl rfl (H1.below hb4) (by omega) (by omega) hb4.size ?_; intro a5 cap5 w5 hown5 hg5 hb5))
  have HC := cost_Fixed a5 cap5 (l ++ o) w5 HLO.out HBY.out hown5.row
  rw [HLE.out, HFB.out] at HC
  refine HC.mono ?_
  rintro e w6 ⟨rfl, hb6⟩
  have hB5 : Below w3.heap.size w3 w5 := hb4.trans hb5
  have HB6 := Lib.hid (HB3.out.trans ((hB5.trans (hb6.mono hB5.size)).mono HB3.out.size))
  clear HC hown4 hown5 hg4 hg5 hb4 hb5 hb6 hB5 H0 H1
  rcases HK.out with ⟨rfl, rfl, rfl, h4, h5, h6⟩ | ⟨h5, rfl⟩
  · have t4 : ((fb1 : Int) == (fl1 : Int) + (fo1 : Int) - 10) = true := by simp; omega
    have h7 : fb1 ≤ 4000000 := by omega
    clear h4
    go_wp2_with fail
    refine (law17_counts _).mono ?_
    rintro e w7 ⟨rfl, hb7⟩
    go_wp2
    go_ret
    exact ⟨rfl, HB6.out.trans (hb7.mono HB6.out.size)⟩
  · rcases h5 with rfl | ⟨rfl, rfl⟩
    · go_wp2_with fail
      refine (law17_counts _).mono ?_
      rintro e w7 ⟨rfl, hb7⟩
      go_wp2
      go_ret
      exact ⟨rfl, HB6.out.trans (hb7.mono HB6.out.size)⟩
    · go_wp2_with fail
      refine (law17_counts _).mono ?_
      rintro e w7 ⟨rfl, hb7⟩
      go_wp2
      go_ret
      exact ⟨rfl, HB6.out.trans (hb7.mono HB6.out.size)⟩
end Go.Proofs.Ytlofoocgiomfbaa
