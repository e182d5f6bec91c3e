/- InflateAhead: the walk. -/
import Derived.Test.YtlofoocgiomfbaaFlw
import Derived.Test.YtlofoocgiomfbaaAhead
import Derived.Test.YtlofoocgiomfbaaOpen
namespace Go.Proofs.Ytlofoocgiomfbaa
open Go.RowKit Go.Shelf M01 M04 M09 M10
set_option linter.unusedVariables false

set_option maxRecDepth 100000 in
set_option maxHeartbeats 3200000 in
theorem law_ahead (w : World) (a b : Option Addr) (ca cb : Nat) (l m : List Nat) (ha : RowN .u8 w a ca l) (hb : RowN .u8 w b cb m) (hl : ∀ x ∈ l, x < 256) (hm : ∀ x ∈ m, x < 256) :
    Calls Try.prog 8 #[.slice a l.length ca, .slice b m.length cb] w fun e w' => e = .returned (.bool true) ∧ Below w.heap.size w w' := by
  by_cases c1 : 400 < l.length
  · have t1 : decide ((400 : Int) < (l.length : Int)) = true := by simp; omega
    clear ha hb hl hm c1
    go_enter Try.func8, Try.ntmps8
    go_wp2
    go_ret
    exact ⟨rfl, Below.refl _ _⟩
  have t1 : decide ((400 : Int) < (l.length : Int)) = false := by simp; omega
  by_cases c2 : 2000 < m.length
  · have t2 : decide ((2000 : Int) < (m.length : Int)) = true := by simp; omega
    clear ha hb hl hm c1 c2
    go_enter Try.func8, Try.ntmps8
    go_wp2
    go_ret
    exact ⟨rfl, Below.refl _ _⟩
  have t2 : decide ((2000 : Int) < (m.length : Int)) = false := by simp; omega
  have HL := Lib.hid (show l.length ≤ 400 by omega)
  have HM := Lib.hid (show m.length ≤ 2000 by omega)
  have HA := Lib.hid ha
  have HBR := Lib.hid hb
  have HLB := Lib.hid hl
  have HMB := Lib.hid hm
  clear ha hb hl hm c1 c2
  cases hR : inflB l with
  | none =>
    go_enter Try.func8, Try.ntmps8
    go_wp2_with fail
    refine (inflate_none (keep := 4000) HA.out HLB.out (by have := HL.out; omega) (by decide) hR).mono ?_
    rintro e w1 ⟨hb1, rfl⟩
    have hb2 := box_b w1 (.cells #[.slice none 0 0, .int .i64 0, .int .i64 0, .bool false] 39)
    have HB2 := Lib.hid (hb1.trans (hb2.mono hb1.size))
    clear hb1 hb2
    go_wp2_with fail
    refine (law10_reads _).mono ?_
    rintro e w6 ⟨rfl, hb6⟩
    have HB6 := Lib.hid (HB2.out.trans (hb6.mono HB2.out.size))
    clear hb6 HB2
    go_wp2
    go_ret
    exact ⟨rfl, HB6.out⟩
  | some r =>
    obtain ⟨at2, o⟩ := r
    have HR2 := Lib.hid (inflB_ahead hR HMB.out HM.out)
    obtain ⟨u, hu⟩ : ∃ u, (at2 + 7) / 8 = u := ⟨_, rfl⟩
    have hul : u ≤ 400 := by have := (inflB_bound hR).2; have := HL.out; omega
    have HR := Lib.hid hR
    clear hR
    obtain ⟨fb, hfb⟩ : ∃ fb, o.take 4000 = fb := ⟨_, rfl⟩
    obtain ⟨sz, hsz⟩ : ∃ sz, o.length = sz := ⟨_, rfl⟩
    replace hfb := Lib.hid hfb
    replace hsz := Lib.hid hsz
    replace hu := Lib.hid hu
    go_enter Try.func8, Try.ntmps8
    go_wp2_with fail
    refine (inflate_some (keep := 4000) HA.out HLB.out (by have := HL.out; omega) (by decide) HR.out).mono ?_
    rintro e w1 ⟨hb1, a1, k1, rfl, hr1⟩
    rw [hfb.out, hsz.out, hu.out]
    rw [hfb.out] at hr1
    have hb2 := box_b w1 (.cells #[.slice a1 fb.length k1, .int .i64 (sz : Nat), .int .i64 (u : Nat), .bool false] 39)
    have HB2 := Lib.hid (hb1.trans (hb2.mono hb1.size))
    have HF2 := Lib.hid (FlwAt.new w1 (s := sz) (u := u) hr1)
    clear hb1 hb2 hr1
    obtain ⟨n, hn⟩ : ∃ n, m.length = n := ⟨_, rfl⟩
    have hn2 : n ≤ 2000 := by rw [← hn]; exact HM.out
    obtain ⟨x1, hx1⟩ : ∃ x, n % 256 = x := ⟨_, rfl⟩
    obtain ⟨x2, hx2⟩ : ∃ x, n / 256 = x := ⟨_, rfl⟩
    obtain ⟨x3, hx3⟩ : ∃ x, 255 - x1 = x := ⟨_, rfl⟩
    obtain ⟨x4, hx4⟩ : ∃ x, 255 - x2 = x := ⟨_, rfl⟩
    have q1 : (n : Int) % 256 = (x1 : Int) := by omega
    have q2 : (n : Int) / 256 = (x2 : Int) := by omega
    have q3 : (255 : Int) - (x1 : Int) = (x3 : Int) := by omega
    have q4 : (255 : Int) - (x2 : Int) = (x4 : Int) := by omega
    have HSH : Hid (stoHead n = [0, x1, x2, x3, x4]) := by unfold Hid stoHead; rw [hx1, hx2, hx3, hx4]
    have hxb : x1 < 256 ∧ x2 < 256 ∧ x3 < 256 ∧ x4 < 256 := by omega
    clear hx1 hx2 hx3 hx4
    rw [hn] at t2
    rw [hn]
    replace hn := Lib.hid hn
    obtain ⟨w2, hw2⟩ : ∃ w2, w1.alloc (.cells #[.slice a1 fb.length k1, .int .i64 (sz : Nat), .int .i64 (u : Nat), .bool false] 39) = w2 := ⟨_, rfl⟩
    have hs2 : w1.heap.size + 1 = w2.heap.size := by rw [← hw2]; simp
    rw [hw2] at HB2 HF2
    replace hs2 := Lib.hid hs2
    replace hw2 := Lib.hid hw2
    have hll : l.length ≤ 400 := HL.out
    go_wp2_with (first
      | (at_builtin; rw [hw2.out]; refine appAnyN et_u8 rfl (.tmp 42) (.tmp 43) rfl (a := some ⟨w1.heap.size + 1, 0, none⟩) (cap := 5) (l := [0, x1, x2, x3, x4]) (ys := m) (base := w2.heap.size) rfl (OwnN.lit _ _ _ [0, x1, x2, x3, x4] _ _ hs2.out rfl (Nat.le_refl _) (by simp [maxLen])) hn.out.symm rfl (HBR.out.below (HB2.out.trans ((box_b w2 _).mono HB2.out.size))) (by show 5 + n ≤ _; omega) (by show (5 + n) * 1 ≤ _; omega) (by simp) ?_; intro a5 c5 w6 hown6 hg6 hb6; replace hb6 := (box_b w2 _).trans hb6)
      | (at_builtin; refine appAnyN et_u8 rfl (.tmp 46) (.tmp 47) rfl (a := a5) (cap := c5) (l := [0, x1, x2, x3, x4] ++ m) (ys := l) (base := w2.heap.size) (by rw [List.length_append, hn.out]; rfl) hown6 rfl rfl ((HA.out.below HB2.out).below hb6) (by rw [List.length_append, hn.out]; show 5 + n + _ ≤ _; omega) (by rw [List.length_append, hn.out]; show (5 + n + _) * 1 ≤ _; omega) hb6.size ?_; intro a7 c7 w7 hown7 hg7 hb7))
    have HF7 := Lib.hid (HF2.out.below (hb6.trans hb7))
    have HB7 := Lib.hid (HB2.out.trans ((hb6.trans hb7).mono HB2.out.size))
    have hr7 := hown7.row
    have hR2 := HR2.out
    rw [hn.out, HSH.out, ← List.append_assoc] at hR2
    have HI0 := inflate_some (keep := 4000 + n) hr7 (fun x hx => by
      simp only [List.mem_append, List.mem_cons, List.not_mem_nil, or_false] at hx
      rcases hx with ((rfl | rfl | rfl | rfl | rfl) | h) | h
      · omega
      · omega
      · omega
      · omega
      · omega
      · exact HMB.out x h
      · exact HLB.out x h) (by simp only [List.length_append, List.length_cons, List.length_nil, hn.out]; omega) (by omega) hR2
    obtain ⟨gs, hgs⟩ : ∃ gs, sz + n = gs := ⟨_, rfl⟩
    obtain ⟨v1, hv1⟩ : ∃ v1, u + n = v1 := ⟨_, rfl⟩
    obtain ⟨gu, hgu⟩ : ∃ gu, v1 + 5 = gu := ⟨_, rfl⟩
    have q5 : (sz : Int) + (n : Int) = (gs : Int) := by omega
    have q6 : (u : Int) + (n : Int) = (v1 : Int) := by omega
    have q7 : (v1 : Int) + 5 = (gu : Int) := by omega
    have htk : (m ++ o).take (4000 + n) = m ++ fb := by rw [← hfb.out, Nat.add_comm, ← hn.out, List.take_length_add_append]
    rw [htk, show (m ++ o).length = gs by rw [List.length_append, hn.out, hsz.out]; omega, show (at2 + 8 * (5 + n) + 7) / 8 = gu by have := hu.out; omega,
      show ([0, x1, x2, x3, x4] ++ m ++ l).length = m.length + 1 + 1 + 1 + 1 + 1 + l.length by simp only [List.length_append, List.length_cons, List.length_nil]; omega,
      show ((4000 + n : Nat) : Int) = 4000 + (n : Int) by omega] at HI0
    have HI := Lib.hid HI0
    have hsb : sz ≤ 10000000 := by
      have h1 := inflB_size HR.out
      have h2 := (inflB_bound HR.out).2
      rw [hsz.out] at h1
      omega
    clear HI0 hown6 hg6 hb6 hown7 hg7 hb7 hr7 hR2 HF2 HB2 htk
    refine HI.out.mono ?_
    rintro e w8 ⟨hb8, a8, k8, rfl, hr8⟩
    clear HI
    have HF8 := Lib.hid (HF7.out.below hb8)
    have HB8 := Lib.hid (HB7.out.trans (hb8.mono HB7.out.size))
    have HN8 := Lib.hid (FlwAt.new w8 (s := gs) (u := gu) hr8)
    have hb9 := box_b w8 (.cells #[.slice a8 (m ++ fb).length k8, .int .i64 (gs : Nat), .int .i64 (gu : Nat), .bool false] 39)
    have HF9 := Lib.hid (HF8.out.below hb9)
    have HB9 := Lib.hid (HB8.out.trans (hb9.mono HB8.out.size))
    clear hb8 hr8 HF7 HB7 HF8 HB8 hb9
    obtain ⟨gl, hgl⟩ : ∃ gl, (m ++ fb).length = gl := ⟨_, rfl⟩
    rw [hgl]
    have hcv1 := conv_row Try.underlying23 Try.underlying5 Try.underlying9 hgl.symm HN8.out.2.1
    have hcv2 := conv_row Try.underlying23 Try.underlying5 Try.underlying9 hn.out.symm (HBR.out.below HB9.out)
    have hcv3 := conv_row Try.underlying23 Try.underlying5 Try.underlying9 rfl HF9.out.2.1
    rw [strOf_append] at hcv1
    obtain ⟨e0, e1, e2, e3, _, _⟩ := four_cells HF9.out.1
    obtain ⟨d0, d1, d2, d3, _, _⟩ := four_cells HN8.out.1
    rw [hgl] at hcv1 hcv2 hcv3 e0 e1 e2 e3 d0 d1 d2 d3 HB9
    have hss : ¬ 9223372036854775807 < (strOf m).size + (strOf fb).size := by
      rw [strOf_size, strOf_size, hn.out, ← hfb.out, List.length_take]
      omega
    generalize strOf m = sm at *
    generalize strOf fb = sf at *
    go_wp2_with (first | (go_at_call 21; refine (law10_reads _).mono ?_; rintro e w13 ⟨rfl, hb13⟩))
    have HB13 := Lib.hid (HB9.out.trans (hb13.mono HB9.out.size))
    clear hb13
    go_wp2
    go_ret
    exact ⟨rfl, HB13.out⟩
end Go.Proofs.Ytlofoocgiomfbaa
