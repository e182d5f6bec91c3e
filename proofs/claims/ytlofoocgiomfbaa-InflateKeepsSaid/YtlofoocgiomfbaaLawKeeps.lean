/- InflateKeeps: the walk. -/
import Derived.Test.YtlofoocgiomfbaaFlw
import Derived.BigQuiet
import Derived.Test.YtlofoocgiomfbaaOpen
namespace Go.Proofs.Ytlofoocgiomfbaa
open Go.RowKit Go.Shelf M01 M04 M09 M10
set_option linter.unusedVariables false

set_option maxRecDepth 100000 in
set_option maxHeartbeats 3200000 in
theorem law_keeps (w : World) (a b : Option Addr) (ca cb : Nat) (l m : List Nat) (kp : Nat) (ha : RowN .u8 w a ca l) (hb : RowN .u8 w b cb m) (hl : ∀ x ∈ l, x < 256) (hm : ∀ x ∈ m, x < 256) (hk : kp < 65536) :
    Calls Try.prog 7 #[.slice a l.length ca, .slice b m.length cb, .int .u16 (kp : Nat)] w fun e w' => e = .returned (.bool true) ∧ Below w.heap.size w w' := by
  by_cases c1 : 500 < l.length
  · have t1 : decide ((500 : Int) < (l.length : Int)) = true := by simp; omega
    clear ha hb hl hm c1
    go_enter Try.func7, Try.ntmps7
    go_wp2
    go_ret
    exact ⟨rfl, Below.refl _ _⟩
  have t1 : decide ((500 : Int) < (l.length : Int)) = false := by simp; omega
  by_cases c2 : 100 < m.length
  · have t2 : decide ((100 : Int) < (m.length : Int)) = true := by simp; omega
    clear ha hb hl hm c1 c2
    go_enter Try.func7, Try.ntmps7
    go_wp2
    go_ret
    exact ⟨rfl, Below.refl _ _⟩
  have t2 : decide ((100 : Int) < (m.length : Int)) = false := by simp; omega
  have HL := Lib.hid (show l.length ≤ 500 by omega)
  have HM := Lib.hid (show m.length ≤ 100 by omega)
  have HA := Lib.hid ha
  have HBR := Lib.hid hb
  have HLB := Lib.hid hl
  have HMB := Lib.hid hm
  clear ha hb hl hm c1 c2
  obtain ⟨n, hn⟩ : ∃ n, kp % 4001 = n := ⟨_, rfl⟩
  have hn4 : n ≤ 4000 := by omega
  have hn2 : ((kp : Nat) : Int) % 4001 = (n : Int) := by omega
  have hn3 : Int.tmod ((kp : Nat) : Int) 4001 = (n : Int) := by rw [← hn]; rfl
  clear hn
  cases hR : inflB l with
  | none =>
    go_enter Try.func7, Try.ntmps7
    go_wp2_with fail
    refine (inflate_none (keep := 4000) HA.out HLB.out (by have := HL.out; omega) (by decide) hR).mono ?_
    rintro e w1 ⟨hb1, rfl⟩
    have hb2 := box_b w1 (.cells #[.slice none 0 0, .int .i64 0, .int .i64 0, .bool false] 39)
    have HB2 := Lib.hid (hb1.trans (hb2.mono hb1.size))
    have HF2 := Lib.hid (FlwAt.new w1 (a := none) (c := 0) (s := 0) (u := 0) (l := []) ⟨by simp, ⟨by omega, fun _ => rfl⟩, .inl rfl⟩)
    clear hb1 hb2
    go_wp2_with fail
    obtain ⟨w2, hw2⟩ : ∃ w2, w1.alloc (.cells #[.slice none 0 0, .int .i64 0, .int .i64 0, .bool false] 39) = w2 := ⟨_, rfl⟩
    replace HF2 := Lib.hid (show FlwAt w2 w1.heap.size none 0 [] 0 0 from hw2 ▸ HF2.out)
    rw [hw2] at HB2
    rw [hw2]
    clear hw2
    generalize w1.heap.size = bf at *
    refine (inflate_none (keep := n) (HA.out.below HB2.out) HLB.out (by have := HL.out; omega) (by omega) hR).mono ?_
    rintro e w3 ⟨hb3, rfl⟩
    have hb4 := box_b w3 (.cells #[.slice none 0 0, .int .i64 0, .int .i64 0, .bool false] 39)
    have HF4 := Lib.hid ((HF2.out.below hb3).below hb4)
    have HB4 := Lib.hid ((HB2.out.trans (hb3.mono HB2.out.size)).trans (hb4.mono (HB2.out.trans (hb3.mono HB2.out.size)).size))
    clear HF2 HB2 hb3 hb4
    obtain ⟨e0, e1, e2, e3, _, _⟩ := four_cells HF4.out.1
    replace e0 : _ = some (Value.slice none 0 0) := e0
    replace e1 : _ = some (Value.int .i64 0) := e1
    replace e2 : _ = some (Value.int .i64 0) := e2
    go_wp2_with fail
    refine (same_zero _).mono ?_
    rintro e w5 ⟨rfl, hb5⟩
    have HB5 := Lib.hid (HB4.out.trans (hb5.mono HB4.out.size))
    clear hb5 e0 e1 e2 e3 HB4
    go_wp2_with fail
    refine (law10_reads _).mono ?_
    rintro e w6 ⟨rfl, hb6⟩
    have HB6 := Lib.hid (HB5.out.trans (hb6.mono HB5.out.size))
    clear hb6 HB5
    go_wp2
    go_ret
    exact ⟨rfl, HB6.out⟩
  | some r =>
    obtain ⟨at2, o⟩ := r
    obtain ⟨hat0, hat8⟩ := inflB_bound hR
    obtain ⟨u, hu⟩ : ∃ u, (at2 + 7) / 8 = u := ⟨_, rfl⟩
    have hu1 : 1 ≤ u := by omega
    have hul : u ≤ l.length := by omega
    have HR := Lib.hid hR
    have HR2 := Lib.hid (inflB_behind (m := m) hR hu hul)
    have HR3 := Lib.hid (inflB_cut (k := u - 1) hR (by omega))
    have HTK := Lib.hid (rowN_take HA.out u)
    have hca := HA.out.1
    clear hR
    obtain ⟨tk, htk⟩ : ∃ tk, l.take u = tk := ⟨_, rfl⟩
    have htl : tk.length = u := by rw [← htk, List.length_take]; omega
    rw [htk] at HR2 HTK
    replace htk := Lib.hid htk
    subst htl
    obtain ⟨fb, hfb⟩ : ∃ fb, o.take 4000 = fb := ⟨_, rfl⟩
    obtain ⟨gb, hgb⟩ : ∃ gb, o.take n = gb := ⟨_, rfl⟩
    obtain ⟨sz, hsz⟩ : ∃ sz, o.length = sz := ⟨_, rfl⟩
    have HLF : Hid (fb.length = min 4000 sz) := by unfold Hid; rw [← hfb, List.length_take, hsz]
    have HLG : Hid (gb.length = min n sz) := by unfold Hid; rw [← hgb, List.length_take, hsz]
    have HPG : Hid (fb.take gb.length = gb) := by
      unfold Hid
      rw [HLG.out, ← hfb, ← hgb, ← hsz, List.take_take]
      rcases Nat.le_total n o.length with h | h
      · rw [Nat.min_eq_left h, Nat.min_eq_left hn4]
      · rw [Nat.min_eq_right h, List.take_of_length_le (by omega), List.take_of_length_le h]
    replace hfb := Lib.hid hfb
    replace hgb := Lib.hid hgb
    replace hsz := Lib.hid hsz
    replace hu := Lib.hid hu
    go_enter Try.func7, Try.ntmps7
    go_wp2_with fail
    refine (inflate_some (keep := 4000) HA.out HLB.out (by have := HL.out; omega) (by decide) HR.out).mono ?_
    rintro e w1 ⟨hb1, a1, k1, rfl, hr1⟩
    rw [hfb.out, hsz.out, hu.out]
    rw [hfb.out] at hr1
    have hb2 := box_b w1 (.cells #[.slice a1 fb.length k1, .int .i64 (sz : Nat), .int .i64 (tk.length : Nat), .bool false] 39)
    have HB2 := Lib.hid (hb1.trans (hb2.mono hb1.size))
    have HF2 := Lib.hid (FlwAt.new w1 (s := sz) (u := tk.length) hr1)
    clear hb1 hb2 hr1
    go_wp2_with fail
    obtain ⟨w2, hw2⟩ : ∃ w2, w1.alloc (.cells #[.slice a1 fb.length k1, .int .i64 (sz : Nat), .int .i64 (tk.length : Nat), .bool false] 39) = w2 := ⟨_, rfl⟩
    replace HF2 := Lib.hid (show FlwAt w2 w1.heap.size a1 k1 fb sz tk.length from hw2 ▸ HF2.out)
    rw [hw2] at HB2
    rw [hw2]
    clear hw2
    generalize w1.heap.size = bf at *
    refine (inflate_some (keep := n) (HA.out.below HB2.out) HLB.out (by have := HL.out; omega) (by omega) HR.out).mono ?_
    rintro e w3 ⟨hb3, a3, k3, rfl, hr3⟩
    rw [hgb.out, hsz.out, hu.out]
    rw [hgb.out] at hr3
    have hb4 := box_b w3 (.cells #[.slice a3 gb.length k3, .int .i64 (sz : Nat), .int .i64 (tk.length : Nat), .bool false] 39)
    have HF4 := Lib.hid ((HF2.out.below hb3).below hb4)
    have HG4 := Lib.hid (FlwAt.new w3 (s := sz) (u := tk.length) hr3)
    have HB4 := Lib.hid ((HB2.out.trans (hb3.mono HB2.out.size)).trans (hb4.mono (HB2.out.trans (hb3.mono HB2.out.size)).size))
    clear HF2 HB2 hb3 hb4 hr3
    go_wp2_with fail
    obtain ⟨w4, hw4⟩ : ∃ w4, w3.alloc (.cells #[.slice a3 gb.length k3, .int .i64 (sz : Nat), .int .i64 (tk.length : Nat), .bool false] 39) = w4 := ⟨_, rfl⟩
    rw [hw4] at HF4 HG4 HB4
    rw [hw4]
    clear hw4
    generalize w3.heap.size = bg at *
    have hsub := rowN_take HF4.out.2.1 gb.length
    rw [HPG.out] at hsub
    have hcv1 : ∀ q, (convert 23 9 (.slice a3 gb.length k3)).run Try.prog (w4.drewN q) = .ok (.string (strOf gb)) (w4.drewN q) := fun q => conv_row Try.underlying23 Try.underlying5 Try.underlying9 rfl (HG4.out.2.1.drewN q)
    have hcv2 : ∀ q, (convert 23 9 (.slice a1 gb.length k1)).run Try.prog (w4.drewN q) = .ok (.string (strOf gb)) (w4.drewN q) := fun q => conv_row Try.underlying23 Try.underlying5 Try.underlying9 rfl (hsub.drewN q)
    have hcap := hsub.1
    clear hsub
    obtain ⟨e0, e1, e2, e3, _, _⟩ := four_cells HF4.out.1
    obtain ⟨d0, d1, d2, d3, _, _⟩ := four_cells HG4.out.1
    have q1 : (if sz < n then (sz : Int) else (n : Int)) = (gb.length : Int) := by rw [HLG.out]; split <;> omega
    have q2 : (if sz < 4000 then (sz : Int) else 4000) = (fb.length : Int) := by rw [HLF.out]; split <;> omega
    have q2' : (if (sz : Int) < 4000 then (sz : Int) else 4000) = (fb.length : Int) := by rw [HLF.out]; split <;> omega
    have q3 : (0 : Int) ≤ (gb.length : Int) := by omega
    have q4 : (gb.length : Int) ≤ (k1 : Int) := by omega
    have u1 : decide ((tk.length : Int) < 1) = false := by simp; omega
    have u2 : decide (l.length < tk.length) = false := by simp; omega
    generalize strOf gb = str at *
    go_quiet (fail)
    have HF5 := Lib.hid (HF4.out.drewN nq)
    have HB5 := Lib.hid (below_drewN HB4.out nq)
    clear HF4 HG4 HB4 hcv1 hcv2 e0 e1 e2 e3 d0 d1 d2 d3 q1 q2 q2' q3 q4
    generalize w4.drewN nq = w5 at *
    obtain ⟨e0, e1, e2, e3, _, _⟩ := four_cells HF5.out.1
    have hx5 := HF5.out.below (box_b w5 (.cells #[] 5))
    obtain ⟨x0, x1, x2, x3, _, _⟩ := four_cells hx5.1
    clear hx5
    have p1 : (0 : Int) ≤ (tk.length : Int) := by omega
    have p2 : (tk.length : Int) ≤ (ca : Int) := by omega
    have HRB5 := Lib.hid (HBR.out.below HB5.out)
    have HTK5 := Lib.hid (HTK.out.below HB5.out)
    have hmm : m.length ≤ 100 := HM.out
    have hll : tk.length ≤ 500 := by have := HL.out; omega
    go_wp2_with (first
      | (at_builtin; refine appAnyN et_u8 rfl (.tmp 112) (.tmp 116) rfl (a := some ⟨w5.heap.size, 0, none⟩) (cap := 0) (l := []) (ys := tk) (base := w5.heap.size) rfl (OwnN.lit0 _ _ _ _ (Nat.le_refl _)) rfl rfl (HTK5.out.below ((Below.refl _ _).alloc (Nat.le_refl _) _)) (by simp; omega) (by simp; omega) (by simp) ?_; intro a5 c5 w6 hown6 hg6 hb6; simp only [List.nil_append] at hown6; replace hb6 := ((Below.refl w5.heap.size w5).alloc (Nat.le_refl _) _).trans hb6)
      | (at_builtin; refine appAnyN et_u8 rfl (.tmp 117) (.tmp 118) rfl (a := a5) (cap := c5) (l := tk) (ys := m) (base := w5.heap.size) rfl hown6 rfl rfl (HRB5.out.below hb6) (by omega) (by omega) hb6.size ?_; intro a7 c7 w7 hown7 hg7 hb7))
    have HB7 := Lib.hid (HB5.out.trans ((hb6.trans hb7).mono HB5.out.size))
    have HF7 := Lib.hid (HF5.out.below (hb6.trans hb7))
    have hr7 := hown7.row
    have hlen : (tk ++ m).length = tk.length + m.length := List.length_append
    have HI := Lib.hid (inflate_some (keep := 4000) hr7 (fun x hx => by
      rcases List.mem_append.1 hx with h | h
      · rw [← htk.out] at h; exact HLB.out x (List.mem_of_mem_take h)
      · exact HMB.out x h) (by rw [hlen]; omega) (by decide) HR2.out)
    rw [hlen, hfb.out, hsz.out, hu.out] at HI
    clear hown6 hg6 hb6 hown7 hg7 hb7 HF5 HB5 e0 e1 e2 e3 x0 x1 x2 x3 hr7 hlen HRB5 HTK5 HR2
    refine HI.out.mono ?_
    rintro e w8 ⟨hb8, a8, k8, rfl, hr8⟩
    clear HI
    have HF8 := Lib.hid (HF7.out.below hb8)
    have HB8 := Lib.hid (HB7.out.trans (hb8.mono HB7.out.size))
    have HN8 := Lib.hid (FlwAt.new w8 (s := sz) (u := tk.length) hr8)
    have hb9 := box_b w8 (.cells #[.slice a8 fb.length k8, .int .i64 (sz : Nat), .int .i64 (tk.length : Nat), .bool false] 39)
    have HF9 := Lib.hid (HF8.out.below hb9)
    have HB9 := Lib.hid (HB8.out.trans (hb9.mono HB8.out.size))
    clear hb8 hr8 HF7 HB7 HF8 HB8 hb9
    obtain ⟨e0, e1, e2, e3, _, _⟩ := four_cells HF9.out.1
    obtain ⟨v, hv⟩ : ∃ v, tk.length - 1 = v := ⟨_, rfl⟩
    have q1 : (tk.length : Int) - 1 = (v : Int) := by omega
    have q2 : (0 : Int) ≤ (v : Int) := by omega
    have q3 : (v : Int) ≤ (ca : Int) := by omega
    have hvl : (l.take v).length = v := by rw [List.length_take]; omega
    have HI := Lib.hid (inflate_none (keep := 4000) (rowN_take (HA.out.below HB9.out) v) (fun x hx => HLB.out x (List.mem_of_mem_take hx)) (by rw [hvl]; have := HL.out; omega) (by decide) (hv ▸ HR3.out))
    rw [hvl] at HI
    clear hv hvl HR3
    go_wp2_with fail
    obtain ⟨w9, hw9⟩ : ∃ w9, w8.alloc (.cells #[.slice a8 fb.length k8, .int .i64 (sz : Nat), .int .i64 (tk.length : Nat), .bool false] 39) = w9 := ⟨_, rfl⟩
    rw [hw9] at HN8 HF9 HB9 HI
    rw [hw9]
    clear hw9 e0 e1 e2 e3
    generalize w8.heap.size = bx at *
    refine HI.out.mono ?_
    rintro e w10 ⟨hb10, rfl⟩
    clear HI
    have hb11 := box_b w10 (.cells #[.slice none 0 0, .int .i64 0, .int .i64 0, .bool false] 39)
    have HF11 := Lib.hid ((HF9.out.below hb10).below hb11)
    have HN11 := Lib.hid ((HN8.out.below hb10).below hb11)
    have HB10 := HB9.out.trans (hb10.mono HB9.out.size)
    have HB11 := Lib.hid (HB10.trans (hb11.mono HB10.size))
    clear HF9 HN8 HB9 hb10 hb11 HB10
    obtain ⟨e0, e1, e2, e3, _, _⟩ := four_cells HF11.out.1
    obtain ⟨d0, d1, d2, d3, _, _⟩ := four_cells HN11.out.1
    have HS := Lib.hid (same_flow _ a8 a1 k8 k1 fb fb sz tk.length sz tk.length HN11.out.2.1 HF11.out.2.1)
    rw [sameB_refl] at HS
    go_wp2_with fail
    refine HS.out.mono ?_
    rintro e w12 ⟨rfl, hb12⟩
    have HB12 := Lib.hid (HB11.out.trans (hb12.mono HB11.out.size))
    clear hb12 HS e0 e1 e2 e3 d0 d1 d2 d3 HB11
    go_wp2_with fail
    refine (law10_reads _).mono ?_
    rintro e w13 ⟨rfl, hb13⟩
    have HB13 := Lib.hid (HB12.out.trans (hb13.mono HB12.out.size))
    clear hb13 HB12
    go_wp2
    go_ret
    exact ⟨rfl, HB13.out⟩
end Go.Proofs.Ytlofoocgiomfbaa
