/- The reference of layer 17: Symbols, Fixed: contracts. -/
import Derived.Test.YtlofoocgiomfbaaOften
namespace Go.Proofs.Ytlofoocgiomfbaa
open Go.RowKit Go.Shelf M08 M17
set_option linter.unusedVariables false

theorem cntL_mem {R : List URow} {far : Bool} {n : Nat} (hR : R.length ≤ 3000) : ∀ x ∈ cntL R far n, x ≤ 10000 := by
  intro x hx
  obtain ⟨i, _, rfl⟩ := List.mem_map.1 hx
  have := cnt_le R far i
  omega
theorem mul_wrap {x y z : Nat} (h1 : x ≤ 100000) (h2 : y ≤ 100) (h3 : z ≤ 1000000000) : wrap64 ((z : Int) + wrap64 ((x : Int) * (y : Int))) = ((z + x * y : Nat) : Int) := by
  have h : x * y ≤ 100000 * 100 := Nat.mul_le_mul h1 h2
  have hxy : (x : Int) * (y : Int) = ((x * y : Nat) : Int) := by simp
  rw [hxy]
  generalize x * y = u at *
  rw [IntWalk.wrap64_in (u : Int) (by omega), IntWalk.wrap64_in _ (by omega)]
  simp
theorem lbits_le {i : Nat} (h : i < 286) : lbits i ≤ 100 := by unfold lbits; split <;> omega
theorem dbits_le {i : Nat} (h : i < 30) : dbits i ≤ 100 := by unfold dbits; split <;> omega
theorem S_bound (R : List URow) (far : Bool) (g : Nat → Nat) (n k : Nat) (hk : k ≤ n) (hn : n ≤ 286) (hR : R.length ≤ 3000) (hg : ∀ i, i < n → g i ≤ 100) : S (fun i => cnt R far i * g i) k ≤ 286 * 300000 :=
  Nat.le_trans (S_le' _ (3000 * 100) k fun i hi => Nat.mul_le_mul (Nat.le_trans (cnt_le _ _ _) hR) (hg i (by omega))) (Nat.mul_le_mul_right _ (by omega))
theorem row_cnt {w : World} {g n : Nat} {far : Bool} {R : List URow} (h : RowN .i64 w (some ⟨g, 0, none⟩) n (cntL R far n)) (i : Nat) (hi : i < n) : w.cell? ⟨g, i, none⟩ = some (.int .i64 (cnt R far i : Nat)) := by
  obtain ⟨b, off, he, _, hc⟩ := h.at (i := i) (by rw [cntL_length]; exact hi)
  simp only [Option.some.injEq, Addr.mk.injEq, and_true] at he
  obtain ⟨rfl, rfl⟩ := he
  have := cntL_at R far n i hi
  rw [List.getD_eq_getElem?_getD, List.getElem?_eq_getElem (by rw [cntL_length]; exact hi), Option.getD_some] at this
  rw [this, Nat.zero_add] at hc
  exact hc

set_option maxRecDepth 100000 in
set_option maxHeartbeats 1600000 in
theorem ref17_symbols (a a1 a2 : Option Addr) (cap c1 c2 : Nat) (l : List Tok) (f o : List Nat) (w : World) (hl : l.length ≤ 1000) (hby : ∀ t ∈ l, t.byte < 256) (hr : RowS encT w a cap l) (h1 : RowN .u8 w a1 c1 f) (h2 : RowN .u8 w a2 c2 o) (hf : ∀ x ∈ f, x ≤ 255) (ho : ∀ x ∈ o, x ≤ 255) :
    Calls Try.prog 12 #[.slice a l.length cap, .slice a1 f.length c1, .slice a2 o.length c2] w fun e w' => e = .returned (.tuple #[.int .i64 ((symOut f o l).1 : Nat), .int .i64 ((symOut f o l).2 : Nat)]) ∧ Below w.heap.size w w' := by
  have HOFT := Lib.hid (ref17_often a cap l w hl hby hr)
  have HF := Lib.hid hf
  have HO := Lib.hid ho
  by_cases hall : ∀ t ∈ l, tokOk t
  case neg =>
    have hbad : symOut f o l = (0, 5) := symOut_bad f o l (by
      apply Classical.byContradiction
      intro hc
      exact hall fun t ht => Classical.byContradiction fun hn => hc ⟨t, ht, hn⟩)
    have HBAD := Lib.hid hbad
    have HNALL := Lib.hid hall
    clear hall hbad hby hf ho
    go_enter Try.func12, Try.ntmps12
    go_wp2_with fail
    refine HOFT.out.mono ?_
    rintro e w1 h
    unfold oftOut at h
    rw [if_neg HNALL.out] at h
    obtain ⟨rfl, hb⟩ := h
    clear HOFT
    go_wp2_with fail
    go_ret2
    exact ⟨by rw [HBAD.out]; rfl, hb⟩
  have hR : (useU l).length ≤ 3000 := by have := useU_len l; omega
  have HALL := Lib.hid hall
  have HBY := Lib.hid hby
  have HR := Lib.hid hR
  clear hall hby hf ho hR
  go_enter Try.func12, Try.ntmps12
  go_wp2_with fail
  refine HOFT.out.mono ?_
  rintro e w1 h
  unfold oftOut at h
  rw [if_pos HALL.out] at h
  obtain ⟨g1, g2, rfl, r1, r2, hb⟩ := h
  clear HOFT
  have HR1 := Lib.hid r1
  have HR2 := Lib.hid r2
  have HB := Lib.hid hb
  have HS1 := Lib.hid (ref17_sum (some ⟨g1, 0, none⟩) a1 286 c1 (cntL (useU l) false 286) f w1 r1 (h1.below hb) (cntL_mem HR.out) (by rw [cntL_length]; decide) HF.out)
  have HS2 := Lib.hid (fun (w2 : World) (h : Below w1.heap.size w1 w2) => ref17_sum (some ⟨g2, 0, none⟩) a2 30 c2 (cntL (useU l) true 30) o w2 (r2.below h) (h2.below (hb.trans (h.mono hb.size))) (cntL_mem HR.out) (by rw [cntL_length]; decide) HO.out)
  rw [cntL_length] at HS1
  simp only [cntL_length] at HS2
  clear r1 r2 hb
  go_wp2_with fail
  refine HS1.out.mono ?_
  rintro e w2 ⟨rfl, hb2⟩
  clear HS1
  have HB2 := Lib.hid hb2
  clear hb2
  cases hs1 : sumE (cntL (useU l) false 286) f with
  | none =>
    have e1 : sumOut (cntL (useU l) false 286) f = (0, false) := by unfold sumOut; rw [hs1]
    have HE := Lib.hid (symOut_none f o l HALL.out HBY.out (.inl hs1))
    rw [e1]
    clear hs1 e1
    go_wp2_with fail
    refine (HS2.out w2 HB2.out).mono ?_
    rintro e w3 ⟨rfl, hb3⟩
    clear HS2
    generalize (sumOut (cntL (useU l) true 30) o) = q at *
    go_wp2_with fail
    go_ret2
    exact ⟨by rw [HE.out]; rfl, (HB.out.trans (HB2.out.mono HB.out.size)).trans (hb3.mono (HB.out.trans (HB2.out.mono HB.out.size)).size)⟩
  | some n =>
    have e1 : sumOut (cntL (useU l) false 286) f = (n, true) := by unfold sumOut; rw [hs1]
    rw [e1]
    cases hs2 : sumE (cntL (useU l) true 30) o with
    | none =>
      have e2 : sumOut (cntL (useU l) true 30) o = (0, false) := by unfold sumOut; rw [hs2]
      have HE := Lib.hid (symOut_none f o l HALL.out HBY.out (.inr hs2))
      rw [e2] at HS2
      clear hs1 e1 hs2 e2
      go_wp2_with fail
      refine (HS2.out w2 HB2.out).mono ?_
      rintro e w3 ⟨rfl, hb3⟩
      clear HS2
      go_wp2_with fail
      go_ret2
      exact ⟨by rw [HE.out]; rfl, (HB.out.trans (HB2.out.mono HB.out.size)).trans (hb3.mono (HB.out.trans (HB2.out.mono HB.out.size)).size)⟩
    | some m =>
      have e2 : sumOut (cntL (useU l) true 30) o = (m, true) := by unfold sumOut; rw [hs2]
      have HE := Lib.hid (symOut_some f o l HALL.out HBY.out hs1 hs2)
      have hn := sumE_le hs1 HR.out HF.out
      have hm := sumE_le hs2 HR.out HO.out
      have hn' : n ≤ 300000000 := by omega
      have hm' : m ≤ 300000000 := by omega
      have HSB1 := Lib.hid (fun k (hk : k ≤ 286) => S_bound (useU l) false lbits 286 k hk (by decide) HR.out fun i hi => lbits_le hi)
      have HSB2 := Lib.hid (fun k (hk : k ≤ 30) => S_bound (useU l) true dbits 30 k hk (by decide) HR.out fun i hi => dbits_le hi)
      have HNM := Lib.hid (And.intro hn' hm')
      rw [e2] at HS2
      clear hs1 e1 hs2 e2 hn hm
      go_wp2_with fail
      refine (HS2.out w2 HB2.out).mono ?_
      rintro e w3 ⟨rfl, hb3⟩
      clear HS2
      have HR1' := Lib.hid ((HR1.out.below HB2.out).below hb3)
      have HR2' := Lib.hid ((HR2.out.below HB2.out).below hb3)
      have HB3 := Lib.hid ((HB.out.trans (HB2.out.mono HB.out.size)).trans (hb3.mono (HB.out.trans (HB2.out.mono HB.out.size)).size))
      clear hb3 HR1 HR2 HB HB2
      go_wp2_with fail
      go_loopw [11, 15] (fun x i A => ∃ k : Nat, 257 ≤ k ∧ k ≤ 286 ∧ i = .int .i64 k ∧ x = .int .i64 (((n + m) + S (fun i => cnt (useU l) false i * lbits i) k : Nat) : Int) ∧ RowN .i64 A (some ⟨g1, 0, none⟩) 286 (cntL (useU l) false 286) ∧ RowN .i64 A (some ⟨g2, 0, none⟩) 30 (cntL (useU l) true 30) ∧ Below w.heap.size w A) (fun _ i _ => 286 - (intOf i).toNat)
      case atStart => exact ⟨257, by omega, by omega, rfl, by rw [S257 (useU l)]; go_num, HR1'.out, HR2'.out, HB3.out⟩
      case round =>
        obtain ⟨k, hk1, hk2, rfl, rfl, hq1, hq2, hb4⟩ := hrel
        have HQ1 := Lib.hid hq1
        have HQ2 := Lib.hid hq2
        have HB4 := Lib.hid hb4
        clear hq1 hq2 hb4
        by_cases hlt : k < 286
        · have hc : wr.cell? ⟨g1, k, none⟩ = some (.int .i64 (cnt (useU l) false k : Nat)) := row_cnt HQ1.out k hlt
          have hcb : cnt (useU l) false k ≤ 100000 := by have := cnt_le (useU l) false k; have := HR.out; omega
          have hbb := lbits_le hlt
          have HSS := Lib.hid (show S (fun i => cnt (useU l) false i * lbits i) (k + 1) = S (fun i => cnt (useU l) false i * lbits i) k + cnt (useU l) false k * lbits k from rfl)
          have hsb : (n + m) + S (fun i => cnt (useU l) false i * lbits i) k ≤ 1000000000 := by have := HSB1.out k (by omega); have := HNM.out; omega
          have HLB := Lib.hid (fun (w : World) => ref08_lbits k w (by omega))
          have HW := Lib.hid (mul_wrap hcb hbb hsb)
          clear hcb hbb hsb
          have hki : (k : Int) < 286 := by omega
          generalize cnt (useU l) false k = cc at *
          generalize lbits k = bb at *
          generalize S (fun i => cnt (useU l) false i * lbits i) k = ss at *
          generalize hzz : (n + m) + ss = zz at *
          have HZZ := Lib.hid hzz
          clear hzz
          go_wp2_with fail
          go_quiet ((go_at_call 31; exact (HLB.out _).mono (fun _ _ h => ⟨h.1, _, h.2.symm⟩)))
          simp only [HW.out]
          go_wp2
          go_roundw
          case rel => exact ⟨k + 1, by omega, by omega, by go_num, by rw [HSS.out, ← Nat.add_assoc, HZZ.out], HQ1.out.drewN _, HQ2.out.drewN _, belDN HB4.out _⟩
          case measure => simp [intOf]; omega
        · obtain rfl : k = 286 := by omega
          go_wp2_with fail
          go_loopw [11, 16] (fun x i A => ∃ k : Nat, 0 ≤ k ∧ k ≤ 30 ∧ i = .int .i64 k ∧ x = .int .i64 (((n + m + S (fun i => cnt (useU l) false i * lbits i) 286) + S (fun i => cnt (useU l) true i * dbits i) k : Nat) : Int) ∧ RowN .i64 A (some ⟨g1, 0, none⟩) 286 (cntL (useU l) false 286) ∧ RowN .i64 A (some ⟨g2, 0, none⟩) 30 (cntL (useU l) true 30) ∧ Below w.heap.size w A) (fun _ i _ => 30 - (intOf i).toNat)
          case atStart => exact ⟨0, by omega, by omega, rfl, rfl, HQ1.out, HQ2.out, HB4.out⟩
          case round =>
            obtain ⟨k, hk1, hk2, rfl, rfl, hq1, hq2, hb4⟩ := hrel
            have HQ1 := Lib.hid hq1
            have HQ2 := Lib.hid hq2
            have HB4 := Lib.hid hb4
            clear hq1 hq2 hb4
            by_cases hlt : k < 30
            · have hc : wr.cell? ⟨g2, k, none⟩ = some (.int .i64 (cnt (useU l) true k : Nat)) := row_cnt HQ2.out k hlt
              have hcb : cnt (useU l) true k ≤ 100000 := by have := cnt_le (useU l) true k; have := HR.out; omega
              have hbb := dbits_le hlt
              have HSS := Lib.hid (show S (fun i => cnt (useU l) true i * dbits i) (k + 1) = S (fun i => cnt (useU l) true i * dbits i) k + cnt (useU l) true k * dbits k from rfl)
              have hsb : (n + m + S (fun i => cnt (useU l) false i * lbits i) 286) + S (fun i => cnt (useU l) true i * dbits i) k ≤ 1000000000 := by have := HSB2.out k (by omega); have := HNM.out; have := HSB1.out 286 (by omega); omega
              have HLB := Lib.hid (fun (w : World) => ref08_dbits k w (by omega))
              have HW := Lib.hid (mul_wrap hcb hbb hsb)
              clear hcb hbb hsb
              have hki : (k : Int) < 30 := by omega
              generalize cnt (useU l) true k = cc at *
              generalize dbits k = bb at *
              generalize S (fun i => cnt (useU l) true i * dbits i) k = ss at *
              generalize hzz : (n + m + S (fun i => cnt (useU l) false i * lbits i) 286) + ss = zz at *
              have HZZ := Lib.hid hzz
              clear hzz
              go_wp2_with fail
              go_quiet ((go_at_call 32; exact (HLB.out _).mono (fun _ _ h => ⟨h.1, _, h.2.symm⟩)))
              simp only [HW.out]
              go_wp2
              go_roundw
              case rel => exact ⟨k + 1, by omega, by omega, by go_num, by rw [HSS.out, ← Nat.add_assoc, HZZ.out], HQ1.out.drewN _, HQ2.out.drewN _, belDN HB4.out _⟩
              case measure => simp [intOf]; omega
            · obtain rfl : k = 30 := by omega
              have HE' := Lib.hid HE.out
              go_wp2
              go_ret2
              exact ⟨by rw [HE'.out]; rfl, HB4.out⟩
end Go.Proofs.Ytlofoocgiomfbaa
