/- CostBest: the law's walk. CostKnown: the law's walk. -/
import Derived.Test.YtmgoeokdlklabaaC15
import Derived.Test.YtmgoeokdlklabaaC16
namespace Go.Proofs.Ytmgoeokdlklabaa
open Go.RowKit Go.Shelf M01 M04 M05 M06 M07 M08 M09 M17
attribute [local go_sem] Oper.semAt_some
set_option linter.unusedVariables false
set_option linter.unusedSimpArgs false
theorem lim_zero_iff (c : List Nat) (i : Nat) (hl : c.length ≤ 300) (hi : i < c.length) : (limL c 15).getD i 0 = 0 ↔ c.getD i 0 = 0 := by
  have hr1 := (rar_perm c).length_eq
  have hr2 := used_le c
  rw [limL_get c 15 i hi]
  exact (limS_bound c 15 i (by decide) (pow15 _ (by omega)) hi).2
theorem codF_zero (l : List Tok) (i : Nat) (hi : i < 286) : (codF l).getD i 0 = 0 ↔ cnt (useU l) false i = 0 := by
  rw [codF_get, lim_zero_iff _ _ (by rw [cntL_length]; decide) (by rw [cntL_length]; exact hi), cntL_at _ _ _ _ hi]
theorem codO_zero (l : List Tok) (i : Nat) (hi : i < 30) : (codO l).getD i 0 = 0 ↔ cnt (useU l) true i = 0 := by
  rw [codO_get, lim_zero_iff _ _ (by rw [cntL_length]; decide) (by rw [cntL_length]; exact hi), cntL_at _ _ _ _ hi]
theorem codF_last (l : List Tok) (h : ∀ t ∈ l, tokOk t) : (codF l).getD ((codF l).length - 1) 0 ≠ 0 := by
  have hlen := codF_len l
  by_cases hc : 257 < (codF l).length
  · have h1 := cutZ_le (limL (cntU false 286 (useU l)) 15) 257 (limL (cntU false 286 (useU l)) 15).length
    have e : (codF l).length = cutZ (limL (cntU false 286 (useU l)) 15) 257 (limL (cntU false 286 (useU l)) 15).length := by
      unfold codF bestF; rw [List.length_take]; omega
    have h2 := cutZ_last (limL (cntU false 286 (useU l)) 15) 257 (limL (cntU false 286 (useU l)) 15).length (by omega)
    rw [← e] at h2
    unfold codF bestF
    rw [getD_cut]
    exact h2
  · have e : (codF l).length - 1 = 256 := by omega
    rw [e]
    intro h0
    have := (codF_zero l 256 (by decide)).1 h0
    exact M17.cnt_pos (useU_last l h) this
theorem codO_last (l : List Tok) (hc : 1 < (codO l).length) : (codO l).getD ((codO l).length - 1) 0 ≠ 0 := by
  have h1 := cutZ_le (limL (cntU true 30 (useU l)) 15) 1 (limL (cntU true 30 (useU l)) 15).length
  have e : (codO l).length = cutZ (limL (cntU true 30 (useU l)) 15) 1 (limL (cntU true 30 (useU l)) 15).length := by
    unfold codO bestO; rw [List.length_take]; omega
  have h2 := cutZ_last (limL (cntU true 30 (useU l)) 15) 1 (limL (cntU true 30 (useU l)) 15).length (by omega)
  rw [← e] at h2
  unfold codO bestO
  rw [getD_cut]
  exact h2
theorem fixR_15 : (∀ x ∈ fixR, x ≤ 15) ∧ weight fixR ≤ 2 ^ 20 := by decide +kernel
theorem fixQ_15 : (∀ x ∈ fixQ, x ≤ 15) ∧ weight fixQ ≤ 2 ^ 20 := by decide +kernel
theorem fixR_pos : ∀ s, s < 286 → fixR.getD s 0 ≠ 0 := by decide +kernel
theorem fixQ_pos : ∀ s, s < 30 → fixQ.getD s 0 ≠ 0 := by decide +kernel
theorem fix_has (l : List Tok) (hb : ∀ t ∈ l, t.byte < 256) (h : ∀ t ∈ l, tokOk t) : (symOut fixR fixQ l).2 = 0 := by
  obtain ⟨m, hm⟩ := symU_some fixR fixQ (useU l) 0 (fun r hr => by
    obtain ⟨h1, h2, h3⟩ := useU_rows l hb h r hr
    refine ⟨h1, ?_⟩
    unfold lensOf
    cases hf : r.far with
    | false => rw [hf] at h3; simp only [Bool.false_eq_true, if_false] at h3 ⊢; exact fixR_pos _ h3
    | true => rw [hf] at h3; simp only [if_true] at h3 ⊢; exact fixQ_pos _ h3)
  unfold symOut
  rw [hm]
theorem app_has (l o : List Tok) (hb : ∀ t ∈ l ++ o, t.byte < 256) (h : ∀ t ∈ l ++ o, tokOk t) : (symOut (codF (l ++ o)) (codO (l ++ o)) l).2 = 0 := by
  have hl : ∀ t ∈ l, tokOk t := fun t ht => h t (List.mem_append_left _ ht)
  obtain ⟨m, hm⟩ := symU_some (codF (l ++ o)) (codO (l ++ o)) (useU l) 0 (fun r hr => by
    refine cod_sym (l ++ o) hb h r ?_
    rw [useU_ok l hl] at hr
    rw [useU_ok (l ++ o) h, List.flatMap_append]
    rcases List.mem_append.1 hr with h1 | h1
    · exact List.mem_append_left _ (List.mem_append_left _ h1)
    · exact List.mem_append_right _ h1)
  unfold symOut
  rw [hm]
theorem tok_elems2 : ElemS Try.prog 57 67 encT (.agg #[.int .i64 0, .int .i64 0, .int .u8 0]) 24 := ⟨Try.underlying57, by kernel_rfl, by kernel_rfl⟩
theorem cntL_elem (R : List URow) (far : Bool) (n k : Nat) (h : k < n) : (cntL R far n)[k]'(by rw [cntL_length]; exact h) = cnt R far k := by
  have := cntL_at R far n k h
  rw [List.getD_eq_getElem?_getD, List.getElem?_eq_getElem (by rw [cntL_length]; exact h)] at this
  exact this
theorem row_elem {k : IntKind} {w : World} {b off cap : Nat} {l : List Nat} (h : RowN k w (some ⟨b, off, none⟩) cap l) (i : Nat) (hi : i < l.length) : ∃ x, l.getD i 0 = x ∧ w.cell? ⟨b, off + i, none⟩ = some (.int k (x : Nat)) := by
  obtain ⟨b', off', e, _, hc⟩ := h.at hi
  simp only [Option.some.injEq, Addr.mk.injEq, and_true] at e
  obtain ⟨rfl, rfl⟩ := e
  exact ⟨l[i], by rw [List.getD_eq_getElem?_getD, List.getElem?_eq_getElem hi]; rfl, hc⟩
theorem pos_fact (x : Nat) (h : x ≠ 0) : decide ((0 : Int) < (x : Int)) = true ∧ 0 < x := ⟨by simp; omega, by omega⟩
theorem not_lt_fact (k n : Nat) (h : ¬ k < n) : decide ((k : Int) < (n : Int)) = false ∧ decide (k < n) = false := ⟨by simp; omega, by simp; omega⟩
theorem le_fact (x y : Nat) (h : x ≤ y) : decide ((y : Int) < (x : Int)) = false ∧ decide (y < x) = false ∧ decide ((x : Int) ≤ (y : Int)) = true ∧ decide (x ≤ y) = true := ⟨by simp; omega, by simp; omega, by simp; omega, by simp; omega⟩
theorem idx_facts (n k : Nat) (h : n - 1 = k) (h1 : 1 ≤ n) (h2 : n ≤ 1000) : wrap64 (k : Int) = (k : Int) ∧ IntKind.i64.wrap ((n : Int) - 1) = (k : Int) ∧ (n : Int) - 1 = (k : Int) ∧ k < n ∧ (k : Int) < (n : Int) ∧ ((n : Int) == 0) = false := by
  refine ⟨by unfold wrap64; omega, by rw [IntWalk.i64_in _ (by omega)]; omega, by omega, by omega, by omega, by simp; omega⟩
theorem nz_fact (x : Nat) (h : x ≠ 0) : ((x : Int) == 0) = false := by simp; omega
theorem gt1_fact (n x : Nat) (h : 1 < n → x ≠ 0) : (decide ((1 : Int) < (n : Int)) = true ∧ ((x : Int) == 0) = false) ∨ decide ((1 : Int) < (n : Int)) = false := by
  by_cases h1 : 1 < n
  · have := h h1
    exact .inl ⟨by simp; omega, by simp; omega⟩
  · exact .inr (by simp; omega)
set_option maxRecDepth 100000 in
set_option maxHeartbeats 3200000 in
theorem law_best (a0 a1 : Option Addr) (cap0 cap1 : Nat) (l o : List Tok) (w : World) (h0 : RowS encT w a0 cap0 l) (b0 : ∀ t ∈ l, t.byte < 256) (h1 : RowS encT w a1 cap1 o) (b1 : ∀ t ∈ o, t.byte < 256) :
    Calls Try.prog 9 #[.slice a0 l.length cap0, .slice a1 o.length cap1] w (RetTrue17 w) := by
  have hll := h0.len
  have hlo := h1.len
  by_cases hl2 : l.length ≤ 400
  case neg =>
    have c0 : decide ((400 : Int) < (l.length : Int)) = true := by simp; omega
    clear hl2
    go_enter Try.func9, Try.ntmps9
    go_wp2
    go_ret
    exact ⟨rfl, Below.refl _ _⟩
  have c0 : decide ((400 : Int) < (l.length : Int)) = false := by simp; omega
  by_cases ho2 : o.length ≤ 400
  case neg =>
    have c1 : decide ((400 : Int) < (o.length : Int)) = true := by simp; omega
    clear hl2 ho2
    go_enter Try.func9, Try.ntmps9
    go_wp2
    go_ret
    exact ⟨rfl, Below.refl _ _⟩
  have c1 : decide ((400 : Int) < (o.length : Int)) = false := by simp; omega
  have HC := Lib.hid (cost_codes a0 cap0 l w (by omega) b0 h0)
  have HOF := Lib.hid (fun w' (h : Below w.heap.size w w') => ref17_often a0 cap0 l w' (by omega) b0 (h0.below h))
  have B0 := Lib.hid b0
  have B1 := Lib.hid b1
  have H0 := Lib.hid (fun w' (h : Below w.heap.size w w') => h0.below h)
  have H1 := Lib.hid (fun w' (h : Below w.heap.size w w') => h1.below h)
  clear b0 b1 h0 h1
  go_enter Try.func9, Try.ntmps9
  go_wp2_with fail
  refine HC.out.mono ?_
  rintro e w1 (⟨hok, x1, k1, x2, k2, rfl, r1, r2, hb1⟩ | ⟨hbad, rfl, hb1⟩)
  case inr =>
    have HB1 := Lib.hid hb1
    have HBAD := Lib.hid hbad
    clear hb1 hbad HC
    go_wp2_with fail
    refine (HOF.out _ HB1.out).mono ?_
    intro e w2 he
    unfold oftOut at he
    rw [if_neg HBAD.out] at he
    obtain ⟨rfl, hb2⟩ := he
    have HB2 := Lib.hid (HB1.out.trans (hb2.mono HB1.out.size))
    clear hb2 HBAD HOF
    go_wp2_with fail
    refine (law17_counts _).mono ?_
    rintro e w7 ⟨rfl, hb7⟩
    go_wp2
    go_ret
    exact ⟨rfl, HB2.out.trans (hb7.mono HB2.out.size)⟩
  have HB1 := Lib.hid hb1
  have HOK := Lib.hid hok
  have HR1 := Lib.hid (And.intro r1 r2)
  have hlf := codF_len l
  have hlq := codO_len l
  have HM := Lib.hid (cod_may l hok)
  have HF15 := Lib.hid (codF_15 l)
  have HO15 := Lib.hid (codO_15 l)
  have HFZ := Lib.hid (codF_zero l)
  have HOZ := Lib.hid (codO_zero l)
  have HFL := Lib.hid (codF_last l hok)
  have HOL := Lib.hid (codO_last l)
  have HBX := Lib.hid (cod_best l fixR fixQ hok B0.out fixR_15.1 fixQ_15.1 fixR_15.2 fixQ_15.2 (fix_has l B0.out hok))
  have HBF := Lib.hid (fix_has l B0.out hok)
  have HBY := Lib.hid (fun (h : ∀ t ∈ l ++ o, tokOk t) => And.intro (app_has l o (fun t ht => (List.mem_append.1 ht).elim (B0.out t) (B1.out t)) h) (cod_best l (codF (l ++ o)) (codO (l ++ o)) hok B0.out (codF_le _).1 (codO_le _).1 (codF_le _).2 (codO_le _).2 (app_has l o (fun t ht => (List.mem_append.1 ht).elim (B0.out t) (B1.out t)) h)))
  have hs1 := symOut_le' (codF l) (codO l) l (fun x hx => by have := codF_15 l x hx; omega) (fun x hx => by have := codO_15 l x hx; omega) (by omega)
  have hs2 := symOut_le' fixR fixQ l fixR_le fixQ_le (by omega)
  have hs3 := symOut_le' (codF (l ++ o)) (codO (l ++ o)) l (fun x hx => by have := codF_15 _ x hx; omega) (fun x hx => by have := codO_15 _ x hx; omega) (by omega)
  have HSZ := Lib.hid (fun (w' : World) (r1 : RowN .u8 w' x1 k1 (codF l)) (r2 : RowN .u8 w' x2 k2 (codO l)) => header_size w' x1 x2 k1 k2 (codF l) (codO l) r1 r2 (by omega) (by omega))
  have HSY := Lib.hid (fun (w' : World) (y1 y2 : Option Addr) (d1 d2 : Nat) (f q : List Nat) (h : Below w.heap.size w w') (r1 : RowN .u8 w' y1 d1 f) (r2 : RowN .u8 w' y2 d2 q) (hf : ∀ x ∈ f, x ≤ 255) (hq : ∀ x ∈ q, x ≤ 255) => cost_symbols a0 y1 y2 cap0 d1 d2 l f q w' (by omega) B0.out (H0.out w' h) r1 r2 hf hq)
  rw [HM.out] at HSZ
  have HF255 : Hid (∀ x ∈ codF l, x ≤ 255) := Lib.hid (fun x hx => by have := codF_15 l x hx; omega)
  have HO255 : Hid (∀ x ∈ codO l, x ≤ 255) := Lib.hid (fun x hx => by have := codO_15 l x hx; omega)
  have HX255 : Hid (∀ x ∈ codF (l ++ o), x ≤ 255) := Lib.hid (fun x hx => by have := codF_15 _ x hx; omega)
  have HY255 : Hid (∀ x ∈ codO (l ++ o), x ≤ 255) := Lib.hid (fun x hx => by have := codO_15 _ x hx; omega)
  have HLE : Hid ((l ++ o).length = l.length + o.length) := Lib.hid List.length_append
  have HLO : Hid ((l ++ o).length ≤ 1000) := Lib.hid (by rw [List.length_append]; omega)
  have HLB : Hid (∀ t ∈ l ++ o, t.byte < 256) := Lib.hid (fun t ht => (List.mem_append.1 ht).elim (B0.out t) (B1.out t))
  clear hb1 hok r1 r2 HC HM
  go_wp2_with fail
  refine (HOF.out _ HB1.out).mono ?_
  intro e w2 he
  unfold oftOut at he
  rw [if_pos HOK.out] at he
  obtain ⟨g1, g2, rfl, ro1, ro2, hb2⟩ := he
  have HB2 := Lib.hid (HB1.out.trans (hb2.mono HB1.out.size))
  have HR2 := Lib.hid (And.intro (HR1.out.1.below hb2) (HR1.out.2.below hb2))
  have HRO := Lib.hid (And.intro ro1 ro2)
  clear HOF hb2 HR1 ro1 ro2
  go_wp2_with fail
  refine (HSZ.out _ HR2.out.1 HR2.out.2).mono ?_
  rintro e w3 ⟨hb3, rfl⟩
  have HB3 := Lib.hid (HB2.out.trans (hb3.mono HB2.out.size))
  have HRF3 := Lib.hid (HR2.out.1.below hb3)
  have HRO3 := Lib.hid (HR2.out.2.below hb3)
  have HRO1 := Lib.hid (HRO.out.1.below hb3)
  have HRO2 := Lib.hid (HRO.out.2.below hb3)
  clear HSZ HR2 HRO hb3
  generalize (hputW ([], 0) (codF l) (codO l)) = T at *
  generalize (codF l) = F at *
  generalize (codO l) = O at *
  obtain ⟨nF, hnF⟩ : ∃ n, F.length = n := ⟨_, rfl⟩
  obtain ⟨nO, hnO⟩ : ∃ n, O.length = n := ⟨_, rfl⟩
  have HNF := Lib.hid hnF
  have HNO := Lib.hid hnO
  rw [hnF] at HFL hlf
  rw [hnO] at HOL hlq
  obtain ⟨kF, hkF⟩ : ∃ k, nF - 1 = k := ⟨_, rfl⟩
  obtain ⟨kO, hkO⟩ : ∃ k, nO - 1 = k := ⟨_, rfl⟩
  rw [hkF] at HFL
  rw [hkO] at HOL
  obtain ⟨bF, oF, eF, hbF, hcF⟩ := HRF3.out.at (i := kF) (by omega)
  obtain ⟨bO, oO, eO, hbO, hcO⟩ := HRO3.out.at (i := kO) (by omega)
  subst eF eO
  have hgF : F.getD kF 0 = F[kF]'(by omega) := by rw [List.getD_eq_getElem?_getD, List.getElem?_eq_getElem (by omega)]; rfl
  have hgO : O.getD kO 0 = O[kO]'(by omega) := by rw [List.getD_eq_getElem?_getD, List.getElem?_eq_getElem (by omega)]; rfl
  rw [hgF] at HFL
  rw [hgO] at HOL
  generalize F[kF]'(by omega) = xF at *
  generalize O[kO]'(by omega) = xO at *
  obtain ⟨qwF, qF, qF', lF, lF', fF⟩ := idx_facts nF kF hkF (by omega) (by omega)
  obtain ⟨qwO, qO, qO', lO, lO', fO⟩ := idx_facts nO kO hkO (by omega) (by omega)
  have fxF := nz_fact xF HFL.out
  have HNN := Lib.hid (And.intro hlf hlq)
  have hcase := gt1_fact nO xO HOL.out
  rw [hnF, hnO]
  clear hgF hgO hnF hnO hkF hkO hbF hbO HFL HOL hlf hlq
  rcases hcase with ⟨f5, f6⟩ | f5
  · go_wp2_with fail
    go_loopw [13] (fun i A => ∃ k q : Nat, k ≤ 286 ∧ i = .int .i64 k ∧ A = w3.drewN q) (fun i _ => 286 - (intOf i).toNat)
    case atStart => exact ⟨0, 0, by omega, rfl, rfl⟩
    case round =>
      obtain ⟨k, q, hk, rfl, rfl⟩ := hrel
      by_cases hlt : k < 286
      · have hki : (k : Int) < 286 := by omega
        obtain ⟨b2, off2, e2, hb2', hc2⟩ := (HRO1.out.drewN q).at (i := k) (by rw [cntL_length]; exact hlt)
        simp only [Option.some.injEq, Addr.mk.injEq, and_true] at e2
        obtain ⟨rfl, rfl⟩ := e2
        have hce : (cntL (useU l) false 286)[k]'(by rw [cntL_length]; exact hlt) = cnt (useU l) false k := cntL_elem _ _ _ _ hlt
        rw [hce, Nat.zero_add] at hc2
        have hz := HFZ.out k hlt
        generalize cnt (useU l) false k = c at *
        by_cases hkF : k < nF
        · obtain ⟨x, hgx, hcx⟩ := row_elem (HRF3.out.drewN q) k (by rw [HNF.out]; exact hkF)
          rw [hgx] at hz
          obtain ⟨A, hA⟩ : ∃ A, w3.drewN q = A := ⟨_, rfl⟩
          rw [hA] at hc2 hcx
          simp only [hA]
          have HA := Lib.hid hA
          clear hA hb2' hce hgx
          by_cases hx : x = 0
          · have hc0 : c = 0 := hz.1 hx
            subst hx hc0
            clear hz
            go_wp2_with fail
            go_quiet (fail)
            go_wp2
            go_roundw
            case rel => exact ⟨k + 1, q + nq, by omega, by go_num, by rw [← HA.out, World.drewN_drewN]⟩
            case measure => simp [intOf]; omega
          · have hc0 : c ≠ 0 := fun h => hx (hz.2 h)
            obtain ⟨f1, f3⟩ := pos_fact x hx
            obtain ⟨f2, f4⟩ := pos_fact c hc0
            clear hz hx hc0
            go_wp2_with fail
            go_quiet (fail)
            go_wp2
            go_roundw
            case rel => exact ⟨k + 1, q + nq, by omega, by go_num, by rw [← HA.out, World.drewN_drewN]⟩
            case measure => simp [intOf]; omega
        · have hc0 : c = 0 := hz.1 (by rw [List.getD_eq_getElem?_getD, List.getElem?_eq_none (by rw [HNF.out]; omega)]; rfl)
          subst hc0
          obtain ⟨f1, f2⟩ := not_lt_fact k nF hkF
          obtain ⟨A, hA⟩ : ∃ A, w3.drewN q = A := ⟨_, rfl⟩
          rw [hA] at hc2
          simp only [hA]
          have HA := Lib.hid hA
          clear hA hb2' hce hz
          go_wp2_with fail
          go_quiet (fail)
          go_wp2
          go_roundw
          case rel => exact ⟨k + 1, q + nq, by omega, by go_num, by rw [← HA.out, World.drewN_drewN]⟩
          case measure => simp [intOf]; omega
      obtain rfl : k = 286 := by omega
      have HB4 := Lib.hid (belDN HB3.out q)
      have HRF4 := Lib.hid (HRF3.out.drewN q)
      have HRO3d := Lib.hid (HRO3.out.drewN q)
      have HRO2d := Lib.hid (HRO2.out.drewN q)
      clear HB3 HRF3 HRO3 HRO1 HRO2 HFZ hcF hcO
      generalize w3.drewN q = w4 at *
      go_wp2_with fail
      go_loopw [14] (fun i A => ∃ k q : Nat, k ≤ 30 ∧ i = .int .i64 k ∧ A = w4.drewN q) (fun i _ => 30 - (intOf i).toNat)
      case atStart => exact ⟨0, 0, by omega, rfl, rfl⟩
      case round =>
        obtain ⟨k, q, hk, rfl, rfl⟩ := hrel
        by_cases hlt : k < 30
        · have hki : (k : Int) < 30 := by omega
          obtain ⟨b2, off2, e2, hb2', hc2⟩ := (HRO2d.out.drewN q).at (i := k) (by rw [cntL_length]; exact hlt)
          simp only [Option.some.injEq, Addr.mk.injEq, and_true] at e2
          obtain ⟨rfl, rfl⟩ := e2
          have hce : (cntL (useU l) true 30)[k]'(by rw [cntL_length]; exact hlt) = cnt (useU l) true k := cntL_elem _ _ _ _ hlt
          rw [hce, Nat.zero_add] at hc2
          have hz := HOZ.out k hlt
          generalize cnt (useU l) true k = c at *
          by_cases hkF : k < nO
          · obtain ⟨x, hgx, hcx⟩ := row_elem (HRO3d.out.drewN q) k (by rw [HNO.out]; exact hkF)
            rw [hgx] at hz
            obtain ⟨A, hA⟩ : ∃ A, w4.drewN q = A := ⟨_, rfl⟩
            rw [hA] at hc2 hcx
            simp only [hA]
            have HA := Lib.hid hA
            clear hA hb2' hce hgx
            by_cases hx : x = 0
            · have hc0 : c = 0 := hz.1 hx
              subst hx hc0
              clear hz
              go_wp2_with fail
              go_quiet (fail)
              go_wp2
              go_roundw
              case rel => exact ⟨k + 1, q + nq, by omega, by go_num, by rw [← HA.out, World.drewN_drewN]⟩
              case measure => simp [intOf]; omega
            · have hc0 : c ≠ 0 := fun h => hx (hz.2 h)
              obtain ⟨f1, f3⟩ := pos_fact x hx
              obtain ⟨f2, f4⟩ := pos_fact c hc0
              clear hz hx hc0
              go_wp2_with fail
              go_quiet (fail)
              go_wp2
              go_roundw
              case rel => exact ⟨k + 1, q + nq, by omega, by go_num, by rw [← HA.out, World.drewN_drewN]⟩
              case measure => simp [intOf]; omega
          · have hc0 : c = 0 := hz.1 (by rw [List.getD_eq_getElem?_getD, List.getElem?_eq_none (by rw [HNO.out]; omega)]; rfl)
            subst hc0
            obtain ⟨f1, f2⟩ := not_lt_fact k nO hkF
            obtain ⟨A, hA⟩ : ∃ A, w4.drewN q = A := ⟨_, rfl⟩
            rw [hA] at hc2
            simp only [hA]
            have HA := Lib.hid hA
            clear hA hb2' hce hz
            go_wp2_with fail
            go_quiet (fail)
            go_wp2
            go_roundw
            case rel => exact ⟨k + 1, q + nq, by omega, by go_num, by rw [← HA.out, World.drewN_drewN]⟩
            case measure => simp [intOf]; omega
        obtain rfl : k = 30 := by omega
        have HB5 := Lib.hid (belDN HB4.out q)
        have HRF5 := Lib.hid (HRF4.out.drewN q)
        have HRO5 := Lib.hid (HRO3d.out.drewN q)
        clear HB4 HRF4 HRO3d HRO2d HOZ
        generalize w4.drewN q = w5 at *
        have HS1 := HSY.out w5 _ _ _ _ _ _ HB5.out HRF5.out HRO5.out HF255.out HO255.out
        rw [HNF.out, HNO.out] at HS1
        go_wp2_with fail
        refine HS1.mono ?_
        rintro e w6 ⟨rfl, hb6⟩
        have HB6 := Lib.hid (HB5.out.trans (hb6.mono HB5.out.size))
        clear HS1 hb6 HRF5 HRO5 HB5
        go_wp2_with fail
        refine (ref17_fixed _).mono ?_
        rintro e w7 ⟨y1, y2, rfl, r1, r2, hb7⟩
        have HB7 := Lib.hid (HB6.out.trans (hb7.mono HB6.out.size))
        have HS2 := HSY.out w7 _ _ _ _ _ _ HB7.out r1 r2 fixR_le fixQ_le
        rw [fixR_len, fixQ_len] at HS2
        obtain ⟨bx1, bx2⟩ := HBX.out
        have bx3 := HBF.out
        clear HB6 hb7 r1 r2 HBX HBF
        have HBX1 := Lib.hid bx1
        generalize symOut F O l = so at *
        generalize symOut fixR fixQ l = sr at *
        obtain ⟨sn, se⟩ := so
        obtain ⟨rn, re⟩ := sr
        simp only at bx1 bx2 bx3 hs1 hs2 HS2 ⊢
        subst bx1 bx3
        go_wp2_with fail
        refine HS2.mono ?_
        rintro e w8 ⟨rfl, hb8⟩
        have HB8 := Lib.hid (HB7.out.trans (hb8.mono HB7.out.size))
        have HH0 := Lib.hid (H0.out w8 HB8.out)
        have HH1 := Lib.hid (H1.out w8 HB8.out)
        obtain ⟨c5, c6, c9, c10⟩ := le_fact sn rn bx2
        clear HS2 hb8 HB7 bx2
        go_wp2_with (first | (at_builtin; refine appAnyS tok_elems2 rfl (.tmp 175) (.tmp 176) rfl (a := some ⟨w8.heap.size, 0, none⟩) (cap := 0) (l := []) (ys := l) (base := w8.heap.size) rfl (OwnS.lit0 _ _ _ _ (Nat.le_refl _)) rfl rfl (HH0.out.below (box_below _ _)) (by simp; omega) (by simp; omega) (by simp) ?_; intro a3 cap3 w9 hown9 hg9 hb9; simp only [List.nil_append] at hown9; simp only [List.length_nil, Nat.zero_add]; replace hb9 := (box_below w8 _).trans hb9) | (at_builtin; refine appAnyS tok_elems2 rfl (.tmp 177) (.tmp 178) rfl rfl hown9 rfl rfl (HH1.out.below hb9) (by omega) (by omega) hb9.size ?_; intro a5 cap5 w10 hown10 hg10 hb10))
        have hb810 : Below w8.heap.size w8 w10 := hb9.trans hb10
        have HB10 := Lib.hid (HB8.out.trans (hb810.mono HB8.out.size))
        have HC2 := cost_codes a5 cap5 (l ++ o) w10 HLO.out HLB.out hown10.row
        rw [HLE.out] at HC2
        clear hown9 hown10 hg9 hg10 hb9 hb10 hb810 HH0 HH1 HB8
        refine HC2.mono ?_
        rintro e w11 (⟨hok2, z1, m1, z2, m2, rfl, r1, r2, hb11⟩ | ⟨hbad, rfl, hb11⟩)
        case inr =>
          have HB11 := Lib.hid (HB10.out.trans (hb11.mono HB10.out.size))
          clear HC2 hb11 hbad HB10
          go_wp2_with fail
          refine (law17_counts _).mono ?_
          rintro e w12 ⟨rfl, hb12⟩
          go_wp2
          go_ret
          exact ⟨rfl, HB11.out.trans (hb12.mono HB11.out.size)⟩
        have HB11 := Lib.hid (HB10.out.trans (hb11.mono HB10.out.size))
        obtain ⟨by1, by2, by3⟩ := HBY.out hok2
        have HS3 := HSY.out w11 _ _ _ _ _ _ HB11.out r1 r2 HX255.out HY255.out
        clear HC2 hb11 hok2 HB10 r1 r2
        generalize symOut (codF (l ++ o)) (codO (l ++ o)) l = st at *
        generalize (codF (l ++ o)).length = nx at *
        generalize (codO (l ++ o)).length = ny at *
        obtain ⟨tn, te⟩ := st
        simp only at by1 by3 hs3 HS3
        subst by1
        obtain ⟨c7, c8, c11, c12⟩ := le_fact sn tn by3
        clear by2 by3
        go_wp2_with fail
        refine HS3.mono ?_
        rintro e w12 ⟨rfl, hb12⟩
        have HB12 := Lib.hid (HB11.out.trans (hb12.mono HB11.out.size))
        clear HS3 hb12
        go_wp2_with fail
        refine (law17_counts _).mono ?_
        rintro e w13 ⟨rfl, hb13⟩
        go_wp2
        go_ret
        exact ⟨rfl, HB12.out.trans (hb13.mono HB12.out.size)⟩
  · go_wp2_with fail
    go_loopw [13] (fun i A => ∃ k q : Nat, k ≤ 286 ∧ i = .int .i64 k ∧ A = w3.drewN q) (fun i _ => 286 - (intOf i).toNat)
    case atStart => exact ⟨0, 0, by omega, rfl, rfl⟩
    case round =>
      obtain ⟨k, q, hk, rfl, rfl⟩ := hrel
      by_cases hlt : k < 286
      · have hki : (k : Int) < 286 := by omega
        obtain ⟨b2, off2, e2, hb2', hc2⟩ := (HRO1.out.drewN q).at (i := k) (by rw [cntL_length]; exact hlt)
        simp only [Option.some.injEq, Addr.mk.injEq, and_true] at e2
        obtain ⟨rfl, rfl⟩ := e2
        have hce : (cntL (useU l) false 286)[k]'(by rw [cntL_length]; exact hlt) = cnt (useU l) false k := cntL_elem _ _ _ _ hlt
        rw [hce, Nat.zero_add] at hc2
        have hz := HFZ.out k hlt
        generalize cnt (useU l) false k = c at *
        by_cases hkF : k < nF
        · obtain ⟨x, hgx, hcx⟩ := row_elem (HRF3.out.drewN q) k (by rw [HNF.out]; exact hkF)
          rw [hgx] at hz
          obtain ⟨A, hA⟩ : ∃ A, w3.drewN q = A := ⟨_, rfl⟩
          rw [hA] at hc2 hcx
          simp only [hA]
          have HA := Lib.hid hA
          clear hA hb2' hce hgx
          by_cases hx : x = 0
          · have hc0 : c = 0 := hz.1 hx
            subst hx hc0
            clear hz
            go_wp2_with fail
            go_quiet (fail)
            go_wp2
            go_roundw
            case rel => exact ⟨k + 1, q + nq, by omega, by go_num, by rw [← HA.out, World.drewN_drewN]⟩
            case measure => simp [intOf]; omega
          · have hc0 : c ≠ 0 := fun h => hx (hz.2 h)
            obtain ⟨f1, f3⟩ := pos_fact x hx
            obtain ⟨f2, f4⟩ := pos_fact c hc0
            clear hz hx hc0
            go_wp2_with fail
            go_quiet (fail)
            go_wp2
            go_roundw
            case rel => exact ⟨k + 1, q + nq, by omega, by go_num, by rw [← HA.out, World.drewN_drewN]⟩
            case measure => simp [intOf]; omega
        · have hc0 : c = 0 := hz.1 (by rw [List.getD_eq_getElem?_getD, List.getElem?_eq_none (by rw [HNF.out]; omega)]; rfl)
          subst hc0
          obtain ⟨f1, f2⟩ := not_lt_fact k nF hkF
          obtain ⟨A, hA⟩ : ∃ A, w3.drewN q = A := ⟨_, rfl⟩
          rw [hA] at hc2
          simp only [hA]
          have HA := Lib.hid hA
          clear hA hb2' hce hz
          go_wp2_with fail
          go_quiet (fail)
          go_wp2
          go_roundw
          case rel => exact ⟨k + 1, q + nq, by omega, by go_num, by rw [← HA.out, World.drewN_drewN]⟩
          case measure => simp [intOf]; omega
      obtain rfl : k = 286 := by omega
      have HB4 := Lib.hid (belDN HB3.out q)
      have HRF4 := Lib.hid (HRF3.out.drewN q)
      have HRO3d := Lib.hid (HRO3.out.drewN q)
      have HRO2d := Lib.hid (HRO2.out.drewN q)
      clear HB3 HRF3 HRO3 HRO1 HRO2 HFZ hcF hcO
      generalize w3.drewN q = w4 at *
      go_wp2_with fail
      go_loopw [14] (fun i A => ∃ k q : Nat, k ≤ 30 ∧ i = .int .i64 k ∧ A = w4.drewN q) (fun i _ => 30 - (intOf i).toNat)
      case atStart => exact ⟨0, 0, by omega, rfl, rfl⟩
      case round =>
        obtain ⟨k, q, hk, rfl, rfl⟩ := hrel
        by_cases hlt : k < 30
        · have hki : (k : Int) < 30 := by omega
          obtain ⟨b2, off2, e2, hb2', hc2⟩ := (HRO2d.out.drewN q).at (i := k) (by rw [cntL_length]; exact hlt)
          simp only [Option.some.injEq, Addr.mk.injEq, and_true] at e2
          obtain ⟨rfl, rfl⟩ := e2
          have hce : (cntL (useU l) true 30)[k]'(by rw [cntL_length]; exact hlt) = cnt (useU l) true k := cntL_elem _ _ _ _ hlt
          rw [hce, Nat.zero_add] at hc2
          have hz := HOZ.out k hlt
          generalize cnt (useU l) true k = c at *
          by_cases hkF : k < nO
          · obtain ⟨x, hgx, hcx⟩ := row_elem (HRO3d.out.drewN q) k (by rw [HNO.out]; exact hkF)
            rw [hgx] at hz
            obtain ⟨A, hA⟩ : ∃ A, w4.drewN q = A := ⟨_, rfl⟩
            rw [hA] at hc2 hcx
            simp only [hA]
            have HA := Lib.hid hA
            clear hA hb2' hce hgx
            by_cases hx : x = 0
            · have hc0 : c = 0 := hz.1 hx
              subst hx hc0
              clear hz
              go_wp2_with fail
              go_quiet (fail)
              go_wp2
              go_roundw
              case rel => exact ⟨k + 1, q + nq, by omega, by go_num, by rw [← HA.out, World.drewN_drewN]⟩
              case measure => simp [intOf]; omega
            · have hc0 : c ≠ 0 := fun h => hx (hz.2 h)
              obtain ⟨f1, f3⟩ := pos_fact x hx
              obtain ⟨f2, f4⟩ := pos_fact c hc0
              clear hz hx hc0
              go_wp2_with fail
              go_quiet (fail)
              go_wp2
              go_roundw
              case rel => exact ⟨k + 1, q + nq, by omega, by go_num, by rw [← HA.out, World.drewN_drewN]⟩
              case measure => simp [intOf]; omega
          · have hc0 : c = 0 := hz.1 (by rw [List.getD_eq_getElem?_getD, List.getElem?_eq_none (by rw [HNO.out]; omega)]; rfl)
            subst hc0
            obtain ⟨f1, f2⟩ := not_lt_fact k nO hkF
            obtain ⟨A, hA⟩ : ∃ A, w4.drewN q = A := ⟨_, rfl⟩
            rw [hA] at hc2
            simp only [hA]
            have HA := Lib.hid hA
            clear hA hb2' hce hz
            go_wp2_with fail
            go_quiet (fail)
            go_wp2
            go_roundw
            case rel => exact ⟨k + 1, q + nq, by omega, by go_num, by rw [← HA.out, World.drewN_drewN]⟩
            case measure => simp [intOf]; omega
        obtain rfl : k = 30 := by omega
        have HB5 := Lib.hid (belDN HB4.out q)
        have HRF5 := Lib.hid (HRF4.out.drewN q)
        have HRO5 := Lib.hid (HRO3d.out.drewN q)
        clear HB4 HRF4 HRO3d HRO2d HOZ
        generalize w4.drewN q = w5 at *
        have HS1 := HSY.out w5 _ _ _ _ _ _ HB5.out HRF5.out HRO5.out HF255.out HO255.out
        rw [HNF.out, HNO.out] at HS1
        go_wp2_with fail
        refine HS1.mono ?_
        rintro e w6 ⟨rfl, hb6⟩
        have HB6 := Lib.hid (HB5.out.trans (hb6.mono HB5.out.size))
        clear HS1 hb6 HRF5 HRO5 HB5
        go_wp2_with fail
        refine (ref17_fixed _).mono ?_
        rintro e w7 ⟨y1, y2, rfl, r1, r2, hb7⟩
        have HB7 := Lib.hid (HB6.out.trans (hb7.mono HB6.out.size))
        have HS2 := HSY.out w7 _ _ _ _ _ _ HB7.out r1 r2 fixR_le fixQ_le
        rw [fixR_len, fixQ_len] at HS2
        obtain ⟨bx1, bx2⟩ := HBX.out
        have bx3 := HBF.out
        clear HB6 hb7 r1 r2 HBX HBF
        have HBX1 := Lib.hid bx1
        generalize symOut F O l = so at *
        generalize symOut fixR fixQ l = sr at *
        obtain ⟨sn, se⟩ := so
        obtain ⟨rn, re⟩ := sr
        simp only at bx1 bx2 bx3 hs1 hs2 HS2 ⊢
        subst bx1 bx3
        go_wp2_with fail
        refine HS2.mono ?_
        rintro e w8 ⟨rfl, hb8⟩
        have HB8 := Lib.hid (HB7.out.trans (hb8.mono HB7.out.size))
        have HH0 := Lib.hid (H0.out w8 HB8.out)
        have HH1 := Lib.hid (H1.out w8 HB8.out)
        obtain ⟨c5, c6, c9, c10⟩ := le_fact sn rn bx2
        clear HS2 hb8 HB7 bx2
        go_wp2_with (first | (at_builtin; refine appAnyS tok_elems2 rfl (.tmp 175) (.tmp 176) rfl (a := some ⟨w8.heap.size, 0, none⟩) (cap := 0) (l := []) (ys := l) (base := w8.heap.size) rfl (OwnS.lit0 _ _ _ _ (Nat.le_refl _)) rfl rfl (HH0.out.below (box_below _ _)) (by simp; omega) (by simp; omega) (by simp) ?_; intro a3 cap3 w9 hown9 hg9 hb9; simp only [List.nil_append] at hown9; simp only [List.length_nil, Nat.zero_add]; replace hb9 := (box_below w8 _).trans hb9) | (at_builtin; refine appAnyS tok_elems2 rfl (.tmp 177) (.tmp 178) rfl rfl hown9 rfl rfl (HH1.out.below hb9) (by omega) (by omega) hb9.size ?_; intro a5 cap5 w10 hown10 hg10 hb10))
        have hb810 : Below w8.heap.size w8 w10 := hb9.trans hb10
        have HB10 := Lib.hid (HB8.out.trans (hb810.mono HB8.out.size))
        have HC2 := cost_codes a5 cap5 (l ++ o) w10 HLO.out HLB.out hown10.row
        rw [HLE.out] at HC2
        clear hown9 hown10 hg9 hg10 hb9 hb10 hb810 HH0 HH1 HB8
        refine HC2.mono ?_
        rintro e w11 (⟨hok2, z1, m1, z2, m2, rfl, r1, r2, hb11⟩ | ⟨hbad, rfl, hb11⟩)
        case inr =>
          have HB11 := Lib.hid (HB10.out.trans (hb11.mono HB10.out.size))
          clear HC2 hb11 hbad HB10
          go_wp2_with fail
          refine (law17_counts _).mono ?_
          rintro e w12 ⟨rfl, hb12⟩
          go_wp2
          go_ret
          exact ⟨rfl, HB11.out.trans (hb12.mono HB11.out.size)⟩
        have HB11 := Lib.hid (HB10.out.trans (hb11.mono HB10.out.size))
        obtain ⟨by1, by2, by3⟩ := HBY.out hok2
        have HS3 := HSY.out w11 _ _ _ _ _ _ HB11.out r1 r2 HX255.out HY255.out
        clear HC2 hb11 hok2 HB10 r1 r2
        generalize symOut (codF (l ++ o)) (codO (l ++ o)) l = st at *
        generalize (codF (l ++ o)).length = nx at *
        generalize (codO (l ++ o)).length = ny at *
        obtain ⟨tn, te⟩ := st
        simp only at by1 by3 hs3 HS3
        subst by1
        obtain ⟨c7, c8, c11, c12⟩ := le_fact sn tn by3
        clear by2 by3
        go_wp2_with fail
        refine HS3.mono ?_
        rintro e w12 ⟨rfl, hb12⟩
        have HB12 := Lib.hid (HB11.out.trans (hb12.mono HB11.out.size))
        clear HS3 hb12
        go_wp2_with fail
        refine (law17_counts _).mono ?_
        rintro e w13 ⟨rfl, hb13⟩
        go_wp2
        go_ret
        exact ⟨rfl, HB12.out.trans (hb13.mono HB12.out.size)⟩
end Go.Proofs.Ytmgoeokdlklabaa

namespace Go.Proofs.Ytmgoeokdlklabaa
open Go.RowKit Go.Shelf M01 M04 M05 M06 M07 M08 M09 M10 M17
attribute [local go_sem] Oper.semAt_some
set_option linter.unusedVariables false
set_option linter.unusedSimpArgs false
theorem kn1 : (codF []).length = 257 ∧ (codF []).getD 256 0 = 1 ∧ (codO []).length = 1 ∧ (codO []).getD 0 0 = 0 := by decide +kernel
theorem kn2 : (codF [⟨0, 0, 97⟩, ⟨258, 32768, 0⟩]).length = 286 ∧ (codO [⟨0, 0, 97⟩, ⟨258, 32768, 0⟩]).length = 30 ∧ (codO [⟨0, 0, 97⟩, ⟨258, 32768, 0⟩]).getD 29 0 = 1 := by decide +kernel
theorem kn3 : fixOut [⟨0, 0, 97⟩] = (18, 0) ∧ fixOut [⟨3, 1, 1⟩] = (0, 5) := by decide +kernel
theorem kn4 : dynOut [⟨0, 1, 0⟩] = (0, 5) := by
  unfold dynOut
  rw [codE_bad (by decide)]
  rfl
theorem kn5 : storedZ 0 0 = 40 ∧ storedZ 2 0 = 56 ∧ storedZ 65536 0 = 524368 ∧ storedZ 65535 0 = 524320 ∧ storedZ (-1) 0 = 0 ∧ storedZ 0 (-1) = 0 := by decide +kernel
theorem row_elem17 {k : IntKind} {w : World} {a : Option Addr} {cap : Nat} {l : List Nat} (h : RowN k w a cap l) (i x : Nat) (hi : i < l.length) (hx : l.getD i 0 = x) : ∃ b off, a = some ⟨b, off, none⟩ ∧ b < w.heap.size ∧ w.cell? ⟨b, off + i, none⟩ = some (.int k (x : Nat)) := by
  obtain ⟨b, off, e, hb, hc⟩ := h.at hi
  have : l[i] = x := by rw [← hx, List.getD_eq_getElem?_getD, List.getElem?_eq_getElem hi]; rfl
  rw [this] at hc
  exact ⟨b, off, e, hb, hc⟩
theorem cell_below {B : Nat} {w w' : World} {b off : Nat} {v : Value} (hb : Below B w w') (h : b < B) (hc : w.cell? ⟨b, off, none⟩ = some v) : w'.cell? ⟨b, off, none⟩ = some v := (hb.cell (p := ⟨b, off, none⟩) h).trans hc
set_option maxRecDepth 100000 in
set_option maxHeartbeats 3200000 in
theorem law_known17 (w : World) : Calls Try.prog 11 #[] w (RetTrue17 w) := by
  go_enter Try.func11, Try.ntmps11
  go_wp2_with fail
  refine (cost_Fixed _ 1 [⟨0, 0, 97⟩] _ (by decide) (by decide) ?h1).mono ?_
  case h1 => exact RowS.lit encT w [⟨0, 0, 97⟩] _ _ _ rfl rfl (by decide)
  rintro e w1 ⟨rfl, hb1⟩
  rw [kn3.1]
  have HB1 := Lib.hid ((box_below w _).trans (hb1.mono (by simp)))
  clear hb1
  go_wp2_with fail
  refine (cost_codes none 0 [] _ (by decide) (by simp) (RowS.nil _ _)).mono ?_
  rintro e w2 (⟨_, a1, c1, a2, c2, rfl, r1, r2, hb2⟩ | ⟨hbad, _⟩)
  case inr => exact absurd (by simp) hbad
  obtain ⟨bF, oF, rfl, hbF, hcF⟩ := row_elem17 r1 256 1 (by rw [kn1.1]; decide) kn1.2.1
  obtain ⟨bO, oO, rfl, hbO, hcO⟩ := row_elem17 r2 0 0 (by rw [kn1.2.2.1]; decide) kn1.2.2.2
  rw [kn1.1, kn1.2.2.1]
  rw [Nat.add_zero] at hcO
  have HB2 := Lib.hid (HB1.out.trans (hb2.mono HB1.out.size))
  clear hb2 HB1 r1 r2
  go_wp2_with fail
  refine (cost_codes _ 2 [⟨0, 0, 97⟩, ⟨258, 32768, 0⟩] _ (by decide) (by decide) ?h2).mono ?_
  case h2 => exact RowS.lit encT w2 [⟨0, 0, 97⟩, ⟨258, 32768, 0⟩] _ _ _ rfl rfl (by decide)
  rintro e w3 (⟨_, a3, c3, a4, c4, rfl, r3, r4, hb3⟩ | ⟨hbad, _⟩)
  case inr => exact absurd (by decide) hbad
  obtain ⟨bQ, oQ, rfl, hbQ, hcQ⟩ := row_elem17 r4 29 1 (by rw [kn2.2.1]; decide) kn2.2.2
  rw [kn2.1, kn2.2.1]
  replace hb3 := (box_below w2 _).trans (hb3.mono (by simp))
  replace hcF := cell_below hb3 hbF hcF
  replace hcO := cell_below hb3 hbO hcO
  have hz3 := hb3.size
  have HB3 := Lib.hid (HB2.out.trans (hb3.mono HB2.out.size))
  clear hb3 HB2 r3 r4
  go_wp2_with fail
  refine (cost_codes _ 1 [⟨2, 1, 0⟩] _ (by decide) (by decide) ?h3).mono ?_
  case h3 => exact RowS.lit encT w3 [⟨2, 1, 0⟩] _ _ _ rfl rfl (by decide)
  rintro e w4 (⟨hok, _⟩ | ⟨_, rfl, hb4⟩)
  · exact absurd hok (by decide)
  replace hb4 := (box_below w3 _).trans (hb4.mono (by simp))
  replace hcF := cell_below hb4 (by omega) hcF
  replace hcO := cell_below hb4 (by omega) hcO
  replace hcQ := cell_below hb4 hbQ hcQ
  have hz4 := hb4.size
  have HB4 := Lib.hid (HB3.out.trans (hb4.mono HB3.out.size))
  clear hb4 HB3
  go_wp2_with fail
  refine (cost_Fixed _ 1 [⟨3, 1, 1⟩] _ (by decide) (by decide) ?h4).mono ?_
  case h4 => exact RowS.lit encT w4 [⟨3, 1, 1⟩] _ _ _ rfl rfl (by decide)
  rintro e w5 ⟨rfl, hb5⟩
  rw [kn3.2]
  replace hb5 := (box_below w4 _).trans (hb5.mono (by simp))
  replace hcF := cell_below hb5 (by omega) hcF
  replace hcO := cell_below hb5 (by omega) hcO
  replace hcQ := cell_below hb5 (by omega) hcQ
  have hz5 := hb5.size
  have HB5 := Lib.hid (HB4.out.trans (hb5.mono HB4.out.size))
  clear hb5 HB4
  go_wp2_with fail
  refine (cost_dynamic _ 1 [⟨0, 1, 0⟩] _ (by decide) (by decide) ?h5).mono ?_
  case h5 => exact RowS.lit encT w5 [⟨0, 1, 0⟩] _ _ _ rfl rfl (by decide)
  rintro e w6 ⟨rfl, hb6⟩
  rw [kn4]
  replace hb6 := (box_below w5 _).trans (hb6.mono (by simp))
  replace hcF := cell_below hb6 (by omega) hcF
  replace hcO := cell_below hb6 (by omega) hcO
  replace hcQ := cell_below hb6 (by omega) hcQ
  have HB6 := Lib.hid (HB5.out.trans (hb6.mono HB5.out.size))
  clear hb6 HB5 hz3 hz4 hz5
  obtain ⟨k1, k2, k3, k4, k5, k6⟩ := kn5
  go_wp2_with fail
  refine (cost_stored 0 0 _ (by decide) (by decide)).mono ?_
  rintro e w7 ⟨rfl, rfl⟩
  rw [k1]
  go_wp2_with fail
  refine (cost_stored 2 0 _ (by decide) (by decide)).mono ?_
  rintro e w7 ⟨rfl, rfl⟩
  rw [k2]
  go_wp2_with fail
  refine (cost_stored 65536 0 _ (by decide) (by decide)).mono ?_
  rintro e w7 ⟨rfl, rfl⟩
  rw [k3]
  go_wp2_with fail
  refine (cost_stored 65535 0 _ (by decide) (by decide)).mono ?_
  rintro e w7 ⟨rfl, rfl⟩
  rw [k4]
  go_wp2_with fail
  refine (cost_stored (-1) 0 _ (by decide) (by decide)).mono ?_
  rintro e w7 ⟨rfl, rfl⟩
  rw [k5]
  go_wp2_with fail
  refine (cost_stored 0 (-1) _ (by decide) (by decide)).mono ?_
  rintro e w7 ⟨rfl, rfl⟩
  rw [k6]
  go_wp2_with fail
  refine (law17_counts _).mono ?_
  rintro e w8 ⟨rfl, hb8⟩
  go_wp2
  go_ret
  exact ⟨rfl, HB6.out.trans (hb8.mono HB6.out.size)⟩
end Go.Proofs.Ytmgoeokdlklabaa
