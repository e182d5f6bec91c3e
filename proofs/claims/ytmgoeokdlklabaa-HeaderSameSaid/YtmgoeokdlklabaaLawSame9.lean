/- HeaderSame: the law's walk. Printed by gen/law09same.py. -/
import Derived.Test.YtmgoeokdlklabaaLawGets9
import Derived.Test.YtmgoeokdlklabaaFlowG
namespace Go.Proofs.Ytmgoeokdlklabaa
open Go.RowKit Go.Shelf M01 M04 M05 M06 M07 M09
attribute [local go_sem] Oper.semAt_some
set_option linter.unusedVariables false
set_option linter.unusedSimpArgs false

theorem wanted_none {o : Oper} {y : Nat → Option Bool} (h : o.guard = none) : Region.wanted o y = true := by simp [Region.wanted, h]
theorem wanted_of {o : Oper} {ops : Array Oper} {tmps : Array Value} {g d : Nat} {b : Bool} (hg : o.guard = some (g, b)) (hd : (ops[g]?).bind (·.dst) = some d) (hv : tmps[d]?.getD undef = .bool b) : Region.wanted o (yielded ops tmps) = true := by
  unfold Region.wanted
  rw [hg]
  simp only [yielded, hd, Option.bind_some]
  cases h : tmps[d]? with
  | none => rw [h] at hv; cases hv
  | some v => rw [h] at hv; simp only [Option.getD_some] at hv; subst hv; simp
/-- what the slots hold: two hold rows -/
def SmV (T : Wst) (VP : Nat → Value → Prop) (j : Nat) (v : Value) (w : World) : Prop := if j = 7 ∨ j = 9 then ∃ a c, v = .slice a T.1.length c ∧ RowN .u8 w a c T.1 else VP j v
theorem SmV.val {T : Wst} {VP : Nat → Value → Prop} {j : Nat} {v : Value} {w : World} (hj : ¬ (j = 7 ∨ j = 9)) (h : SmV T VP j v w) : VP j v := by unfold SmV at h; rwa [if_neg hj] at h
theorem SmV.of {T : Wst} {VP : Nat → Value → Prop} {j : Nat} {v : Value} {w : World} (hj : ¬ (j = 7 ∨ j = 9)) (h : VP j v) : SmV T VP j v w := by unfold SmV; rwa [if_neg hj]
theorem SmV.row {T : Wst} {VP : Nat → Value → Prop} {j : Nat} {v : Value} {w : World} (hj : j = 7 ∨ j = 9) (h : ∃ a c, v = .slice a T.1.length c ∧ RowN .u8 w a c T.1) : SmV T VP j v w := by unfold SmV; rwa [if_pos hj]
theorem SmV.got {T : Wst} {VP : Nat → Value → Prop} {j : Nat} {v : Value} {w : World} (hj : j = 7 ∨ j = 9) (h : SmV T VP j v w) : ∃ a c, v = .slice a T.1.length c ∧ RowN .u8 w a c T.1 := by unfold SmV at h; rwa [if_pos hj] at h
theorem SmV.mono {T : Wst} {VP : Nat → Value → Prop} {j : Nat} {v : Value} {w w' : World} (h : SmV T VP j v w) (hb : Below w.heap.size w w') : SmV T VP j v w' := by
  by_cases hj : j = 7 ∨ j = 9
  · obtain ⟨a, c, e, hr⟩ := h.got hj
    exact SmV.row hj ⟨a, c, e, hr.below hb⟩
  · exact SmV.of hj (h.val hj)
theorem hdr_facts {l : List Nat} {r : (List Nat × List Nat) × Nat} (h : hdr l 0 = some r) : mayH r.1.1 r.1.2 = true := by
  unfold hdr at h
  split at h
  · cases h
  · unfold hdrB at h
    split at h
    · cases h
    · split at h
      · cases h
      · unfold hdrE at h
        split at h
        · cases h
        · split at h
          · cases h
          · split at h
            · next hm => cases h; exact hm
            · cases h
theorem OwnN.onlyG {T : Nat → Prop} {E : TypeId} {k : IntKind} {A B : World} {base cap : Nat} {a : Option Addr} {l : List Nat} (h : OwnN E k A base a cap l) (ho : Only T A B) (hT : ∀ g, a = some ⟨g, 0, none⟩ → ¬ T g) : OwnN E k B base a cap l := by
  refine ⟨h.1, ?_⟩
  rcases h.2 with h2 | ⟨g, c, cur, h1, h2, h3, h4⟩
  · exact .inl h2
  · exact .inr ⟨g, c, cur, h1, h2, box_only h3 ho (hT g (by cases h1; rfl)), h4⟩
theorem Wr.keepT {P T : Nat → Prop} {w w' : World} {p : Nat} {s : Wst} (h : Wr P w p s) (ho : Only T w w') (hT : ∀ b, b < w.heap.size → P b → ¬ T b) : Wr P w' p s := by
  have hlt := h.lt
  obtain ⟨⟨a, c, h1, h2, h3, h4, h5⟩, h6⟩ := h
  refine ⟨⟨a, c, (ho.block p hlt (hT p hlt h3)).trans h1, h2.onlyG ho (fun g hg => ?_), h3, h4, fun b hb => h5 b (Nat.le_trans ho.size hb)⟩, h6⟩
  rcases h2.form with ⟨e, _⟩ | ⟨g', e, _, hl⟩
  · rw [e] at hg; cases hg
  · rw [e] at hg; cases hg; exact hT _ hl (h4 _ e).1
theorem wr_at0 {P : Nat → Prop} {w : World} {p : Nat} (h : w.heap[p]? = some (.cells #[.slice none 0 0, .int .i64 0] 24 (0, 0))) (hp : P p) (hs : ∀ b, w.heap.size ≤ b → P b) : Wr P w p ([], 0) :=
  ⟨⟨none, 0, h, OwnN.nil _ _ _ _, hp, fun g hg => (by cases hg), hs⟩, ⟨rfl, by simp⟩, Nat.zero_le _⟩

set_option maxRecDepth 100000 in
set_option maxHeartbeats 6400000 in
theorem law_same9 (w : World) (a : Option Addr) (cap : Nat) (l : List Nat) (hr : RowN .u8 w a cap l) (hb : ∀ x ∈ l, x < 256) :
    Calls Try.prog 5 #[.slice a l.length cap] w fun e w' => e = .returned (.bool true) ∧ Below w.heap.size w w' := by
  by_cases h400 : 400 < l.length
  · have t1 : decide ((400 : Int) < (l.length : Int)) = true := by simp; omega
    clear hr hb
    go_enter Try.func5, Try.ntmps5
    go_wp2
    go_ret
    exact ⟨rfl, Below.refl _ _⟩
  have t1 : decide ((400 : Int) < (l.length : Int)) = false := by simp; omega
  have HNEW := Lib.hid (lsb_new w a cap l hr hb (by omega))
  have HHE := Lib.hid (fun A => law09_heads A)
  clear hr hb
  go_enter Try.func5, Try.ntmps5
  go_wp2_with fail
  refine HNEW.out.mono ?_
  rintro e w1 ⟨rp, rfl, hrd, hb1, hrp⟩
  have hrl := hrd.lt
  have hg := hdr_get w1 rp l 0 hrd
  have HB1 := Lib.hid hb1
  have HRS := Lib.hid (fun r (h : hdr l 0 = some r) => hdr_facts h)
  have HG := Lib.hid hg
  generalize hdr l 0 = R at *
  clear hrd hg hb1 HNEW
  go_wp2_with fail
  refine HG.out.mono ?_
  rintro e w2 ⟨ho2, hout⟩
  have HB2 := Lib.hid (Below.skip HB1.out ho2 hrp (Nat.le_refl _))
  clear HG HB1 ho2 hrl
  match R, hout with
  | none, hout =>
    obtain rfl := hout
    go_wp2_with (go_at_call 17; refine (HHE.out _).mono ?_; rintro e w6 ⟨rfl, hb6⟩; have HB6 := Lib.hid (HB2.out.trans (hb6.mono HB2.out.size)); clear hb6)
    go_ret
    exact ⟨rfl, HB6.out⟩
  | some ((f, o), at2), hout =>
    obtain ⟨xa, xc, ya, yc, rfl, hx, hy, _⟩ := hout
    have hm := HRS.out _ rfl
    simp only at hm
    have hmf := mayH_facts hm
    have hz2 := HB2.out.size
    have HX := Lib.hid hx
    have HY := Lib.hid hy
    obtain ⟨T, hT⟩ : ∃ T, hputW ([], 0) f o = T := ⟨_, rfl⟩
    have hwg : WG T := by rw [← hT]; exact (hputW_g empty_g f o).1
    have HHL := Lib.hid (show hdr T.1 0 = some ((f, o), T.2) from by
      have h := hdr_laid (s := ([], 0)) (t := T) empty_g hwg f o hm (by rw [hT]; exact .refl _)
      rw [hT] at h; exact h)
    have htb := hwg.1.2
    have hbx := box_b w2 (.cells #[.slice none 0 0, .int .i64 0] 24)
    have hby := box_b (w2.alloc (.cells #[.slice none 0 0, .int .i64 0] 24)) (.cells #[.slice none 0 0, .int .i64 0] 24)
    obtain ⟨W1, hW1⟩ : ∃ W1, w2.alloc (.cells #[.slice none 0 0, .int .i64 0] 24) = W1 := ⟨_, rfl⟩
    obtain ⟨W2, hW2⟩ : ∃ W2, W1.alloc (.cells #[.slice none 0 0, .int .i64 0] 24) = W2 := ⟨_, rfl⟩
    have hs1 : W1.heap.size = w2.heap.size + 1 := by rw [← hW1]; simp
    have hs2 : W2.heap.size = w2.heap.size + 1 + 1 := by rw [← hW2]; simp [hs1]
    have hw1 := wrE_new w2
    have hv0 : W2.heap[w2.heap.size + 1]? = some (.cells #[.slice none 0 0, .int .i64 0] 24 (0, 0)) := by
      rw [← hW2, ← hs1]; exact World.alloc_heap_new W1 _
    rw [hW1] at hbx hby hw1
    rw [hW2] at hby
    have hwn := hw1.narrow hby
    have hb22 : Below w2.heap.size w2 W2 := hbx.trans (hby.mono hbx.size)
    obtain ⟨P1, hP1⟩ : ∃ P1, Sub (fun b => w2.heap.size ≤ b) W1.heap.size W2.heap.size = P1 := ⟨_, rfl⟩
    rw [hP1] at hwn
    have HP1 := Lib.hid (fun k => (by rw [← hP1]; unfold Sub; exact Iff.rfl : P1 k ↔ (w2.heap.size ≤ k ∧ ¬ (W1.heap.size ≤ k ∧ k < W2.heap.size))))
    have HPU := Lib.hid (by have := header_put hwn xa ya xc yc f o (HX.out.below hb22) (HY.out.below hb22) (by omega) (by omega) (by show 0 + 6000 ≤ 100000000; decide); rw [hm, hT] at this; exact this)
    have HPV := Lib.hid (fun (P : Nat → Prop) A (hw : Wr P A (w2.heap.size + 1) ([], 0)) (h1 : RowN .u8 A xa xc f) (h2 : RowN .u8 A ya yc o) => (by have := header_put hw xa ya xc yc f o h1 h2 (by omega) (by omega) (by show 0 + 6000 ≤ 100000000; decide); rw [hm, hT] at this; exact this : _))
    have HV0 := Lib.hid hv0
    have HB22 := Lib.hid hb22
    clear hx hy hm hmf hT hwg hbx hby hw1 hv0 hwn hb22 hP1 HRS
    go_wp2_with fail
    refine HPU.out.mono ?_
    rintro e w3 ⟨ho3, rfl, hw3⟩
    have hB3 : Below w2.heap.size w2 w3 := Below.only HB22.out ho3 (Nat.le_refl _) (fun b hb => (HP1.out b |>.1 hb).1)
    have hs3 := ho3.size
    have hv3 := (ho3.block (w2.heap.size + 1) (by omega) (fun h => (HP1.out _ |>.1 h).2 ⟨by omega, by omega⟩)).trans HV0.out
    have hwv : Wr (fun b => b = w2.heap.size + 1 ∨ w3.heap.size ≤ b) w3 (w2.heap.size + 1) ([], 0) := wr_at0 hv3 (.inl rfl) (fun b hb => .inr hb)
    have HPV3 := Lib.hid (HPV.out _ w3 hwv (HX.out.below hB3) (HY.out.below hB3))
    have HW3 := Lib.hid hw3
    have HB3 := Lib.hid hB3
    clear ho3 hw3 hB3 hv3 hwv HPV HPU HV0 HB22
    go_wp2_with fail
    refine HPV3.out.mono ?_
    rintro e w4 ⟨ho4, rfl, hw4⟩
    have hW4 := HW3.out.keepT ho4 (fun b hb hp h => by
      rcases h with h | h
      · exact (HP1.out b |>.1 hp).2 ⟨by omega, by omega⟩
      · omega)
    have HW4 := Lib.hid hW4
    have HV4 := Lib.hid hw4
    have HB4 := Lib.hid (Below.only HB3.out ho4 (Nat.le_refl _) (fun b hb => by rcases hb with h | h <;> omega) : Below w2.heap.size w2 w4)
    have htl : T.1.length ≤ 100000000 := by have := hW4.2.1.1; have := hW4.2.2; omega
    clear ho4 hw4 hW4 HPV3 HW3 HB3 hs1 hs2 hs3
    go_wp2_with fail
    refine (lsb_bytes HW4.out).mono ?_
    rintro e w5 ⟨a5, c5, rfl, ho5, hb5⟩
    have HB5 := Lib.hid (HB4.out.trans (hb5.mono HB4.out.size))
    have HW5 := Lib.hid (HW4.out.below hb5)
    have HV5 := Lib.hid (HV4.out.below hb5)
    have HR5 := Lib.hid ho5.row
    clear ho5 hb5 HB4 HW4 HV4
    go_wp2_with fail
    refine (lsb_new w5 a5 c5 T.1 HR5.out htb htl).mono ?_
    rintro e w6 ⟨rq, rfl, hrq, hb6, hrq2⟩
    have hrl := hrq.lt
    have hg := hdr_get w6 rq T.1 0 hrq
    rw [HHL.out] at hg
    have HGT := Lib.hid hg
    have HB6 := Lib.hid hb6
    clear hg hrq hb6 HR5 htb htl
    go_wp2_with fail
    refine HGT.out.mono ?_
    rintro e w7 ⟨ho7, pa, pc, qa, qc, rfl, hp7, hq7, _⟩
    have HW7 := Lib.hid (HW5.out.skip HB6.out ho7 hrq2 hrl)
    have HV7 := Lib.hid (HV5.out.skip HB6.out ho7 hrq2 hrl)
    have HB7 := Lib.hid (HB5.out.trans ((Below.skip HB6.out ho7 hrq2 (Nat.le_refl _)).mono HB5.out.size))
    have HP7 := Lib.hid hp7
    have HQ7 := Lib.hid hq7
    obtain ⟨x1, hx1⟩ : ∃ x1, strOf f = x1 := ⟨_, rfl⟩
    obtain ⟨x2, hx2⟩ : ∃ x2, strOf o = x2 := ⟨_, rfl⟩
    obtain ⟨x3, hx3⟩ : ∃ x3, strOf T.1 = x3 := ⟨_, rfl⟩
    obtain ⟨W0, hW0⟩ : ∃ W0, w7 = W0 := ⟨_, rfl⟩
    have HBX := Lib.hid (HX.out.below HB7.out)
    have HBY := Lib.hid (HY.out.below HB7.out)
    have HB0 := Lib.hid (fun A (h : Below w7.heap.size w7 A) => (HB2.out.trans ((HB7.out.trans (h.mono HB7.out.size)).mono HB2.out.size) : Below w.heap.size w A))
    rw [hW0] at HBX HBY HB0 HP7 HQ7 HW7 HV7
    have HBY1 := Lib.hid (fun A (h : Below W0.heap.size W0 A) => lsb_bytes (HW7.out.below h))
    have HBY2 := Lib.hid (fun A (h : Below W0.heap.size W0 A) => lsb_bytes (HV7.out.below h))
    have HCX := Lib.hid (fun A (h : Below W0.heap.size W0 A) => (by have := conv_row Try.underlying22 Try.underlying5 Try.underlying9 rfl (HBX.out.below h); rw [hx1] at this; exact this : _))
    have HCY := Lib.hid (fun A (h : Below W0.heap.size W0 A) => (by have := conv_row Try.underlying22 Try.underlying5 Try.underlying9 rfl (HBY.out.below h); rw [hx2] at this; exact this : _))
    have HCP := Lib.hid (fun A (h : Below W0.heap.size W0 A) => (by have := conv_row Try.underlying22 Try.underlying5 Try.underlying9 rfl (HP7.out.below h); rw [hx1] at this; exact this : _))
    have HCQ := Lib.hid (fun A (h : Below W0.heap.size W0 A) => (by have := conv_row Try.underlying22 Try.underlying5 Try.underlying9 rfl (HQ7.out.below h); rw [hx2] at this; exact this : _))
    have HX3 := Lib.hid hx3
    have tl1 : (x1.toList == x1.toList) = true := by simp
    have tl2 : (x2.toList == x2.toList) = true := by simp
    have tl3 : (x3.toList == x3.toList) = true := by simp
    have HW0 := Lib.hid hW0
    obtain ⟨n1, hn1⟩ : ∃ n1, f.length = n1 := ⟨_, rfl⟩
    obtain ⟨n2, hn2⟩ : ∃ n2, o.length = n2 := ⟨_, rfl⟩
    rw [hn1] at HCX HCP
    rw [hn2] at HCY HCQ
    rw [hn1, hn2]
    clear hx1 hx2 hx3 hW0 hn1 hn2 hp7 hq7 ho7 HB5 HB6 HB7 HW5 HV5 HGT hrq2 hrl HBX HBY HP7 HQ7
    go_wp2_with fail
    refine FG.wp_region_flowG [53, 54, 55, 56, 57, 58, 59, 60, 61, 62, 63, 64, 65, 66, 67, 68, 69, 70, 71, 72, 73, 74, 75, 76, 77, 78, 79, 80, 81, 82, 83, 84, 85, 86, 2] (fun j => j == 34) (fun listed w1 => Below W0.heap.size W0 w1) (SmV T (fun j v => match j with | 0 => v = .int .i64 0 | 1 => v = .bool true | 2 => v = .bool true | 3 => v = .int .i64 0 | 4 => v = .bool true | 5 => v = .bool true | 6 => v = .bool true | 8 => v = .string x3 | 10 => v = .string x3 | 11 => v = .bool true | 12 => v = .bool true | 13 => v = .bool true | 14 => v = .int .i64 0 | 15 => v = .bool true | 16 => v = .bool true | 17 => v = .bool true | 18 => v = .slice pa n1 pc | 19 => v = .string x1 | 20 => v = .slice xa n1 xc | 21 => v = .string x1 | 22 => v = .bool true | 23 => v = .bool true | 24 => v = .bool true | 25 => v = .slice qa n2 qc | 26 => v = .string x2 | 27 => v = .slice ya n2 yc | 28 => v = .string x2 | 29 => v = .bool true | 30 => v = .bool true | 31 => v = .bool true | 32 => v = .bool true | 33 => v = .bool true | 34 => v = .bool true | _ => True)) (fun _ _ _ _ => True) (by kernel_rfl) (by kernel_rfl) (FG.OneEach.mk' (by kernel_rfl) (by kernel_rfl)) (by kernel_rfl) (by rw [← HW0.out]; exact ⟨rfl, rfl, rfl, Nat.le_refl _, fun _ _ => rfl⟩) ?_ ?_
    · intro i0 o hi0 listed a1 w1 hR hil hunf hdes hanc hout hold hdep
      have hsz : i0 < 35 := (Array.getElem?_eq_some_iff.1 hi0).1
      have hall : i0 = 0 ∨ i0 = 1 ∨ i0 = 2 ∨ i0 = 3 ∨ i0 = 4 ∨ i0 = 5 ∨ i0 = 6 ∨ i0 = 7 ∨ i0 = 8 ∨ i0 = 9 ∨ i0 = 10 ∨ i0 = 11 ∨ i0 = 12 ∨ i0 = 13 ∨ i0 = 14 ∨ i0 = 15 ∨ i0 = 16 ∨ i0 = 17 ∨ i0 = 18 ∨ i0 = 19 ∨ i0 = 20 ∨ i0 = 21 ∨ i0 = 22 ∨ i0 = 23 ∨ i0 = 24 ∨ i0 = 25 ∨ i0 = 26 ∨ i0 = 27 ∨ i0 = 28 ∨ i0 = 29 ∨ i0 = 30 ∨ i0 = 31 ∨ i0 = 32 ∨ i0 = 33 ∨ i0 = 34 := by omega
      clear hsz
      rcases hall with rfl | rfl | rfl | rfl | rfl | rfl | rfl | rfl | rfl | rfl | rfl | rfl | rfl | rfl | rfl | rfl | rfl | rfl | rfl | rfl | rfl | rfl | rfl | rfl | rfl | rfl | rfl | rfl | rfl | rfl | rfl | rfl | rfl | rfl | rfl <;> simp only [List.getElem?_toArray, List.getElem?_cons_zero, List.getElem?_cons_succ, Option.some.injEq] at hi0 <;> subst hi0
      · refine ⟨wanted_none rfl, ?_⟩
        have f8 : a1.eval (.tmp 8) = .int .i64 0 := hout 8 (by decide)
        refine stepTo_val (v := .int .i64 0) (w' := w1) (by simp [execOp, f8]) ⟨_, rfl, hR, fun j u hu hV _ => ⟨hV, trivial, trivial⟩, SmV.of (by decide) rfl⟩
      · refine ⟨wanted_none rfl, ?_⟩
        have e53 : a1.eval (.tmp 53) = .int .i64 0 := SmV.val (by decide) (hdep ⟨0, .data⟩ (by simp) rfl _ rfl)
        have x53 : a1.tmps[53]?.getD undef = .int .i64 0 := by simpa [Act.eval] using e53
        refine stepTo_val (v := .bool true) (w' := w1) (by simp [execOp, x53, go_sem, evalC]) ⟨_, rfl, hR, fun j u hu hV _ => ⟨hV, trivial, trivial⟩, SmV.of (by decide) rfl⟩
      · refine ⟨wanted_none rfl, ?_⟩
        have e54 : a1.eval (.tmp 54) = .bool true := SmV.val (by decide) (hdep ⟨1, .data⟩ (by simp) rfl _ rfl)
        refine stepTo_val (v := .bool true) (w' := w1) (by simp [execOp, e54]) ⟨_, rfl, hR, fun j u hu hV _ => ⟨hV, trivial, trivial⟩, SmV.of (by decide) rfl⟩
      · have eg : a1.eval (.tmp 55) = .bool true := SmV.val (by decide) (hdep ⟨2, .guard⟩ (by simp) rfl _ rfl)
        refine ⟨wanted_of rfl rfl (by simpa [Act.eval] using eg), ?_⟩
        have f9 : a1.eval (.tmp 9) = .int .i64 0 := hout 9 (by decide)
        refine stepTo_val (v := .int .i64 0) (w' := w1) (by simp [execOp, f9]) ⟨_, rfl, hR, fun j u hu hV _ => ⟨hV, trivial, trivial⟩, SmV.of (by decide) rfl⟩
      · have eg : a1.eval (.tmp 55) = .bool true := SmV.val (by decide) (hdep ⟨2, .guard⟩ (by simp) rfl _ rfl)
        refine ⟨wanted_of rfl rfl (by simpa [Act.eval] using eg), ?_⟩
        have e56 : a1.eval (.tmp 56) = .int .i64 0 := SmV.val (by decide) (hdep ⟨3, .data⟩ (by simp) rfl _ rfl)
        have x56 : a1.tmps[56]?.getD undef = .int .i64 0 := by simpa [Act.eval] using e56
        refine stepTo_val (v := .bool true) (w' := w1) (by simp [execOp, x56, go_sem, evalC]) ⟨_, rfl, hR, fun j u hu hV _ => ⟨hV, trivial, trivial⟩, SmV.of (by decide) rfl⟩
      · refine ⟨wanted_none rfl, ?_⟩
        have e55 : a1.eval (.tmp 55) = .bool true := SmV.val (by decide) (hdep ⟨2, .data⟩ (by simp) rfl _ rfl)
        have e57 : a1.eval (.tmp 57) = .bool true := SmV.val (by decide) (hdep ⟨4, .data⟩ (by simp) rfl _ rfl)
        have x55 : a1.tmps[55]?.getD undef = .bool true := by simpa [Act.eval] using e55
        have x57 : a1.tmps[57]?.getD undef = .bool true := by simpa [Act.eval] using e57
        refine stepTo_val (v := .bool true) (w' := w1) (by simp [execOp, x55, x57, go_sem]) ⟨_, rfl, hR, fun j u hu hV _ => ⟨hV, trivial, trivial⟩, SmV.of (by decide) rfl⟩
      · refine ⟨wanted_none rfl, ?_⟩
        have e58 : a1.eval (.tmp 58) = .bool true := SmV.val (by decide) (hdep ⟨5, .data⟩ (by simp) rfl _ rfl)
        refine stepTo_val (v := .bool true) (w' := w1) (by simp [execOp, e58]) ⟨_, rfl, hR, fun j u hu hV _ => ⟨hV, trivial, trivial⟩, SmV.of (by decide) rfl⟩
      · have eg : a1.eval (.tmp 59) = .bool true := SmV.val (by decide) (hdep ⟨6, .guard⟩ (by simp) rfl _ rfl)
        refine ⟨wanted_of rfl rfl (by simpa [Act.eval] using eg), ?_⟩
        have f6 : a1.eval (.tmp 6) = .pointer (some ⟨w2.heap.size, 0, none⟩) := hout 6 (by decide)
        have x6 : a1.tmps[6]?.getD undef = .pointer (some ⟨w2.heap.size, 0, none⟩) := by simpa [Act.eval] using f6
        refine stepTo_call (f := 20) (args := #[.pointer (some ⟨w2.heap.size, 0, none⟩)]) (by simp [x6, go_sem]) ((HBY1.out w1 hR).mono ?_)
        rintro e w9 ⟨a9, c9, rfl, ho9, hb9⟩
        exact ⟨_, rfl, _, rfl, hR.trans (hb9.mono hR.size), fun j u hu hV _ => ⟨hV.mono hb9, trivial, trivial⟩, SmV.row (by decide) ⟨a9, c9, rfl, ho9.row⟩⟩
      · have eg : a1.eval (.tmp 59) = .bool true := SmV.val (by decide) (hdep ⟨6, .guard⟩ (by simp) rfl _ rfl)
        refine ⟨wanted_of rfl rfl (by simpa [Act.eval] using eg), ?_⟩
        obtain ⟨a9, c9, e60, hr9⟩ := SmV.got (by decide) (hdep ⟨7, .data⟩ (by simp) rfl _ rfl)
        have e9 : a1.eval (.tmp 60) = .slice a9 T.1.length c9 := e60
        have x9 : a1.tmps[60]?.getD undef = .slice a9 T.1.length c9 := by simpa [Act.eval] using e9
        have hcv := conv_row Try.underlying22 Try.underlying5 Try.underlying9 rfl hr9
        rw [HX3.out] at hcv
        refine stepTo_val (v := .string x3) (w' := w1) (by simp [execOp, x9, hcv, go_sem]) ⟨_, rfl, hR, fun j u hu hV _ => ⟨hV, trivial, trivial⟩, SmV.of (by decide) rfl⟩
      · have eg : a1.eval (.tmp 59) = .bool true := SmV.val (by decide) (hdep ⟨6, .guard⟩ (by simp) rfl _ rfl)
        refine ⟨wanted_of rfl rfl (by simpa [Act.eval] using eg), ?_⟩
        have f7 : a1.eval (.tmp 7) = .pointer (some ⟨w2.heap.size + 1, 0, none⟩) := hout 7 (by decide)
        have x7 : a1.tmps[7]?.getD undef = .pointer (some ⟨w2.heap.size + 1, 0, none⟩) := by simpa [Act.eval] using f7
        refine stepTo_call (f := 20) (args := #[.pointer (some ⟨w2.heap.size + 1, 0, none⟩)]) (by simp [x7, go_sem]) ((HBY2.out w1 hR).mono ?_)
        rintro e w9 ⟨a9, c9, rfl, ho9, hb9⟩
        exact ⟨_, rfl, _, rfl, hR.trans (hb9.mono hR.size), fun j u hu hV _ => ⟨hV.mono hb9, trivial, trivial⟩, SmV.row (by decide) ⟨a9, c9, rfl, ho9.row⟩⟩
      · have eg : a1.eval (.tmp 59) = .bool true := SmV.val (by decide) (hdep ⟨6, .guard⟩ (by simp) rfl _ rfl)
        refine ⟨wanted_of rfl rfl (by simpa [Act.eval] using eg), ?_⟩
        obtain ⟨a9, c9, e62, hr9⟩ := SmV.got (by decide) (hdep ⟨9, .data⟩ (by simp) rfl _ rfl)
        have e9 : a1.eval (.tmp 62) = .slice a9 T.1.length c9 := e62
        have x9 : a1.tmps[62]?.getD undef = .slice a9 T.1.length c9 := by simpa [Act.eval] using e9
        have hcv := conv_row Try.underlying22 Try.underlying5 Try.underlying9 rfl hr9
        rw [HX3.out] at hcv
        refine stepTo_val (v := .string x3) (w' := w1) (by simp [execOp, x9, hcv, go_sem]) ⟨_, rfl, hR, fun j u hu hV _ => ⟨hV, trivial, trivial⟩, SmV.of (by decide) rfl⟩
      · have eg : a1.eval (.tmp 59) = .bool true := SmV.val (by decide) (hdep ⟨6, .guard⟩ (by simp) rfl _ rfl)
        refine ⟨wanted_of rfl rfl (by simpa [Act.eval] using eg), ?_⟩
        have e61 : a1.eval (.tmp 61) = .string x3 := SmV.val (by decide) (hdep ⟨8, .data⟩ (by simp) rfl _ rfl)
        have e63 : a1.eval (.tmp 63) = .string x3 := SmV.val (by decide) (hdep ⟨10, .data⟩ (by simp) rfl _ rfl)
        have x61 : a1.tmps[61]?.getD undef = .string x3 := by simpa [Act.eval] using e61
        have x63 : a1.tmps[63]?.getD undef = .string x3 := by simpa [Act.eval] using e63
        refine stepTo_val (v := .bool true) (w' := w1) (by simp [execOp, x61, x63, go_sem, tl3]) ⟨_, rfl, hR, fun j u hu hV _ => ⟨hV, trivial, trivial⟩, SmV.of (by decide) rfl⟩
      · refine ⟨wanted_none rfl, ?_⟩
        have e59 : a1.eval (.tmp 59) = .bool true := SmV.val (by decide) (hdep ⟨6, .data⟩ (by simp) rfl _ rfl)
        have e64 : a1.eval (.tmp 64) = .bool true := SmV.val (by decide) (hdep ⟨11, .data⟩ (by simp) rfl _ rfl)
        have x59 : a1.tmps[59]?.getD undef = .bool true := by simpa [Act.eval] using e59
        have x64 : a1.tmps[64]?.getD undef = .bool true := by simpa [Act.eval] using e64
        refine stepTo_val (v := .bool true) (w' := w1) (by simp [execOp, x59, x64, go_sem]) ⟨_, rfl, hR, fun j u hu hV _ => ⟨hV, trivial, trivial⟩, SmV.of (by decide) rfl⟩
      · refine ⟨wanted_none rfl, ?_⟩
        have e65 : a1.eval (.tmp 65) = .bool true := SmV.val (by decide) (hdep ⟨12, .data⟩ (by simp) rfl _ rfl)
        refine stepTo_val (v := .bool true) (w' := w1) (by simp [execOp, e65]) ⟨_, rfl, hR, fun j u hu hV _ => ⟨hV, trivial, trivial⟩, SmV.of (by decide) rfl⟩
      · have eg : a1.eval (.tmp 66) = .bool true := SmV.val (by decide) (hdep ⟨13, .guard⟩ (by simp) rfl _ rfl)
        refine ⟨wanted_of rfl rfl (by simpa [Act.eval] using eg), ?_⟩
        have f12 : a1.eval (.tmp 12) = .int .i64 0 := hout 12 (by decide)
        refine stepTo_val (v := .int .i64 0) (w' := w1) (by simp [execOp, f12]) ⟨_, rfl, hR, fun j u hu hV _ => ⟨hV, trivial, trivial⟩, SmV.of (by decide) rfl⟩
      · have eg : a1.eval (.tmp 66) = .bool true := SmV.val (by decide) (hdep ⟨13, .guard⟩ (by simp) rfl _ rfl)
        refine ⟨wanted_of rfl rfl (by simpa [Act.eval] using eg), ?_⟩
        have e67 : a1.eval (.tmp 67) = .int .i64 0 := SmV.val (by decide) (hdep ⟨14, .data⟩ (by simp) rfl _ rfl)
        have x67 : a1.tmps[67]?.getD undef = .int .i64 0 := by simpa [Act.eval] using e67
        refine stepTo_val (v := .bool true) (w' := w1) (by simp [execOp, x67, go_sem, evalC]) ⟨_, rfl, hR, fun j u hu hV _ => ⟨hV, trivial, trivial⟩, SmV.of (by decide) rfl⟩
      · refine ⟨wanted_none rfl, ?_⟩
        have e66 : a1.eval (.tmp 66) = .bool true := SmV.val (by decide) (hdep ⟨13, .data⟩ (by simp) rfl _ rfl)
        have e68 : a1.eval (.tmp 68) = .bool true := SmV.val (by decide) (hdep ⟨15, .data⟩ (by simp) rfl _ rfl)
        have x66 : a1.tmps[66]?.getD undef = .bool true := by simpa [Act.eval] using e66
        have x68 : a1.tmps[68]?.getD undef = .bool true := by simpa [Act.eval] using e68
        refine stepTo_val (v := .bool true) (w' := w1) (by simp [execOp, x66, x68, go_sem]) ⟨_, rfl, hR, fun j u hu hV _ => ⟨hV, trivial, trivial⟩, SmV.of (by decide) rfl⟩
      · refine ⟨wanted_none rfl, ?_⟩
        have e69 : a1.eval (.tmp 69) = .bool true := SmV.val (by decide) (hdep ⟨16, .data⟩ (by simp) rfl _ rfl)
        refine stepTo_val (v := .bool true) (w' := w1) (by simp [execOp, e69]) ⟨_, rfl, hR, fun j u hu hV _ => ⟨hV, trivial, trivial⟩, SmV.of (by decide) rfl⟩
      · have eg : a1.eval (.tmp 70) = .bool true := SmV.val (by decide) (hdep ⟨17, .guard⟩ (by simp) rfl _ rfl)
        refine ⟨wanted_of rfl rfl (by simpa [Act.eval] using eg), ?_⟩
        have f10 : a1.eval (.tmp 10) = .slice pa n1 pc := hout 10 (by decide)
        refine stepTo_val (v := .slice pa n1 pc) (w' := w1) (by simp [execOp, f10]) ⟨_, rfl, hR, fun j u hu hV _ => ⟨hV, trivial, trivial⟩, SmV.of (by decide) rfl⟩
      · have eg : a1.eval (.tmp 70) = .bool true := SmV.val (by decide) (hdep ⟨17, .guard⟩ (by simp) rfl _ rfl)
        refine ⟨wanted_of rfl rfl (by simpa [Act.eval] using eg), ?_⟩
        have e71 : a1.eval (.tmp 71) = .slice pa n1 pc := SmV.val (by decide) (hdep ⟨18, .data⟩ (by simp) rfl _ rfl)
        have x71 : a1.tmps[71]?.getD undef = .slice pa n1 pc := by simpa [Act.eval] using e71
        have hcv := HCP.out w1 hR
        refine stepTo_val (v := .string x1) (w' := w1) (by simp [execOp, x71, hcv, go_sem]) ⟨_, rfl, hR, fun j u hu hV _ => ⟨hV, trivial, trivial⟩, SmV.of (by decide) rfl⟩
      · have eg : a1.eval (.tmp 70) = .bool true := SmV.val (by decide) (hdep ⟨17, .guard⟩ (by simp) rfl _ rfl)
        refine ⟨wanted_of rfl rfl (by simpa [Act.eval] using eg), ?_⟩
        have f3 : a1.eval (.tmp 3) = .slice xa n1 xc := hout 3 (by decide)
        refine stepTo_val (v := .slice xa n1 xc) (w' := w1) (by simp [execOp, f3]) ⟨_, rfl, hR, fun j u hu hV _ => ⟨hV, trivial, trivial⟩, SmV.of (by decide) rfl⟩
      · have eg : a1.eval (.tmp 70) = .bool true := SmV.val (by decide) (hdep ⟨17, .guard⟩ (by simp) rfl _ rfl)
        refine ⟨wanted_of rfl rfl (by simpa [Act.eval] using eg), ?_⟩
        have e73 : a1.eval (.tmp 73) = .slice xa n1 xc := SmV.val (by decide) (hdep ⟨20, .data⟩ (by simp) rfl _ rfl)
        have x73 : a1.tmps[73]?.getD undef = .slice xa n1 xc := by simpa [Act.eval] using e73
        have hcv := HCX.out w1 hR
        refine stepTo_val (v := .string x1) (w' := w1) (by simp [execOp, x73, hcv, go_sem]) ⟨_, rfl, hR, fun j u hu hV _ => ⟨hV, trivial, trivial⟩, SmV.of (by decide) rfl⟩
      · have eg : a1.eval (.tmp 70) = .bool true := SmV.val (by decide) (hdep ⟨17, .guard⟩ (by simp) rfl _ rfl)
        refine ⟨wanted_of rfl rfl (by simpa [Act.eval] using eg), ?_⟩
        have e72 : a1.eval (.tmp 72) = .string x1 := SmV.val (by decide) (hdep ⟨19, .data⟩ (by simp) rfl _ rfl)
        have e74 : a1.eval (.tmp 74) = .string x1 := SmV.val (by decide) (hdep ⟨21, .data⟩ (by simp) rfl _ rfl)
        have x72 : a1.tmps[72]?.getD undef = .string x1 := by simpa [Act.eval] using e72
        have x74 : a1.tmps[74]?.getD undef = .string x1 := by simpa [Act.eval] using e74
        refine stepTo_val (v := .bool true) (w' := w1) (by simp [execOp, x72, x74, go_sem, tl1]) ⟨_, rfl, hR, fun j u hu hV _ => ⟨hV, trivial, trivial⟩, SmV.of (by decide) rfl⟩
      · refine ⟨wanted_none rfl, ?_⟩
        have e70 : a1.eval (.tmp 70) = .bool true := SmV.val (by decide) (hdep ⟨17, .data⟩ (by simp) rfl _ rfl)
        have e75 : a1.eval (.tmp 75) = .bool true := SmV.val (by decide) (hdep ⟨22, .data⟩ (by simp) rfl _ rfl)
        have x70 : a1.tmps[70]?.getD undef = .bool true := by simpa [Act.eval] using e70
        have x75 : a1.tmps[75]?.getD undef = .bool true := by simpa [Act.eval] using e75
        refine stepTo_val (v := .bool true) (w' := w1) (by simp [execOp, x70, x75, go_sem]) ⟨_, rfl, hR, fun j u hu hV _ => ⟨hV, trivial, trivial⟩, SmV.of (by decide) rfl⟩
      · refine ⟨wanted_none rfl, ?_⟩
        have e76 : a1.eval (.tmp 76) = .bool true := SmV.val (by decide) (hdep ⟨23, .data⟩ (by simp) rfl _ rfl)
        refine stepTo_val (v := .bool true) (w' := w1) (by simp [execOp, e76]) ⟨_, rfl, hR, fun j u hu hV _ => ⟨hV, trivial, trivial⟩, SmV.of (by decide) rfl⟩
      · have eg : a1.eval (.tmp 77) = .bool true := SmV.val (by decide) (hdep ⟨24, .guard⟩ (by simp) rfl _ rfl)
        refine ⟨wanted_of rfl rfl (by simpa [Act.eval] using eg), ?_⟩
        have f11 : a1.eval (.tmp 11) = .slice qa n2 qc := hout 11 (by decide)
        refine stepTo_val (v := .slice qa n2 qc) (w' := w1) (by simp [execOp, f11]) ⟨_, rfl, hR, fun j u hu hV _ => ⟨hV, trivial, trivial⟩, SmV.of (by decide) rfl⟩
      · have eg : a1.eval (.tmp 77) = .bool true := SmV.val (by decide) (hdep ⟨24, .guard⟩ (by simp) rfl _ rfl)
        refine ⟨wanted_of rfl rfl (by simpa [Act.eval] using eg), ?_⟩
        have e78 : a1.eval (.tmp 78) = .slice qa n2 qc := SmV.val (by decide) (hdep ⟨25, .data⟩ (by simp) rfl _ rfl)
        have x78 : a1.tmps[78]?.getD undef = .slice qa n2 qc := by simpa [Act.eval] using e78
        have hcv := HCQ.out w1 hR
        refine stepTo_val (v := .string x2) (w' := w1) (by simp [execOp, x78, hcv, go_sem]) ⟨_, rfl, hR, fun j u hu hV _ => ⟨hV, trivial, trivial⟩, SmV.of (by decide) rfl⟩
      · have eg : a1.eval (.tmp 77) = .bool true := SmV.val (by decide) (hdep ⟨24, .guard⟩ (by simp) rfl _ rfl)
        refine ⟨wanted_of rfl rfl (by simpa [Act.eval] using eg), ?_⟩
        have f4 : a1.eval (.tmp 4) = .slice ya n2 yc := hout 4 (by decide)
        refine stepTo_val (v := .slice ya n2 yc) (w' := w1) (by simp [execOp, f4]) ⟨_, rfl, hR, fun j u hu hV _ => ⟨hV, trivial, trivial⟩, SmV.of (by decide) rfl⟩
      · have eg : a1.eval (.tmp 77) = .bool true := SmV.val (by decide) (hdep ⟨24, .guard⟩ (by simp) rfl _ rfl)
        refine ⟨wanted_of rfl rfl (by simpa [Act.eval] using eg), ?_⟩
        have e80 : a1.eval (.tmp 80) = .slice ya n2 yc := SmV.val (by decide) (hdep ⟨27, .data⟩ (by simp) rfl _ rfl)
        have x80 : a1.tmps[80]?.getD undef = .slice ya n2 yc := by simpa [Act.eval] using e80
        have hcv := HCY.out w1 hR
        refine stepTo_val (v := .string x2) (w' := w1) (by simp [execOp, x80, hcv, go_sem]) ⟨_, rfl, hR, fun j u hu hV _ => ⟨hV, trivial, trivial⟩, SmV.of (by decide) rfl⟩
      · have eg : a1.eval (.tmp 77) = .bool true := SmV.val (by decide) (hdep ⟨24, .guard⟩ (by simp) rfl _ rfl)
        refine ⟨wanted_of rfl rfl (by simpa [Act.eval] using eg), ?_⟩
        have e79 : a1.eval (.tmp 79) = .string x2 := SmV.val (by decide) (hdep ⟨26, .data⟩ (by simp) rfl _ rfl)
        have e81 : a1.eval (.tmp 81) = .string x2 := SmV.val (by decide) (hdep ⟨28, .data⟩ (by simp) rfl _ rfl)
        have x79 : a1.tmps[79]?.getD undef = .string x2 := by simpa [Act.eval] using e79
        have x81 : a1.tmps[81]?.getD undef = .string x2 := by simpa [Act.eval] using e81
        refine stepTo_val (v := .bool true) (w' := w1) (by simp [execOp, x79, x81, go_sem, tl2]) ⟨_, rfl, hR, fun j u hu hV _ => ⟨hV, trivial, trivial⟩, SmV.of (by decide) rfl⟩
      · refine ⟨wanted_none rfl, ?_⟩
        have e77 : a1.eval (.tmp 77) = .bool true := SmV.val (by decide) (hdep ⟨24, .data⟩ (by simp) rfl _ rfl)
        have e82 : a1.eval (.tmp 82) = .bool true := SmV.val (by decide) (hdep ⟨29, .data⟩ (by simp) rfl _ rfl)
        have x77 : a1.tmps[77]?.getD undef = .bool true := by simpa [Act.eval] using e77
        have x82 : a1.tmps[82]?.getD undef = .bool true := by simpa [Act.eval] using e82
        refine stepTo_val (v := .bool true) (w' := w1) (by simp [execOp, x77, x82, go_sem]) ⟨_, rfl, hR, fun j u hu hV _ => ⟨hV, trivial, trivial⟩, SmV.of (by decide) rfl⟩
      · refine ⟨wanted_none rfl, ?_⟩
        have e83 : a1.eval (.tmp 83) = .bool true := SmV.val (by decide) (hdep ⟨30, .data⟩ (by simp) rfl _ rfl)
        refine stepTo_val (v := .bool true) (w' := w1) (by simp [execOp, e83]) ⟨_, rfl, hR, fun j u hu hV _ => ⟨hV, trivial, trivial⟩, SmV.of (by decide) rfl⟩
      · have eg : a1.eval (.tmp 84) = .bool true := SmV.val (by decide) (hdep ⟨31, .guard⟩ (by simp) rfl _ rfl)
        refine ⟨wanted_of rfl rfl (by simpa [Act.eval] using eg), ?_⟩
        refine stepTo_call (f := 17) (args := #[]) (by simp [go_sem]) ((law09_heads w1).mono ?_)
        rintro e w9 ⟨rfl, hb9⟩
        exact ⟨_, rfl, _, rfl, hR.trans (hb9.mono hR.size), fun j u hu hV _ => ⟨hV.mono hb9, trivial, trivial⟩, SmV.of (by decide) rfl⟩
      · refine ⟨wanted_none rfl, ?_⟩
        have e84 : a1.eval (.tmp 84) = .bool true := SmV.val (by decide) (hdep ⟨31, .data⟩ (by simp) rfl _ rfl)
        have e85 : a1.eval (.tmp 85) = .bool true := SmV.val (by decide) (hdep ⟨32, .data⟩ (by simp) rfl _ rfl)
        have x84 : a1.tmps[84]?.getD undef = .bool true := by simpa [Act.eval] using e84
        have x85 : a1.tmps[85]?.getD undef = .bool true := by simpa [Act.eval] using e85
        refine stepTo_val (v := .bool true) (w' := w1) (by simp [execOp, x84, x85, go_sem]) ⟨_, rfl, hR, fun j u hu hV _ => ⟨hV, trivial, trivial⟩, SmV.of (by decide) rfl⟩
      · refine ⟨wanted_none rfl, ?_⟩
        have e86 : a1.eval (.tmp 86) = .bool true := SmV.val (by decide) (hdep ⟨33, .data⟩ (by simp) rfl _ rfl)
        refine stepTo_val (v := .bool true) (w' := w1) (by simp [execOp, e86]) ⟨_, rfl, hR, fun j u hu hV _ => ⟨hV, trivial, trivial⟩, SmV.of (by decide) rfl⟩
    · intro listed fv w1 hR hall hV
      have e34 : fv 2 = .bool true := SmV.val (by decide) (hV 34 _ rfl rfl)
      simp only [spread, List.contains_cons, List.contains_nil, Nat.reduceBEq, Bool.or_false, Bool.or_true, cond_true, cond_false, Nat.reduceAdd, Nat.zero_add, e34]
      have HBE := Lib.hid (HB0.out w1 hR)
      go_wp2
      go_ret
      exact ⟨rfl, HBE.out⟩
end Go.Proofs.Ytmgoeokdlklabaa
