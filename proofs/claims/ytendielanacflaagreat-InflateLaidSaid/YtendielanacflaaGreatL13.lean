/- layer 5: the library's stable sort from 20 elements on: exchanges, rotation, merge: contracts. -/
import Derived.Test.YtendielanacflaaGreatL11
import Derived.Test.YtendielanacflaaGreatL12
namespace Go.Proofs.YtendielanacflaaGreat
open Go.RowKit Go.Shelf M04 M05
attribute [local go_sem] Oper.semAt_some
set_option linter.unusedVariables false
set_option linter.unusedSimpArgs false
theorem sw2_mem {d : List Nat} {i j n : Nat} (hi : i < d.length) (hj : j < d.length) (h : ∀ x ∈ d, x < n) : ∀ x ∈ sw2 d i j, x < n := by
  intro x hx
  unfold sw2 at hx
  have h1 : d.getD j 0 < n := by rw [List.getD_eq_getElem?_getD, List.getElem?_eq_getElem hj]; exact h _ (List.getElem_mem _)
  have h2 : d.getD i 0 < n := by rw [List.getD_eq_getElem?_getD, List.getElem?_eq_getElem hi]; exact h _ (List.getElem_mem _)
  rcases List.mem_or_eq_of_mem_set hx with h' | rfl
  · rcases List.mem_or_eq_of_mem_set h' with h'' | rfl
    · exact h _ h''
    · exact h1
  · exact h2
theorem SrtI.base {A0 A : World} {g base cap p fc n : Nat} {fa : Option Addr} {f D : List Nat} (h : SrtI A0 g base cap p fa fc f n D A) : base ≤ g := by
  rcases h.own.form with ⟨h', _⟩ | ⟨g', h', hb, _⟩
  · cases h'
  · simp only [Option.some.injEq, Addr.mk.injEq, and_true] at h'; omega
theorem SrtI.sw2 {A0 A : World} {g base cap p fc n : Nat} {fa : Option Addr} {f D : List Nat} (h : SrtI A0 g base cap p fa fc f n D A) (hp : p < base) (hfa : ∀ x, 0 < f.length → fa = some x → x.block < base) {i j : Nat} (hi : i < n) (hj : j < n) :
    SrtI A0 g base cap p fa fc f n (sw2 D i j) ((A.setCell ⟨g, i, none⟩ (.int .i64 (D.getD j 0 : Nat))).setCell ⟨g, j, none⟩ (.int .i64 (D.getD i 0 : Nat))) := by
  obtain ⟨o1, g1⟩ := h.own.stored i (D.getD j 0)
  obtain ⟨o2, g2⟩ := o1.stored j (D.getD i 0)
  have hg := h.base
  have ho : Only (fun b => b = g) A ((A.setCell ⟨g, i, none⟩ (.int .i64 (D.getD j 0 : Nat))).setCell ⟨g, j, none⟩ (.int .i64 (D.getD i 0 : Nat))) :=
    Only.trans ⟨g1.os, g1.tape, g1.output, g1.size, fun b hb hne => g1.block b hb (fun e => by cases e; exact hne rfl)⟩ ⟨g2.os, g2.tape, g2.output, g2.size, fun b hb hne => g2.block b hb (fun e => by cases e; exact hne rfl)⟩
  refine ⟨o2, by rw [sw2_len]; exact h.len, sw2_mem (by rw [h.len]; exact hi) (by rw [h.len]; exact hj) h.mem, h.only.trans ho, ?_, h.row.same ho.size (fun x h0 hx => ?_)⟩
  · exact (World.cell?_of_block (a := ⟨p, 0, none⟩) (ho.block p (cell_lt h.cell) (by omega))).trans h.cell
  · have := hfa x h0 hx
    refine ho.block _ ?_ (by omega)
    obtain ⟨b', off, he, hlt, _⟩ := h.row.at h0
    rw [hx] at he; cases he; exact hlt
theorem SrtI.at {A0 A : World} {g base cap p fc n : Nat} {fa : Option Addr} {f D : List Nat} (h : SrtI A0 g base cap p fa fc f n D A) {i : Nat} (hi : i < n) : A.cell? ⟨g, i, none⟩ = some (.int .i64 (D.getD i 0 : Nat)) ∧ A.frozen? ⟨g, i, none⟩ = false := by
  obtain ⟨g1, hg1, _, _, hcu, hfu⟩ := h.own.at (show i < D.length by rw [h.len]; exact hi)
  simp only [Option.some.injEq, Addr.mk.injEq, and_true] at hg1
  subst hg1
  have : D.getD i 0 = D[i]'(by rw [h.len]; exact hi) := by rw [List.getD_eq_getElem?_getD, List.getElem?_eq_getElem (by rw [h.len]; exact hi)]; rfl
  rw [this]
  exact ⟨hcu, hfu⟩
theorem SrtI.kept {A0 A : World} {g base cap p fc n : Nat} {fa : Option Addr} {f D : List Nat} (h : SrtI A0 g base cap p fa fc f n D A) {i j : Nat} (hi : i < n) (hj : j < n) (v : Nat) : ∃ kv, (A.setCell ⟨g, i, none⟩ (.int .i64 (v : Nat))).cell? ⟨g, j, none⟩ = some kv ∧ (A.setCell ⟨g, i, none⟩ (.int .i64 (v : Nat))).frozen? ⟨g, j, none⟩ = false := by
  obtain ⟨g3, hg3, _, _, h4, h5⟩ := ((h.own.stored i v).1).at (i := j) (by rw [List.length_set, h.len]; exact hj)
  simp only [Option.some.injEq, Addr.mk.injEq, and_true] at hg3
  subst hg3
  exact ⟨_, h4, h5⟩
theorem SrtI.cmp {A0 A : World} {g base cap p fc n : Nat} {fa : Option Addr} {f D : List Nat} (h : SrtI A0 g base cap p fa fc f n D A) {i j : Nat} (hi : i < n) (hj : j < n) (q : Nat) :
    Calls Tryz.prog 119 #[.int .i64 (D.getD i 0 : Nat), .int .i64 (D.getD j 0 : Nat), .pointer (some ⟨p, 0, none⟩)] (A.drewN q) fun e w' => e = .returned (.int .i64 (cmpN (f.getD (D.getD i 0) 0) (f.getD (D.getD j 0) 0))) ∧ ∃ m, w' = A.drewN m := by
  have hm : ∀ i, i < n → D.getD i 0 < f.length := fun i hi => by
    rw [List.getD_eq_getElem?_getD, List.getElem?_eq_getElem (by rw [h.len]; exact hi)]
    exact h.mem _ (List.getElem_mem _)
  refine (rarest_cmp (A.drewN q) p fa fc f _ _ h.cell h.row (hm i hi) (hm j hj)).mono ?_
  rintro e w' ⟨h1, q', h2⟩
  exact ⟨h1, q + q', by rw [h2, World.drewN_drewN]⟩
theorem SrtI.after {A0 A B : World} {g base cap p fc n : Nat} {fa : Option Addr} {f D D' : List Nat} (h : SrtI A0 g base cap p fa fc f n D A) (h2 : SrtI A g base cap p fa fc f n D' B) : SrtI A0 g base cap p fa fc f n D' B :=
  ⟨h2.own, h2.len, h2.mem, h.only.trans h2.only, h2.cell, h2.row⟩
theorem cmpN_lt (a b : Nat) : decide (cmpN a b < 0) = decide (a < b) := by
  unfold cmpN
  by_cases h : a < b
  · rw [if_pos h]; simp [h]
  · rw [if_neg h]; split <;> simp [h]
set_option maxRecDepth 100000 in
set_option maxHeartbeats 3200000 in
theorem swap_range (A0 A : World) (g base cap p a b m : Nat) (fa : Option Addr) (fc : Nat) (f d : List Nat) (hI : SrtI A0 g base cap p fa fc f d.length d A) (hp : p < base) (hfa : ∀ x, 0 < f.length → fa = some x → x.block < base) (ha : a + m ≤ d.length) (hb : b + m ≤ d.length) (hl : d.length ≤ 600) :
    Calls Tryz.prog 159 #[.slice (some ⟨g, 0, none⟩) d.length cap, .int .i64 (a : Nat), .int .i64 (b : Nat), .int .i64 (m : Nat), .func (.func 119) #[] #[.pointer (some ⟨p, 0, none⟩)]] A fun e w' => e = .returned (.tuple #[]) ∧ SrtI A0 g base cap p fa fc f d.length (swF m a b d) w' := by
  obtain ⟨n, hn⟩ : ∃ n, d.length = n := ⟨_, rfl⟩
  rw [hn] at hI ha hb hl ⊢
  have HI := Lib.hid hI
  have HSW := Lib.hid (fun D A' i j (h : SrtI A0 g base cap p fa fc f n D A') (hi : i < n) (hj : j < n) => h.sw2 hp hfa hi hj)
  obtain ⟨T, hT⟩ : ∃ T, swF m a b d = T := ⟨_, rfl⟩
  have HT := Lib.hid hT
  rw [hT]
  clear hI hT
  go_enter Tryz.func159, Tryz.ntmps159
  go_wp2
  go_loopw [10] (fun x A' => ∃ i D, x = .int .i64 (i : Nat) ∧ i ≤ m ∧ swF (m - i) (a + i) (b + i) D = T ∧ SrtI A0 g base cap p fa fc f n D A') (fun x _ => m - (intOf x).toNat)
  case atStart => exact ⟨0, d, by go_num, by omega, HT.out, HI.out⟩
  case round =>
    clear HT HI
    obtain ⟨i, D, rfl, hi, ht, hs⟩ := hrel
    have HS := Lib.hid hs
    have HT := Lib.hid ht
    clear hs ht
    by_cases him : i < m
    · have b1 : decide (i < m) = true := by simp; omega
      obtain ⟨r, hr⟩ : ∃ r, m - i = r + 1 := ⟨m - i - 1, by omega⟩
      have HT2 := Lib.hid (show swF (m - (i + 1)) (a + (i + 1)) (b + (i + 1)) (sw2 D (a + i) (b + i)) = T from by
        have := HT.out
        rw [hr] at this
        rw [show m - (i + 1) = r by omega]; exact this)
      obtain ⟨x, hx⟩ : ∃ x, a + i = x := ⟨_, rfl⟩
      obtain ⟨y, hy⟩ : ∃ y, b + i = y := ⟨_, rfl⟩
      have qa : (a : Int) + (i : Int) = (x : Int) := by omega
      have qb : (b : Int) + (i : Int) = (y : Int) := by omega
      have qwa : IntKind.i64.wrap (x : Int) = (x : Int) := IntWalk.i64_in _ (by omega)
      have qwb : IntKind.i64.wrap (y : Int) = (y : Int) := IntWalk.i64_in _ (by omega)
      have hxn : x < n := by omega
      have hyn : y < n := by omega
      rw [hx, hy] at HT2
      clear HT hr hx hy
      obtain ⟨W0, hW0⟩ : ∃ W0, wr.drew = W0 := ⟨_, rfl⟩
      have hs1 : SrtI A0 g base cap p fa fc f n D W0 := by rw [← hW0]; exact HS.out.drewN 1
      obtain ⟨kv, hk1, hk2⟩ := hs1.kept hxn hyn (D.getD y 0)
      have hend := HSW.out D W0 x y hs1 hxn hyn
      obtain ⟨hcu, hfu⟩ := hs1.at hxn
      obtain ⟨hcv, _⟩ := hs1.at hyn
      generalize hxu : D.getD x 0 = xu at *
      generalize hxv : D.getD y 0 = xv at *
      have HW0 := Lib.hid hW0
      obtain ⟨W1, hW1⟩ : ∃ W1, W0.setCell ⟨g, x, none⟩ (.int .i64 (xv : Nat)) = W1 := ⟨_, rfl⟩
      rw [hW1] at hk1 hk2 hend
      have HW1 := Lib.hid hW1
      obtain ⟨W2, hW2⟩ : ∃ W2, W1.setCell ⟨g, y, none⟩ (.int .i64 (xu : Nat)) = W2 := ⟨_, rfl⟩
      rw [hW2] at hend
      have HW2 := Lib.hid hW2
      have HCU := Lib.hid hcu
      have HCV := Lib.hid hcv
      have HF1 := Lib.hid hfu
      have HCK := Lib.hid hk1
      have HF2 := Lib.hid hk2
      have HEND := Lib.hid hend
      clear hk1 hk2 hend hcu hcv hfu hW0 hW1 hW2 hs1 hxu hxv
      go_wp2_with fail
      -- swap f136 begins
      refine wp_region_flowL [16, 17, 18, 19, 20, 21, 22, 23, 24, 25, 26, 27, 28, 29, 30, 31, 32, 33, 34, 35, 36, 37] (fun j => false) (fun listed w1 => w1 = Ph2 W0 W1 W2 (listed.getD 21 false) (listed.getD 23 false)) (fun j v _ => match j with | 0 => v = .slice (some ⟨g, 0, none⟩) n cap | 1 => v = .int .i64 (a : Nat) | 2 => v = .int .i64 (i : Nat) | 3 => v = .int .i64 (x : Nat) | 4 => v = .slice (some ⟨g, 0, none⟩) n cap | 5 => v = .int .i64 (b : Nat) | 6 => v = .int .i64 (i : Nat) | 7 => v = .int .i64 (y : Nat) | 8 => v = .slice (some ⟨g, 0, none⟩) n cap | 9 => v = .int .i64 (b : Nat) | 10 => v = .int .i64 (i : Nat) | 11 => v = .int .i64 (y : Nat) | 12 => v = .pointer (some ⟨g, y, none⟩) | 13 => v = .int .i64 (xv : Nat) | 14 => v = .slice (some ⟨g, 0, none⟩) n cap | 15 => v = .int .i64 (a : Nat) | 16 => v = .int .i64 (i : Nat) | 17 => v = .int .i64 (x : Nat) | 18 => v = .pointer (some ⟨g, x, none⟩) | 19 => v = .int .i64 (xu : Nat) | 20 => v = .pointer (some ⟨g, x, none⟩) | 22 => v = .pointer (some ⟨g, y, none⟩) | _ => True) (fun _ _ _ _ => True) (by kernel_rfl) (by kernel_rfl) (OneEach.mk' (by kernel_rfl) (by kernel_rfl)) (by kernel_rfl) (by kernel_rfl) (by exact HW0.out) ?_ ?_
      · intro i0 o hi0 listed a1 w1 hR hil hunf hdes hanc hout hdep
        have hsz : i0 < 24 := (Array.getElem?_eq_some_iff.1 hi0).1
        have hall : i0 = 0 ∨ i0 = 1 ∨ i0 = 2 ∨ i0 = 3 ∨ i0 = 4 ∨ i0 = 5 ∨ i0 = 6 ∨ i0 = 7 ∨ i0 = 8 ∨ i0 = 9 ∨ i0 = 10 ∨ i0 = 11 ∨ i0 = 12 ∨ i0 = 13 ∨ i0 = 14 ∨ i0 = 15 ∨ i0 = 16 ∨ i0 = 17 ∨ i0 = 18 ∨ i0 = 19 ∨ i0 = 20 ∨ i0 = 21 ∨ i0 = 22 ∨ i0 = 23 := by omega
        clear hsz
        rcases hall with rfl | rfl | rfl | rfl | rfl | rfl | rfl | rfl | rfl | rfl | rfl | rfl | rfl | rfl | rfl | rfl | rfl | rfl | rfl | rfl | rfl | rfl | rfl | rfl <;> simp only [List.getElem?_toArray, List.getElem?_cons_zero, List.getElem?_cons_succ, Option.some.injEq] at hi0 <;> subst hi0
        · have f0 : a1.eval (.tmp 0) = .slice (some ⟨g, 0, none⟩) n cap := hout 0 (by decide)
          refine stepTo_val (v := .slice (some ⟨g, 0, none⟩) n cap) (w' := w1) (by simp [execOp, f0]) ⟨_, rfl, ?_, fun j u hu hV _ => ⟨hV, trivial, trivial⟩, rfl⟩
          rw [getD_set_ne2 (by decide), getD_set_ne2 (by decide)]; exact hR
        · have f1 : a1.eval (.tmp 1) = .int .i64 (a : Nat) := hout 1 (by decide)
          refine stepTo_val (v := .int .i64 (a : Nat)) (w' := w1) (by simp [execOp, f1]) ⟨_, rfl, ?_, fun j u hu hV _ => ⟨hV, trivial, trivial⟩, rfl⟩
          rw [getD_set_ne2 (by decide), getD_set_ne2 (by decide)]; exact hR
        · have f10 : a1.eval (.tmp 10) = .int .i64 (i : Nat) := hout 10 (by decide)
          refine stepTo_val (v := .int .i64 (i : Nat)) (w' := w1) (by simp [execOp, f10]) ⟨_, rfl, ?_, fun j u hu hV _ => ⟨hV, trivial, trivial⟩, rfl⟩
          rw [getD_set_ne2 (by decide), getD_set_ne2 (by decide)]; exact hR
        · have e17 : a1.eval (.tmp 17) = .int .i64 (a : Nat) := hdep ⟨1, .data⟩ (by simp) rfl _ rfl
          have e18 : a1.eval (.tmp 18) = .int .i64 (i : Nat) := hdep ⟨2, .data⟩ (by simp) rfl _ rfl
          refine stepTo_val (v := .int .i64 (x : Nat)) (w' := w1) (by simp [execOp, e17, e18, eqgA, addI, qa, qwa]) ⟨_, rfl, ?_, fun j u hu hV _ => ⟨hV, trivial, trivial⟩, rfl⟩
          rw [getD_set_ne2 (by decide), getD_set_ne2 (by decide)]; exact hR
        · have f0 : a1.eval (.tmp 0) = .slice (some ⟨g, 0, none⟩) n cap := hout 0 (by decide)
          refine stepTo_val (v := .slice (some ⟨g, 0, none⟩) n cap) (w' := w1) (by simp [execOp, f0]) ⟨_, rfl, ?_, fun j u hu hV _ => ⟨hV, trivial, trivial⟩, rfl⟩
          rw [getD_set_ne2 (by decide), getD_set_ne2 (by decide)]; exact hR
        · have f2 : a1.eval (.tmp 2) = .int .i64 (b : Nat) := hout 2 (by decide)
          refine stepTo_val (v := .int .i64 (b : Nat)) (w' := w1) (by simp [execOp, f2]) ⟨_, rfl, ?_, fun j u hu hV _ => ⟨hV, trivial, trivial⟩, rfl⟩
          rw [getD_set_ne2 (by decide), getD_set_ne2 (by decide)]; exact hR
        · have f10 : a1.eval (.tmp 10) = .int .i64 (i : Nat) := hout 10 (by decide)
          refine stepTo_val (v := .int .i64 (i : Nat)) (w' := w1) (by simp [execOp, f10]) ⟨_, rfl, ?_, fun j u hu hV _ => ⟨hV, trivial, trivial⟩, rfl⟩
          rw [getD_set_ne2 (by decide), getD_set_ne2 (by decide)]; exact hR
        · have e21 : a1.eval (.tmp 21) = .int .i64 (b : Nat) := hdep ⟨5, .data⟩ (by simp) rfl _ rfl
          have e22 : a1.eval (.tmp 22) = .int .i64 (i : Nat) := hdep ⟨6, .data⟩ (by simp) rfl _ rfl
          refine stepTo_val (v := .int .i64 (y : Nat)) (w' := w1) (by simp [execOp, e21, e22, eqgA, addI, qb, qwb]) ⟨_, rfl, ?_, fun j u hu hV _ => ⟨hV, trivial, trivial⟩, rfl⟩
          rw [getD_set_ne2 (by decide), getD_set_ne2 (by decide)]; exact hR
        · have f0 : a1.eval (.tmp 0) = .slice (some ⟨g, 0, none⟩) n cap := hout 0 (by decide)
          refine stepTo_val (v := .slice (some ⟨g, 0, none⟩) n cap) (w' := w1) (by simp [execOp, f0]) ⟨_, rfl, ?_, fun j u hu hV _ => ⟨hV, trivial, trivial⟩, rfl⟩
          rw [getD_set_ne2 (by decide), getD_set_ne2 (by decide)]; exact hR
        · have f2 : a1.eval (.tmp 2) = .int .i64 (b : Nat) := hout 2 (by decide)
          refine stepTo_val (v := .int .i64 (b : Nat)) (w' := w1) (by simp [execOp, f2]) ⟨_, rfl, ?_, fun j u hu hV _ => ⟨hV, trivial, trivial⟩, rfl⟩
          rw [getD_set_ne2 (by decide), getD_set_ne2 (by decide)]; exact hR
        · have f10 : a1.eval (.tmp 10) = .int .i64 (i : Nat) := hout 10 (by decide)
          refine stepTo_val (v := .int .i64 (i : Nat)) (w' := w1) (by simp [execOp, f10]) ⟨_, rfl, ?_, fun j u hu hV _ => ⟨hV, trivial, trivial⟩, rfl⟩
          rw [getD_set_ne2 (by decide), getD_set_ne2 (by decide)]; exact hR
        · have e25 : a1.eval (.tmp 25) = .int .i64 (b : Nat) := hdep ⟨9, .data⟩ (by simp) rfl _ rfl
          have e26 : a1.eval (.tmp 26) = .int .i64 (i : Nat) := hdep ⟨10, .data⟩ (by simp) rfl _ rfl
          refine stepTo_val (v := .int .i64 (y : Nat)) (w' := w1) (by simp [execOp, e25, e26, eqgA, addI, qb, qwb]) ⟨_, rfl, ?_, fun j u hu hV _ => ⟨hV, trivial, trivial⟩, rfl⟩
          rw [getD_set_ne2 (by decide), getD_set_ne2 (by decide)]; exact hR
        · have e24 : a1.eval (.tmp 24) = .slice (some ⟨g, 0, none⟩) n cap := hdep ⟨8, .data⟩ (by simp) rfl _ rfl
          have e27 : a1.eval (.tmp 27) = .int .i64 (y : Nat) := hdep ⟨11, .data⟩ (by simp) rfl _ rfl
          refine stepTo_val (v := .pointer (some ⟨g, y, none⟩)) (w' := w1) (by simp [execOp, e24, e27, ixI g y n cap hyn]) ⟨_, rfl, ?_, fun j u hu hV _ => ⟨hV, trivial, trivial⟩, rfl⟩
          rw [getD_set_ne2 (by decide), getD_set_ne2 (by decide)]; exact hR
        · have e28 : a1.eval (.tmp 28) = .pointer (some ⟨g, y, none⟩) := hdep ⟨12, .data⟩ (by simp) rfl _ rfl
          have x28 : a1.tmps[28]?.getD undef = .pointer (some ⟨g, y, none⟩) := by simpa [Act.eval] using e28
          have hc : w1.cell? ⟨g, y, none⟩ = some (.int .i64 (xv : Nat)) := by
            rw [hdes 21 (by kernel_rfl), hdes 23 (by kernel_rfl)] at hR
            rw [hR]; exact HCV.out
          refine stepTo_val (v := .int .i64 (xv : Nat)) (w' := w1) (by simp [execOp, e28, ldInt _ _ _ hc]) ⟨_, rfl, ?_, fun j u hu hV _ => ⟨hV, trivial, trivial⟩, rfl⟩
          rw [getD_set_ne2 (by decide), getD_set_ne2 (by decide)]; exact hR
        · have f0 : a1.eval (.tmp 0) = .slice (some ⟨g, 0, none⟩) n cap := hout 0 (by decide)
          refine stepTo_val (v := .slice (some ⟨g, 0, none⟩) n cap) (w' := w1) (by simp [execOp, f0]) ⟨_, rfl, ?_, fun j u hu hV _ => ⟨hV, trivial, trivial⟩, rfl⟩
          rw [getD_set_ne2 (by decide), getD_set_ne2 (by decide)]; exact hR
        · have f1 : a1.eval (.tmp 1) = .int .i64 (a : Nat) := hout 1 (by decide)
          refine stepTo_val (v := .int .i64 (a : Nat)) (w' := w1) (by simp [execOp, f1]) ⟨_, rfl, ?_, fun j u hu hV _ => ⟨hV, trivial, trivial⟩, rfl⟩
          rw [getD_set_ne2 (by decide), getD_set_ne2 (by decide)]; exact hR
        · have f10 : a1.eval (.tmp 10) = .int .i64 (i : Nat) := hout 10 (by decide)
          refine stepTo_val (v := .int .i64 (i : Nat)) (w' := w1) (by simp [execOp, f10]) ⟨_, rfl, ?_, fun j u hu hV _ => ⟨hV, trivial, trivial⟩, rfl⟩
          rw [getD_set_ne2 (by decide), getD_set_ne2 (by decide)]; exact hR
        · have e31 : a1.eval (.tmp 31) = .int .i64 (a : Nat) := hdep ⟨15, .data⟩ (by simp) rfl _ rfl
          have e32 : a1.eval (.tmp 32) = .int .i64 (i : Nat) := hdep ⟨16, .data⟩ (by simp) rfl _ rfl
          refine stepTo_val (v := .int .i64 (x : Nat)) (w' := w1) (by simp [execOp, e31, e32, eqgA, addI, qa, qwa]) ⟨_, rfl, ?_, fun j u hu hV _ => ⟨hV, trivial, trivial⟩, rfl⟩
          rw [getD_set_ne2 (by decide), getD_set_ne2 (by decide)]; exact hR
        · have e30 : a1.eval (.tmp 30) = .slice (some ⟨g, 0, none⟩) n cap := hdep ⟨14, .data⟩ (by simp) rfl _ rfl
          have e33 : a1.eval (.tmp 33) = .int .i64 (x : Nat) := hdep ⟨17, .data⟩ (by simp) rfl _ rfl
          refine stepTo_val (v := .pointer (some ⟨g, x, none⟩)) (w' := w1) (by simp [execOp, e30, e33, ixI g x n cap hxn]) ⟨_, rfl, ?_, fun j u hu hV _ => ⟨hV, trivial, trivial⟩, rfl⟩
          rw [getD_set_ne2 (by decide), getD_set_ne2 (by decide)]; exact hR
        · have e34 : a1.eval (.tmp 34) = .pointer (some ⟨g, x, none⟩) := hdep ⟨18, .data⟩ (by simp) rfl _ rfl
          have x34 : a1.tmps[34]?.getD undef = .pointer (some ⟨g, x, none⟩) := by simpa [Act.eval] using e34
          have hc : w1.cell? ⟨g, x, none⟩ = some (.int .i64 (xu : Nat)) := by
            rw [hdes 21 (by kernel_rfl), hdes 23 (by kernel_rfl)] at hR
            rw [hR]; exact HCU.out
          refine stepTo_val (v := .int .i64 (xu : Nat)) (w' := w1) (by simp [execOp, e34, ldInt _ _ _ hc]) ⟨_, rfl, ?_, fun j u hu hV _ => ⟨hV, trivial, trivial⟩, rfl⟩
          rw [getD_set_ne2 (by decide), getD_set_ne2 (by decide)]; exact hR
        · have e16 : a1.eval (.tmp 16) = .slice (some ⟨g, 0, none⟩) n cap := hdep ⟨0, .data⟩ (by simp) rfl _ rfl
          have e19 : a1.eval (.tmp 19) = .int .i64 (x : Nat) := hdep ⟨3, .data⟩ (by simp) rfl _ rfl
          refine stepTo_val (v := .pointer (some ⟨g, x, none⟩)) (w' := w1) (by simp [execOp, e16, e19, ixI g x n cap hxn]) ⟨_, rfl, ?_, fun j u hu hV _ => ⟨hV, trivial, trivial⟩, rfl⟩
          rw [getD_set_ne2 (by decide), getD_set_ne2 (by decide)]; exact hR
        · have e36 : a1.eval (.tmp 36) = .pointer (some ⟨g, x, none⟩) := hdep ⟨20, .data⟩ (by simp) rfl _ rfl
          have x36 : a1.tmps[36]?.getD undef = .pointer (some ⟨g, x, none⟩) := by simpa [Act.eval] using e36
          have e29 : a1.eval (.tmp 29) = .int .i64 (xv : Nat) := hdep ⟨13, .data⟩ (by simp) rfl _ rfl
          have x29 : a1.tmps[29]?.getD undef = .int .i64 (xv : Nat) := by simpa [Act.eval] using e29
          rw [hunf, hdes 23 (by kernel_rfl)] at hR
          obtain rfl : w1 = W0 := hR
          refine stepTo_skip (w' := W1) (by simp [execOp, e36, e29, stInt _ _ _ w1 HCU.out HF1.out, HW1.out]) ⟨undef, rfl, ?_, fun j u hu hV _ => ⟨hV, trivial, trivial⟩, trivial⟩
          rw [set_getD_same hil, getD_set_ne2 (by decide), hdes 23 (by kernel_rfl)]
          rfl
        · have e20 : a1.eval (.tmp 20) = .slice (some ⟨g, 0, none⟩) n cap := hdep ⟨4, .data⟩ (by simp) rfl _ rfl
          have e23 : a1.eval (.tmp 23) = .int .i64 (y : Nat) := hdep ⟨7, .data⟩ (by simp) rfl _ rfl
          refine stepTo_val (v := .pointer (some ⟨g, y, none⟩)) (w' := w1) (by simp [execOp, e20, e23, ixI g y n cap hyn]) ⟨_, rfl, ?_, fun j u hu hV _ => ⟨hV, trivial, trivial⟩, rfl⟩
          rw [getD_set_ne2 (by decide), getD_set_ne2 (by decide)]; exact hR
        · have e37 : a1.eval (.tmp 37) = .pointer (some ⟨g, y, none⟩) := hdep ⟨22, .data⟩ (by simp) rfl _ rfl
          have x37 : a1.tmps[37]?.getD undef = .pointer (some ⟨g, y, none⟩) := by simpa [Act.eval] using e37
          have e35 : a1.eval (.tmp 35) = .int .i64 (xu : Nat) := hdep ⟨19, .data⟩ (by simp) rfl _ rfl
          have x35 : a1.tmps[35]?.getD undef = .int .i64 (xu : Nat) := by simpa [Act.eval] using e35
          rw [hanc 21 (by kernel_rfl), hunf] at hR
          obtain rfl : w1 = W1 := hR
          refine stepTo_skip (w' := W2) (by simp [execOp, e37, e35, stInt _ _ _ w1 HCK.out HF2.out, HW2.out]) ⟨undef, rfl, ?_, fun j u hu hV _ => ⟨hV, trivial, trivial⟩, trivial⟩
          rw [set_getD_same hil, getD_set_ne2 (by decide), hanc 21 (by kernel_rfl)]
          rfl
      · intro listed fv w1 hR hall hV
        rw [hall 21 (by decide), hall 23 (by decide)] at hR
        obtain rfl : w1 = W2 := hR
        simp only [spread, List.contains_cons, List.contains_nil, Nat.reduceBEq, Bool.or_false, Bool.or_true, cond_true, cond_false, Nat.reduceAdd, Nat.zero_add]
        go_wp2
        go_roundw
        case rel => exact ⟨i + 1, sw2 D x y, by go_num, by omega, HT2.out, HEND.out⟩
        case measure => simp [intOf]; omega
      -- swap f136 ends
    · have b1 : decide (i < m) = false := by simp; omega
      have HT3 := Lib.hid (show D = T from by have := HT.out; rw [show m - i = 0 by omega] at this; exact this)
      clear HT him
      go_wp2
      go_end0
      exact ⟨rfl, by rw [← HT3.out]; exact HS.out⟩
set_option maxRecDepth 100000 in
set_option maxHeartbeats 3200000 in
theorem rotate (A0 A : World) (g base cap p a m b i j : Nat) (fa : Option Addr) (fc : Nat) (f d : List Nat) (hI : SrtI A0 g base cap p fa fc f d.length d A) (hp : p < base) (hfa : ∀ x, 0 < f.length → fa = some x → x.block < base) (hi : a + i = m) (hj : m + j = b) (hi0 : 0 < i) (hj0 : 0 < j) (hb : b ≤ d.length) (hl : d.length ≤ 600) :
    Calls Tryz.prog 158 #[.slice (some ⟨g, 0, none⟩) d.length cap, .int .i64 (a : Nat), .int .i64 (m : Nat), .int .i64 (b : Nat), .func (.func 119) #[] #[.pointer (some ⟨p, 0, none⟩)]] A fun e w' => e = .returned (.tuple #[]) ∧ SrtI A0 g base cap p fa fc f d.length (rotF (i + j) m i j d) w' := by
  obtain ⟨n, hn⟩ : ∃ n, d.length = n := ⟨_, rfl⟩
  rw [hn] at hI hb hl ⊢
  have HI := Lib.hid hI
  have HSW := Lib.hid (fun D A' x y k (hD : D.length = n) (h : SrtI A0 g base cap p fa fc f n D A') (hx : x + k ≤ n) (hy : y + k ≤ n) => by
    have := swap_range A0 A' g base cap p x y k fa fc f D (by rw [hD]; exact h) hp hfa (by omega) (by omega) (by omega)
    rw [hD] at this
    exact this)
  obtain ⟨T, hT⟩ : ∃ T, rotF (i + j) m i j d = T := ⟨_, rfl⟩
  have HT := Lib.hid hT
  rw [hT]
  have qi : (m : Int) - (a : Int) = (i : Int) := by omega
  have qj : (b : Int) - (m : Int) = (j : Int) := by omega
  clear hI hT
  go_enter Tryz.func158, Tryz.ntmps158
  go_wp2
  go_loopw [10, 11] (fun x y A' => ∃ i j r D, x = .int .i64 (i : Nat) ∧ y = .int .i64 (j : Nat) ∧ 0 < i ∧ 0 < j ∧ i ≤ m ∧ m + j ≤ n ∧ i + j ≤ r ∧ rotF r m i j D = T ∧ SrtI A0 g base cap p fa fc f n D A') (fun x y _ => (intOf x).toNat + (intOf y).toNat)
  case atStart => exact ⟨i, j, i + j, d, rfl, rfl, hi0, hj0, by omega, by omega, Nat.le_refl _, HT.out, HI.out⟩
  case round =>
    clear HT HI qi qj hi hj hi0 hj0
    obtain ⟨i, j, r, D, rfl, rfl, hi0, hj0, him, hjn, hir, ht, hs⟩ := hrel
    obtain ⟨r, rfl⟩ : ∃ k, r = k + 1 := ⟨r - 1, by omega⟩
    have HS := Lib.hid hs
    have hD := hs.len
    obtain ⟨x, hx⟩ : ∃ x, m - i = x := ⟨_, rfl⟩
    have qx : (m : Int) - (i : Int) = (x : Int) := by omega
    unfold rotF at ht
    rw [hx] at ht
    clear hs
    by_cases hij : i = j
    · have b1 : ((i : Int) != (j : Int)) = false := by simp; omega
      rw [if_pos hij] at ht
      have HT := Lib.hid ht
      have HC := Lib.hid (HSW.out D wr x m i hD HS.out (by omega) (by omega))
      clear ht hij
      go_wp2_with (go_at_call 159; refine HC.out.mono ?_; rintro e w' ⟨rfl, hs⟩)
      go_end0
      exact ⟨rfl, by rw [← HT.out]; exact hs⟩
    · have b1 : ((i : Int) != (j : Int)) = true := by simp; omega
      rw [if_neg hij] at ht
      by_cases hlt : j < i
      · have b2 : decide (j < i) = true := by simp; omega
        rw [if_pos hlt] at ht
        have HT := Lib.hid ht
        obtain ⟨i2, hi2⟩ : ∃ i2, i - j = i2 := ⟨_, rfl⟩
        rw [hi2] at HT
        have qi2 : (i : Int) - (j : Int) = (i2 : Int) := by omega
        have HC := Lib.hid (HSW.out D wr x m j hD HS.out (by omega) (by omega))
        clear ht
        go_wp2_with (go_at_call 159; refine HC.out.mono ?_; rintro e w' ⟨rfl, hs⟩; have HS2 := Lib.hid hs; clear hs)
        go_roundw
        case rel => exact ⟨i2, j, r, _, rfl, rfl, by omega, by omega, by omega, by omega, by omega, HT.out, HS2.out⟩
        case measure => simp [intOf]; omega
      · have b2 : decide (j < i) = false := by simp; omega
        rw [if_neg hlt] at ht
        have HT := Lib.hid ht
        obtain ⟨j2, hj2⟩ : ∃ j2, j - i = j2 := ⟨_, rfl⟩
        obtain ⟨y, hy⟩ : ∃ y, m + j = y := ⟨_, rfl⟩
        obtain ⟨z, hz⟩ : ∃ z, y - i = z := ⟨_, rfl⟩
        rw [hj2, hy, hz] at HT
        have qj2 : (j : Int) - (i : Int) = (j2 : Int) := by omega
        have qy : (m : Int) + (j : Int) = (y : Int) := by omega
        have qz : (y : Int) - (i : Int) = (z : Int) := by omega
        have HC := Lib.hid (HSW.out D wr x z i hD HS.out (by omega) (by omega))
        clear ht
        go_wp2_with (go_at_call 159; refine HC.out.mono ?_; rintro e w' ⟨rfl, hs⟩; have HS2 := Lib.hid hs; clear hs)
        go_roundw
        case rel => exact ⟨i, j2, r, _, rfl, rfl, by omega, by omega, by omega, by omega, by omega, HT.out, HS2.out⟩
        case measure => simp [intOf]; omega
end Go.Proofs.YtendielanacflaaGreat
