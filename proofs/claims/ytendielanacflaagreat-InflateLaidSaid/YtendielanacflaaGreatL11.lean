/- Plain mathematics of layer 5: the insertion sort by frequency puts the rarest first. layer 5: the rarest first: the library's stable sort, and its comparison: contracts. -/
import Derived.Test.YtendielanacflaaGreatL05
import Derived.Test.YtendielanacflaaGreatL03
import Derived.Test.YtendielanacflaaGreatL08
namespace Go.Proofs.YtendielanacflaaGreat.M05
set_option linter.unusedVariables false
def swapL (d : List Nat) (j : Nat) : List Nat := (d.set (j + 1) (d.getD j 0)).set j (d.getD (j + 1) 0)
def insD (f : List Nat) (a : Nat) : Nat → List Nat → List Nat
  | 0, d => d
  | j + 1, d => if a < j + 1 ∧ f.getD (d.getD (j + 1) 0) 0 < f.getD (d.getD j 0) 0 then insD f a j (swapL d j) else d
def insO (f : List Nat) (a : Nat) : Nat → Nat → List Nat → List Nat
  | _, 0, d => d
  | i, n + 1, d => insO f a (i + 1) n (insD f a i d)
def insS (f : List Nat) (a b : Nat) (d : List Nat) : List Nat := insO f a (a + 1) (b - (a + 1)) d
theorem swapL_len (d : List Nat) (j : Nat) : (swapL d j).length = d.length := by simp [swapL]
theorem insD_len (f : List Nat) (a : Nat) : ∀ j d, (insD f a j d).length = d.length := by
  intro j
  induction j with
  | zero => intro d; rfl
  | succ j ih =>
    intro d
    unfold insD
    split
    · rw [ih, swapL_len]
    · rfl
def inr (f : List Nat) (x : Nat) : List Nat → List Nat
  | [] => [x]
  | y :: ys => if f.getD x 0 < f.getD y 0 then y :: inr f x ys else x :: y :: ys
theorem inr_len (f : List Nat) (x : Nat) : ∀ r, (inr f x r).length = r.length + 1 := by
  intro r
  induction r with
  | nil => rfl
  | cons y ys ih =>
    unfold inr
    split
    · simp [ih]
    · rfl
theorem inr_perm (f : List Nat) (x : Nat) : ∀ r, (inr f x r).Perm (x :: r) := by
  intro r
  induction r with
  | nil => exact .refl _
  | cons y ys ih =>
    unfold inr
    split
    · exact (List.Perm.cons y ih).trans (List.Perm.swap x y ys)
    · exact .refl _
theorem getD_at (a : List Nat) (x : Nat) (b : List Nat) : (a ++ x :: b).getD a.length 0 = x := by
  rw [List.getD_eq_getElem?_getD, List.getElem?_append_right (Nat.le_refl _)]; simp
theorem swap_at (a : List Nat) (y x : Nat) (b : List Nat) : swapL (a ++ y :: x :: b) a.length = a ++ x :: y :: b := by
  have h1 : (a ++ y :: x :: b).getD a.length 0 = y := getD_at a y _
  have h2 : (a ++ y :: x :: b).getD (a.length + 1) 0 = x := by
    simp
  unfold swapL
  rw [h1, h2, List.set_append_right _ _ (by omega)]
  rw [show a.length + 1 - a.length = 1 by omega]
  rw [List.set_append_right _ _ (by omega), Nat.sub_self]
  rfl
theorem insD_inr (f : List Nat) : ∀ (r : List Nat) (x : Nat) (suf : List Nat), insD f 0 r.length (r.reverse ++ x :: suf) = (inr f x r).reverse ++ suf := by
  intro r
  induction r with
  | nil => intro x suf; rfl
  | cons y ys ih =>
    intro x suf
    have e : (y :: ys).reverse ++ x :: suf = ys.reverse ++ y :: x :: suf := by simp
    rw [e]
    have hl : ys.reverse.length = ys.length := by simp
    have h1 : (ys.reverse ++ y :: x :: suf).getD ys.length 0 = y := by rw [← hl]; exact getD_at _ _ _
    have h2 : (ys.reverse ++ y :: x :: suf).getD (ys.length + 1) 0 = x := by
      simp
    show (if 0 < ys.length + 1 ∧ _ then _ else _) = _
    rw [h1, h2]
    unfold inr
    by_cases hlt : f.getD x 0 < f.getD y 0
    · rw [if_pos ⟨by omega, hlt⟩, if_pos hlt]
      have := swap_at ys.reverse y x suf
      rw [hl] at this
      rw [this, ih]
      simp
    · rw [if_neg (fun h => hlt h.2), if_neg hlt]
      simp
theorem insO_fold (f : List Nat) : ∀ (suf r : List Nat), insO f 0 r.length suf.length (r.reverse ++ suf) = (suf.foldl (fun r x => inr f x r) r).reverse := by
  intro suf
  induction suf with
  | nil => intro r; simp [insO]
  | cons x s ih =>
    intro r
    show insO f 0 (r.length + 1) s.length (insD f 0 r.length (r.reverse ++ x :: s)) = _
    rw [insD_inr, ← inr_len f x r, ih]
    rfl
def LexR (f : List Nat) (r : List Nat) : Prop := r.Pairwise fun a b => ltF f b a = true
theorem inr_lex (f : List Nat) (x : Nat) : ∀ r, LexR f r → (∀ y ∈ r, y < x) → LexR f (inr f x r) := by
  intro r
  induction r with
  | nil => intro _ _; simp [inr, LexR]
  | cons y ys ih =>
    intro h hx
    unfold LexR at h
    rw [List.pairwise_cons] at h
    have hyx := hx y (by simp)
    unfold inr
    split
    · next hlt =>
      refine List.pairwise_cons.2 ⟨fun z hz => ?_, ih h.2 (fun z hz => hx z (by simp [hz]))⟩
      rcases List.mem_cons.1 ((inr_perm f x ys).mem_iff.1 hz) with rfl | hz
      · unfold ltF; simp only [Bool.or_eq_true, decide_eq_true_eq]; exact .inl hlt
      · exact h.1 z hz
    · next hlt =>
      have hy : ltF f y x = true := by
        unfold ltF
        simp only [Bool.or_eq_true, Bool.and_eq_true, decide_eq_true_eq]
        omega
      refine List.pairwise_cons.2 ⟨fun z hz => ?_, List.pairwise_cons.2 h⟩
      rcases List.mem_cons.1 hz with rfl | hz
      · exact hy
      · exact ltF_trans f _ _ _ (h.1 z hz) hy
theorem fold_lex (f : List Nat) : ∀ (suf r : List Nat), suf.Pairwise (· < ·) → LexR f r → (∀ y ∈ r, ∀ x ∈ suf, y < x) →
    LexR f (suf.foldl (fun r x => inr f x r) r) ∧ (suf.foldl (fun r x => inr f x r) r).Perm (r ++ suf) := by
  intro suf
  induction suf with
  | nil => intro r _ h _; exact ⟨h, by simp⟩
  | cons x s ih =>
    intro r hs hr hx
    rw [List.pairwise_cons] at hs
    obtain ⟨h1, h2⟩ := ih (inr f x r) hs.2 (inr_lex f x r hr (fun y hy => hx y hy x (by simp))) (by
      intro y hy z hz
      rcases List.mem_cons.1 ((inr_perm f x r).mem_iff.1 hy) with rfl | hy
      · exact hs.1 z hz
      · exact hx y hy z (by simp [hz]))
    refine ⟨h1, h2.trans ?_⟩
    exact ((inr_perm f x r).append_right s).trans List.perm_middle.symm
theorem used_rises (f : List Nat) : (used f).Pairwise (· < ·) := List.Pairwise.filter _ List.pairwise_lt_range
theorem insS_rar (f : List Nat) : insS f 0 (used f).length (used f) = rar f := by
  have hu := used_rises f
  have hp := rar_perm f
  unfold insS
  generalize used f = u at *
  match u with
  | [] => exact (hp.eq_nil).symm
  | x :: s =>
    rw [List.pairwise_cons] at hu
    have h1 := insO_fold f s [x]
    have h2 : (x :: s).length - (0 + 1) = s.length := by simp
    rw [h2, Nat.zero_add]
    have h3 : insO f 0 1 s.length (x :: s) = _ := h1
    rw [h3]
    obtain ⟨h4, h5⟩ := fold_lex f s [x] hu.2 (by simp [LexR]) (by intro y hy z hz; simp at hy; subst hy; exact hu.1 z hz)
    refine lex_unique f _ _ ?_ ?_ (rar_lex f)
    · exact (List.reverse_perm _).trans (h5.trans hp.symm)
    · unfold Lex
      rw [List.pairwise_reverse]
      exact h4
end Go.Proofs.YtendielanacflaaGreat.M05

namespace Go.Proofs.YtendielanacflaaGreat
open Go.RowKit Go.Shelf M04 M05
attribute [local go_sem] Oper.semAt_some
set_option linter.unusedVariables false
set_option linter.unusedSimpArgs false
def cmpN (a b : Nat) : Int := if a < b then -1 else if b < a then 1 else 0
set_option maxRecDepth 100000 in
theorem cmp_isNaN (x : Int) (w : World) : Calls Tryz.prog 147 #[.int .i64 x] w fun e w' => e = .returned (.bool false) ∧ w' = w := by
  go_enter Tryz.func147, Tryz.ntmps147
  go_wp2
  go_ret
  simp
set_option maxRecDepth 100000 in
theorem cmp_compare (a b : Nat) (w : World) : Calls Tryz.prog 120 #[.int .i64 (a : Nat), .int .i64 (b : Nat)] w fun e w' => e = .returned (.int .i64 (cmpN a b)) ∧ w' = w := by
  have H1 := Lib.hid (cmp_isNaN (a : Int) w)
  have H2 := Lib.hid (cmp_isNaN (b : Int) w)
  have HC : Hid (cmpN a b = if a < b then -1 else if b < a then 1 else 0) := rfl
  by_cases h1 : a < b
  · have b1 : decide (a < b) = true := by simp; omega
    rw [if_pos h1] at HC
    clear h1
    go_enter Tryz.func120, Tryz.ntmps120
    go_wp2_with (first | (go_at_call 147; refine H1.out.mono ?_; rintro e w' ⟨rfl, rfl⟩) | (go_at_call 147; refine H2.out.mono ?_; rintro e w' ⟨rfl, rfl⟩))
    go_ret
    exact ⟨by rw [HC.out]; rfl, rfl⟩
  · have b1 : decide (a < b) = false := by simp; omega
    rw [if_neg h1] at HC
    by_cases h2 : b < a
    · have b2 : decide (b < a) = true := by simp; omega
      rw [if_pos h2] at HC
      clear h1 h2
      go_enter Tryz.func120, Tryz.ntmps120
      go_wp2_with (first | (go_at_call 147; refine H1.out.mono ?_; rintro e w' ⟨rfl, rfl⟩) | (go_at_call 147; refine H2.out.mono ?_; rintro e w' ⟨rfl, rfl⟩))
      go_ret
      exact ⟨by rw [HC.out]; rfl, rfl⟩
    · have b2 : decide (b < a) = false := by simp; omega
      rw [if_neg h2] at HC
      clear h1 h2
      go_enter Tryz.func120, Tryz.ntmps120
      go_wp2_with (first | (go_at_call 147; refine H1.out.mono ?_; rintro e w' ⟨rfl, rfl⟩) | (go_at_call 147; refine H2.out.mono ?_; rintro e w' ⟨rfl, rfl⟩))
      go_ret
      exact ⟨by rw [HC.out]; rfl, rfl⟩
set_option maxRecDepth 100000 in
theorem rarest_cmp (w : World) (p : Nat) (a : Option Addr) (c : Nat) (f : List Nat) (x y : Nat) (h1 : w.cell? ⟨p, 0, none⟩ = some (.slice a f.length c)) (h2 : RowN .i64 w a c f) (hx : x < f.length) (hy : y < f.length) :
    Calls Tryz.prog 119 #[.int .i64 (x : Nat), .int .i64 (y : Nat), .pointer (some ⟨p, 0, none⟩)] w fun e w' => e = .returned (.int .i64 (cmpN (f.getD x 0) (f.getD y 0))) ∧ ∃ q, w' = w.drewN q := by
  obtain ⟨b, off, rfl, hb, hcx⟩ := h2.at hx
  obtain ⟨b', off', he, _, hcy⟩ := h2.at hy
  simp only [Option.some.injEq, Addr.mk.injEq, and_true] at he
  obtain ⟨rfl, rfl⟩ := he
  have ex : f.getD x 0 = f[x] := by rw [List.getD_eq_getElem?_getD, List.getElem?_eq_getElem hx]; rfl
  have ey : f.getD y 0 = f[y] := by rw [List.getD_eq_getElem?_getD, List.getElem?_eq_getElem hy]; rfl
  rw [ex, ey]
  generalize f[x] = u at *
  generalize f[y] = v at *
  have HC := Lib.hid (fun w => cmp_compare u v w)
  have qx : (x : Int) < (f.length : Int) := by omega
  have qy : (y : Int) < (f.length : Int) := by omega
  clear ex ey h2
  go_enter Tryz.func119, Tryz.ntmps119
  go_wp2_with fail
  go_still_tail 8, (by kernel_rfl)
  go_wp2_with (go_at_call 120; refine (HC.out _).mono ?_; rintro e w' ⟨rfl, rfl⟩)
  go_ret
  exact ⟨rfl, 1, rfl⟩
theorem stInt (p : Addr) (n : Int) (u : Value) (w : World) (h : w.cell? p = some u) (hf : w.frozen? p = false) : (Instr.storeAt 3 (.pointer (some p)) (.int .i64 n)).run Tryz.prog w = .ok () (w.setCell p (.int .i64 n)) := by
  have hsz : (Tryz.prog.info? 3).map (·.size) = some 1 := by kernel_rfl
  cases h5 : Tryz.prog.info? 3 with
  | none => rw [h5] at hsz; cases hsz
  | some ie =>
    have hs : ie.size = 1 := by simpa [h5] using hsz
    simp [Instr.storeAt, Instr.sureAddr, storeVar, sizeOf, typeInfo, h5, hs, Value.cells, storeCells, h, hf, go_sem]
def Ph2 (W0 W1 W2 : World) : Bool → Bool → World
  | _, true => W2
  | true, false => W1
  | false, false => W0
theorem swapL_mem {d : List Nat} {j n : Nat} (hj : j + 1 < d.length) (h : ∀ x ∈ d, x < n) : ∀ x ∈ swapL d j, x < n := by
  intro x hx
  unfold swapL at hx
  have h1 : d.getD j 0 < n := by rw [List.getD_eq_getElem?_getD, List.getElem?_eq_getElem (by omega)]; exact h _ (List.getElem_mem _)
  have h2 : d.getD (j + 1) 0 < n := by rw [List.getD_eq_getElem?_getD, List.getElem?_eq_getElem hj]; exact h _ (List.getElem_mem _)
  rcases List.mem_or_eq_of_mem_set hx with h' | rfl
  · rcases List.mem_or_eq_of_mem_set h' with h'' | rfl
    · exact h _ h''
    · exact h1
  · exact h2
structure SrtI (A0 : World) (g base cap p : Nat) (fa : Option Addr) (fc : Nat) (f : List Nat) (n : Nat) (D : List Nat) (A : World) : Prop where
  own : OwnN 3 .i64 A base (some ⟨g, 0, none⟩) cap D
  len : D.length = n
  mem : ∀ x ∈ D, x < f.length
  only : Only (fun b => b = g) A0 A
  cell : A.cell? ⟨p, 0, none⟩ = some (.slice fa f.length fc)
  row : RowN .i64 A fa fc f
theorem SrtI.drewN {A0 A : World} {g base cap p fc n : Nat} {fa : Option Addr} {f D : List Nat} (h : SrtI A0 g base cap p fa fc f n D A) (q : Nat) : SrtI A0 g base cap p fa fc f n D (A.drewN q) :=
  ⟨h.own, h.len, h.mem, h.only.trans ⟨rfl, rfl, rfl, Nat.le_refl _, fun _ _ _ => rfl⟩, h.cell, h.row⟩
theorem SrtI.swap {A0 A : World} {g base cap p fc n : Nat} {fa : Option Addr} {f D : List Nat} (h : SrtI A0 g base cap p fa fc f n D A) (hp : p < base) (hfa : ∀ x, 0 < f.length → fa = some x → x.block < base) {j : Nat} (hj : j + 1 < n) :
    SrtI A0 g base cap p fa fc f n (swapL D j) ((A.setCell ⟨g, j + 1, none⟩ (.int .i64 (D.getD j 0 : Nat))).setCell ⟨g, j, none⟩ (.int .i64 (D.getD (j + 1) 0 : Nat))) := by
  obtain ⟨o1, g1⟩ := h.own.stored (j + 1) (D.getD j 0)
  obtain ⟨o2, g2⟩ := o1.stored j (D.getD (j + 1) 0)
  have hg : base ≤ g := by
    rcases h.own.form with ⟨h', _⟩ | ⟨g', h', hb, _⟩
    · cases h'
    · simp only [Option.some.injEq, Addr.mk.injEq, and_true] at h'; omega
  have ho : Only (fun b => b = g) A ((A.setCell ⟨g, j + 1, none⟩ (.int .i64 (D.getD j 0 : Nat))).setCell ⟨g, j, none⟩ (.int .i64 (D.getD (j + 1) 0 : Nat))) :=
    Only.trans ⟨g1.os, g1.tape, g1.output, g1.size, fun b hb hne => g1.block b hb (fun e => by cases e; exact hne rfl)⟩ ⟨g2.os, g2.tape, g2.output, g2.size, fun b hb hne => g2.block b hb (fun e => by cases e; exact hne rfl)⟩
  refine ⟨o2, by rw [swapL_len]; exact h.len, swapL_mem (by rw [h.len]; exact hj) h.mem, h.only.trans ho, ?_, h.row.same ho.size (fun x h0 hx => ?_)⟩
  · exact (World.cell?_of_block (a := ⟨p, 0, none⟩) (ho.block p (cell_lt h.cell) (by omega))).trans h.cell
  · have := hfa x h0 hx
    refine ho.block _ ?_ (by omega)
    obtain ⟨b', off, he, hlt, _⟩ := h.row.at h0
    rw [hx] at he; cases he; exact hlt
set_option maxRecDepth 100000 in
set_option maxHeartbeats 3200000 in
theorem ins_sort (A : World) (g base cap p a b : Nat) (fa : Option Addr) (fc : Nat) (f d : List Nat) (hI : SrtI A g base cap p fa fc f d.length d A) (hp : p < base) (hfa : ∀ x, 0 < f.length → fa = some x → x.block < base) (hab : a ≤ b) (hb : b ≤ d.length) (hl : d.length ≤ 600) :
    Calls Tryz.prog 155 #[.slice (some ⟨g, 0, none⟩) d.length cap, .int .i64 (a : Nat), .int .i64 (b : Nat), .func (.func 119) #[] #[.pointer (some ⟨p, 0, none⟩)]] A fun e w' => e = .returned (.tuple #[]) ∧ SrtI A g base cap p fa fc f d.length (insS f a b d) w' := by
  obtain ⟨n, hn⟩ : ∃ n, d.length = n := ⟨_, rfl⟩
  rw [hn] at hI hb hl ⊢
  have HI := Lib.hid hI
  have HSW := Lib.hid (fun D A' j (h : SrtI A g base cap p fa fc f n D A') (hj : j + 1 < n) => h.swap hp hfa hj)
  obtain ⟨T, hT⟩ : ∃ T, insS f a b d = T := ⟨_, rfl⟩
  have HT := Lib.hid (show insO f a (a + 1) (b - (a + 1)) d = T from hT)
  rw [hT]
  clear hI hT
  go_enter Tryz.func155, Tryz.ntmps155
  go_wp2
  go_loopw [8, 9] (fun x _ A' => ∃ i D, x = .int .i64 (i : Nat) ∧ i ≤ n + 1 ∧ insO f a i (b - i) D = T ∧ SrtI A g base cap p fa fc f n D A') (fun x _ _ => n + 1 - (intOf x).toNat)
  case atStart => exact ⟨a + 1, d, by go_num, by omega, HT.out, HI.out⟩
  case round =>
    clear HT HI
    obtain ⟨i, D, rfl, hi, ht, hs⟩ := hrel
    have HS := Lib.hid hs
    have HT := Lib.hid ht
    clear hs ht
    by_cases hib : i < b
    · have b1 : decide (i < b) = true := by simp; omega
      obtain ⟨m, hm⟩ : ∃ m, b - i = m + 1 := ⟨b - i - 1, by omega⟩
      have HT2 := Lib.hid (show insO f a (i + 1) m (insD f a i D) = T from by have := HT.out; rw [hm] at this; exact this)
      have HM := Lib.hid (show m = b - (i + 1) from by omega)
      clear HT hm
      go_wp2_with fail
      go_loopw [9] (fun y A' => ∃ j D', y = .int .i64 (j : Nat) ∧ j ≤ i ∧ insD f a j D' = insD f a i D ∧ SrtI A g base cap p fa fc f n D' A') (fun y _ => (intOf y).toNat)
      case atStart => exact ⟨i, D, rfl, Nat.le_refl _, rfl, HS.out⟩
      case round =>
        clear HS
        obtain ⟨j, D', rfl, hj, hd, hs⟩ := hrel
        have HS := Lib.hid hs
        have HD := Lib.hid hd
        clear hs hd
        by_cases haj : a < j
        · have b2 : decide (a < j) = true := by simp; omega
          obtain ⟨j', rfl⟩ : ∃ j', j = j' + 1 := ⟨j - 1, by omega⟩
          have hj1 : j' + 1 < D'.length := by rw [HS.out.len]; omega
          have hjn : j' < n := by omega
          have hj1n : j' + 1 < n := by omega
          have eu : D'.getD j' 0 = D'[j'] := by rw [List.getD_eq_getElem?_getD, List.getElem?_eq_getElem (by omega)]; rfl
          have ev : D'.getD (j' + 1) 0 = D'[j' + 1] := by rw [List.getD_eq_getElem?_getD, List.getElem?_eq_getElem hj1]; rfl
          obtain ⟨g1, hg1, _, _, hcu, hfu⟩ := HS.out.own.at (show j' < D'.length by omega)
          obtain ⟨g2, hg2, _, _, hcv, hfv⟩ := HS.out.own.at hj1
          simp only [Option.some.injEq, Addr.mk.injEq, and_true] at hg1 hg2
          subst hg1
          subst hg2
          have hul : D'[j'] < f.length := HS.out.mem _ (List.getElem_mem _)
          have hvl : D'[j' + 1] < f.length := HS.out.mem _ (List.getElem_mem _)
          have HCMP := Lib.hid (fun q => (rarest_cmp (wr.drewN q) p fa fc f (D'[j' + 1]) (D'[j']) HS.out.cell HS.out.row hvl hul).mono (fun e w' (h : e = .returned (.int .i64 (cmpN (f.getD D'[j' + 1] 0) (f.getD D'[j'] 0))) ∧ ∃ q', w' = (wr.drewN q).drewN q') => (show e = .returned (.int .i64 (cmpN (f.getD D'[j' + 1] 0) (f.getD D'[j'] 0))) ∧ ∃ m, w' = wr.drewN m from ⟨h.1, by obtain ⟨_, q', h2⟩ := h; exact ⟨q + q', by rw [h2, World.drewN_drewN]⟩⟩)))
          have HSW2 := Lib.hid (fun q => HSW.out D' (wr.drewN q) j' (HS.out.drewN q) hj1n)
          have HK0 := Lib.hid (fun q => (show ∃ kv, ((wr.drewN q).setCell ⟨g, j' + 1, none⟩ (.int .i64 (D'.getD j' 0 : Nat))).cell? ⟨g, j', none⟩ = some kv ∧ ((wr.drewN q).setCell ⟨g, j' + 1, none⟩ (.int .i64 (D'.getD j' 0 : Nat))).frozen? ⟨g, j', none⟩ = false from by
            obtain ⟨g3, hg3, _, _, h4, h5⟩ := (((HS.out.drewN q).own.stored (j' + 1) (D'.getD j' 0)).1).at (i := j') (by rw [List.length_set, HS.out.len]; exact hjn)
            simp only [Option.some.injEq, Addr.mk.injEq, and_true] at hg3
            subst hg3
            exact ⟨_, h4, h5⟩))
          have HDD := Lib.hid (show (if a < j' + 1 ∧ f.getD D'[j' + 1] 0 < f.getD D'[j'] 0 then insD f a j' (swapL D' j') else D') = insD f a i D from by rw [← HD.out, ← eu, ← ev]; rfl)
          rw [eu] at HK0
          simp only [eu, ev] at HSW2
          clear HD hul hvl eu ev
          generalize D'[j'] = xu at *
          generalize D'[j' + 1] = xv at *
          have hib1 : j' + 1 ≤ 600 := by omega
          clear hj1
          obtain ⟨j1, hj1e⟩ : ∃ j1, j' + 1 = j1 := ⟨_, rfl⟩
          have qj1 : (j1 : Int) < (n : Int) := by omega
          have qj : (j' : Int) < (n : Int) := by omega
          have qsub : (j1 : Int) - 1 = (j' : Int) := by omega
          have qwj : IntKind.i64.wrap (j' : Int) = (j' : Int) := IntWalk.i64_in _ (by omega)
          rw [hj1e] at HSW2 hcv hfv b2 hj1n HK0
          simp only [hj1e]
          by_cases hlt : f.getD xv 0 < f.getD xu 0
          · have b3 : decide (cmpN (f.getD xv 0) (f.getD xu 0) < 0) = true := by unfold cmpN; rw [if_pos hlt]; rfl
            rw [if_pos ⟨haj, hlt⟩] at HDD
            obtain ⟨cm, hcm⟩ : ∃ cm, cmpN (f.getD xv 0) (f.getD xu 0) = cm := ⟨_, rfl⟩
            rw [hcm] at HCMP b3
            clear hlt hcm
            go_wp2_with fail
            go_quiet ((go_at_call 119; exact (HCMP.out _)))
            go_wp2_with fail
            obtain ⟨kv, hk1, hk2⟩ := HK0.out (nq + 1)
            have hend := HSW2.out (nq + 1)
            have hw : ((wr.drewN nq).drew) = wr.drewN (nq + 1) := rfl
            have hcu' : (wr.drewN (nq + 1)).cell? ⟨g, j', none⟩ = some (.int .i64 (xu : Nat)) := hcu
            have hcv' : (wr.drewN (nq + 1)).cell? ⟨g, j1, none⟩ = some (.int .i64 (xv : Nat)) := hcv
            have hfv' : (wr.drewN (nq + 1)).frozen? ⟨g, j1, none⟩ = false := hfv
            obtain ⟨W0, hW0⟩ : ∃ W0, wr.drewN (nq + 1) = W0 := ⟨_, rfl⟩
            rw [hW0] at hk1 hk2 hend hw hcu' hcv' hfv'
            have HW0 := Lib.hid hw
            obtain ⟨W1, hW1⟩ : ∃ W1, W0.setCell ⟨g, j1, none⟩ (.int .i64 (xu : Nat)) = W1 := ⟨_, rfl⟩
            rw [hW1] at hk1 hk2 hend
            have HW1 := Lib.hid hW1
            obtain ⟨W2, hW2⟩ : ∃ W2, W1.setCell ⟨g, j', none⟩ (.int .i64 (xv : Nat)) = W2 := ⟨_, rfl⟩
            rw [hW2] at hend
            have HW2 := Lib.hid hW2
            have HCU := Lib.hid hcu'
            have HCV := Lib.hid hcv'
            have HF1 := Lib.hid hfv'
            have HCK := Lib.hid hk1
            have HF2 := Lib.hid hk2
            have HEND := Lib.hid hend
            clear hk1 hk2 hend hw hcu' hcv' hfv' hW0 hW1 hW2
            -- region begins
            refine wp_region_flowL [37, 38, 39, 40, 41, 42, 43, 44, 45, 46, 47, 48, 49, 50, 51, 52] (fun j => false) (fun listed w1 => w1 = Ph2 W0 W1 W2 (listed.getD 15 false) (listed.getD 17 false)) (fun j v _ => match j with | 0 => v = .slice (some ⟨g, 0, none⟩) n cap | 1 => v = .int .i64 (j1 : Nat) | 2 => v = .slice (some ⟨g, 0, none⟩) n cap | 3 => v = .int .i64 (j1 : Nat) | 4 => v = .int .i64 (j' : Nat) | 5 => v = .slice (some ⟨g, 0, none⟩) n cap | 6 => v = .int .i64 (j1 : Nat) | 7 => v = .int .i64 (j' : Nat) | 8 => v = .pointer (some ⟨g, j', none⟩) | 9 => v = .int .i64 (xu : Nat) | 10 => v = .slice (some ⟨g, 0, none⟩) n cap | 11 => v = .int .i64 (j1 : Nat) | 12 => v = .pointer (some ⟨g, j1, none⟩) | 13 => v = .int .i64 (xv : Nat) | 14 => v = .pointer (some ⟨g, j1, none⟩) | 16 => v = .pointer (some ⟨g, j', none⟩) | _ => True) (fun _ _ _ _ => True) (by kernel_rfl) (by kernel_rfl) (OneEach.mk' (by kernel_rfl) (by kernel_rfl)) (by kernel_rfl) (by kernel_rfl) (by exact HW0.out) ?_ ?_
            · intro i0 o hi0 listed a1 w1 hR hil hunf hdes hanc hout hdep
              have hsz : i0 < 18 := (Array.getElem?_eq_some_iff.1 hi0).1
              have hall : i0 = 0 ∨ i0 = 1 ∨ i0 = 2 ∨ i0 = 3 ∨ i0 = 4 ∨ i0 = 5 ∨ i0 = 6 ∨ i0 = 7 ∨ i0 = 8 ∨ i0 = 9 ∨ i0 = 10 ∨ i0 = 11 ∨ i0 = 12 ∨ i0 = 13 ∨ i0 = 14 ∨ i0 = 15 ∨ i0 = 16 ∨ i0 = 17 := by omega
              clear hsz
              rcases hall with rfl | rfl | rfl | rfl | rfl | rfl | rfl | rfl | rfl | rfl | rfl | rfl | rfl | rfl | rfl | rfl | rfl | rfl <;> simp only [List.getElem?_toArray, List.getElem?_cons_zero, List.getElem?_cons_succ, Option.some.injEq] at hi0 <;> subst hi0
              · have f0 : a1.eval (.tmp 0) = .slice (some ⟨g, 0, none⟩) n cap := hout 0 (by decide)
                refine stepTo_val (v := .slice (some ⟨g, 0, none⟩) n cap) (w' := w1) (by simp [execOp, f0]) ⟨_, rfl, ?_, fun j u hu hV _ => ⟨hV, trivial, trivial⟩, rfl⟩
                rw [getD_set_ne2 (by decide), getD_set_ne2 (by decide)]; exact hR
              · have f9 : a1.eval (.tmp 9) = .int .i64 (j1 : Nat) := hout 9 (by decide)
                refine stepTo_val (v := .int .i64 (j1 : Nat)) (w' := w1) (by simp [execOp, f9]) ⟨_, rfl, ?_, fun j u hu hV _ => ⟨hV, trivial, trivial⟩, rfl⟩
                rw [getD_set_ne2 (by decide), getD_set_ne2 (by decide)]; exact hR
              · have f0 : a1.eval (.tmp 0) = .slice (some ⟨g, 0, none⟩) n cap := hout 0 (by decide)
                refine stepTo_val (v := .slice (some ⟨g, 0, none⟩) n cap) (w' := w1) (by simp [execOp, f0]) ⟨_, rfl, ?_, fun j u hu hV _ => ⟨hV, trivial, trivial⟩, rfl⟩
                rw [getD_set_ne2 (by decide), getD_set_ne2 (by decide)]; exact hR
              · have f9 : a1.eval (.tmp 9) = .int .i64 (j1 : Nat) := hout 9 (by decide)
                refine stepTo_val (v := .int .i64 (j1 : Nat)) (w' := w1) (by simp [execOp, f9]) ⟨_, rfl, ?_, fun j u hu hV _ => ⟨hV, trivial, trivial⟩, rfl⟩
                rw [getD_set_ne2 (by decide), getD_set_ne2 (by decide)]; exact hR
              · have e40 : a1.eval (.tmp 40) = .int .i64 (j1 : Nat) := hdep ⟨3, .data⟩ (by simp) rfl _ rfl
                refine stepTo_val (v := .int .i64 (j' : Nat)) (w' := w1) (by simp [execOp, e40, evalC, eqgS, subI, qsub, qwj]) ⟨_, rfl, ?_, fun j u hu hV _ => ⟨hV, trivial, trivial⟩, rfl⟩
                rw [getD_set_ne2 (by decide), getD_set_ne2 (by decide)]; exact hR
              · have f0 : a1.eval (.tmp 0) = .slice (some ⟨g, 0, none⟩) n cap := hout 0 (by decide)
                refine stepTo_val (v := .slice (some ⟨g, 0, none⟩) n cap) (w' := w1) (by simp [execOp, f0]) ⟨_, rfl, ?_, fun j u hu hV _ => ⟨hV, trivial, trivial⟩, rfl⟩
                rw [getD_set_ne2 (by decide), getD_set_ne2 (by decide)]; exact hR
              · have f9 : a1.eval (.tmp 9) = .int .i64 (j1 : Nat) := hout 9 (by decide)
                refine stepTo_val (v := .int .i64 (j1 : Nat)) (w' := w1) (by simp [execOp, f9]) ⟨_, rfl, ?_, fun j u hu hV _ => ⟨hV, trivial, trivial⟩, rfl⟩
                rw [getD_set_ne2 (by decide), getD_set_ne2 (by decide)]; exact hR
              · have e43 : a1.eval (.tmp 43) = .int .i64 (j1 : Nat) := hdep ⟨6, .data⟩ (by simp) rfl _ rfl
                refine stepTo_val (v := .int .i64 (j' : Nat)) (w' := w1) (by simp [execOp, e43, evalC, eqgS, subI, qsub, qwj]) ⟨_, rfl, ?_, fun j u hu hV _ => ⟨hV, trivial, trivial⟩, rfl⟩
                rw [getD_set_ne2 (by decide), getD_set_ne2 (by decide)]; exact hR
              · have e42 : a1.eval (.tmp 42) = .slice (some ⟨g, 0, none⟩) n cap := hdep ⟨5, .data⟩ (by simp) rfl _ rfl
                have e44 : a1.eval (.tmp 44) = .int .i64 (j' : Nat) := hdep ⟨7, .data⟩ (by simp) rfl _ rfl
                refine stepTo_val (v := .pointer (some ⟨g, j', none⟩)) (w' := w1) (by simp [execOp, e42, e44, ixI g j' n cap hjn]) ⟨_, rfl, ?_, fun j u hu hV _ => ⟨hV, trivial, trivial⟩, rfl⟩
                rw [getD_set_ne2 (by decide), getD_set_ne2 (by decide)]; exact hR
              · have e45 : a1.eval (.tmp 45) = .pointer (some ⟨g, j', none⟩) := hdep ⟨8, .data⟩ (by simp) rfl _ rfl
                have x45 : a1.tmps[45]?.getD undef = .pointer (some ⟨g, j', none⟩) := by simpa [Act.eval] using e45
                have hc : w1.cell? ⟨g, j', none⟩ = some (.int .i64 (xu : Nat)) := by
                  rw [hdes 15 (by kernel_rfl), hdes 17 (by kernel_rfl)] at hR
                  rw [hR]; exact HCU.out
                refine stepTo_val (v := .int .i64 (xu : Nat)) (w' := w1) (by simp [execOp, e45, ldInt _ _ _ hc]) ⟨_, rfl, ?_, fun j u hu hV _ => ⟨hV, trivial, trivial⟩, rfl⟩
                rw [getD_set_ne2 (by decide), getD_set_ne2 (by decide)]; exact hR
              · have f0 : a1.eval (.tmp 0) = .slice (some ⟨g, 0, none⟩) n cap := hout 0 (by decide)
                refine stepTo_val (v := .slice (some ⟨g, 0, none⟩) n cap) (w' := w1) (by simp [execOp, f0]) ⟨_, rfl, ?_, fun j u hu hV _ => ⟨hV, trivial, trivial⟩, rfl⟩
                rw [getD_set_ne2 (by decide), getD_set_ne2 (by decide)]; exact hR
              · have f9 : a1.eval (.tmp 9) = .int .i64 (j1 : Nat) := hout 9 (by decide)
                refine stepTo_val (v := .int .i64 (j1 : Nat)) (w' := w1) (by simp [execOp, f9]) ⟨_, rfl, ?_, fun j u hu hV _ => ⟨hV, trivial, trivial⟩, rfl⟩
                rw [getD_set_ne2 (by decide), getD_set_ne2 (by decide)]; exact hR
              · have e47 : a1.eval (.tmp 47) = .slice (some ⟨g, 0, none⟩) n cap := hdep ⟨10, .data⟩ (by simp) rfl _ rfl
                have e48 : a1.eval (.tmp 48) = .int .i64 (j1 : Nat) := hdep ⟨11, .data⟩ (by simp) rfl _ rfl
                refine stepTo_val (v := .pointer (some ⟨g, j1, none⟩)) (w' := w1) (by simp [execOp, e47, e48, ixI g j1 n cap hj1n]) ⟨_, rfl, ?_, fun j u hu hV _ => ⟨hV, trivial, trivial⟩, rfl⟩
                rw [getD_set_ne2 (by decide), getD_set_ne2 (by decide)]; exact hR
              · have e49 : a1.eval (.tmp 49) = .pointer (some ⟨g, j1, none⟩) := hdep ⟨12, .data⟩ (by simp) rfl _ rfl
                have x49 : a1.tmps[49]?.getD undef = .pointer (some ⟨g, j1, none⟩) := by simpa [Act.eval] using e49
                have hc : w1.cell? ⟨g, j1, none⟩ = some (.int .i64 (xv : Nat)) := by
                  rw [hdes 15 (by kernel_rfl), hdes 17 (by kernel_rfl)] at hR
                  rw [hR]; exact HCV.out
                refine stepTo_val (v := .int .i64 (xv : Nat)) (w' := w1) (by simp [execOp, e49, ldInt _ _ _ hc]) ⟨_, rfl, ?_, fun j u hu hV _ => ⟨hV, trivial, trivial⟩, rfl⟩
                rw [getD_set_ne2 (by decide), getD_set_ne2 (by decide)]; exact hR
              · have e37 : a1.eval (.tmp 37) = .slice (some ⟨g, 0, none⟩) n cap := hdep ⟨0, .data⟩ (by simp) rfl _ rfl
                have e38 : a1.eval (.tmp 38) = .int .i64 (j1 : Nat) := hdep ⟨1, .data⟩ (by simp) rfl _ rfl
                refine stepTo_val (v := .pointer (some ⟨g, j1, none⟩)) (w' := w1) (by simp [execOp, e37, e38, ixI g j1 n cap hj1n]) ⟨_, rfl, ?_, fun j u hu hV _ => ⟨hV, trivial, trivial⟩, rfl⟩
                rw [getD_set_ne2 (by decide), getD_set_ne2 (by decide)]; exact hR
              · have e51 : a1.eval (.tmp 51) = .pointer (some ⟨g, j1, none⟩) := hdep ⟨14, .data⟩ (by simp) rfl _ rfl
                have x51 : a1.tmps[51]?.getD undef = .pointer (some ⟨g, j1, none⟩) := by simpa [Act.eval] using e51
                have e46 : a1.eval (.tmp 46) = .int .i64 (xu : Nat) := hdep ⟨9, .data⟩ (by simp) rfl _ rfl
                have x46 : a1.tmps[46]?.getD undef = .int .i64 (xu : Nat) := by simpa [Act.eval] using e46
                rw [hunf, hdes 17 (by kernel_rfl)] at hR
                obtain rfl : w1 = W0 := hR
                refine stepTo_skip (w' := W1) (by simp [execOp, e51, e46, stInt _ _ _ w1 HCV.out HF1.out, HW1.out]) ⟨undef, rfl, ?_, fun j u hu hV _ => ⟨hV, trivial, trivial⟩, trivial⟩
                rw [set_getD_same hil, getD_set_ne2 (by decide), hdes 17 (by kernel_rfl)]
                rfl
              · have e39 : a1.eval (.tmp 39) = .slice (some ⟨g, 0, none⟩) n cap := hdep ⟨2, .data⟩ (by simp) rfl _ rfl
                have e41 : a1.eval (.tmp 41) = .int .i64 (j' : Nat) := hdep ⟨4, .data⟩ (by simp) rfl _ rfl
                refine stepTo_val (v := .pointer (some ⟨g, j', none⟩)) (w' := w1) (by simp [execOp, e39, e41, ixI g j' n cap hjn]) ⟨_, rfl, ?_, fun j u hu hV _ => ⟨hV, trivial, trivial⟩, rfl⟩
                rw [getD_set_ne2 (by decide), getD_set_ne2 (by decide)]; exact hR
              · have e52 : a1.eval (.tmp 52) = .pointer (some ⟨g, j', none⟩) := hdep ⟨16, .data⟩ (by simp) rfl _ rfl
                have x52 : a1.tmps[52]?.getD undef = .pointer (some ⟨g, j', none⟩) := by simpa [Act.eval] using e52
                have e50 : a1.eval (.tmp 50) = .int .i64 (xv : Nat) := hdep ⟨13, .data⟩ (by simp) rfl _ rfl
                have x50 : a1.tmps[50]?.getD undef = .int .i64 (xv : Nat) := by simpa [Act.eval] using e50
                rw [hanc 15 (by kernel_rfl), hunf] at hR
                obtain rfl : w1 = W1 := hR
                refine stepTo_skip (w' := W2) (by simp [execOp, e52, e50, stInt _ _ _ w1 HCK.out HF2.out, HW2.out]) ⟨undef, rfl, ?_, fun j u hu hV _ => ⟨hV, trivial, trivial⟩, trivial⟩
                rw [set_getD_same hil, getD_set_ne2 (by decide), hanc 15 (by kernel_rfl)]
                rfl
            · intro listed fv w1 hR hall hV
              rw [hall 15 (by decide), hall 17 (by decide)] at hR
              obtain rfl : w1 = W2 := hR
              simp only [spread, List.contains_cons, List.contains_nil, Nat.reduceBEq, Bool.or_false, Bool.or_true, cond_true, cond_false, Nat.reduceAdd, Nat.zero_add]
              go_wp2
              go_roundw
              case rel => exact ⟨j', swapL D' j', rfl, by omega, HDD.out, HEND.out⟩
              case measure => simp [intOf]; omega
            -- region ends
          · have b3 : decide (cmpN (f.getD xv 0) (f.getD xu 0) < 0) = false := by unfold cmpN; rw [if_neg hlt]; split <;> rfl
            rw [if_neg (fun h => hlt h.2)] at HDD
            obtain ⟨cm, hcm⟩ : ∃ cm, cmpN (f.getD xv 0) (f.getD xu 0) = cm := ⟨_, rfl⟩
            rw [hcm] at HCMP b3
            clear hlt hcm
            go_wp2_with fail
            go_quiet ((go_at_call 119; exact (HCMP.out _)))
            go_wp2
            go_roundw
            case rel => exact ⟨i + 1, D', by go_num, by omega, by rw [HDD.out, ← HM.out]; exact HT2.out, HS.out.drewN _⟩
            case measure => simp [intOf]; omega
        · have b2 : decide (a < j) = false := by simp; omega
          have HDD := Lib.hid (show D' = insD f a i D from by
            rw [← HD.out]
            cases j with
            | zero => rfl
            | succ j => show _ = if _ then _ else _; rw [if_neg (fun h => haj h.1)])
          clear HD haj
          go_wp2_with fail
          go_quiet (fail)
          go_wp2
          go_roundw
          case rel => exact ⟨i + 1, D', by go_num, by omega, by rw [HDD.out, ← HM.out]; exact HT2.out, HS.out.drewN _⟩
          case measure => simp [intOf]; omega
    · have b1 : decide (i < b) = false := by simp; omega
      have HT3 := Lib.hid (show D = T from by have := HT.out; rw [show b - i = 0 by omega] at this; exact this)
      clear HT hib
      go_wp2
      go_end0
      exact ⟨rfl, by rw [← HT3.out]; exact HS.out⟩
set_option maxRecDepth 100000 in
set_option maxHeartbeats 3200000 in
theorem stable_few (A : World) (g base cap p : Nat) (fa : Option Addr) (fc : Nat) (f d : List Nat) (hI : SrtI A g base cap p fa fc f d.length d A) (hp : p < base) (hfa : ∀ x, 0 < f.length → fa = some x → x.block < base) (hl : d.length < 20) :
    Calls Tryz.prog 146 #[.slice (some ⟨g, 0, none⟩) d.length cap, .int .i64 (d.length : Nat), .func (.func 119) #[] #[.pointer (some ⟨p, 0, none⟩)]] A fun e w' => e = .returned (.tuple #[]) ∧ SrtI A g base cap p fa fc f d.length (insS f 0 d.length d) w' := by
  have HINS := Lib.hid (ins_sort A g base cap p 0 d.length fa fc f d hI hp hfa (Nat.zero_le _) (Nat.le_refl _) (by omega))
  obtain ⟨T, hT⟩ : ∃ T, insS f 0 d.length d = T := ⟨_, rfl⟩
  rw [hT] at HINS ⊢
  clear hI hT
  generalize d.length = n at *
  have b1 : decide (20 ≤ n) = false := by simp; omega
  have b2 : decide (20 < n) = false := by simp; omega
  go_enter Tryz.func146, Tryz.ntmps146
  go_wp2
  go_loopw [7, 8] (fun x y A' => x = .int .i64 0 ∧ y = .int .i64 20 ∧ A' = A) (fun x y _ => 0)
  case atStart => exact ⟨rfl, rfl, rfl⟩
  case round =>
    obtain ⟨rfl, rfl, rfl⟩ := hrel
    go_wp2_with (go_at_call 155; refine HINS.out.mono ?_; rintro e w' ⟨rfl, hs⟩; have HS := Lib.hid hs; clear hs)
    go_loopw [6, 7, 8, 9] (fun x _ _ _ A' => x = .int .i64 20 ∧ A' = w') (fun _ _ _ _ _ => 0)
    case atStart => exact ⟨rfl, rfl⟩
    case round =>
      obtain ⟨rfl, rfl⟩ := hrel
      go_wp2
      go_end0
      exact ⟨rfl, HS.out⟩
set_option maxRecDepth 100000 in
theorem sort_few (A : World) (g base cap p : Nat) (fa : Option Addr) (fc : Nat) (f d : List Nat) (hI : SrtI A g base cap p fa fc f d.length d A) (hp : p < base) (hfa : ∀ x, 0 < f.length → fa = some x → x.block < base) (hl : d.length < 20) :
    Calls Tryz.prog 118 #[.slice (some ⟨g, 0, none⟩) d.length cap, .func (.func 119) #[] #[.pointer (some ⟨p, 0, none⟩)]] A fun e w' => e = .returned (.tuple #[]) ∧ SrtI A g base cap p fa fc f d.length (insS f 0 d.length d) w' := by
  have HST := Lib.hid (stable_few A g base cap p fa fc f d hI hp hfa hl)
  clear hI
  go_enter Tryz.func118, Tryz.ntmps118
  go_wp2_with (go_at_call 146; refine HST.out.mono ?_; rintro e w' ⟨rfl, hs⟩)
  go_end0
  exact ⟨rfl, hs⟩
end Go.Proofs.YtendielanacflaaGreat
