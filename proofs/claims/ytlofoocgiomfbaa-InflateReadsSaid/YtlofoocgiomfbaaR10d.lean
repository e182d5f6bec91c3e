/- The reference of layer 10: a stream: symbols: contract. -/
import Derived.Test.YtlofoocgiomfbaaR10
namespace Go.Proofs.Ytlofoocgiomfbaa
open Go.RowKit Go.Shelf M01 M04 M07 M08 M09 M10
set_option linter.unusedVariables false
section
variable {P : Nat → Prop} {w w' w2 : World} {sp keep at_ : Nat} {bs out : List Nat} {bad : Bool}

theorem RSt.narrow (h : RSt P w sp bs keep at_ out bad) (hb : Below w.heap.size w w') : RSt (Sub P w.heap.size w'.heap.size) w' sp bs keep at_ out bad := by
  have hlt := h.lt
  obtain ⟨ra, rc, ba, bc, oa, oc, h1, h2, ⟨h3, h3'⟩, ⟨h4, h4'⟩, h5, h6, h7, h8, h9⟩ := h
  have hz := hb.size
  refine ⟨ra, rc, ba, bc, oa, oc, (hb.block sp hlt).trans h1, h2.below hb, ⟨h3.below hb, h3'⟩, ⟨h4.below hb, h4'⟩, ⟨h5, by omega⟩, fun g hg => ⟨⟨(h6 g hg).1, ?_⟩, (h6 g hg).2⟩, fun b hb' => ⟨h7 b (by omega), by omega⟩, fun b hb => h8 b hb.1, h9⟩
  rcases h2.form with ⟨rfl, _, _⟩ | ⟨g', rfl, _, hg'⟩
  · cases hg
  · cases hg; omega
theorem RSt.widen {lo hi : Nat} (h : RSt (Sub P lo hi) w sp bs keep at_ out bad) (hP : ∀ b, P b → sp ≤ b) (hb : ∀ b, w.heap.size ≤ b → P b) : RSt P w sp bs keep at_ out bad := by
  obtain ⟨ra, rc, ba, bc, oa, oc, h1, h2, h3, h4, h5, h6, h7, h8, h9⟩ := h
  exact ⟨ra, rc, ba, bc, oa, oc, h1, h2, h3, h4, h5.1, fun g hg => ⟨(h6 g hg).1.1, (h6 g hg).2⟩, hb, hP, h9⟩
theorem RSt.sides (h : RSt P w sp bs keep at_ out bad) : (∀ b, P b → sp ≤ b) ∧ (∀ b, w.heap.size ≤ b → P b) := by
  obtain ⟨ra, rc, ba, bc, oa, oc, h1, h2, h3, h4, h5, h6, h7, h8, h9⟩ := h
  exact ⟨h8, h7⟩
theorem ROut.widen {lo hi : Nat} {R : Option (Nat × List Nat)} (hP : ∀ b, P b → sp ≤ b) (hb : ∀ b, w.heap.size ≤ b → P b) (h : ROut (Sub P lo hi) sp bs keep R w w') : ROut P sp bs keep R w w' := by
  obtain ⟨h1, h2⟩ := h
  have ho : Only P w w' := h1.mono (fun k _ h => h.1)
  have hb' : ∀ b, w'.heap.size ≤ b → P b := fun b hh => hb b (Nat.le_trans ho.size hh)
  refine ⟨ho, ?_⟩
  cases R with
  | none =>
    obtain ⟨a, o, h⟩ := h2
    exact ⟨a, o, h.widen hP hb'⟩
  | some r => exact ⟨h2.1.widen hP hb', h2.2⟩
theorem ROut.from {R : Option (Nat × List Nat)} (ho : Only P w w2) (h : ROut P sp bs keep R w2 w') : ROut P sp bs keep R w w' := ⟨ho.trans h.1, h.2⟩

/-- phases of a region with a table made and a number read -/
def Ph (W0 W1 : World) (K : World → Prop) : Bool → Bool → World → Prop
  | _, true, w => K w
  | true, false, w => w = W1
  | false, false, w => w = W0
theorem Ph.cell {W0 W1 : World} {K : World → Prop} {x y : Bool} {w : World} {p : Addr} {v : Value} (hx : x = true) (h : Ph W0 W1 K x y w) (h1 : W1.cell? p = some v) (h2 : ∀ w, K w → w.cell? p = some v) : w.cell? p = some v := by
  subst hx
  cases y with
  | true => exact h2 w h
  | false => obtain rfl : w = W1 := h; exact h1
/-- a stream of the reference, and what has turned since -/
def InR (Q : Nat → Prop) (w2 : World) (sp : Nat) (bs : List Nat) (keep : Nat) (A : World) (at2 : Nat) (out2 : List Nat) (b : Bool) : Prop := Only Q w2 A ∧ RSt Q A sp bs keep at2 out2 b
theorem InR.step {Q : Nat → Prop} {w2 A B : World} {sp keep at2 at3 : Nat} {bs out2 out3 : List Nat} {b b3 : Bool} (h : InR Q w2 sp bs keep A at2 out2 b) (ho : Only Q A B) (hs : RSt Q B sp bs keep at3 out3 b3) : InR Q w2 sp bs keep B at3 out3 b3 := ⟨h.1.trans ho, hs⟩
theorem InR.setBad {Q : Nat → Prop} {w2 A : World} {sp keep at2 : Nat} {bs out2 : List Nat} {b : Bool} (h : InR Q w2 sp bs keep A at2 out2 b) : InR Q w2 sp bs keep (A.setCell ⟨sp, 6, none⟩ (.bool true)) at2 out2 true := h.step (h.2.setBad true).1 (h.2.setBad true).2
theorem InR.drewN {Q : Nat → Prop} {w2 A : World} {sp keep at2 : Nat} {bs out2 : List Nat} {b : Bool} (h : InR Q w2 sp bs keep A at2 out2 b) (q : Nat) : InR Q w2 sp bs keep (A.drewN q) at2 out2 b := h.step (only_drewN _ _ q) (h.2.drewN q)
theorem ROut.ofNone {Q : Nat → Prop} {w2 A : World} {sp keep at2 : Nat} {bs out2 : List Nat} {R : Option (Nat × List Nat)} (hR : R = none) (h : InR Q w2 sp bs keep A at2 out2 true) : ROut Q sp bs keep R w2 A := by subst hR; exact ⟨h.1, _, _, h.2⟩
theorem ROut.ofSome {Q : Nat → Prop} {w2 A : World} {sp keep at2 : Nat} {bs out2 : List Nat} {R : Option (Nat × List Nat)} (hR : R = some (at2, out2)) (h : InR Q w2 sp bs keep A at2 out2 false) (hl : out2.length ≤ 258 * at2) : ROut Q sp bs keep R w2 A := by subst hR; exact ⟨h.1, h.2, hl⟩

theorem RSt.swap {P : Nat → Prop} {w : World} {sp keep at_ : Nat} {bs out : List Nat} {x : Nat} {bad : Bool} (y : Nat) (h : RSt P w sp bs keep at_ (out ++ [x]) bad) (hk : keep ≤ out.length) : RSt P w sp bs keep at_ (out ++ [y]) bad := by
  have e1 : (out ++ [x]).take keep = (out ++ [y]).take keep := by rw [List.take_append_of_le_length hk, List.take_append_of_le_length hk]
  have e3 : (out ++ [y]).length = (out ++ [x]).length := by simp
  unfold RSt at *
  rw [e1, ← e3] at h
  exact h
/-- a table of words that keeps: its blocks lie from lo on, below hi -/
def Wt (lo hi : Nat) (w : World) (g : Option Addr) (c : Nat) (l : List Nat) (es : Es) : Prop :=
  RowS encSl w g c es ∧ RowsTo w l l.length es ∧ (∀ x, 0 < es.length → g = Option.some x → lo ≤ x.block ∧ x.block < hi) ∧ (∀ i (h : i < es.length) x, 0 < es[i].2.2.length → es[i].1 = Option.some x → lo ≤ x.block ∧ x.block < hi) ∧ hi ≤ w.heap.size
theorem rowN_in {k : IntKind} {w : World} {a : Option Addr} {c : Nat} {l : List Nat} (h : RowN k w a c l) {x : Addr} (h0 : 0 < l.length) (hx : a = Option.some x) : x.block < w.heap.size := by
  obtain ⟨b, off, he, hb, _⟩ := h.at h0
  rw [he] at hx; cases hx; exact hb
theorem Wt.mk' {lo : Nat} {w : World} {g : Option Addr} {c : Nat} {l : List Nat} {es : Es} (h1 : RowS encSl w g c es) (h2 : RowsTo w l l.length es) (h3 : ∀ x, g = Option.some x → lo ≤ x.block) (h4 : EsLo lo es) : Wt lo w.heap.size w g c l es := by
  refine ⟨h1, h2, fun x h0 hx => ⟨h3 x hx, ?_⟩, fun i hi x h0 hx => ⟨h4 i hi x hx, rowN_in (h2.2 i hi).2 h0 hx⟩, Nat.le_refl _⟩
  obtain ⟨b, off, he, hb, _⟩ := h1.at h0
  rw [he] at hx; cases hx; exact hb
theorem Wt.below {lo hi : Nat} {w w' : World} {g : Option Addr} {c : Nat} {l : List Nat} {es : Es} (h : Wt lo hi w g c l es) (hb : Below w.heap.size w w') : Wt lo w'.heap.size w' g c l es := by
  obtain ⟨h1, h2, h3, h4, h5⟩ := h
  have := hb.size
  exact ⟨h1.below hb, h2.below hb, fun x h0 hx => by have := h3 x h0 hx; omega, fun i hi' x h0 hx => by have := h4 i hi' x h0 hx; omega, Nat.le_refl _⟩
theorem Wt.lower {lo lo' hi : Nat} {w : World} {g : Option Addr} {c : Nat} {l : List Nat} {es : Es} (h : Wt lo hi w g c l es) (hl : lo' ≤ lo) : Wt lo' hi w g c l es := by
  obtain ⟨h1, h2, h3, h4, h5⟩ := h
  exact ⟨h1, h2, fun x h0 hx => by have := h3 x h0 hx; omega, fun i hi' x h0 hx => by have := h4 i hi' x h0 hx; omega, h5⟩
theorem Wt.only {Q : Nat → Prop} {lo hi : Nat} {w w' : World} {g : Option Addr} {c : Nat} {l : List Nat} {es : Es} (h : Wt lo hi w g c l es) (ho : Only Q w w') (hQ : ∀ b, lo ≤ b → b < hi → ¬ Q b) : Wt lo hi w' g c l es := by
  obtain ⟨h1, h2, h3, h4, h5⟩ := h
  refine ⟨h1.same ho.size (fun x h0 hx => ?_), ⟨h2.1, fun i hi' => ⟨(h2.2 i hi').1, (h2.2 i hi').2.same ho.size (fun x h0 hx => ?_)⟩⟩, h3, h4, Nat.le_trans h5 ho.size⟩
  · have := h3 x h0 hx
    exact ho.block _ (by omega) (hQ _ this.1 this.2)
  · have := h4 i hi' x h0 hx
    exact ho.block _ (by omega) (hQ _ this.1 this.2)
/-- where a table stands that was just made, a number's reading leaves it -/
theorem rst_number_at {P : Nat → Prop} {w w' : World} {sp keep at_ : Nat} {bs out : List Nat} {bad : Bool} (h : RSt P w sp bs keep at_ out bad) (hb : Below w.heap.size w w') (n : Nat) (hn : n ≤ 32) :
    Calls Try.prog 68 #[.pointer (some ⟨sp, 0, none⟩), .int .i64 (n : Nat)] w' fun e A => e = .returned (.int .i64 (nVal bs at_ n bad : Nat)) ∧
      ((∀ b, w.heap.size ≤ b → b < w'.heap.size → A.heap[b]? = w'.heap[b]?) ∧ Only P w A ∧ RSt P A sp bs keep (nAt bs at_ n bad) out (!nFit bs at_ n bad)) :=
  (rst_number (h.narrow hb) n hn).mono fun e A ⟨h1, h2, h3⟩ =>
    have ho : Only P w A := (Only.ofBelow hb).trans (h2.mono fun _ _ h => h.1)
    ⟨h1, fun b hb1 hb2 => h2.block b hb2 (fun h => h.2 ⟨hb1, hb2⟩), ho, h3.widen h.sides.1 (fun b hb => h.sides.2 b (Nat.le_trans ho.size hb))⟩
end

set_option maxRecDepth 100000 in
set_option maxHeartbeats 12800000 in
theorem rst_symbols {P : Nat → Prop} {w : World} {sp keep at_ : Nat} {bs out : List Nat} (h : RSt P w sp bs keep at_ out false) (hl : out.length ≤ 258 * at_) (a b : Option Addr) (ca cb : Nat) (l1 l2 : List Nat) (ha : RowN .u8 w a ca l1) (hb : RowN .u8 w b cb l2)
    (he1 : (wordsE l1).2 = 0) (he2 : (wordsE l2).2 = 0) (h0 : 0 < bs.length) :
    Calls Try.prog 70 #[.pointer (some ⟨sp, 0, none⟩), .slice a l1.length ca, .slice b l2.length cb] w fun e w' => e = .returned (.tuple #[]) ∧ ROut P sp bs keep (symsL l1 l2 bs (8 * bs.length + 1) at_ out) w w' := by
  have HM1 := Lib.hid (wordsE_may he1)
  have HM2 := Lib.hid (wordsE_may he2)
  have H := Lib.hid h
  have HL := Lib.hid hl
  have HR1 := Lib.hid (ref06_rowsB a ca l1 w ha HM1.out.1 HM1.out.2)
  have HR2 := Lib.hid (fun w' (h : Below w.heap.size w w') => ref06_rowsB b cb l2 w' (hb.below h) HM2.out.1 HM2.out.2)
  have hnm := h.nums
  clear h hl ha hb he1 he2
  obtain ⟨R, hR0⟩ : ∃ R, R = symsL l1 l2 bs (8 * bs.length + 1) at_ out := ⟨_, rfl⟩
  rw [← hR0]
  replace hR0 := Lib.hid hR0
  go_enter Try.func70, Try.ntmps70
  go_wp2_with fail
  refine HR1.out.mono ?_
  rintro e w1 ⟨g1, c1, es1, rfl, hs1, ht1, hb1, hg1, hl1⟩
  have HB1 := Lib.hid hb1
  have HT1 := Lib.hid (Wt.mk' hs1 ht1 hg1 hl1)
  clear hs1 ht1 hb1 hg1 hl1 HR1
  go_wp2_with fail
  refine (HR2.out w1 HB1.out).mono ?_
  rintro e w2 ⟨g2, c2, es2, rfl, hs2, ht2, hb2, hg2, hl2⟩
  have HB2 := Lib.hid (HB1.out.trans (hb2.mono HB1.out.size))
  have HT1' := Lib.hid (HT1.out.below hb2)
  have HT2 := Lib.hid ((Wt.mk' hs2 ht2 hg2 hl2).lower HB1.out.size)
  have HS := Lib.hid (H.out.narrow HB2.out)
  have HPN := Lib.hid (fun (A : World) (R : Option (Nat × List Nat)) (h : ROut (Sub P w.heap.size w2.heap.size) sp bs keep R w2 A) => ((h.widen H.out.sides.1 (fun b hb => H.out.sides.2 b (Nat.le_trans HB2.out.size hb))).from (.ofBelow HB2.out) : ROut P sp bs keep R w A))
  clear hs2 ht2 hb2 hg2 hl2 HR2 HB1 HT1 H
  generalize hQ : Sub P w.heap.size w2.heap.size = Q at *
  have HQ : Hid (∀ b, w.heap.size ≤ b → b < w2.heap.size → ¬ Q b) := fun b h1 h2 h3 => by rw [← hQ] at h3; exact h3.2 ⟨h1, h2⟩
  clear HB2
  generalize w.heap.size = lo at *
  generalize hhi : w2.heap.size = hi at *
  clear hQ hhi
  go_wp2_with fail
  go_loopw [10, 11, 12, 13, 14, 15] (fun _ _ _ _ _ _ A => ∃ f at2 out2, InR Q w2 sp bs keep A at2 out2 false ∧ out2.length ≤ 258 * at2 ∧ 8 * bs.length + 1 ≤ f + at2 ∧ R = symsL l1 l2 bs f at2 out2) (fun _ _ _ _ _ _ A => 8 * bs.length - rAt A sp)
  case atStart => exact ⟨8 * bs.length + 1, at_, out, ⟨Only.refl _ _, HS.out⟩, HL.out, Nat.le_add_right _ _, hR0.out⟩
  case round =>
    clear HS hR0 HL
    obtain ⟨f, at2, out2, hi2, hlen, hf, hr⟩ := hrel
    have hnm2 := hi2.2.nums
    obtain ⟨f, rfl⟩ : ∃ g, f = g + 1 := ⟨f - 1, by omega⟩
    have HRA := Lib.hid (rAt_eq hi2.2)
    have HX := HT1'.out.only hi2.1 HQ.out
    have HG1 := Lib.hid (rst_symbol hi2.2 g1 c1 l1 es1 HX.1 HX.2.1 HM1.out.1 HM1.out.2 h0)
    have HI := Lib.hid hi2
    have HF := Lib.hid hf
    rw [symsL_succ] at hr
    unfold symsStep at hr
    have HSS := Lib.hid (fun s a h => sym_some (l := l1) (bs := bs) (at_ := at2) (s := s) (at2 := a) HM1.out.1.1 h)
    have h512 := HM1.out.1.2
    clear hi2 hf HX
    generalize hsy : sym l1 bs at2 = s1 at *
    rcases s1 with _ | ⟨c, a1⟩
    · have HR : Hid (R = none) := hr
      clear hr hsy HSS
      go_wp2_with fail
      refine HG1.out.mono ?_
      rintro e w3 ⟨ho3, hs3⟩
      obtain ⟨rfl, a3, hs3⟩ := hs3
      have HI3 := Lib.hid (HI.out.step ho3 hs3)
      obtain ⟨e6, _, _, _, k6, _⟩ := hs3.cel
      clear ho3 hs3 HG1 HI
      go_wp2
      ((try simp only [Exit.inBlock, Exit.then]); refine bodyPost_ret (results_none rfl _ _ _) rfl ?_)
      exact ⟨rfl, HPN.out _ _ (.ofNone HR.out HI3.out)⟩
    obtain ⟨hc512, hq, hlt⟩ := HSS.out c a1 rfl
    clear hq
    have hbd : out2.length + 258 ≤ 258 * a1 := by omega
    clear hsy HSS
    replace hr := Lib.hid hr
    go_wp2_with fail
    refine HG1.out.mono ?_
    rintro e w3 ⟨ho3, hs3⟩
    obtain ⟨rfl, hs3⟩ := hs3
    have HI3 := Lib.hid (HI.out.step ho3 hs3)
    obtain ⟨e6, _, _, _, k6, _⟩ := hs3.cel
    have h3 := hs3.nums
    clear ho3 hs3 HG1 HI hnm2
    by_cases h256 : c < 256
    · have HR : Hid (R = symsL l1 l2 bs f a1 (out2 ++ [c])) := by
        unfold Hid
        have := hr.out
        simpa [h256] using this
      have HP := Lib.hid (rst_put HI3.out.2 c (by omega))
      have t1 : decide ((c : Int) < 256) = true := by simp; omega
      have t2 : ((c : Int) == 256) = false := by simp; omega
      clear hr
      go_wp2_with fail
      refine HP.out.mono ?_
      rintro e w4 ⟨rfl, ho4, hs4⟩
      have HI4 := Lib.hid (HI3.out.step ho4 hs4)
      clear ho4 hs4 HI3
      go_wp2
      go_roundw
      case rel => exact ⟨f, a1, out2 ++ [c], HI4.out, by rw [List.length_append]; show out2.length + 1 ≤ _; omega, by have := HF.out; omega, HR.out⟩
      case measure => rw [HRA.out, rAt_eq HI4.out.2]; omega
    have t1 : decide ((c : Int) < 256) = false := by simp; omega
    by_cases h6 : c = 256
    · have HR : Hid (R = some (a1, out2)) := by
        unfold Hid
        have := hr.out
        simpa [h256, h6] using this
      have t2 : ((c : Int) == 256) = true := by simp; omega
      clear hr h256 h6
      go_wp2
      ((try simp only [Exit.inBlock, Exit.then]); refine bodyPost_ret (results_none rfl _ _ _) rfl ?_)
      exact ⟨rfl, HPN.out _ _ (.ofSome HR.out HI3.out (by omega))⟩
    have t2 : ((c : Int) == 256) = false := by simp; omega
    have hr2 := hr.out
    simp only [if_neg h256, if_neg h6] at hr2
    by_cases h285 : c ≤ 285
    case neg =>
      have hlo : loS (c : Int) = (0, 0, 5) := by unfold loS; rw [if_neg (by omega)]
      have HR : Hid (R = none) := by unfold Hid; rw [hr2, hlo]; rfl
      have t3 : decide ((285 : Int) < (c : Int)) = true := by simp; omega
      have HK := Lib.hid HI3.out.setBad
      clear hr hr2 hlo h256 h6 h285
      go_wp2
      ((try simp only [Exit.inBlock, Exit.then]); refine bodyPost_ret (results_none rfl _ _ _) rfl ?_)
      exact ⟨rfl, HPN.out _ _ (.ofNone HR.out HK.out)⟩
    obtain ⟨k, hk⟩ : ∃ k, c = 257 + k := ⟨c - 257, by omega⟩
    have hk29 : k < 29 := by omega
    have hlo : loS (c : Int) = (M08.lensL.getD k 0, lbits c, 0) := by unfold loS; rw [if_pos (by omega), Int.toNat_natCast, show c - 257 = k by omega]
    have hbl := loS_bound c (by rw [hlo])
    rw [hlo] at hr2 hbl
    simp only [ne_eq, not_true_eq_false, if_false] at hr2 hbl
    have t3 : decide ((285 : Int) < (c : Int)) = false := by simp; omega
    have HTB := Lib.hid (ref08_lengths w3.drew)
    have HBB := Lib.hid (fun A => ref08_lbits c A (by omega))
    have hrow := (lens_row w3.drew _ rfl).at (i := k) hk29
    have hbw := box_b w3.drew (.cells (lensI.map (Value.int .i64)).toArray 3)
    have hge : M08.lensL[k] = M08.lensL.getD k 0 := by rw [List.getD_eq_getElem?_getD, List.getElem?_eq_getElem hk29]; rfl
    have HNB := Lib.hid (rst_number_at (show RSt Q w3.drew sp bs keep a1 out2 false from HI3.out.2) hbw (lbits c) (by omega))
    have hgs : w3.drew.heap.size < (w3.drew.alloc (.cells (lensI.map (Value.int .i64)).toArray 3)).heap.size := by simp
    obtain ⟨lv, hlv⟩ : ∃ lv, M08.lensL.getD k 0 = lv := ⟨_, rfl⟩
    obtain ⟨lb, hlb⟩ : ∃ lb, lbits c = lb := ⟨_, rfl⟩
    rw [hge, hlv] at hrow
    rw [hlv, hlb] at hr2 hbl
    rw [hlb] at HBB HNB
    have hv := nVal_lt bs a1 lb false
    have hlea2 := nAt_le bs a1 lb false h3.1
    have HQ8 : Hid ((nFit bs a1 lb false = false → R = none) ∧ (nFit bs a1 lb false = true → rdN bs lb a1 = some (nVal bs a1 lb false, nAt bs a1 lb false))) := by
      unfold Hid nVal nAt nFit
      rw [hr2]
      unfold rdN
      by_cases hfit : a1 + lb ≤ 8 * bs.length
      · simp [hfit]
      · simp [hfit]
    clear hr hlo h256 h6 h285 hlv hlb hge
    have qsub : (c : Int) - 257 = (k : Int) := by omega
    clear hk
    obtain ⟨b2, hb2⟩ : ∃ b2, nFit bs a1 lb false = b2 := ⟨_, rfl⟩
    rw [hb2] at HNB HQ8
    clear hb2
    generalize nVal bs a1 lb false = nv at *
    generalize nAt bs a1 lb false = a2 at *
    have HR2 := Lib.hid hr2
    clear hr2
    obtain ⟨s, hs⟩ : ∃ s, lv + nv = s := ⟨_, rfl⟩
    have hsb : s ≤ 258 := by omega
    have HS8 := Lib.hid hs
    have qadd : (lv : Int) + (nv : Int) = (s : Int) := by omega
    have qwrap : IntKind.i64.wrap (s : Int) = (s : Int) := IntWalk.i64_in _ (by omega)
    have qwrap2 : IntKind.i64.wrap (k : Int) = (k : Int) := IntWalk.i64_in _ (by omega)
    clear hbl hv hs
    go_wp2_with fail
    obtain ⟨b0, off0, he0, hb0, hc0⟩ := hrow
    simp only [Option.some.injEq, Addr.mk.injEq, and_true] at he0
    obtain ⟨rfl, rfl⟩ := he0
    rw [Nat.zero_add] at hc0
    obtain ⟨W0, hW0⟩ : ∃ W0, W0 = w3.drew := ⟨_, rfl⟩
    have HW0 : Hid (w3.drew = W0) := hW0.symm
    rw [← hW0] at HTB HNB hc0 hgs hb0 hbw
    obtain ⟨W1, hW1⟩ : ∃ W1, W1 = W0.alloc (.cells (lensI.map (Value.int .i64)).toArray 3) := ⟨_, rfl⟩
    have HW1 : Hid (W0.alloc (.cells (lensI.map (Value.int .i64)).toArray 3) = W1) := hW1.symm
    rw [← hW1] at HNB hc0 hgs hb0 hbw
    obtain ⟨g, hg⟩ : ∃ g, g = W0.heap.size := ⟨_, rfl⟩
    have HG : Hid (Value.slice (some ⟨W0.heap.size, 0, none⟩) 29 29 = .slice (some ⟨g, 0, none⟩) 29 29) := by unfold Hid; rw [hg]
    rw [← hg] at hc0 hgs hb0 HNB
    have HC1 := Lib.hid hc0
    obtain ⟨KK, hKK⟩ : ∃ KK : World → Prop, KK = fun A => (∀ b, g ≤ b → b < W1.heap.size → A.heap[b]? = W1.heap[b]?) ∧ Only Q W0 A ∧ RSt Q A sp bs keep a2 out2 (!b2) := ⟨_, rfl⟩
    have HKK := Lib.hid (fun A => (show KK A = ((∀ b, g ≤ b → b < W1.heap.size → A.heap[b]? = W1.heap[b]?) ∧ Only Q W0 A ∧ RSt Q A sp bs keep a2 out2 (!b2)) from by rw [hKK]))
    have HNB2 : Hid (Calls Try.prog 68 #[.pointer (some ⟨sp, 0, none⟩), .int .i64 (lb : Nat)] W1 fun e A => e = .returned (.int .i64 (nv : Nat)) ∧ KK A) := HNB.out.mono fun e A h => ⟨h.1, by rw [HKK.out]; exact h.2⟩
    have HC2 := Lib.hid (fun A (h : KK A) => (show A.cell? ⟨g, k, none⟩ = some (.int .i64 (lv : Nat)) from by rw [HKK.out] at h; exact (World.cell?_of_block (a := ⟨g, k, none⟩) (h.1 g (Nat.le_refl _) hgs)).trans HC1.out))
    replace HNB := HNB2
    clear HNB2 hc0 hgs hb0 hg hW0 hW1 hKK hbw
    refine wp_region_flowL [48, 49, 50, 51, 52, 53, 54, 55, 56, 57, 11] (fun j => j == 10) (fun listed w1 => Ph W0 W1 KK (listed.getD 0 false) (listed.getD 8 false) w1) (fun j v _ => match j with | 0 => v = .slice (some ⟨g, 0, none⟩) 29 29 | 1 => v = .int .i64 (c : Nat) | 2 => v = .int .i64 (k : Nat) | 3 => v = .pointer (some ⟨g, k, none⟩) | 4 => v = .int .i64 (lv : Nat) | 5 => v = .pointer (some ⟨sp, 0, none⟩) | 6 => v = .int .i64 (c : Nat) | 7 => v = .int .i64 (lb : Nat) | 8 => v = .int .i64 (nv : Nat) | 9 => v = .int .i64 (s : Nat) | 10 => v = .int .i64 (s : Nat) | _ => True) (fun _ _ _ _ => True) (by kernel_rfl) (by kernel_rfl) (OneEach.mk' (by kernel_rfl) (by kernel_rfl)) (by kernel_rfl) (by kernel_rfl) (by exact HW0.out) ?_ ?_
    · intro i0 o hi0 listed a1 w1 hR hil hunf hdes hanc hout hdep
      have hsz : i0 < 11 := (Array.getElem?_eq_some_iff.1 hi0).1
      have hall : i0 = 0 ∨ i0 = 1 ∨ i0 = 2 ∨ i0 = 3 ∨ i0 = 4 ∨ i0 = 5 ∨ i0 = 6 ∨ i0 = 7 ∨ i0 = 8 ∨ i0 = 9 ∨ i0 = 10 := by omega
      clear hsz
      rcases hall with rfl | rfl | rfl | rfl | rfl | rfl | rfl | rfl | rfl | rfl | rfl <;> simp only [List.getElem?_toArray, List.getElem?_cons_zero, List.getElem?_cons_succ, Option.some.injEq] at hi0 <;> subst hi0
      · rw [hunf, hdes 8 (by kernel_rfl)] at hR
        obtain rfl : w1 = W0 := hR
        refine stepTo_call (f := 80) (args := #[]) (by simp [go_sem]) ((HTB.out).mono ?_)
        rintro e w9 ⟨rfl, rfl⟩
        refine ⟨_, rfl, _, rfl, ?_, fun j u hu hV _ => ⟨hV, trivial, trivial⟩, HG.out⟩
        rw [set_getD_same hil, getD_set_ne2 (by decide), hdes 8 (by kernel_rfl)]
        exact HW1.out
      · have f10 : a1.eval (.tmp 10) = .int .i64 (c : Nat) := hout 10 (by decide)
        refine stepTo_val (v := .int .i64 (c : Nat)) (w' := w1) (by simp [execOp, f10]) ⟨_, rfl, ?_, fun j u hu hV _ => ⟨hV, trivial, trivial⟩, rfl⟩
        rw [getD_set_ne2 (by decide), getD_set_ne2 (by decide)]; exact hR
      · have e49 : a1.eval (.tmp 49) = .int .i64 (c : Nat) := hdep ⟨1, .data⟩ (by simp) rfl _ rfl
        refine stepTo_val (v := .int .i64 (k : Nat)) (w' := w1) (by simp [execOp, e49, evalC, eqgS, subI, qsub, qwrap2]) ⟨_, rfl, ?_, fun j u hu hV _ => ⟨hV, trivial, trivial⟩, rfl⟩
        rw [getD_set_ne2 (by decide), getD_set_ne2 (by decide)]; exact hR
      · have e48 : a1.eval (.tmp 48) = .slice (some ⟨g, 0, none⟩) 29 29 := hdep ⟨0, .data⟩ (by simp) rfl _ rfl
        have e50 : a1.eval (.tmp 50) = .int .i64 (k : Nat) := hdep ⟨2, .data⟩ (by simp) rfl _ rfl
        refine stepTo_val (v := .pointer (some ⟨g, k, none⟩)) (w' := w1) (by simp [execOp, e48, e50, ixI g k 29 29 hk29]) ⟨_, rfl, ?_, fun j u hu hV _ => ⟨hV, trivial, trivial⟩, rfl⟩
        rw [getD_set_ne2 (by decide), getD_set_ne2 (by decide)]; exact hR
      · have e51 : a1.eval (.tmp 51) = .pointer (some ⟨g, k, none⟩) := hdep ⟨3, .data⟩ (by simp) rfl _ rfl
        have hc := Ph.cell (hanc 0 (by kernel_rfl)) hR HC1.out HC2.out
        refine stepTo_val (v := .int .i64 (lv : Nat)) (w' := w1) (by simp [execOp, e51, ldInt _ _ _ hc]) ⟨_, rfl, ?_, fun j u hu hV _ => ⟨hV, trivial, trivial⟩, rfl⟩
        rw [getD_set_ne2 (by decide), getD_set_ne2 (by decide)]; exact hR
      · have f0 : a1.eval (.tmp 0) = .pointer (some ⟨sp, 0, none⟩) := hout 0 (by decide)
        refine stepTo_val (v := .pointer (some ⟨sp, 0, none⟩)) (w' := w1) (by simp [execOp, f0]) ⟨_, rfl, ?_, fun j u hu hV _ => ⟨hV, trivial, trivial⟩, rfl⟩
        rw [getD_set_ne2 (by decide), getD_set_ne2 (by decide)]; exact hR
      · have f10 : a1.eval (.tmp 10) = .int .i64 (c : Nat) := hout 10 (by decide)
        refine stepTo_val (v := .int .i64 (c : Nat)) (w' := w1) (by simp [execOp, f10]) ⟨_, rfl, ?_, fun j u hu hV _ => ⟨hV, trivial, trivial⟩, rfl⟩
        rw [getD_set_ne2 (by decide), getD_set_ne2 (by decide)]; exact hR
      · have e54 : a1.eval (.tmp 54) = .int .i64 (c : Nat) := hdep ⟨6, .data⟩ (by simp) rfl _ rfl
        have x54 : a1.tmps[54]?.getD undef = .int .i64 (c : Nat) := by simpa [Act.eval] using e54
        refine stepTo_call (f := 31) (args := #[.int .i64 (c : Nat)]) (by simp [x54, go_sem]) ((HBB.out w1).mono ?_)
        rintro e w9 ⟨rfl, rfl⟩
        refine ⟨_, rfl, _, rfl, ?_, fun j u hu hV _ => ⟨hV, trivial, trivial⟩, rfl⟩
        rw [getD_set_ne2 (by decide), getD_set_ne2 (by decide)]; exact hR
      · have e53 : a1.eval (.tmp 53) = .pointer (some ⟨sp, 0, none⟩) := hdep ⟨5, .data⟩ (by simp) rfl _ rfl
        have x53 : a1.tmps[53]?.getD undef = .pointer (some ⟨sp, 0, none⟩) := by simpa [Act.eval] using e53
        have e55 : a1.eval (.tmp 55) = .int .i64 (lb : Nat) := hdep ⟨7, .data⟩ (by simp) rfl _ rfl
        have x55 : a1.tmps[55]?.getD undef = .int .i64 (lb : Nat) := by simpa [Act.eval] using e55
        rw [hanc 0 (by kernel_rfl), hunf] at hR
        obtain rfl : w1 = W1 := hR
        refine stepTo_call (f := 68) (args := #[.pointer (some ⟨sp, 0, none⟩), .int .i64 (lb : Nat)]) (by simp [x53, x55, go_sem]) ((HNB.out).mono ?_)
        rintro e w9 ⟨rfl, hk⟩
        refine ⟨_, rfl, _, rfl, ?_, fun j u hu hV _ => ⟨hV, trivial, trivial⟩, rfl⟩
        rw [set_getD_same hil, getD_set_ne2 (by decide), hanc 0 (by kernel_rfl)]
        exact hk
      · have e52 : a1.eval (.tmp 52) = .int .i64 (lv : Nat) := hdep ⟨4, .data⟩ (by simp) rfl _ rfl
        have e56 : a1.eval (.tmp 56) = .int .i64 (nv : Nat) := hdep ⟨8, .data⟩ (by simp) rfl _ rfl
        refine stepTo_val (v := .int .i64 (s : Nat)) (w' := w1) (by simp [execOp, e52, e56, eqgA, addI, qadd, qwrap]) ⟨_, rfl, ?_, fun j u hu hV _ => ⟨hV, trivial, trivial⟩, rfl⟩
        rw [getD_set_ne2 (by decide), getD_set_ne2 (by decide)]; exact hR
      · have e57 : a1.eval (.tmp 57) = .int .i64 (s : Nat) := hdep ⟨9, .data⟩ (by simp) rfl _ rfl
        refine stepTo_val (v := .int .i64 (s : Nat)) (w' := w1) (by simp [execOp, e57]) ⟨_, rfl, ?_, fun j u hu hV _ => ⟨hV, trivial, trivial⟩, rfl⟩
        rw [getD_set_ne2 (by decide), getD_set_ne2 (by decide)]; exact hR
    · intro listed fv w1 hR hall hV
      rw [hall 0 (by decide), hall 8 (by decide)] at hR
      have v9 : fv 11 = .int .i64 (s : Nat) := hV 10 _ rfl rfl
      simp only [spread, List.contains_cons, List.contains_nil, Nat.reduceBEq, Bool.or_false, Bool.or_true, cond_true, cond_false, Nat.reduceAdd, Nat.zero_add, v9]
      have hk : KK w1 := hR
      rw [HKK.out] at hk
      obtain ⟨_, ho5, hs5⟩ := hk
      have HI5 := Lib.hid (HI3.out.step ((show Only Q w3 W0 from HW0.out ▸ (Only.refl Q w3).drew).trans ho5) hs5)
      obtain ⟨e6, _, _, _, k6, _⟩ := hs5.cel
      have h5 := hs5.nums
      clear HTB HBB HNB HC1 HC2 HKK HW0 HW1 HG qadd qwrap qwrap2 qsub ho5 hs5 hall hV v9 HI3 hk29 k
      cases b2 with
      | false =>
        have HR : Hid (R = none) := HQ8.out.1 rfl
        have HK := Lib.hid HI5.out.setBad
        have HSB := Lib.hid (fun v => rst_symbol_bad HI5.out.2 v)
        simp only [Bool.not_false] at e6
        clear HQ8 HR2
        go_wp2_with fail
        refine (HSB.out _).mono ?_
        rintro e w6 ⟨rfl, rfl⟩
        clear HSB
        go_wp2
        ((try simp only [Exit.inBlock, Exit.then]); refine bodyPost_ret (results_none rfl _ _ _) rfl ?_)
        exact ⟨rfl, HPN.out _ _ (.ofNone HR.out HK.out)⟩
      | true =>
        have hr3 := HR2.out
        rw [HQ8.out.2 rfl] at hr3
        simp only [HS8.out] at hr3
        simp only [Bool.not_true] at e6
        clear HQ8 HR2 HS8
        have HX := HT2.out.only HI5.out.1 HQ.out
        have HG1 := Lib.hid (rst_symbol HI5.out.2 g2 c2 l2 es2 HX.1 HX.2.1 HM2.out.1 HM2.out.2 h0)
        have HSS := Lib.hid (fun s a h => sym_some (l := l2) (bs := bs) (at_ := a2) (s := s) (at2 := a) HM2.out.1.1 h)
        clear HX
        generalize hsy : sym l2 bs a2 = s2 at *
        rcases s2 with _ | ⟨k, a3⟩
        · have HR : Hid (R = none) := hr3
          clear hr3 hsy HSS
          go_wp2_with fail
          refine HG1.out.mono ?_
          rintro e w6 ⟨ho6, hs6⟩
          obtain ⟨rfl, a6, hs6⟩ := hs6
          have HI6 := Lib.hid (HI5.out.step ho6 hs6)
          have HK := Lib.hid HI6.out.setBad
          obtain ⟨e6', _, _, _, k6', _⟩ := hs6.cel
          clear ho6 hs6 HG1 HI5 e6 k6
          go_wp2
          ((try simp only [Exit.inBlock, Exit.then]); refine bodyPost_ret (results_none rfl _ _ _) rfl ?_)
          exact ⟨rfl, HPN.out _ _ (.ofNone HR.out HK.out)⟩
        obtain ⟨_, hq, hlt2⟩ := HSS.out k a3 rfl
        clear hq hsy HSS
        have HR3 := Lib.hid hr3
        clear hr3
        go_wp2_with fail
        refine HG1.out.mono ?_
        rintro e w6 ⟨ho6, hs6⟩
        obtain ⟨rfl, hs6⟩ := hs6
        have HI6 := Lib.hid (HI5.out.step ho6 hs6)
        obtain ⟨e6', _, _, _, k6', _⟩ := hs6.cel
        have h6 := hs6.nums
        clear ho6 hs6 HG1 HI5 e6 k6
        by_cases hd : k ≤ 29
        case neg =>
          have hdo : doS (k : Int) = (0, 0, 5) := by unfold doS; rw [if_neg (by omega)]
          have HR : Hid (R = none) := by unfold Hid; rw [HR3.out, hdo]; rfl
          have t4 : decide ((29 : Int) < (k : Int)) = true := by simp; omega
          have HK := Lib.hid HI6.out.setBad
          clear hdo hd HR3
          go_wp2
          ((try simp only [Exit.inBlock, Exit.then]); refine bodyPost_ret (results_none rfl _ _ _) rfl ?_)
          exact ⟨rfl, HPN.out _ _ (.ofNone HR.out HK.out)⟩
        have hk30 : k < 30 := by omega
        have t4 : decide ((29 : Int) < (k : Int)) = false := by simp; omega
        have hdo : doS (k : Int) = (M08.distL.getD k 0, dbits k, 0) := by unfold doS; rw [if_pos ⟨by omega, by omega⟩, Int.toNat_natCast]
        have hbl := doS_bound k (by rw [hdo])
        have hr2 := HR3.out
        rw [hdo] at hr2 hbl
        simp only [not_true_eq_false, if_false] at hr2 hbl
        clear hd HR3 hdo
        obtain ⟨len, rfl⟩ : ∃ len, len = s := ⟨_, rfl⟩
        have HTB := Lib.hid (ref08_distances w6.drew)
        have HBB := Lib.hid (fun A => ref08_dbits k A (by omega))
        have hrow := (dist_row w6.drew _ rfl).at (i := k) hk30
        have hbw := box_b w6.drew (.cells (distI.map (Value.int .i64)).toArray 3)
        have hge : M08.distL[k] = M08.distL.getD k 0 := by rw [List.getD_eq_getElem?_getD, List.getElem?_eq_getElem hk30]; rfl
        have HNB := Lib.hid (rst_number_at (show RSt Q w6.drew sp bs keep a3 out2 false from HI6.out.2) hbw (dbits k) (by omega))
        have hgs : w6.drew.heap.size < (w6.drew.alloc (.cells (distI.map (Value.int .i64)).toArray 3)).heap.size := by simp
        obtain ⟨lv, hlv⟩ : ∃ lv, M08.distL.getD k 0 = lv := ⟨_, rfl⟩
        obtain ⟨lb, hlb⟩ : ∃ lb, dbits k = lb := ⟨_, rfl⟩
        rw [hge, hlv] at hrow
        rw [hlv, hlb] at hr2 hbl
        rw [hlb] at HBB HNB
        have hv := nVal_lt bs a3 lb false
        have hlea4 := nAt_le bs a3 lb false h6.1
        have HQ8 : Hid ((nFit bs a3 lb false = false → R = none) ∧ (nFit bs a3 lb false = true → rdN bs lb a3 = some (nVal bs a3 lb false, nAt bs a3 lb false))) := by
          unfold Hid nVal nAt nFit
          rw [hr2]
          unfold rdN
          by_cases hfit : a3 + lb ≤ 8 * bs.length
          · simp [hfit]
          · simp [hfit]
        clear hlv hlb hge
        obtain ⟨b2, hb2⟩ : ∃ b2, nFit bs a3 lb false = b2 := ⟨_, rfl⟩
        rw [hb2] at HNB HQ8
        clear hb2
        generalize nVal bs a3 lb false = nv at *
        generalize nAt bs a3 lb false = a4 at *
        have HR2 := Lib.hid hr2
        clear hr2
        have hp13 : 2 ^ lb ≤ 2 ^ 13 := Nat.pow_le_pow_right (by decide) hbl.1
        have hs1 : 1 ≤ lv := hbl.2.1
        obtain ⟨s, hs⟩ : ∃ s, lv + nv = s := ⟨_, rfl⟩
        have hsb : s ≤ 50000 := by omega
        have hs1s : 1 ≤ s := by omega
        have HS8 := Lib.hid hs
        have qadd : (lv : Int) + (nv : Int) = (s : Int) := by omega
        have qwrap : IntKind.i64.wrap (s : Int) = (s : Int) := IntWalk.i64_in _ (by omega)
        have qwrap2 : IntKind.i64.wrap (k : Int) = (k : Int) := IntWalk.i64_in _ (by omega)
        clear hbl hv hs
        go_wp2_with fail
        obtain ⟨b0, off0, he0, hb0, hc0⟩ := hrow
        simp only [Option.some.injEq, Addr.mk.injEq, and_true] at he0
        obtain ⟨rfl, rfl⟩ := he0
        rw [Nat.zero_add] at hc0
        obtain ⟨W0, hW0⟩ : ∃ W0, W0 = w6.drew := ⟨_, rfl⟩
        have HW0 : Hid (w6.drew = W0) := hW0.symm
        rw [← hW0] at HTB HNB hc0 hgs hb0 hbw
        obtain ⟨W1, hW1⟩ : ∃ W1, W1 = W0.alloc (.cells (distI.map (Value.int .i64)).toArray 3) := ⟨_, rfl⟩
        have HW1 : Hid (W0.alloc (.cells (distI.map (Value.int .i64)).toArray 3) = W1) := hW1.symm
        rw [← hW1] at HNB hc0 hgs hb0 hbw
        obtain ⟨g, hg⟩ : ∃ g, g = W0.heap.size := ⟨_, rfl⟩
        have HG : Hid (Value.slice (some ⟨W0.heap.size, 0, none⟩) 30 30 = .slice (some ⟨g, 0, none⟩) 30 30) := by unfold Hid; rw [hg]
        rw [← hg] at hc0 hgs hb0 HNB
        have HC1 := Lib.hid hc0
        obtain ⟨KK, hKK⟩ : ∃ KK : World → Prop, KK = fun A => (∀ b, g ≤ b → b < W1.heap.size → A.heap[b]? = W1.heap[b]?) ∧ Only Q W0 A ∧ RSt Q A sp bs keep a4 out2 (!b2) := ⟨_, rfl⟩
        have HKK := Lib.hid (fun A => (show KK A = ((∀ b, g ≤ b → b < W1.heap.size → A.heap[b]? = W1.heap[b]?) ∧ Only Q W0 A ∧ RSt Q A sp bs keep a4 out2 (!b2)) from by rw [hKK]))
        have HNB2 : Hid (Calls Try.prog 68 #[.pointer (some ⟨sp, 0, none⟩), .int .i64 (lb : Nat)] W1 fun e A => e = .returned (.int .i64 (nv : Nat)) ∧ KK A) := HNB.out.mono fun e A h => ⟨h.1, by rw [HKK.out]; exact h.2⟩
        have HC2 := Lib.hid (fun A (h : KK A) => (show A.cell? ⟨g, k, none⟩ = some (.int .i64 (lv : Nat)) from by rw [HKK.out] at h; exact (World.cell?_of_block (a := ⟨g, k, none⟩) (h.1 g (Nat.le_refl _) hgs)).trans HC1.out))
        replace HNB := HNB2
        clear HNB2 hc0 hgs hb0 hg hW0 hW1 hKK hbw
        refine wp_region_flowL [72, 73, 74, 75, 76, 77, 78, 79, 80, 13] (fun j => j == 9) (fun listed w1 => Ph W0 W1 KK (listed.getD 0 false) (listed.getD 7 false) w1) (fun j v _ => match j with | 0 => v = .slice (some ⟨g, 0, none⟩) 30 30 | 1 => v = .int .i64 (k : Nat) | 2 => v = .pointer (some ⟨g, k, none⟩) | 3 => v = .int .i64 (lv : Nat) | 4 => v = .pointer (some ⟨sp, 0, none⟩) | 5 => v = .int .i64 (k : Nat) | 6 => v = .int .i64 (lb : Nat) | 7 => v = .int .i64 (nv : Nat) | 8 => v = .int .i64 (s : Nat) | 9 => v = .int .i64 (s : Nat) | _ => True) (fun _ _ _ _ => True) (by kernel_rfl) (by kernel_rfl) (OneEach.mk' (by kernel_rfl) (by kernel_rfl)) (by kernel_rfl) (by kernel_rfl) (by exact HW0.out) ?_ ?_
        · intro i0 o hi0 listed a1 w1 hR hil hunf hdes hanc hout hdep
          have hsz : i0 < 10 := (Array.getElem?_eq_some_iff.1 hi0).1
          have hall : i0 = 0 ∨ i0 = 1 ∨ i0 = 2 ∨ i0 = 3 ∨ i0 = 4 ∨ i0 = 5 ∨ i0 = 6 ∨ i0 = 7 ∨ i0 = 8 ∨ i0 = 9 := by omega
          clear hsz
          rcases hall with rfl | rfl | rfl | rfl | rfl | rfl | rfl | rfl | rfl | rfl <;> simp only [List.getElem?_toArray, List.getElem?_cons_zero, List.getElem?_cons_succ, Option.some.injEq] at hi0 <;> subst hi0
          · rw [hunf, hdes 7 (by kernel_rfl)] at hR
            obtain rfl : w1 = W0 := hR
            refine stepTo_call (f := 81) (args := #[]) (by simp [go_sem]) ((HTB.out).mono ?_)
            rintro e w9 ⟨rfl, rfl⟩
            refine ⟨_, rfl, _, rfl, ?_, fun j u hu hV _ => ⟨hV, trivial, trivial⟩, HG.out⟩
            rw [set_getD_same hil, getD_set_ne2 (by decide), hdes 7 (by kernel_rfl)]
            exact HW1.out
          · have f12 : a1.eval (.tmp 12) = .int .i64 (k : Nat) := hout 12 (by decide)
            refine stepTo_val (v := .int .i64 (k : Nat)) (w' := w1) (by simp [execOp, f12]) ⟨_, rfl, ?_, fun j u hu hV _ => ⟨hV, trivial, trivial⟩, rfl⟩
            rw [getD_set_ne2 (by decide), getD_set_ne2 (by decide)]; exact hR
          · have e72 : a1.eval (.tmp 72) = .slice (some ⟨g, 0, none⟩) 30 30 := hdep ⟨0, .data⟩ (by simp) rfl _ rfl
            have e73 : a1.eval (.tmp 73) = .int .i64 (k : Nat) := hdep ⟨1, .data⟩ (by simp) rfl _ rfl
            refine stepTo_val (v := .pointer (some ⟨g, k, none⟩)) (w' := w1) (by simp [execOp, e72, e73, ixI g k 30 30 hk30]) ⟨_, rfl, ?_, fun j u hu hV _ => ⟨hV, trivial, trivial⟩, rfl⟩
            rw [getD_set_ne2 (by decide), getD_set_ne2 (by decide)]; exact hR
          · have e74 : a1.eval (.tmp 74) = .pointer (some ⟨g, k, none⟩) := hdep ⟨2, .data⟩ (by simp) rfl _ rfl
            have hc := Ph.cell (hanc 0 (by kernel_rfl)) hR HC1.out HC2.out
            refine stepTo_val (v := .int .i64 (lv : Nat)) (w' := w1) (by simp [execOp, e74, ldInt _ _ _ hc]) ⟨_, rfl, ?_, fun j u hu hV _ => ⟨hV, trivial, trivial⟩, rfl⟩
            rw [getD_set_ne2 (by decide), getD_set_ne2 (by decide)]; exact hR
          · have f0 : a1.eval (.tmp 0) = .pointer (some ⟨sp, 0, none⟩) := hout 0 (by decide)
            refine stepTo_val (v := .pointer (some ⟨sp, 0, none⟩)) (w' := w1) (by simp [execOp, f0]) ⟨_, rfl, ?_, fun j u hu hV _ => ⟨hV, trivial, trivial⟩, rfl⟩
            rw [getD_set_ne2 (by decide), getD_set_ne2 (by decide)]; exact hR
          · have f12 : a1.eval (.tmp 12) = .int .i64 (k : Nat) := hout 12 (by decide)
            refine stepTo_val (v := .int .i64 (k : Nat)) (w' := w1) (by simp [execOp, f12]) ⟨_, rfl, ?_, fun j u hu hV _ => ⟨hV, trivial, trivial⟩, rfl⟩
            rw [getD_set_ne2 (by decide), getD_set_ne2 (by decide)]; exact hR
          · have e77 : a1.eval (.tmp 77) = .int .i64 (k : Nat) := hdep ⟨5, .data⟩ (by simp) rfl _ rfl
            have x77 : a1.tmps[77]?.getD undef = .int .i64 (k : Nat) := by simpa [Act.eval] using e77
            refine stepTo_call (f := 32) (args := #[.int .i64 (k : Nat)]) (by simp [x77, go_sem]) ((HBB.out w1).mono ?_)
            rintro e w9 ⟨rfl, rfl⟩
            refine ⟨_, rfl, _, rfl, ?_, fun j u hu hV _ => ⟨hV, trivial, trivial⟩, rfl⟩
            rw [getD_set_ne2 (by decide), getD_set_ne2 (by decide)]; exact hR
          · have e76 : a1.eval (.tmp 76) = .pointer (some ⟨sp, 0, none⟩) := hdep ⟨4, .data⟩ (by simp) rfl _ rfl
            have x76 : a1.tmps[76]?.getD undef = .pointer (some ⟨sp, 0, none⟩) := by simpa [Act.eval] using e76
            have e78 : a1.eval (.tmp 78) = .int .i64 (lb : Nat) := hdep ⟨6, .data⟩ (by simp) rfl _ rfl
            have x78 : a1.tmps[78]?.getD undef = .int .i64 (lb : Nat) := by simpa [Act.eval] using e78
            rw [hanc 0 (by kernel_rfl), hunf] at hR
            obtain rfl : w1 = W1 := hR
            refine stepTo_call (f := 68) (args := #[.pointer (some ⟨sp, 0, none⟩), .int .i64 (lb : Nat)]) (by simp [x76, x78, go_sem]) ((HNB.out).mono ?_)
            rintro e w9 ⟨rfl, hk⟩
            refine ⟨_, rfl, _, rfl, ?_, fun j u hu hV _ => ⟨hV, trivial, trivial⟩, rfl⟩
            rw [set_getD_same hil, getD_set_ne2 (by decide), hanc 0 (by kernel_rfl)]
            exact hk
          · have e75 : a1.eval (.tmp 75) = .int .i64 (lv : Nat) := hdep ⟨3, .data⟩ (by simp) rfl _ rfl
            have e79 : a1.eval (.tmp 79) = .int .i64 (nv : Nat) := hdep ⟨7, .data⟩ (by simp) rfl _ rfl
            refine stepTo_val (v := .int .i64 (s : Nat)) (w' := w1) (by simp [execOp, e75, e79, eqgA, addI, qadd, qwrap]) ⟨_, rfl, ?_, fun j u hu hV _ => ⟨hV, trivial, trivial⟩, rfl⟩
            rw [getD_set_ne2 (by decide), getD_set_ne2 (by decide)]; exact hR
          · have e80 : a1.eval (.tmp 80) = .int .i64 (s : Nat) := hdep ⟨8, .data⟩ (by simp) rfl _ rfl
            refine stepTo_val (v := .int .i64 (s : Nat)) (w' := w1) (by simp [execOp, e80]) ⟨_, rfl, ?_, fun j u hu hV _ => ⟨hV, trivial, trivial⟩, rfl⟩
            rw [getD_set_ne2 (by decide), getD_set_ne2 (by decide)]; exact hR
        · intro listed fv w1 hR hall hV
          rw [hall 0 (by decide), hall 7 (by decide)] at hR
          have v9 : fv 13 = .int .i64 (s : Nat) := hV 9 _ rfl rfl
          simp only [spread, List.contains_cons, List.contains_nil, Nat.reduceBEq, Bool.or_false, Bool.or_true, cond_true, cond_false, Nat.reduceAdd, Nat.zero_add, v9]
          have hk := hR
          change KK w1 at hk
          rw [HKK.out] at hk
          obtain ⟨_, ho7, hs7⟩ := hk
          have HI7 := Lib.hid (HI6.out.step ((show Only Q w6 W0 from HW0.out ▸ (Only.refl Q w6).drew).trans ho7) hs7)
          obtain ⟨e6, _, e5, _, k6, _⟩ := hs7.cel
          have h7 := hs7.nums
          clear HTB HBB HNB HC1 HC2 HKK HW0 HW1 HG qadd qwrap qwrap2 ho7 hs7 hall hV v9 HI6 hk30 e6' k6'
          cases b2 with
          | false =>
            have HR : Hid (R = none) := HQ8.out.1 rfl
            have HK := Lib.hid HI7.out.setBad
            simp only [Bool.not_false] at e6
            clear HQ8 HR2 HS8
            go_wp2
            ((try simp only [Exit.inBlock, Exit.then]); refine bodyPost_ret (results_none rfl _ _ _) rfl ?_)
            exact ⟨rfl, HPN.out _ _ (.ofNone HR.out HK.out)⟩
          | true =>
            have hr4 := HR2.out
            rw [HQ8.out.2 rfl] at hr4
            simp only [HS8.out] at hr4
            simp only [Bool.not_true] at e6
            clear HQ8 HR2 HS8
            by_cases hfo : out2.length < s
            · have HR : Hid (R = none) := by unfold Hid; rw [hr4, if_pos hfo]
              have t5 : decide (out2.length < s) = true := by simpa using hfo
              have t6 : decide ((out2.length : Int) < (s : Int)) = true := by simp; omega
              have HK := Lib.hid HI7.out.setBad
              clear hr4 hfo
              go_wp2
              ((try simp only [Exit.inBlock, Exit.then]); refine bodyPost_ret (results_none rfl _ _ _) rfl ?_)
              exact ⟨rfl, HPN.out _ _ (.ofNone HR.out HK.out)⟩
            have HR : Hid (R = symsL l1 l2 bs f a4 (repOut s out2 len)) := by unfold Hid; rw [hr4, if_neg hfo]
            have t5 : decide (out2.length < s) = false := by simpa using hfo
            have t6 : decide ((out2.length : Int) < (s : Int)) = false := by simp; omega
            have hfo2 : s ≤ out2.length := by omega
            clear hr4 hfo
            go_wp2_with fail
            clear t5 t6 e6 e5 k6
            go_loopw [14, 15] (fun i _ A => ∃ j : Nat, j ≤ len ∧ i = .int .i64 (j : Nat) ∧ InR Q w2 sp bs keep A a4 (repOut s out2 j) false) (fun i _ _ => len - (intOf i).toNat)
            case atStart => exact ⟨0, by omega, by trivial, HI7.out⟩
            case round =>
              clear HI7
              obtain ⟨j, hj, rfl, hin⟩ := hrel
              have HLJ := repOut_len s out2 j
              have HRJ := Lib.hid (show repOut s out2 (j + 1) = repOut s out2 j ++ [(repOut s out2 j).getD ((repOut s out2 j).length - s) 0] from rfl)
              have HRE := Lib.hid (fun (h : j = len) => (show R = symsL l1 l2 bs f a4 (repOut s out2 j) from by rw [h]; exact HR.out))
              generalize repOut s out2 j = o at *
              have hnj := hin.2.nums
              by_cases hlt : j < len
              · have HIN := Lib.hid hin
                obtain ⟨ra, rc, ba, bc, oa, oc, q1, q2, _⟩ := hin.2
                obtain ⟨⟨c0, c1, c2, c3, c4, c5, c6⟩, _⟩ := seven_cells q1
                have hb3 : o.length + 1 ≤ 3000000 := by omega
                by_cases hk : o.length < keep
                · have t6 : decide (o.length < keep) = true := by simp; omega
                  have htk : o.take keep = o := List.take_of_length_le (by omega)
                  rw [htk] at c3 q2
                  have hil : o.length - s < o.length := by omega
                  obtain ⟨bl, off, rfl, hblw, hck⟩ := q2.row.at hil
                  have hgd : o.getD (o.length - s) 0 = o[o.length - s] := by simp [hil]
                  have qs : (o.length : Int) - (s : Int) = ((o.length - s : Nat) : Int) := by omega
                  rw [hgd] at HRJ
                  have HLEN := Lib.hid HLJ
                  have HK := Lib.hid hk
                  clear hin q1 q2 hgd htk HLJ hk HRE HR c0 c1 c2 c6
                  generalize o[o.length - s] = c at *
                  generalize hidx : o.length - s = ix at *
                  clear hidx
                  generalize (bitL bs).length = L at *
                  go_wp2_with fail
                  go_quiet (fail)
                  go_wp2_with fail
                  have c3' : (wr.drewN nq).cell? ⟨sp, 3, none⟩ = _ := c3
                  have c5' : (wr.drewN nq).cell? ⟨sp, 5, none⟩ = _ := c5
                  have hck' : (wr.drewN nq).cell? ⟨bl, off + ix, none⟩ = _ := hck
                  have HI8 := Lib.hid (HIN.out.drewN nq)
                  clear HIN c3 c4 c5 hck t6
                  generalize wr.drewN nq = A at *
                  have HP := Lib.hid (fun q => rst_put (HI8.out.2.drewN q) c hb3)
                  go_quiet (fail)
                  go_wp2_with fail
                  refine (HP.out _).mono ?_
                  rintro e w8 ⟨rfl, ho8, hs8⟩
                  have HI9 := Lib.hid ((HI8.out.drewN _).step ho8 hs8)
                  clear HP HI8 ho8 hs8
                  go_wp2
                  go_roundw
                  case rel => exact ⟨j + 1, by omega, by go_num, by rw [HRJ.out]; exact HI9.out⟩
                  case measure => simp [intOf]; omega
                · have t6 : decide (o.length < keep) = false := by simp; omega
                  have HK := Lib.hid hk
                  have HP := Lib.hid (fun q => rst_put (HIN.out.2.drewN q) 0 hb3)
                  clear hin q1 q2 hk HRE HR c0 c1 c2 c3 c6 HLJ
                  generalize (bitL bs).length = L at *
                  go_wp2_with fail
                  go_quiet (fail)
                  go_wp2_with fail
                  refine (HP.out _).mono ?_
                  rintro e w8 ⟨rfl, ho8, hs8⟩
                  have HI9 := Lib.hid ((HIN.out.drewN _).step ho8 (hs8.swap (o.getD (o.length - s) 0) (by have := HK.out; omega)))
                  clear HP HIN ho8 hs8
                  go_wp2
                  go_roundw
                  case rel => exact ⟨j + 1, by omega, by go_num, by rw [HRJ.out]; exact HI9.out⟩
                  case measure => simp [intOf]; omega
              · obtain rfl : j = len := by omega
                have HIN := Lib.hid hin
                have HR9 := Lib.hid (HRE.out rfl)
                clear hin HRE HR HRJ
                go_wp2
                go_roundw
                case rel => exact ⟨f, a4, o, HIN.out, by omega, by have := HF.out; omega, HR9.out⟩
                case measure => rw [HRA.out, rAt_eq HIN.out.2]; omega
end Go.Proofs.Ytlofoocgiomfbaa
