/- The reference of layer 10: a stream: number, symbol, put: contracts. The reference of layer 10: a stream: put, stored: contracts. The reference of layer 10: a stream: stored: contract. -/
import Derived.Test.YtlofoocgiomfbaaR9G
import Derived.Test.YtlofoocgiomfbaaMid
namespace Go.Proofs.Ytlofoocgiomfbaa
open Go.RowKit Go.Shelf M01 M04 M07 M09 M10
set_option linter.unusedVariables false

/-- a stream of the reference: P holds of the blocks that it may write -/
def RSt (P : Nat → Prop) (w : World) (sp : Nat) (bs : List Nat) (keep at_ : Nat) (out : List Nat) (bad : Bool) : Prop :=
  ∃ ra rc ba bc oa oc, w.heap[sp]? = some (.cells #[.slice ra (bitL bs).length rc, .slice ba (bitL bs).length bc, .int .i64 (at_ : Nat), .slice oa (out.take keep).length oc, .int .i64 (keep : Nat), .int .i64 (out.length : Nat), .bool bad] 88 (0, 0)) ∧
    OwnN 5 .u8 w 0 oa oc (out.take keep) ∧ (RowB w ra rc (bitL bs) ∧ (∀ x, ra = some x → x.block < sp)) ∧ (RowN .u8 w ba bc (bitL bs) ∧ (∀ x, ba = some x → x.block < sp)) ∧
    P sp ∧ (∀ g, oa = some ⟨g, 0, none⟩ → P g ∧ sp < g) ∧ (∀ b, w.heap.size ≤ b → P b) ∧ (∀ b, P b → sp ≤ b) ∧
    at_ ≤ 8 * bs.length ∧ keep ≤ 3000 ∧ bs.length ≤ 1000 ∧ out.length ≤ 3000000
section
variable {P : Nat → Prop} {w w' : World} {sp keep at_ : Nat} {bs out : List Nat} {bad : Bool}
theorem RSt.lt (h : RSt P w sp bs keep at_ out bad) : sp < w.heap.size := by
  obtain ⟨ra, rc, ba, bc, oa, oc, h1, _⟩ := h
  exact (Array.getElem?_eq_some_iff.1 h1).1
theorem RSt.nums (h : RSt P w sp bs keep at_ out bad) : at_ ≤ 8 * bs.length ∧ keep ≤ 3000 ∧ bs.length ≤ 1000 ∧ out.length ≤ 3000000 := by
  obtain ⟨ra, rc, ba, bc, oa, oc, _, _, _, _, _, _, _, _, h⟩ := h
  exact h
theorem seven_cells {w : World} {b : Nat} {x0 x1 x2 x3 x4 x5 x6 : Value} {t : TypeId} (h : w.heap[b]? = some (.cells #[x0, x1, x2, x3, x4, x5, x6] t (0, 0))) :
    (w.cell? ⟨b, 0, none⟩ = some x0 ∧ w.cell? ⟨b, 1, none⟩ = some x1 ∧ w.cell? ⟨b, 2, none⟩ = some x2 ∧ w.cell? ⟨b, 3, none⟩ = some x3 ∧ w.cell? ⟨b, 4, none⟩ = some x4 ∧ w.cell? ⟨b, 5, none⟩ = some x5 ∧ w.cell? ⟨b, 6, none⟩ = some x6) ∧
    (w.frozen? ⟨b, 2, none⟩ = false ∧ w.frozen? ⟨b, 3, none⟩ = false ∧ w.frozen? ⟨b, 5, none⟩ = false ∧ w.frozen? ⟨b, 6, none⟩ = false) := by
  simp [World.cell?, World.frozen?, h]
theorem seven_set {w : World} {b : Nat} {x0 x1 x2 x3 x4 x5 x6 v : Value} {t : TypeId} (h : w.heap[b]? = some (.cells #[x0, x1, x2, x3, x4, x5, x6] t (0, 0))) :
    (w.setCell ⟨b, 2, none⟩ v).heap[b]? = some (.cells #[x0, x1, v, x3, x4, x5, x6] t (0, 0)) ∧ (w.setCell ⟨b, 3, none⟩ v).heap[b]? = some (.cells #[x0, x1, x2, v, x4, x5, x6] t (0, 0)) ∧
    (w.setCell ⟨b, 5, none⟩ v).heap[b]? = some (.cells #[x0, x1, x2, x3, x4, v, x6] t (0, 0)) ∧ (w.setCell ⟨b, 6, none⟩ v).heap[b]? = some (.cells #[x0, x1, x2, x3, x4, x5, v] t (0, 0)) := by
  refine ⟨?_, ?_, ?_, ?_⟩
  all_goals
    show (w.heap.modify b _)[b]? = _
    rw [Array.getElem?_modify, if_pos rfl, h]; rfl
theorem RSt.cel (h : RSt P w sp bs keep at_ out bad) : w.cell? ⟨sp, 6, none⟩ = some (.bool bad) ∧ w.cell? ⟨sp, 2, none⟩ = some (.int .i64 (at_ : Nat)) ∧ w.cell? ⟨sp, 5, none⟩ = some (.int .i64 (out.length : Nat)) ∧ w.cell? ⟨sp, 4, none⟩ = some (.int .i64 (keep : Nat)) ∧ w.frozen? ⟨sp, 6, none⟩ = false ∧ w.frozen? ⟨sp, 2, none⟩ = false := by
  obtain ⟨ra, rc, ba, bc, oa, oc, h1, _⟩ := h
  obtain ⟨⟨c0, c1, c2, c3, c4, c5, c6⟩, d2, d3, d5, d6⟩ := seven_cells h1
  exact ⟨c6, c2, c5, c4, d6, d2⟩
theorem only_sp (hP : P sp) (w : World) (i : Nat) (v : Value) : Only P w (w.setCell ⟨sp, i, none⟩ v) := (Only.refl P w).setCell (.inl hP) _
theorem RSt.setAt (h : RSt P w sp bs keep at_ out bad) (at2 : Nat) (ha : at2 ≤ 8 * bs.length) : Only P w (w.setCell ⟨sp, 2, none⟩ (.int .i64 (at2 : Nat))) ∧ RSt P (w.setCell ⟨sp, 2, none⟩ (.int .i64 (at2 : Nat))) sp bs keep at2 out bad := by
  have hlt := h.lt
  obtain ⟨ra, rc, ba, bc, oa, oc, h1, h2, ⟨h3, h3'⟩, ⟨h4, h4'⟩, h5, h6, h7, h8, h9, h10, h11, h12⟩ := h
  have ho := (Only.refl (fun b => b = sp) w).setCell (p := ⟨sp, 2, none⟩) (.inl rfl) (.int .i64 (at2 : Nat))
  refine ⟨only_sp h5 _ _ _, ra, rc, ba, bc, oa, oc, (seven_set h1).1, h2.other (fun g e => by have := (h6 g e).2; show sp ≠ g; omega) _, ⟨h3.same ho.size (fun x _ hx => ho.block _ (by have := h3' x hx; omega) (by have := h3' x hx; omega)), h3'⟩, ⟨h4.same ho.size (fun x _ hx => ho.block _ (by have := h4' x hx; omega) (by have := h4' x hx; omega)), h4'⟩, h5, h6, fun b hb => h7 b (Nat.le_trans ho.size hb), h8, ha, h10, h11, h12⟩
theorem RSt.setBad (h : RSt P w sp bs keep at_ out bad) (bad2 : Bool) : Only P w (w.setCell ⟨sp, 6, none⟩ (.bool bad2)) ∧ RSt P (w.setCell ⟨sp, 6, none⟩ (.bool bad2)) sp bs keep at_ out bad2 := by
  have hlt := h.lt
  obtain ⟨ra, rc, ba, bc, oa, oc, h1, h2, ⟨h3, h3'⟩, ⟨h4, h4'⟩, h5, h6, h7, h8, h9, h10, h11, h12⟩ := h
  have ho := (Only.refl (fun b => b = sp) w).setCell (p := ⟨sp, 6, none⟩) (.inl rfl) (.bool bad2)
  refine ⟨only_sp h5 _ _ _, ra, rc, ba, bc, oa, oc, (seven_set h1).2.2.2, h2.other (fun g e => by have := (h6 g e).2; show sp ≠ g; omega) _, ⟨h3.same ho.size (fun x _ hx => ho.block _ (by have := h3' x hx; omega) (by have := h3' x hx; omega)), h3'⟩, ⟨h4.same ho.size (fun x _ hx => ho.block _ (by have := h4' x hx; omega) (by have := h4' x hx; omega)), h4'⟩, h5, h6, fun b hb => h7 b (Nat.le_trans ho.size hb), h8, h9, h10, h11, h12⟩
theorem RSt.below (h : RSt P w sp bs keep at_ out bad) (hb : Below w.heap.size w w') : RSt P w' sp bs keep at_ out bad := by
  have hlt := h.lt
  obtain ⟨ra, rc, ba, bc, oa, oc, h1, h2, ⟨h3, h3'⟩, ⟨h4, h4'⟩, h5, h6, h7, h8, h9⟩ := h
  exact ⟨ra, rc, ba, bc, oa, oc, (hb.block sp hlt).trans h1, h2.below hb, ⟨h3.below hb, h3'⟩, ⟨h4.below hb, h4'⟩, h5, h6, fun b hb' => h7 b (Nat.le_trans hb.size hb'), h8, h9⟩
theorem RSt.drewN (h : RSt P w sp bs keep at_ out bad) (q : Nat) : RSt P (w.drewN q) sp bs keep at_ out bad := h

set_option maxRecDepth 100000 in
set_option maxHeartbeats 800000 in
theorem rst_number_ok (h : RSt P w sp bs keep at_ out false) (n : Nat) (hn : n ≤ 32) (hle : at_ + n ≤ 8 * bs.length) :
    Calls Try.prog 68 #[.pointer (some ⟨sp, 0, none⟩), .int .i64 (n : Nat)] w fun e w' => e = .returned (.int .i64 (num bs at_ n : Nat)) ∧ Only P w w' ∧ RSt P w' sp bs keep (at_ + n) out false := by
  have HS := Lib.hid (fun q => (h.drewN q).setAt (at_ + n) hle)
  have hnl : num bs at_ n < 4294967296 := Nat.lt_of_lt_of_le (num_lt bs at_ n) (Nat.le_trans (Nat.pow_le_pow_right (by decide) hn) (by decide))
  obtain ⟨ra, rc, ba, bc, oa, oc, h1, h2, ⟨h3, _⟩, _, _, _, _, _, h9, h10, h11, h12⟩ := h
  obtain ⟨⟨c0, c1, c2, c3, c4, c5, c6⟩, d2, d3, d5, d6⟩ := seven_cells h1
  have HG := Lib.hid (fun q => ref01_fit (show RowB (w.drewN q) ra rc (bitL bs) from h3) h11 hle hn)
  clear h1 h2 h3 hle
  generalize num bs at_ n = v at *
  obtain ⟨a2, ha2⟩ : ∃ a2, at_ + n = a2 := ⟨_, rfl⟩
  rw [ha2] at HG HS ⊢
  clear ha2
  generalize (bitL bs).length = L at *
  go_enter Try.func68, Try.ntmps68
  go_wp2_with fail
  go_quiet ((go_at_call 98; exact Calls.quiet_of_same (HG.out _)))
  go_wp2_with fail
  go_ret
  exact ⟨rfl, (only_drewN _ _ _).trans (HS.out _).1, (HS.out _).2⟩
set_option maxRecDepth 100000 in
set_option maxHeartbeats 800000 in
theorem rst_number_no (h : RSt P w sp bs keep at_ out bad) (n : Nat) (hn : n ≤ 32) (hle : bad = true ∨ ¬ at_ + n ≤ 8 * bs.length) :
    Calls Try.prog 68 #[.pointer (some ⟨sp, 0, none⟩), .int .i64 (n : Nat)] w fun e w' => e = .returned (.int .i64 0) ∧ Only P w w' ∧ RSt P w' sp bs keep at_ out true := by
  have HS := Lib.hid (fun q => (h.drewN q).setBad true)
  obtain ⟨ra, rc, ba, bc, oa, oc, h1, h2, ⟨h3, _⟩, _, _, _, _, _, h9, h10, h11, h12⟩ := h
  obtain ⟨⟨c0, c1, c2, c3, c4, c5, c6⟩, d2, d3, d5, d6⟩ := seven_cells h1
  by_cases hf : at_ + n ≤ 8 * bs.length
  · obtain rfl : bad = true := by rcases hle with h | h; exact h; exact absurd hf h
    have HG := Lib.hid (fun q => ref01_fit (show RowB (w.drewN q) ra rc (bitL bs) from h3) h11 hf hn)
    clear h1 h2 h3 hle hf
    generalize num bs at_ n = v at *
    generalize at_ + n = a2 at *
    generalize (bitL bs).length = L at *
    go_enter Try.func68, Try.ntmps68
    go_wp2_with fail
    go_quiet ((go_at_call 98; exact Calls.quiet_of_same (HG.out _)))
    go_wp2_with fail
    go_ret
    exact ⟨rfl, (only_drewN _ _ _).trans (HS.out _).1, (HS.out _).2⟩
  · have HG := Lib.hid (fun q => ref01_not (show RowB (w.drewN q) ra rc (bitL bs) from h3) h11 h9 hf hn)
    clear h1 h2 h3 hle hf
    generalize (bitL bs).length = L at *
    go_enter Try.func68, Try.ntmps68
    go_wp2_with fail
    go_quiet ((go_at_call 98; exact Calls.quiet_of_same (HG.out _)))
    go_wp2_with fail
    go_ret
    exact ⟨rfl, (only_drewN _ _ _).trans (HS.out _).1, (HS.out _).2⟩
/-- what a symbol's reading leaves -/
def RSym (P : Nat → Prop) (sp : Nat) (bs : List Nat) (keep : Nat) (out : List Nat) (R : Option (Nat × Nat)) (w : World) (e : Ending) (w' : World) : Prop :=
  Only P w w' ∧ match R with
  | some (s, a) => e = .returned (.int .i64 (s : Nat)) ∧ RSt P w' sp bs keep a out false
  | none => e = .returned (.int .i64 0) ∧ ∃ a, RSt P w' sp bs keep a out true
set_option maxRecDepth 100000 in
set_option maxHeartbeats 800000 in
theorem rst_symbol_bad (h : RSt P w sp bs keep at_ out true) (v : Value) :
    Calls Try.prog 101 #[.pointer (some ⟨sp, 0, none⟩), v] w fun e w' => e = .returned (.int .i64 0) ∧ w' = w := by
  obtain ⟨c6, _⟩ := h.cel
  clear h
  go_enter Try.func101, Try.ntmps101
  go_wp2_with fail
  go_ret
  exact ⟨rfl, rfl⟩
set_option maxRecDepth 100000 in
set_option maxHeartbeats 800000 in
theorem rst_symbol (h : RSt P w sp bs keep at_ out false) (g : Option Addr) (gc : Nat) (l : List Nat) (es : Es) (hr : RowS encSl w g gc es) (hro : RowsTo w l l.length es) (hm : M04.May l) (hw : weight l ≤ 2 ^ 20) (h0 : 0 < bs.length) :
    Calls Try.prog 101 #[.pointer (some ⟨sp, 0, none⟩), .slice g l.length gc] w fun e w' => RSym P sp bs keep out (sym l bs at_) w e w' := by
  have H := Lib.hid h
  have hss := Lib.hid (fun s a (h : sym l bs at_ = some (s, a)) => (decF_loc (d := 0) (bs' := bs) _ _ _ _ _ _ h).2.1)
  obtain ⟨ra, rc, ba, bc, oa, oc, h1, h2, _, ⟨h3, _⟩, _, _, _, _, h9, h10, h11, h12⟩ := h
  obtain ⟨⟨c0, c1, c2, c3, c4, c5, c6⟩, d2, d3, d5, d6⟩ := seven_cells h1
  have HG := Lib.hid (ref06_get g ba gc bc l bs es at_ w.drew (show RowS encSl w.drew g gc es from hr) (show RowsTo w.drew l l.length es from hro) hm hw (show RowN .u8 w.drew ba bc (bitL bs) from h3) h11 h0 h9)
  clear h1 h2 h3 hr hro hm
  generalize (bitL bs).length = L at *
  generalize l.length = ll at *
  generalize sym l bs at_ = S at *
  go_enter Try.func101, Try.ntmps101
  go_wp2_with fail
  refine wp_region_still_mid 9 _ rfl (by kernel_rfl) (by kernel_rfl) ?_
  simp only [List.take_succ_cons, List.take_zero, List.drop_succ_cons, List.drop_zero]
  repeat still_step
  refine wpStill_nil ?_
  go_wp2_with fail
  refine HG.out.mono ?_
  rintro e w1 ⟨ho, hb⟩
  have HB := Lib.hid (show Below w.heap.size w w1 from ⟨hb.os, hb.tape, hb.output, hb.size, hb.block⟩)
  have HS := Lib.hid (H.out.below HB.out)
  obtain ⟨e6, e2, _, _, k6, k2⟩ := HS.out.cel
  clear H HG c0 c1 c2 c3 c4 c5 c6 d2 d3 d5 d6
  rcases S with _ | ⟨s, a⟩
  · obtain ⟨m, hm1, hm2, rfl⟩ := ho
    have HK := Lib.hid (HS.out.setAt m hm2)
    have HK2 := Lib.hid (HK.out.2.setBad true)
    clear HS hb
    go_wp2_with fail
    repeat still_step
    refine wpStill_nil ?_
    go_wp2_with fail
    go_ret
    exact ⟨((Only.ofBelow HB.out).trans HK.out.1).trans HK2.out.1, rfl, m, HK2.out.2⟩
  · obtain rfl : e = _ := ho
    have HK := Lib.hid (HS.out.setAt a (hss.out s a rfl h9))
    clear HS hb
    go_wp2_with fail
    repeat still_step
    refine wpStill_nil ?_
    go_wp2_with fail
    go_ret
    exact ⟨(Only.ofBelow HB.out).trans HK.out.1, rfl, HK.out.2⟩
end
end Go.Proofs.Ytlofoocgiomfbaa

namespace Go.Proofs.Ytlofoocgiomfbaa
open Go.RowKit Go.Shelf M01 M04 M07 M09 M10
set_option linter.unusedVariables false
section
variable {P : Nat → Prop} {w w' w2 : World} {sp keep at_ : Nat} {bs out : List Nat} {bad : Bool}

theorem rst_put_end {ra rc ba bc oa oc a' c' L} (c : Nat)
    (h1 : w.heap[sp]? = some (.cells #[.slice ra L rc, .slice ba L bc, .int .i64 (at_ : Nat), .slice oa out.length oc, .int .i64 (keep : Nat), .int .i64 (out.length : Nat), .bool bad] 88 (0, 0)))
    (hL : L = (bitL bs).length) (h2 : OwnN 5 .u8 w 0 oa oc out) (h3 : RowB w ra rc (bitL bs) ∧ (∀ x, ra = some x → x.block < sp)) (h4 : RowN .u8 w ba bc (bitL bs) ∧ (∀ x, ba = some x → x.block < sp))
    (h5 : P sp) (h6 : ∀ g, oa = some ⟨g, 0, none⟩ → P g ∧ sp < g) (h7 : ∀ b, w.heap.size ≤ b → P b) (h8 : ∀ b, P b → sp ≤ b)
    (hn : at_ ≤ 8 * bs.length ∧ keep ≤ 3000 ∧ bs.length ≤ 1000) (hk : out.length < keep) (hl : out.length + 1 ≤ 3000000)
    (hown : OwnN 5 .u8 w2 0 a' c' (out ++ [c])) (hg : w.grownBy w2 (Value.slice oa out.length oc).ownBlock)
    (hnew : ∀ g, a' = some ⟨g, 0, none⟩ → oa = some ⟨g, 0, none⟩ ∨ w.heap.size ≤ g) :
    Only P w ((w2.setCell ⟨sp, 3, none⟩ (.slice a' (out.length + 1) c')).setCell ⟨sp, 5, none⟩ (.int .i64 ((out.length : Int) + 1))) ∧ RSt P ((w2.setCell ⟨sp, 3, none⟩ (.slice a' (out.length + 1) c')).setCell ⟨sp, 5, none⟩ (.int .i64 ((out.length : Int) + 1))) sp bs keep at_ (out ++ [c]) bad := by
  subst hL
  have hlt : sp < w.heap.size := (Array.getElem?_eq_some_iff.1 h1).1
  have hX : w2.heap[sp]? = _ := (hg.block sp hlt (own_ne h2 (fun g e => (h6 g e).2) sp (Nat.le_refl _))).trans h1
  have ho2 : Only P w w2 := (Only.refl P w).grown hg (fun r hr => by
    rcases h2.form with ⟨rfl, _, _⟩ | ⟨g, rfl, _⟩
    · simp [Value.ownBlock] at hr
    · simp [Value.ownBlock] at hr
      subst hr
      exact .inl (h6 _ rfl).1)
  have hO : Only P w ((w2.setCell ⟨sp, 3, none⟩ (.slice a' (out.length + 1) c')).setCell ⟨sp, 5, none⟩ (.int .i64 ((out.length : Int) + 1))) := (ho2.setCell (.inl h5) _).setCell (.inl h5) _
  have hbk : ∀ b, b < sp → ((w2.setCell ⟨sp, 3, none⟩ (.slice a' (out.length + 1) c')).setCell ⟨sp, 5, none⟩ (.int .i64 ((out.length : Int) + 1))).heap[b]? = w.heap[b]? := fun b hb => hO.block b (by omega) (fun hp => by have := h8 b hp; omega)
  refine ⟨hO, ra, rc, ba, bc, a', c', ?_, ?_, ⟨h3.1.same hO.size (fun x _ hx => hbk _ (h3.2 x hx)), h3.2⟩, ⟨h4.1.same hO.size (fun x _ hx => hbk _ (h4.2 x hx)), h4.2⟩, h5, fun g e => ?_, fun b hb => h7 b (Nat.le_trans hO.size hb), h8, hn.1, hn.2.1, hn.2.2, by simpa using hl⟩
  · rw [(seven_set (seven_set hX).2.1).2.2.1, List.take_of_length_le (by simp; omega)]
    simp
  · rw [List.take_of_length_le (by simp; omega)]
    have hne : ∀ g, a' = some ⟨g, 0, none⟩ → sp ≠ g := fun g e => by
      rcases hnew g e with h | h
      · have := (h6 g h).2; omega
      · omega
    exact (hown.other hne _).other hne _
  · rcases hnew g e with h | h
    · exact h6 g h
    · exact ⟨h7 g h, by omega⟩
theorem rst_put_end2 (c : Nat) (h : RSt P w sp bs keep at_ out bad) (hk : ¬ out.length < keep) (hl : out.length + 1 ≤ 3000000) :
    Only P w (w.setCell ⟨sp, 5, none⟩ (.int .i64 ((out.length : Int) + 1))) ∧ RSt P (w.setCell ⟨sp, 5, none⟩ (.int .i64 ((out.length : Int) + 1))) sp bs keep at_ (out ++ [c]) bad := by
  have hlt := h.lt
  obtain ⟨ra, rc, ba, bc, oa, oc, h1, h2, ⟨h3, h3'⟩, ⟨h4, h4'⟩, h5, h6, h7, h8, h9, h10, h11, h12⟩ := h
  have ho := (Only.refl (fun b => b = sp) w).setCell (p := ⟨sp, 5, none⟩) (.inl rfl) (.int .i64 ((out.length : Int) + 1))
  have htk : (out ++ [c]).take keep = out.take keep := List.take_append_of_le_length (by omega)
  refine ⟨only_sp h5 _ _ _, ra, rc, ba, bc, oa, oc, ?_, ?_, ⟨h3.same ho.size (fun x _ hx => ho.block _ (by have := h3' x hx; omega) (by have := h3' x hx; omega)), h3'⟩, ⟨h4.same ho.size (fun x _ hx => ho.block _ (by have := h4' x hx; omega) (by have := h4' x hx; omega)), h4'⟩, h5, h6, fun b hb => h7 b (Nat.le_trans ho.size hb), h8, h9, h10, h11, by simpa using hl⟩
  · rw [(seven_set h1).2.2.1, htk]
    simp
  · rw [htk]
    exact h2.other (fun g e => by have := (h6 g e).2; show sp ≠ g; omega) _

set_option maxRecDepth 100000 in
set_option maxHeartbeats 800000 in
theorem rst_put (h : RSt P w sp bs keep at_ out bad) (c : Nat) (hl : out.length + 1 ≤ 3000000) :
    Calls Try.prog 99 #[.pointer (some ⟨sp, 0, none⟩), .int .u8 (c : Nat)] w fun e w' => e = .returned (.tuple #[]) ∧ Only P w w' ∧ RSt P w' sp bs keep at_ (out ++ [c]) bad := by
  by_cases hk : out.length < keep
  · obtain ⟨ra, rc, ba, bc, oa, oc, h1, h2, h3, h4, h5, h6, h7, h8, h9, h10, h11, h12⟩ := h
    have htk : out.take keep = out := List.take_of_length_le (by omega)
    rw [htk] at h1 h2
    obtain ⟨⟨c0, c1, c2, c3, c4, c5, c6⟩, d2, d3, d5, d6⟩ := seven_cells h1
    have t1 : decide ((out.length : Int) < (keep : Int)) = true := by simp; omega
    have hb2 : out.length < (8 : Nat) * 100000000000 := by omega
    have H1 := Lib.hid h1
    have H2 := Lib.hid h2
    have H3 := Lib.hid h3
    have H4 := Lib.hid h4
    have H5 := Lib.hid h5
    have H6 := Lib.hid h6
    have H7 := Lib.hid h7
    have H8 := Lib.hid h8
    have hlt : sp < w.heap.size := (Array.getElem?_eq_some_iff.1 h1).1
    have HN := Lib.hid (show at_ ≤ 8 * bs.length ∧ keep ≤ 3000 ∧ bs.length ≤ 1000 from ⟨h9, h10, h11⟩)
    obtain ⟨L, hL⟩ : ∃ L, L = (bitL bs).length := ⟨_, rfl⟩
    rw [← hL] at H1 c0 c1
    have HL := Lib.hid hL
    clear h1 h2 h3 h4 h5 h6 h7 h8 h9 h10 h11 hL
    go_enter Try.func99, Try.ntmps99
    go_wp2_with fail
    go_quiet (fail)
    go_wp2_with (at_builtin; refine app1AtN et_u8 rfl (.tmp 17) (.tmp 19) rfl (base := 0) rfl (show OwnN _ _ (w.drewN nq) 0 oa oc out from H2.out) rfl (Nat.le_refl _) (by omega) (by omega) (by omega) (Nat.zero_le _) ?_; intro a' c' w2 hown hg hnew; have hX := seven_cells ((hg.block sp hlt (own_ne H2.out (fun g e => (H6.out g e).2) sp (Nat.le_refl _))).trans H1.out); obtain ⟨⟨_, _, _, _, _, e5, _⟩, _, k3, k5, _⟩ := hX; replace hown := Lib.hid hown; replace hg := Lib.hid hg; replace hnew := Lib.hid hnew)
    go_end0
    exact ⟨rfl, rst_put_end c H1.out HL.out H2.out H3.out H4.out H5.out H6.out H7.out H8.out HN.out hk hl hown.out ⟨hg.out.os, hg.out.tape, hg.out.output, hg.out.size, hg.out.block⟩ hnew.out⟩
  · have t1 : decide ((out.length : Int) < (keep : Int)) = false := by simp; omega
    have H := Lib.hid (fun q => rst_put_end2 c (h.drewN q) hk hl)
    obtain ⟨ra, rc, ba, bc, oa, oc, h1, _, _, _, _, _, _, _, h9, h10, h11, h12⟩ := h
    obtain ⟨⟨c0, c1, c2, c3, c4, c5, c6⟩, d2, d3, d5, d6⟩ := seven_cells h1
    clear h1
    generalize (bitL bs).length = L at *
    go_enter Try.func99, Try.ntmps99
    go_wp2_with fail
    go_quiet (fail)
    go_wp2_with fail
    go_end0
    exact ⟨rfl, (only_drewN _ _ _).trans (H.out _).1, (H.out _).2⟩
end
/-- what a block's method comes to -/
def ROut (P : Nat → Prop) (sp : Nat) (bs : List Nat) (keep : Nat) (R : Option (Nat × List Nat)) (w : World) (w' : World) : Prop :=
  Only P w w' ∧ match R with
  | some (at2, out2) => RSt P w' sp bs keep at2 out2 false ∧ out2.length ≤ 258 * at2
  | none => ∃ at2 out2, RSt P w' sp bs keep at2 out2 true
end Go.Proofs.Ytlofoocgiomfbaa

namespace Go.Proofs.Ytlofoocgiomfbaa
open Go.RowKit Go.Shelf M01 M04 M07 M09 M10
set_option linter.unusedVariables false
section
variable {P : Nat → Prop} {w w' w2 : World} {sp keep at_ : Nat} {bs out : List Nat} {bad : Bool}

def nFit (bs : List Nat) (at_ n : Nat) (bad : Bool) : Bool := !bad && decide (at_ + n ≤ 8 * bs.length)
def nVal (bs : List Nat) (at_ n : Nat) (bad : Bool) : Nat := if nFit bs at_ n bad = true then num bs at_ n else 0
def nAt (bs : List Nat) (at_ n : Nat) (bad : Bool) : Nat := if nFit bs at_ n bad = true then at_ + n else at_
theorem nVal_lt (bs : List Nat) (at_ n : Nat) (bad : Bool) : nVal bs at_ n bad < 2 ^ n := by
  unfold nVal
  split
  · exact num_lt _ _ _
  · exact Nat.pos_of_ne_zero (by simp)
theorem nAt_le (bs : List Nat) (at_ n : Nat) (bad : Bool) (h : at_ ≤ 8 * bs.length) : at_ ≤ nAt bs at_ n bad ∧ nAt bs at_ n bad ≤ 8 * bs.length := by
  unfold nAt nFit
  split
  · rename_i h1; simp at h1; omega
  · omega
theorem rst_number (h : RSt P w sp bs keep at_ out bad) (n : Nat) (hn : n ≤ 32) :
    Calls Try.prog 68 #[.pointer (some ⟨sp, 0, none⟩), .int .i64 (n : Nat)] w fun e w' => e = .returned (.int .i64 (nVal bs at_ n bad : Nat)) ∧ Only P w w' ∧ RSt P w' sp bs keep (nAt bs at_ n bad) out (!nFit bs at_ n bad) := by
  unfold nVal nAt
  by_cases hf : nFit bs at_ n bad = true
  · rw [if_pos hf, if_pos hf, hf]
    unfold nFit at hf
    simp only [Bool.and_eq_true, Bool.not_eq_true', decide_eq_true_eq] at hf
    obtain ⟨rfl, hf⟩ := hf
    exact rst_number_ok h n hn hf
  · rw [if_neg hf, if_neg hf, show nFit bs at_ n bad = false by simpa using hf]
    exact rst_number_no h n hn (by
      unfold nFit at hf
      cases bad with
      | true => exact .inl rfl
      | false => right; simpa using hf)
/-- where a stream of the reference stands -/
def rAt (A : World) (sp : Nat) : Nat := match A.cell? ⟨sp, 2, none⟩ with
  | some (.int _ n) => n.toNat
  | _ => 0
theorem rAt_eq (h : RSt P w sp bs keep at_ out bad) : rAt w sp = at_ := by
  obtain ⟨_, c2, _⟩ := h.cel
  unfold rAt
  rw [c2]
  simp

/-- what the two numbers ahead of a stored block say -/
theorem stored_two (bs : List Nat) (a : Nat) (out : List Nat) (bad : Bool) (hb : bad = false → out.length ≤ 258 * a) (R : Option (Nat × List Nat)) (hR : R = if bad = true then none else stored0 bs a out) (b3 : Bool)
    (hb3 : (b3 = true ∧ nVal bs (nAt bs a 16 bad) 16 (!nFit bs a 16 bad) ≠ 65535 - nVal bs a 16 bad) ∨ (b3 = (!nFit bs (nAt bs a 16 bad) 16 (!nFit bs a 16 bad)) ∧ nVal bs (nAt bs a 16 bad) 16 (!nFit bs a 16 bad) = 65535 - nVal bs a 16 bad)) :
    (b3 = true → R = none) ∧ (b3 = false → R = stoL bs (nVal bs a 16 bad) (nAt bs (nAt bs a 16 bad) 16 (!nFit bs a 16 bad)) out ∧ out.length ≤ 258 * nAt bs (nAt bs a 16 bad) 16 (!nFit bs a 16 bad)) := by
  have bad2 : ∀ a, nFit bs a 16 (!false) = false := fun a => rfl
  cases bad with
  | true =>
    have f1 : nFit bs a 16 true = false := rfl
    rw [f1, bad2] at hb3
    refine ⟨fun _ => hR, fun h => ?_⟩
    rcases hb3 with ⟨h3, _⟩ | ⟨h3, _⟩
    · rw [h] at h3; cases h3
    · rw [h] at h3; cases h3
  | false =>
    have hb2' := hb rfl
    simp only [Bool.false_eq_true, if_false] at hR
    by_cases h1 : a + 16 ≤ 8 * bs.length
    · have f1 : nFit bs a 16 false = true := by unfold nFit; simpa using h1
      have v1 : nVal bs a 16 false = num bs a 16 := by unfold nVal; rw [if_pos f1]
      have p1 : nAt bs a 16 false = a + 16 := by unfold nAt; rw [if_pos f1]
      rw [v1, p1, f1]
      rw [v1, p1, f1] at hb3
      by_cases h2 : a + 16 + 16 ≤ 8 * bs.length
      · have f2 : nFit bs (a + 16) 16 (!true) = true := by unfold nFit; simpa using h2
        have v2 : nVal bs (a + 16) 16 (!true) = num bs (a + 16) 16 := by unfold nVal; rw [if_pos f2]
        have p2 : nAt bs (a + 16) 16 (!true) = a + 16 + 16 := by unfold nAt; rw [if_pos f2]
        rw [f2, v2] at hb3
        rw [p2]
        unfold stored0 at hR
        rw [if_pos (by omega)] at hR
        rcases hb3 with ⟨h3, h4⟩ | ⟨h3, h4⟩
        · refine ⟨fun _ => by rw [hR, if_neg h4], fun h => by rw [h] at h3; cases h3⟩
        · refine ⟨fun h => (by rw [h] at h3; cases h3), fun _ => ⟨by rw [hR, if_pos h4], by omega⟩⟩
      · have f2 : nFit bs (a + 16) 16 (!true) = false := by unfold nFit; simpa using h2
        rw [f2] at hb3
        unfold stored0 at hR
        rw [if_neg (by omega)] at hR
        refine ⟨fun _ => hR, fun h => ?_⟩
        rcases hb3 with ⟨h3, _⟩ | ⟨h3, _⟩
        · rw [h] at h3; cases h3
        · rw [h] at h3; cases h3
    · have f1 : nFit bs a 16 false = false := by unfold nFit; simpa using h1
      rw [f1, bad2] at hb3
      unfold stored0 at hR
      rw [if_neg (by omega)] at hR
      refine ⟨fun _ => hR, fun h => ?_⟩
      rcases hb3 with ⟨h3, _⟩ | ⟨h3, _⟩
      · rw [h] at h3; cases h3
      · rw [h] at h3; cases h3

set_option maxRecDepth 100000 in
set_option maxHeartbeats 1600000 in
theorem rst_stored (h : RSt P w sp bs keep at_ out bad) (hb : bad = false → out.length ≤ 258 * at_) :
    Calls Try.prog 69 #[.pointer (some ⟨sp, 0, none⟩)] w fun e w' => e = .returned (.tuple #[]) ∧ ROut P sp bs keep (if bad = true then none else stoB bs at_ out) w w' := by
  have H := Lib.hid h
  have HB := Lib.hid hb
  have hn := h.nums
  clear h hb
  obtain ⟨R, hR0⟩ : ∃ R, R = (if bad = true then none else stoB bs at_ out) := ⟨_, rfl⟩
  rw [← hR0]
  replace hR0 := Lib.hid hR0
  have ha8 : (at_ + 7) / 8 * 8 ≤ 8 * bs.length := by omega
  have hal : at_ ≤ (at_ + 7) / 8 * 8 := by omega
  go_enter Try.func69, Try.ntmps69
  go_wp2_with fail
  go_loopw [5] (fun _ A => ∃ at2, at_ ≤ at2 ∧ at2 ≤ (at_ + 7) / 8 * 8 ∧ Only P w A ∧ RSt P A sp bs keep at2 out bad) (fun _ A => 8 * bs.length - rAt A sp)
  case atStart => exact ⟨at_, by omega, by omega, Only.refl _ _, H.out⟩
  case round =>
    clear H
    obtain ⟨at2, hle, hge, ho, hs⟩ := hrel
    have HO := Lib.hid ho
    have HA := Lib.hid (rAt_eq hs)
    obtain ⟨e6, e2, _, _, k6, k2⟩ := hs.cel
    by_cases hm : at2 % 8 = 0
    case neg =>
      have t1 : ((at2 : Int) % 8 != 0) = true := by simp; omega
      have hlt : at2 < (at_ + 7) / 8 * 8 := by omega
      have HK := Lib.hid (hs.setAt (at2 + 1) (by omega))
      have h1 : at2 + 1 ≤ 9000 := by omega
      have HLT := Lib.hid (show at2 + 1 ≤ (at_ + 7) / 8 * 8 from hlt)
      have HM : Hid (at2 < 8 * bs.length) := by unfold Hid; omega
      clear ho hs hge hm hlt
      go_wp2
      go_roundw
      case rel => exact ⟨at2 + 1, by omega, HLT.out, HO.out.trans HK.out.1, HK.out.2⟩
      case measure =>
        have hx := rAt_eq HK.out.2
        have := HM.out
        rw [HA.out]
        show 8 * bs.length - rAt (wr.setCell ⟨sp, 2, none⟩ (.int .i64 ((at2 + 1 : Nat) : Int))) sp < _
        rw [hx]
        omega
    have t1 : ((at2 : Int) % 8 != 0) = false := by simp; omega
    have ha0 : at2 = (at_ + 7) / 8 * 8 := by omega
    have HS := Lib.hid hs
    have HR1 : Hid (R = if bad = true then none else stored0 bs at2 out) := by unfold Hid; rw [hR0.out, ha0]; rfl
    have hb2 : Hid (bad = false → out.length ≤ 258 * at2) := fun h => by have := HB.out h; omega
    clear ho hs ha0 hR0 HB hm hge hle ha8 hal
    have hat2 := HS.out.nums.1
    have HN1 := Lib.hid (rst_number HS.out 16 (by decide))
    have hv1 := nVal_lt bs at2 16 bad
    have hl1 := nAt_le bs at2 16 bad hat2
    go_wp2_with fail
    refine HN1.out.mono ?_
    rintro e w1 ⟨rfl, ho1, hs1⟩
    have HO1 := Lib.hid (HO.out.trans ho1)
    have HN2 := Lib.hid (rst_number hs1 16 (by decide))
    have hv2 := nVal_lt bs (nAt bs at2 16 bad) 16 (!nFit bs at2 16 bad)
    have hl2 := nAt_le bs (nAt bs at2 16 bad) 16 (!nFit bs at2 16 bad) hl1.2
    -- what the two numbers say
    have HQ := Lib.hid (stored_two bs at2 out bad hb2.out R HR1.out)
    clear HN1 ho1 hs1 HS HO HR1 hb2 e6 e2 k6 k2 HA t1
    generalize nVal bs (nAt bs at2 16 bad) 16 (!nFit bs at2 16 bad) = m at *
    generalize nAt bs (nAt bs at2 16 bad) 16 (!nFit bs at2 16 bad) = a3 at *
    generalize (!nFit bs (nAt bs at2 16 bad) 16 (!nFit bs at2 16 bad)) = bb at *
    generalize nVal bs at2 16 bad = n at *
    generalize nAt bs at2 16 bad = a2 at *
    have hn16 : n < 65536 := hv1
    have hm16 : m < 65536 := hv2
    clear hv1 hv2
    go_wp2_with fail
    refine HN2.out.mono ?_
    rintro e w2 ⟨rfl, ho2, hs2⟩
    have HO2 := Lib.hid (HO1.out.trans ho2)
    have HS2 := Lib.hid hs2
    clear HN2 ho2 hs2 HO1
    have hnm : a3 ≤ 8 * bs.length := hl2.2
    obtain ⟨e6, _, _, _, k6, _⟩ := HS2.out.cel
    by_cases hz : m = 65535 - n
    · have t1 : ((m : Int) != 65535 - (n : Int)) = false := by simp; omega
      have HQ3 := Lib.hid (HQ.out _ (.inr ⟨rfl, hz⟩))
      have HO3 := HO2
      have HS3 := HS2
      clear hz HQ HO2 HS2
      go_wp2_with fail
      clear t1 e6 k6
      go_loopw [3, 4] (fun i _ A => ∃ j at2 out2 b2, j ≤ n ∧ i = .int .i64 (j : Nat) ∧ Only P w A ∧ RSt P A sp bs keep at2 out2 b2 ∧ (b2 = true → R = none) ∧ (b2 = false → R = stoL bs (n - j) at2 out2 ∧ out2.length ≤ 258 * at2)) (fun i _ _ => n - (intOf i).toNat)
      case atStart => exact ⟨0, a3, out, _, by omega, rfl, HO3.out, HS3.out, HQ3.out⟩
      case round =>
        clear HO3 HS3 HQ3
        obtain ⟨j, at2, out2, b2, hj, rfl, ho, hs, hr⟩ := hrel
        have HO := Lib.hid ho
        have HS := Lib.hid hs
        have HR := Lib.hid hr
        obtain ⟨e6, _, _, _, _, _⟩ := hs.cel
        have hnm := hs.nums
        clear ho hs hr
        by_cases hlt : j < n
        · cases b2 with
          | true =>
            have HRN := Lib.hid (HR.out.1 rfl)
            clear HR
            go_wp2
            go_end0
            exact ⟨rfl, by rw [HRN.out]; exact ⟨HO.out, _, _, HS.out⟩⟩
          | false =>
            obtain ⟨hr, hlen⟩ := HR.out.2 rfl
            clear HR
            obtain ⟨k, hk⟩ : ∃ k, n - j = k + 1 := ⟨n - j - 1, by omega⟩
            have hk2 : n - (j + 1) = k := by omega
            rw [hk] at hr
            unfold stoL at hr
            by_cases h8 : at2 + 8 ≤ 8 * bs.length
            · rw [if_pos h8, ← hk2] at hr
              have HR := Lib.hid hr
              have HB := Lib.hid (rst_number_ok HS.out 8 (by decide) h8)
              have hv : num bs at2 8 < 256 := num_lt bs at2 8
              have hbd : out2.length + 1 ≤ 258 * (at2 + 8) := by omega
              have hbd3 : out2.length + 1 ≤ 3000000 := by omega
              clear hr h8 hk hk2 hnm
              generalize num bs at2 8 = v at *
              go_wp2_with fail
              refine HB.out.mono ?_
              rintro e w4 ⟨rfl, ho4, hs4⟩
              have HO4 := Lib.hid (HO.out.trans ho4)
              have HB2 := Lib.hid (rst_put hs4 v hbd3)
              obtain ⟨e6', _, _, _, _, _⟩ := hs4.cel
              clear HB HO HS ho4 hs4 e6
              go_wp2_with fail
              refine HB2.out.mono ?_
              rintro e w5 ⟨rfl, ho5, hs5⟩
              have HO5 := Lib.hid (HO4.out.trans ho5)
              have HS5 := Lib.hid hs5
              clear HB2 HO4 ho5 hs5
              go_wp2
              go_roundw
              case rel => exact ⟨j + 1, at2 + 8, out2 ++ [v], false, by omega, by go_num, HO5.out, HS5.out, (fun h => by cases h), fun _ => ⟨HR.out, by rw [List.length_append]; exact hbd⟩⟩
              case measure => simp [intOf]; omega
            · rw [if_neg h8] at hr
              have HR := Lib.hid hr
              have HB := Lib.hid (rst_number_no HS.out 8 (by decide) (.inr h8))
              clear hr h8 hk hk2
              go_wp2_with fail
              refine HB.out.mono ?_
              rintro e w4 ⟨rfl, ho4, hs4⟩
              have HO4 := Lib.hid (HO.out.trans ho4)
              obtain ⟨e6', _, _, _, _, _⟩ := hs4.cel
              have HS4 := Lib.hid hs4
              clear HB HO HS ho4 hs4 e6
              go_wp2
              go_roundw
              case rel => exact ⟨j + 1, at2, out2, true, by omega, by go_num, HO4.out, HS4.out, (fun _ => HR.out), fun h => by cases h⟩
              case measure => simp [intOf]; omega
        · obtain rfl : j = n := by omega
          have HF : Hid (ROut P sp bs keep R w wr) := by
            refine ⟨HO.out, ?_⟩
            cases b2 with
            | true => rw [HR.out.1 rfl]; exact ⟨_, _, HS.out⟩
            | false =>
              obtain ⟨h1, h2⟩ := HR.out.2 rfl
              rw [Nat.sub_self] at h1
              rw [h1]
              exact ⟨HS.out, h2⟩
          clear HO HS HR e6
          go_wp2
          go_end0
          exact ⟨rfl, HF.out⟩
    · have t1 : ((m : Int) != 65535 - (n : Int)) = true := by simp; omega
      have HQ3 := Lib.hid ((HQ.out true (.inl ⟨rfl, hz⟩)).1 rfl)
      have HK := HS2.out.setBad true
      have HO3 := Lib.hid (HO2.out.trans HK.1)
      have HS3 := Lib.hid HK.2
      clear hz HQ HO2 HS2 HK
      go_wp2_with fail
      clear t1 e6 k6
      go_loopw [3, 4] (fun i _ A => ∃ j at2 out2 b2, j ≤ n ∧ i = .int .i64 (j : Nat) ∧ Only P w A ∧ RSt P A sp bs keep at2 out2 b2 ∧ (b2 = true → R = none) ∧ (b2 = false → R = stoL bs (n - j) at2 out2 ∧ out2.length ≤ 258 * at2)) (fun i _ _ => n - (intOf i).toNat)
      case atStart => exact ⟨0, a3, out, _, by omega, rfl, HO3.out, HS3.out, fun _ => HQ3.out, fun h => by cases h⟩
      case round =>
        clear HO3 HS3 HQ3
        obtain ⟨j, at2, out2, b2, hj, rfl, ho, hs, hr⟩ := hrel
        have HO := Lib.hid ho
        have HS := Lib.hid hs
        have HR := Lib.hid hr
        obtain ⟨e6, _, _, _, _, _⟩ := hs.cel
        have hnm := hs.nums
        clear ho hs hr
        by_cases hlt : j < n
        · cases b2 with
          | true =>
            have HRN := Lib.hid (HR.out.1 rfl)
            clear HR
            go_wp2
            go_end0
            exact ⟨rfl, by rw [HRN.out]; exact ⟨HO.out, _, _, HS.out⟩⟩
          | false =>
            obtain ⟨hr, hlen⟩ := HR.out.2 rfl
            clear HR
            obtain ⟨k, hk⟩ : ∃ k, n - j = k + 1 := ⟨n - j - 1, by omega⟩
            have hk2 : n - (j + 1) = k := by omega
            rw [hk] at hr
            unfold stoL at hr
            by_cases h8 : at2 + 8 ≤ 8 * bs.length
            · rw [if_pos h8, ← hk2] at hr
              have HR := Lib.hid hr
              have HB := Lib.hid (rst_number_ok HS.out 8 (by decide) h8)
              have hv : num bs at2 8 < 256 := num_lt bs at2 8
              have hbd : out2.length + 1 ≤ 258 * (at2 + 8) := by omega
              have hbd3 : out2.length + 1 ≤ 3000000 := by omega
              clear hr h8 hk hk2 hnm
              generalize num bs at2 8 = v at *
              go_wp2_with fail
              refine HB.out.mono ?_
              rintro e w4 ⟨rfl, ho4, hs4⟩
              have HO4 := Lib.hid (HO.out.trans ho4)
              have HB2 := Lib.hid (rst_put hs4 v hbd3)
              obtain ⟨e6', _, _, _, _, _⟩ := hs4.cel
              clear HB HO HS ho4 hs4 e6
              go_wp2_with fail
              refine HB2.out.mono ?_
              rintro e w5 ⟨rfl, ho5, hs5⟩
              have HO5 := Lib.hid (HO4.out.trans ho5)
              have HS5 := Lib.hid hs5
              clear HB2 HO4 ho5 hs5
              go_wp2
              go_roundw
              case rel => exact ⟨j + 1, at2 + 8, out2 ++ [v], false, by omega, by go_num, HO5.out, HS5.out, (fun h => by cases h), fun _ => ⟨HR.out, by rw [List.length_append]; exact hbd⟩⟩
              case measure => simp [intOf]; omega
            · rw [if_neg h8] at hr
              have HR := Lib.hid hr
              have HB := Lib.hid (rst_number_no HS.out 8 (by decide) (.inr h8))
              clear hr h8 hk hk2
              go_wp2_with fail
              refine HB.out.mono ?_
              rintro e w4 ⟨rfl, ho4, hs4⟩
              have HO4 := Lib.hid (HO.out.trans ho4)
              obtain ⟨e6', _, _, _, _, _⟩ := hs4.cel
              have HS4 := Lib.hid hs4
              clear HB HO HS ho4 hs4 e6
              go_wp2
              go_roundw
              case rel => exact ⟨j + 1, at2, out2, true, by omega, by go_num, HO4.out, HS4.out, (fun _ => HR.out), fun h => by cases h⟩
              case measure => simp [intOf]; omega
        · obtain rfl : j = n := by omega
          have HF : Hid (ROut P sp bs keep R w wr) := by
            refine ⟨HO.out, ?_⟩
            cases b2 with
            | true => rw [HR.out.1 rfl]; exact ⟨_, _, HS.out⟩
            | false =>
              obtain ⟨h1, h2⟩ := HR.out.2 rfl
              rw [Nat.sub_self] at h1
              rw [h1]
              exact ⟨HS.out, h2⟩
          clear HO HS HR e6
          go_wp2
          go_end0
          exact ⟨rfl, HF.out⟩
end
end Go.Proofs.Ytlofoocgiomfbaa
