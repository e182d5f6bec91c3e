/- Laying tokens by two codes: plain, and the contract of lay. -/
import Derived.Test.YtlofoocgiomfbaaPutSym
import Derived.Test.YtlofoocgiomfbaaUses
import Derived.Test.YtlofoocgiomfbaaSyms

/- Plain mathematics: laying tokens by two codes. -/
namespace Go.Proofs.Ytlofoocgiomfbaa
open Go.RowKit Go.Shelf M01 M04 M06 M08 M17
set_option linter.unusedVariables false

def layTok (l1 l2 : List Nat) (st : Wst) (t : Tok) : Wst :=
  if t.len = 0 then addSymE l1 st t.byte else addNum (addSymE l2 (addNum (addSymE l1 st (lenS t.len)) (lenX t.len) (lenB t.len)) (dstS t.dist)) (dstX t.dist) (dstB t.dist)
def layTo (l1 l2 : List Nat) (st : Wst) (l : List Tok) : Wst := l.foldl (layTok l1 l2) st
theorem lenX_lt (n : Int) : lenX n < 2 ^ lenB n ∧ lenB n ≤ 5 := by
  unfold lenX lenB
  by_cases h : 3 ≤ n ∧ n ≤ 258
  · simp only [if_pos h]
    obtain ⟨m, rfl⟩ := Int.eq_ofNat_of_zero_le (by omega : 0 ≤ n)
    have hall : ∀ m : Fin 259, 3 ≤ m.val → m.val - lensL.getD (lk m.val) 0 < 2 ^ lbits (257 + lk m.val) ∧ lbits (257 + lk m.val) ≤ 5 := by decide +kernel
    exact hall ⟨m, by omega⟩ (by show 3 ≤ m; omega)
  · simp only [if_neg h]; decide
theorem dstX_lt (n : Int) : dstX n < 2 ^ dstB n ∧ dstB n ≤ 13 := by
  unfold dstX dstB
  by_cases h : 1 ≤ n ∧ n ≤ 32768
  · simp only [if_pos h]
    obtain ⟨m, rfl⟩ := Int.eq_ofNat_of_zero_le (by omega : 0 ≤ n)
    simp only [Int.toNat_natCast]
    obtain ⟨s1, s2⟩ := lastLe_spec dist_up m (by decide) (show distL.getD 0 0 ≤ m from by show 1 ≤ m; omega)
    have hk : dk m < 30 := dk_lt m
    rw [show lastLe distL m = dk m from rfl] at s1 s2
    generalize dk m = k at *
    have hall : ∀ k : Fin 30, (k.val + 1 < 30 → distL.getD (k.val + 1) 0 ≤ distL.getD k.val 0 + 2 ^ dbits k.val) ∧ (k.val = 29 → 32768 < distL.getD k.val 0 + 2 ^ dbits k.val) ∧ dbits k.val ≤ 13 := by decide
    obtain ⟨g1, g2, g3⟩ := hall ⟨k, hk⟩
    simp only at g1 g2 g3
    refine ⟨?_, g3⟩
    by_cases h29 : k = 29
    · have := g2 h29
      omega
    · have := g1 (by omega)
      have := s2 (by show k + 1 < 30; omega)
      omega
  · simp only [if_neg h]; decide
end Go.Proofs.Ytlofoocgiomfbaa

/- layer 10's laws: lay: contract. -/
namespace Go.Proofs.Ytlofoocgiomfbaa
open Go.RowKit Go.Shelf M01 M04 M06 M08 M17
set_option linter.unusedVariables false

theorem Wr.below {P : Nat → Prop} {w w' : World} {p : Nat} {s : Wst} (h : Wr P w p s) (hb : Below w.heap.size w w') : Wr P w' p s := by
  have hlt := h.lt
  obtain ⟨⟨a, c, h1, h2, h3, h4, h5⟩, h6⟩ := h
  exact ⟨⟨a, c, (hb.block p hlt).trans h1, h2.below hb, h3, h4, fun b hb' => h5 b (Nat.le_trans hb.size hb')⟩, h6⟩
theorem Wr.narrow {P : Nat → Prop} {w w' : World} {p : Nat} {s : Wst} (h : Wr P w p s) (hb : Below w.heap.size w w') : Wr (Sub P w.heap.size w'.heap.size) w' p s := by
  have hlt := h.lt
  obtain ⟨⟨a, c, h1, h2, h3, h4, h5⟩, h6⟩ := h
  have hz := hb.size
  refine ⟨⟨a, c, (hb.block p hlt).trans h1, h2.below hb, ⟨h3, by omega⟩, fun g hg => ⟨⟨(h4 g hg).1, ?_⟩, (h4 g hg).2⟩, fun b hb' => ⟨h5 b (by omega), by omega⟩⟩, h6⟩
  rcases h2.form with ⟨rfl, _, _⟩ | ⟨g', rfl, _, hg'⟩
  · cases hg
  · cases hg; omega
theorem Wr.widen {P : Nat → Prop} {lo hi : Nat} {w : World} {p : Nat} {s : Wst} (h : Wr (Sub P lo hi) w p s) : Wr P w p s := by
  obtain ⟨⟨a, c, h1, h2, h3, h4, h5⟩, h6⟩ := h
  exact ⟨⟨a, c, h1, h2, h3.1, fun g hg => ⟨(h4 g hg).1.1, (h4 g hg).2⟩, fun b hb => (h5 b hb).1⟩, h6⟩
theorem addSymE_len {l : List Nat} (h : ∀ x ∈ l, x ≤ 20) (st : Wst) (s : Nat) : (addSymE l st s).2 ≤ st.2 + 20 := by
  unfold addSymE
  split
  · omega
  · unfold addSym
    rw [addWord_len]
    have := getD_le h s
    omega
theorem layTok_len {l1 l2 : List Nat} (h1 : ∀ x ∈ l1, x ≤ 20) (h2 : ∀ x ∈ l2, x ≤ 20) (st : Wst) (t : Tok) : (layTok l1 l2 st t).2 ≤ st.2 + 58 := by
  unfold layTok
  split
  · have := addSymE_len h1 st t.byte; omega
  · rw [addNum_len]
    have := addSymE_len h2 (addNum (addSymE l1 st (lenS t.len)) (lenX t.len) (lenB t.len)) (dstS t.dist)
    rw [addNum_len] at this
    have := addSymE_len h1 st (lenS t.len)
    have := (lenX_lt t.len).2
    have := (dstX_lt t.dist).2
    omega
theorem layTo_snoc (l1 l2 : List Nat) (st : Wst) (l : List Tok) (k : Nat) (hk : k < l.length) : layTo l1 l2 st (l.take (k + 1)) = layTok l1 l2 (layTo l1 l2 st (l.take k)) l[k] := by
  unfold layTo
  rw [List.take_succ_eq_append_getElem hk, List.foldl_append]
  rfl
theorem layTo_len {l1 l2 : List Nat} (h1 : ∀ x ∈ l1, x ≤ 20) (h2 : ∀ x ∈ l2, x ≤ 20) (l : List Tok) : ∀ st, (layTo l1 l2 st l).2 ≤ st.2 + 58 * l.length := by
  induction l with
  | nil => intro st; simp [layTo]
  | cons t l ih =>
    intro st
    have := ih (layTok l1 l2 st t)
    have := layTok_len h1 h2 st t
    simp only [layTo, List.foldl_cons, List.length_cons] at *
    omega
set_option maxRecDepth 100000 in
set_option maxHeartbeats 3200000 in
theorem law10_lay {P : Nat → Prop} {w : World} {p : Nat} {st : Wst} (hW : Wr P w p st) (a a1 a2 : Option Addr) (cap c1 c2 : Nat) (l : List Tok) (l1 l2 : List Nat) (hr : RowS encT w a cap l) (hby : ∀ t ∈ l, t.byte < 256)
    (hQ : ∀ x, a = some x → ¬ P x.block) (hQ2 : ∀ x, 0 < l.length → a = some x → x.block < w.heap.size) (r1 : RowN .u8 w a1 c1 l1) (r2 : RowN .u8 w a2 c2 l2) (h1 : (wordsE l1).2 = 0) (h2 : (wordsE l2).2 = 0) (hl : l.length ≤ 1000) (hst : st.2 ≤ 10000000) :
    Calls Try.prog 24 #[.pointer (some ⟨p, 0, none⟩), .slice a l.length cap, .slice a1 l1.length c1, .slice a2 l2.length c2] w fun e w' =>
      e = .returned (.tuple #[]) ∧ Only P w w' ∧ Wr P w' p (addSymE l1 (layTo l1 l2 st l) 256) := by
  have HM1 := Lib.hid (wordsE_may h1)
  have HM2 := Lib.hid (wordsE_may h2)
  have HN1 := Lib.hid (prefix_new a1 c1 l1 w r1)
  simp only [if_pos h1] at HN1
  have HN2 := Lib.hid (fun w' (h : RowN .u8 w' a2 c2 l2) => prefix_new a2 c2 l2 w' h)
  simp only [if_pos h2] at HN2
  have HW := Lib.hid hW
  have HR := Lib.hid hr
  have HBY := Lib.hid hby
  have HQ := Lib.hid hQ
  have HQ2 := Lib.hid hQ2
  have HR2 := Lib.hid r2
  have HST := Lib.hid hst
  clear hW hr hby hQ hQ2 r1 r2 h1 h2 hst
  go_enter Try.func24, Try.ntmps24
  go_wp2_with fail
  refine HN1.out.mono ?_
  rintro e w1 ⟨hb1, t1, rfl, tb1⟩
  have HB1 := Lib.hid hb1
  have HT1 := Lib.hid tb1
  clear HN1 hb1 tb1
  go_wp2_with fail
  refine (HN2.out w1 (HR2.out.below HB1.out)).mono ?_
  rintro e w2 ⟨hb2, t2, rfl, tb2⟩
  have HB2 := Lib.hid (HB1.out.trans (hb2.mono HB1.out.size))
  have HW2 := Lib.hid (HW.out.narrow HB2.out)
  have HR3 := Lib.hid (HR.out.below HB2.out)
  have hz1 := HB1.out.size
  have hz2 := hb2.size
  have HT12 := Lib.hid ((HT1.out.below hb2).widen (Nat.le_refl _) hz2 (Nat.le_refl _))
  have HT22 := Lib.hid (tb2.widen hz1 (Nat.le_refl _) (Nat.le_refl _))
  have HQ3 : Hid (∀ x, a = some x → ¬ Sub P w.heap.size w2.heap.size x.block) := fun x hx h => HQ.out x hx h.1
  have HQ4 : Hid (∀ x, 0 < l.length → a = some x → x.block < w2.heap.size) := fun x h0 hx => by have := HQ2.out x h0 hx; omega
  have HP2 : Hid (∀ b, w.heap.size ≤ b → b < w2.heap.size → ¬ Sub P w.heap.size w2.heap.size b) := fun b g1 g2 h => h.2 ⟨g1, g2⟩
  have HWD : Hid (∀ A st', Only (Sub P w.heap.size w2.heap.size) w2 A → Wr (Sub P w.heap.size w2.heap.size) A p st' → Only P w A ∧ Wr P A p st') := fun A st' g1 g2 => ⟨(Only.ofBelow HB2.out).trans g1.widen, g2.widen⟩
  generalize Sub P w.heap.size w2.heap.size = Q at *
  generalize w.heap.size = lo at *
  clear HB1 HT1 tb2 hb2 HW HR HQ HQ2 HR2 HN2 hz1 hz2
  obtain ⟨hi, hhi⟩ : ∃ hi, w2.heap.size = hi := ⟨_, rfl⟩
  rw [hhi] at HT12 HT22 HP2
  clear hhi HB2
  go_wp2_with fail
  go_loopw [12] (fun c A => ∃ k : Nat, k ≤ l.length ∧ c = .int .i64 (k : Nat) ∧ Only Q w2 A ∧ Wr Q A p (layTo l1 l2 st (l.take k))) (fun c _ => l.length - (intOf c).toNat)
  case atStart => exact ⟨0, by omega, rfl, Only.refl _ _, HW2.out⟩
  case round =>
    clear HW2
    obtain ⟨k, hk, rfl, ho, hw⟩ := hrel
    have HO := Lib.hid ho
    have HW := Lib.hid hw
    have HTA := Lib.hid (HT12.out.only ho HP2.out)
    have HTB := Lib.hid (HT22.out.only ho HP2.out)
    have hll := layTo_len HM1.out.1.1 HM2.out.1.1 (l.take k) st
    rw [List.length_take] at hll
    have hs1 : (layTo l1 l2 st (l.take k)).2 ≤ 20000000 := by have := HST.out; omega
    clear ho hw hll
    by_cases hlt : k < l.length
    · have HSN := Lib.hid (layTo_snoc l1 l2 st l k hlt)
      have hrA := HR3.out.same HO.out.size (fun x h0 hx => HO.out.block x.block (HQ4.out x h0 hx) (HQ3.out x hx))
      obtain ⟨b, off, rfl, hbb, hcells⟩ := hrA.at hlt
      have HBB := Lib.hid (HQ4.out _ (by omega) rfl)
      have HQB := Lib.hid (HQ3.out _ rfl)
      have htb := HBY.out _ (List.getElem_mem hlt)
      generalize l[k] = t at *
      have e0 := hcells 0 (.int .i64 t.len) rfl
      have e1 := hcells 1 (.int .i64 t.dist) rfl
      have e2 := hcells 2 (.int .u8 (t.byte : Nat)) rfl
      rw [show off + (k * encT.sz + 0) = off + k * 3 by show off + (k * 3 + 0) = _; omega] at e0
      rw [show off + (k * encT.sz + 1) = off + k * 3 + 1 by show off + (k * 3 + 1) = _; omega] at e1
      rw [show off + (k * encT.sz + 2) = off + k * 3 + 2 by show off + (k * 3 + 2) = _; omega] at e2
      have q3 : (0 : Int) ≤ (k : Int) := by omega
      have q4 : (k : Int) < (l.length : Int) := by omega
      clear hcells hrA hbb
      generalize layTo l1 l2 st (l.take k) = st0 at *
      by_cases h0 : t.len = 0
      · have t0 : (t.len == 0) = true := by simpa using h0
        have HC := Lib.hid (prefix_putLowE HTA.out HW.out HP2.out HM1.out.1.1 HM1.out.2 t.byte (by omega))
        have HX : Hid (addSymE l1 st0 t.byte = layTo l1 l2 st (l.take (k + 1))) := by unfold Hid; rw [HSN.out]; unfold layTok; rw [if_pos h0]
        rw [HX.out] at HC
        clear h0 HSN HX HTA HTB HW
        go_wp2_with fail
        refine HC.out.mono ?_
        rintro e w3 ⟨cc, rfl, ho3, hw3⟩
        have HO3 := Lib.hid (HO.out.trans ho3)
        have HW3 := Lib.hid hw3
        clear ho3 hw3 HC HO
        go_wp2
        go_roundw
        case rel => exact ⟨k + 1, by omega, by go_num, HO3.out, HW3.out⟩
        case measure => simp [intOf]; omega
      · have t0 : (t.len == 0) = false := by simpa using h0
        have E1 : Hid (∀ A, Only Q w2 A → A.cell? ⟨b, off + k * 3 + 1, none⟩ = some (.int .i64 t.dist)) := fun A hA => by
          have g1 := World.cell?_of_block (a := ⟨b, off + k * 3 + 1, none⟩) (hA.block b HBB.out HQB.out)
          have g2 := World.cell?_of_block (a := ⟨b, off + k * 3 + 1, none⟩) (HO.out.block b HBB.out HQB.out)
          rw [g1, ← g2]; exact e1
        have HX : Hid (addNum (addSymE l2 (addNum (addSymE l1 st0 (lenS t.len)) (lenX t.len) (lenB t.len)) (dstS t.dist)) (dstX t.dist) (dstB t.dist) = layTo l1 l2 st (l.take (k + 1))) := by unfold Hid; rw [HSN.out]; unfold layTok; rw [if_neg h0]
        obtain ⟨hx1, hx2⟩ := lenX_lt t.len
        obtain ⟨hy1, hy2⟩ := dstX_lt t.dist
        have HL := Lib.hid (fun A => token_length_all t.len A)
        have HD := Lib.hid (fun A => token_distance_all t.dist A)
        clear h0 HSN e1 e2 HTA HTB
        generalize lenS t.len = s5 at *
        generalize lenX t.len = x5 at *
        generalize lenB t.len = n5 at *
        generalize lenE t.len = ee5 at *
        generalize dstS t.dist = s6 at *
        generalize dstX t.dist = x6 at *
        generalize dstB t.dist = n6 at *
        generalize dstE t.dist = ee6 at *
        have hp5 : 2 ^ n5 ≤ 2 ^ 5 := Nat.pow_le_pow_right (by decide) hx2
        have hp6 : 2 ^ n6 ≤ 2 ^ 13 := Nat.pow_le_pow_right (by decide) hy2
        have hx32 : IntKind.u32.wrap (x5 : Int) = (x5 : Int) := by simp [IntKind.wrap, IntKind.bits, IntKind.signed]; omega
        have hy32 : IntKind.u32.wrap (x6 : Int) = (x6 : Int) := by simp [IntKind.wrap, IntKind.bits, IntKind.signed]; omega
        have hx64 : x5 < 4294967296 := by omega
        have hy64 : x6 < 4294967296 := by omega
        have HX1 := Lib.hid hx1
        have HY1 := Lib.hid hy1
        clear hp5 hp6 hx1 hy1
        have hs2 := addSymE_len HM1.out.1.1 st0 s5
        go_wp2_with fail
        refine (HL.out _).mono ?_
        rintro e w3 ⟨rfl, hb3⟩
        have HO3 := Lib.hid (HO.out.trans (Only.ofBelow hb3))
        have HW3 := Lib.hid (HW.out.below hb3)
        have HC := Lib.hid (prefix_putLowE (HT12.out.only HO3.out HP2.out) HW3.out HP2.out HM1.out.1.1 HM1.out.2 s5 (by omega))
        clear hb3 HL HO HW HW3
        go_wp2_with fail
        refine HC.out.mono ?_
        rintro e w4 ⟨cc, rfl, ho4, hw4⟩
        have HO4 := Lib.hid (HO3.out.trans ho4)
        have HC2 := Lib.hid (lsb_put hw4 x5 n5 (by omega) HX1.out (by omega))
        have hl3 := addNum_len (addSymE l1 st0 s5) x5 n5
        clear ho4 hw4 HC HO3
        generalize addNum (addSymE l1 st0 s5) x5 n5 = st1 at *
        go_wp2_with fail
        refine HC2.out.mono ?_
        rintro e w5 ⟨rfl, ho5, hw5⟩
        have HO5 := Lib.hid (HO4.out.trans ho5)
        have HW5 := Lib.hid hw5
        have f1 := E1.out w5 HO5.out
        clear ho5 hw5 HC2 HO4
        go_wp2_with fail
        refine (HD.out _).mono ?_
        rintro e w6 ⟨rfl, hb6⟩
        have HO6 := Lib.hid (HO5.out.trans (Only.ofBelow hb6))
        have HW6 := Lib.hid (HW5.out.below hb6)
        have HC3 := Lib.hid (prefix_putLowE (HT22.out.only HO6.out HP2.out) HW6.out HP2.out HM2.out.1.1 HM2.out.2 s6 (by omega))
        have hs4 := addSymE_len HM2.out.1.1 st1 s6
        clear hb6 HD HO5 HW5 HW6 f1
        go_wp2_with fail
        refine HC3.out.mono ?_
        rintro e w7 ⟨cc2, rfl, ho7, hw7⟩
        have HO7 := Lib.hid (HO6.out.trans ho7)
        have HC4 := Lib.hid (lsb_put hw7 x6 n6 (by omega) HY1.out (by omega))
        rw [HX.out] at HC4
        clear ho7 hw7 HC3 HO6
        go_wp2_with fail
        refine HC4.out.mono ?_
        rintro e w8 ⟨rfl, ho8, hw8⟩
        have HO8 := Lib.hid (HO7.out.trans ho8)
        have HW8 := Lib.hid hw8
        clear ho8 hw8 HC4 HO7 hs2 hl3 hs4
        go_wp2
        go_roundw
        case rel => exact ⟨k + 1, by omega, by go_num, HO8.out, HW8.out⟩
        case measure => simp [intOf]; omega
    · have htk : l.take k = l := List.take_of_length_le (by omega)
      rw [htk] at HW hs1
      have HC := Lib.hid (prefix_putLowE HTA.out HW.out HP2.out HM1.out.1.1 HM1.out.2 256 (by omega))
      clear HTA HTB HW htk
      go_wp2_with fail
      refine (show Calls Try.prog 27 #[.pointer (some ⟨t1, 0, none⟩), .pointer (some ⟨p, 0, none⟩), .int .i64 256] wr _ from HC.out).mono ?_
      rintro e w3 ⟨cc, rfl, ho3, hw3⟩
      have HO3 := Lib.hid (HWD.out _ _ (HO.out.trans ho3) hw3)
      clear ho3 hw3 HC HO
      go_wp2
      go_end0
      exact ⟨rfl, HO3.out.1, HO3.out.2⟩
end Go.Proofs.Ytlofoocgiomfbaa
