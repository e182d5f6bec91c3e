/- header.signs: contract. header.Put, header.Size, lsb.Writer.Len: contracts. -/
import Derived.Test.YtendielanacflaaGreatL07
import Derived.Test.YtendielanacflaaGreatL08
import Derived.Test.YtendielanacflaaGreatL09
import Derived.Test.YtendielanacflaaGreatL16
import Derived.Test.YtendielanacflaaGreatL17
import Derived.Test.YtendielanacflaaGreatL18
import Derived.Test.YtendielanacflaaGreatL19
namespace Go.Proofs.YtendielanacflaaGreat
open Go.RowKit Go.Shelf M04 M05 M07 M09
attribute [local go_sem] Oper.semAt_some
set_option linter.unusedVariables false
set_option linter.unusedSimpArgs false
theorem concat2 (a b : Option Addr) (ca cb : Nat) (f o : List Nat) (w : World) (h1 : RowN .u8 w a ca f) (h2 : RowN .u8 w b cb o) (hl1 : 1 ≤ (f ++ o).length) (hl2 : (f ++ o).length ≤ 1000) :
    Calls Tryz.prog 92 #[.slice (some ⟨w.heap.size, 0, none⟩) 2 2] (w.alloc (.cells #[.slice a f.length ca, .slice b o.length cb] 24)) fun e w' =>
      ∃ a' c', e = .returned (.slice a' (f ++ o).length c') ∧ RowN .u8 w' a' c' (f ++ o) ∧ Below w.heap.size w w' := by
  have hb := box_below' w (.cells #[.slice a f.length ca, .slice b o.length cb] 24)
  have hfl : (([(a, ca, f), (b, cb, o)] : List (Option Addr × Nat × List Nat)).flatMap fun x => x.2.2) = f ++ o := by simp
  have hR := RowS.lit encSl w [(a, ca, f), (b, cb, o)] 24 #[.slice a f.length ca, .slice b o.length cb] _ rfl (by simp [flat, encSl]) (by simp)
  have h := slices_concat (some ⟨w.heap.size, 0, none⟩) 2 [(a, ca, f), (b, cb, o)] _ hR ?_ (by rw [hfl]; exact hl1) (by rw [hfl]; exact hl2) (by simp)
  · rw [hfl] at h
    refine h.mono ?_
    rintro e w' ⟨a', c', rfl, hr, hb2⟩
    exact ⟨a', c', rfl, hr, hb.trans (hb2.mono (by simp))⟩
  · intro x hx
    simp only [List.mem_cons, List.not_mem_nil, or_false] at hx
    rcases hx with rfl | rfl
    · exact h1.below hb
    · exact h2.below hb
theorem own_from {k : IntKind} {E : TypeId} {w : World} {base cap b : Nat} {a : Option Addr} {l : List Nat} (h : OwnN E k w base a cap l) (hb : b ≤ base) : ∀ x, a = some x → b ≤ x.block := by
  intro x hx
  rcases h.form with ⟨h1, _⟩ | ⟨g, h1, h2, _⟩
  · rw [h1] at hx; cases hx
  · rw [h1] at hx; cases hx; exact Nat.le_trans hb h2
theorem sgN_lt (f : List Nat) (k : Nat) (hk : k < sgN f) : oneB (sgI f k) = true := by
  unfold sgN at hk
  split at hk
  · next h0 =>
    split at hk
    · next h1 =>
      rcases (show k = 0 ∨ k = 1 by omega) with rfl | rfl
      · exact h0
      · exact h1
    · obtain rfl : k = 0 := by omega
      exact h0
  · omega
theorem sgI_le (f : List Nat) (M : Nat) (h : ∀ x ∈ f, x ≤ M) : ∀ k, k ≤ f.length → ∀ x ∈ sgI f k, x ≤ M + 1 := by
  intro k hk x hx
  obtain ⟨c, hc, rfl⟩ := List.getElem_of_mem hx
  have h1 := sgI_get f k c hk
  rw [List.getD_eq_getElem?_getD, List.getElem?_eq_getElem hc] at h1
  simp only [Option.getD_some] at h1
  rw [h1]
  have := M04.getD_le h c
  split <;> omega
set_option maxRecDepth 100000 in
set_option maxHeartbeats 3200000 in
theorem header_signs (a b : Option Addr) (ca cb : Nat) (f o : List Nat) (w : World) (h1 : RowN .u8 w a ca f) (h2 : RowN .u8 w b cb o) (hl1 : 1 ≤ (f ++ o).length) (hl2 : (f ++ o).length ≤ 1000) (h15 : ∀ x ∈ f ++ o, x ≤ 15) :
    Calls Tryz.prog 47 #[.slice a f.length ca, .slice b o.length cb] w fun e w' => ∃ a1 c1 a2 c2, e = .returned (.tuple #[.slice a1 (pack (f ++ o)).length c1, .slice a2 19 c2]) ∧ RowS encSg w' a1 c1 (pack (f ++ o)) ∧ RowN .u8 w' a2 c2 (sgLens (pack (f ++ o))) ∧ Below w.heap.size w w' ∧ (∀ x, a1 = some x → w.heap.size ≤ x.block) ∧ (∀ x, a2 = some x → w.heap.size ≤ x.block) := by
  have HC := Lib.hid (concat2 a b ca cb f o w h1 h2 hl1 hl2)
  have H15 := Lib.hid h15
  obtain ⟨_, hok, hpl⟩ := pack_unp (f ++ o) h15
  have HOK := Lib.hid hok
  clear h1 h2 h15 hok
  generalize hL : f ++ o = L at *
  clear hL
  obtain ⟨l, hl0⟩ : ∃ l, pack L = l := ⟨_, rfl⟩
  rw [hl0] at HOK hpl ⊢
  have HL0 := Lib.hid hl0
  clear hl0
  obtain ⟨sl, hsl0⟩ : ∃ sl, sgLens l = sl := ⟨_, rfl⟩
  rw [hsl0]
  have HSL0 := Lib.hid hsl0
  clear hsl0
  go_enter Tryz.func47, Tryz.ntmps47
  go_wp2_with fail
  refine HC.out.mono ?_
  rintro e w1 ⟨a1, c1, rfl, hr1, hb1⟩
  have HP := Lib.hid (by have := repeat_pack a1 c1 L w1 hr1 H15.out hl2; rw [HL0.out] at this; exact this)
  have HB1 := Lib.hid hb1
  clear hr1 hb1 HC
  go_wp2_with fail
  refine HP.out.mono ?_
  rintro e w2 ⟨pa, pc, rfl, ho, hb⟩
  have HR2 := Lib.hid ho.row
  have HB2 := Lib.hid (HB1.out.trans (hb.mono HB1.out.size))
  have hsz12 := hb.size
  have HPA := Lib.hid (show ∀ x, pa = some x → w.heap.size ≤ x.block from fun x hx => by
    have := HB1.out.size
    rcases ho.form with ⟨h, _⟩ | ⟨g, h, h2, _⟩
    · rw [h] at hx; cases hx
    · rw [h] at hx; cases hx; exact Nat.le_trans this h2)
  clear ho hb HP HB1 H15
  have hl1000 : l.length ≤ 1000 := by omega
  clear hpl hl1 hl2
  go_wp2_with (at_make; refine makeN (n := 19) et_int rfl _ _ rfl w2.heap.size rfl rfl (by decide) (by decide) (Nat.le_refl _) ?_; intro w3 hown3 hg3; have HU3 := Lib.hid hown3; have HB3 := Lib.hid (Below.of_grown hg3 (Nat.le_refl _) (fun g hg => by cases hg)); clear hown3 hg3)
  go_loopw [10, 25] (fun _ i A => ∃ k, i = .int .i64 (k : Nat) ∧ k ≤ l.length ∧ OwnN 3 .i64 A w2.heap.size (some ⟨w2.heap.size, 0, none⟩) 19 (sgC (l.take k)) ∧ Below w2.heap.size w2 A) (fun _ i _ => l.length - (intOf i).toNat)
  case atStart => exact ⟨0, rfl, Nat.zero_le _, HU3.out, HB3.out⟩
  case round =>
    clear HU3 HB3
    obtain ⟨k, rfl, hk, hown, hbel⟩ := hrel
    have HBEL := Lib.hid hbel
    by_cases hlt : k < l.length
    · have b1 : decide (k < l.length) = true := by simp; omega
      have hrA := HR2.out.below hbel
      obtain ⟨b, off, rfl, hb, hcl⟩ := hrA.at hlt
      have c0 := hcl 0 _ rfl
      have c1 := hcl 1 _ rfl
      have hs := HOK.out _ (List.getElem_mem hlt)
      have hc18 := hs.1
      have hx := hs.lt
      have hsn := sgC_snoc (l.take k) l[k] (by omega)
      rw [← M04.take_snoc l k hlt] at hsn
      have hle := sgC_le (l.take k)
      rw [List.length_take] at hle
      have h19 := sgC_len (l.take k)
      have hcl19 : l[k].1 < (sgC (l.take k)).length := by omega
      have hgd : (sgC (l.take k)).getD l[k].1 0 = (sgC (l.take k))[l[k].1]'hcl19 := by rw [List.getD_eq_getElem?_getD, List.getElem?_eq_getElem hcl19]; rfl
      have hv := hle _ (List.getElem_mem hcl19)
      rw [hgd] at hsn
      have HAT := Lib.hid (fun ob => (hown.alloc ob).at hcl19)
      have HST0 := Lib.hid (fun ob v => (hown.alloc ob).stored l[k].1 v)
      clear hgd hle hrA hcl hs hown hbel
      generalize (sgC (l.take k))[l[k].1]'hcl19 = v at *
      generalize l[k] = s at *
      obtain ⟨c, x⟩ := s
      simp only [encSg, Nat.add_zero] at c0 c1
      rw [← Nat.add_assoc] at c1
      simp only at hsn hx hc18 HAT HST0
      obtain ⟨v1, hv1⟩ : ∃ v1, v + 1 = v1 := ⟨_, rfl⟩
      have qv : (v : Int) + 1 = (v1 : Int) := by omega
      rw [hv1] at hsn
      have HST := Lib.hid (fun ob => (by have := HST0.out ob v1; rw [← hsn] at this; exact this : _))
      have hc19 : (c : Int) < 19 := by omega
      have qk : (k : Int) < (l.length : Int) := by omega
      have HK := Lib.hid hk
      clear hsn HST0 hv1 hk
      obtain ⟨g9, hg9, _, _, hoc2, hof2⟩ := HAT.out (.cells #[.int .u8 (c : Nat), .int .u8 (x : Nat)] 95)
      simp only [Option.some.injEq, Addr.mk.injEq, and_true] at hg9
      subst hg9
      obtain ⟨e0, e1⟩ := box2_cells wr (.int .u8 (c : Nat)) (.int .u8 (x : Nat)) 95
      have HSTW := Lib.hid (HST.out (.cells #[.int .u8 (c : Nat), .int .u8 (x : Nat)] 95))
      have HBW := Lib.hid (HBEL.out.trans ((box_b wr (.cells #[.int .u8 (c : Nat), .int .u8 (x : Nat)] 95)).mono HBEL.out.size))
      clear HAT HST HBEL
      go_wp2_with fail
      go_roundw
      case rel => exact ⟨k + 1, by go_num, by omega, HSTW.out.1, HBW.out.trans (Below.of_grown HSTW.out.2 HBW.out.size (fun g hg => by cases hg; exact Nat.le_refl _))⟩
      case measure => simp [intOf]; omega
    · have b1 : decide (k < l.length) = false := by simp; omega
      obtain rfl : k = l.length := by omega
      rw [List.take_of_length_le (Nat.le_refl _)] at hown
      have hF := sgC_le l
      have hF19 := sgC_len l
      have HSF : Hid (limL (sgF (sgC l)) 7 = sl) := HSL0.out
      have hgr := sgF_rar l
      have hone := oneB_sgF (sgC l) (by omega)
      have hus := used_le (sgF (sgC l))
      have hsl := sgF_len l
      have HU4 := Lib.hid hown
      have hle3 := sgN_le (sgC l)
      unfold sgF at HSF hgr hone hus hsl
      clear hown hbel hlt
      generalize sgC l = F at *
      have HONE := Lib.hid hone
      have HLT := Lib.hid (sgN_lt F)
      have HF := Lib.hid (sgI_le F l.length hF)
      have HGR := Lib.hid hgr
      have HLL := Lib.hid (sgI_len F)
      clear hone hF hgr
      generalize hw4 : wr = w4 at *
      clear hw4
      go_wp2_with fail
      go_loopw [11] (fun x A => ∃ k, x = .int .i64 (k : Nat) ∧ k ≤ sgN F ∧ OwnN 3 .i64 A w2.heap.size (some ⟨w2.heap.size, 0, none⟩) 19 (sgI F k) ∧ Below w2.heap.size w2 A) (fun x _ => sgN F - (intOf x).toNat)
      case atStart => exact ⟨0, rfl, Nat.zero_le _, HU4.out, HBEL.out⟩
      case round =>
        clear HU4 HBEL
        obtain ⟨k, rfl, hk, hown, hbel⟩ := hrel
        have HB5 := Lib.hid hbel
        have hl19 : (sgI F k).length = 19 := by rw [HLL.out, hF19]
        have hX : oneB (sgI F k) = (fstF (sgI F k) 0 19 == lstF (sgI F k) 19) := by unfold oneB; rw [hl19]
        have HI1 := Lib.hid (fun A (h : RowN .i64 A (some ⟨w2.heap.size, 0, none⟩) 19 (sgI F k)) => (by have := first_index (some ⟨w2.heap.size, 0, none⟩) 19 (sgI F k) A h; rw [hl19] at this; exact this : _))
        have HI2 := Lib.hid (fun A (h : RowN .i64 A (some ⟨w2.heap.size, 0, none⟩) 19 (sgI F k)) => (by have := last_index (some ⟨w2.heap.size, 0, none⟩) 19 (sgI F k) A h (by omega); rw [hl19] at this; exact this : _))
        have HROW := Lib.hid hown.row
        generalize fstF (sgI F k) 0 19 = X at *
        generalize lstF (sgI F k) 19 = Y at *
        clear hbel
        by_cases hkn : k < sgN F
        · have hb2 : (X == Y) = true := by rw [← hX]; exact HLT.out k hkn
          have hk19 : k < (sgI F k).length := by omega
          have hgd : (sgI F k).getD k 0 = (sgI F k)[k]'hk19 := by rw [List.getD_eq_getElem?_getD, List.getElem?_eq_getElem hk19]; rfl
          have hv := HF.out k (by omega) _ (List.getElem_mem hk19)
          have hsn : sgI F (k + 1) = (sgI F k).set k ((sgI F k)[k]'hk19 + 1) := by rw [← hgd]; rfl
          obtain ⟨g9, hg9, _, _, hoc2, hof2⟩ := hown.at hk19
          simp only [Option.some.injEq, Addr.mk.injEq, and_true] at hg9
          subst hg9
          generalize (sgI F k)[k]'hk19 = v at *
          obtain ⟨v1, hv1⟩ : ∃ v1, v + 1 = v1 := ⟨_, rfl⟩
          have qv : (v : Int) + 1 = (v1 : Int) := by omega
          rw [hv1] at hsn
          have hst := hown.stored k v1
          rw [← hsn] at hst
          have HST := Lib.hid hst
          have qk : (k : Int) < 19 := by omega
          clear hst hsn hgd hX hown hv1
          go_wp2_with (first | (go_at_call 93; refine (HI1.out _ HROW.out).mono ?_; rintro e w' ⟨rfl, rfl⟩) | (go_at_call 95; refine (HI2.out _ HROW.out).mono ?_; rintro e w' ⟨rfl, rfl⟩))
          go_roundw
          case rel => exact ⟨k + 1, by go_num, by omega, HST.out.1, HB5.out.trans (Below.of_grown HST.out.2 HB5.out.size (fun g hg => by cases hg; exact Nat.le_refl _))⟩
          case measure => simp [intOf]; omega
        · obtain rfl : k = sgN F := by omega
          have hb2 : (X == Y) = false := by rw [← hX]; exact HONE.out
          have HLI := Lib.hid (fun A (h : RowN .i64 A (some ⟨w2.heap.size, 0, none⟩) 19 (sgI F (sgN F))) => limit_lengths A (some ⟨w2.heap.size, 0, none⟩) 19 (sgI F (sgN F)) 7 h (by omega) (by have := (rar_perm (sgI F (sgN F))).length_eq; have := HGR.out.2; omega) (fun x hx => by have := HF.out (sgN F) (by omega) x hx; omega) (by decide) (by decide) (by have := HGR.out.2; omega))
          rw [hl19] at HLI
          clear hX hown hkn
          go_wp2_with (first | (go_at_call 93; refine (HI1.out _ HROW.out).mono ?_; rintro e w' ⟨rfl, rfl⟩) | (go_at_call 95; refine (HI2.out _ HROW.out).mono ?_; rintro e w' ⟨rfl, rfl⟩) | (go_at_call 45; refine (HLI.out _ HROW.out).mono ?_; rintro e w6 ⟨la, lc, rfl, ho6, hb6⟩; have HO6 := Lib.hid ho6.row; have HLA := Lib.hid (own_from ho6 (Nat.le_trans HB2.out.size HB5.out.size)); have HB6 := Lib.hid (HB5.out.trans (hb6.mono HB5.out.size)); clear ho6 hb6))
          go_ret2
          exact ⟨_, _, _, _, rfl, HR2.out.below HB6.out, by rw [← HSF.out]; exact HO6.out, HB2.out.trans (HB6.out.mono HB2.out.size), HPA.out, HLA.out⟩
end Go.Proofs.YtendielanacflaaGreat
namespace Go.Proofs.YtendielanacflaaGreat
open Go.RowKit Go.Shelf M01 M04 M05 M06 M07 M09
attribute [local go_sem] Oper.semAt_some
set_option linter.unusedVariables false
set_option linter.unusedSimpArgs false
theorem ldU8h (p : Addr) (v : Value) (w : World) (h : w.cell? p = some v) : (Instr.loadAt 5 (.pointer (some p))).run Tryz.prog w = .ok v w := by
  simp [Instr.loadAt, Instr.sureAddr, loadVar, isAgg, run_underlying Tryz.underlying5, h, go_sem]
theorem put3_len (lens : List Nat) (s : Wst) (k : Nat) : (put3 lens s k).2 = s.2 + 3 * k := by
  induction k with
  | zero => rfl
  | succ k ih => show (addNum _ _ 3).2 = _; rw [addNum_len, ih]; omega
theorem put14_len (s : Wst) (a b n : Nat) : (put14 s a b n).2 = s.2 + 14 := by unfold put14; rw [addNum_len, addNum_len, addNum_len]
theorem addSym_len (lens : List Nat) (s : Wst) (c : Nat) : (addSym lens s c).2 = s.2 + lens.getD c 0 := addWord_len _ _ _ _
theorem rbits_le (c : Nat) : rbits c ≤ 7 := by unfold rbits; split <;> (try split) <;> (try split) <;> omega
theorem putsS_len' (lens : List Nat) (hl : ∀ x ∈ lens, x ≤ 7) : ∀ (l : List Sg) (s : Wst), (putsS lens s l).2 ≤ s.2 + 14 * l.length := by
  intro l
  induction l with
  | nil => intro s; exact Nat.le_refl _
  | cons g l ih =>
    intro s
    have := ih (putS lens s g)
    have h2 := M04.getD_le hl g.1
    have h3 := rbits_le g.1
    have h4 : (putS lens s g).2 = s.2 + lens.getD g.1 0 + rbits g.1 := by unfold putS; rw [addNum_len, addSym_len]
    show (putsS lens (putS lens s g) l).2 ≤ _
    rw [List.length_cons]
    omega
theorem putsS_snoc (lens : List Nat) (s : Wst) (l : List Sg) (g : Sg) : putsS lens s (l ++ [g]) = putS lens (putsS lens s l) g := by unfold putsS; rw [List.foldl_append]; rfl
theorem Wr.monoP {P Q : Nat → Prop} {w : World} {p : Nat} {s : Wst} (h : Wr P w p s) (hq : ∀ k, P k → Q k) : Wr Q w p s := by
  obtain ⟨⟨a, c, h1, h2, h3, h4, h5⟩, h6⟩ := h
  exact ⟨⟨a, c, h1, h2, hq _ h3, fun g hg => ⟨hq _ (h4 g hg).1, (h4 g hg).2⟩, fun b hb => hq _ (h5 b hb)⟩, h6⟩
theorem words_lt (l : List Nat) (c : Nat) (hc : c < l.length) (h20 : ∀ x ∈ l, x ≤ 20) (hw : weight l ≤ 2 ^ 20) : (words l).getD c 0 < 4294967296 := by
  have hwd : (words l).getD c 0 = word l c := by
    rw [List.getD_eq_getElem?_getD, List.getElem?_eq_getElem (by rw [words_length]; exact hc)]
    exact words_getElem l c _
  have h1 := word_small l c hc h20 hw
  have h2 := M04.getD_le h20 c
  have h3 : word l c < 2 ^ l.getD c 0 := by
    rcases Nat.lt_or_ge (word l c) (2 ^ l.getD c 0) with h | h
    · exact h
    · have := Nat.div_pos h (Nat.pow_pos (by decide)); omega
  have h4 : 2 ^ l.getD c 0 ≤ 2 ^ 20 := Nat.pow_le_pow_right (by decide) h2
  rw [hwd]; omega
theorem wordsE_ok (l : List Nat) (h20 : ∀ x ∈ l, x ≤ 20) (hl : l.length ≤ 512) (hw : weight l ≤ 2 ^ 20) : (wordsE l).2 = 0 := by
  unfold wordsE
  rw [if_neg (fun h => h ⟨h20, hl⟩), if_neg (by omega)]
theorem ordL_at (k : Nat) (h : k < ordL.length) : ordL[k] = ordL.getD k 0 := by simp [h]
def PutOut (P : Nat → Prop) (w : World) (p : Nat) (s T : Wst) (b : Bool) (e : Ending) (w' : World) : Prop :=
  Only P w w' ∧ match b with
    | true => e = .returned (.int .i64 0) ∧ Wr P w' p T
    | false => e = .returned (.int .i64 5) ∧ Wr P w' p s
set_option maxRecDepth 100000 in
set_option maxHeartbeats 6400000 in
theorem header_put {P : Nat → Prop} {w : World} {p : Nat} {s : Wst} (hW : Wr P w p s) (a b : Option Addr) (ca cb : Nat) (f o : List Nat) (h1 : RowN .u8 w a ca f) (h2 : RowN .u8 w b cb o) (hf : f.length ≤ 1000) (ho : o.length ≤ 1000) (hs : s.2 + 6000 ≤ 100000000) :
    Calls Tryz.prog 23 #[.pointer (some ⟨p, 0, none⟩), .slice a f.length ca, .slice b o.length cb] w fun e w' => PutOut P w p s (hputW s f o) (mayH f o) e w' := by
  have HM := Lib.hid (hdr_may a b ca cb f o w h1 h2 hf ho)
  have HW := Lib.hid hW
  cases hm : mayH f o with
  | false =>
    rw [hm] at HM
    clear h1 h2 hW hm
    go_enter Tryz.func23, Tryz.ntmps23
    go_wp2_with (go_at_call 46; refine HM.out.mono ?_; rintro e w' ⟨rfl, rfl⟩)
    go_ret
    exact ⟨.refl _ _, rfl, HW.out⟩
  | true =>
    rw [hm] at HM
    obtain ⟨m1, m2, m3, m4, m5, m6⟩ := mayH_facts hm
    have h15 : ∀ x ∈ f ++ o, x ≤ 15 := by
      intro x hx
      rcases List.mem_append.1 hx with h | h
      · exact m5 x h
      · exact m6 x h
    have HSG := Lib.hid (header_signs a b ca cb f o w h1 h2 (by rw [List.length_append]; omega) (by rw [List.length_append]; omega) h15)
    obtain ⟨_, hok, hpl⟩ := pack_unp (f ++ o) h15
    rw [List.length_append] at hpl
    obtain ⟨l, hl⟩ : ∃ l, pack (f ++ o) = l := ⟨_, rfl⟩
    rw [hl] at HSG hok hpl
    have hlen := sgLens_len l
    have hle := sgLens_le7 l
    have hwt := sgLens_weight l
    have hpos := fun g hg => sgLens_pos l g hg (hok g hg).1
    obtain ⟨T, hT⟩ : ∃ T, hputW s f o = T := ⟨_, rfl⟩
    rw [hT]
    have HT := Lib.hid hT
    unfold hputW hputL at HT
    rw [hl] at HT
    generalize sgLens l = lens at *
    have HOK := Lib.hid hok
    have HLE := Lib.hid hle
    have HPOS := Lib.hid hpos
    have HWT := Lib.hid hwt
    have hN19 := cutN_le lens 19
    have hN4 := cutN_ge lens 19 (by decide)
    obtain ⟨N, hN⟩ : ∃ N, cutN lens 19 = N := ⟨_, rfl⟩
    rw [hN] at HT hN19 hN4
    have HN := Lib.hid hN
    have hl1000 : l.length ≤ 400 := by omega
    clear h1 h2 hW hm m5 m6 h15 hok hpl hl hT hle hwt hpos hN
    go_enter Tryz.func23, Tryz.ntmps23
    go_wp2_with (first | (go_at_call 46; refine HM.out.mono ?_; rintro e w' ⟨rfl, hww⟩; replace hww := hww.symm; subst hww) | (go_at_call 47; refine HSG.out.mono ?_; rintro e w2 ⟨pa, pc, la, lc, rfl, hr1, hr2, hb2, hpa, hla⟩) | (go_at_call 48; refine (hdr_order w2).mono ?_; rintro e w5 ⟨rfl, rfl⟩))
    obtain ⟨lb, lof, hla0, _, _⟩ := hr2.at (show 0 < lens.length by omega)
    subst hla0
    have hb25 := box_b w2 (.cells #[.int .u8 16, .int .u8 17, .int .u8 18, .int .u8 0, .int .u8 8, .int .u8 7, .int .u8 9, .int .u8 6, .int .u8 10, .int .u8 5, .int .u8 11, .int .u8 4, .int .u8 12, .int .u8 3, .int .u8 13, .int .u8 2, .int .u8 14, .int .u8 1, .int .u8 15] 5)
    have hszo : w2.heap.size < (w2.alloc (.cells #[.int .u8 16, .int .u8 17, .int .u8 18, .int .u8 0, .int .u8 8, .int .u8 7, .int .u8 9, .int .u8 6, .int .u8 10, .int .u8 5, .int .u8 11, .int .u8 4, .int .u8 12, .int .u8 3, .int .u8 13, .int .u8 2, .int .u8 14, .int .u8 1, .int .u8 15] 5)).heap.size := by simp
    have HORD := Lib.hid (show RowN .u8 _ (some ⟨w2.heap.size, 0, none⟩) 19 ordL from rowN_lit .u8 w2 ordL 5 #[.int .u8 16, .int .u8 17, .int .u8 18, .int .u8 0, .int .u8 8, .int .u8 7, .int .u8 9, .int .u8 6, .int .u8 10, .int .u8 5, .int .u8 11, .int .u8 4, .int .u8 12, .int .u8 3, .int .u8 13, .int .u8 2, .int .u8 14, .int .u8 1, .int .u8 15] w2.heap.size rfl rfl (by decide))
    have HB5 := Lib.hid (hb2.trans (hb25.mono hb2.size))
    have HR1 := Lib.hid (hr1.below hb25)
    have HR2 := Lib.hid (hr2.below hb25)
    have hw2s := hb2.size
    clear hb25 hr1 hr2 hb2
    obtain ⟨ob, hob⟩ : ∃ ob, w2.heap.size = ob := ⟨_, rfl⟩
    simp only [hob] at hszo HORD hw2s
    simp only [hob]
    generalize w2.alloc (.cells #[.int .u8 16, .int .u8 17, .int .u8 18, .int .u8 0, .int .u8 8, .int .u8 7, .int .u8 9, .int .u8 6, .int .u8 10, .int .u8 5, .int .u8 11, .int .u8 4, .int .u8 12, .int .u8 3, .int .u8 13, .int .u8 2, .int .u8 14, .int .u8 1, .int .u8 15] 5) = w5 at *
    clear hob
    have HWN := Lib.hid (HW.out.narrow HB5.out)
    have HPA := Lib.hid hpa
    have HLA := Lib.hid hla
    obtain ⟨P1, hP1⟩ : ∃ P1, Sub P w.heap.size w5.heap.size = P1 := ⟨_, rfl⟩
    rw [hP1] at HWN
    have HP1 := Lib.hid (fun k => (by rw [← hP1]; unfold Sub; exact Iff.rfl : P1 k ↔ (P k ∧ ¬ (w.heap.size ≤ k ∧ k < w5.heap.size))))
    clear hP1 hpa hla HW
    -- the rows stay as they are
    have HRS := Lib.hid (fun A (h : Only P1 w5 A) => (show RowS encSg A pa pc l from HR1.out.same h.size (fun x h0 hx => by
      obtain ⟨b', off, he, hlt, _⟩ := HR1.out.at h0
      rw [hx] at he; cases he
      exact h.block _ hlt (fun hp => (HP1.out _ |>.1 hp).2 ⟨HPA.out _ hx, hlt⟩))))
    have HRL := Lib.hid (fun A (h : Only P1 w5 A) => (show RowN .u8 A (some ⟨lb, lof, none⟩) lc lens from HR2.out.same h.size (fun x h0 hx => by
      obtain ⟨b', off, he, hlt, _⟩ := HR2.out.at h0
      rw [hx] at he; cases he
      exact h.block _ hlt (fun hp => (HP1.out _ |>.1 hp).2 ⟨HLA.out _ hx, hlt⟩))))
    have HRO := Lib.hid (fun A (h : Only P1 w5 A) => (show RowN .u8 A (some ⟨ob, 0, none⟩) 19 ordL from HORD.out.same h.size (fun x h0 hx => by
      cases hx
      exact h.block _ hszo (fun hp => (HP1.out _ |>.1 hp).2 ⟨hw2s, hszo⟩))))
    clear HORD HR1 HR2 HPA HLA
    go_loopw [10] (fun x A => ∃ k, x = .int .i64 (k : Nat) ∧ k ≤ 19 ∧ cutN lens k = N ∧ A = w5) (fun x _ => (intOf x).toNat)
    case atStart => exact ⟨19, rfl, Nat.le_refl _, HN.out, rfl⟩
    case round =>
      obtain ⟨k, rfl, hk, hcut, rfl⟩ := hrel
      have hstop : k = N → ∃ v : Bool, True := fun _ => ⟨true, trivial⟩
      clear hstop
      have hrowL := HRL.out wr (.refl _ _)
      have hrowO := HRO.out wr (.refl _ _)
      by_cases h4 : 4 < k
      · have b1 : decide (4 < k) = true := by simp; omega
        have b1' : decide ((4 : Int) < (k : Int)) = true := by simp; omega
        obtain ⟨j, rfl⟩ : ∃ j, k = j + 1 := ⟨k - 1, by omega⟩
        have hj19 : j < ordL.length := by show j < 19; omega
        obtain ⟨b1, off1, he1, _, hck⟩ := hrowO.at hj19
        simp only [Option.some.injEq, Addr.mk.injEq, and_true] at he1
        obtain ⟨rfl, rfl⟩ := he1
        rw [Nat.zero_add] at hck
        have hc19 := ord_lt ⟨j, by omega⟩
        simp only at hc19
        rw [ordL_at j hj19] at hck
        have hcl : ordL.getD j 0 < lens.length := by omega
        obtain ⟨b2, off2, hla2, _, hvk⟩ := hrowL.at hcl
        simp only [Option.some.injEq, Addr.mk.injEq, and_true] at hla2
        obtain ⟨rfl, rfl⟩ := hla2
        have hgd : lens.getD (ordL.getD j 0) 0 = lens[ordL.getD j 0]'hcl := by rw [List.getD_eq_getElem?_getD, List.getElem?_eq_getElem hcl]; rfl
        unfold cutN at hcut
        rw [hgd] at hcut
        have hv7 := HLE.out _ (List.getElem_mem hcl)
        generalize lens[ordL.getD j 0]'hcl = v at *
        generalize ordL.getD j 0 = c at *
        obtain ⟨j1, hj1⟩ : ∃ j1, j + 1 = j1 := ⟨_, rfl⟩
        have qj : (j1 : Int) - 1 = (j : Int) := by omega
        have qjw : IntKind.i64.wrap (j : Int) = (j : Int) := IntWalk.i64_in _ (by omega)
        have qj19 : (j : Int) < 19 := by omega
        have qc19 : (c : Int) < 19 := by omega
        simp only [hj1] at b1 b1' hcut h4 hk
        simp only [hj1]
        by_cases hv0 : v = 0
        · rw [if_pos ⟨h4, hv0⟩] at hcut
          have HC := Lib.hid hcut
          have bv : ((v : Int) == 0) = true := by simp [hv0]
          clear hv0 hcut hgd
          go_wp2_with fail
          go_roundw
          case rel => exact ⟨j, rfl, by omega, HC.out, (by first | rfl | trivial)⟩
          case measure => simp [intOf]; omega
        · rw [if_neg (fun h => hv0 h.2)] at hcut
          have bv : ((v : Int) == 0) = false := beq_eq_false_iff_ne.2 (by omega)
          obtain rfl : N = j1 := by omega
          clear hv0 hcut hgd
          -- tail begins
          have hb0 := HRL.out wr (.refl _ _)
          clear hb0
          obtain ⟨fa, hfa⟩ : ∃ fa, f.length - 257 = fa := ⟨_, rfl⟩
          obtain ⟨oa, hoa⟩ : ∃ oa, o.length - 1 = oa := ⟨_, rfl⟩
          obtain ⟨n4, hn4⟩ : ∃ n4, N - 4 = n4 := ⟨_, rfl⟩
          have qfa : (f.length : Int) - 257 = (fa : Int) := by omega
          have qoa : (o.length : Int) - 1 = (oa : Int) := by omega
          have qn4 : (N : Int) - 4 = (n4 : Int) := by omega
          have HS14 := Lib.hid (show put14 s f.length o.length N = addNum (addNum (addNum s fa 5) oa 5) n4 4 from by unfold put14; rw [hfa, hoa, hn4])
          have hfa32 : fa < 32 := by omega
          have hoa32 : oa < 32 := by omega
          have hn416 : n4 < 16 := by omega
          have HL14 := Lib.hid (put14_len s f.length o.length N)
          have hcutN : (N : Int) ≤ 19 := by omega
          clear hfa hoa hn4
          go_wp2_with fail
          refine (lsb_put HWN.out fa 5 (by decide) hfa32 (by omega)).mono ?_
          rintro e w6 ⟨rfl, ho6, hw6⟩
          have HO6 := Lib.hid ho6
          have HW6 := Lib.hid hw6
          clear ho6 hw6
          go_wp2_with fail
          refine (lsb_put HW6.out oa 5 (by decide) hoa32 (by rw [addNum_len]; omega)).mono ?_
          rintro e w7 ⟨rfl, ho7, hw7⟩
          have HO7 := Lib.hid (HO6.out.trans ho7)
          have HW7 := Lib.hid hw7
          clear ho7 hw7 HO6 HW6
          go_wp2_with fail
          refine (lsb_put HW7.out n4 4 (by decide) hn416 (by rw [addNum_len, addNum_len]; omega)).mono ?_
          rintro e w8 ⟨rfl, ho8, hw8⟩
          have HO8 := Lib.hid (HO7.out.trans ho8)
          rw [← HS14.out] at hw8
          have HW8 := Lib.hid hw8
          clear ho8 hw8 HO7 HW7 HS14 qfa qoa qn4
          obtain ⟨s14, hs14⟩ : ∃ s14, put14 s f.length o.length N = s14 := ⟨_, rfl⟩
          rw [hs14] at HW8 HL14 HT
          clear hs14
          go_wp2_with fail
          go_loopw [12, 70] (fun _ i A => ∃ k, i = .int .i64 (k : Nat) ∧ k ≤ N ∧ Wr P1 A p (put3 lens s14 k) ∧ Only P1 wr A) (fun _ i _ => N - (intOf i).toNat)
          case atStart => exact ⟨0, rfl, Nat.zero_le _, HW8.out, HO8.out⟩
          case round =>
            clear HW8 HO8
            obtain ⟨k, rfl, hkN, hw9, ho9⟩ := hrel
            have HW9 := Lib.hid hw9
            have HO9 := Lib.hid ho9
            clear hw9 ho9
            by_cases hkl : k < N
            · have b5 : decide (k < N) = true := by simp; omega
              have hrowL := HRL.out _ HO9.out
              have hrowO := HRO.out _ HO9.out
              have hj19 : k < ordL.length := by show k < 19; omega
              obtain ⟨b1, off1, he1, _, hck⟩ := hrowO.at hj19
              simp only [Option.some.injEq, Addr.mk.injEq, and_true] at he1
              obtain ⟨rfl, rfl⟩ := he1
              rw [Nat.zero_add] at hck
              have hc19 := ord_lt ⟨k, by omega⟩
              simp only at hc19
              rw [ordL_at k hj19] at hck
              have hcl : ordL.getD k 0 < lens.length := by omega
              obtain ⟨b2, off2, hla2, _, hvk⟩ := hrowL.at hcl
              simp only [Option.some.injEq, Addr.mk.injEq, and_true] at hla2
              obtain ⟨rfl, rfl⟩ := hla2
              have hgd : lens.getD (ordL.getD k 0) 0 = lens[ordL.getD k 0]'hcl := by rw [List.getD_eq_getElem?_getD, List.getElem?_eq_getElem hcl]; rfl
              have hp3 : put3 lens s14 (k + 1) = addNum (put3 lens s14 k) (lens.getD (ordL.getD k 0) 0) 3 := rfl
              have hp3l := put3_len lens s14 k
              rw [hgd] at hp3
              have hv7 := HLE.out _ (List.getElem_mem hcl)
              generalize lens[ordL.getD k 0]'hcl = v at *
              generalize ordL.getD k 0 = c at *
              have qk : (k : Int) < (N : Int) := by omega
              have qc19 : (c : Int) < 19 := by omega
              have HP3 := Lib.hid hp3
              have h3 := HL14.out
              have HPT := Lib.hid (lsb_put HW9.out v 3 (by decide) (by omega) (by omega))
              rw [← hp3] at HPT
              clear hp3 hp3l hgd hrowL hrowO h3
              go_wp2_with (go_at_call 18; refine HPT.out.mono ?_; rintro e w9 ⟨rfl, ho10, hw10⟩; have HW10 := Lib.hid hw10; have HO10 := Lib.hid (HO9.out.trans ho10); clear hw10 ho10)
              go_roundw
              case rel => exact ⟨k + 1, by go_num, by omega, HW10.out, HO10.out⟩
              case measure => simp [intOf]; omega
            · have b5 : decide (k < N) = false := by simp; omega
              obtain rfl : N = k := by omega
              have hrowL := HRL.out _ HO9.out
              have hwo := wordsE_ok lens (fun x hx => Nat.le_trans (HLE.out x hx) (by decide)) (by omega) (by rw [HWT.out]; exact Nat.le_refl _)
              generalize hwq : wr = w9 at *
              have HNW := Lib.hid ((prefix_new (some ⟨lb, lof, none⟩) lc lens w9 hrowL).mono (fun e w' h => (show Below w9.heap.size w9 w' ∧ ∃ tp, e = .returned (.tuple #[.pointer (some ⟨tp, 0, none⟩), .int .i64 0]) ∧ Tb w9.heap.size w'.heap.size w' tp lens from by
                obtain ⟨z1, z2⟩ := h
                rw [if_pos hwo] at z2
                exact ⟨z1, z2⟩)))
              rw [hlen] at HNW
              clear hwo hrowL hwq
              obtain ⟨s15, hs15⟩ : ∃ s15, put3 lens s14 N = s15 := ⟨_, rfl⟩
              have HL15 := put3_len lens s14 N
              rw [hs15] at HW9 HT HL15
              clear hs15
              go_wp2_with (go_at_call 41; refine HNW.out.mono ?_; rintro e w10 ⟨hb10, tp, rfl, htb⟩; have HB10 := Lib.hid hb10; have HTB := Lib.hid htb; clear hb10 htb)
              have HWB := Lib.hid (HW9.out.narrow HB10.out)
              obtain ⟨P2, hP2⟩ : ∃ P2, Sub P1 w9.heap.size w10.heap.size = P2 := ⟨_, rfl⟩
              rw [hP2] at HWB
              have HP2 := Lib.hid (fun k => (by rw [← hP2]; unfold Sub; exact Iff.rfl : P2 k ↔ (P1 k ∧ ¬ (w9.heap.size ≤ k ∧ k < w10.heap.size))))
              have HOB := Lib.hid (HO9.out.trans (Only.ofBelow HB10.out))
              have HRS2 := Lib.hid (fun A (h : Only P2 w10 A) => HRS.out A (HOB.out.trans (h.mono (fun k _ hk => (HP2.out k |>.1 hk).1))))
              have HTB2 := Lib.hid (fun A (h : Only P2 w10 A) => HTB.out.only h (fun b h1 h2 hb => (HP2.out b |>.1 hb).2 ⟨h1, h2⟩))
              have h14 := HL14.out
              clear hP2 HNW HW9
              go_loopw [16, 89] (fun _ i A => ∃ k, i = .int .i64 (k : Nat) ∧ k ≤ l.length ∧ Wr P2 A p (putsS lens s15 (l.take k)) ∧ Only P2 w10 A) (fun _ i _ => l.length - (intOf i).toNat)
              case atStart => exact ⟨0, rfl, Nat.zero_le _, HWB.out, .refl _ _⟩
              case round =>
                clear HWB
                obtain ⟨k, rfl, hkl2, hw11, ho11⟩ := hrel
                have HW11 := Lib.hid hw11
                have HO11 := Lib.hid ho11
                clear hw11 ho11
                by_cases hlt : k < l.length
                · have b6 : decide (k < l.length) = true := by simp; omega
                  have hrA := HRS2.out _ HO11.out
                  obtain ⟨b, off, hpa, hb, hcl⟩ := hrA.at hlt
                  subst hpa
                  have c0 := hcl 0 _ rfl
                  have c1 := hcl 1 _ rfl
                  have hs := HOK.out _ (List.getElem_mem hlt)
                  have hps := HPOS.out _ (List.getElem_mem hlt)
                  have hsn := putsS_snoc lens s15 (l.take k) l[k]
                  rw [← M04.take_snoc l k hlt] at hsn
                  have hbd := putsS_len' lens HLE.out (l.take k) s15
                  rw [List.length_take] at hbd
                  have htbA := HTB2.out _ HO11.out
                  clear hcl hrA
                  generalize l[k] = sg at *
                  obtain ⟨c, x⟩ := sg
                  simp only [encSg, Nat.add_zero] at c0 c1
                  rw [← Nat.add_assoc] at c1
                  have hc18 : c ≤ 18 := hs.1
                  have hx := hs.2
                  simp only at hx hps
                  unfold putS at hsn
                  simp only at hsn
                  have hrb := rbits_le c
                  have hc7 := M04.getD_le HLE.out c
                  have hwl := words_lt lens c (by omega) (fun x hx => Nat.le_trans (HLE.out x hx) (by decide)) (by rw [HWT.out]; exact Nat.le_refl _)
                  generalize putsS lens s15 (l.take k) = st at *
                  obtain ⟨nb, hnb⟩ : ∃ nb, wr.heap.size = nb := ⟨_, rfl⟩
                  have hbx := box_b wr (.cells #[.int .u8 (c : Nat), .int .u8 (x : Nat)] 95)
                  have hnw := HW11.out.narrow hbx
                  have hsz : (wr.alloc (.cells #[.int .u8 (c : Nat), .int .u8 (x : Nat)] 95)).heap.size = nb + 1 := by simp [hnb]
                  rw [hsz, hnb] at hnw
                  obtain ⟨e0, e1⟩ := box2_cells wr (.int .u8 (c : Nat)) (.int .u8 (x : Nat)) 95
                  rw [hnb] at e0 e1 hbx
                  obtain ⟨P3, hP3⟩ : ∃ P3, Sub P2 nb (nb + 1) = P3 := ⟨_, rfl⟩
                  rw [hP3] at hnw
                  have HP3 := Lib.hid (fun k => (by rw [← hP3]; unfold Sub; exact Iff.rfl : P3 k ↔ (P2 k ∧ ¬ (nb ≤ k ∧ k < nb + 1))))
                  have htw := htbA.below (by rw [hnb]; exact hbx)
                  have hoW : Only P2 w10 (wr.alloc (.cells #[.int .u8 (c : Nat), .int .u8 (x : Nat)] 95)) := HO11.out.trans (Only.ofBelow (by rw [hnb]; exact hbx))
                  have HOW := Lib.hid hoW
                  have hls := addSym_len lens st c
                  have HPL := Lib.hid (prefix_putLow htw hnw (fun b h1 h2 hb => (HP2.out b |>.1 (HP3.out b |>.1 hb).1).2 ⟨h1, h2⟩) c (by omega) hps (by omega) hwl (by omega))
                  have HSN := Lib.hid hsn
                  have HBT := Lib.hid (fun w => repeat_bits c w)
                  obtain ⟨rb, hrbe⟩ : ∃ rb, rbits c = rb := ⟨_, rfl⟩
                  rw [hrbe] at HSN HBT hx hrb
                  have h1000 : (addSym lens st c).2 + rb ≤ 100000000 := by omega
                  obtain ⟨s4, hs4⟩ : ∃ s4, addSym lens st c = s4 := ⟨_, rfl⟩
                  rw [hs4] at HSN HPL h1000
                  have qk : (k : Int) < (l.length : Int) := by omega
                  have hx128 : x < 128 := hs.lt
                  clear hP3 hnw htw htbA hoW hsn hrbe hls hs4 hbd hwl hs hps hbx HW11 HO11
                  go_wp2_with fail
                  try simp only [hnb]
                  generalize wr.alloc (.cells #[.int .u8 (c : Nat), .int .u8 (x : Nat)] 95) = W at *
                  refine HPL.out.mono ?_
                  rintro e W2 ⟨rfl, ho12, hw12⟩
                  have hnW : nb < W.heap.size := by omega
                  have hnP : ¬ P3 nb := fun h => (HP3.out nb |>.1 h).2 ⟨Nat.le_refl _, Nat.lt_succ_self _⟩
                  have z0 := (World.cell?_of_block (a := ⟨nb, 0, none⟩) (ho12.block nb hnW hnP)).trans e0
                  have z1 := (World.cell?_of_block (a := ⟨nb, 1, none⟩) (ho12.block nb hnW hnP)).trans e1
                  have HFIN := Lib.hid (fun A (h : Only P3 W2 A) => (HOW.out.trans (ho12.mono (fun k _ hk => (HP3.out k |>.1 hk).1))).trans (h.mono (fun k _ hk => (HP3.out k |>.1 hk).1)))
                  have HW12 := Lib.hid hw12
                  clear ho12 hw12 e0 e1 hsz hnW hnP HPL
                  go_wp2_with fail
                  obtain ⟨W0, hW0⟩ : ∃ W0, W2.drew = W0 := ⟨_, rfl⟩
                  have z0' : W0.cell? ⟨nb, 0, none⟩ = some (.int .u8 (c : Nat)) := by rw [← hW0]; exact z0
                  have z1' : W0.cell? ⟨nb, 1, none⟩ = some (.int .u8 (x : Nat)) := by rw [← hW0]; exact z1
                  have HCC := Lib.hid z0'
                  have HCX := Lib.hid z1'
                  have hwd : Wr P3 W0 p s4 := by rw [← hW0]; exact HW12.out
                  have HPT := Lib.hid (lsb_put hwd x rb (by omega) hx h1000)
                  have HFIN2 := Lib.hid (fun A (h : Only P3 W0 A) => HFIN.out A ((show Only P3 W2 W0 from by rw [← hW0]; exact only_drewN P3 W2 1).trans h))
                  have HW0 := Lib.hid hW0
                  obtain ⟨s5, hs5⟩ : ∃ s5, addNum s4 x rb = s5 := ⟨_, rfl⟩
                  rw [hs5] at HPT HSN
                  have HS5 := Lib.hid HSN.out
                  have qxw : IntKind.u32.wrap (x : Int) = (x : Int) := IntWalk.u32_in _ (by omega)
                  clear z0 z1 z0' z1' hwd hW0 hs5 HSN HW12
                  -- region begins
                  refine wp_region_flowL [99, 100, 101, 102, 103, 104, 105, 106] (fun j => false) (fun listed w1 => (listed.getD 7 false = false → w1 = W0) ∧ (listed.getD 7 false = true → Only P3 W0 w1 ∧ Wr P3 w1 p s5)) (fun j v _ => match j with | 0 => v = .pointer (some ⟨p, 0, none⟩) | 1 => v = .pointer (some ⟨nb, 1, none⟩) | 2 => v = .int .u8 (x : Nat) | 3 => v = .int .u32 (x : Nat) | 4 => v = .pointer (some ⟨nb, 0, none⟩) | 5 => v = .int .u8 (c : Nat) | 6 => v = .int .i64 (rb : Nat) | 7 => v = .int .i64 0 | _ => True) (fun _ _ _ _ => True) (by kernel_rfl) (by kernel_rfl) (OneEach.mk' (by kernel_rfl) (by kernel_rfl)) (by kernel_rfl) (by kernel_rfl) (by exact ⟨fun _ => HW0.out, fun h => by cases h⟩) ?_ ?_
                  · intro i0 o hi0 listed a1 w1 hR hil hunf hdes hanc hout hdep
                    have hsz : i0 < 8 := (Array.getElem?_eq_some_iff.1 hi0).1
                    have hall : i0 = 0 ∨ i0 = 1 ∨ i0 = 2 ∨ i0 = 3 ∨ i0 = 4 ∨ i0 = 5 ∨ i0 = 6 ∨ i0 = 7 := by omega
                    clear hsz
                    rcases hall with rfl | rfl | rfl | rfl | rfl | rfl | rfl | rfl <;> simp only [List.getElem?_toArray, List.getElem?_cons_zero, List.getElem?_cons_succ, Option.some.injEq] at hi0 <;> subst hi0
                    · have f0 : a1.eval (.tmp 0) = .pointer (some ⟨p, 0, none⟩) := hout 0 (by decide)
                      refine stepTo_val (v := .pointer (some ⟨p, 0, none⟩)) (w' := w1) (by simp [execOp, f0]) ⟨_, rfl, ?_, fun j u hu hV _ => ⟨hV, trivial, trivial⟩, rfl⟩
                      rw [getD_set_ne2 (by decide)]; exact hR
                    · have f16 : a1.eval (.tmp 16) = .pointer (some ⟨nb, 0, none⟩) := hout 16 (by decide)
                      have x16 : a1.tmps[16]?.getD undef = .pointer (some ⟨nb, 0, none⟩) := by simpa [Act.eval] using f16
                      refine stepTo_val (v := .pointer (some ⟨nb, 1, none⟩)) (w' := w1) (by simp [execOp, x16, go_sem]) ⟨_, rfl, ?_, fun j u hu hV _ => ⟨hV, trivial, trivial⟩, rfl⟩
                      rw [getD_set_ne2 (by decide)]; exact hR
                    · have e100 : a1.eval (.tmp 100) = .pointer (some ⟨nb, 1, none⟩) := hdep ⟨1, .data⟩ (by simp) rfl _ rfl
                      have x100 : a1.tmps[100]?.getD undef = .pointer (some ⟨nb, 1, none⟩) := by simpa [Act.eval] using e100
                      rw [hdes 7 (by kernel_rfl)] at hR
                      obtain rfl : w1 = W0 := hR.1 rfl
                      refine stepTo_val (v := .int .u8 (x : Nat)) (w' := w1) (by simp [execOp, e100, ldU8h _ _ _ HCX.out]) ⟨_, rfl, ?_, fun j u hu hV _ => ⟨hV, trivial, trivial⟩, rfl⟩
                      rw [getD_set_ne2 (by decide), hdes 7 (by kernel_rfl)]; exact hR
                    · have e101 : a1.eval (.tmp 101) = .int .u8 (x : Nat) := hdep ⟨2, .data⟩ (by simp) rfl _ rfl
                      have x101 : a1.tmps[101]?.getD undef = .int .u8 (x : Nat) := by simpa [Act.eval] using e101
                      refine stepTo_val (v := .int .u32 (x : Nat)) (w' := w1) (by simp [execOp, x101, go_sem, qxw]) ⟨_, rfl, ?_, fun j u hu hV _ => ⟨hV, trivial, trivial⟩, rfl⟩
                      rw [getD_set_ne2 (by decide)]; exact hR
                    · have f16 : a1.eval (.tmp 16) = .pointer (some ⟨nb, 0, none⟩) := hout 16 (by decide)
                      have x16 : a1.tmps[16]?.getD undef = .pointer (some ⟨nb, 0, none⟩) := by simpa [Act.eval] using f16
                      refine stepTo_val (v := .pointer (some ⟨nb, 0, none⟩)) (w' := w1) (by simp [execOp, x16, go_sem]) ⟨_, rfl, ?_, fun j u hu hV _ => ⟨hV, trivial, trivial⟩, rfl⟩
                      rw [getD_set_ne2 (by decide)]; exact hR
                    · have e103 : a1.eval (.tmp 103) = .pointer (some ⟨nb, 0, none⟩) := hdep ⟨4, .data⟩ (by simp) rfl _ rfl
                      have x103 : a1.tmps[103]?.getD undef = .pointer (some ⟨nb, 0, none⟩) := by simpa [Act.eval] using e103
                      rw [hdes 7 (by kernel_rfl)] at hR
                      obtain rfl : w1 = W0 := hR.1 rfl
                      refine stepTo_val (v := .int .u8 (c : Nat)) (w' := w1) (by simp [execOp, e103, ldU8h _ _ _ HCC.out]) ⟨_, rfl, ?_, fun j u hu hV _ => ⟨hV, trivial, trivial⟩, rfl⟩
                      rw [getD_set_ne2 (by decide), hdes 7 (by kernel_rfl)]; exact hR
                    · have e104 : a1.eval (.tmp 104) = .int .u8 (c : Nat) := hdep ⟨5, .data⟩ (by simp) rfl _ rfl
                      have x104 : a1.tmps[104]?.getD undef = .int .u8 (c : Nat) := by simpa [Act.eval] using e104
                      rw [hdes 7 (by kernel_rfl)] at hR
                      obtain rfl : w1 = W0 := hR.1 rfl
                      refine stepTo_call (f := 49) (args := #[.int .u8 (c : Nat)]) (by simp [x104, go_sem]) ((HBT.out w1).mono ?_)
                      rintro e w9 ⟨rfl, rfl⟩
                      refine ⟨_, rfl, _, rfl, ?_, fun j u hu hV _ => ⟨hV, trivial, trivial⟩, rfl⟩
                      rw [getD_set_ne2 (by decide), hdes 7 (by kernel_rfl)]
                      exact hR
                    · have e99 : a1.eval (.tmp 99) = .pointer (some ⟨p, 0, none⟩) := hdep ⟨0, .data⟩ (by simp) rfl _ rfl
                      have x99 : a1.tmps[99]?.getD undef = .pointer (some ⟨p, 0, none⟩) := by simpa [Act.eval] using e99
                      have e102 : a1.eval (.tmp 102) = .int .u32 (x : Nat) := hdep ⟨3, .data⟩ (by simp) rfl _ rfl
                      have x102 : a1.tmps[102]?.getD undef = .int .u32 (x : Nat) := by simpa [Act.eval] using e102
                      have e105 : a1.eval (.tmp 105) = .int .i64 (rb : Nat) := hdep ⟨6, .data⟩ (by simp) rfl _ rfl
                      have x105 : a1.tmps[105]?.getD undef = .int .i64 (rb : Nat) := by simpa [Act.eval] using e105
                      rw [hunf] at hR
                      obtain rfl : w1 = W0 := hR.1 rfl
                      refine stepTo_call (f := 18) (args := #[.pointer (some ⟨p, 0, none⟩), .int .u32 (x : Nat), .int .i64 (rb : Nat)]) (by simp [x99, x102, x105, go_sem]) ((HPT.out).mono ?_)
                      rintro e w9 ⟨rfl, ho, hw⟩
                      refine ⟨_, rfl, _, rfl, ?_, fun j u hu hV _ => ⟨hV, trivial, trivial⟩, rfl⟩
                      rw [set_getD_same hil]
                      exact ⟨fun h => (by cases h), fun _ => ⟨ho, hw⟩⟩
                  · intro listed fv w1 hR hall hV
                    rw [hall 7 (by decide)] at hR
                    obtain ⟨ho9, hw9⟩ := hR.2 rfl
                    simp only [spread, List.contains_cons, List.contains_nil, Nat.reduceBEq, Bool.or_false, Bool.or_true, cond_true, cond_false, Nat.reduceAdd, Nat.zero_add]
                    have HO9 := Lib.hid ho9
                    have HW9 := Lib.hid hw9
                    clear ho9 hw9
                    go_wp2
                    go_roundw
                    case rel => exact ⟨k + 1, by go_num, by omega, by rw [HS5.out]; exact HW9.out.monoP (fun k hk => (HP3.out k |>.1 hk).1), HFIN2.out w1 HO9.out⟩
                    case measure => simp [intOf]; omega
                  -- region ends
                · have b6 : decide (k < l.length) = false := by simp; omega
                  obtain rfl : k = l.length := by omega
                  rw [List.take_of_length_le (Nat.le_refl _)] at HW11
                  have hfin := HW11.out
                  rw [HT.out] at hfin
                  have HF := Lib.hid (hfin.monoP (fun k hk => (HP1.out k |>.1 (HP2.out k |>.1 hk).1).1))
                  have HFO := Lib.hid ((Only.ofBelow HB5.out : Only P w _).trans ((HOB.out.mono (fun k _ hk => (HP1.out k |>.1 hk).1)).trans (HO11.out.mono (fun k _ hk => (HP1.out k |>.1 (HP2.out k |>.1 hk).1).1))))
                  clear hfin
                  go_wp2
                  go_ret
                  exact ⟨HFO.out, rfl, HF.out⟩
          -- tail ends
      · have b1 : decide (4 < k) = false := by simp; omega
        have b1' : decide ((4 : Int) < (k : Int)) = false := by simp; omega
        obtain rfl : N = k := by
          cases k with
          | zero => exact hcut.symm
          | succ k => unfold cutN at hcut; rw [if_neg (fun h => by omega)] at hcut; exact hcut.symm
        -- tail2 begins
        have hb0 := HRL.out wr (.refl _ _)
        clear hb0
        obtain ⟨fa, hfa⟩ : ∃ fa, f.length - 257 = fa := ⟨_, rfl⟩
        obtain ⟨oa, hoa⟩ : ∃ oa, o.length - 1 = oa := ⟨_, rfl⟩
        obtain ⟨n4, hn4⟩ : ∃ n4, N - 4 = n4 := ⟨_, rfl⟩
        have qfa : (f.length : Int) - 257 = (fa : Int) := by omega
        have qoa : (o.length : Int) - 1 = (oa : Int) := by omega
        have qn4 : (N : Int) - 4 = (n4 : Int) := by omega
        have HS14 := Lib.hid (show put14 s f.length o.length N = addNum (addNum (addNum s fa 5) oa 5) n4 4 from by unfold put14; rw [hfa, hoa, hn4])
        have hfa32 : fa < 32 := by omega
        have hoa32 : oa < 32 := by omega
        have hn416 : n4 < 16 := by omega
        have HL14 := Lib.hid (put14_len s f.length o.length N)
        have hcutN : (N : Int) ≤ 19 := by omega
        clear hfa hoa hn4
        go_wp2_with fail
        refine (lsb_put HWN.out fa 5 (by decide) hfa32 (by omega)).mono ?_
        rintro e w6 ⟨rfl, ho6, hw6⟩
        have HO6 := Lib.hid ho6
        have HW6 := Lib.hid hw6
        clear ho6 hw6
        go_wp2_with fail
        refine (lsb_put HW6.out oa 5 (by decide) hoa32 (by rw [addNum_len]; omega)).mono ?_
        rintro e w7 ⟨rfl, ho7, hw7⟩
        have HO7 := Lib.hid (HO6.out.trans ho7)
        have HW7 := Lib.hid hw7
        clear ho7 hw7 HO6 HW6
        go_wp2_with fail
        refine (lsb_put HW7.out n4 4 (by decide) hn416 (by rw [addNum_len, addNum_len]; omega)).mono ?_
        rintro e w8 ⟨rfl, ho8, hw8⟩
        have HO8 := Lib.hid (HO7.out.trans ho8)
        rw [← HS14.out] at hw8
        have HW8 := Lib.hid hw8
        clear ho8 hw8 HO7 HW7 HS14 qfa qoa qn4
        obtain ⟨s14, hs14⟩ : ∃ s14, put14 s f.length o.length N = s14 := ⟨_, rfl⟩
        rw [hs14] at HW8 HL14 HT
        clear hs14
        go_wp2_with fail
        go_loopw [12, 70] (fun _ i A => ∃ k, i = .int .i64 (k : Nat) ∧ k ≤ N ∧ Wr P1 A p (put3 lens s14 k) ∧ Only P1 wr A) (fun _ i _ => N - (intOf i).toNat)
        case atStart => exact ⟨0, rfl, Nat.zero_le _, HW8.out, HO8.out⟩
        case round =>
          clear HW8 HO8
          obtain ⟨k, rfl, hkN, hw9, ho9⟩ := hrel
          have HW9 := Lib.hid hw9
          have HO9 := Lib.hid ho9
          clear hw9 ho9
          by_cases hkl : k < N
          · have b5 : decide (k < N) = true := by simp; omega
            have hrowL := HRL.out _ HO9.out
            have hrowO := HRO.out _ HO9.out
            have hj19 : k < ordL.length := by show k < 19; omega
            obtain ⟨b1, off1, he1, _, hck⟩ := hrowO.at hj19
            simp only [Option.some.injEq, Addr.mk.injEq, and_true] at he1
            obtain ⟨rfl, rfl⟩ := he1
            rw [Nat.zero_add] at hck
            have hc19 := ord_lt ⟨k, by omega⟩
            simp only at hc19
            rw [ordL_at k hj19] at hck
            have hcl : ordL.getD k 0 < lens.length := by omega
            obtain ⟨b2, off2, hla2, _, hvk⟩ := hrowL.at hcl
            simp only [Option.some.injEq, Addr.mk.injEq, and_true] at hla2
            obtain ⟨rfl, rfl⟩ := hla2
            have hgd : lens.getD (ordL.getD k 0) 0 = lens[ordL.getD k 0]'hcl := by rw [List.getD_eq_getElem?_getD, List.getElem?_eq_getElem hcl]; rfl
            have hp3 : put3 lens s14 (k + 1) = addNum (put3 lens s14 k) (lens.getD (ordL.getD k 0) 0) 3 := rfl
            have hp3l := put3_len lens s14 k
            rw [hgd] at hp3
            have hv7 := HLE.out _ (List.getElem_mem hcl)
            generalize lens[ordL.getD k 0]'hcl = v at *
            generalize ordL.getD k 0 = c at *
            have qk : (k : Int) < (N : Int) := by omega
            have qc19 : (c : Int) < 19 := by omega
            have HP3 := Lib.hid hp3
            have h3 := HL14.out
            have HPT := Lib.hid (lsb_put HW9.out v 3 (by decide) (by omega) (by omega))
            rw [← hp3] at HPT
            clear hp3 hp3l hgd hrowL hrowO h3
            go_wp2_with (go_at_call 18; refine HPT.out.mono ?_; rintro e w9 ⟨rfl, ho10, hw10⟩; have HW10 := Lib.hid hw10; have HO10 := Lib.hid (HO9.out.trans ho10); clear hw10 ho10)
            go_roundw
            case rel => exact ⟨k + 1, by go_num, by omega, HW10.out, HO10.out⟩
            case measure => simp [intOf]; omega
          · have b5 : decide (k < N) = false := by simp; omega
            obtain rfl : N = k := by omega
            have hrowL := HRL.out _ HO9.out
            have hwo := wordsE_ok lens (fun x hx => Nat.le_trans (HLE.out x hx) (by decide)) (by omega) (by rw [HWT.out]; exact Nat.le_refl _)
            generalize hwq : wr = w9 at *
            have HNW := Lib.hid ((prefix_new (some ⟨lb, lof, none⟩) lc lens w9 hrowL).mono (fun e w' h => (show Below w9.heap.size w9 w' ∧ ∃ tp, e = .returned (.tuple #[.pointer (some ⟨tp, 0, none⟩), .int .i64 0]) ∧ Tb w9.heap.size w'.heap.size w' tp lens from by
              obtain ⟨z1, z2⟩ := h
              rw [if_pos hwo] at z2
              exact ⟨z1, z2⟩)))
            rw [hlen] at HNW
            clear hwo hrowL hwq
            obtain ⟨s15, hs15⟩ : ∃ s15, put3 lens s14 N = s15 := ⟨_, rfl⟩
            have HL15 := put3_len lens s14 N
            rw [hs15] at HW9 HT HL15
            clear hs15
            go_wp2_with (go_at_call 41; refine HNW.out.mono ?_; rintro e w10 ⟨hb10, tp, rfl, htb⟩; have HB10 := Lib.hid hb10; have HTB := Lib.hid htb; clear hb10 htb)
            have HWB := Lib.hid (HW9.out.narrow HB10.out)
            obtain ⟨P2, hP2⟩ : ∃ P2, Sub P1 w9.heap.size w10.heap.size = P2 := ⟨_, rfl⟩
            rw [hP2] at HWB
            have HP2 := Lib.hid (fun k => (by rw [← hP2]; unfold Sub; exact Iff.rfl : P2 k ↔ (P1 k ∧ ¬ (w9.heap.size ≤ k ∧ k < w10.heap.size))))
            have HOB := Lib.hid (HO9.out.trans (Only.ofBelow HB10.out))
            have HRS2 := Lib.hid (fun A (h : Only P2 w10 A) => HRS.out A (HOB.out.trans (h.mono (fun k _ hk => (HP2.out k |>.1 hk).1))))
            have HTB2 := Lib.hid (fun A (h : Only P2 w10 A) => HTB.out.only h (fun b h1 h2 hb => (HP2.out b |>.1 hb).2 ⟨h1, h2⟩))
            have h14 := HL14.out
            clear hP2 HNW HW9
            go_loopw [16, 89] (fun _ i A => ∃ k, i = .int .i64 (k : Nat) ∧ k ≤ l.length ∧ Wr P2 A p (putsS lens s15 (l.take k)) ∧ Only P2 w10 A) (fun _ i _ => l.length - (intOf i).toNat)
            case atStart => exact ⟨0, rfl, Nat.zero_le _, HWB.out, .refl _ _⟩
            case round =>
              clear HWB
              obtain ⟨k, rfl, hkl2, hw11, ho11⟩ := hrel
              have HW11 := Lib.hid hw11
              have HO11 := Lib.hid ho11
              clear hw11 ho11
              by_cases hlt : k < l.length
              · have b6 : decide (k < l.length) = true := by simp; omega
                have hrA := HRS2.out _ HO11.out
                obtain ⟨b, off, hpa, hb, hcl⟩ := hrA.at hlt
                subst hpa
                have c0 := hcl 0 _ rfl
                have c1 := hcl 1 _ rfl
                have hs := HOK.out _ (List.getElem_mem hlt)
                have hps := HPOS.out _ (List.getElem_mem hlt)
                have hsn := putsS_snoc lens s15 (l.take k) l[k]
                rw [← M04.take_snoc l k hlt] at hsn
                have hbd := putsS_len' lens HLE.out (l.take k) s15
                rw [List.length_take] at hbd
                have htbA := HTB2.out _ HO11.out
                clear hcl hrA
                generalize l[k] = sg at *
                obtain ⟨c, x⟩ := sg
                simp only [encSg, Nat.add_zero] at c0 c1
                rw [← Nat.add_assoc] at c1
                have hc18 : c ≤ 18 := hs.1
                have hx := hs.2
                simp only at hx hps
                unfold putS at hsn
                simp only at hsn
                have hrb := rbits_le c
                have hc7 := M04.getD_le HLE.out c
                have hwl := words_lt lens c (by omega) (fun x hx => Nat.le_trans (HLE.out x hx) (by decide)) (by rw [HWT.out]; exact Nat.le_refl _)
                generalize putsS lens s15 (l.take k) = st at *
                obtain ⟨nb, hnb⟩ : ∃ nb, wr.heap.size = nb := ⟨_, rfl⟩
                have hbx := box_b wr (.cells #[.int .u8 (c : Nat), .int .u8 (x : Nat)] 95)
                have hnw := HW11.out.narrow hbx
                have hsz : (wr.alloc (.cells #[.int .u8 (c : Nat), .int .u8 (x : Nat)] 95)).heap.size = nb + 1 := by simp [hnb]
                rw [hsz, hnb] at hnw
                obtain ⟨e0, e1⟩ := box2_cells wr (.int .u8 (c : Nat)) (.int .u8 (x : Nat)) 95
                rw [hnb] at e0 e1 hbx
                obtain ⟨P3, hP3⟩ : ∃ P3, Sub P2 nb (nb + 1) = P3 := ⟨_, rfl⟩
                rw [hP3] at hnw
                have HP3 := Lib.hid (fun k => (by rw [← hP3]; unfold Sub; exact Iff.rfl : P3 k ↔ (P2 k ∧ ¬ (nb ≤ k ∧ k < nb + 1))))
                have htw := htbA.below (by rw [hnb]; exact hbx)
                have hoW : Only P2 w10 (wr.alloc (.cells #[.int .u8 (c : Nat), .int .u8 (x : Nat)] 95)) := HO11.out.trans (Only.ofBelow (by rw [hnb]; exact hbx))
                have HOW := Lib.hid hoW
                have hls := addSym_len lens st c
                have HPL := Lib.hid (prefix_putLow htw hnw (fun b h1 h2 hb => (HP2.out b |>.1 (HP3.out b |>.1 hb).1).2 ⟨h1, h2⟩) c (by omega) hps (by omega) hwl (by omega))
                have HSN := Lib.hid hsn
                have HBT := Lib.hid (fun w => repeat_bits c w)
                obtain ⟨rb, hrbe⟩ : ∃ rb, rbits c = rb := ⟨_, rfl⟩
                rw [hrbe] at HSN HBT hx hrb
                have h1000 : (addSym lens st c).2 + rb ≤ 100000000 := by omega
                obtain ⟨s4, hs4⟩ : ∃ s4, addSym lens st c = s4 := ⟨_, rfl⟩
                rw [hs4] at HSN HPL h1000
                have qk : (k : Int) < (l.length : Int) := by omega
                have hx128 : x < 128 := hs.lt
                clear hP3 hnw htw htbA hoW hsn hrbe hls hs4 hbd hwl hs hps hbx HW11 HO11
                go_wp2_with fail
                try simp only [hnb]
                generalize wr.alloc (.cells #[.int .u8 (c : Nat), .int .u8 (x : Nat)] 95) = W at *
                refine HPL.out.mono ?_
                rintro e W2 ⟨rfl, ho12, hw12⟩
                have hnW : nb < W.heap.size := by omega
                have hnP : ¬ P3 nb := fun h => (HP3.out nb |>.1 h).2 ⟨Nat.le_refl _, Nat.lt_succ_self _⟩
                have z0 := (World.cell?_of_block (a := ⟨nb, 0, none⟩) (ho12.block nb hnW hnP)).trans e0
                have z1 := (World.cell?_of_block (a := ⟨nb, 1, none⟩) (ho12.block nb hnW hnP)).trans e1
                have HFIN := Lib.hid (fun A (h : Only P3 W2 A) => (HOW.out.trans (ho12.mono (fun k _ hk => (HP3.out k |>.1 hk).1))).trans (h.mono (fun k _ hk => (HP3.out k |>.1 hk).1)))
                have HW12 := Lib.hid hw12
                clear ho12 hw12 e0 e1 hsz hnW hnP HPL
                go_wp2_with fail
                obtain ⟨W0, hW0⟩ : ∃ W0, W2.drew = W0 := ⟨_, rfl⟩
                have z0' : W0.cell? ⟨nb, 0, none⟩ = some (.int .u8 (c : Nat)) := by rw [← hW0]; exact z0
                have z1' : W0.cell? ⟨nb, 1, none⟩ = some (.int .u8 (x : Nat)) := by rw [← hW0]; exact z1
                have HCC := Lib.hid z0'
                have HCX := Lib.hid z1'
                have hwd : Wr P3 W0 p s4 := by rw [← hW0]; exact HW12.out
                have HPT := Lib.hid (lsb_put hwd x rb (by omega) hx h1000)
                have HFIN2 := Lib.hid (fun A (h : Only P3 W0 A) => HFIN.out A ((show Only P3 W2 W0 from by rw [← hW0]; exact only_drewN P3 W2 1).trans h))
                have HW0 := Lib.hid hW0
                obtain ⟨s5, hs5⟩ : ∃ s5, addNum s4 x rb = s5 := ⟨_, rfl⟩
                rw [hs5] at HPT HSN
                have HS5 := Lib.hid HSN.out
                have qxw : IntKind.u32.wrap (x : Int) = (x : Int) := IntWalk.u32_in _ (by omega)
                clear z0 z1 z0' z1' hwd hW0 hs5 HSN HW12
                refine wp_region_flowL [99, 100, 101, 102, 103, 104, 105, 106] (fun j => false) (fun listed w1 => (listed.getD 7 false = false → w1 = W0) ∧ (listed.getD 7 false = true → Only P3 W0 w1 ∧ Wr P3 w1 p s5)) (fun j v _ => match j with | 0 => v = .pointer (some ⟨p, 0, none⟩) | 1 => v = .pointer (some ⟨nb, 1, none⟩) | 2 => v = .int .u8 (x : Nat) | 3 => v = .int .u32 (x : Nat) | 4 => v = .pointer (some ⟨nb, 0, none⟩) | 5 => v = .int .u8 (c : Nat) | 6 => v = .int .i64 (rb : Nat) | 7 => v = .int .i64 0 | _ => True) (fun _ _ _ _ => True) (by kernel_rfl) (by kernel_rfl) (OneEach.mk' (by kernel_rfl) (by kernel_rfl)) (by kernel_rfl) (by kernel_rfl) (by exact ⟨fun _ => HW0.out, fun h => by cases h⟩) ?_ ?_
                · intro i0 o hi0 listed a1 w1 hR hil hunf hdes hanc hout hdep
                  have hsz : i0 < 8 := (Array.getElem?_eq_some_iff.1 hi0).1
                  have hall : i0 = 0 ∨ i0 = 1 ∨ i0 = 2 ∨ i0 = 3 ∨ i0 = 4 ∨ i0 = 5 ∨ i0 = 6 ∨ i0 = 7 := by omega
                  clear hsz
                  rcases hall with rfl | rfl | rfl | rfl | rfl | rfl | rfl | rfl <;> simp only [List.getElem?_toArray, List.getElem?_cons_zero, List.getElem?_cons_succ, Option.some.injEq] at hi0 <;> subst hi0
                  · have f0 : a1.eval (.tmp 0) = .pointer (some ⟨p, 0, none⟩) := hout 0 (by decide)
                    refine stepTo_val (v := .pointer (some ⟨p, 0, none⟩)) (w' := w1) (by simp [execOp, f0]) ⟨_, rfl, ?_, fun j u hu hV _ => ⟨hV, trivial, trivial⟩, rfl⟩
                    rw [getD_set_ne2 (by decide)]; exact hR
                  · have f16 : a1.eval (.tmp 16) = .pointer (some ⟨nb, 0, none⟩) := hout 16 (by decide)
                    have x16 : a1.tmps[16]?.getD undef = .pointer (some ⟨nb, 0, none⟩) := by simpa [Act.eval] using f16
                    refine stepTo_val (v := .pointer (some ⟨nb, 1, none⟩)) (w' := w1) (by simp [execOp, x16, go_sem]) ⟨_, rfl, ?_, fun j u hu hV _ => ⟨hV, trivial, trivial⟩, rfl⟩
                    rw [getD_set_ne2 (by decide)]; exact hR
                  · have e100 : a1.eval (.tmp 100) = .pointer (some ⟨nb, 1, none⟩) := hdep ⟨1, .data⟩ (by simp) rfl _ rfl
                    have x100 : a1.tmps[100]?.getD undef = .pointer (some ⟨nb, 1, none⟩) := by simpa [Act.eval] using e100
                    rw [hdes 7 (by kernel_rfl)] at hR
                    obtain rfl : w1 = W0 := hR.1 rfl
                    refine stepTo_val (v := .int .u8 (x : Nat)) (w' := w1) (by simp [execOp, e100, ldU8h _ _ _ HCX.out]) ⟨_, rfl, ?_, fun j u hu hV _ => ⟨hV, trivial, trivial⟩, rfl⟩
                    rw [getD_set_ne2 (by decide), hdes 7 (by kernel_rfl)]; exact hR
                  · have e101 : a1.eval (.tmp 101) = .int .u8 (x : Nat) := hdep ⟨2, .data⟩ (by simp) rfl _ rfl
                    have x101 : a1.tmps[101]?.getD undef = .int .u8 (x : Nat) := by simpa [Act.eval] using e101
                    refine stepTo_val (v := .int .u32 (x : Nat)) (w' := w1) (by simp [execOp, x101, go_sem, qxw]) ⟨_, rfl, ?_, fun j u hu hV _ => ⟨hV, trivial, trivial⟩, rfl⟩
                    rw [getD_set_ne2 (by decide)]; exact hR
                  · have f16 : a1.eval (.tmp 16) = .pointer (some ⟨nb, 0, none⟩) := hout 16 (by decide)
                    have x16 : a1.tmps[16]?.getD undef = .pointer (some ⟨nb, 0, none⟩) := by simpa [Act.eval] using f16
                    refine stepTo_val (v := .pointer (some ⟨nb, 0, none⟩)) (w' := w1) (by simp [execOp, x16, go_sem]) ⟨_, rfl, ?_, fun j u hu hV _ => ⟨hV, trivial, trivial⟩, rfl⟩
                    rw [getD_set_ne2 (by decide)]; exact hR
                  · have e103 : a1.eval (.tmp 103) = .pointer (some ⟨nb, 0, none⟩) := hdep ⟨4, .data⟩ (by simp) rfl _ rfl
                    have x103 : a1.tmps[103]?.getD undef = .pointer (some ⟨nb, 0, none⟩) := by simpa [Act.eval] using e103
                    rw [hdes 7 (by kernel_rfl)] at hR
                    obtain rfl : w1 = W0 := hR.1 rfl
                    refine stepTo_val (v := .int .u8 (c : Nat)) (w' := w1) (by simp [execOp, e103, ldU8h _ _ _ HCC.out]) ⟨_, rfl, ?_, fun j u hu hV _ => ⟨hV, trivial, trivial⟩, rfl⟩
                    rw [getD_set_ne2 (by decide), hdes 7 (by kernel_rfl)]; exact hR
                  · have e104 : a1.eval (.tmp 104) = .int .u8 (c : Nat) := hdep ⟨5, .data⟩ (by simp) rfl _ rfl
                    have x104 : a1.tmps[104]?.getD undef = .int .u8 (c : Nat) := by simpa [Act.eval] using e104
                    rw [hdes 7 (by kernel_rfl)] at hR
                    obtain rfl : w1 = W0 := hR.1 rfl
                    refine stepTo_call (f := 49) (args := #[.int .u8 (c : Nat)]) (by simp [x104, go_sem]) ((HBT.out w1).mono ?_)
                    rintro e w9 ⟨rfl, rfl⟩
                    refine ⟨_, rfl, _, rfl, ?_, fun j u hu hV _ => ⟨hV, trivial, trivial⟩, rfl⟩
                    rw [getD_set_ne2 (by decide), hdes 7 (by kernel_rfl)]
                    exact hR
                  · have e99 : a1.eval (.tmp 99) = .pointer (some ⟨p, 0, none⟩) := hdep ⟨0, .data⟩ (by simp) rfl _ rfl
                    have x99 : a1.tmps[99]?.getD undef = .pointer (some ⟨p, 0, none⟩) := by simpa [Act.eval] using e99
                    have e102 : a1.eval (.tmp 102) = .int .u32 (x : Nat) := hdep ⟨3, .data⟩ (by simp) rfl _ rfl
                    have x102 : a1.tmps[102]?.getD undef = .int .u32 (x : Nat) := by simpa [Act.eval] using e102
                    have e105 : a1.eval (.tmp 105) = .int .i64 (rb : Nat) := hdep ⟨6, .data⟩ (by simp) rfl _ rfl
                    have x105 : a1.tmps[105]?.getD undef = .int .i64 (rb : Nat) := by simpa [Act.eval] using e105
                    rw [hunf] at hR
                    obtain rfl : w1 = W0 := hR.1 rfl
                    refine stepTo_call (f := 18) (args := #[.pointer (some ⟨p, 0, none⟩), .int .u32 (x : Nat), .int .i64 (rb : Nat)]) (by simp [x99, x102, x105, go_sem]) ((HPT.out).mono ?_)
                    rintro e w9 ⟨rfl, ho, hw⟩
                    refine ⟨_, rfl, _, rfl, ?_, fun j u hu hV _ => ⟨hV, trivial, trivial⟩, rfl⟩
                    rw [set_getD_same hil]
                    exact ⟨fun h => (by cases h), fun _ => ⟨ho, hw⟩⟩
                · intro listed fv w1 hR hall hV
                  rw [hall 7 (by decide)] at hR
                  obtain ⟨ho9, hw9⟩ := hR.2 rfl
                  simp only [spread, List.contains_cons, List.contains_nil, Nat.reduceBEq, Bool.or_false, Bool.or_true, cond_true, cond_false, Nat.reduceAdd, Nat.zero_add]
                  have HO9 := Lib.hid ho9
                  have HW9 := Lib.hid hw9
                  clear ho9 hw9
                  go_wp2
                  go_roundw
                  case rel => exact ⟨k + 1, by go_num, by omega, by rw [HS5.out]; exact HW9.out.monoP (fun k hk => (HP3.out k |>.1 hk).1), HFIN2.out w1 HO9.out⟩
                  case measure => simp [intOf]; omega
              · have b6 : decide (k < l.length) = false := by simp; omega
                obtain rfl : k = l.length := by omega
                rw [List.take_of_length_le (Nat.le_refl _)] at HW11
                have hfin := HW11.out
                rw [HT.out] at hfin
                have HF := Lib.hid (hfin.monoP (fun k hk => (HP1.out k |>.1 (HP2.out k |>.1 hk).1).1))
                have HFO := Lib.hid ((Only.ofBelow HB5.out : Only P w _).trans ((HOB.out.mono (fun k _ hk => (HP1.out k |>.1 hk).1)).trans (HO11.out.mono (fun k _ hk => (HP1.out k |>.1 (HP2.out k |>.1 hk).1).1))))
                clear hfin
                go_wp2
                go_ret
                exact ⟨HFO.out, rfl, HF.out⟩
        -- tail2 ends
theorem wrE_new (w : World) : Wr (fun b => w.heap.size ≤ b) (w.alloc (.cells #[.slice none 0 0, .int .i64 0] 42)) w.heap.size ([], 0) :=
  ⟨⟨none, 0, World.alloc_heap_new w _, OwnN.nil _ _ _ _, Nat.le_refl _, fun g hg => (by cases hg), fun b hb => by simp at hb; omega⟩, ⟨rfl, by simp⟩, Nat.zero_le _⟩
end Go.Proofs.YtendielanacflaaGreat
