/- InflateLaid: the law's walk. Its last region is printed by gen/laid10.py. Slices of numbers that came in, as lists. Slices of tokens that came in, as lists. -/
import Derived.Test.YtendielanacflaaGreatL10
import Derived.Test.YtendielanacflaaGreatL20
import Derived.Test.YtendielanacflaaGreatL22
import Derived.Test.YtendielanacflaaGreatL24
import Derived.Test.YtendielanacflaaGreatL25
import Derived.Test.YtendielanacflaaGreatL01
import Derived.Test.YtendielanacflaaGreatL04
import Derived.Test.YtendielanacflaaGreatChecked
import Derived.Deep.Slices
import Derived.Deep.Strs
import Derived.ProofKit
namespace Go.Proofs.YtendielanacflaaGreat
open Go.RowKit Go.Shelf M01 M04 M05 M06 M07 M08 M09 M10 M17
attribute [local go_sem] Oper.semAt_some
set_option linter.unusedVariables false
set_option linter.unusedSimpArgs false
theorem wanted_none {o : Oper} {y : Nat → Option Bool} (h : o.guard = none) : Region.wanted o y = true := by simp [Region.wanted, h]
theorem wanted_of {o : Oper} {ops : Array Oper} {tmps : Array Value} {g d : Nat} {b : Bool} (hg : o.guard = some (g, b)) (hd : (ops[g]?).bind (·.dst) = some d) (hv : tmps[d]?.getD undef = .bool b) : Region.wanted o (yielded ops tmps) = true := by
  unfold Region.wanted
  rw [hg]
  simp only [yielded, hd, Option.bind_some]
  cases h : tmps[d]? with
  | none => rw [h] at hv; cases hv
  | some v => rw [h] at hv; simp only [Option.getD_some] at hv; subst hv; simp
theorem tok_elems3 : ElemS Tryz.prog 22 40 encT (.agg #[.int .i64 0, .int .i64 0, .int .u8 0]) 24 := ⟨Tryz.underlying22, by kernel_rfl, by kernel_rfl⟩
theorem fldF0 (R : Nat) (w : World) : (Instr.fieldAt 53 (.pointer (some ⟨R, 0, none⟩)) 0).run Tryz.prog w = .ok (.pointer (some ⟨R, 0, none⟩)) w := by kernel_rfl
theorem fldF1 (R : Nat) (w : World) : (Instr.fieldAt 53 (.pointer (some ⟨R, 0, none⟩)) 1).run Tryz.prog w = .ok (.pointer (some ⟨R, 1, none⟩)) w := by kernel_rfl
theorem fldF2 (R : Nat) (w : World) : (Instr.fieldAt 53 (.pointer (some ⟨R, 0, none⟩)) 2).run Tryz.prog w = .ok (.pointer (some ⟨R, 2, none⟩)) w := by kernel_rfl
theorem ldSl24 (p : Addr) (v : Value) (w : World) (h : w.cell? p = some v) : (Instr.loadAt 24 (.pointer (some p))).run Tryz.prog w = .ok v w := by
  simp [Instr.loadAt, Instr.sureAddr, loadVar, isAgg, run_underlying Tryz.underlying24, h, go_sem]
set_option maxRecDepth 100000 in
theorem lsb_walign {P : Nat → Prop} {w : World} {p : Nat} {s : Wst} (h : Wr P w p s) (hb : 8 * s.1.length ≤ 100000000) :
    Calls Tryz.prog 19 #[.pointer (some ⟨p, 0, none⟩)] w fun e w' => e = .returned (.int .i64 0) ∧ Only P w w' ∧ Wr P w' p (alignW s) := by
  obtain ⟨⟨a, c, h1, h2, h3, h4, h5⟩, h6, h7⟩ := h
  obtain ⟨k0, k1, z0, z1⟩ := two_cell h1
  have hO := (Only.refl P w).setCell (p := ⟨p, 1, none⟩) (.inl h3) (.int .i64 ((8 * s.1.length : Nat) : Int))
  have hW : Hid (Wr P (w.setCell ⟨p, 1, none⟩ (.int .i64 ((8 * s.1.length : Nat) : Int))) p (alignW s)) := by
    refine ⟨⟨a, c, (two_set h1).2, h2.other (fun g e => by have := (h4 g e).2; show p ≠ g; omega) _, h3, h4, fun b hb => h5 b (Nat.le_trans hO.size hb)⟩, ⟨?_, h6.2⟩, hb⟩
    show s.1.length = (8 * s.1.length + 7) / 8
    omega
  have HO := Lib.hid hO
  obtain ⟨m, hm⟩ : ∃ m, 8 * s.1.length = m := ⟨_, rfl⟩
  rw [hm] at hb hW HO
  obtain ⟨n, hn⟩ : ∃ n, s.1.length = n := ⟨_, rfl⟩
  rw [hn] at k0 hm
  clear h1 h2 h3 h4 h5 h6 h7 hO hn
  have q : (8 : Int) * (n : Int) = (m : Int) := by omega
  have qw : IntKind.i64.wrap (m : Int) = (m : Int) := IntWalk.i64_in _ (by omega)
  clear hm
  go_enter Tryz.func19, Tryz.ntmps19
  go_wp2
  go_ret
  exact ⟨rfl, HO.out, hW.out⟩
theorem fixN_F : partL fixN 288 288 = fixF := by decide +kernel
theorem fixN_D : partL (fun _ => 5) 32 32 = fixD := by decide +kernel
theorem bestFO (l : List Tok) (hb : ∀ t ∈ l, t.byte < 256) (h : ∀ t ∈ l, tokOk t) :
    mayH (limL (cntL (useU l) false 286) 15) (limL (cntL (useU l) true 30) 15) = true ∧ Cod (limL (cntL (useU l) false 286) 15) (limL (cntL (useU l) true 30) 15) ∧ HasW (limL (cntL (useU l) false 286) 15) (limL (cntL (useU l) true 30) 15) l := by
  have l1 : (cntL (useU l) false 286).length = 286 := cntL_length _ _ _
  have l2 : (cntL (useU l) true 30).length = 30 := cntL_length _ _ _
  have p256 : 0 < (cntL (useU l) false 286).getD 256 0 := by
    rw [cntL_at _ _ _ _ (by decide)]
    exact Nat.pos_of_ne_zero (M17.cnt_pos (useU_last l h))
  refine ⟨best_may _ _ (by omega) (by omega) (by omega) (by omega) p256, ⟨(lim_kind _ (by omega)).1, (lim_kind _ (by omega)).1, lim_weight _ (by omega), lim_weight _ (by omega), by rw [limL_len]; omega, by rw [limL_len]; omega⟩, h, hb, fun r hr => ?_⟩
  obtain ⟨_, _, h3⟩ := M17.useU_rows l h hb r hr
  have hc := M17.cnt_pos hr
  unfold lensOf
  cases hf : r.far with
  | false =>
    rw [hf] at h3 hc
    simp only [Bool.false_eq_true, if_false] at h3 ⊢
    exact lim_pos _ _ (by omega) (by omega) (by rw [cntL_at _ _ _ _ h3]; omega)
  | true =>
    rw [hf] at h3 hc
    simp only [if_true] at h3 ⊢
    exact lim_pos _ _ (by omega) (by omega) (by rw [cntL_at _ _ _ _ h3]; omega)
def byT (c : Nat) : Tok := ⟨0, 0, c⟩
theorem fixF_len10 : fixF.length = 288 := by decide +kernel
theorem fixD_len10 : fixD.length = 32 := by decide +kernel
theorem own_keep {P : Nat → Prop} {lo hi : Nat} {w w' : World} {a : Option Addr} {c : Nat} {l : List Nat} (h : OwnN 5 .u8 w lo a c l) (hh : w.heap.size = hi) (ho : Only (Sub P lo hi) w w') : RowN .u8 w' a c l :=
  h.row.same ho.size (fun x h0 hx => ho.block x.block (by
    rcases h.form with ⟨e, _⟩ | ⟨g, e, _, h2⟩
    · rw [e] at hx; cases hx
    · rw [e] at hx; cases hx; exact h2) (fun hs => by
    rcases h.form with ⟨e, _⟩ | ⟨g, e, h1, h2⟩
    · rw [e] at hx; cases hx
    · rw [e] at hx; cases hx; exact hs.2 ⟨h1, by rw [← hh]; exact h2⟩))
theorem lay_len {l1 l2 : List Nat} (h1 : ∀ x ∈ l1, x ≤ 15) (h2 : ∀ x ∈ l2, x ≤ 15) (s : Wst) (l : List Tok) : (layBlk l1 l2 s l).2 ≤ s.2 + 58 * l.length + 20 := by
  have a := layTo_len (l1 := l1) (l2 := l2) (fun x hx => Nat.le_trans (h1 x hx) (by decide)) (fun x hx => Nat.le_trans (h2 x hx) (by decide)) l s
  have b := addSymE_len (l := l1) (fun x hx => Nat.le_trans (h1 x hx) (by decide)) (layTo l1 l2 s l) 256
  unfold layBlk
  omega
theorem words_ok {l : List Nat} (h15 : ∀ x ∈ l, x ≤ 15) (hw : weight l ≤ 2 ^ 20) (hl : l.length ≤ 300) : (wordsE l).2 = 0 := wordsE_cod h15 hw hl
set_option maxRecDepth 100000 in
set_option maxHeartbeats 1600000 in
theorem law_laid10 (a0 a1 a2 : Option Addr) (cap0 cap1 cap2 : Nat) (b : List Nat) (l : List Tok) (beh : List Nat) (w : World) (h0 : RowN .u8 w a0 cap0 b) (hb0 : ∀ x ∈ b, x < 256) (h1 : RowS encT w a1 cap1 l) (hb1 : ∀ t ∈ l, t.byte < 256) (h2 : RowN .u8 w a2 cap2 beh) (hb2 : ∀ x ∈ beh, x < 256) :
    Calls Tryz.prog 4 #[.slice a0 b.length cap0, .slice a1 l.length cap1, .slice a2 beh.length cap2] w fun e w' => e = .returned (.bool true) ∧ Below w.heap.size w w' := by
  have hl0 := h0.len
  have hl1 := h1.len
  have hl2 := h2.len
  by_cases hc1 : l.length ≤ 300
  case neg =>
    have c0 : decide ((300 : Int) < (l.length : Int)) = true := by simp; omega
    clear hc1
    go_enter Tryz.func4, Tryz.ntmps4
    go_wp2
    go_ret
    exact ⟨rfl, Below.refl _ _⟩
  have c0 : decide ((300 : Int) < (l.length : Int)) = false := by simp; omega
  by_cases hc0 : b.length ≤ 300
  case neg =>
    have c1 : decide ((300 : Int) < (b.length : Int)) = true := by simp; omega
    clear hc1 hc0
    go_enter Tryz.func4, Tryz.ntmps4
    go_wp2
    go_ret
    exact ⟨rfl, Below.refl _ _⟩
  have c1 : decide ((300 : Int) < (b.length : Int)) = false := by simp; omega
  by_cases hc2 : beh.length ≤ 40
  case neg =>
    have c2 : decide ((40 : Int) < (beh.length : Int)) = true := by simp; omega
    clear hc1 hc0 hc2
    go_enter Tryz.func4, Tryz.ntmps4
    go_wp2
    go_ret
    exact ⟨rfl, Below.refl _ _⟩
  have c2 : decide ((40 : Int) < (beh.length : Int)) = false := by simp; omega
  have B0 := Lib.hid hb0
  have B1 := Lib.hid hb1
  have B2 := Lib.hid hb2
  have H0 := Lib.hid (fun w' (h : Below w.heap.size w w') => h0.below h)
  have H1 := Lib.hid (fun w' (h : Below w.heap.size w w') => h1.below h)
  have H2 := Lib.hid (fun w' (h : Below w.heap.size w w') => h2.below h)
  clear hb0 hb1 hb2 h0 h1 h2
  go_enter Tryz.func4, Tryz.ntmps4
  go_wp2_with fail
  go_loopw [7, 8] (fun all i A => ∃ (k : Nat) (aa : Option Addr) (ac : Nat), k ≤ b.length ∧ i = .int .i64 k ∧ all = .slice aa ((b.take k).map byT).length ac ∧ OwnS encT 40 A w.heap.size aa ac ((b.take k).map byT) ∧ Below w.heap.size w A) (fun _ i _ => b.length - (intOf i).toNat)
  case atStart => exact ⟨0, none, 0, by omega, rfl, rfl, OwnS.nil _ _ _ _, Below.refl _ _⟩
  case round =>
    obtain ⟨k, aa, ac, hk, rfl, rfl, hown, hbel⟩ := hrel
    by_cases hlt : k < b.length
    · have hrA := H0.out wr hbel
      obtain ⟨bb, off, rfl, hbb, hcv⟩ := hrA.at hlt
      have hlen : ((b.take k).map byT).length = k := by simp; omega
      have HT : Hid ((b.take (k + 1)).map byT = (b.take k).map byT ++ [byT b[k]]) := Lib.hid (by rw [List.take_succ_eq_append_getElem hlt, List.map_append]; rfl)
      have HOW := Lib.hid hown
      have HBE := Lib.hid hbel
      have hsz := hbel.size
      clear hrA hown hbel
      generalize b[k] = v at *
      generalize (b.take k).map byT = pre at *
      have hn1 : pre.length + 1 ≤ 9223372036854775807 := by omega
      have hn2 : (pre.length + 1) * 24 ≤ 140737488355328 := by omega
      have HLEN := Lib.hid hlen
      clear hlen
      go_wp2_with (at_builtin; refine app1S tok_elems3 rfl (.tmp 36) (.tmp 42) rfl (byT v) (base := w.heap.size) rfl HOW.out rfl rfl (Nat.le_refl _) (by decide) hn1 hn2 hsz ?_; intro a7 c7 w7 hown7 hg7 hb7)
      have HO7 := Lib.hid hown7
      have HB7 := Lib.hid (HBE.out.trans hb7)
      clear hown7 hg7 hb7
      go_roundw
      case rel => exact ⟨k + 1, a7, c7, by omega, by go_num, by rw [HT.out]; simp, by rw [HT.out]; exact HO7.out, HB7.out⟩
      case measure => simp [intOf]; omega
    obtain rfl : k = b.length := by omega
    rw [List.take_length] at hown
    rw [List.take_length]
    have hlen : (b.map byT).length = b.length := by simp
    have HOW := Lib.hid hown
    have HBE := Lib.hid hbel
    have HL1 := Lib.hid (H1.out wr hbel)
    have hsz := hbel.size
    have HALL : Hid ((b.map byT) ++ l ++ l = (b.map byT) ++ l ++ l) := Lib.hid rfl
    have HBY : Hid (∀ t ∈ (b.map byT) ++ l ++ l, t.byte < 256) := Lib.hid (fun t ht => by
      rcases List.mem_append.1 ht with ht | ht
      · rcases List.mem_append.1 ht with ht | ht
        · obtain ⟨c, hc, rfl⟩ := List.mem_map.1 ht
          exact B0.out c hc
        · exact B1.out t ht
      · exact B1.out t ht)
    have HLA : Hid (((b.map byT) ++ l ++ l).length ≤ 100000) := Lib.hid (by simp; omega)
    have HLEN := Lib.hid hlen
    have HMAP : Hid (b.map byT = b.map fun c => (⟨0, 0, c⟩ : Tok)) := Lib.hid rfl
    clear hown hbel hlen
    generalize b.map byT = pre at *
    have hpb : pre.length ≤ 300 := by have := HLEN.out; omega
    go_wp2_with (first | (at_builtin; refine appAnyS tok_elems3 rfl (.tmp 44) (.tmp 45) rfl rfl HOW.out rfl rfl HL1.out (by omega) (by omega) hsz ?_; intro a3 cap3 w3 hown3 hg3 hb3) | (at_builtin; refine appAnyS tok_elems3 rfl (.tmp 46) (.tmp 47) rfl (show _ = Value.slice a3 (pre ++ l).length cap3 from by rw [List.length_append]; rfl) hown3 rfl rfl (H1.out _ (HBE.out.trans hb3)) (by rw [List.length_append]; omega) (by rw [List.length_append]; omega) (Nat.le_trans hsz hb3.size) ?_; intro a5 cap5 w5 hown5 hg5 hb5))
    have HE := Lib.hid (token_expand a5 cap5 (pre ++ l ++ l) w5 hown5.row HBY.out HLA.out)
    rw [List.length_append, List.length_append] at HE
    have HB5 := Lib.hid ((HBE.out.trans hb3).trans hb5)
    clear hown3 hown5 hg3 hg5 hb3 hb5 HOW HL1 HLA hsz
    refine HE.out.mono ?_
    rintro e w6 ⟨hb6, he⟩
    have HB6 := Lib.hid (HB5.out.trans (hb6.mono HB5.out.size))
    unfold ExpE at he
    by_cases hok : ∀ t ∈ pre ++ l ++ l, tokOk t
    case neg =>
      rw [if_neg hok] at he
      subst he
      clear hok HE hb6
      go_wp2_with fail
      refine (law10_reads _).mono ?_
      rintro e w7 ⟨rfl, hb7⟩
      go_wp2
      go_ret
      exact ⟨rfl, HB6.out.trans (hb7.mono HB6.out.size)⟩
    rw [if_pos hok] at he
    cases hex : expL [] (pre ++ l ++ l) with
    | none =>
      rw [hex] at he
      simp only at he
      subst he
      clear hok HE hb6 hex
      go_wp2_with fail
      refine (law10_reads _).mono ?_
      rintro e w7 ⟨rfl, hb7⟩
      go_wp2
      go_ret
      exact ⟨rfl, HB6.out.trans (hb7.mono HB6.out.size)⟩
    | some want =>
    rw [hex] at he
    simp only at he
    obtain ⟨wa, wc, rfl, howt⟩ := he
    have hlok : ∀ t ∈ l, tokOk t := fun t ht => hok t (List.mem_append_right _ ht)
    obtain ⟨hm, hcod, hhas⟩ := bestFO l B1.out hlok
    have HM := Lib.hid hm
    have HCOD := Lib.hid hcod
    have HREAD := Lib.hid (laid3_read b l _ _ beh want (by omega) B0.out B2.out codFix (fixHas hlok B1.out) hm hcod hhas (by rw [← HMAP.out]; exact hex))
    have HG3 := Lib.hid (laid3_g b l (limL (cntL (useU l) false 286) 15) (limL (cntL (useU l) true 30) 15))
    have HLOK := Lib.hid hlok
    have HWT := Lib.hid howt.row
    have hwl : want.length ≤ 300000 := by
      have hel : ∀ (m : List Tok) (o o' : List Nat), (∀ t ∈ m, tokOk t) → expL o m = some o' → o'.length ≤ o.length + 258 * m.length := by
        intro m
        induction m with
        | nil => intro o o' _ h; simp only [expL, Option.some.injEq] at h; subst h; omega
        | cons t m ih =>
          intro o o' hm h
          simp only [expL] at h
          cases ht : expT o t with
          | none => rw [ht] at h; cases h
          | some o1 =>
            rw [ht] at h
            have h2 := ih o1 o' (fun x hx => hm x (by simp [hx])) h
            have h3 : o1.length ≤ o.length + 258 := by
              unfold expT at ht
              have hto := hm t (by simp)
              split at ht
              · simp only [Option.some.injEq] at ht; subst ht; simp
              · next h0 =>
                unfold tokOk at hto
                rw [if_neg h0] at hto
                split at ht
                · cases ht
                · simp only [Option.some.injEq] at ht; subst ht; rw [repOut_len]; omega
            simp only [List.length_cons]; omega
      have := hel _ _ _ hok hex
      rw [List.length_append, List.length_append] at this
      simp only [List.length_nil] at this
      omega
    have HBST := Lib.hid (fun w' (h : Below w.heap.size w w') => law10_best a1 cap1 l w' (by omega) B1.out HLOK.out (H1.out w' h))
    have HFL := Lib.hid (show (limL (cntL (useU l) false 286) 15).length = 286 from by rw [limL_len, cntL_length])
    have HOL := Lib.hid (show (limL (cntL (useU l) true 30) 15).length = 30 from by rw [limL_len, cntL_length])
    clear hok HE hb6 hex howt hm hcod hhas hlok HBY HMAP HLEN hpb HALL HBE HB5
    generalize limL (cntL (useU l) false 286) 15 = F at *
    generalize limL (cntL (useU l) true 30) 15 = O at *
    have HW0 := Lib.hid (wrE_new w6)
    have HBX := Lib.hid (box_below w6 (.cells #[.slice none 0 0, .int .i64 0] 42))
    have hsx : w6.heap.size ≤ (w6.alloc (.cells #[.slice none 0 0, .int .i64 0] 42)).heap.size := by simp
    have u1 : (b.length : Int) % 4294967296 = (b.length : Int) := by omega
    obtain ⟨r, hr⟩ : ∃ r, 65535 - b.length = r := ⟨_, rfl⟩
    have q1 : (65535 : Int) - (b.length : Int) = (r : Int) := by omega
    have u2 : (r : Int) % 4294967296 = (r : Int) := by omega
    have hrl : r ≤ 65535 := by omega
    have HR := Lib.hid hr
    obtain ⟨p, hp⟩ : ∃ p, w6.heap.size = p := ⟨_, rfl⟩
    have HP := Lib.hid hp
    have hHI : ∀ A, Below p w6 A → Below w.heap.size w A := fun A h => HB6.out.trans (h.mono (by rw [← hp]; exact HB6.out.size))
    have HHI := Lib.hid hHI
    rw [hp] at HW0 HBX hsx
    clear hHI hr hp
    go_wp2_with fail
    simp only [HP.out]
    refine (lsb_put HW0.out 0 3 (by decide) (by decide) (by decide)).mono ?_
    rintro e w7 ⟨rfl, ho7, hW7⟩
    obtain ⟨hg1, _⟩ := addNum_g empty_g 0 3
    have hz1 : (addNum ([], 0) 0 3).2 = 3 := addNum_len _ _ _
    have HS1 : Hid (addNum ([], 0) 0 3 = begW ([], 0) false 0) := Lib.hid (by simp [begW])
    obtain ⟨S1, hS1⟩ : ∃ S, addNum ([], 0) 0 3 = S := ⟨_, rfl⟩
    rw [hS1] at hg1 hz1 HS1 hW7
    have HB7 := Lib.hid (HBX.out.trans (Below.ofOnly ho7 hsx))
    have HW7 := Lib.hid hW7
    have hal : 8 * S1.1.length ≤ 100000000 := by have := hg1.1.1; omega
    have hz2 : (alignW S1).2 = 8 := by rw [alignW_len hg1, hz1]
    have hg2 := (alignW_g hg1).1
    clear ho7 hW7 hS1 HW0 HBX hsx
    go_wp2_with fail
    refine (lsb_walign HW7.out hal).mono ?_
    rintro e w8 ⟨rfl, ho8, hW8⟩
    obtain ⟨S2, hS2⟩ : ∃ S, alignW S1 = S := ⟨_, rfl⟩
    have HS2 := Lib.hid hS2
    rw [hS2] at hz2 hg2 hW8
    have HB8 := Lib.hid (HB7.out.trans (Below.ofOnly ho8 (by have := HB7.out.size; have := HP.out; omega)))
    have HW8 := Lib.hid hW8
    clear ho8 hW8 hS2 HW7 HB7 hal hg1 hz1
    go_wp2_with fail
    refine (lsb_put HW8.out b.length 16 (by decide) (by omega) (by omega)).mono ?_
    rintro e w9 ⟨rfl, ho9, hW9⟩
    obtain ⟨hg3, _⟩ := addNum_g hg2 b.length 16
    have hz3 : (addNum S2 b.length 16).2 = 24 := by rw [addNum_len, hz2]
    obtain ⟨S3, hS3⟩ : ∃ S, addNum S2 b.length 16 = S := ⟨_, rfl⟩
    have HS3 := Lib.hid hS3
    rw [hS3] at hg3 hz3 hW9
    have HB9 := Lib.hid (HB8.out.trans (Below.ofOnly ho9 (by have := HB8.out.size; have := HP.out; omega)))
    have HW9 := Lib.hid hW9
    clear ho9 hW9 hS3 HW8 HB8 hg2 hz2
    go_wp2_with fail
    refine (lsb_put HW9.out r 16 (by decide) (by omega) (by omega)).mono ?_
    rintro e w10 ⟨rfl, ho10, hW10⟩
    obtain ⟨hg4, _⟩ := addNum_g hg3 r 16
    have hz4 : (addNum S3 r 16).2 = 40 := by rw [addNum_len, hz3]
    obtain ⟨S4, hS4⟩ : ∃ S, addNum S3 r 16 = S := ⟨_, rfl⟩
    have HS4 := Lib.hid hS4
    rw [hS4] at hg4 hz4 hW10
    have HB10 := Lib.hid (HB9.out.trans (Below.ofOnly ho10 (by have := HB9.out.size; have := HP.out; omega)))
    have HW10 := Lib.hid hW10
    clear ho10 hW10 hS4 HW9 HB9 hg3 hz3
    have HB0 := Lib.hid (H0.out _ (HHI.out _ HB10.out))
    go_wp2_with fail
    go_loopw [12] (fun i A => ∃ k : Nat, k ≤ b.length ∧ i = .int .i64 k ∧ Below p w6 A ∧ Wr (fun b => p ≤ b) A p (putB S4 (b.take k))) (fun i _ => b.length - (intOf i).toNat)
    case atStart => exact ⟨0, by omega, rfl, HB10.out, HW10.out⟩
    case round =>
      clear HW10 HB0 HB10
      obtain ⟨k, hk, rfl, hbA, hWA⟩ := hrel
      have hpz := (putB_g (b.take k) hg4).2.2
      rw [hz4, List.length_take] at hpz
      by_cases hlt : k < b.length
      · have hrA := H0.out _ (HHI.out _ hbA)
        obtain ⟨bb, off, rfl, hbb, hcv⟩ := hrA.at hlt
        have hv := B0.out _ (List.getElem_mem hlt)
        have HT := Lib.hid (putB_snoc S4 b k hlt)
        have HBA := Lib.hid hbA
        have HWA := Lib.hid hWA
        have hki : (k : Int) < (b.length : Int) := by omega
        clear hrA hbA hWA
        generalize b[k] = v at *
        generalize putB S4 (b.take k) = SA at *
        have u3 : (v : Int) % 4294967296 = (v : Int) := by omega
        go_wp2_with fail
        refine (lsb_put HWA.out v 8 (by decide) (by omega) (by omega)).mono ?_
        rintro e w11 ⟨rfl, ho11, hW11⟩
        have HB11 := Lib.hid (HBA.out.trans (Below.ofOnly ho11 (by have := HBA.out.size; have := HP.out; omega)))
        have HW11 := Lib.hid hW11
        clear ho11 hW11
        go_wp2
        go_roundw
        case rel => exact ⟨k + 1, by omega, by go_num, HB11.out, by rw [HT.out]; exact HW11.out⟩
        case measure => simp [intOf]; omega
      obtain rfl : k = b.length := by omega
      rw [List.take_length] at hWA hpz
      have hg5 := (putB_g b hg4).1
      have hz5 : (putB S4 b).2 = 40 + 8 * b.length := by rw [hpz, Nat.min_self]
      obtain ⟨S5, hS5⟩ : ∃ S, putB S4 b = S := ⟨_, rfl⟩
      have HS5 := Lib.hid hS5
      rw [hS5] at hg5 hz5 hWA
      have HB11 := Lib.hid hbA
      have HW11 := Lib.hid hWA
      have HQ : Hid (∀ x, 0 < l.length → a1 = some x → x.block < p) := Lib.hid (fun x h0' hx => by
        obtain ⟨b', off, he, hlt', _⟩ := (H1.out w6 HB6.out).at h0'
        rw [hx] at he
        cases he
        have := HP.out
        show b' < p
        omega)
      clear hbA hWA hpz hS5 hg4 hz4 hlt hk
      go_wp2_with fail
      refine (lsb_put HW11.out 2 3 (by decide) (by decide) (by omega)).mono ?_
      rintro e w12 ⟨rfl, ho12, hW12⟩
      obtain ⟨hg6, _⟩ := addNum_g hg5 2 3
      have hz6 : (addNum S5 2 3).2 = 43 + 8 * b.length := by rw [addNum_len, hz5]; omega
      have HS6 : Hid (addNum S5 2 3 = begW S5 false 1) := Lib.hid (by simp [begW])
      obtain ⟨S6, hS6⟩ : ∃ S, addNum S5 2 3 = S := ⟨_, rfl⟩
      rw [hS6] at hg6 hz6 HS6 hW12
      have HB12 := Lib.hid (HB11.out.trans (Below.ofOnly ho12 (by have := HB11.out.size; have := HP.out; omega)))
      have HW12 := Lib.hid hW12
      clear ho12 hW12 hS6 HW11 HB11 hg5 hz5
      go_wp2_with fail
      refine (law10_fixed _).mono ?_
      rintro e w13 ⟨g1, g2, rfl, r1, r2, hb13⟩
      rw [fixN_F] at r1
      rw [fixN_D] at r2
      have HB13 := Lib.hid (HB12.out.trans (hb13.mono (by have := HB12.out.size; have := HP.out; omega)))
      have hlay := law10_lay (HW12.out.below hb13) a1 (some ⟨g1, 0, none⟩) (some ⟨g2, 0, none⟩) cap1 288 32 l fixF fixD (H1.out _ (HHI.out _ HB13.out)) B1.out (fun x h0' hx hpx => by have := HQ.out x h0' hx; omega) (fun x h0' hx => by have := HQ.out x h0' hx; have := HB13.out.size; have := HP.out; omega) r1 r2 (words_ok codFix.a20 codFix.aw codFix.al) (words_ok codFix.b20 codFix.bw (by have := codFix.bl; omega)) (by omega) (by omega)
      rw [fixF_len10, fixD_len10] at hlay
      have HLAY := Lib.hid hlay
      clear r1 r2 hb13 HW12 HB12 hlay
      go_wp2_with fail
      refine HLAY.out.mono ?_
      rintro e w14 ⟨rfl, ho14, hW14⟩
      have hg7 := (layBlk_g hg6 fixF fixD l).1
      have hz7 := lay_len codFix.a20 codFix.b20 S6 l
      have hW14' : Wr (fun b => p ≤ b) w14 p (layBlk fixF fixD S6 l) := hW14
      obtain ⟨S7, hS7⟩ : ∃ S, layBlk fixF fixD S6 l = S := ⟨_, rfl⟩
      have HS7 := Lib.hid hS7
      rw [hS7] at hg7 hz7 hW14'
      have HB14 := Lib.hid (HB13.out.trans (Below.ofOnly ho14 (by have := HB13.out.size; have := HP.out; omega)))
      have HW14 := Lib.hid hW14'
      clear ho14 hW14 hW14' hS7 HLAY HB13 hg6
      go_wp2_with fail
      refine (lsb_put HW14.out 5 3 (by decide) (by decide) (by omega)).mono ?_
      rintro e w15 ⟨rfl, ho15, hW15⟩
      obtain ⟨hg8, _⟩ := addNum_g hg7 5 3
      have hz8 : (addNum S7 5 3).2 = S7.2 + 3 := addNum_len _ _ _
      have HS8 : Hid (addNum S7 5 3 = begW S7 true 2) := Lib.hid (by simp [begW])
      obtain ⟨S8, hS8⟩ : ∃ S, addNum S7 5 3 = S := ⟨_, rfl⟩
      rw [hS8] at hg8 hz8 HS8 hW15
      have HB15 := Lib.hid (HB14.out.trans (Below.ofOnly ho15 (by have := HB14.out.size; have := HP.out; omega)))
      have HW15 := Lib.hid hW15
      clear ho15 hW15 hS8 HW14 HB14 hg7
      go_wp2_with fail
      refine (HBST.out w15 (HHI.out _ HB15.out)).mono ?_
      rintro e w16 ⟨x1, d1, x2, d2, rfl, q3, q4, hb16⟩
      have HB16 := Lib.hid (HB15.out.trans (hb16.mono (by have := HB15.out.size; have := HP.out; omega)))
      have hW16 := HW15.out.narrow hb16
      have hput := header_put hW16 x1 x2 d1 d2 F O q3.row q4.row (by have := HFL.out; omega) (by have := HOL.out; omega) (by omega)
      rw [HFL.out, HOL.out] at hput
      have HPUT := Lib.hid hput
      have HQ34 := Lib.hid (And.intro q3 q4)
      obtain ⟨lo, hlo⟩ : ∃ lo, w15.heap.size = lo := ⟨_, rfl⟩
      obtain ⟨hi, hhi⟩ : ∃ hi, w16.heap.size = hi := ⟨_, rfl⟩
      rw [hlo, hhi] at HPUT
      rw [hlo] at HQ34
      have HHIX := Lib.hid hhi
      clear hput hW16 hb16 q3 q4 HW15 HBST hlo hhi
      go_wp2_with fail
      refine HPUT.out.mono ?_
      rintro e w17 ⟨ho17, hpo⟩
      rw [HM.out] at hpo
      obtain ⟨rfl, hW17⟩ := hpo
      have hg9 := (hputW_g hg8 F O).1
      have hz9 := hputW_len hg8 F O (fun x hx => (List.mem_append.1 hx).elim (HCOD.out.a20 x) (HCOD.out.b20 x))
      rw [HFL.out, HOL.out] at hz9
      obtain ⟨S9, hS9⟩ : ∃ S, hputW S8 F O = S := ⟨_, rfl⟩
      have HS9 := Lib.hid hS9
      rw [hS9] at hg9 hz9 hW17
      have HB17 := Lib.hid (HB16.out.trans (Below.ofOnly (ho17.mono (fun k _ hk => hk.1) : Only (fun b => p ≤ b) w16 w17) (by have := HB16.out.size; have := HP.out; omega)))
      have hlay2 := law10_lay hW17 a1 x1 x2 cap1 d1 d2 l F O (H1.out _ (HHI.out _ HB17.out)) B1.out (fun x h0' hx hpx => by have := HQ.out x h0' hx; have := hpx.1; omega) (fun x h0' hx => by have := HQ.out x h0' hx; have := HB17.out.size; have := HP.out; omega) (own_keep HQ34.out.1 HHIX.out ho17) (own_keep HQ34.out.2 HHIX.out ho17) (words_ok HCOD.out.a20 HCOD.out.aw HCOD.out.al) (words_ok HCOD.out.b20 HCOD.out.bw (by have := HCOD.out.bl; omega)) (by omega) (by omega)
      rw [HFL.out, HOL.out] at hlay2
      have HLAY := Lib.hid hlay2
      clear hlay2 HPUT HB16 ho17 hW17 hS9 HQ34 HHIX hg8
      go_wp2_with fail
      refine HLAY.out.mono ?_
      rintro e w18 ⟨rfl, ho18, hW18⟩
      have hz10 := lay_len HCOD.out.a20 HCOD.out.b20 S9 l
      have hW18' : Wr (fun b => p ≤ b) w18 p (layBlk F O S9 l) := Wr.widen hW18
      have hfin : layBlk F O S9 l = laid3 b l F O := by
        rw [← HS9.out, ← show begW S7 true 2 = S8 from HS8.out.symm, ← HS7.out, show S6 = begW S5 false 1 from HS6.out, ← HS5.out]
        unfold laid3 stoBlk
        rw [← HS4.out, ← HS3.out, ← HS2.out, show S1 = begW ([], 0) false 0 from HS1.out, HR.out]
      have HB18 := Lib.hid (HB17.out.trans (Below.ofOnly (ho18.mono (fun k _ hk => hk.1) : Only (fun b => p ≤ b) w17 w18) (by have := HB17.out.size; have := HP.out; omega)))
      rw [hfin] at hz10 hW18'
      have hg10 := HG3.out
      have hread := HREAD.out
      obtain ⟨SS, hSS⟩ : ∃ S, laid3 b l F O = S := ⟨_, rfl⟩
      rw [hSS] at hz10 hW18' hg10 hread
      have HW18 := Lib.hid hW18'
      have hsl : SS.1.length ≤ 99000 := by have := hg10.1.1; omega
      have husd := used_bytes hg10
      have hbyt : ∀ x ∈ SS.1 ++ beh, x < 256 := fun x hx => (List.mem_append.1 hx).elim (hg10.1.2 x) (B2.out x)
      have HINF := Lib.hid (fun (w' : World) (a9 : Option Addr) (c9 : Nat) (h9 : RowN .u8 w' a9 c9 (SS.1 ++ beh)) => inflate_some (keep := want.length) h9 hbyt (by rw [List.length_append]; omega) (by omega) hread)
      rw [List.take_length, husd] at HINF
      have HBT := Lib.hid (B2.out)
      clear ho18 hW18 hW18' hfin hSS HLAY HB17 hz10 hg9 hz9 hg10 hread husd hbyt HREAD HG3 HS1 HS2 HS3 HS4 HS5 HS6 HS7 HS8 HS9 HCOD HM
      go_wp2_with fail
      refine (lsb_bytes HW18.out).mono ?_
      rintro e w19 ⟨a9, c9, rfl, hown9, hb19⟩
      have HB19 := Lib.hid (HB18.out.trans (hb19.mono (by have := HB18.out.size; have := HP.out; omega)))
      have hs19 := hb19.size
      have HZ19 := Lib.hid hb19
      have HR2 := Lib.hid (H2.out _ (HHI.out _ HB19.out))
      have HO9 := Lib.hid hown9
      clear hown9 hb19
      go_wp2_with (at_builtin; refine appAnyN et_u8 rfl (.tmp 104) (.tmp 105) rfl rfl HO9.out rfl rfl HR2.out (by omega) (by omega) hs19 ?_; intro a10 c10 w20 hown10 hg10 hb10)
      have hb20 := HZ19.out.trans hb10
      have HW20 := Lib.hid (HW18.out.below hb20)
      have HB20 := Lib.hid (HB18.out.trans (hb20.mono (by have := HB18.out.size; have := HP.out; omega)))
      have hinf := HINF.out w20 a10 c10 hown10.row
      rw [List.length_append] at hinf
      have HI2 := Lib.hid hinf
      clear hown10 hg10 hb10 hb20 hinf HINF HZ19 HO9 HR2 hs19 HB19 HB18 HW18
      go_wp2_with fail
      refine HI2.out.mono ?_
      rintro e w21 ⟨hb21, fa, fc, rfl, hrf⟩
      have HB21 := Lib.hid (HB20.out.trans (hb21.mono (by have := HB20.out.size; have := HP.out; omega)))
      have HW21 := Lib.hid (HW20.out.below hb21)
      have HRF := Lib.hid hrf
      have HRW := Lib.hid (HWT.out.below (HB21.out.mono (by have := HP.out; omega) : Below w6.heap.size w6 w21))
      obtain ⟨u1, hu1⟩ : ∃ u, SS.1.length = u := ⟨_, rfl⟩
      have HU1 := Lib.hid hu1
      obtain ⟨n1, hn1⟩ : ∃ n, want.length = n := ⟨_, rfl⟩
      have HN1 := Lib.hid hn1
      rw [hn1, hu1]
      clear hb21 hrf HI2 HW20 HB20 hu1 hn1
      go_wp2_with fail
      obtain ⟨x9, hx9⟩ : ∃ x9, strOf want = x9 := ⟨_, rfl⟩
      have hbx := box_below w21 (.cells #[.slice fa n1 fc, .int .i64 (n1 : Nat), .int .i64 (u1 : Nat), .bool false] 53)
      have hcx := World.alloc_heap_new w21 (.cells #[.slice fa n1 fc, .int .i64 (n1 : Nat), .int .i64 (u1 : Nat), .bool false] 53)
      have hsz9 : w21.heap.size < (w21.alloc (.cells #[.slice fa n1 fc, .int .i64 (n1 : Nat), .int .i64 (u1 : Nat), .bool false] 53)).heap.size := by simp
      obtain ⟨W0, hW0⟩ : ∃ W0, w21.alloc (.cells #[.slice fa n1 fc, .int .i64 (n1 : Nat), .int .i64 (u1 : Nat), .bool false] 53) = W0 := ⟨_, rfl⟩
      rw [hW0] at hbx hcx hsz9
      rw [hW0]
      have HRF0 := Lib.hid (HRF.out.below hbx)
      have HRW0 := Lib.hid (HRW.out.below hbx)
      have HW22 := Lib.hid (HW21.out.below hbx)
      have HB22 := Lib.hid (HHI.out _ (HB21.out.trans (hbx.mono (by have := HB21.out.size; have := HP.out; omega))))
      have HB0 := Lib.hid (fun A (h : Below W0.heap.size W0 A) => (HB22.out.trans (h.mono HB22.out.size) : Below w.heap.size w A))
      have HBYT := Lib.hid (fun A (h : Below W0.heap.size W0 A) => ((lsb_bytes (HW22.out.below h)).mono (fun e w9 h9 => by
        obtain ⟨a9, c9, e1, _, e3⟩ := h9
        rw [HU1.out] at e1
        exact ⟨a9, c9, e1, e3⟩) : Calls Tryz.prog 25 #[.pointer (some ⟨p, 0, none⟩)] A fun e w9 => ∃ a9 c9, e = .returned (.slice a9 u1 c9) ∧ Below A.heap.size A w9))
      have HCF := Lib.hid (fun A (h : Below W0.heap.size W0 A) => (by have := conv_row Tryz.underlying24 Tryz.underlying5 Tryz.underlying9 rfl (HRF0.out.below h); rw [hx9] at this; exact this : _))
      have HCW := Lib.hid (fun A (h : Below W0.heap.size W0 A) => (by have := conv_row Tryz.underlying24 Tryz.underlying5 Tryz.underlying9 rfl (HRW0.out.below h); rw [hx9] at this; exact this : _))
      rw [HN1.out] at HCF HCW
      have tl1 : (x9.toList == x9.toList) = true := by simp
      obtain ⟨fb, hfb⟩ : ∃ fb, w21.heap.size = fb := ⟨_, rfl⟩
      rw [hfb] at hcx hsz9
      have HFC := Lib.hid (fun A (h : Below W0.heap.size W0 A) => (by
        have e := (h.block fb hsz9).trans hcx
        exact ⟨by simp [World.cell?, e], by simp [World.cell?, e], by simp [World.cell?, e]⟩ : A.cell? ⟨fb, 0, none⟩ = some (.slice fa n1 fc) ∧ A.cell? ⟨fb, 1, none⟩ = some (.int .i64 (n1 : Nat)) ∧ A.cell? ⟨fb, 2, none⟩ = some (.int .i64 (u1 : Nat))))
      simp only [hfb]
      clear hx9 hbx hcx hsz9 hW0 hfb HRF HRW HW21 HB21 HRF0 HRW0 HW22 HB22 HU1 HN1 HHI
  -- THE LAST REGION
      refine FG.wp_region_flowG [112, 113, 114, 115, 116, 117, 118, 119, 120, 121, 122, 123, 124, 125, 126, 127, 128, 129, 130, 131, 132, 133, 134, 135, 136, 137, 138, 6] (fun j => j == 27) (fun listed w1 => Below W0.heap.size W0 w1) (fun j v w9 => match j with | 0 => v = .int .i64 0 | 1 => v = .bool true | 2 => v = .bool true | 3 => v = .pointer (some ⟨fb, 0, none⟩) | 4 => v = .slice fa n1 fc | 5 => v = .string x9 | 6 => v = .slice wa n1 wc | 7 => v = .string x9 | 8 => v = .bool true | 9 => v = .bool true | 10 => v = .bool true | 11 => v = .pointer (some ⟨fb, 1, none⟩) | 12 => v = .int .i64 (n1 : Nat) | 13 => v = .slice wa n1 wc | 14 => v = .int .i64 (n1 : Nat) | 15 => v = .bool true | 16 => v = .bool true | 17 => v = .bool true | 18 => v = .pointer (some ⟨fb, 2, none⟩) | 19 => v = .int .i64 (u1 : Nat) | 21 => v = .int .i64 (u1 : Nat) | 22 => v = .bool true | 23 => v = .bool true | 24 => v = .bool true | 25 => v = .bool true | 26 => v = .bool true | 27 => v = .bool true | 20 => (∃ a9 c9, v = Value.slice a9 u1 c9) | _ => True) (fun _ _ _ _ => True) (by kernel_rfl) (by kernel_rfl) (FG.OneEach.mk' (by kernel_rfl) (by kernel_rfl)) (by kernel_rfl) (by exact ⟨rfl, rfl, rfl, Nat.le_refl _, fun _ _ => rfl⟩) ?_ ?_
      · intro i0 o hi0 listed a1 w1 hR hil hunf hdes hanc hout hold hdep
        have hsz : i0 < 28 := (Array.getElem?_eq_some_iff.1 hi0).1
        have hall : i0 = 0 ∨ i0 = 1 ∨ i0 = 2 ∨ i0 = 3 ∨ i0 = 4 ∨ i0 = 5 ∨ i0 = 6 ∨ i0 = 7 ∨ i0 = 8 ∨ i0 = 9 ∨ i0 = 10 ∨ i0 = 11 ∨ i0 = 12 ∨ i0 = 13 ∨ i0 = 14 ∨ i0 = 15 ∨ i0 = 16 ∨ i0 = 17 ∨ i0 = 18 ∨ i0 = 19 ∨ i0 = 20 ∨ i0 = 21 ∨ i0 = 22 ∨ i0 = 23 ∨ i0 = 24 ∨ i0 = 25 ∨ i0 = 26 ∨ i0 = 27 := by omega
        clear hsz
        rcases hall with rfl | rfl | rfl | rfl | rfl | rfl | rfl | rfl | rfl | rfl | rfl | rfl | rfl | rfl | rfl | rfl | rfl | rfl | rfl | rfl | rfl | rfl | rfl | rfl | rfl | rfl | rfl | rfl <;> simp only [List.getElem?_toArray, List.getElem?_cons_zero, List.getElem?_cons_succ, Option.some.injEq] at hi0 <;> subst hi0
        · refine ⟨wanted_none rfl, ?_⟩
          have f16 : a1.eval (.tmp 16) = .int .i64 0 := hout 16 (by decide)
          refine stepTo_val (v := .int .i64 0) (w' := w1) (by simp [execOp, f16]) ⟨_, rfl, hR, fun j u hu hV _ => ⟨hV, trivial, trivial⟩, rfl⟩
        · refine ⟨wanted_none rfl, ?_⟩
          have e112 : a1.eval (.tmp 112) = .int .i64 0 := hdep ⟨0, .data⟩ (by simp) rfl _ rfl
          have x112 : a1.tmps[112]?.getD undef = .int .i64 0 := by simpa [Act.eval] using e112
          refine stepTo_val (v := .bool true) (w' := w1) (by simp [execOp, x112, go_sem, evalC]) ⟨_, rfl, hR, fun j u hu hV _ => ⟨hV, trivial, trivial⟩, rfl⟩
        · refine ⟨wanted_none rfl, ?_⟩
          have e113 : a1.eval (.tmp 113) = .bool true := hdep ⟨1, .data⟩ (by simp) rfl _ rfl
          refine stepTo_val (v := .bool true) (w' := w1) (by simp [execOp, e113]) ⟨_, rfl, hR, fun j u hu hV _ => ⟨hV, trivial, trivial⟩, rfl⟩
        · have eg : a1.eval (.tmp 114) = .bool true := hdep ⟨2, .guard⟩ (by simp) rfl _ rfl
          refine ⟨wanted_of rfl rfl (by simpa [Act.eval] using eg), ?_⟩
          have f15 : a1.eval (.tmp 15) = .pointer (some ⟨fb, 0, none⟩) := hout 15 (by decide)
          refine stepTo_val (v := .pointer (some ⟨fb, 0, none⟩)) (w' := w1) (by simp [execOp, f15, fldF0]) ⟨_, rfl, hR, fun j u hu hV _ => ⟨hV, trivial, trivial⟩, rfl⟩
        · have eg : a1.eval (.tmp 114) = .bool true := hdep ⟨2, .guard⟩ (by simp) rfl _ rfl
          refine ⟨wanted_of rfl rfl (by simpa [Act.eval] using eg), ?_⟩
          have e115 : a1.eval (.tmp 115) = .pointer (some ⟨fb, 0, none⟩) := hdep ⟨3, .data⟩ (by simp) rfl _ rfl
          have hc := (HFC.out w1 hR).1
          refine stepTo_val (v := .slice fa n1 fc) (w' := w1) (by simp [execOp, e115, ldSl24 _ _ _ hc]) ⟨_, rfl, hR, fun j u hu hV _ => ⟨hV, trivial, trivial⟩, rfl⟩
        · have eg : a1.eval (.tmp 114) = .bool true := hdep ⟨2, .guard⟩ (by simp) rfl _ rfl
          refine ⟨wanted_of rfl rfl (by simpa [Act.eval] using eg), ?_⟩
          have e116 : a1.eval (.tmp 116) = .slice fa n1 fc := hdep ⟨4, .data⟩ (by simp) rfl _ rfl
          have x116 : a1.tmps[116]?.getD undef = .slice fa n1 fc := by simpa [Act.eval] using e116
          have hcv := HCF.out w1 hR
          refine stepTo_val (v := .string x9) (w' := w1) (by simp [execOp, x116, hcv, go_sem]) ⟨_, rfl, hR, fun j u hu hV _ => ⟨hV, trivial, trivial⟩, rfl⟩
        · have eg : a1.eval (.tmp 114) = .bool true := hdep ⟨2, .guard⟩ (by simp) rfl _ rfl
          refine ⟨wanted_of rfl rfl (by simpa [Act.eval] using eg), ?_⟩
          have f9 : a1.eval (.tmp 9) = .slice wa n1 wc := hout 9 (by decide)
          refine stepTo_val (v := .slice wa n1 wc) (w' := w1) (by simp [execOp, f9]) ⟨_, rfl, hR, fun j u hu hV _ => ⟨hV, trivial, trivial⟩, rfl⟩
        · have eg : a1.eval (.tmp 114) = .bool true := hdep ⟨2, .guard⟩ (by simp) rfl _ rfl
          refine ⟨wanted_of rfl rfl (by simpa [Act.eval] using eg), ?_⟩
          have e118 : a1.eval (.tmp 118) = .slice wa n1 wc := hdep ⟨6, .data⟩ (by simp) rfl _ rfl
          have x118 : a1.tmps[118]?.getD undef = .slice wa n1 wc := by simpa [Act.eval] using e118
          have hcv := HCW.out w1 hR
          refine stepTo_val (v := .string x9) (w' := w1) (by simp [execOp, x118, hcv, go_sem]) ⟨_, rfl, hR, fun j u hu hV _ => ⟨hV, trivial, trivial⟩, rfl⟩
        · have eg : a1.eval (.tmp 114) = .bool true := hdep ⟨2, .guard⟩ (by simp) rfl _ rfl
          refine ⟨wanted_of rfl rfl (by simpa [Act.eval] using eg), ?_⟩
          have e117 : a1.eval (.tmp 117) = .string x9 := hdep ⟨5, .data⟩ (by simp) rfl _ rfl
          have x117 : a1.tmps[117]?.getD undef = .string x9 := by simpa [Act.eval] using e117
          have e119 : a1.eval (.tmp 119) = .string x9 := hdep ⟨7, .data⟩ (by simp) rfl _ rfl
          have x119 : a1.tmps[119]?.getD undef = .string x9 := by simpa [Act.eval] using e119
          refine stepTo_val (v := .bool true) (w' := w1) (by simp [execOp, x117, x119, go_sem, tl1]) ⟨_, rfl, hR, fun j u hu hV _ => ⟨hV, trivial, trivial⟩, rfl⟩
        · refine ⟨wanted_none rfl, ?_⟩
          have e114 : a1.eval (.tmp 114) = .bool true := hdep ⟨2, .data⟩ (by simp) rfl _ rfl
          have x114 : a1.tmps[114]?.getD undef = .bool true := by simpa [Act.eval] using e114
          have e120 : a1.eval (.tmp 120) = .bool true := hdep ⟨8, .data⟩ (by simp) rfl _ rfl
          have x120 : a1.tmps[120]?.getD undef = .bool true := by simpa [Act.eval] using e120
          refine stepTo_val (v := .bool true) (w' := w1) (by simp [execOp, x114, x120, go_sem]) ⟨_, rfl, hR, fun j u hu hV _ => ⟨hV, trivial, trivial⟩, rfl⟩
        · refine ⟨wanted_none rfl, ?_⟩
          have e121 : a1.eval (.tmp 121) = .bool true := hdep ⟨9, .data⟩ (by simp) rfl _ rfl
          refine stepTo_val (v := .bool true) (w' := w1) (by simp [execOp, e121]) ⟨_, rfl, hR, fun j u hu hV _ => ⟨hV, trivial, trivial⟩, rfl⟩
        · have eg : a1.eval (.tmp 122) = .bool true := hdep ⟨10, .guard⟩ (by simp) rfl _ rfl
          refine ⟨wanted_of rfl rfl (by simpa [Act.eval] using eg), ?_⟩
          have f15 : a1.eval (.tmp 15) = .pointer (some ⟨fb, 0, none⟩) := hout 15 (by decide)
          refine stepTo_val (v := .pointer (some ⟨fb, 1, none⟩)) (w' := w1) (by simp [execOp, f15, fldF1]) ⟨_, rfl, hR, fun j u hu hV _ => ⟨hV, trivial, trivial⟩, rfl⟩
        · have eg : a1.eval (.tmp 122) = .bool true := hdep ⟨10, .guard⟩ (by simp) rfl _ rfl
          refine ⟨wanted_of rfl rfl (by simpa [Act.eval] using eg), ?_⟩
          have e123 : a1.eval (.tmp 123) = .pointer (some ⟨fb, 1, none⟩) := hdep ⟨11, .data⟩ (by simp) rfl _ rfl
          have hc := (HFC.out w1 hR).2.1
          refine stepTo_val (v := .int .i64 (n1 : Nat)) (w' := w1) (by simp [execOp, e123, ldInt _ _ _ hc]) ⟨_, rfl, hR, fun j u hu hV _ => ⟨hV, trivial, trivial⟩, rfl⟩
        · have eg : a1.eval (.tmp 122) = .bool true := hdep ⟨10, .guard⟩ (by simp) rfl _ rfl
          refine ⟨wanted_of rfl rfl (by simpa [Act.eval] using eg), ?_⟩
          have f9 : a1.eval (.tmp 9) = .slice wa n1 wc := hout 9 (by decide)
          refine stepTo_val (v := .slice wa n1 wc) (w' := w1) (by simp [execOp, f9]) ⟨_, rfl, hR, fun j u hu hV _ => ⟨hV, trivial, trivial⟩, rfl⟩
        · have eg : a1.eval (.tmp 122) = .bool true := hdep ⟨10, .guard⟩ (by simp) rfl _ rfl
          refine ⟨wanted_of rfl rfl (by simpa [Act.eval] using eg), ?_⟩
          have e125 : a1.eval (.tmp 125) = .slice wa n1 wc := hdep ⟨13, .data⟩ (by simp) rfl _ rfl
          have x125 : a1.tmps[125]?.getD undef = .slice wa n1 wc := by simpa [Act.eval] using e125
          refine stepTo_val (v := .int .i64 (n1 : Nat)) (w' := w1) (by simp [execOp, x125, go_sem]) ⟨_, rfl, hR, fun j u hu hV _ => ⟨hV, trivial, trivial⟩, rfl⟩
        · have eg : a1.eval (.tmp 122) = .bool true := hdep ⟨10, .guard⟩ (by simp) rfl _ rfl
          refine ⟨wanted_of rfl rfl (by simpa [Act.eval] using eg), ?_⟩
          have e124 : a1.eval (.tmp 124) = .int .i64 (n1 : Nat) := hdep ⟨12, .data⟩ (by simp) rfl _ rfl
          have x124 : a1.tmps[124]?.getD undef = .int .i64 (n1 : Nat) := by simpa [Act.eval] using e124
          have e126 : a1.eval (.tmp 126) = .int .i64 (n1 : Nat) := hdep ⟨14, .data⟩ (by simp) rfl _ rfl
          have x126 : a1.tmps[126]?.getD undef = .int .i64 (n1 : Nat) := by simpa [Act.eval] using e126
          refine stepTo_val (v := .bool true) (w' := w1) (by simp [execOp, x124, x126, go_sem, evalC]) ⟨_, rfl, hR, fun j u hu hV _ => ⟨hV, trivial, trivial⟩, rfl⟩
        · refine ⟨wanted_none rfl, ?_⟩
          have e122 : a1.eval (.tmp 122) = .bool true := hdep ⟨10, .data⟩ (by simp) rfl _ rfl
          have x122 : a1.tmps[122]?.getD undef = .bool true := by simpa [Act.eval] using e122
          have e127 : a1.eval (.tmp 127) = .bool true := hdep ⟨15, .data⟩ (by simp) rfl _ rfl
          have x127 : a1.tmps[127]?.getD undef = .bool true := by simpa [Act.eval] using e127
          refine stepTo_val (v := .bool true) (w' := w1) (by simp [execOp, x122, x127, go_sem]) ⟨_, rfl, hR, fun j u hu hV _ => ⟨hV, trivial, trivial⟩, rfl⟩
        · refine ⟨wanted_none rfl, ?_⟩
          have e128 : a1.eval (.tmp 128) = .bool true := hdep ⟨16, .data⟩ (by simp) rfl _ rfl
          refine stepTo_val (v := .bool true) (w' := w1) (by simp [execOp, e128]) ⟨_, rfl, hR, fun j u hu hV _ => ⟨hV, trivial, trivial⟩, rfl⟩
        · have eg : a1.eval (.tmp 129) = .bool true := hdep ⟨17, .guard⟩ (by simp) rfl _ rfl
          refine ⟨wanted_of rfl rfl (by simpa [Act.eval] using eg), ?_⟩
          have f15 : a1.eval (.tmp 15) = .pointer (some ⟨fb, 0, none⟩) := hout 15 (by decide)
          refine stepTo_val (v := .pointer (some ⟨fb, 2, none⟩)) (w' := w1) (by simp [execOp, f15, fldF2]) ⟨_, rfl, hR, fun j u hu hV _ => ⟨hV, trivial, trivial⟩, rfl⟩
        · have eg : a1.eval (.tmp 129) = .bool true := hdep ⟨17, .guard⟩ (by simp) rfl _ rfl
          refine ⟨wanted_of rfl rfl (by simpa [Act.eval] using eg), ?_⟩
          have e130 : a1.eval (.tmp 130) = .pointer (some ⟨fb, 2, none⟩) := hdep ⟨18, .data⟩ (by simp) rfl _ rfl
          have hc := (HFC.out w1 hR).2.2
          refine stepTo_val (v := .int .i64 (u1 : Nat)) (w' := w1) (by simp [execOp, e130, ldInt _ _ _ hc]) ⟨_, rfl, hR, fun j u hu hV _ => ⟨hV, trivial, trivial⟩, rfl⟩
        · have eg : a1.eval (.tmp 129) = .bool true := hdep ⟨17, .guard⟩ (by simp) rfl _ rfl
          refine ⟨wanted_of rfl rfl (by simpa [Act.eval] using eg), ?_⟩
          have f11 : a1.eval (.tmp 11) = .pointer (some ⟨p, 0, none⟩) := hout 11 (by decide)
          have x11 : a1.tmps[11]?.getD undef = .pointer (some ⟨p, 0, none⟩) := by simpa [Act.eval] using f11
          refine stepTo_call (f := 25) (args := #[.pointer (some ⟨p, 0, none⟩)]) (by simp [x11, go_sem]) ((HBYT.out w1 hR).mono ?_)
          rintro e w9 ⟨a9, c9, rfl, hb9⟩
          exact ⟨_, rfl, _, rfl, hR.trans (hb9.mono hR.size), fun j u hu hV _ => ⟨hV, trivial, trivial⟩, a9, c9, rfl⟩
        · have eg : a1.eval (.tmp 129) = .bool true := hdep ⟨17, .guard⟩ (by simp) rfl _ rfl
          refine ⟨wanted_of rfl rfl (by simpa [Act.eval] using eg), ?_⟩
          obtain ⟨a9, c9, e132⟩ : ∃ a9 c9, a1.eval (.tmp 132) = Value.slice a9 u1 c9 := hdep ⟨20, .data⟩ (by simp) rfl _ rfl
          have x132 : a1.tmps[132]?.getD undef = .slice a9 u1 c9 := by simpa [Act.eval] using e132
          refine stepTo_val (v := .int .i64 (u1 : Nat)) (w' := w1) (by simp [execOp, x132, go_sem]) ⟨_, rfl, hR, fun j u hu hV _ => ⟨hV, trivial, trivial⟩, rfl⟩
        · have eg : a1.eval (.tmp 129) = .bool true := hdep ⟨17, .guard⟩ (by simp) rfl _ rfl
          refine ⟨wanted_of rfl rfl (by simpa [Act.eval] using eg), ?_⟩
          have e131 : a1.eval (.tmp 131) = .int .i64 (u1 : Nat) := hdep ⟨19, .data⟩ (by simp) rfl _ rfl
          have x131 : a1.tmps[131]?.getD undef = .int .i64 (u1 : Nat) := by simpa [Act.eval] using e131
          have e133 : a1.eval (.tmp 133) = .int .i64 (u1 : Nat) := hdep ⟨21, .data⟩ (by simp) rfl _ rfl
          have x133 : a1.tmps[133]?.getD undef = .int .i64 (u1 : Nat) := by simpa [Act.eval] using e133
          refine stepTo_val (v := .bool true) (w' := w1) (by simp [execOp, x131, x133, go_sem, evalC]) ⟨_, rfl, hR, fun j u hu hV _ => ⟨hV, trivial, trivial⟩, rfl⟩
        · refine ⟨wanted_none rfl, ?_⟩
          have e129 : a1.eval (.tmp 129) = .bool true := hdep ⟨17, .data⟩ (by simp) rfl _ rfl
          have x129 : a1.tmps[129]?.getD undef = .bool true := by simpa [Act.eval] using e129
          have e134 : a1.eval (.tmp 134) = .bool true := hdep ⟨22, .data⟩ (by simp) rfl _ rfl
          have x134 : a1.tmps[134]?.getD undef = .bool true := by simpa [Act.eval] using e134
          refine stepTo_val (v := .bool true) (w' := w1) (by simp [execOp, x129, x134, go_sem]) ⟨_, rfl, hR, fun j u hu hV _ => ⟨hV, trivial, trivial⟩, rfl⟩
        · refine ⟨wanted_none rfl, ?_⟩
          have e135 : a1.eval (.tmp 135) = .bool true := hdep ⟨23, .data⟩ (by simp) rfl _ rfl
          refine stepTo_val (v := .bool true) (w' := w1) (by simp [execOp, e135]) ⟨_, rfl, hR, fun j u hu hV _ => ⟨hV, trivial, trivial⟩, rfl⟩
        · have eg : a1.eval (.tmp 136) = .bool true := hdep ⟨24, .guard⟩ (by simp) rfl _ rfl
          refine ⟨wanted_of rfl rfl (by simpa [Act.eval] using eg), ?_⟩
          refine stepTo_call (f := 17) (args := #[]) (by simp [go_sem]) ((law10_reads w1).mono ?_)
          rintro e w9 ⟨rfl, hb9⟩
          exact ⟨_, rfl, _, rfl, hR.trans (hb9.mono hR.size), fun j u hu hV _ => ⟨hV, trivial, trivial⟩, rfl⟩
        · refine ⟨wanted_none rfl, ?_⟩
          have e136 : a1.eval (.tmp 136) = .bool true := hdep ⟨24, .data⟩ (by simp) rfl _ rfl
          have x136 : a1.tmps[136]?.getD undef = .bool true := by simpa [Act.eval] using e136
          have e137 : a1.eval (.tmp 137) = .bool true := hdep ⟨25, .data⟩ (by simp) rfl _ rfl
          have x137 : a1.tmps[137]?.getD undef = .bool true := by simpa [Act.eval] using e137
          refine stepTo_val (v := .bool true) (w' := w1) (by simp [execOp, x136, x137, go_sem]) ⟨_, rfl, hR, fun j u hu hV _ => ⟨hV, trivial, trivial⟩, rfl⟩
        · refine ⟨wanted_none rfl, ?_⟩
          have e138 : a1.eval (.tmp 138) = .bool true := hdep ⟨26, .data⟩ (by simp) rfl _ rfl
          refine stepTo_val (v := .bool true) (w' := w1) (by simp [execOp, e138]) ⟨_, rfl, hR, fun j u hu hV _ => ⟨hV, trivial, trivial⟩, rfl⟩
      · intro listed fv w1 hR hall hV
        have e6 : fv 6 = .bool true := hV 27 _ rfl rfl
        simp only [spread, List.contains_cons, List.contains_nil, Nat.reduceBEq, Bool.or_false, Bool.or_true, cond_true, cond_false, Nat.reduceAdd, Nat.zero_add, e6]
        have HBE := Lib.hid (HB0.out w1 hR)
        go_wp2
        go_ret
        exact ⟨rfl, HBE.out⟩
end Go.Proofs.YtendielanacflaaGreat

namespace Go.Proofs.YtendielanacflaaGreat
open Go.RowKit
set_option linter.unusedVariables false
theorem spot_none {w : World} {x : Addr} {v : Value} (h : w.cell? x = some v) : x.spot = none ∧ x.block < w.heap.size := by
  unfold World.cell? at h
  cases ho : w.heap[x.block]? with
  | none => simp [ho] at h
  | some o =>
    refine ⟨?_, (Array.getElem?_eq_some_iff.1 ho).1⟩
    rw [ho] at h
    cases o <;> simp at h
    exact h.1
theorem rowI_open {k : IntKind} {w : World} {a : Option Addr} {len cap : Nat} {zs : List Int}
    (h : (a = none ∧ len = 0 ∧ cap = 0 ∧ zs = []) ∨ ∃ x, a = some x ∧ len ≤ cap ∧ cap ≤ maxLen ∧ zs.length = cap ∧ (∀ i, i < zs.length → w.cell? (x.add i) = some (.int k (zs.getD i 0))) ∧ ∀ n ∈ zs, (Lit.int k n).wf = true) :
    ∃ l : List Int, l.length = len ∧ RowI k w a cap l ∧ ∀ n ∈ l, (Lit.int k n).wf = true := by
  rcases h with ⟨rfl, rfl, rfl, rfl⟩ | ⟨x, rfl, hl, hm, hz, hc, hw⟩
  · exact ⟨[], rfl, RowI.nil k w, by simp⟩
  · refine ⟨zs.take len, by simp; omega, ⟨by simp; omega, ⟨by simpa [maxLen] using hm, fun hn => by cases hn⟩, ?_⟩, fun n hn => hw n (List.mem_of_mem_take hn)⟩
    by_cases h0 : zs.take len = []
    · exact .inl h0
    · have hp : 0 < (zs.take len).length := List.length_pos_iff.2 h0
      simp only [List.length_take] at hp
      have h1 := hc 0 (by omega)
      simp only [Addr.add, if_true] at h1
      obtain ⟨hs, hb⟩ := spot_none h1
      refine .inr ⟨x.block, x.off, by cases x; simp_all, hb, fun i hi => ?_⟩
      simp only [List.length_take] at hi
      have h2 := hc i (by omega)
      have h3 : x.add i = ⟨x.block, x.off + i, none⟩ := by
        unfold Addr.add
        split
        · cases x; simp_all
        · rfl
      rw [h3] at h2
      rw [h2]
      simp [show i < zs.length by omega]
def natOf (l : List Int) : List Nat := l.map Int.toNat
theorem rowN_of_I {k : IntKind} {w : World} {a : Option Addr} {cap : Nat} {l : List Int} (h : RowI k w a cap l) (hp : ∀ n ∈ l, 0 ≤ n) : RowN k w a cap (natOf l) := by
  obtain ⟨h1, h2, h3⟩ := h
  refine ⟨by simpa [natOf] using h1, h2, ?_⟩
  rcases h3 with rfl | ⟨b, off, ha, hb, hc⟩
  · exact .inl rfl
  · refine .inr ⟨b, off, ha, hb, fun i hi => ?_⟩
    simp only [natOf, List.length_map] at hi
    rw [hc i hi]
    simp only [natOf, List.getElem_map]
    rw [Int.toNat_of_nonneg (hp _ (List.getElem_mem hi))]
theorem bd_u8 {n : Int} (h : (Lit.int .u8 n).wf = true) : 0 ≤ n ∧ n < 256 := by
  simp [Lit.wf, IntKind.min, IntKind.max, IntKind.signed, IntKind.bits] at h
  omega
theorem rowU8_open {w : World} {a : Option Addr} {len cap : Nat} {zs : List Int}
    (h : (a = none ∧ len = 0 ∧ cap = 0 ∧ zs = []) ∨ ∃ x, a = some x ∧ len ≤ cap ∧ cap ≤ maxLen ∧ zs.length = cap ∧ (∀ i, i < zs.length → w.cell? (x.add i) = some (.int .u8 (zs.getD i 0))) ∧ ∀ n ∈ zs, (Lit.int .u8 n).wf = true) :
    ∃ l : List Nat, l.length = len ∧ RowN .u8 w a cap l ∧ ∀ n ∈ l, n < 256 := by
  obtain ⟨l, h1, h2, h3⟩ := rowI_open h
  refine ⟨natOf l, by simpa [natOf] using h1, rowN_of_I h2 fun n hn => (bd_u8 (h3 n hn)).1, fun n hn => ?_⟩
  simp only [natOf, List.mem_map] at hn
  obtain ⟨m, hm, rfl⟩ := hn
  have := bd_u8 (h3 m hm)
  omega
end Go.Proofs.YtendielanacflaaGreat

namespace Go.Proofs.YtendielanacflaaGreat
open Go.RowKit Go.Deep M17
set_option linter.unusedVariables false
theorem tok_at {H : Type} {enc : TypeId × Value → H} {W : World} {n : Nat} {cs : List Value} {x : DataW H × List MemPlace} (h : DataW.trod enc Tryz.prog W 0 (fun _ => true) true n 40 cs = some x) (hl : cs.length = 3) :
    ∃ t : Tok, cs = [.int .i64 t.len, .int .i64 t.dist, .int .u8 (t.byte : Nat)] ∧ t.byte < 256 := by
  have c3 : Tryz.prog.cellsOf 3 = 1 := by kernel_rfl
  have c5 : Tryz.prog.cellsOf 5 = 1 := by kernel_rfl
  obtain ⟨v0, v1, v2, rfl⟩ : ∃ v0 v1 v2, cs = [v0, v1, v2] := by
    cases cs with
    | nil => cases hl
    | cons v0 cs => cases cs with
      | nil => cases hl
      | cons v1 cs => cases cs with
        | nil => cases hl
        | cons v2 cs => cases cs with
          | nil => exact ⟨_, _, _, rfl⟩
          | cons v3 cs => simp at hl
  obtain ⟨y0, y1, y2, k, _, _, g0, g1, g2⟩ := trod_struct3 Tryz.underlying40 h
  simp only [c3, c5, List.drop_zero, List.drop_succ_cons, List.take_succ_cons, List.take_zero] at g0 g1 g2
  obtain ⟨a, ha, _, _⟩ := DataW.trod_int Tryz.underlying3 g0
  obtain ⟨b, hb, _, _⟩ := DataW.trod_int Tryz.underlying3 g1
  obtain ⟨c, hc, _, hw⟩ := DataW.trod_int Tryz.underlying5 g2
  simp only [List.cons.injEq, and_true] at ha hb hc
  subst ha hb hc
  obtain ⟨h1, h2⟩ := bd_u8 hw
  refine ⟨⟨a, b, c.toNat⟩, ?_, by show c.toNat < 256; omega⟩
  simp only [Int.toNat_of_nonneg h1]
instance : Inhabited Tok := ⟨⟨0, 0, 0⟩⟩
theorem toks_open {H : Type} {enc : TypeId × Value → H} {W : World} {a : Option Addr} {len cap : Nat} {d : DataW H} {p : List MemPlace} (h : ∃ fuel, DataW.trod enc Tryz.prog W 0 (fun _ => true) true fuel 22 (Value.slice a len cap).cells.toList = some (d, p)) :
    ∃ l : List Tok, l.length = len ∧ RowS encT W a cap l ∧ ∀ t ∈ l, t.byte < 256 := by
  obtain ⟨fuel, h⟩ := h
  have c28 : Tryz.prog.cellsOf 40 = 3 := by kernel_rfl
  rcases open_slice Tryz.underlying22 h with ⟨hcs, _⟩ | ⟨x, l, c, m, n, D, Pl, hcs, _, hl, hm, hmm, _, hx⟩
  · simp [Value.cells] at hcs
    obtain ⟨rfl, rfl, rfl⟩ := hcs
    exact ⟨[], rfl, RowS.nil _ _, by simp⟩
  · simp [Value.cells] at hcs
    obtain ⟨rfl, rfl, rfl⟩ := hcs
    simp only [if_true] at hmm
    subst hmm
    rw [c28] at hx
    have each : ∀ i, i < m → ∃ t : Tok, (W.cell? (x.add (i * 3)) = some (.int .i64 t.len) ∧ W.cell? (x.add (i * 3 + 1)) = some (.int .i64 t.dist) ∧ W.cell? (x.add (i * 3 + 2)) = some (.int .u8 (t.byte : Nat))) ∧ t.byte < 256 := by
      intro i hi
      obtain ⟨cs', h1, h2⟩ := hx i hi
      obtain ⟨_, hlen, hcell⟩ := World.cells?_some h1
      obtain ⟨t, rfl, ht⟩ := tok_at h2 hlen
      have e0 := hcell 0 (by omega)
      have e1 := hcell 1 (by omega)
      have e2 := hcell 2 (by omega)
      rw [add_add] at e0 e1 e2
      exact ⟨t, ⟨by simpa using e0, by simpa using e1, by simpa using e2⟩, ht⟩
    obtain ⟨q, hq⟩ := choose_lt each
    have hlist : ∀ i (hi : i < ((List.range len).map q).length), ((List.range len).map q)[i] = q i := by intro i hi; simp
    refine ⟨(List.range len).map q, by simp, ⟨by simpa using hl, ⟨by simpa [maxLen] using hm, fun hn => by cases hn⟩, ?_⟩, ?_⟩
    · by_cases h0 : len = 0
      · subst h0; exact .inl rfl
      · have e := (hq 0 (by omega)).1.1
        simp only [Nat.zero_mul, Addr.add, if_true] at e
        obtain ⟨hs, hb⟩ := spot_none e
        have hxf : ∀ k, x.add k = ⟨x.block, x.off + k, none⟩ := by
          intro k
          unfold Addr.add
          split
          · rename_i hk; cases x; simp_all
          · cases x; simp_all
        refine .inr ⟨x.block, x.off, by cases x; simp_all, hb, fun i v hv => ?_⟩
        have hi : i < len * 3 := by
          have := (List.getElem?_eq_some_iff.1 hv).1
          rw [flat_length] at this
          simpa [encT] using this
        have hdm : i = i / 3 * 3 + i % 3 := by omega
        have hi3 : i / 3 < len := by omega
        have hf := flat_at (c := encT) ((List.range len).map q) (i / 3) (i % 3) (by simpa using hi3) (by show i % 3 < 3; omega)
        have hf' : (flat encT ((List.range len).map q))[i]? = (encT.cells (q (i / 3)))[i % 3]? := by
          rw [hlist] at hf
          have : i / 3 * encT.sz + i % 3 = i := by show i / 3 * 3 + i % 3 = i; omega
          rw [this] at hf
          exact hf
        rw [hf'] at hv
        obtain ⟨⟨q0, q1, q2⟩, _⟩ := hq (i / 3) (by omega)
        rw [hxf] at q0 q1 q2
        have hr : i % 3 = 0 ∨ i % 3 = 1 ∨ i % 3 = 2 := by omega
        rcases hr with hr | hr | hr
        · rw [hr] at hv
          have : v = .int .i64 (q (i / 3)).len := by simpa [encT] using hv.symm
          rw [this]
          exact (congrArg (fun k => W.cell? ⟨x.block, k, none⟩) (show x.off + i = x.off + i / 3 * 3 by omega)).trans q0
        · rw [hr] at hv
          have : v = .int .i64 (q (i / 3)).dist := by simpa [encT] using hv.symm
          rw [this]
          exact (congrArg (fun k => W.cell? ⟨x.block, k, none⟩) (show x.off + i = x.off + (i / 3 * 3 + 1) by omega)).trans q1
        · rw [hr] at hv
          have : v = .int .u8 ((q (i / 3)).byte : Nat) := by simpa [encT] using hv.symm
          rw [this]
          exact (congrArg (fun k => W.cell? ⟨x.block, k, none⟩) (show x.off + i = x.off + (i / 3 * 3 + 2) by omega)).trans q2
    · intro t ht
      obtain ⟨i, hi, rfl⟩ := List.mem_map.1 ht
      exact (hq i (by have := List.mem_range.1 hi; omega)).2
end Go.Proofs.YtendielanacflaaGreat
