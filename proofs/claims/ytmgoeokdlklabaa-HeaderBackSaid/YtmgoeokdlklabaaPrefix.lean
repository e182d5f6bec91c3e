/- prefix.New: contract. -/
import Derived.Test.YtmgoeokdlklabaaLsb
import Derived.Test.YtmgoeokdlklabaaTab
import Derived.Test.YtmgoeokdlklabaaM04b
import Derived.StillTailTactics
namespace Go.Proofs.Ytmgoeokdlklabaa
open Go.RowKit Go.Shelf M04 M06
set_option linter.unusedVariables false

theorem RowN.keptR {k : IntKind} {w w' : World} {a : Option Addr} {cap : Nat} {l : List Nat} {row : Option Nat} (h : RowN k w a cap l) (hg : w.grownBy w' row) (hr : ∀ x, a = some x → row ≠ some x.block) : RowN k w' a cap l := by
  obtain ⟨h1, h2, h3⟩ := h
  refine ⟨h1, h2, ?_⟩
  rcases h3 with h3 | ⟨b, off, rfl, hb', hc⟩
  · exact .inl h3
  · exact .inr ⟨b, off, rfl, Nat.lt_of_lt_of_le hb' hg.size, fun i hi => (World.cell?_of_block (a := ⟨b, off + i, none⟩) (hg.block b hb' (fun e => hr _ rfl e.symm))).trans (hc i hi)⟩
theorem word_lt (l : List Nat) (i : Nat) (hi : i < l.length) (h20 : ∀ x ∈ l, x ≤ 20) (hw : weight l ≤ 2 ^ 20) : word l i < 2 ^ 20 := by
  have h := word_small l i hi h20 hw
  have h2 : word l i < 2 ^ l.getD i 0 := by
    rcases Nat.lt_or_ge (word l i) (2 ^ l.getD i 0) with h3 | h3
    · exact h3
    · have := Nat.div_pos h3 (Nat.pow_pos (by decide))
      omega
  exact Nat.lt_of_lt_of_le h2 (Nat.pow_le_pow_right (by decide) (getD_le h20 i))
theorem u8_sub_shift (j m : Nat) (h : j < m) (hm : m ≤ 20) : min (IntKind.u8.wrap (m - j : Int)).toNat 32 = m - j := by
  have h2 : IntKind.u8.wrap (m - j : Int) = ((m - j : Nat) : Int) := by
    unfold IntKind.wrap IntKind.signed IntKind.bits
    simp only [Bool.false_and]
    rw [if_neg (by decide)]
    omega
  rw [h2]
  omega
theorem grown_drew {w w' : World} {row : Option Nat} (h : w.grownBy w' row) : w.grownBy w'.drew row := ⟨h.os, h.tape, h.output, h.size, h.block⟩
theorem cells3' {w : World} {b : Nat} {x y z : Value} {t : TypeId} (h : w.heap[b]? = some (.cells #[x, y, z] t (0, 0))) : w.cell? ⟨b, 2, none⟩ = some z := by
  simp [World.cell?, h]
theorem wpList_mapF {ops : Array Oper} {rest : List Oper} {o : Oper} {ac : Act} {w : World} {Q : Exit → Act → World → Prop} {b n X k : Nat} {F : TF} {v : Int} (hgd : o.guard = none) (mo xo vo : Operand) (hop : o.op = Op.mapUpdate 132 mo xo vo)
    (hm : ac.eval mo = .map (some b)) (hx : ac.eval xo = wordV X k) (hv : ac.eval vo = .int .i64 v) (h : MapF w b n F) (hn : n < 1000000) (hX : X < 4294967296) (hk : k < 256) (hb : -1000000 ≤ v ∧ v ≤ 1000000)
    (hK : ∀ w', MapF w' b (n + 1) (putF F X k v) → w.grownBy w' (some b) → wpList Try.prog ops Q rest (ac.put o.dst undef) w') : wpList Try.prog ops Q (o :: rest) ac w := by
  refine wpList_plain hgd fun K hK' => ?_
  obtain ⟨w', hrun, h1, h2⟩ := h.put (by unfold maxLen; omega) X k v hX hk hb
  unfold Oper.wp
  simp [execOp, hop, hm, hx, hv, hrun, Result.andThen]
  exact hK' _ _ (hK w' h1 h2)
/-- a table of a code's lengths, in blocks lo .. hi - 1 -/
def Tb (lo hi : Nat) (w : World) (p : Nat) (l : List Nat) : Prop :=
  ∃ a1 c1 a2 c2 mb n, w.heap[p]? = some (.cells #[.slice a1 l.length c1, .slice a2 l.length c2, .map (some mb)] 134 (0, 0)) ∧ RowN .u8 w a1 c1 l ∧ RowN .u32 w a2 c2 (words l) ∧ MapF w mb n (tabI l (words l) l.length) ∧ hi ≤ w.heap.size ∧
    (lo ≤ p ∧ p < hi) ∧ (lo ≤ mb ∧ mb < hi) ∧ (∀ x, a1 = some x → lo ≤ x.block ∧ x.block < hi) ∧ (∀ x, a2 = some x → lo ≤ x.block ∧ x.block < hi)
theorem MapF.same {w w' : World} {b n : Nat} {F : Nat → Nat → Option Int} (h : MapF w b n F) (hs : w'.heap[b]? = w.heap[b]?) : MapF w' b n F := by
  obtain ⟨D, ⟨es, clock, hb, h1⟩, h2⟩ := h
  exact ⟨D, ⟨es, clock, hs.trans hb, h1⟩, h2⟩
theorem Tb.only {T : Nat → Prop} {lo hi p : Nat} {w w' : World} {l : List Nat} (h : Tb lo hi w p l) (ho : Only T w w') (hT : ∀ b, lo ≤ b → b < hi → ¬ T b) : Tb lo hi w' p l := by
  obtain ⟨a1, c1, a2, c2, mb, n, h1, h2, h3, h4, hs, hp, hm, h5, h6⟩ := h
  refine ⟨a1, c1, a2, c2, mb, n, box_only h1 ho (hT p hp.1 hp.2), ?_, ?_, h4.same (ho.block mb (by omega) (hT mb hm.1 hm.2)), Nat.le_trans hs ho.size, hp, hm, h5, h6⟩
  · exact h2.same ho.size (fun x h0 hx => ho.block _ (by have := (h5 x hx).2; omega) (hT _ (h5 x hx).1 (h5 x hx).2))
  · exact h3.same ho.size (fun x h0 hx => ho.block _ (by have := (h6 x hx).2; omega) (hT _ (h6 x hx).1 (h6 x hx).2))

set_option maxRecDepth 100000 in
set_option maxHeartbeats 1600000 in
theorem prefix_new (a : Option Addr) (cap : Nat) (l : List Nat) (w : World) (hr : RowN .u8 w a cap l) :
    Calls Try.prog 39 #[.slice a l.length cap] w fun e w' => Below w.heap.size w w' ∧ if (wordsE l).2 = 0 then ∃ p, e = .returned (.tuple #[.pointer (some ⟨p, 0, none⟩), .int .i64 0]) ∧ Tb w.heap.size w'.heap.size w' p l else e = .returned (.tuple #[.pointer none, .int .i64 (wordsE l).2]) := by
  by_cases hm : May l ∧ weight l ≤ 2 ^ 20
  case neg =>
    have he : (wordsE l).2 = 5 ∨ (wordsE l).2 = 2 := by
      unfold wordsE
      by_cases h1 : May l
      · rw [if_neg (by simpa using h1), if_pos (by rw [not_and] at hm; have := hm h1; omega)]; exact .inr rfl
      · rw [if_pos h1]; exact .inl rfl
    have HE := Lib.hid he
    have H0 : Hid ((wordsE l).2 ≠ 0) := by unfold Hid; omega
    have HW := Lib.hid (kraft_words a cap l w hr)
    clear hm he
    generalize hwe : wordsE l = we at *
    obtain ⟨w1l, er⟩ := we
    have HWE := Lib.hid hwe
    clear hwe
    have hb : (er == 0) = false := by have := H0.out; simpa using this
    go_enter Try.func39, Try.ntmps39
    go_wp2_with fail
    refine HW.out.mono ?_
    rintro e w1 ⟨a1, c1, rfl, _, hb1⟩
    rw [HWE.out]
    rcases HE.out with h5 | h5
    · obtain rfl : er = 5 := h5
      go_wp2
      go_ret2
      exact ⟨hb1, rfl⟩
    · obtain rfl : er = 2 := h5
      go_wp2
      go_ret2
      exact ⟨hb1, rfl⟩
  obtain ⟨hmay, hwt⟩ := hm
  have hwe : wordsE l = (words l, 0) := by
    unfold wordsE
    rw [if_neg (by simpa using hmay), if_neg (by omega)]
  have h512 := hmay.2
  have H20 := Lib.hid hmay.1
  have HWT := Lib.hid hwt
  have HW := Lib.hid (kraft_words a cap l w hr)
  unfold WordsOut at HW
  rw [hwe, words_length] at HW
  rw [hwe]
  simp only [if_true]
  clear hwe hmay hwt
  go_enter Try.func39, Try.ntmps39
  go_wp2_with fail
  refine HW.out.mono ?_
  rintro e w1 ⟨a1, c1, rfl, ho1, hb1⟩
  clear HW
  have HO1 := Lib.hid ho1
  have HB1 := Lib.hid hb1
  clear ho1 hb1
  go_wp2_with fail
  refine (slices_clone w1 a cap l (hr.below HB1.out) (by omega)).mono ?_
  rintro e w2 ⟨a2, c2, rfl, ho2, hb2⟩
  have HO2 := Lib.hid ho2
  have HB2 := Lib.hid (HB1.out.trans (hb2.mono HB1.out.size))
  have HOW := Lib.hid (HO1.out.below hb2)
  clear ho2 hb2 HO1
  have hmm := @run_makeMap Try.prog
  go_wp2_with fail
  obtain ⟨W0, hW0⟩ : ∃ W0, (w2.alloc (.map #[] 0)).alloc (.cells #[.slice a2 l.length c2, .slice a1 l.length c1, .map (some w2.heap.size)] 134) = W0 := ⟨_, rfl⟩
  have hz0 : W0.heap.size = w2.heap.size + 2 := by rw [← hW0]; simp
  have hp0 : W0.heap[w2.heap.size + 1]? = some (.cells #[.slice a2 l.length c2, .slice a1 l.length c1, .map (some w2.heap.size)] 134 (0, 0)) := by
    rw [← hW0]; have := World.alloc_heap_new (w2.alloc (.map #[] 0)) (.cells #[.slice a2 l.length c2, .slice a1 l.length c1, .map (some w2.heap.size)] 134); rwa [World.size_alloc] at this
  have hb0 : Below w2.heap.size w2 W0 := by rw [← hW0]; exact ((Below.refl _ _).alloc (Nat.le_refl _) _).alloc (by simp) _
  have hM0 : MapF W0 w2.heap.size 0 (fun _ _ => none) := by rw [← hW0]; exact (mapF_made w2).kept (World.grownBy_alloc _ _ none) (by simp)
  simp only [hW0]
  have hO0 := HOW.out.below hb0
  have hL0 := HO2.out.below hb0
  have hB0 : Below w.heap.size w W0 := HB2.out.trans (hb0.mono HB2.out.size)
  have hr0 := hr.below hB0
  have hsz := HB2.out.size
  have hne : ∀ {base cap : Nat} {a : Option Addr} {k : IntKind} {E : TypeId} {L : List Nat}, OwnN E k w2 base a cap L → ∀ x, a = some x → base ≤ x.block ∧ x.block < w2.heap.size := by
    intro base cap a k E L h x hx
    rcases h.form with ⟨h1, _⟩ | ⟨g, h1, hb, h2⟩
    · rw [h1] at hx; cases hx
    · rw [h1] at hx; cases hx; exact ⟨hb, h2⟩
  have hnw : ∀ x, a1 = some x → w.heap.size ≤ x.block ∧ x.block < w2.heap.size := hne HOW.out
  have hnl : ∀ x, a2 = some x → w.heap.size ≤ x.block ∧ x.block < w2.heap.size := fun x hx => ⟨Nat.le_trans HB1.out.size (hne HO2.out x hx).1, (hne HO2.out x hx).2⟩
  have hna : ∀ x, 0 < l.length → a = some x → x.block < w.heap.size := fun x h0 hx => by
    obtain ⟨b', off, he, hlt, _⟩ := hr.at h0
    rw [hx] at he; cases he; exact hlt
  have HNW := Lib.hid hnw
  have HNL := Lib.hid hnl
  have HNA := Lib.hid hna
  have HP0 := Lib.hid hp0
  have HB0 := Lib.hid hB0
  have HR0 := Lib.hid hr0
  have HRW := Lib.hid hO0.row
  have HRL := Lib.hid hL0.row
  have HM0 := Lib.hid hM0
  generalize hmbd : w2.heap.size = mb at *
  clear hW0 hp0 hb0 hM0 hO0 hL0 hB0 hr0 hne hnw hnl hna HO2 HOW hmm HB2
  go_loopw [7, 8, 9, 26, 45] (fun _ _ _ i _ A => ∃ k : Nat, k ≤ l.length ∧ i = .int .i64 k ∧ W0.grownBy A (some mb) ∧ ∃ n, n ≤ k * 32 ∧ MapF A mb n (tabI l (words l) k)) (fun _ _ _ i _ _ => l.length - (intOf i).toNat)
  case atStart => exact ⟨0, by omega, rfl, ⟨rfl, rfl, rfl, Nat.le_refl _, fun _ _ _ => rfl⟩, 0, by omega, HM0.out⟩
  case round =>
    obtain ⟨k, hk, rfl, hg, n, hn, hM⟩ := hrel
    have HG := Lib.hid hg
    have HM := Lib.hid hM
    clear hg hM
    by_cases hlt : k < l.length
    · obtain ⟨b, off, rfl, hb, hck⟩ := HR0.out.at hlt
      have hbw : b < w.heap.size := HNA.out _ (by omega) rfl
      have hck' : wr.cell? ⟨b, off + k, none⟩ = some (.int .u8 (l[k] : Nat)) := (World.cell?_of_block (a := ⟨b, off + k, none⟩) (HG.out.block b hb (by intro e; cases e; omega))).trans hck
      have hx20 := H20.out _ (List.getElem_mem hlt)
      have hgl : l.getD k 0 = l[k] := by simp [hlt]
      have HI := Lib.hid (show tabI l (words l) (k + 1) = if l.getD k 0 = 0 then tabI l (words l) k else tabK ((words l).getD k 0) (l.getD k 0) (putF (tabI l (words l) k) ((words l).getD k 0) (l.getD k 0) k) (l.getD k 0) from rfl)
      by_cases hx0 : l[k] = 0
      · have HI0 : Hid (tabI l (words l) (k + 1) = tabI l (words l) k) := by rw [Hid, HI.out, if_pos (by rw [hgl]; exact hx0)]
        rw [hx0] at hck'
        clear hck hx0 hgl hx20 HI
        go_wp2
        go_roundw
        case rel => exact ⟨k + 1, by omega, by go_num, HG.out, n, by omega, by rw [HI0.out]; exact HM.out⟩
        case measure => simp [intOf]; omega
      · have hwl := word_lt l k hlt H20.out HWT.out
        have hgw : (words l).getD k 0 = word l k := by simp [words, hlt]
        have HI1 : Hid (tabI l (words l) (k + 1) = tabK (word l k) l[k] (putF (tabI l (words l) k) (word l k) l[k] k) l[k]) := by rw [Hid, HI.out, if_neg (by rw [hgl]; exact hx0), hgw, hgl]
        obtain ⟨bw, ow, rfl, hbw2, hcw⟩ := HRW.out.at (i := k) (by rw [words_length]; exact hlt)
        rw [words_getElem] at hcw
        have hbwl : bw < mb := (HNW.out _ rfl).2
        have HCW := Lib.hid hcw
        have hcw' : wr.cell? ⟨bw, ow + k, none⟩ = some (.int .u32 (word l k : Nat)) := (World.cell?_of_block (a := ⟨bw, ow + k, none⟩) (HG.out.block bw hbw2 (by intro e; cases e; omega))).trans hcw
        have hpt : wr.cell? ⟨mb + 1, 2, none⟩ = some (.map (some mb)) := by
          have := (HG.out.block (mb + 1) (by omega) (by intro e; cases e)).trans HP0.out
          exact (cells3' this)
        have b0 : ((l[k] : Int) == 0) = false := by simp; omega
        clear hck hcw hx0 hgl HI hgw
        generalize word l k = x at *
        generalize l[k] = m at *
        go_wp2_with fail
        go_still_tail 11, (by kernel_rfl)
        change wpList _ _ _ _ _ wr.drew
        refine wpList_mapF (b := mb) (n := n) (X := x) (k := m) (v := (k : Int)) (F := tabI l (words l) k) rfl (.tmp 36) (.tmp 42) (.tmp 43) rfl rfl rfl rfl HM.out (by omega) (Nat.lt_trans hwl (by decide)) (by omega) (by omega) ?_
        intro w5 hM5 hg5
        have HG5 := Lib.hid (show W0.grownBy w5 (some mb) from (grown_drew HG.out).trans hg5)
        have HM5 := Lib.hid hM5
        clear hM5 hg5 HG HM hcw' hpt hck'
        generalize putF (tabI l (words l) k) x m k = F0 at *
        go_wp2_with fail
        go_loopw [9, 45] (fun _ i A => ∃ j : Nat, j ≤ m ∧ i = .int .u8 j ∧ W0.grownBy A (some mb) ∧ MapF A mb (n + 1 + j) (tabK x m F0 j)) (fun _ i _ => m - (intOf i).toNat)
        case atStart => exact ⟨0, by omega, rfl, HG5.out, HM5.out⟩
        case round =>
          clear HG5 HM5
          obtain ⟨j, hj, rfl, hg, hM⟩ := hrel
          have HG := Lib.hid hg
          have HM := Lib.hid hM
          clear hg hM
          by_cases hjl : j < m
          · have hcw' : wr.cell? ⟨bw, ow + k, none⟩ = some (.int .u32 (x : Nat)) := (World.cell?_of_block (a := ⟨bw, ow + k, none⟩) (HG.out.block bw hbw2 (by intro e; cases e; omega))).trans HCW.out
            have hpt : wr.cell? ⟨mb + 1, 2, none⟩ = some (.map (some mb)) := by
              have := (HG.out.block (mb + 1) (by omega) (by intro e; cases e)).trans HP0.out
              exact (cells3' this)
            go_wp2_with fail
            go_still_tail 14, (by kernel_rfl)
            change wpList _ _ _ _ _ wr.drew
            refine wpList_mapF (b := mb) (n := n + 1 + j) (X := x / 2 ^ (m - j)) (k := j) (v := -1) (F := tabK x m F0 j) rfl (.tmp 51) (.tmp 61) (.const (.int .i64 (-1))) rfl rfl ?hx rfl HM.out (by omega) (Nat.lt_of_le_of_lt (Nat.div_le_self _ _) (Nat.lt_trans hwl (by decide))) (by omega) (by omega) ?_
            case hx =>
              show _ = wordV _ _
              unfold wordV
              refine congrArg (fun z => Value.agg #[z, _]) ?_
              rw [u8_sub_shift j m hjl hx20]
              exact congrArg (Value.int IntKind.u32) (by rw [Int.natCast_ediv, Int.natCast_pow]; rfl)
            intro w6 hM6 hg6
            have HG6 := Lib.hid (show W0.grownBy w6 (some mb) from (grown_drew HG.out).trans hg6)
            have HM6 := Lib.hid hM6
            clear hM6 hg6 HG HM hcw' hpt
            go_wp2
            go_roundw
            case rel => exact ⟨j + 1, by omega, by go_num, HG6.out, HM6.out⟩
            case measure => simp [intOf]; omega
          · obtain rfl : j = m := by omega
            go_wp2
            go_roundw
            case rel => exact ⟨k + 1, by omega, by go_num, HG.out, n + 1 + j, by omega, by rw [HI1.out]; exact HM.out⟩
            case measure => simp [intOf]; omega
    · obtain rfl : k = l.length := by omega
      go_wp2
      go_ret2
      have hwz := HG.out.size
      refine ⟨HB0.out.trans (Below.of_grown HG.out HB0.out.size (by intro x hx; cases hx; exact hsz)), mb + 1, rfl, ⟨a2, c2, a1, c1, mb, n, ?_, ?_, ?_, HM.out, Nat.le_refl _, ⟨by omega, by omega⟩, ⟨hsz, by omega⟩, ?_, ?_⟩⟩
      · exact (HG.out.block (mb + 1) (by omega) (by intro e; cases e)).trans HP0.out
      · exact HRL.out.keptR HG.out (fun y hy e => by cases e; have := HNL.out _ hy; omega)
      · exact HRW.out.keptR HG.out (fun y hy e => by cases e; have := HNW.out _ hy; omega)
      · exact fun y hy => by have := HNL.out _ hy; omega
      · exact fun y hy => by have := HNW.out _ hy; omega
end Go.Proofs.Ytmgoeokdlklabaa
