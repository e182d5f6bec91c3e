/- token.collect: a scale's numbers as two lists. -/
import Derived.Test.YtmgoeokdlklabaaCol
namespace Go.Proofs.Ytmgoeokdlklabaa
open Go.RowKit Go.Shelf M08
attribute [local go_sem] Oper.semAt_some
set_option linter.unusedVariables false


theorem fld0 (R : Nat) (w : World) : (Instr.fieldAt 173 (.pointer (some ⟨R, 0, none⟩)) 0).run Try.prog w = .ok (.pointer (some ⟨R, 0, none⟩)) w := by kernel_rfl
theorem fld1 (R : Nat) (w : World) : (Instr.fieldAt 173 (.pointer (some ⟨R, 0, none⟩)) 1).run Try.prog w = .ok (.pointer (some ⟨R, 1, none⟩)) w := by kernel_rfl
theorem ldI (p : Addr) (v : Value) (w : World) (h : w.cell? p = some v) : (Instr.loadAt 59 (.pointer (some p))).run Try.prog w = .ok v w := by
  simp [Instr.loadAt, Instr.sureAddr, loadVar, isAgg, run_underlying Try.underlying59, h, go_sem]
theorem stI (p : Addr) (a : Option Addr) (n c : Nat) (u : Value) (w : World) (h : w.cell? p = some u) (hf : w.frozen? p = false) : (Instr.storeAt 59 (.pointer (some p)) (.slice a n c)).run Try.prog w = .ok () (w.setCell p (.slice a n c)) := by
  have hs : (Try.prog.info? 59).map (·.size) = some 1 := by kernel_rfl
  cases h5 : Try.prog.info? 59 with
  | none => rw [h5] at hs; cases hs
  | some ie =>
    simp only [h5, Option.map_some, Option.some.injEq] at hs
    simp [Instr.storeAt, Instr.sureAddr, storeVar, sizeOf, typeInfo, h5, hs, Value.cells, storeCells, h, hf, go_sem]
theorem two_cell {w : World} {b : Nat} {u v : Value} {t : TypeId} (h : w.heap[b]? = some (.cells #[u, v] t (0, 0))) : w.cell? ⟨b, 0, none⟩ = some u ∧ w.cell? ⟨b, 1, none⟩ = some v ∧ w.frozen? ⟨b, 0, none⟩ = false ∧ w.frozen? ⟨b, 1, none⟩ = false := by
  simp [World.cell?, World.frozen?, h]
theorem two_set {w : World} {b : Nat} {u v x : Value} {t : TypeId} (h : w.heap[b]? = some (.cells #[u, v] t (0, 0))) :
    (w.setCell ⟨b, 0, none⟩ x).heap[b]? = some (.cells #[x, v] t (0, 0)) ∧ (w.setCell ⟨b, 1, none⟩ x).heap[b]? = some (.cells #[u, x] t (0, 0)) := by
  constructor
  · show (w.heap.modify b _)[b]? = _
    rw [Array.getElem?_modify, if_pos rfl, h]; rfl
  · show (w.heap.modify b _)[b]? = _
    rw [Array.getElem?_modify, if_pos rfl, h]; rfl
set_option maxHeartbeats 1600000 in
theorem token_collect (gf : FuncId) (lb : Array Value) (n : Nat) (fa fb : Nat → Nat) (S T : Nat → Prop) (w : World) (hn : n ≤ 1000) (eg : ∀ args w, (callFunc gf args).run Try.prog w = .ok (.enter gf args) w)
    (hy : Yields Try.prog gf lb n (fun i => #[.int .i64 (fa i : Nat), .int .i64 (fb i : Nat)]) S T w) (hS : ∀ b, S b → b < w.heap.size) (hT : ∀ b, T b → b < w.heap.size) :
    Calls Try.prog 121 #[.func (.func gf) #[] lb] w fun e w' => ∃ a1 c1 a2 c2, e = .returned (.agg #[.slice a1 n c1, .slice a2 n c2]) ∧
      OwnN 3 .i64 w' w.heap.size a1 c1 ((List.range n).map fa) ∧ OwnN 3 .i64 w' w.heap.size a2 c2 ((List.range n).map fb) ∧ Only T w w' := by
  have HY := Lib.hid hy
  clear hy
  refine (callsIn_wide (n := 9)).1 ?_
  refine callsIn_of_wp_marks Try.func121 rfl trivial ?_ rfl
  simp only [Try.ntmps121, List.size_toArray, List.length_cons, List.length_nil, Nat.reduceAdd, Nat.reduceSub, Array.replicate_succ, Array.replicate_zero, List.push_toArray, List.append_toArray, List.nil_append, List.cons_append]
  gi_wp2
  obtain ⟨W0, hW0⟩ : ∃ W0, (w.alloc (.cells #[.slice none 0 0, .slice none 0 0] 173)).alloc (.cells #[.slice none 0 0, .slice none 0 0] 173) = W0 := ⟨_, rfl⟩
  have hz0 : W0.heap.size = w.heap.size + 2 := by rw [← hW0]; simp
  have hb0 : W0.heap[w.heap.size]? = some (.cells #[.slice none 0 0, .slice none 0 0] 173 (0, 0)) := by
    rw [← hW0, Below.heap_alloc _ _ _ (by simp)]; exact World.alloc_heap_new _ _
  have hb1 : W0.heap[w.heap.size + 1]? = some (.cells #[.slice none 0 0, .slice none 0 0] 173 (0, 0)) := by
    rw [← hW0]; have := World.alloc_heap_new (w.alloc (.cells #[.slice none 0 0, .slice none 0 0] 173)) (.cells #[.slice none 0 0, .slice none 0 0] 173); rwa [World.size_alloc] at this
  have hbel : Below w.heap.size w W0 := by rw [← hW0]; exact ((Below.refl _ _).alloc (Nat.le_refl _) _).alloc (by simp) _
  have hsm : SameOn S w W0 := ⟨hbel.size, fun b hb => hbel.block b (hS b hb)⟩
  simp only [hW0]
  clear hW0
  refine range_law (g := .tmp 6) (gf := gf) (lb := lb) rfl eg HY.out hsm (fun b hb => by have := hS b hb; omega) (fun b hb => by have := hT b hb; omega) (fun _ => rfl)
    (fun i A => colI w w.heap.size T fa fb i A) (fun _ _ _ => False) ?hI ?hIp (fun _ _ _ _ h _ => h) (fun _ _ _ _ _ _ h _ _ _ => h) ?h0 ?a1 ?assign ?body ?done (fun _ _ _ _ h _ => h.elim)
  case hI =>
    rintro i A B ⟨a1, c1, a2, c2, h1, h2, h3, h4, h5, h6⟩ ho
    exact ⟨a1, c1, a2, c2, box_only h1 ho (fun t => by have := hT _ t; omega), h2.only ho (fun b hb t => by have := hT _ t; omega), h3.only ho (fun b hb t => by have := hT _ t; omega), h4, box_only h5 ho (fun t => by have := hT _ t; omega), h6.trans ho⟩
  case hIp =>
    rintro i A l o o' ⟨a1, c1, a2, c2, h1, h2, h3, h4, h5, h6⟩ hl hlo hoc
    exact ⟨a1, c1, a2, c2, box_put h1 hlo hoc, h2.put hlo hoc _, h3.put hlo hoc _, h4, box_put h5 hlo hoc, h6.low rfl rfl rfl (by rw [World.putObj_size]; exact Nat.le_refl _) (fun k hk => World.putObj_heap_other (by omega))⟩
  case h0 => exact ⟨none, 0, none, 0, hb1, OwnN.nil _ _ _ _, OwnN.nil _ _ _ _, fun _ h => (by cases h), hb0, ⟨hbel.os, hbel.tape, hbel.output, hbel.size, fun k hk _ => hbel.block k hk⟩⟩
  case assign =>
    intro y i W K hK
    gi_wp2
    exact hK
  case body =>
    rintro y i hi A hz ⟨x1, c1, x2, c2, hcell, ho1, ho2, hap, hres, honly⟩
    have hap12 : apart (.slice x1 i c1) (.slice x2 i c2) := by
      intro b hb hb2
      rcases ho1.form with ⟨rfl, _⟩ | ⟨g1, rfl, _⟩
      · cases hb
      · rcases ho2.form with ⟨rfl, _⟩ | ⟨g2, rfl, _⟩
        · cases hb2
        · cases hb; cases hb2; exact hap _ rfl rfl
    have hov1 : OwnV (w.heap.size + 1) (.slice x1 i c1) ((List.range i).map fa) A := ⟨x1, c1, by simp, ho1⟩
    have hov2 : OwnV (w.heap.size + 1) (.slice x2 i c2) ((List.range i).map fb) A := ⟨x2, c2, by simp, ho2⟩
    have hlt1 : ∀ b, colBlk (.slice x1 i c1) = some b → b < A.heap.size := fun b hb => (hov1.lt b hb).2
    have hlt2 : ∀ b, colBlk (.slice x2 i c2) = some b → b < A.heap.size := fun b hb => (hov2.lt b hb).2
    have hfin : ∀ j, ((fun j => j == 11 || j == 13) : Nat → Bool) j = true → j < 14 := by intro j hj; simp at hj; omega
    clear ho1 ho2 hap
    gi_wp2
    refine wpIn_region_flowL [9, 10, 11, 12, 13, 14, 15, 16, 17, 18, 19, 20] (fun j => j == 11 || j == 13) (colR (w.heap.size + 1) A (.slice x1 i c1) (.slice x2 i c2) ((List.range i).map fa) ((List.range i).map fb)) (colV (w.heap.size + 1) A.heap.size (.slice x1 i c1) (.slice x2 i c2) (fa i) (fb i) ((List.range i).map fa) ((List.range i).map fb)) (fun _ _ u v => apart u v) (by kernel_rfl) (by kernel_rfl) (OneEach.mk' (by kernel_rfl) (by kernel_rfl)) (by kernel_rfl) (by kernel_rfl) ?_ ?_ ?_
    · exact ⟨⟨rfl, rfl, rfl, Nat.le_refl _, fun _ _ => rfl⟩, ⟨Nat.le_refl _, fun _ _ h _ => h⟩, ⟨_, _, hcell, fun _ => rfl, fun _ => rfl⟩, fun _ => hov1, fun _ => hov2⟩
    · intro i0 o hi0 listed a1 w1 hR hil hunf hdes hanc hout hdep
      have hlt := (Array.getElem?_eq_some_iff.1 hi0).1
      have hsz : i0 < 14 := hlt
      have h3 : a1.eval (.tmp 3) = .pointer (some ⟨w.heap.size + 1, 0, none⟩) := hout 3 (by decide)
      have h4 : a1.eval (.tmp 4) = .int .i64 (fa i : Nat) := hout 4 (by decide)
      have h5 : a1.eval (.tmp 5) = .int .i64 (fb i : Nat) := hout 5 (by decide)
      have hall : i0 = 0 ∨ i0 = 1 ∨ i0 = 2 ∨ i0 = 3 ∨ i0 = 4 ∨ i0 = 5 ∨ i0 = 6 ∨ i0 = 7 ∨ i0 = 8 ∨ i0 = 9 ∨ i0 = 10 ∨ i0 = 11 ∨ i0 = 12 ∨ i0 = 13 := by omega
      clear hlt hsz hout
      rcases hall with rfl | rfl | rfl | rfl | rfl | rfl | rfl | rfl | rfl | rfl | rfl | rfl | rfl | rfl <;> simp only [List.getElem?_toArray, List.getElem?_cons_zero, List.getElem?_cons_succ, Option.some.injEq] at hi0 <;> subst hi0
      · refine stepIn_val (by intro c h; cases h) (by intro c h; cases h) (v := .pointer (some ⟨w.heap.size + 1, 0, none⟩)) (w' := w1) (by simp [execOp, h3, fld0]) ⟨_, rfl, hR.pure (by decide) (by decide) (by decide) (by decide), fun j u hu hV hde => ⟨hV, apart.left rfl, (apart.left rfl).symm⟩, rfl⟩
      · obtain ⟨p, q, hc, hp, hq⟩ := hR.cells
        obtain rfl := hp (hdes 11 (by kernel_rfl))
        obtain rfl := hq (hdes 13 (by kernel_rfl))
        have e9 : a1.eval (.tmp 9) = .pointer (some ⟨w.heap.size + 1, 0, none⟩) := hdep ⟨0, .data⟩ (by simp) rfl _ rfl
        refine stepIn_val (by intro c h; cases h) (by intro c h; cases h) (v := .slice x1 i c1) (w' := w1) (by simp [execOp, e9, ldI _ _ _ (two_cell hc).1]) ⟨_, rfl, hR.pure (by decide) (by decide) (by decide) (by decide), fun j u hu hV hde => ?_, rfl⟩
        have hap' : apart (.slice x1 i c1) u := by
          have hm := used_mem (by kernel_rfl) hfin hu [2, 3, 5, 6, 7, 8] (by kernel_rfl)
          simp only [List.mem_cons, List.not_mem_nil, or_false] at hm
          rcases hm with rfl | rfl | rfl | rfl | rfl | rfl <;> simp only [colV] at hV
          · subst hV; exact (apart.left rfl).symm
          · obtain ⟨b', rfl, _, hb1, _⟩ := hV
            intro b hb hb2; cases hb2; exact absurd (hlt1 _ hb) (Nat.not_lt.2 hb1)
          · subst hV; exact (apart.left rfl).symm
          · subst hV; exact hap12
          · subst hV; exact (apart.left rfl).symm
          · obtain ⟨b', rfl, _, hb1, _⟩ := hV
            intro b hb hb2; cases hb2; exact absurd (hlt1 _ hb) (Nat.not_lt.2 hb1)
        exact ⟨hV, hap', hap'.symm⟩
      · refine stepIn_val (by intro c h; cases h) (by intro c h; cases h) (v := .int .i64 (fa i : Nat)) (w' := w1) (by simp [execOp, h4]) ⟨_, rfl, hR.pure (by decide) (by decide) (by decide) (by decide), fun j u hu hV hde => ⟨hV, apart.left rfl, (apart.left rfl).symm⟩, rfl⟩
      · have e9 : a1.eval (.tmp 11) = .int .i64 (fa i : Nat) := hdep ⟨2, .data⟩ (by simp) rfl _ rfl
        refine stepIn_val (by intro c h; cases h) (by intro c h; cases h) (v := .slice (some ⟨w1.heap.size, 0, none⟩) 1 1) (w' := w1.alloc (.cells #[.int .i64 (fa i : Nat)] 3)) (by simp [execOp, e9, bs1]) ⟨_, rfl, (hR.pure (by decide) (by decide) (by decide) (by decide)).alloc _, fun j u hu hV hde => ?_, ?_⟩
        · have hj : j ≤ 10 := by
            have hm := used_mem (by kernel_rfl) hfin hu [0, 1, 5, 6, 7, 8] (by kernel_rfl)
            revert hm; simp; omega
          have hN : A.heap.size ≤ w1.heap.size := hR.keeps.size
          have hap' : apart (.slice (some ⟨w1.heap.size, 0, none⟩) 1 1) u := by
            intro b hb hb2; cases hb
            exact absurd (colV_lt j u hN hlt1 hlt2 hV hj _ hb2) (Nat.lt_irrefl _)
          exact ⟨colV_below j u ((Below.refl _ _).alloc (Nat.le_refl _) _) (Array.getElem?_eq_some_iff.1 hR.cells.choose_spec.choose_spec.1).1 hV, hap', hap'.symm⟩
        · refine ⟨w1.heap.size, rfl, ?_, hR.keeps.size, by simp⟩
          have := rowN_lit' .i64 w1 [fa i] 3 #[.int .i64 (fa i : Nat)] w1.heap.size rfl rfl (by simp)
          exact this
      · obtain ⟨b9, e40, r40, hb9, hb9'⟩ := hdep ⟨3, .data⟩ (by simp) rfl _ rfl
        have e39 : a1.eval (.tmp 10) = .slice x1 i c1 := hdep ⟨1, .data⟩ (by simp) rfl _ rfl
        have e40' : a1.eval (.tmp 12) = .slice (some ⟨b9, 0, none⟩) 1 1 := e40
        have hov := hR.own1 hunf
        obtain ⟨p, q, hc, hp, hq⟩ := hR.cells
        have hpS := hp (hdes 11 (by kernel_rfl))
        have hqS := hq (hdes 13 (by kernel_rfl))
        have hN : A.heap.size ≤ w1.heap.size := hR.keeps.size
        have hRlt : w.heap.size + 1 < w1.heap.size := (Array.getElem?_eq_some_iff.1 hc).1
        obtain ⟨a39, c39, h39, o39⟩ := hov
        rw [h39] at e39
        refine stepIn_of_list (ops0 := #[]) rfl (appNInAt et_int rfl (.tmp 10) (.tmp 12) rfl e39 o39 rfl e40' r40 (by simp) (by simp; omega) (by simp; omega) (by omega) ?_)
        intro a' cap' w2 ho2 hg2 hb2 hat
        rw [ownBlock_eq, ownBlock_eq, ← h39] at hat
        rw [ownBlock_eq, ← h39] at hg2
        have hrow : ∀ j o, colBlk (.slice x1 i c1) = some j → w1.heap[j]? = some o → o.isCells = true := fun j o hj ho => by
          rw [h39] at hj
          rcases o39.2 with ⟨h5, _⟩ | ⟨g, c, cur, h5, _, h6, _⟩
          · rw [h5] at hj; cases hj
          · rw [h5] at hj; cases hj
            rw [h6] at ho; cases ho; rfl
        have hbase : ∀ b, colBlk (.slice x1 i c1) = some b → w.heap.size + 1 < b := fun b hb => by
          have := (show OwnV (w.heap.size + 1) (.slice x1 i c1) _ w1 from ⟨_, _, h39, o39⟩).lt b hb
          omega
        have hRsame : w2.heap[w.heap.size + 1]? = w1.heap[w.heap.size + 1]? := hg2.block _ hRlt (fun h => by have := hbase _ h.symm; omega)
        have hnew : ∀ b, colBlk (.slice a' ((List.range i).map fa ++ [fa i]).length cap') = some b → colBlk (.slice x1 i c1) = some b ∨ A.heap.size ≤ b := fun b hb => by
          have hat' : colBlk (.slice a' ((List.range i).map fa ++ [fa i]).length cap') = colBlk (.slice x1 i c1) ∨ colBlk (.slice a' ((List.range i).map fa ++ [fa i]).length cap') = some w1.heap.size := by
            cases a' <;> exact hat
          rcases hat' with h5 | h5
          · exact .inl (h5 ▸ hb)
          · rw [h5] at hb; cases hb; exact .inr hN
        refine ⟨_, by simp, ⟨hR.below.trans (Below.of_grown hg2 (by omega) (fun k hk => by have := hbase k hk; omega)), hR.keeps.trans (KeepsOthers.of_grownBy hg2 hrow), ⟨p, q, hRsame.trans hc, fun e => hp (set_getD (by decide) e), fun e => hq (set_getD (by decide) e)⟩, fun e => (by rw [set_getD_same hil] at e; cases e), fun e => (hR.own2 (set_getD (by decide) e)).kept hg2 (fun b hb hb2 => hap12 b hb2 hb)⟩, fun j u hu hV hde => ?_, ⟨a', cap', by simp, ho2, hnew⟩⟩
        have hm := used_mem (by kernel_rfl) hfin hu [5, 6, 7, 8] (by kernel_rfl)
        simp only [List.mem_cons, List.not_mem_nil, or_false] at hm
        have hnl : ∀ b, colBlk (.slice a' ((List.range i).map fa ++ [fa i]).length cap') = some b → colBlk (.slice x1 i c1) = some b ∨ b = w1.heap.size := fun b hb => by
          have hat' : colBlk (.slice a' ((List.range i).map fa ++ [fa i]).length cap') = colBlk (.slice x1 i c1) ∨ colBlk (.slice a' ((List.range i).map fa ++ [fa i]).length cap') = some w1.heap.size := by
            cases a' <;> exact hat
          rcases hat' with h5 | h5
          · exact .inl (h5 ▸ hb)
          · rw [h5] at hb; cases hb; exact .inr rfl
        rcases hm with rfl | rfl | rfl | rfl <;> simp only [colV] at hV
        · subst hV; exact ⟨rfl, (apart.left rfl).symm, apart.left rfl⟩
        · subst hV
          have h7 : apart (.slice a' ((List.range i).map fa ++ [fa i]).length cap') (.slice x2 i c2) := fun b hb hb2 => by
            rcases hnl b hb with h8 | h8
            · exact hap12 b h8 hb2
            · have := hlt2 b hb2; omega
          exact ⟨rfl, by simpa using h7, by simpa using h7.symm⟩
        · subst hV; exact ⟨rfl, (apart.left rfl).symm, apart.left rfl⟩
        · obtain ⟨b', rfl, hr', hb1, hb2'⟩ := hV
          have h7 : apart (.slice a' ((List.range i).map fa ++ [fa i]).length cap') (.slice (some ⟨b', 0, none⟩) 1 1) := fun b hb hb2 => by
            cases hb2
            rcases hnl b' hb with h8 | h8
            · have := hlt1 b' h8; omega
            · omega
          exact ⟨⟨b', rfl, hr'.keptB hg2 (fun h => by have := hlt1 b' h; omega), hb1, Nat.lt_of_lt_of_le hb2' hg2.size⟩, by simpa using h7, by simpa using h7.symm⟩
      · refine stepIn_val (by intro c h; cases h) (by intro c h; cases h) (v := .pointer (some ⟨w.heap.size + 1, 1, none⟩)) (w' := w1) (by simp [execOp, h3, fld1]) ⟨_, rfl, hR.pure (by decide) (by decide) (by decide) (by decide), fun j u hu hV hde => ⟨hV, apart.left rfl, (apart.left rfl).symm⟩, rfl⟩
      · obtain ⟨p, q, hc, hp, hq⟩ := hR.cells
        obtain rfl := hp (hdes 11 (by kernel_rfl))
        obtain rfl := hq (hdes 13 (by kernel_rfl))
        have e9 : a1.eval (.tmp 14) = .pointer (some ⟨w.heap.size + 1, 1, none⟩) := hdep ⟨5, .data⟩ (by simp) rfl _ rfl
        refine stepIn_val (by intro c h; cases h) (by intro c h; cases h) (v := .slice x2 i c2) (w' := w1) (by simp [execOp, e9, ldI _ _ _ (two_cell hc).2.1]) ⟨_, rfl, hR.pure (by decide) (by decide) (by decide) (by decide), fun j u hu hV hde => ?_, rfl⟩
        have hap' : apart (.slice x2 i c2) u := by
          have hm := used_mem (by kernel_rfl) hfin hu [0, 1, 2, 3, 4, 7, 8] (by kernel_rfl)
          simp only [List.mem_cons, List.not_mem_nil, or_false] at hm
          rcases hm with rfl | rfl | rfl | rfl | rfl | rfl | rfl <;> simp only [colV] at hV
          · subst hV; exact (apart.left rfl).symm
          · subst hV; exact hap12.symm
          · subst hV; exact (apart.left rfl).symm
          · obtain ⟨b', rfl, _, hb1, _⟩ := hV
            intro b hb hb2; cases hb2; exact absurd (hlt2 _ hb) (Nat.not_lt.2 hb1)
          · obtain ⟨_, _, _, _, h5⟩ := hV
            intro b hb hb2
            have := hlt2 _ hb
            rcases h5 b hb2 with h6 | h6
            · exact hap12 b h6 hb
            · omega
          · subst hV; exact (apart.left rfl).symm
          · obtain ⟨b', rfl, _, hb1, _⟩ := hV
            intro b hb hb2; cases hb2; exact absurd (hlt2 _ hb) (Nat.not_lt.2 hb1)
        exact ⟨hV, hap', hap'.symm⟩
      · refine stepIn_val (by intro c h; cases h) (by intro c h; cases h) (v := .int .i64 (fb i : Nat)) (w' := w1) (by simp [execOp, h5]) ⟨_, rfl, hR.pure (by decide) (by decide) (by decide) (by decide), fun j u hu hV hde => ⟨hV, apart.left rfl, (apart.left rfl).symm⟩, rfl⟩
      · have e9 : a1.eval (.tmp 16) = .int .i64 (fb i : Nat) := hdep ⟨7, .data⟩ (by simp) rfl _ rfl
        refine stepIn_val (by intro c h; cases h) (by intro c h; cases h) (v := .slice (some ⟨w1.heap.size, 0, none⟩) 1 1) (w' := w1.alloc (.cells #[.int .i64 (fb i : Nat)] 3)) (by simp [execOp, e9, bs1]) ⟨_, rfl, (hR.pure (by decide) (by decide) (by decide) (by decide)).alloc _, fun j u hu hV hde => ?_, ?_⟩
        · have hj : j ≤ 10 := by
            have hm := used_mem (by kernel_rfl) hfin hu [0, 1, 2, 3, 4, 5, 6, 10] (by kernel_rfl)
            revert hm; simp; omega
          have hN : A.heap.size ≤ w1.heap.size := hR.keeps.size
          have hap' : apart (.slice (some ⟨w1.heap.size, 0, none⟩) 1 1) u := by
            intro b hb hb2; cases hb
            exact absurd (colV_lt j u hN hlt1 hlt2 hV hj _ hb2) (Nat.lt_irrefl _)
          exact ⟨colV_below j u ((Below.refl _ _).alloc (Nat.le_refl _) _) (Array.getElem?_eq_some_iff.1 hR.cells.choose_spec.choose_spec.1).1 hV, hap', hap'.symm⟩
        · refine ⟨w1.heap.size, rfl, ?_, hR.keeps.size, by simp⟩
          have := rowN_lit' .i64 w1 [fb i] 3 #[.int .i64 (fb i : Nat)] w1.heap.size rfl rfl (by simp)
          exact this
      · obtain ⟨b9, e40, r40, hb9, hb9'⟩ := hdep ⟨8, .data⟩ (by simp) rfl _ rfl
        have e39 : a1.eval (.tmp 15) = .slice x2 i c2 := hdep ⟨6, .data⟩ (by simp) rfl _ rfl
        have e40' : a1.eval (.tmp 17) = .slice (some ⟨b9, 0, none⟩) 1 1 := e40
        have hov := hR.own2 hunf
        obtain ⟨p, q, hc, hp, hq⟩ := hR.cells
        have hpS := hp (hdes 11 (by kernel_rfl))
        have hqS := hq (hdes 13 (by kernel_rfl))
        have hN : A.heap.size ≤ w1.heap.size := hR.keeps.size
        have hRlt : w.heap.size + 1 < w1.heap.size := (Array.getElem?_eq_some_iff.1 hc).1
        obtain ⟨a39, c39, h39, o39⟩ := hov
        rw [h39] at e39
        refine stepIn_of_list (ops0 := #[]) rfl (appNInAt et_int rfl (.tmp 15) (.tmp 17) rfl e39 o39 rfl e40' r40 (by simp) (by simp; omega) (by simp; omega) (by omega) ?_)
        intro a' cap' w2 ho2 hg2 hb2 hat
        rw [ownBlock_eq, ownBlock_eq, ← h39] at hat
        rw [ownBlock_eq, ← h39] at hg2
        have hrow : ∀ j o, colBlk (.slice x2 i c2) = some j → w1.heap[j]? = some o → o.isCells = true := fun j o hj ho => by
          rw [h39] at hj
          rcases o39.2 with ⟨h5, _⟩ | ⟨g, c, cur, h5, _, h6, _⟩
          · rw [h5] at hj; cases hj
          · rw [h5] at hj; cases hj
            rw [h6] at ho; cases ho; rfl
        have hbase : ∀ b, colBlk (.slice x2 i c2) = some b → w.heap.size + 1 < b := fun b hb => by
          have := (show OwnV (w.heap.size + 1) (.slice x2 i c2) _ w1 from ⟨_, _, h39, o39⟩).lt b hb
          omega
        have hRsame : w2.heap[w.heap.size + 1]? = w1.heap[w.heap.size + 1]? := hg2.block _ hRlt (fun h => by have := hbase _ h.symm; omega)
        have hnew : ∀ b, colBlk (.slice a' ((List.range i).map fb ++ [fb i]).length cap') = some b → colBlk (.slice x2 i c2) = some b ∨ A.heap.size ≤ b := fun b hb => by
          have hat' : colBlk (.slice a' ((List.range i).map fb ++ [fb i]).length cap') = colBlk (.slice x2 i c2) ∨ colBlk (.slice a' ((List.range i).map fb ++ [fb i]).length cap') = some w1.heap.size := by
            cases a' <;> exact hat
          rcases hat' with h5 | h5
          · exact .inl (h5 ▸ hb)
          · rw [h5] at hb; cases hb; exact .inr hN
        have hnl : ∀ b, colBlk (.slice a' ((List.range i).map fb ++ [fb i]).length cap') = some b → colBlk (.slice x2 i c2) = some b ∨ b = w1.heap.size := fun b hb => by
          have hat' : colBlk (.slice a' ((List.range i).map fb ++ [fb i]).length cap') = colBlk (.slice x2 i c2) ∨ colBlk (.slice a' ((List.range i).map fb ++ [fb i]).length cap') = some w1.heap.size := by
            cases a' <;> exact hat
          rcases hat' with h5 | h5
          · exact .inl (h5 ▸ hb)
          · rw [h5] at hb; cases hb; exact .inr rfl
        refine ⟨_, by simp, ⟨hR.below.trans (Below.of_grown hg2 (by omega) (fun k hk => by have := hbase k hk; omega)), hR.keeps.trans (KeepsOthers.of_grownBy hg2 hrow), ⟨p, q, hRsame.trans hc, fun e => hp (set_getD (by decide) e), fun e => hq (set_getD (by decide) e)⟩, fun e => (hR.own1 (set_getD (by decide) e)).kept hg2 (fun b hb hb2 => hap12 b hb hb2), fun e => (by rw [set_getD_same hil] at e; cases e)⟩, fun j u hu hV hde => ?_, ⟨⟨a', cap', by simp, ho2, hnew⟩, fun p' q' hc' b hb hb2 => ?_⟩⟩
        · have hm := used_mem (by kernel_rfl) hfin hu [4, 10] (by kernel_rfl)
          simp only [List.mem_cons, List.not_mem_nil, or_false] at hm
          rcases hm with rfl | rfl
          case inr => simp only [colV] at hV; subst hV; exact ⟨rfl, (apart.left rfl).symm, apart.left rfl⟩
          simp only [colV] at hV
          have h64 : apart (.slice x2 i c2) u := by
            have := (hde ⟨6, .data⟩ (by simp) rfl (by decide) _ rfl).1
            have e6 := hdep ⟨6, .data⟩ (by simp) rfl _ rfl
            simp only [colV] at e6
            rw [e6] at this
            exact this
          have hult := hV.own.lt
          have h7 : apart (.slice a' ((List.range i).map fb ++ [fb i]).length cap') u := fun b hb hb2 => by
            rcases hnl b hb with h8 | h8
            · exact h64 b h8 hb2
            · have := (hult b hb2).2; omega
          exact ⟨hV.kept hg2 (fun b hb hb2 => h64 b hb2 hb), by simpa using h7, by simpa using h7.symm⟩
        · rw [hRsame, hc] at hc'
          cases hc'
          rw [hpS] at hb
          have hb2 : colBlk (.slice a' ((List.range i).map fb ++ [fb i]).length cap') = some b := by simpa using hb2
          rcases hnl b hb2 with h8 | h8
          · exact hap12 b hb h8
          · have := hlt1 b hb; omega
      · refine stepIn_val (by intro c h; cases h) (by intro c h; cases h) (v := .pointer (some ⟨w.heap.size + 1, 0, none⟩)) (w' := w1) (by simp [execOp, h3, fld0]) ⟨_, rfl, hR.pure (by decide) (by decide) (by decide) (by decide), fun j u hu hV hde => ⟨hV, apart.left rfl, (apart.left rfl).symm⟩, rfl⟩
      · obtain ⟨p, q, hc, hp, hq⟩ := hR.cells
        have e19 : a1.eval (.tmp 19) = .pointer (some ⟨w.heap.size + 1, 0, none⟩) := hdep ⟨10, .data⟩ (by simp) rfl _ rfl
        have hvd := hdep ⟨4, .data⟩ (by simp) rfl _ rfl
        simp only [colV] at hvd
        obtain ⟨a', c', e13, o13, hn13⟩ := hvd
        have e13' : a1.eval (.tmp 13) = .slice a' ((List.range i).map fa ++ [fa i]).length c' := e13
        rw [e13] at hn13
        have hov : OwnV (w.heap.size + 1) (.slice a' ((List.range i).map fa ++ [fa i]).length c') _ w1 := ⟨_, _, rfl, o13⟩
        have hkeep : ∀ S l, OwnV (w.heap.size + 1) S l w1 → OwnV (w.heap.size + 1) S l (w1.setCell ⟨w.heap.size + 1, 0, none⟩ (.slice a' ((List.range i).map fa ++ [fa i]).length c')) := fun S l h => by
          obtain ⟨a, c, rfl, h⟩ := h
          refine ⟨a, c, rfl, h.other (fun g hg => ?_) _⟩
          rcases h.form with ⟨h5, _⟩ | ⟨g', h5, h6, _⟩
          · rw [h5] at hg; cases hg
          · rw [h5] at hg; cases hg; show w.heap.size + 1 ≠ _; omega
        refine stepIn_skip (by intro c h; cases h) (by intro c h; cases h) (w' := w1.setCell ⟨w.heap.size + 1, 0, none⟩ (.slice a' ((List.range i).map fa ++ [fa i]).length c')) (by simp only [execOp, e19, e13']; simp [stI _ _ _ _ _ _ (two_cell hc).1 (two_cell hc).2.2.1]) ⟨undef, rfl, ?_, fun j u hu hV hde => ?_, ?_⟩
        · exact ⟨hR.below.setCell (Nat.le_refl _) _, hR.keeps.trans (KeepsOthers.setCell _ _ _), ⟨_, q, (two_set hc).1, fun e => (by rw [set_getD_same hil] at e; cases e), fun e => hq (set_getD (by decide) e)⟩, fun e => hkeep _ _ (hR.own1 (set_getD (by decide) e)), fun e => hkeep _ _ (hR.own2 (set_getD (by decide) e))⟩
        · have hm := used_mem (by kernel_rfl) hfin hu [9] (by kernel_rfl)
          simp only [List.mem_cons, List.not_mem_nil, or_false] at hm
          subst hm; simp only [colV] at hV
          · have h49 : apart (.slice a' ((List.range i).map fa ++ [fa i]).length c') u := by
              have := (hde ⟨4, .data⟩ (by simp) rfl (by decide) _ rfl).1
              rw [show leftBy a1 _ = _ from e13] at this
              exact this
            refine ⟨⟨colNew.of (hkeep _ _ hV.1.own) hV.1.choose_spec.choose_spec.2.2, fun p' q' hc' => ?_⟩, apart.left rfl, (apart.left rfl).symm⟩
            rw [(two_set hc).1] at hc'
            cases hc'
            exact h49
        · exact ⟨_, q, (two_set hc).1, colNew.of (hkeep _ _ hov) hn13⟩
      · refine stepIn_val (by intro c h; cases h) (by intro c h; cases h) (v := .pointer (some ⟨w.heap.size + 1, 1, none⟩)) (w' := w1) (by simp [execOp, h3, fld1]) ⟨_, rfl, hR.pure (by decide) (by decide) (by decide) (by decide), fun j u hu hV hde => ⟨hV, apart.left rfl, (apart.left rfl).symm⟩, rfl⟩
      · obtain ⟨p, q, hc, hp, hq⟩ := hR.cells
        have e19 : a1.eval (.tmp 20) = .pointer (some ⟨w.heap.size + 1, 1, none⟩) := hdep ⟨12, .data⟩ (by simp) rfl _ rfl
        have hvd := hdep ⟨9, .data⟩ (by simp) rfl _ rfl
        simp only [colV] at hvd
        obtain ⟨⟨a', c', e13, o13, hn13⟩, hcl⟩ := hvd
        have e13' : a1.eval (.tmp 18) = .slice a' ((List.range i).map fb ++ [fb i]).length c' := e13
        rw [e13] at hn13 hcl
        have hov : OwnV (w.heap.size + 1) (.slice a' ((List.range i).map fb ++ [fb i]).length c') _ w1 := ⟨_, _, rfl, o13⟩
        have hkeep : ∀ S l, OwnV (w.heap.size + 1) S l w1 → OwnV (w.heap.size + 1) S l (w1.setCell ⟨w.heap.size + 1, 1, none⟩ (.slice a' ((List.range i).map fb ++ [fb i]).length c')) := fun S l h => by
          obtain ⟨a, c, rfl, h⟩ := h
          refine ⟨a, c, rfl, h.other (fun g hg => ?_) _⟩
          rcases h.form with ⟨h5, _⟩ | ⟨g', h5, h6, _⟩
          · rw [h5] at hg; cases hg
          · rw [h5] at hg; cases hg; show w.heap.size + 1 ≠ _; omega
        refine stepIn_skip (by intro c h; cases h) (by intro c h; cases h) (w' := w1.setCell ⟨w.heap.size + 1, 1, none⟩ (.slice a' ((List.range i).map fb ++ [fb i]).length c')) (by simp only [execOp, e19, e13']; simp [stI _ _ _ _ _ _ (two_cell hc).2.1 (two_cell hc).2.2.2]) ⟨undef, rfl, ?_, fun j u hu hV hde => ?_, ?_⟩
        · exact ⟨hR.below.setCell (Nat.le_refl _) _, hR.keeps.trans (KeepsOthers.setCell _ _ _), ⟨p, _, (two_set hc).2, fun e => hp (set_getD (by decide) e), fun e => (by rw [set_getD_same hil] at e; cases e)⟩, fun e => hkeep _ _ (hR.own1 (set_getD (by decide) e)), fun e => hkeep _ _ (hR.own2 (set_getD (by decide) e))⟩
        · have hm := used_mem (by kernel_rfl) hfin hu [11] (by kernel_rfl)
          simp only [List.mem_cons, List.not_mem_nil, or_false] at hm
          subst hm
          simp only [colV] at hV
          obtain ⟨u', q', h5, h6⟩ := hV
          rw [hc] at h5
          cases h5
          exact ⟨⟨_, _, (two_set hc).2, colNew.of (hkeep _ _ h6.own) h6.choose_spec.choose_spec.2.2⟩, apart.left rfl, (apart.left rfl).symm⟩
        · exact ⟨p, _, (two_set hc).2, colNew.of (hkeep _ _ hov) hn13, hcl p q hc⟩
    · intro listed f w1 hR hall hV
      have v11 := hV 11 _ rfl rfl
      have v13 := hV 13 _ rfl rfl
      simp only [colV] at v11 v13
      obtain ⟨u, q, hc, hu⟩ := v11
      obtain ⟨p, u', hc', hu', hap'⟩ := v13
      rw [hc] at hc'
      cases hc'
      obtain ⟨a', c', rfl, o1, _⟩ := hu
      obtain ⟨a2', c2', rfl, o2, _⟩ := hu'
      have hR1 := hR.below
      have hR2 := hR.keeps
      refine ⟨hR2.from _, ⟨hR1.size, fun b hb => hR1.block b (by have := hS b hb; omega)⟩, a', c', a2', c2', by simpa using hc, by simpa [List.range_succ] using o1, by simpa [List.range_succ] using o2, fun g hg hg2 => ?_, (hR1.block _ (by omega)).trans hres, honly.low hR1.os hR1.tape hR1.output hR1.size (fun k hk => hR1.block k (by omega))⟩
      subst hg; exact hap' g rfl (by rw [hg2]; rfl)
  case done =>
    rintro A ⟨a1, c1, a2, c2, h1, h2, h3, h4, h5, h6⟩ hD
    have k3 := two_cell h1
    have k2 := two_cell h5
    obtain ⟨q1, q2, q3, q4⟩ := k3
    obtain ⟨r1, r2, r3, r4⟩ := k2
    have H1 := Lib.hid h1
    have H5 := Lib.hid h5
    have H6 := Lib.hid h6
    clear h1 h5 h4 h6
    gi_wp2
    have hD2 := (Below.heap_setCell _ ⟨w.heap.size, 1, none⟩ (.slice a2 n c2) _ (by show W0.heap.size ≠ w.heap.size; omega)).trans ((Below.heap_setCell A ⟨w.heap.size, 0, none⟩ (.slice a1 n c1) _ (by show W0.heap.size ≠ w.heap.size; omega)).trans hD)
    refine ⟨by simp, .inl ⟨_, _, rfl, run_takeDeferred hD2, ?_⟩⟩
    have hc2 := (two_set (two_set H5.out (x := .slice a1 n c1)).1 (x := .slice a2 n c2)).2
    have hc3 := (World.putObj_heap_other (w := (A.setCell ⟨w.heap.size, 0, none⟩ (.slice a1 n c1)).setCell ⟨w.heap.size, 1, none⟩ (.slice a2 n c2)) (o := .deferred none) (by omega : w.heap.size ≠ W0.heap.size)).trans hc2
    obtain ⟨s1, s2, _, _⟩ := two_cell hc3
    generalize hWf : ((A.setCell ⟨w.heap.size, 0, none⟩ (.slice a1 n c1)).setCell ⟨w.heap.size, 1, none⟩ (.slice a2 n c2)).putObj W0.heap.size (.deferred none) = Wf at *
    refine ⟨.agg #[.slice a1 n c1, .slice a2 n c2], by simp [results, Try.results121, s1, s2, go_sem], a1, c1, a2, c2, rfl, ?_, ?_, ?_⟩
    all_goals rw [← hWf]
    · have hne : ∀ g, a1 = some ⟨g, 0, none⟩ → w.heap.size ≠ g := fun g hg => by
        rcases h2.form with ⟨h, _⟩ | ⟨g', h, hh, _⟩ <;> rw [h] at hg <;> cases hg
        omega
      exact (OwnN.put (OwnN.other (OwnN.other h2 (p := ⟨w.heap.size, 0, none⟩) hne _) (p := ⟨w.heap.size, 1, none⟩) hne _) hD2 rfl _).mono (by omega)
    · have hne : ∀ g, a2 = some ⟨g, 0, none⟩ → w.heap.size ≠ g := fun g hg => by
        rcases h3.form with ⟨h, _⟩ | ⟨g', h, hh, _⟩ <;> rw [h] at hg <;> cases hg
        omega
      exact (OwnN.put (OwnN.other (OwnN.other h3 (p := ⟨w.heap.size, 0, none⟩) hne _) (p := ⟨w.heap.size, 1, none⟩) hne _) hD2 rfl _).mono (by omega)
    · refine H6.out.low rfl rfl rfl (by simp [World.setCell]) (fun k hk => ?_)
      rw [World.putObj_heap_other (by omega), Below.heap_setCell _ _ _ _ (by show k ≠ w.heap.size; omega), Below.heap_setCell _ _ _ _ (by show k ≠ w.heap.size; omega)]
end Go.Proofs.Ytmgoeokdlklabaa
