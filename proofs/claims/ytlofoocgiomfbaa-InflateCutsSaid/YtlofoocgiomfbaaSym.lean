/- cost.Symbols: contract. -/
import Derived.Test.YtlofoocgiomfbaaUses
import Derived.Test.YtlofoocgiomfbaaRange2
namespace Go.Proofs.Ytlofoocgiomfbaa
open Go.RowKit Go.Shelf M08 M17
attribute [local go_sem] Oper.semAt_some
set_option linter.unusedVariables false

theorem five (w : World) (o1 o2 o3 o4 o5 o6 : Obj) : ((((((w.alloc o1).alloc o2).alloc o3).alloc o4).alloc o5).alloc o6).heap.size = w.heap.size + 6 ∧ ((((((w.alloc o1).alloc o2).alloc o3).alloc o4).alloc o5).alloc o6).heap[w.heap.size]? = some o1 ∧ ((((((w.alloc o1).alloc o2).alloc o3).alloc o4).alloc o5).alloc o6).heap[w.heap.size + 1]? = some o2 ∧
    ((((((w.alloc o1).alloc o2).alloc o3).alloc o4).alloc o5).alloc o6).heap[w.heap.size + 1 + 1]? = some o3 ∧ ((((((w.alloc o1).alloc o2).alloc o3).alloc o4).alloc o5).alloc o6).heap[w.heap.size + 1 + 1 + 1]? = some o4 ∧ ((((((w.alloc o1).alloc o2).alloc o3).alloc o4).alloc o5).alloc o6).heap[w.heap.size + 1 + 1 + 1 + 1]? = some o5 ∧
    ((((((w.alloc o1).alloc o2).alloc o3).alloc o4).alloc o5).alloc o6).heap[w.heap.size + 1 + 1 + 1 + 1 + 1]? = some o6 ∧ Below w.heap.size w ((((((w.alloc o1).alloc o2).alloc o3).alloc o4).alloc o5).alloc o6) := by
  obtain ⟨h0, h1, h2, h3, h4, hb⟩ := alloc4 w o1 o2 o3 o4
  generalize (((w.alloc o1).alloc o2).alloc o3).alloc o4 = W at *
  have e5 := World.alloc_heap_new W o5
  have e6 := World.alloc_heap_new (W.alloc o5) o6
  have hb2 : Below W.heap.size W ((W.alloc o5).alloc o6) := ((Below.refl _ W).alloc (Nat.le_refl _) _).alloc (by simp) _
  rw [World.size_alloc] at e6
  rw [h0] at e5 e6
  refine ⟨by simp [h0], (hb2.block _ (by omega)).trans h1, (hb2.block _ (by omega)).trans h2, (hb2.block _ (by omega)).trans h3, (hb2.block _ (by omega)).trans h4, ?_, e6, hb.trans (hb2.mono (by omega))⟩
  rw [Below.heap_alloc _ _ _ (by rw [World.size_alloc, h0]; omega)]; exact e5

def symAct (s0 s1 s2 s4 s5 s6 s7 s8 s12 s13 : Value) (g : Nat) (r : URow) : Act :=
  ⟨#[s0, s1, s2, undef, s4, s5, s6, s7, s8, .pointer (some ⟨g, 0, none⟩), .int .i64 (r.err : Nat), undef, s12, s13, .agg #[.bool r.far, .int .i64 (r.sym : Nat), .int .i64 (r.bits : Nat)], .int .i64 (r.err : Nat), undef, undef, undef, undef, undef, undef, undef, undef, undef, undef, undef, undef, undef, undef, undef, undef, undef, undef, undef, undef, undef, undef, undef, undef, undef, undef, undef, undef, undef, undef, undef, undef, undef], []⟩
structure SymI (w : World) (v1 v2 : Value) (f o : List Nat) (l : List Tok) (i : Nat) (A : World) : Prop where
  b0 : A.heap[w.heap.size]? = some (.cells #[v1] 23)
  b1 : A.heap[w.heap.size + 1]? = some (.cells #[v2] 23)
  b2 : A.heap[w.heap.size + 1 + 1]? = some (.cells #[.int .i64 0] 3)
  b3 : A.heap[w.heap.size + 1 + 1 + 1]? = some (.cells #[.int .i64 0] 24)
  b4 : ∃ acc : Nat, A.heap[w.heap.size + 1 + 1 + 1 + 1]? = some (.cells #[.int .i64 (acc : Nat)] 3) ∧ symU f o ((useU l).take i) 0 = some acc ∧ acc ≤ i * 1000
  bel : Below w.heap.size w A
structure SymX (w : World) (f o : List Nat) (l : List Tok) (A : World) : Prop where
  none : symU f o (useU l) 0 = none
  b2 : A.heap[w.heap.size + 1 + 1]? = some (.cells #[.int .i64 0] 3)
  b3 : A.heap[w.heap.size + 1 + 1 + 1]? = some (.cells #[.int .i64 5] 24)
  bel : Below w.heap.size w A
section
variable {w : World} {v1 v2 : Value} {f o : List Nat} {l : List Tok} {i : Nat} {A B : World}
theorem SymI.only (h : SymI w v1 v2 f o l i A) (ho : Only (fun _ => False) A B) : SymI w v1 v2 f o l i B := by
  obtain ⟨acc, h4, h5, h6⟩ := h.b4
  exact ⟨box_only h.b0 ho id, box_only h.b1 ho id, box_only h.b2 ho id, box_only h.b3 ho id, ⟨acc, box_only h4 ho id, h5, h6⟩, Below.only h.bel ho (Nat.le_refl _) (fun _ h => h.elim)⟩
theorem SymI.put (h : SymI w v1 v2 f o l i A) {r : Nat} {ob : Obj} (h0 : w.heap.size ≤ r) (hro : A.heap[r]? = some ob) (hoc : ob.isCells = false) (o' : Obj) : SymI w v1 v2 f o l i (A.putObj r o') := by
  obtain ⟨acc, h4, h5, h6⟩ := h.b4
  exact ⟨box_put h.b0 hro hoc, box_put h.b1 hro hoc, box_put h.b2 hro hoc, box_put h.b3 hro hoc, ⟨acc, box_put h4 hro hoc, h5, h6⟩, Below.put h.bel (Nat.le_refl _) hro h0 _⟩
theorem SymX.only (h : SymX w f o l A) (ho : Only (fun _ => False) A B) : SymX w f o l B :=
  ⟨h.none, box_only h.b2 ho id, box_only h.b3 ho id, Below.only h.bel ho (Nat.le_refl _) (fun _ h => h.elim)⟩
theorem SymX.put (h : SymX w f o l A) {r : Nat} {ob : Obj} (h0 : w.heap.size ≤ r) (hro : A.heap[r]? = some ob) (hoc : ob.isCells = false) (o' : Obj) : SymX w f o l (A.putObj r o') :=
  ⟨h.none, box_put h.b2 hro hoc, box_put h.b3 hro hoc, Below.put h.bel (Nat.le_refl _) hro h0 _⟩
end
theorem sym_ret {w : World} {v1 v2 : Value} {f o : List Nat} {l : List Tok} {i : Nat} {A : World} (h : SymI w v1 v2 f o l i A) (N : Nat) (hn : symU f o (useU l) 0 = none) :
    KeepsFrom N A ((A.setCell ⟨w.heap.size + 1 + 1, 0, none⟩ (.int .i64 0)).setCell ⟨w.heap.size + 1 + 1 + 1, 0, none⟩ (.int .i64 5)) ∧ Code.ret = .ret ∧ SymX w f o l ((A.setCell ⟨w.heap.size + 1 + 1, 0, none⟩ (.int .i64 0)).setCell ⟨w.heap.size + 1 + 1 + 1, 0, none⟩ (.int .i64 5)) := by
  refine ⟨((KeepsOthers.setCell _ _ _).trans (KeepsOthers.setCell _ _ _)).from _, rfl, hn, ?_, ?_, (h.bel.setCell (by show w.heap.size ≤ w.heap.size + 1 + 1; omega) _).setCell (by show w.heap.size ≤ w.heap.size + 1 + 1 + 1; omega) _⟩
  · exact (Below.heap_setCell _ _ _ _ (by show w.heap.size + 1 + 1 ≠ w.heap.size + 1 + 1 + 1; omega)).trans (one_setCell h.b2)
  · exact one_setCell ((Below.heap_setCell _ _ _ _ (by show w.heap.size + 1 + 1 + 1 ≠ w.heap.size + 1 + 1; omega)).trans h.b3)
theorem sym_norm2 {w : World} {v1 v2 : Value} {f o : List Nat} {l : List Tok} {i : Nat} {A : World} (h : SymI w v1 v2 f o l i A) (N : Nat) (S : Nat → Prop) (hS : ∀ b, S b → b < A.heap.size ∧ b ≠ w.heap.size + 1 + 1 + 1 + 1) {acc acc' : Nat} (h4 : A.heap[w.heap.size + 1 + 1 + 1 + 1]? = some (.cells #[.int .i64 (acc : Nat)] 3))
    (hs : symU f o ((useU l).take (i + 1)) 0 = some acc') (hle : acc' ≤ (i + 1) * 1000) :
    KeepsFrom N A (A.drew.setCell ⟨w.heap.size + 1 + 1 + 1 + 1, 0, none⟩ (.int .i64 (acc' : Nat))) ∧ SameOn S A (A.drew.setCell ⟨w.heap.size + 1 + 1 + 1 + 1, 0, none⟩ (.int .i64 (acc' : Nat))) ∧ SymI w v1 v2 f o l (i + 1) (A.drew.setCell ⟨w.heap.size + 1 + 1 + 1 + 1, 0, none⟩ (.int .i64 (acc' : Nat))) := by
  have hk : KeepsOthers A (A.drew.setCell ⟨w.heap.size + 1 + 1 + 1 + 1, 0, none⟩ (.int .i64 (acc' : Nat))) := ⟨by simp [World.setCell], fun k o ho hoc => (KeepsOthers.setCell A.drew ⟨w.heap.size + 1 + 1 + 1 + 1, 0, none⟩ (.int .i64 (acc' : Nat))).same k o ho hoc⟩
  refine ⟨hk.from _, ((Only.refl (fun b => b = w.heap.size + 1 + 1 + 1 + 1) A).drew.setCell (.inl rfl) _).sameOn hS, ?_⟩
  have ne : ∀ k, k ≠ w.heap.size + 1 + 1 + 1 + 1 → (A.drew.setCell ⟨w.heap.size + 1 + 1 + 1 + 1, 0, none⟩ (.int .i64 (acc' : Nat))).heap[k]? = A.heap[k]? := fun k hk => Below.heap_setCell A.drew _ _ _ hk
  exact ⟨(ne _ (by omega)).trans h.b0, (ne _ (by omega)).trans h.b1, (ne _ (by omega)).trans h.b2, (ne _ (by omega)).trans h.b3, ⟨acc', one_setCell (w := A.drew) h4, hs, hle⟩, (belDN h.bel 1).setCell (by show w.heap.size ≤ w.heap.size + 1 + 1 + 1 + 1; omega) _⟩
theorem fldU1 (R : Nat) (w : World) : (Instr.fieldAt 66 (.pointer (some ⟨R, 0, none⟩)) 1).run Try.prog w = .ok (.pointer (some ⟨R, 1, none⟩)) w := by kernel_rfl
theorem fldU2 (R : Nat) (w : World) : (Instr.fieldAt 66 (.pointer (some ⟨R, 0, none⟩)) 2).run Try.prog w = .ok (.pointer (some ⟨R, 2, none⟩)) w := by kernel_rfl
theorem ixU8 (b off k N c : Nat) (h : k < N) (w : World) : (Instr.indexAt 23 (.slice (some ⟨b, off, none⟩) N c) (.int .i64 (k : Nat))).run Try.prog w = .ok (.pointer (some ⟨b, off + k, none⟩)) w := by
  simp [Instr.indexAt, asIntOf, run_underlying Try.underlying23, h, go_sem]
theorem ldU8 (p : Addr) (v : Value) (w : World) (h : w.cell? p = some v) : (Instr.loadAt 5 (.pointer (some p))).run Try.prog w = .ok v w := by
  simp [Instr.loadAt, Instr.sureAddr, loadVar, isAgg, run_underlying Try.underlying5, h, go_sem]
theorem cvU8 (x : Nat) (h : x ≤ 255) (w : World) : (convert 5 3 (.int .u8 (x : Nat))).run Try.prog w = .ok (.int .i64 (x : Nat)) w := by
  have hx : IntKind.i64.wrap (x : Int) = x := IntWalk.i64_in _ (by omega)
  simp [convert, run_underlying Try.underlying5, run_underlying Try.underlying3, Conv.intToInt, hx, go_sem]
theorem stInt (p : Addr) (n : Int) (u : Value) (w : World) (h : w.cell? p = some u) (hf : w.frozen? p = false) : (Instr.storeAt 3 (.pointer (some p)) (.int .i64 n)).run Try.prog w = .ok () (w.setCell p (.int .i64 n)) := by
  have hs : (Try.prog.info? 3).map (·.size) = some 1 := by kernel_rfl
  cases h5 : Try.prog.info? 3 with
  | none => rw [h5] at hs; cases hs
  | some ie =>
    simp only [h5, Option.map_some, Option.some.injEq] at hs
    simp [Instr.storeAt, Instr.sureAddr, storeVar, sizeOf, typeInfo, h5, hs, Value.cells, storeCells, h, hf, go_sem]
theorem getD_set_ne {l : Array Bool} {i k : Nat} (h : i ≠ k) : (l.setIfInBounds i true).getD k false = l.getD k false := by
  simp [Array.getElem?_setIfInBounds_ne h]
/-- one row more -/
theorem sym_step {f o : List Nat} {l : List Tok} {i acc : Nat} (hi : i < (useU l).length) (h : symU f o ((useU l).take i) 0 = some acc) :
    ((useU l)[i].err ≠ 0 ∨ lensOf f o (useU l)[i] = 0 → symU f o (useU l) 0 = none) ∧
    ((useU l)[i].err = 0 → lensOf f o (useU l)[i] ≠ 0 → symU f o ((useU l).take (i + 1)) 0 = some (acc + (lensOf f o (useU l)[i] + (useU l)[i].bits))) := by
  constructor
  · intro hc
    have e : useU l = (useU l).take i ++ (useU l)[i] :: (useU l).drop (i + 1) := by rw [← List.drop_eq_getElem_cons hi, List.take_append_drop]
    rw [e, symU_app, h]
    simp only [Option.bind_some, symU]
    rw [if_pos hc]
  · intro h1 h2
    rw [List.take_succ_eq_append_getElem hi, symU_app, h]
    simp only [Option.bind_some, symU]
    rw [if_neg (by simp [h1, h2])]
theorem bits_le (l : List Tok) : ∀ r ∈ useU l, r.bits ≤ 100 := by
  have hl : ∀ n, lbits (257 + lk n) ≤ 100 := fun n => by
    have h : lk n < 29 := lastLe_lt n (by decide)
    generalize lk n = k at *
    unfold lbits; split <;> omega
  have hd : ∀ n, dbits (dk n) ≤ 100 := fun n => by
    have h := dk_lt n
    generalize dk n = k at *
    unfold dbits; split <;> omega
  have ht : ∀ t : Tok, ∀ r ∈ tokU t, r.bits ≤ 100 := by
    intro t r hr
    unfold tokU at hr
    split at hr
    · simp at hr; subst hr; simp
    · split at hr
      · simp at hr
        rcases hr with rfl | rfl
        · exact hl _
        · exact hd _
      · simp at hr; subst hr
        show (if _ then _ else _) ≤ 100
        split
        · exact hl _
        · omega
  induction l with
  | nil => intro r hr; simp [useU] at hr; subst hr; decide
  | cons t l ih =>
    intro r hr
    simp only [useU] at hr
    split at hr
    · rcases List.mem_append.1 hr with hr | hr
      · exact ht t r hr
      · exact ih r hr
    · exact ht t r hr

set_option maxRecDepth 100000 in
set_option maxHeartbeats 1600000 in
theorem cost_symbols (a a1 a2 : Option Addr) (cap c1 c2 : Nat) (l : List Tok) (f o : List Nat) (w : World) (hl : l.length ≤ 1000) (hby : ∀ t ∈ l, t.byte < 256) (hr : RowS encT w a cap l) (h1 : RowN .u8 w a1 c1 f) (h2 : RowN .u8 w a2 c2 o) (hf : ∀ x ∈ f, x ≤ 255) (ho : ∀ x ∈ o, x ≤ 255) :
    Calls Try.prog 11 #[.slice a l.length cap, .slice a1 f.length c1, .slice a2 o.length c2] w fun e w' => e = .returned (.tuple #[.int .i64 ((symOut f o l).1 : Nat), .int .i64 ((symOut f o l).2 : Nat)]) ∧ Below w.heap.size w w' := by
  have HF := Lib.hid hf
  have HO := Lib.hid ho
  have HBY := Lib.hid hby
  clear hf ho hby
  refine (callsIn_wide (n := 9)).1 ?_
  refine callsIn_of_wp_marks Try.func11 rfl trivial ?_ rfl
  simp only [Try.ntmps11, List.size_toArray, List.length_cons, List.length_nil, Nat.reduceAdd, Nat.reduceSub, Array.replicate_succ, Array.replicate_zero, List.push_toArray, List.append_toArray, List.nil_append, List.cons_append]
  gi_wp2_with (refine ⟨trivial, ?_⟩; gi_at_call 28; refine (callsIn_wide.2 (cost_uses _ _ _ _)).mono ?_; rintro e w' ⟨rfl, rfl⟩)
  obtain ⟨hz, hb0, hb1, hb2, hb3, hb4, hb5, hbel⟩ := five w (.cells #[.slice a1 f.length c1] 23) (.cells #[.slice a2 o.length c2] 23) (.cells #[.int .i64 0] 3) (.cells #[.int .i64 0] 24) (.cells #[.int .i64 0] 3) (.cells #[.slice a l.length cap] 22)
  generalize (((((w.alloc (Obj.cells #[.slice a1 f.length c1] 23)).alloc (.cells #[.slice a2 o.length c2] 23)).alloc (.cells #[.int .i64 0] 3)).alloc (.cells #[.int .i64 0] 24)).alloc (.cells #[.int .i64 0] 3)).alloc (.cells #[.slice a l.length cap] 22) = W0 at *
  have hr4 : RowS encT W0 a cap l := hr.below hbel
  refine range_law2 (g := .tmp 13) (gf := 51) (lb := #[.pointer (some ⟨w.heap.size + 1 + 1 + 1 + 1 + 1, 0, none⟩)]) rfl (enters_of Try.func51 (by kernel_rfl) rfl)
    (uses_yields a cap l W0 (w.heap.size + 1 + 1 + 1 + 1 + 1) (by omega) HBY.out hr4 hb5) (SameOn.refl _ _) ?hS (fun _ h => h.elim) (fun _ => rfl)
    (SymI w (.slice a1 f.length c1) (.slice a2 o.length c2) f o l)
    (fun c _ A => c = .ret ∧ SymX w f o l A) (fun _ _ _ h ho => h.only ho) (fun _ _ _ _ o' h h0 h1 h2 => h.put (by omega) h1 h2 o') (fun _ _ _ _ h ho => ⟨h.1, h.2.only ho⟩) (fun _ _ _ _ _ o' h h0 h1 h2 => ⟨h.1, h.2.put (by omega) h1 h2 o'⟩) ?h0
    (fun i a' A => SymI w (.slice a1 f.length c1) (.slice a2 o.length c2) f o l i A ∧ ∃ (g : Nat) (r : URow), (useU l)[i]? = some r ∧ A.heap[g]? = some (.cells #[.bool r.far, .int .i64 (r.sym : Nat), .int .i64 (r.bits : Nat)] 66) ∧
      a' = symAct (.slice a l.length cap) (.slice a1 f.length c1) (.slice a2 o.length c2) (.pointer (some ⟨w.heap.size, 0, none⟩)) (.pointer (some ⟨w.heap.size + 1, 0, none⟩)) (.pointer (some ⟨w.heap.size + 1 + 1, 0, none⟩)) (.pointer (some ⟨w.heap.size + 1 + 1 + 1, 0, none⟩)) (.pointer (some ⟨w.heap.size + 1 + 1 + 1 + 1, 0, none⟩)) (.slice a l.length cap)
        (.func (.func 51) #[] #[.pointer (some ⟨w.heap.size + 1 + 1 + 1 + 1 + 1, 0, none⟩)]) g r) ?hAp ?assign ?body ?done ?stop
  case hS =>
    rintro b (rfl | ⟨h0, x, hx, rfl⟩)
    · omega
    · obtain ⟨b', off, he, hlt, _⟩ := hr4.at h0
      rw [hx] at he
      cases he
      exact hlt
  case h0 => exact ⟨hb0, hb1, hb2, hb3, ⟨0, hb4, by simp [symU], by omega⟩, hbel⟩
  case hAp =>
    rintro i a' A r ob o' ⟨h, g, u, hu, hg, ha⟩ h0 h1 h2
    exact ⟨h.put (by omega) h1 h2 o', g, u, hu, box_put hg h1 h2, ha⟩
  case assign =>
    rintro y i W K hi hsz hI hK
    obtain ⟨r, hr0⟩ : ∃ r, (useU l)[i]? = some r := ⟨_, List.getElem?_eq_getElem hi⟩
    obtain ⟨-, hrow⟩ := useRow_at hr0
    rw [hrow]
    have HK := Lib.hid hK
    have HI := Lib.hid hI
    have HI0 := Lib.hid hr0
    clear hK hrow hI hr0 hi
    gi_wp2
    have hb : Below W.heap.size W (W.alloc (.cells #[.bool r.far, .int .i64 (r.sym : Nat), .int .i64 (r.bits : Nat)] 66)) := box_below _ _
    refine HK.out _ _ (KeepsFrom.of_grownBy (row := none) ⟨hb.os, hb.tape, hb.output, hb.size, fun k hk _ => hb.block k hk⟩ (fun j e => by cases e)) (((Only.refl (fun _ => False) _).alloc _).sameOn ?_) ⟨HI.out.only ((Only.refl _ _).alloc _), W.heap.size, r, HI0.out, World.alloc_heap_new _ _, rfl⟩
    intro b hb
    refine ⟨?_, id⟩
    rcases hb with rfl | ⟨h0, x, hx, rfl⟩
    · omega
    · obtain ⟨b', off, he, hlt, _⟩ := hr4.at h0
      rw [hx] at he
      cases he
      show b' < _
      omega
  case body =>
    rintro y i hi a' A hsz ⟨hI, g, r, hri, hg, rfl⟩
    unfold symAct
    have hir : (useU l)[i] = r := by rw [List.getElem?_eq_getElem hi] at hri; exact Option.some.inj hri
    obtain ⟨acc, h4, h5, h6⟩ := hI.b4
    obtain ⟨st1, st2⟩ := sym_step hi h5
    rw [hir] at st1 st2
    have hbits := bits_le l r (by rw [← hir]; exact List.getElem_mem hi)
    have hil : i ≤ 2001 := by have := useU_len l; omega
    have r1 := h1.below hI.bel
    have r2 := h2.below hI.bel
    have k0 := cell_of_one hI.b0
    have k1 := cell_of_one hI.b1
    have k2 := cell_of_one hI.b2
    have z2 := free_of_one hI.b2
    have k3 := cell_of_one hI.b3
    have z3 := free_of_one hI.b3
    have k4 := cell_of_one h4
    have z4 := free_of_one h4
    obtain ⟨g0, g1, g2⟩ := cells3 hg
    obtain ⟨far, sym, bits, err⟩ := r
    have HS : Hid (∀ b, useS a (w.heap.size + 1 + 1 + 1 + 1 + 1) l b → b < A.heap.size ∧ b ≠ w.heap.size + 1 + 1 + 1 + 1) := by
      intro b hb
      rcases hb with rfl | ⟨h0, x, hx, rfl⟩
      · exact ⟨by omega, by omega⟩
      · obtain ⟨b', off, he, hlt, _⟩ := hr.at h0
        rw [hx] at he
        cases he
        show b' < _ ∧ b' ≠ _
        exact ⟨by omega, by omega⟩
    have ST1 := Lib.hid st1
    have ST2 := Lib.hid st2
    have HI := Lib.hid hI
    have H4 := Lib.hid h4
    clear st1 st2 hI h4 h5 hri hir hg hb0 hb1 hb2 hb3 hb4 hb5 hr4
    simp only at g0 g1 g2 hbits ⊢
    have hlf := h1.len
    have hlo := h2.len
    cases far with
    | false =>
      by_cases he : err = 0
      case neg =>
        have b0 : ((err : Int) != 0) = true := by simp; omega
        have HN := Lib.hid (ST1.out (.inl he))
        clear he
        gi_wp2
        exact sym_ret HI.out _ HN.out
      subst he
      by_cases hs : sym < f.length
      case neg =>
        have HN := Lib.hid (ST1.out (.inr (by show (if false then o else f).getD sym 0 = 0; simp [List.getElem?_eq_none (Nat.le_of_not_lt hs)])))
        have b1 : decide (f.length ≤ sym) = true := by simp; omega
        clear hs
        gi_wp2
        exact sym_ret HI.out _ HN.out
      have b1 : decide (f.length ≤ sym) = false := by simp; omega
      obtain ⟨b, off, rfl, hb, hck⟩ := r1.at hs
      have hx : f.getD sym 0 = f[sym] := by simp [hs]
      have hxl := HF.out _ (List.getElem_mem hs)
      by_cases hz : f[sym] = 0
      · have HN := Lib.hid (ST1.out (.inr (by show (if false then o else f).getD sym 0 = 0; simp [hs, hz])))
        rw [hz] at hck
        clear hz hx hxl
        gi_wp2
        exact sym_ret HI.out _ HN.out
      · have HN := Lib.hid (ST2.out rfl (by show (if false then o else f).getD sym 0 ≠ 0; simpa [hs] using hz))
        have HV : Hid (lensOf f o ⟨false, sym, bits, 0⟩ = f[sym]) := by show (if false then o else f).getD sym 0 = _; simp [hs]
        have b2 : ((f[sym] : Int) == 0) = false := by simp; omega
        clear hz hx
        generalize f[sym] = x at *
        gi_wp2
        have hw1 : IntKind.i64.wrap ((x : Int) + (bits : Int)) = ((x + bits : Nat) : Int) := by rw [IntWalk.i64_in _ (by omega)]; simp
        have hw2 : IntKind.i64.wrap ((acc : Int) + ((x : Int) + (bits : Int))) = (acc : Int) + ((x : Int) + (bits : Int)) := IntWalk.i64_in _ (by omega)
        have c4 : A.drew.cell? ⟨w.heap.size + 1 + 1 + 1 + 1, 0, none⟩ = some (.int .i64 (acc : Nat)) := k4
        have d4 : A.drew.frozen? ⟨w.heap.size + 1 + 1 + 1 + 1, 0, none⟩ = false := z4
        replace g1 : A.drew.cell? ⟨g, 1, none⟩ = some (.int .i64 (sym : Nat)) := g1
        replace g2 : A.drew.cell? ⟨g, 2, none⟩ = some (.int .i64 (bits : Nat)) := g2
        replace hck : A.drew.cell? ⟨b, off + sym, none⟩ = some (.int .u8 (x : Nat)) := hck
        refine wpIn_region_flowL [37, 38, 39, 40, 41, 42, 43, 44, 45, 46, 47] (fun _ => false) (fun listed w1 => w1 = if listed.getD 11 false = true then A.drew.setCell ⟨w.heap.size + 1 + 1 + 1 + 1, 0, none⟩ (.int .i64 ((acc + (x + bits) : Nat) : Int)) else A.drew) (fun j v _ => match j with | 0 => v = .int .i64 (acc : Nat) | 1 => v = .slice (some ⟨b, off, none⟩) f.length c1 | 2 => v = .pointer (some ⟨g, 1, none⟩) | 3 => v = .int .i64 (sym : Nat) | 4 => v = .pointer (some ⟨b, off + sym, none⟩) | 5 => v = .int .u8 (x : Nat) | 6 => v = .int .i64 (x : Nat) | 7 => v = .pointer (some ⟨g, 2, none⟩) | 8 => v = .int .i64 (bits : Nat) | 9 => v = .int .i64 ((x + bits : Nat) : Int) | 10 => v = .int .i64 ((acc + (x + bits) : Nat) : Int) | _ => True) (fun _ _ _ _ => True) (by kernel_rfl) (by kernel_rfl) (OneEach.mk' (by kernel_rfl) (by kernel_rfl)) (by kernel_rfl) (by kernel_rfl) (by simp) ?_ ?_
        · intro i0 o hi0 listed a1 w1 hR hil hunf hdes hanc hout hdep
          have hsz : i0 < 12 := (Array.getElem?_eq_some_iff.1 hi0).1
          have hall : i0 = 0 ∨ i0 = 1 ∨ i0 = 2 ∨ i0 = 3 ∨ i0 = 4 ∨ i0 = 5 ∨ i0 = 6 ∨ i0 = 7 ∨ i0 = 8 ∨ i0 = 9 ∨ i0 = 10 ∨ i0 = 11 := by omega
          clear hsz
          rcases hall with rfl | rfl | rfl | rfl | rfl | rfl | rfl | rfl | rfl | rfl | rfl | rfl <;> simp only [List.getElem?_toArray, List.getElem?_cons_zero, List.getElem?_cons_succ, Option.some.injEq] at hi0 <;> subst hi0
          · rw [hdes 11 (by kernel_rfl)] at hR
            simp only [Bool.false_eq_true, if_false] at hR
            subst hR
            have f8 : a1.eval (.tmp 8) = .pointer (some ⟨w.heap.size + 1 + 1 + 1 + 1, 0, none⟩) := hout 8 (by decide)
            refine stepIn_val (by intro c h; cases h) (by intro c h; cases h) (v := .int .i64 (acc : Nat)) (w' := A.drew) (by simp [execOp, f8, ldInt _ _ _ c4]) ⟨_, rfl, ?_, fun j u hu hV _ => ⟨hV, trivial, trivial⟩, rfl⟩
            rw [if_neg]
            intro he; have := hdes 11 (by kernel_rfl); rw [getD_set_ne (by decide)] at he; rw [this] at he; cases he
          · rw [hdes 11 (by kernel_rfl)] at hR
            simp only [Bool.false_eq_true, if_false] at hR
            subst hR
            have f11 : a1.eval (.tmp 11) = .slice (some ⟨b, off, none⟩) f.length c1 := hout 11 (by decide)
            refine stepIn_val (by intro c h; cases h) (by intro c h; cases h) (v := .slice (some ⟨b, off, none⟩) f.length c1) (w' := A.drew) (by simp [execOp, f11]) ⟨_, rfl, ?_, fun j u hu hV _ => ⟨hV, trivial, trivial⟩, rfl⟩
            rw [if_neg]
            intro he; have := hdes 11 (by kernel_rfl); rw [getD_set_ne (by decide)] at he; rw [this] at he; cases he
          · rw [hdes 11 (by kernel_rfl)] at hR
            simp only [Bool.false_eq_true, if_false] at hR
            subst hR
            have f9 : a1.eval (.tmp 9) = .pointer (some ⟨g, 0, none⟩) := hout 9 (by decide)
            refine stepIn_val (by intro c h; cases h) (by intro c h; cases h) (v := .pointer (some ⟨g, 1, none⟩)) (w' := A.drew) (by simp [execOp, f9, fldU1]) ⟨_, rfl, ?_, fun j u hu hV _ => ⟨hV, trivial, trivial⟩, rfl⟩
            rw [if_neg]
            intro he; have := hdes 11 (by kernel_rfl); rw [getD_set_ne (by decide)] at he; rw [this] at he; cases he
          · rw [hdes 11 (by kernel_rfl)] at hR
            simp only [Bool.false_eq_true, if_false] at hR
            subst hR
            have e39 : a1.eval (.tmp 39) = .pointer (some ⟨g, 1, none⟩) := hdep ⟨2, .data⟩ (by simp) rfl _ rfl
            refine stepIn_val (by intro c h; cases h) (by intro c h; cases h) (v := .int .i64 (sym : Nat)) (w' := A.drew) (by simp [execOp, e39, ldInt _ _ _ g1]) ⟨_, rfl, ?_, fun j u hu hV _ => ⟨hV, trivial, trivial⟩, rfl⟩
            rw [if_neg]
            intro he; have := hdes 11 (by kernel_rfl); rw [getD_set_ne (by decide)] at he; rw [this] at he; cases he
          · rw [hdes 11 (by kernel_rfl)] at hR
            simp only [Bool.false_eq_true, if_false] at hR
            subst hR
            have e38 : a1.eval (.tmp 38) = .slice (some ⟨b, off, none⟩) f.length c1 := hdep ⟨1, .data⟩ (by simp) rfl _ rfl
            have e40 : a1.eval (.tmp 40) = .int .i64 (sym : Nat) := hdep ⟨3, .data⟩ (by simp) rfl _ rfl
            refine stepIn_val (by intro c h; cases h) (by intro c h; cases h) (v := .pointer (some ⟨b, off + sym, none⟩)) (w' := A.drew) (by simp [execOp, e38, e40, ixU8 b off sym _ _ hs]) ⟨_, rfl, ?_, fun j u hu hV _ => ⟨hV, trivial, trivial⟩, rfl⟩
            rw [if_neg]
            intro he; have := hdes 11 (by kernel_rfl); rw [getD_set_ne (by decide)] at he; rw [this] at he; cases he
          · rw [hdes 11 (by kernel_rfl)] at hR
            simp only [Bool.false_eq_true, if_false] at hR
            subst hR
            have e41 : a1.eval (.tmp 41) = .pointer (some ⟨b, off + sym, none⟩) := hdep ⟨4, .data⟩ (by simp) rfl _ rfl
            refine stepIn_val (by intro c h; cases h) (by intro c h; cases h) (v := .int .u8 (x : Nat)) (w' := A.drew) (by simp [execOp, e41, ldU8 _ _ _ hck]) ⟨_, rfl, ?_, fun j u hu hV _ => ⟨hV, trivial, trivial⟩, rfl⟩
            rw [if_neg]
            intro he; have := hdes 11 (by kernel_rfl); rw [getD_set_ne (by decide)] at he; rw [this] at he; cases he
          · rw [hdes 11 (by kernel_rfl)] at hR
            simp only [Bool.false_eq_true, if_false] at hR
            subst hR
            have e42 : a1.eval (.tmp 42) = .int .u8 (x : Nat) := hdep ⟨5, .data⟩ (by simp) rfl _ rfl
            refine stepIn_val (by intro c h; cases h) (by intro c h; cases h) (v := .int .i64 (x : Nat)) (w' := A.drew) (by simp [execOp, e42, cvU8 x hxl]) ⟨_, rfl, ?_, fun j u hu hV _ => ⟨hV, trivial, trivial⟩, rfl⟩
            rw [if_neg]
            intro he; have := hdes 11 (by kernel_rfl); rw [getD_set_ne (by decide)] at he; rw [this] at he; cases he
          · rw [hdes 11 (by kernel_rfl)] at hR
            simp only [Bool.false_eq_true, if_false] at hR
            subst hR
            have f9 : a1.eval (.tmp 9) = .pointer (some ⟨g, 0, none⟩) := hout 9 (by decide)
            refine stepIn_val (by intro c h; cases h) (by intro c h; cases h) (v := .pointer (some ⟨g, 2, none⟩)) (w' := A.drew) (by simp [execOp, f9, fldU2]) ⟨_, rfl, ?_, fun j u hu hV _ => ⟨hV, trivial, trivial⟩, rfl⟩
            rw [if_neg]
            intro he; have := hdes 11 (by kernel_rfl); rw [getD_set_ne (by decide)] at he; rw [this] at he; cases he
          · rw [hdes 11 (by kernel_rfl)] at hR
            simp only [Bool.false_eq_true, if_false] at hR
            subst hR
            have e44 : a1.eval (.tmp 44) = .pointer (some ⟨g, 2, none⟩) := hdep ⟨7, .data⟩ (by simp) rfl _ rfl
            refine stepIn_val (by intro c h; cases h) (by intro c h; cases h) (v := .int .i64 (bits : Nat)) (w' := A.drew) (by simp [execOp, e44, ldInt _ _ _ g2]) ⟨_, rfl, ?_, fun j u hu hV _ => ⟨hV, trivial, trivial⟩, rfl⟩
            rw [if_neg]
            intro he; have := hdes 11 (by kernel_rfl); rw [getD_set_ne (by decide)] at he; rw [this] at he; cases he
          · rw [hdes 11 (by kernel_rfl)] at hR
            simp only [Bool.false_eq_true, if_false] at hR
            subst hR
            have e43 : a1.eval (.tmp 43) = .int .i64 (x : Nat) := hdep ⟨6, .data⟩ (by simp) rfl _ rfl
            have e45 : a1.eval (.tmp 45) = .int .i64 (bits : Nat) := hdep ⟨8, .data⟩ (by simp) rfl _ rfl
            refine stepIn_val (by intro c h; cases h) (by intro c h; cases h) (v := .int .i64 ((x + bits : Nat) : Int)) (w' := A.drew) (by simp [execOp, e43, e45, eqgA, addI, hw1]) ⟨_, rfl, ?_, fun j u hu hV _ => ⟨hV, trivial, trivial⟩, rfl⟩
            rw [if_neg]
            intro he; have := hdes 11 (by kernel_rfl); rw [getD_set_ne (by decide)] at he; rw [this] at he; cases he
          · rw [hdes 11 (by kernel_rfl)] at hR
            simp only [Bool.false_eq_true, if_false] at hR
            subst hR
            have e37 : a1.eval (.tmp 37) = .int .i64 (acc : Nat) := hdep ⟨0, .data⟩ (by simp) rfl _ rfl
            have e46 : a1.eval (.tmp 46) = .int .i64 ((x + bits : Nat) : Int) := hdep ⟨9, .data⟩ (by simp) rfl _ rfl
            refine stepIn_val (by intro c h; cases h) (by intro c h; cases h) (v := .int .i64 ((acc + (x + bits) : Nat) : Int)) (w' := A.drew) (by simp [execOp, e37, e46, eqgA, addI, hw2]) ⟨_, rfl, ?_, fun j u hu hV _ => ⟨hV, trivial, trivial⟩, rfl⟩
            rw [if_neg]
            intro he; have := hdes 11 (by kernel_rfl); rw [getD_set_ne (by decide)] at he; rw [this] at he; cases he
          · rw [hunf] at hR
            simp only [Bool.false_eq_true, if_false] at hR
            subst hR
            have f8 : a1.eval (.tmp 8) = .pointer (some ⟨w.heap.size + 1 + 1 + 1 + 1, 0, none⟩) := hout 8 (by decide)
            have e47 : a1.eval (.tmp 47) = .int .i64 ((acc + (x + bits) : Nat) : Int) := hdep ⟨10, .data⟩ (by simp) rfl _ rfl
            refine stepIn_skip (by intro c h; cases h) (by intro c h; cases h) (w' := A.drew.setCell ⟨w.heap.size + 1 + 1 + 1 + 1, 0, none⟩ (.int .i64 ((acc + (x + bits) : Nat) : Int))) (by simp only [execOp, f8, e47]; simp [stInt _ _ _ _ c4 d4]) ⟨undef, rfl, ?_, fun j u hu hV _ => ⟨hV, trivial, trivial⟩, trivial⟩
            rw [if_pos (set_getD_same hil)]
        · intro listed f w1 hR hall hV
          rw [if_pos (hall 11 (by decide))] at hR
          subst hR
          simp only [spread, List.contains_cons, List.contains_nil, Nat.reduceBEq, Bool.or_false, Bool.or_true, cond_true, cond_false, Nat.reduceAdd, Nat.zero_add]
          gi_wp2
          exact sym_norm2 HI.out _ _ HS.out H4.out (by have := HN.out; rw [HV.out] at this; exact this) (by omega)
    | true =>
      by_cases he : err = 0
      case neg =>
        have b0 : ((err : Int) != 0) = true := by simp; omega
        have HN := Lib.hid (ST1.out (.inl he))
        clear he
        gi_wp2
        exact sym_ret HI.out _ HN.out
      subst he
      by_cases hs : sym < o.length
      case neg =>
        have HN := Lib.hid (ST1.out (.inr (by show (if true then o else f).getD sym 0 = 0; simp [List.getElem?_eq_none (Nat.le_of_not_lt hs)])))
        have b1 : decide (o.length ≤ sym) = true := by simp; omega
        clear hs
        gi_wp2
        exact sym_ret HI.out _ HN.out
      have b1 : decide (o.length ≤ sym) = false := by simp; omega
      obtain ⟨b, off, rfl, hb, hck⟩ := r2.at hs
      have hx : o.getD sym 0 = o[sym] := by simp [hs]
      have hxl := HO.out _ (List.getElem_mem hs)
      by_cases hz : o[sym] = 0
      · have HN := Lib.hid (ST1.out (.inr (by show (if true then o else f).getD sym 0 = 0; simp [hs, hz])))
        rw [hz] at hck
        clear hz hx hxl
        gi_wp2
        exact sym_ret HI.out _ HN.out
      · have HN := Lib.hid (ST2.out rfl (by show (if true then o else f).getD sym 0 ≠ 0; simpa [hs] using hz))
        have HV : Hid (lensOf f o ⟨true, sym, bits, 0⟩ = o[sym]) := by show (if true then o else f).getD sym 0 = _; simp [hs]
        have b2 : ((o[sym] : Int) == 0) = false := by simp; omega
        clear hz hx
        generalize o[sym] = x at *
        gi_wp2
        have hw1 : IntKind.i64.wrap ((x : Int) + (bits : Int)) = ((x + bits : Nat) : Int) := by rw [IntWalk.i64_in _ (by omega)]; simp
        have hw2 : IntKind.i64.wrap ((acc : Int) + ((x : Int) + (bits : Int))) = (acc : Int) + ((x : Int) + (bits : Int)) := IntWalk.i64_in _ (by omega)
        have c4 : A.drew.cell? ⟨w.heap.size + 1 + 1 + 1 + 1, 0, none⟩ = some (.int .i64 (acc : Nat)) := k4
        have d4 : A.drew.frozen? ⟨w.heap.size + 1 + 1 + 1 + 1, 0, none⟩ = false := z4
        replace g1 : A.drew.cell? ⟨g, 1, none⟩ = some (.int .i64 (sym : Nat)) := g1
        replace g2 : A.drew.cell? ⟨g, 2, none⟩ = some (.int .i64 (bits : Nat)) := g2
        replace hck : A.drew.cell? ⟨b, off + sym, none⟩ = some (.int .u8 (x : Nat)) := hck
        refine wpIn_region_flowL [37, 38, 39, 40, 41, 42, 43, 44, 45, 46, 47] (fun _ => false) (fun listed w1 => w1 = if listed.getD 11 false = true then A.drew.setCell ⟨w.heap.size + 1 + 1 + 1 + 1, 0, none⟩ (.int .i64 ((acc + (x + bits) : Nat) : Int)) else A.drew) (fun j v _ => match j with | 0 => v = .int .i64 (acc : Nat) | 1 => v = .slice (some ⟨b, off, none⟩) o.length c2 | 2 => v = .pointer (some ⟨g, 1, none⟩) | 3 => v = .int .i64 (sym : Nat) | 4 => v = .pointer (some ⟨b, off + sym, none⟩) | 5 => v = .int .u8 (x : Nat) | 6 => v = .int .i64 (x : Nat) | 7 => v = .pointer (some ⟨g, 2, none⟩) | 8 => v = .int .i64 (bits : Nat) | 9 => v = .int .i64 ((x + bits : Nat) : Int) | 10 => v = .int .i64 ((acc + (x + bits) : Nat) : Int) | _ => True) (fun _ _ _ _ => True) (by kernel_rfl) (by kernel_rfl) (OneEach.mk' (by kernel_rfl) (by kernel_rfl)) (by kernel_rfl) (by kernel_rfl) (by simp) ?_ ?_
        · intro i0 o hi0 listed a1 w1 hR hil hunf hdes hanc hout hdep
          have hsz : i0 < 12 := (Array.getElem?_eq_some_iff.1 hi0).1
          have hall : i0 = 0 ∨ i0 = 1 ∨ i0 = 2 ∨ i0 = 3 ∨ i0 = 4 ∨ i0 = 5 ∨ i0 = 6 ∨ i0 = 7 ∨ i0 = 8 ∨ i0 = 9 ∨ i0 = 10 ∨ i0 = 11 := by omega
          clear hsz
          rcases hall with rfl | rfl | rfl | rfl | rfl | rfl | rfl | rfl | rfl | rfl | rfl | rfl <;> simp only [List.getElem?_toArray, List.getElem?_cons_zero, List.getElem?_cons_succ, Option.some.injEq] at hi0 <;> subst hi0
          · rw [hdes 11 (by kernel_rfl)] at hR
            simp only [Bool.false_eq_true, if_false] at hR
            subst hR
            have f8 : a1.eval (.tmp 8) = .pointer (some ⟨w.heap.size + 1 + 1 + 1 + 1, 0, none⟩) := hout 8 (by decide)
            refine stepIn_val (by intro c h; cases h) (by intro c h; cases h) (v := .int .i64 (acc : Nat)) (w' := A.drew) (by simp [execOp, f8, ldInt _ _ _ c4]) ⟨_, rfl, ?_, fun j u hu hV _ => ⟨hV, trivial, trivial⟩, rfl⟩
            rw [if_neg]
            intro he; have := hdes 11 (by kernel_rfl); rw [getD_set_ne (by decide)] at he; rw [this] at he; cases he
          · rw [hdes 11 (by kernel_rfl)] at hR
            simp only [Bool.false_eq_true, if_false] at hR
            subst hR
            have f11 : a1.eval (.tmp 11) = .slice (some ⟨b, off, none⟩) o.length c2 := hout 11 (by decide)
            refine stepIn_val (by intro c h; cases h) (by intro c h; cases h) (v := .slice (some ⟨b, off, none⟩) o.length c2) (w' := A.drew) (by simp [execOp, f11]) ⟨_, rfl, ?_, fun j u hu hV _ => ⟨hV, trivial, trivial⟩, rfl⟩
            rw [if_neg]
            intro he; have := hdes 11 (by kernel_rfl); rw [getD_set_ne (by decide)] at he; rw [this] at he; cases he
          · rw [hdes 11 (by kernel_rfl)] at hR
            simp only [Bool.false_eq_true, if_false] at hR
            subst hR
            have f9 : a1.eval (.tmp 9) = .pointer (some ⟨g, 0, none⟩) := hout 9 (by decide)
            refine stepIn_val (by intro c h; cases h) (by intro c h; cases h) (v := .pointer (some ⟨g, 1, none⟩)) (w' := A.drew) (by simp [execOp, f9, fldU1]) ⟨_, rfl, ?_, fun j u hu hV _ => ⟨hV, trivial, trivial⟩, rfl⟩
            rw [if_neg]
            intro he; have := hdes 11 (by kernel_rfl); rw [getD_set_ne (by decide)] at he; rw [this] at he; cases he
          · rw [hdes 11 (by kernel_rfl)] at hR
            simp only [Bool.false_eq_true, if_false] at hR
            subst hR
            have e39 : a1.eval (.tmp 39) = .pointer (some ⟨g, 1, none⟩) := hdep ⟨2, .data⟩ (by simp) rfl _ rfl
            refine stepIn_val (by intro c h; cases h) (by intro c h; cases h) (v := .int .i64 (sym : Nat)) (w' := A.drew) (by simp [execOp, e39, ldInt _ _ _ g1]) ⟨_, rfl, ?_, fun j u hu hV _ => ⟨hV, trivial, trivial⟩, rfl⟩
            rw [if_neg]
            intro he; have := hdes 11 (by kernel_rfl); rw [getD_set_ne (by decide)] at he; rw [this] at he; cases he
          · rw [hdes 11 (by kernel_rfl)] at hR
            simp only [Bool.false_eq_true, if_false] at hR
            subst hR
            have e38 : a1.eval (.tmp 38) = .slice (some ⟨b, off, none⟩) o.length c2 := hdep ⟨1, .data⟩ (by simp) rfl _ rfl
            have e40 : a1.eval (.tmp 40) = .int .i64 (sym : Nat) := hdep ⟨3, .data⟩ (by simp) rfl _ rfl
            refine stepIn_val (by intro c h; cases h) (by intro c h; cases h) (v := .pointer (some ⟨b, off + sym, none⟩)) (w' := A.drew) (by simp [execOp, e38, e40, ixU8 b off sym _ _ hs]) ⟨_, rfl, ?_, fun j u hu hV _ => ⟨hV, trivial, trivial⟩, rfl⟩
            rw [if_neg]
            intro he; have := hdes 11 (by kernel_rfl); rw [getD_set_ne (by decide)] at he; rw [this] at he; cases he
          · rw [hdes 11 (by kernel_rfl)] at hR
            simp only [Bool.false_eq_true, if_false] at hR
            subst hR
            have e41 : a1.eval (.tmp 41) = .pointer (some ⟨b, off + sym, none⟩) := hdep ⟨4, .data⟩ (by simp) rfl _ rfl
            refine stepIn_val (by intro c h; cases h) (by intro c h; cases h) (v := .int .u8 (x : Nat)) (w' := A.drew) (by simp [execOp, e41, ldU8 _ _ _ hck]) ⟨_, rfl, ?_, fun j u hu hV _ => ⟨hV, trivial, trivial⟩, rfl⟩
            rw [if_neg]
            intro he; have := hdes 11 (by kernel_rfl); rw [getD_set_ne (by decide)] at he; rw [this] at he; cases he
          · rw [hdes 11 (by kernel_rfl)] at hR
            simp only [Bool.false_eq_true, if_false] at hR
            subst hR
            have e42 : a1.eval (.tmp 42) = .int .u8 (x : Nat) := hdep ⟨5, .data⟩ (by simp) rfl _ rfl
            refine stepIn_val (by intro c h; cases h) (by intro c h; cases h) (v := .int .i64 (x : Nat)) (w' := A.drew) (by simp [execOp, e42, cvU8 x hxl]) ⟨_, rfl, ?_, fun j u hu hV _ => ⟨hV, trivial, trivial⟩, rfl⟩
            rw [if_neg]
            intro he; have := hdes 11 (by kernel_rfl); rw [getD_set_ne (by decide)] at he; rw [this] at he; cases he
          · rw [hdes 11 (by kernel_rfl)] at hR
            simp only [Bool.false_eq_true, if_false] at hR
            subst hR
            have f9 : a1.eval (.tmp 9) = .pointer (some ⟨g, 0, none⟩) := hout 9 (by decide)
            refine stepIn_val (by intro c h; cases h) (by intro c h; cases h) (v := .pointer (some ⟨g, 2, none⟩)) (w' := A.drew) (by simp [execOp, f9, fldU2]) ⟨_, rfl, ?_, fun j u hu hV _ => ⟨hV, trivial, trivial⟩, rfl⟩
            rw [if_neg]
            intro he; have := hdes 11 (by kernel_rfl); rw [getD_set_ne (by decide)] at he; rw [this] at he; cases he
          · rw [hdes 11 (by kernel_rfl)] at hR
            simp only [Bool.false_eq_true, if_false] at hR
            subst hR
            have e44 : a1.eval (.tmp 44) = .pointer (some ⟨g, 2, none⟩) := hdep ⟨7, .data⟩ (by simp) rfl _ rfl
            refine stepIn_val (by intro c h; cases h) (by intro c h; cases h) (v := .int .i64 (bits : Nat)) (w' := A.drew) (by simp [execOp, e44, ldInt _ _ _ g2]) ⟨_, rfl, ?_, fun j u hu hV _ => ⟨hV, trivial, trivial⟩, rfl⟩
            rw [if_neg]
            intro he; have := hdes 11 (by kernel_rfl); rw [getD_set_ne (by decide)] at he; rw [this] at he; cases he
          · rw [hdes 11 (by kernel_rfl)] at hR
            simp only [Bool.false_eq_true, if_false] at hR
            subst hR
            have e43 : a1.eval (.tmp 43) = .int .i64 (x : Nat) := hdep ⟨6, .data⟩ (by simp) rfl _ rfl
            have e45 : a1.eval (.tmp 45) = .int .i64 (bits : Nat) := hdep ⟨8, .data⟩ (by simp) rfl _ rfl
            refine stepIn_val (by intro c h; cases h) (by intro c h; cases h) (v := .int .i64 ((x + bits : Nat) : Int)) (w' := A.drew) (by simp [execOp, e43, e45, eqgA, addI, hw1]) ⟨_, rfl, ?_, fun j u hu hV _ => ⟨hV, trivial, trivial⟩, rfl⟩
            rw [if_neg]
            intro he; have := hdes 11 (by kernel_rfl); rw [getD_set_ne (by decide)] at he; rw [this] at he; cases he
          · rw [hdes 11 (by kernel_rfl)] at hR
            simp only [Bool.false_eq_true, if_false] at hR
            subst hR
            have e37 : a1.eval (.tmp 37) = .int .i64 (acc : Nat) := hdep ⟨0, .data⟩ (by simp) rfl _ rfl
            have e46 : a1.eval (.tmp 46) = .int .i64 ((x + bits : Nat) : Int) := hdep ⟨9, .data⟩ (by simp) rfl _ rfl
            refine stepIn_val (by intro c h; cases h) (by intro c h; cases h) (v := .int .i64 ((acc + (x + bits) : Nat) : Int)) (w' := A.drew) (by simp [execOp, e37, e46, eqgA, addI, hw2]) ⟨_, rfl, ?_, fun j u hu hV _ => ⟨hV, trivial, trivial⟩, rfl⟩
            rw [if_neg]
            intro he; have := hdes 11 (by kernel_rfl); rw [getD_set_ne (by decide)] at he; rw [this] at he; cases he
          · rw [hunf] at hR
            simp only [Bool.false_eq_true, if_false] at hR
            subst hR
            have f8 : a1.eval (.tmp 8) = .pointer (some ⟨w.heap.size + 1 + 1 + 1 + 1, 0, none⟩) := hout 8 (by decide)
            have e47 : a1.eval (.tmp 47) = .int .i64 ((acc + (x + bits) : Nat) : Int) := hdep ⟨10, .data⟩ (by simp) rfl _ rfl
            refine stepIn_skip (by intro c h; cases h) (by intro c h; cases h) (w' := A.drew.setCell ⟨w.heap.size + 1 + 1 + 1 + 1, 0, none⟩ (.int .i64 ((acc + (x + bits) : Nat) : Int))) (by simp only [execOp, f8, e47]; simp [stInt _ _ _ _ c4 d4]) ⟨undef, rfl, ?_, fun j u hu hV _ => ⟨hV, trivial, trivial⟩, trivial⟩
            rw [if_pos (set_getD_same hil)]
        · intro listed f w1 hR hall hV
          rw [if_pos (hall 11 (by decide))] at hR
          subst hR
          simp only [spread, List.contains_cons, List.contains_nil, Nat.reduceBEq, Bool.or_false, Bool.or_true, cond_true, cond_false, Nat.reduceAdd, Nat.zero_add]
          gi_wp2
          exact sym_norm2 HI.out _ _ HS.out H4.out (by have := HN.out; rw [HV.out] at this; exact this) (by omega)
  case done =>
    rintro A ⟨b0, b1, b2, b3, ⟨acc, b4, hs, hle⟩, hbA⟩ hD
    have k2 := cell_of_one b2
    have z2 := free_of_one b2
    have k3 := cell_of_one b3
    have z3 := free_of_one b3
    have k4 := cell_of_one b4
    have hS : Hid (symOut f o l = (acc, 0)) := by
      unfold Hid symOut
      rw [List.take_length] at hs
      rw [hs]
    have B2 := Lib.hid b2
    have B3 := Lib.hid b3
    have HB := Lib.hid hbA
    have HD := Lib.hid hD
    clear b0 b1 b2 b3 b4 hs hbA hD
    gi_wp2
    have H2' : ((A.setCell ⟨w.heap.size + 1 + 1, 0, none⟩ (.int .i64 (acc : Nat))).setCell ⟨w.heap.size + 1 + 1 + 1, 0, none⟩ (.int .i64 0)).heap[w.heap.size + 1 + 1]? = some (.cells #[.int .i64 (acc : Nat)] 3) := (Below.heap_setCell _ _ _ _ (by show w.heap.size + 1 + 1 ≠ w.heap.size + 1 + 1 + 1; omega)).trans (one_setCell B2.out)
    have H3' : ((A.setCell ⟨w.heap.size + 1 + 1, 0, none⟩ (.int .i64 (acc : Nat))).setCell ⟨w.heap.size + 1 + 1 + 1, 0, none⟩ (.int .i64 0)).heap[w.heap.size + 1 + 1 + 1]? = some (.cells #[.int .i64 0] 24) := one_setCell ((Below.heap_setCell _ _ _ _ (by show w.heap.size + 1 + 1 + 1 ≠ w.heap.size + 1 + 1; omega)).trans B3.out)
    have HD' : ((A.setCell ⟨w.heap.size + 1 + 1, 0, none⟩ (.int .i64 (acc : Nat))).setCell ⟨w.heap.size + 1 + 1 + 1, 0, none⟩ (.int .i64 0)).heap[W0.heap.size]? = some (.deferred (some [])) := (Below.heap_setCell _ _ _ _ (by show W0.heap.size ≠ w.heap.size + 1 + 1 + 1; omega)).trans ((Below.heap_setCell _ _ _ _ (by show W0.heap.size ≠ w.heap.size + 1 + 1; omega)).trans HD.out)
    have q2 := (World.putObj_heap_other (w := ((A.setCell ⟨w.heap.size + 1 + 1, 0, none⟩ (.int .i64 (acc : Nat))).setCell ⟨w.heap.size + 1 + 1 + 1, 0, none⟩ (.int .i64 0))) (o := .deferred none) (by omega : w.heap.size + 1 + 1 ≠ W0.heap.size)).trans H2'
    have q3 := (World.putObj_heap_other (w := ((A.setCell ⟨w.heap.size + 1 + 1, 0, none⟩ (.int .i64 (acc : Nat))).setCell ⟨w.heap.size + 1 + 1 + 1, 0, none⟩ (.int .i64 0))) (o := .deferred none) (by omega : w.heap.size + 1 + 1 + 1 ≠ W0.heap.size)).trans H3'
    have s2 := cell_of_one q2
    have s3 := cell_of_one q3
    refine ⟨by simp, .inl ⟨_, _, rfl, run_takeDeferred HD', ?_⟩⟩
    refine ⟨.tuple #[.int .i64 (acc : Nat), .int .i64 0], by simp [results, Try.results11, s2, s3, go_sem], by rw [hS.out]; rfl, ?_⟩
    exact Below.put ((HB.out.setCell (by show w.heap.size ≤ w.heap.size + 1 + 1; omega) _).setCell (by show w.heap.size ≤ w.heap.size + 1 + 1 + 1; omega) _) (Nat.le_refl _) HD' (by omega) _
  case stop =>
    rintro c i A hi ⟨rfl, hn, b2, b3, hbA⟩ hD
    have hS : Hid (symOut f o l = (0, 5)) := by
      unfold Hid symOut
      rw [hn]
    gi_wp2
    have q2 := (World.putObj_heap_other (w := A) (o := .deferred none) (by omega : w.heap.size + 1 + 1 ≠ W0.heap.size)).trans b2
    have q3 := (World.putObj_heap_other (w := A) (o := .deferred none) (by omega : w.heap.size + 1 + 1 + 1 ≠ W0.heap.size)).trans b3
    have s2 := cell_of_one q2
    have s3 := cell_of_one q3
    refine ⟨by simp, .inl ⟨_, _, rfl, run_takeDeferred hD, ?_⟩⟩
    refine ⟨.tuple #[.int .i64 0, .int .i64 5], by simp [results, Try.results11, s2, s3, go_sem], by rw [hS.out]; rfl, ?_⟩
    exact Below.put hbA (Nat.le_refl _) hD (by omega) _
end Go.Proofs.Ytlofoocgiomfbaa
