/- cost.Symbols: contract. cost.Codes: contract. The reference of layer 17: Fixed: contract. Plain mathematics of layer 17: bits of stored blocks. -/
import Derived.Test.YtmgoeokdlklabaaC05
import Derived.Test.YtmgoeokdlklabaaC14
import Derived.Test.YtmgoeokdlklabaaC10
import Derived.Laws.EntriesVeiled
import Derived.Lib.Hide
namespace Go.Proofs.Ytmgoeokdlklabaa
open Go.RowKit Go.Shelf M08 M17
attribute [local go_sem] Oper.semAt_some
set_option linter.unusedVariables false
theorem five (w : World) (o1 o2 o3 o4 o5 o6 : Obj) : ((((((w.alloc o1).alloc o2).alloc o3).alloc o4).alloc o5).alloc o6).heap.size = w.heap.size + 6 ∧ ((((((w.alloc o1).alloc o2).alloc o3).alloc o4).alloc o5).alloc o6).heap[w.heap.size]? = some o1 ∧ ((((((w.alloc o1).alloc o2).alloc o3).alloc o4).alloc o5).alloc o6).heap[w.heap.size + 1]? = some o2 ∧
    ((((((w.alloc o1).alloc o2).alloc o3).alloc o4).alloc o5).alloc o6).heap[w.heap.size + 1 + 1]? = some o3 ∧ ((((((w.alloc o1).alloc o2).alloc o3).alloc o4).alloc o5).alloc o6).heap[w.heap.size + 1 + 1 + 1]? = some o4 ∧ ((((((w.alloc o1).alloc o2).alloc o3).alloc o4).alloc o5).alloc o6).heap[w.heap.size + 1 + 1 + 1 + 1]? = some o5 ∧
    ((((((w.alloc o1).alloc o2).alloc o3).alloc o4).alloc o5).alloc o6).heap[w.heap.size + 1 + 1 + 1 + 1 + 1]? = some o6 ∧ Below w.heap.size w ((((((w.alloc o1).alloc o2).alloc o3).alloc o4).alloc o5).alloc o6) := by
  obtain ⟨h0, h1, h2, h3, h4, hb⟩ := alloc4 w o1 o2 o3 o4
  generalize (((w.alloc o1).alloc o2).alloc o3).alloc o4 = W at *
  have e5 := World.alloc_heap_new W o5
  have e6 := World.alloc_heap_new (W.alloc o5) o6
  have hb2 : Below W.heap.size W ((W.alloc o5).alloc o6) := ((Below.refl _ W).alloc (Nat.le_refl _) _).alloc (by simp) _
  rw [World.size_alloc] at e6
  rw [h0] at e5 e6
  refine ⟨by simp [h0], (hb2.block _ (by omega)).trans h1, (hb2.block _ (by omega)).trans h2, (hb2.block _ (by omega)).trans h3, (hb2.block _ (by omega)).trans h4, ?_, e6, hb.trans (hb2.mono (by omega))⟩
  rw [Below.heap_alloc _ _ _ (by rw [World.size_alloc, h0]; omega)]; exact e5
def symAct (s0 s1 s2 s4 s5 s6 s7 s8 s12 s13 : Value) (g : Nat) (r : URow) : Act :=
  ⟨#[s0, s1, s2, undef, s4, s5, s6, s7, s8, .pointer (some ⟨g, 0, none⟩), .int .i64 (r.err : Nat), undef, s12, s13, .agg #[.bool r.far, .int .i64 (r.sym : Nat), .int .i64 (r.bits : Nat)], .int .i64 (r.err : Nat), undef, undef, undef, undef, undef, undef, undef, undef, undef, undef, undef, undef, undef, undef, undef, undef, undef, undef, undef, undef, undef, undef, undef, undef, undef, undef, undef, undef, undef, undef, undef, undef, undef], []⟩
structure SymI (w : World) (v1 v2 : Value) (f o : List Nat) (l : List Tok) (i : Nat) (A : World) : Prop where
  b0 : A.heap[w.heap.size]? = some (.cells #[v1] 22)
  b1 : A.heap[w.heap.size + 1]? = some (.cells #[v2] 22)
  b2 : A.heap[w.heap.size + 1 + 1]? = some (.cells #[.int .i64 0] 3)
  b3 : A.heap[w.heap.size + 1 + 1 + 1]? = some (.cells #[.int .i64 0] 25)
  b4 : ∃ acc : Nat, A.heap[w.heap.size + 1 + 1 + 1 + 1]? = some (.cells #[.int .i64 (acc : Nat)] 3) ∧ symU f o ((useU l).take i) 0 = some acc ∧ acc ≤ i * 1000
  bel : Below w.heap.size w A
structure SymX (w : World) (f o : List Nat) (l : List Tok) (A : World) : Prop where
  none : symU f o (useU l) 0 = none
  b2 : A.heap[w.heap.size + 1 + 1]? = some (.cells #[.int .i64 0] 3)
  b3 : A.heap[w.heap.size + 1 + 1 + 1]? = some (.cells #[.int .i64 5] 25)
  bel : Below w.heap.size w A
section
variable {w : World} {v1 v2 : Value} {f o : List Nat} {l : List Tok} {i : Nat} {A B : World}
theorem SymI.only (h : SymI w v1 v2 f o l i A) (ho : Only (fun _ => False) A B) : SymI w v1 v2 f o l i B := by
  obtain ⟨acc, h4, h5, h6⟩ := h.b4
  exact ⟨box_only h.b0 ho id, box_only h.b1 ho id, box_only h.b2 ho id, box_only h.b3 ho id, ⟨acc, box_only h4 ho id, h5, h6⟩, Below.only h.bel ho (Nat.le_refl _) (fun _ h => h.elim)⟩
theorem SymI.put (h : SymI w v1 v2 f o l i A) {r : Nat} {ob : Obj} (h0 : w.heap.size ≤ r) (hro : A.heap[r]? = some ob) (hoc : ob.isCells = false) (o' : Obj) : SymI w v1 v2 f o l i (A.putObj r o') := by
  obtain ⟨acc, h4, h5, h6⟩ := h.b4
  exact ⟨box_put h.b0 hro hoc, box_put h.b1 hro hoc, box_put h.b2 hro hoc, box_put h.b3 hro hoc, ⟨acc, box_put h4 hro hoc, h5, h6⟩, Below.put h.bel (Nat.le_refl _) hro h0 _⟩
theorem SymX.only (h : SymX w f o l A) (ho : Only (fun _ => False) A B) : SymX w f o l B :=
  ⟨h.none, box_only h.b2 ho id, box_only h.b3 ho id, Below.only h.bel ho (Nat.le_refl _) (fun _ h => h.elim)⟩
theorem SymX.put (h : SymX w f o l A) {r : Nat} {ob : Obj} (h0 : w.heap.size ≤ r) (hro : A.heap[r]? = some ob) (hoc : ob.isCells = false) (o' : Obj) : SymX w f o l (A.putObj r o') :=
  ⟨h.none, box_put h.b2 hro hoc, box_put h.b3 hro hoc, Below.put h.bel (Nat.le_refl _) hro h0 _⟩
end
theorem sym_ret {w : World} {v1 v2 : Value} {f o : List Nat} {l : List Tok} {i : Nat} {A : World} (h : SymI w v1 v2 f o l i A) (N : Nat) (hn : symU f o (useU l) 0 = none) :
    KeepsFrom N A ((A.setCell ⟨w.heap.size + 1 + 1, 0, none⟩ (.int .i64 0)).setCell ⟨w.heap.size + 1 + 1 + 1, 0, none⟩ (.int .i64 5)) ∧ Code.ret = .ret ∧ SymX w f o l ((A.setCell ⟨w.heap.size + 1 + 1, 0, none⟩ (.int .i64 0)).setCell ⟨w.heap.size + 1 + 1 + 1, 0, none⟩ (.int .i64 5)) := by
  refine ⟨((KeepsOthers.setCell _ _ _).trans (KeepsOthers.setCell _ _ _)).from _, rfl, hn, ?_, ?_, (h.bel.setCell (by show w.heap.size ≤ w.heap.size + 1 + 1; omega) _).setCell (by show w.heap.size ≤ w.heap.size + 1 + 1 + 1; omega) _⟩
  · exact (Below.heap_setCell _ _ _ _ (by show w.heap.size + 1 + 1 ≠ w.heap.size + 1 + 1 + 1; omega)).trans (one_setCell h.b2)
  · exact one_setCell ((Below.heap_setCell _ _ _ _ (by show w.heap.size + 1 + 1 + 1 ≠ w.heap.size + 1 + 1; omega)).trans h.b3)
theorem sym_norm2 {w : World} {v1 v2 : Value} {f o : List Nat} {l : List Tok} {i : Nat} {A : World} (h : SymI w v1 v2 f o l i A) (N : Nat) (S : Nat → Prop) (hS : ∀ b, S b → b < A.heap.size ∧ b ≠ w.heap.size + 1 + 1 + 1 + 1) {acc acc' : Nat} (h4 : A.heap[w.heap.size + 1 + 1 + 1 + 1]? = some (.cells #[.int .i64 (acc : Nat)] 3))
    (hs : symU f o ((useU l).take (i + 1)) 0 = some acc') (hle : acc' ≤ (i + 1) * 1000) :
    KeepsFrom N A (A.drew.setCell ⟨w.heap.size + 1 + 1 + 1 + 1, 0, none⟩ (.int .i64 (acc' : Nat))) ∧ SameOn S A (A.drew.setCell ⟨w.heap.size + 1 + 1 + 1 + 1, 0, none⟩ (.int .i64 (acc' : Nat))) ∧ SymI w v1 v2 f o l (i + 1) (A.drew.setCell ⟨w.heap.size + 1 + 1 + 1 + 1, 0, none⟩ (.int .i64 (acc' : Nat))) := by
  have hk : KeepsOthers A (A.drew.setCell ⟨w.heap.size + 1 + 1 + 1 + 1, 0, none⟩ (.int .i64 (acc' : Nat))) := ⟨by simp [World.setCell], fun k o ho hoc => (KeepsOthers.setCell A.drew ⟨w.heap.size + 1 + 1 + 1 + 1, 0, none⟩ (.int .i64 (acc' : Nat))).same k o ho hoc⟩
  refine ⟨hk.from _, ((Only.refl (fun b => b = w.heap.size + 1 + 1 + 1 + 1) A).drew.setCell (.inl rfl) _).sameOn hS, ?_⟩
  have ne : ∀ k, k ≠ w.heap.size + 1 + 1 + 1 + 1 → (A.drew.setCell ⟨w.heap.size + 1 + 1 + 1 + 1, 0, none⟩ (.int .i64 (acc' : Nat))).heap[k]? = A.heap[k]? := fun k hk => Below.heap_setCell A.drew _ _ _ hk
  exact ⟨(ne _ (by omega)).trans h.b0, (ne _ (by omega)).trans h.b1, (ne _ (by omega)).trans h.b2, (ne _ (by omega)).trans h.b3, ⟨acc', one_setCell (w := A.drew) h4, hs, hle⟩, (belDN h.bel 1).setCell (by show w.heap.size ≤ w.heap.size + 1 + 1 + 1 + 1; omega) _⟩
theorem fldU1 (R : Nat) (w : World) : (Instr.fieldAt 112 (.pointer (some ⟨R, 0, none⟩)) 1).run Try.prog w = .ok (.pointer (some ⟨R, 1, none⟩)) w := by kernel_rfl
theorem fldU2 (R : Nat) (w : World) : (Instr.fieldAt 112 (.pointer (some ⟨R, 0, none⟩)) 2).run Try.prog w = .ok (.pointer (some ⟨R, 2, none⟩)) w := by kernel_rfl
theorem ixU8 (b off k N c : Nat) (h : k < N) (w : World) : (Instr.indexAt 22 (.slice (some ⟨b, off, none⟩) N c) (.int .i64 (k : Nat))).run Try.prog w = .ok (.pointer (some ⟨b, off + k, none⟩)) w := by
  simp [Instr.indexAt, asIntOf, run_underlying Try.underlying22, h, go_sem]
theorem ldU8 (p : Addr) (v : Value) (w : World) (h : w.cell? p = some v) : (Instr.loadAt 5 (.pointer (some p))).run Try.prog w = .ok v w := by
  simp [Instr.loadAt, Instr.sureAddr, loadVar, isAgg, run_underlying Try.underlying5, h, go_sem]
theorem cvU8 (x : Nat) (h : x ≤ 255) (w : World) : (convert 5 3 (.int .u8 (x : Nat))).run Try.prog w = .ok (.int .i64 (x : Nat)) w := by
  have hx : IntKind.i64.wrap (x : Int) = x := IntWalk.i64_in _ (by omega)
  simp [convert, run_underlying Try.underlying5, run_underlying Try.underlying3, Conv.intToInt, hx, go_sem]
theorem getD_set_ne {l : Array Bool} {i k : Nat} (h : i ≠ k) : (l.setIfInBounds i true).getD k false = l.getD k false := by
  simp [Array.getElem?_setIfInBounds_ne h]
theorem sym_step {f o : List Nat} {l : List Tok} {i acc : Nat} (hi : i < (useU l).length) (h : symU f o ((useU l).take i) 0 = some acc) :
    ((useU l)[i].err ≠ 0 ∨ lensOf f o (useU l)[i] = 0 → symU f o (useU l) 0 = none) ∧
    ((useU l)[i].err = 0 → lensOf f o (useU l)[i] ≠ 0 → symU f o ((useU l).take (i + 1)) 0 = some (acc + (lensOf f o (useU l)[i] + (useU l)[i].bits))) := by
  constructor
  · intro hc
    have e : useU l = (useU l).take i ++ (useU l)[i] :: (useU l).drop (i + 1) := by rw [← List.drop_eq_getElem_cons hi, List.take_append_drop]
    rw [e, symU_app, h]
    simp only [Option.bind_some, symU]
    rw [if_pos hc]
  · intro h1 h2
    rw [List.take_succ_eq_append_getElem hi, symU_app, h]
    simp only [Option.bind_some, symU]
    rw [if_neg (by simp [h1, h2])]
theorem bits_le (l : List Tok) : ∀ r ∈ useU l, r.bits ≤ 100 := by
  have hl : ∀ n, lbits (257 + lk n) ≤ 100 := fun n => by
    have h : lk n < 29 := lastLe_lt n (by decide)
    generalize lk n = k at *
    unfold lbits; split <;> omega
  have hd : ∀ n, dbits (dk n) ≤ 100 := fun n => by
    have h := dk_lt n
    generalize dk n = k at *
    unfold dbits; split <;> omega
  have ht : ∀ t : Tok, ∀ r ∈ tokU t, r.bits ≤ 100 := by
    intro t r hr
    unfold tokU at hr
    split at hr
    · simp at hr; subst hr; simp
    · split at hr
      · simp at hr
        rcases hr with rfl | rfl
        · exact hl _
        · exact hd _
      · simp at hr; subst hr
        show (if _ then _ else _) ≤ 100
        split
        · exact hl _
        · omega
  induction l with
  | nil => intro r hr; simp [useU] at hr; subst hr; decide
  | cons t l ih =>
    intro r hr
    simp only [useU] at hr
    split at hr
    · rcases List.mem_append.1 hr with hr | hr
      · exact ht t r hr
      · exact ih r hr
    · exact ht t r hr
set_option maxRecDepth 100000 in
set_option maxHeartbeats 1600000 in
theorem cost_symbols (a a1 a2 : Option Addr) (cap c1 c2 : Nat) (l : List Tok) (f o : List Nat) (w : World) (hl : l.length ≤ 1000) (hby : ∀ t ∈ l, t.byte < 256) (hr : RowS encT w a cap l) (h1 : RowN .u8 w a1 c1 f) (h2 : RowN .u8 w a2 c2 o) (hf : ∀ x ∈ f, x ≤ 255) (ho : ∀ x ∈ o, x ≤ 255) :
    Calls Try.prog 30 #[.slice a l.length cap, .slice a1 f.length c1, .slice a2 o.length c2] w fun e w' => e = .returned (.tuple #[.int .i64 ((symOut f o l).1 : Nat), .int .i64 ((symOut f o l).2 : Nat)]) ∧ Below w.heap.size w w' := by
  have HF := Lib.hid hf
  have HO := Lib.hid ho
  have HBY := Lib.hid hby
  clear hf ho hby
  refine (callsIn_wide (n := 9)).1 ?_
  refine callsIn_of_wp_marks Try.func30 rfl trivial ?_ rfl
  simp only [Try.ntmps30, List.size_toArray, List.length_cons, List.length_nil, Nat.reduceAdd, Nat.reduceSub, Array.replicate_succ, Array.replicate_zero, List.push_toArray, List.append_toArray, List.nil_append, List.cons_append]
  gi_wp2_with (refine ⟨trivial, ?_⟩; gi_at_call 63; refine (callsIn_wide.2 (cost_uses _ _ _ _)).mono ?_; rintro e w' ⟨rfl, rfl⟩)
  obtain ⟨hz, hb0, hb1, hb2, hb3, hb4, hb5, hbel⟩ := five w (.cells #[.slice a1 f.length c1] 22) (.cells #[.slice a2 o.length c2] 22) (.cells #[.int .i64 0] 3) (.cells #[.int .i64 0] 25) (.cells #[.int .i64 0] 3) (.cells #[.slice a l.length cap] 57)
  generalize (((((w.alloc (Obj.cells #[.slice a1 f.length c1] 22)).alloc (.cells #[.slice a2 o.length c2] 22)).alloc (.cells #[.int .i64 0] 3)).alloc (.cells #[.int .i64 0] 25)).alloc (.cells #[.int .i64 0] 3)).alloc (.cells #[.slice a l.length cap] 57) = W0 at *
  have hr4 : RowS encT W0 a cap l := hr.below hbel
  refine range_law2 (g := .tmp 13) (gf := 96) (lb := #[.pointer (some ⟨w.heap.size + 1 + 1 + 1 + 1 + 1, 0, none⟩)]) rfl (enters_of Try.func96 (by kernel_rfl) rfl)
    (uses_yields a cap l W0 (w.heap.size + 1 + 1 + 1 + 1 + 1) (by omega) HBY.out hr4 hb5) (SameOn.refl _ _) ?hS (fun _ h => h.elim) (fun _ => rfl)
    (SymI w (.slice a1 f.length c1) (.slice a2 o.length c2) f o l)
    (fun c _ A => c = .ret ∧ SymX w f o l A) (fun _ _ _ h ho => h.only ho) (fun _ _ _ _ o' h h0 h1 h2 => h.put (by omega) h1 h2 o') (fun _ _ _ _ h ho => ⟨h.1, h.2.only ho⟩) (fun _ _ _ _ _ o' h h0 h1 h2 => ⟨h.1, h.2.put (by omega) h1 h2 o'⟩) ?h0
    (fun i a' A => SymI w (.slice a1 f.length c1) (.slice a2 o.length c2) f o l i A ∧ ∃ (g : Nat) (r : URow), (useU l)[i]? = some r ∧ A.heap[g]? = some (.cells #[.bool r.far, .int .i64 (r.sym : Nat), .int .i64 (r.bits : Nat)] 112) ∧
      a' = symAct (.slice a l.length cap) (.slice a1 f.length c1) (.slice a2 o.length c2) (.pointer (some ⟨w.heap.size, 0, none⟩)) (.pointer (some ⟨w.heap.size + 1, 0, none⟩)) (.pointer (some ⟨w.heap.size + 1 + 1, 0, none⟩)) (.pointer (some ⟨w.heap.size + 1 + 1 + 1, 0, none⟩)) (.pointer (some ⟨w.heap.size + 1 + 1 + 1 + 1, 0, none⟩)) (.slice a l.length cap)
        (.func (.func 96) #[] #[.pointer (some ⟨w.heap.size + 1 + 1 + 1 + 1 + 1, 0, none⟩)]) g r) ?hAp ?assign ?body ?done ?stop
  case hS =>
    rintro b (rfl | ⟨h0, x, hx, rfl⟩)
    · omega
    · obtain ⟨b', off, he, hlt, _⟩ := hr4.at h0
      rw [hx] at he
      cases he
      exact hlt
  case h0 => exact ⟨hb0, hb1, hb2, hb3, ⟨0, hb4, by simp [symU], by omega⟩, hbel⟩
  case hAp =>
    rintro i a' A r ob o' ⟨h, g, u, hu, hg, ha⟩ h0 h1 h2
    exact ⟨h.put (by omega) h1 h2 o', g, u, hu, box_put hg h1 h2, ha⟩
  case assign =>
    rintro y i W K hi hsz hI hK
    obtain ⟨r, hr0⟩ : ∃ r, (useU l)[i]? = some r := ⟨_, List.getElem?_eq_getElem hi⟩
    obtain ⟨-, hrow⟩ := useRow_at hr0
    rw [hrow]
    have HK := Lib.hid hK
    have HI := Lib.hid hI
    have HI0 := Lib.hid hr0
    clear hK hrow hI hr0 hi
    gi_wp2
    have hb : Below W.heap.size W (W.alloc (.cells #[.bool r.far, .int .i64 (r.sym : Nat), .int .i64 (r.bits : Nat)] 112)) := box_below _ _
    refine HK.out _ _ (KeepsFrom.of_grownBy (row := none) ⟨hb.os, hb.tape, hb.output, hb.size, fun k hk _ => hb.block k hk⟩ (fun j e => by cases e)) (((Only.refl (fun _ => False) _).alloc _).sameOn ?_) ⟨HI.out.only ((Only.refl _ _).alloc _), W.heap.size, r, HI0.out, World.alloc_heap_new _ _, rfl⟩
    intro b hb
    refine ⟨?_, id⟩
    rcases hb with rfl | ⟨h0, x, hx, rfl⟩
    · omega
    · obtain ⟨b', off, he, hlt, _⟩ := hr4.at h0
      rw [hx] at he
      cases he
      show b' < _
      omega
  case body =>
    rintro y i hi a' A hsz ⟨hI, g, r, hri, hg, rfl⟩
    unfold symAct
    have hir : (useU l)[i] = r := by rw [List.getElem?_eq_getElem hi] at hri; exact Option.some.inj hri
    obtain ⟨acc, h4, h5, h6⟩ := hI.b4
    obtain ⟨st1, st2⟩ := sym_step hi h5
    rw [hir] at st1 st2
    have hbits := bits_le l r (by rw [← hir]; exact List.getElem_mem hi)
    have hil : i ≤ 2001 := by have := useU_len l; omega
    have r1 := h1.below hI.bel
    have r2 := h2.below hI.bel
    have k0 := cell_of_one hI.b0
    have k1 := cell_of_one hI.b1
    have k2 := cell_of_one hI.b2
    have z2 := free_of_one hI.b2
    have k3 := cell_of_one hI.b3
    have z3 := free_of_one hI.b3
    have k4 := cell_of_one h4
    have z4 := free_of_one h4
    obtain ⟨g0, g1, g2⟩ := cells3 hg
    obtain ⟨far, sym, bits, err⟩ := r
    have HS : Hid (∀ b, useS a (w.heap.size + 1 + 1 + 1 + 1 + 1) l b → b < A.heap.size ∧ b ≠ w.heap.size + 1 + 1 + 1 + 1) := by
      intro b hb
      rcases hb with rfl | ⟨h0, x, hx, rfl⟩
      · exact ⟨by omega, by omega⟩
      · obtain ⟨b', off, he, hlt, _⟩ := hr.at h0
        rw [hx] at he
        cases he
        show b' < _ ∧ b' ≠ _
        exact ⟨by omega, by omega⟩
    have ST1 := Lib.hid st1
    have ST2 := Lib.hid st2
    have HI := Lib.hid hI
    have H4 := Lib.hid h4
    clear st1 st2 hI h4 h5 hri hir hg hb0 hb1 hb2 hb3 hb4 hb5 hr4
    simp only at g0 g1 g2 hbits ⊢
    have hlf := h1.len
    have hlo := h2.len
    cases far with
    | false =>
      by_cases he : err = 0
      case neg =>
        have b0 : ((err : Int) != 0) = true := by simp; omega
        have HN := Lib.hid (ST1.out (.inl he))
        clear he
        gi_wp2
        exact sym_ret HI.out _ HN.out
      subst he
      by_cases hs : sym < f.length
      case neg =>
        have HN := Lib.hid (ST1.out (.inr (by show (if false then o else f).getD sym 0 = 0; simp [List.getElem?_eq_none (Nat.le_of_not_lt hs)])))
        have b1 : decide (f.length ≤ sym) = true := by simp; omega
        clear hs
        gi_wp2
        exact sym_ret HI.out _ HN.out
      have b1 : decide (f.length ≤ sym) = false := by simp; omega
      obtain ⟨b, off, rfl, hb, hck⟩ := r1.at hs
      have hx : f.getD sym 0 = f[sym] := by simp [hs]
      have hxl := HF.out _ (List.getElem_mem hs)
      by_cases hz : f[sym] = 0
      · have HN := Lib.hid (ST1.out (.inr (by show (if false then o else f).getD sym 0 = 0; simp [hs, hz])))
        rw [hz] at hck
        clear hz hx hxl
        gi_wp2
        exact sym_ret HI.out _ HN.out
      · have HN := Lib.hid (ST2.out rfl (by show (if false then o else f).getD sym 0 ≠ 0; simpa [hs] using hz))
        have HV : Hid (lensOf f o ⟨false, sym, bits, 0⟩ = f[sym]) := by show (if false then o else f).getD sym 0 = _; simp [hs]
        have b2 : ((f[sym] : Int) == 0) = false := by simp; omega
        clear hz hx
        generalize f[sym] = x at *
        gi_wp2
        have hw1 : IntKind.i64.wrap ((x : Int) + (bits : Int)) = ((x + bits : Nat) : Int) := by rw [IntWalk.i64_in _ (by omega)]; simp
        have hw2 : IntKind.i64.wrap ((acc : Int) + ((x : Int) + (bits : Int))) = (acc : Int) + ((x : Int) + (bits : Int)) := IntWalk.i64_in _ (by omega)
        have c4 : A.drew.cell? ⟨w.heap.size + 1 + 1 + 1 + 1, 0, none⟩ = some (.int .i64 (acc : Nat)) := k4
        have d4 : A.drew.frozen? ⟨w.heap.size + 1 + 1 + 1 + 1, 0, none⟩ = false := z4
        replace g1 : A.drew.cell? ⟨g, 1, none⟩ = some (.int .i64 (sym : Nat)) := g1
        replace g2 : A.drew.cell? ⟨g, 2, none⟩ = some (.int .i64 (bits : Nat)) := g2
        replace hck : A.drew.cell? ⟨b, off + sym, none⟩ = some (.int .u8 (x : Nat)) := hck
        refine wpIn_region_flowL [37, 38, 39, 40, 41, 42, 43, 44, 45, 46, 47] (fun _ => false) (fun listed w1 => w1 = if listed.getD 11 false = true then A.drew.setCell ⟨w.heap.size + 1 + 1 + 1 + 1, 0, none⟩ (.int .i64 ((acc + (x + bits) : Nat) : Int)) else A.drew) (fun j v _ => match j with | 0 => v = .int .i64 (acc : Nat) | 1 => v = .slice (some ⟨b, off, none⟩) f.length c1 | 2 => v = .pointer (some ⟨g, 1, none⟩) | 3 => v = .int .i64 (sym : Nat) | 4 => v = .pointer (some ⟨b, off + sym, none⟩) | 5 => v = .int .u8 (x : Nat) | 6 => v = .int .i64 (x : Nat) | 7 => v = .pointer (some ⟨g, 2, none⟩) | 8 => v = .int .i64 (bits : Nat) | 9 => v = .int .i64 ((x + bits : Nat) : Int) | 10 => v = .int .i64 ((acc + (x + bits) : Nat) : Int) | _ => True) (fun _ _ _ _ => True) (by kernel_rfl) (by kernel_rfl) (OneEach.mk' (by kernel_rfl) (by kernel_rfl)) (by kernel_rfl) (by kernel_rfl) (by simp) ?_ ?_
        · intro i0 o hi0 listed a1 w1 hR hil hunf hdes hanc hout hdep
          have hsz : i0 < 12 := (Array.getElem?_eq_some_iff.1 hi0).1
          have hall : i0 = 0 ∨ i0 = 1 ∨ i0 = 2 ∨ i0 = 3 ∨ i0 = 4 ∨ i0 = 5 ∨ i0 = 6 ∨ i0 = 7 ∨ i0 = 8 ∨ i0 = 9 ∨ i0 = 10 ∨ i0 = 11 := by omega
          clear hsz
          rcases hall with rfl | rfl | rfl | rfl | rfl | rfl | rfl | rfl | rfl | rfl | rfl | rfl <;> simp only [List.getElem?_toArray, List.getElem?_cons_zero, List.getElem?_cons_succ, Option.some.injEq] at hi0 <;> subst hi0
          · rw [hdes 11 (by kernel_rfl)] at hR
            simp only [Bool.false_eq_true, if_false] at hR
            subst hR
            have f8 : a1.eval (.tmp 8) = .pointer (some ⟨w.heap.size + 1 + 1 + 1 + 1, 0, none⟩) := hout 8 (by decide)
            refine stepIn_val (by intro c h; cases h) (by intro c h; cases h) (v := .int .i64 (acc : Nat)) (w' := A.drew) (by simp [execOp, f8, ldInt _ _ _ c4]) ⟨_, rfl, ?_, fun j u hu hV _ => ⟨hV, trivial, trivial⟩, rfl⟩
            rw [if_neg]
            intro he; have := hdes 11 (by kernel_rfl); rw [getD_set_ne (by decide)] at he; rw [this] at he; cases he
          · rw [hdes 11 (by kernel_rfl)] at hR
            simp only [Bool.false_eq_true, if_false] at hR
            subst hR
            have f11 : a1.eval (.tmp 11) = .slice (some ⟨b, off, none⟩) f.length c1 := hout 11 (by decide)
            refine stepIn_val (by intro c h; cases h) (by intro c h; cases h) (v := .slice (some ⟨b, off, none⟩) f.length c1) (w' := A.drew) (by simp [execOp, f11]) ⟨_, rfl, ?_, fun j u hu hV _ => ⟨hV, trivial, trivial⟩, rfl⟩
            rw [if_neg]
            intro he; have := hdes 11 (by kernel_rfl); rw [getD_set_ne (by decide)] at he; rw [this] at he; cases he
          · rw [hdes 11 (by kernel_rfl)] at hR
            simp only [Bool.false_eq_true, if_false] at hR
            subst hR
            have f9 : a1.eval (.tmp 9) = .pointer (some ⟨g, 0, none⟩) := hout 9 (by decide)
            refine stepIn_val (by intro c h; cases h) (by intro c h; cases h) (v := .pointer (some ⟨g, 1, none⟩)) (w' := A.drew) (by simp [execOp, f9, fldU1]) ⟨_, rfl, ?_, fun j u hu hV _ => ⟨hV, trivial, trivial⟩, rfl⟩
            rw [if_neg]
            intro he; have := hdes 11 (by kernel_rfl); rw [getD_set_ne (by decide)] at he; rw [this] at he; cases he
          · rw [hdes 11 (by kernel_rfl)] at hR
            simp only [Bool.false_eq_true, if_false] at hR
            subst hR
            have e39 : a1.eval (.tmp 39) = .pointer (some ⟨g, 1, none⟩) := hdep ⟨2, .data⟩ (by simp) rfl _ rfl
            refine stepIn_val (by intro c h; cases h) (by intro c h; cases h) (v := .int .i64 (sym : Nat)) (w' := A.drew) (by simp [execOp, e39, ldInt _ _ _ g1]) ⟨_, rfl, ?_, fun j u hu hV _ => ⟨hV, trivial, trivial⟩, rfl⟩
            rw [if_neg]
            intro he; have := hdes 11 (by kernel_rfl); rw [getD_set_ne (by decide)] at he; rw [this] at he; cases he
          · rw [hdes 11 (by kernel_rfl)] at hR
            simp only [Bool.false_eq_true, if_false] at hR
            subst hR
            have e38 : a1.eval (.tmp 38) = .slice (some ⟨b, off, none⟩) f.length c1 := hdep ⟨1, .data⟩ (by simp) rfl _ rfl
            have e40 : a1.eval (.tmp 40) = .int .i64 (sym : Nat) := hdep ⟨3, .data⟩ (by simp) rfl _ rfl
            refine stepIn_val (by intro c h; cases h) (by intro c h; cases h) (v := .pointer (some ⟨b, off + sym, none⟩)) (w' := A.drew) (by simp [execOp, e38, e40, ixU8 b off sym _ _ hs]) ⟨_, rfl, ?_, fun j u hu hV _ => ⟨hV, trivial, trivial⟩, rfl⟩
            rw [if_neg]
            intro he; have := hdes 11 (by kernel_rfl); rw [getD_set_ne (by decide)] at he; rw [this] at he; cases he
          · rw [hdes 11 (by kernel_rfl)] at hR
            simp only [Bool.false_eq_true, if_false] at hR
            subst hR
            have e41 : a1.eval (.tmp 41) = .pointer (some ⟨b, off + sym, none⟩) := hdep ⟨4, .data⟩ (by simp) rfl _ rfl
            refine stepIn_val (by intro c h; cases h) (by intro c h; cases h) (v := .int .u8 (x : Nat)) (w' := A.drew) (by simp [execOp, e41, ldU8 _ _ _ hck]) ⟨_, rfl, ?_, fun j u hu hV _ => ⟨hV, trivial, trivial⟩, rfl⟩
            rw [if_neg]
            intro he; have := hdes 11 (by kernel_rfl); rw [getD_set_ne (by decide)] at he; rw [this] at he; cases he
          · rw [hdes 11 (by kernel_rfl)] at hR
            simp only [Bool.false_eq_true, if_false] at hR
            subst hR
            have e42 : a1.eval (.tmp 42) = .int .u8 (x : Nat) := hdep ⟨5, .data⟩ (by simp) rfl _ rfl
            refine stepIn_val (by intro c h; cases h) (by intro c h; cases h) (v := .int .i64 (x : Nat)) (w' := A.drew) (by simp [execOp, e42, cvU8 x hxl]) ⟨_, rfl, ?_, fun j u hu hV _ => ⟨hV, trivial, trivial⟩, rfl⟩
            rw [if_neg]
            intro he; have := hdes 11 (by kernel_rfl); rw [getD_set_ne (by decide)] at he; rw [this] at he; cases he
          · rw [hdes 11 (by kernel_rfl)] at hR
            simp only [Bool.false_eq_true, if_false] at hR
            subst hR
            have f9 : a1.eval (.tmp 9) = .pointer (some ⟨g, 0, none⟩) := hout 9 (by decide)
            refine stepIn_val (by intro c h; cases h) (by intro c h; cases h) (v := .pointer (some ⟨g, 2, none⟩)) (w' := A.drew) (by simp [execOp, f9, fldU2]) ⟨_, rfl, ?_, fun j u hu hV _ => ⟨hV, trivial, trivial⟩, rfl⟩
            rw [if_neg]
            intro he; have := hdes 11 (by kernel_rfl); rw [getD_set_ne (by decide)] at he; rw [this] at he; cases he
          · rw [hdes 11 (by kernel_rfl)] at hR
            simp only [Bool.false_eq_true, if_false] at hR
            subst hR
            have e44 : a1.eval (.tmp 44) = .pointer (some ⟨g, 2, none⟩) := hdep ⟨7, .data⟩ (by simp) rfl _ rfl
            refine stepIn_val (by intro c h; cases h) (by intro c h; cases h) (v := .int .i64 (bits : Nat)) (w' := A.drew) (by simp [execOp, e44, ldInt _ _ _ g2]) ⟨_, rfl, ?_, fun j u hu hV _ => ⟨hV, trivial, trivial⟩, rfl⟩
            rw [if_neg]
            intro he; have := hdes 11 (by kernel_rfl); rw [getD_set_ne (by decide)] at he; rw [this] at he; cases he
          · rw [hdes 11 (by kernel_rfl)] at hR
            simp only [Bool.false_eq_true, if_false] at hR
            subst hR
            have e43 : a1.eval (.tmp 43) = .int .i64 (x : Nat) := hdep ⟨6, .data⟩ (by simp) rfl _ rfl
            have e45 : a1.eval (.tmp 45) = .int .i64 (bits : Nat) := hdep ⟨8, .data⟩ (by simp) rfl _ rfl
            refine stepIn_val (by intro c h; cases h) (by intro c h; cases h) (v := .int .i64 ((x + bits : Nat) : Int)) (w' := A.drew) (by simp [execOp, e43, e45, eqgA, addI, hw1]) ⟨_, rfl, ?_, fun j u hu hV _ => ⟨hV, trivial, trivial⟩, rfl⟩
            rw [if_neg]
            intro he; have := hdes 11 (by kernel_rfl); rw [getD_set_ne (by decide)] at he; rw [this] at he; cases he
          · rw [hdes 11 (by kernel_rfl)] at hR
            simp only [Bool.false_eq_true, if_false] at hR
            subst hR
            have e37 : a1.eval (.tmp 37) = .int .i64 (acc : Nat) := hdep ⟨0, .data⟩ (by simp) rfl _ rfl
            have e46 : a1.eval (.tmp 46) = .int .i64 ((x + bits : Nat) : Int) := hdep ⟨9, .data⟩ (by simp) rfl _ rfl
            refine stepIn_val (by intro c h; cases h) (by intro c h; cases h) (v := .int .i64 ((acc + (x + bits) : Nat) : Int)) (w' := A.drew) (by simp [execOp, e37, e46, eqgA, addI, hw2]) ⟨_, rfl, ?_, fun j u hu hV _ => ⟨hV, trivial, trivial⟩, rfl⟩
            rw [if_neg]
            intro he; have := hdes 11 (by kernel_rfl); rw [getD_set_ne (by decide)] at he; rw [this] at he; cases he
          · rw [hunf] at hR
            simp only [Bool.false_eq_true, if_false] at hR
            subst hR
            have f8 : a1.eval (.tmp 8) = .pointer (some ⟨w.heap.size + 1 + 1 + 1 + 1, 0, none⟩) := hout 8 (by decide)
            have e47 : a1.eval (.tmp 47) = .int .i64 ((acc + (x + bits) : Nat) : Int) := hdep ⟨10, .data⟩ (by simp) rfl _ rfl
            refine stepIn_skip (by intro c h; cases h) (by intro c h; cases h) (w' := A.drew.setCell ⟨w.heap.size + 1 + 1 + 1 + 1, 0, none⟩ (.int .i64 ((acc + (x + bits) : Nat) : Int))) (by simp only [execOp, f8, e47]; simp [stInt _ _ _ _ c4 d4]) ⟨undef, rfl, ?_, fun j u hu hV _ => ⟨hV, trivial, trivial⟩, trivial⟩
            rw [if_pos (set_getD_same hil)]
        · intro listed f w1 hR hall hV
          rw [if_pos (hall 11 (by decide))] at hR
          subst hR
          simp only [spread, List.contains_cons, List.contains_nil, Nat.reduceBEq, Bool.or_false, Bool.or_true, cond_true, cond_false, Nat.reduceAdd, Nat.zero_add]
          gi_wp2
          exact sym_norm2 HI.out _ _ HS.out H4.out (by have := HN.out; rw [HV.out] at this; exact this) (by omega)
    | true =>
      by_cases he : err = 0
      case neg =>
        have b0 : ((err : Int) != 0) = true := by simp; omega
        have HN := Lib.hid (ST1.out (.inl he))
        clear he
        gi_wp2
        exact sym_ret HI.out _ HN.out
      subst he
      by_cases hs : sym < o.length
      case neg =>
        have HN := Lib.hid (ST1.out (.inr (by show (if true then o else f).getD sym 0 = 0; simp [List.getElem?_eq_none (Nat.le_of_not_lt hs)])))
        have b1 : decide (o.length ≤ sym) = true := by simp; omega
        clear hs
        gi_wp2
        exact sym_ret HI.out _ HN.out
      have b1 : decide (o.length ≤ sym) = false := by simp; omega
      obtain ⟨b, off, rfl, hb, hck⟩ := r2.at hs
      have hx : o.getD sym 0 = o[sym] := by simp [hs]
      have hxl := HO.out _ (List.getElem_mem hs)
      by_cases hz : o[sym] = 0
      · have HN := Lib.hid (ST1.out (.inr (by show (if true then o else f).getD sym 0 = 0; simp [hs, hz])))
        rw [hz] at hck
        clear hz hx hxl
        gi_wp2
        exact sym_ret HI.out _ HN.out
      · have HN := Lib.hid (ST2.out rfl (by show (if true then o else f).getD sym 0 ≠ 0; simpa [hs] using hz))
        have HV : Hid (lensOf f o ⟨true, sym, bits, 0⟩ = o[sym]) := by show (if true then o else f).getD sym 0 = _; simp [hs]
        have b2 : ((o[sym] : Int) == 0) = false := by simp; omega
        clear hz hx
        generalize o[sym] = x at *
        gi_wp2
        have hw1 : IntKind.i64.wrap ((x : Int) + (bits : Int)) = ((x + bits : Nat) : Int) := by rw [IntWalk.i64_in _ (by omega)]; simp
        have hw2 : IntKind.i64.wrap ((acc : Int) + ((x : Int) + (bits : Int))) = (acc : Int) + ((x : Int) + (bits : Int)) := IntWalk.i64_in _ (by omega)
        have c4 : A.drew.cell? ⟨w.heap.size + 1 + 1 + 1 + 1, 0, none⟩ = some (.int .i64 (acc : Nat)) := k4
        have d4 : A.drew.frozen? ⟨w.heap.size + 1 + 1 + 1 + 1, 0, none⟩ = false := z4
        replace g1 : A.drew.cell? ⟨g, 1, none⟩ = some (.int .i64 (sym : Nat)) := g1
        replace g2 : A.drew.cell? ⟨g, 2, none⟩ = some (.int .i64 (bits : Nat)) := g2
        replace hck : A.drew.cell? ⟨b, off + sym, none⟩ = some (.int .u8 (x : Nat)) := hck
        refine wpIn_region_flowL [37, 38, 39, 40, 41, 42, 43, 44, 45, 46, 47] (fun _ => false) (fun listed w1 => w1 = if listed.getD 11 false = true then A.drew.setCell ⟨w.heap.size + 1 + 1 + 1 + 1, 0, none⟩ (.int .i64 ((acc + (x + bits) : Nat) : Int)) else A.drew) (fun j v _ => match j with | 0 => v = .int .i64 (acc : Nat) | 1 => v = .slice (some ⟨b, off, none⟩) o.length c2 | 2 => v = .pointer (some ⟨g, 1, none⟩) | 3 => v = .int .i64 (sym : Nat) | 4 => v = .pointer (some ⟨b, off + sym, none⟩) | 5 => v = .int .u8 (x : Nat) | 6 => v = .int .i64 (x : Nat) | 7 => v = .pointer (some ⟨g, 2, none⟩) | 8 => v = .int .i64 (bits : Nat) | 9 => v = .int .i64 ((x + bits : Nat) : Int) | 10 => v = .int .i64 ((acc + (x + bits) : Nat) : Int) | _ => True) (fun _ _ _ _ => True) (by kernel_rfl) (by kernel_rfl) (OneEach.mk' (by kernel_rfl) (by kernel_rfl)) (by kernel_rfl) (by kernel_rfl) (by simp) ?_ ?_
        · intro i0 o hi0 listed a1 w1 hR hil hunf hdes hanc hout hdep
          have hsz : i0 < 12 := (Array.getElem?_eq_some_iff.1 hi0).1
          have hall : i0 = 0 ∨ i0 = 1 ∨ i0 = 2 ∨ i0 = 3 ∨ i0 = 4 ∨ i0 = 5 ∨ i0 = 6 ∨ i0 = 7 ∨ i0 = 8 ∨ i0 = 9 ∨ i0 = 10 ∨ i0 = 11 := by omega
          clear hsz
          rcases hall with rfl | rfl | rfl | rfl | rfl | rfl | rfl | rfl | rfl | rfl | rfl | rfl <;> simp only [List.getElem?_toArray, List.getElem?_cons_zero, List.getElem?_cons_succ, Option.some.injEq] at hi0 <;> subst hi0
          · rw [hdes 11 (by kernel_rfl)] at hR
            simp only [Bool.false_eq_true, if_false] at hR
            subst hR
            have f8 : a1.eval (.tmp 8) = .pointer (some ⟨w.heap.size + 1 + 1 + 1 + 1, 0, none⟩) := hout 8 (by decide)
            refine stepIn_val (by intro c h; cases h) (by intro c h; cases h) (v := .int .i64 (acc : Nat)) (w' := A.drew) (by simp [execOp, f8, ldInt _ _ _ c4]) ⟨_, rfl, ?_, fun j u hu hV _ => ⟨hV, trivial, trivial⟩, rfl⟩
            rw [if_neg]
            intro he; have := hdes 11 (by kernel_rfl); rw [getD_set_ne (by decide)] at he; rw [this] at he; cases he
          · rw [hdes 11 (by kernel_rfl)] at hR
            simp only [Bool.false_eq_true, if_false] at hR
            subst hR
            have f11 : a1.eval (.tmp 11) = .slice (some ⟨b, off, none⟩) o.length c2 := hout 11 (by decide)
            refine stepIn_val (by intro c h; cases h) (by intro c h; cases h) (v := .slice (some ⟨b, off, none⟩) o.length c2) (w' := A.drew) (by simp [execOp, f11]) ⟨_, rfl, ?_, fun j u hu hV _ => ⟨hV, trivial, trivial⟩, rfl⟩
            rw [if_neg]
            intro he; have := hdes 11 (by kernel_rfl); rw [getD_set_ne (by decide)] at he; rw [this] at he; cases he
          · rw [hdes 11 (by kernel_rfl)] at hR
            simp only [Bool.false_eq_true, if_false] at hR
            subst hR
            have f9 : a1.eval (.tmp 9) = .pointer (some ⟨g, 0, none⟩) := hout 9 (by decide)
            refine stepIn_val (by intro c h; cases h) (by intro c h; cases h) (v := .pointer (some ⟨g, 1, none⟩)) (w' := A.drew) (by simp [execOp, f9, fldU1]) ⟨_, rfl, ?_, fun j u hu hV _ => ⟨hV, trivial, trivial⟩, rfl⟩
            rw [if_neg]
            intro he; have := hdes 11 (by kernel_rfl); rw [getD_set_ne (by decide)] at he; rw [this] at he; cases he
          · rw [hdes 11 (by kernel_rfl)] at hR
            simp only [Bool.false_eq_true, if_false] at hR
            subst hR
            have e39 : a1.eval (.tmp 39) = .pointer (some ⟨g, 1, none⟩) := hdep ⟨2, .data⟩ (by simp) rfl _ rfl
            refine stepIn_val (by intro c h; cases h) (by intro c h; cases h) (v := .int .i64 (sym : Nat)) (w' := A.drew) (by simp [execOp, e39, ldInt _ _ _ g1]) ⟨_, rfl, ?_, fun j u hu hV _ => ⟨hV, trivial, trivial⟩, rfl⟩
            rw [if_neg]
            intro he; have := hdes 11 (by kernel_rfl); rw [getD_set_ne (by decide)] at he; rw [this] at he; cases he
          · rw [hdes 11 (by kernel_rfl)] at hR
            simp only [Bool.false_eq_true, if_false] at hR
            subst hR
            have e38 : a1.eval (.tmp 38) = .slice (some ⟨b, off, none⟩) o.length c2 := hdep ⟨1, .data⟩ (by simp) rfl _ rfl
            have e40 : a1.eval (.tmp 40) = .int .i64 (sym : Nat) := hdep ⟨3, .data⟩ (by simp) rfl _ rfl
            refine stepIn_val (by intro c h; cases h) (by intro c h; cases h) (v := .pointer (some ⟨b, off + sym, none⟩)) (w' := A.drew) (by simp [execOp, e38, e40, ixU8 b off sym _ _ hs]) ⟨_, rfl, ?_, fun j u hu hV _ => ⟨hV, trivial, trivial⟩, rfl⟩
            rw [if_neg]
            intro he; have := hdes 11 (by kernel_rfl); rw [getD_set_ne (by decide)] at he; rw [this] at he; cases he
          · rw [hdes 11 (by kernel_rfl)] at hR
            simp only [Bool.false_eq_true, if_false] at hR
            subst hR
            have e41 : a1.eval (.tmp 41) = .pointer (some ⟨b, off + sym, none⟩) := hdep ⟨4, .data⟩ (by simp) rfl _ rfl
            refine stepIn_val (by intro c h; cases h) (by intro c h; cases h) (v := .int .u8 (x : Nat)) (w' := A.drew) (by simp [execOp, e41, ldU8 _ _ _ hck]) ⟨_, rfl, ?_, fun j u hu hV _ => ⟨hV, trivial, trivial⟩, rfl⟩
            rw [if_neg]
            intro he; have := hdes 11 (by kernel_rfl); rw [getD_set_ne (by decide)] at he; rw [this] at he; cases he
          · rw [hdes 11 (by kernel_rfl)] at hR
            simp only [Bool.false_eq_true, if_false] at hR
            subst hR
            have e42 : a1.eval (.tmp 42) = .int .u8 (x : Nat) := hdep ⟨5, .data⟩ (by simp) rfl _ rfl
            refine stepIn_val (by intro c h; cases h) (by intro c h; cases h) (v := .int .i64 (x : Nat)) (w' := A.drew) (by simp [execOp, e42, cvU8 x hxl]) ⟨_, rfl, ?_, fun j u hu hV _ => ⟨hV, trivial, trivial⟩, rfl⟩
            rw [if_neg]
            intro he; have := hdes 11 (by kernel_rfl); rw [getD_set_ne (by decide)] at he; rw [this] at he; cases he
          · rw [hdes 11 (by kernel_rfl)] at hR
            simp only [Bool.false_eq_true, if_false] at hR
            subst hR
            have f9 : a1.eval (.tmp 9) = .pointer (some ⟨g, 0, none⟩) := hout 9 (by decide)
            refine stepIn_val (by intro c h; cases h) (by intro c h; cases h) (v := .pointer (some ⟨g, 2, none⟩)) (w' := A.drew) (by simp [execOp, f9, fldU2]) ⟨_, rfl, ?_, fun j u hu hV _ => ⟨hV, trivial, trivial⟩, rfl⟩
            rw [if_neg]
            intro he; have := hdes 11 (by kernel_rfl); rw [getD_set_ne (by decide)] at he; rw [this] at he; cases he
          · rw [hdes 11 (by kernel_rfl)] at hR
            simp only [Bool.false_eq_true, if_false] at hR
            subst hR
            have e44 : a1.eval (.tmp 44) = .pointer (some ⟨g, 2, none⟩) := hdep ⟨7, .data⟩ (by simp) rfl _ rfl
            refine stepIn_val (by intro c h; cases h) (by intro c h; cases h) (v := .int .i64 (bits : Nat)) (w' := A.drew) (by simp [execOp, e44, ldInt _ _ _ g2]) ⟨_, rfl, ?_, fun j u hu hV _ => ⟨hV, trivial, trivial⟩, rfl⟩
            rw [if_neg]
            intro he; have := hdes 11 (by kernel_rfl); rw [getD_set_ne (by decide)] at he; rw [this] at he; cases he
          · rw [hdes 11 (by kernel_rfl)] at hR
            simp only [Bool.false_eq_true, if_false] at hR
            subst hR
            have e43 : a1.eval (.tmp 43) = .int .i64 (x : Nat) := hdep ⟨6, .data⟩ (by simp) rfl _ rfl
            have e45 : a1.eval (.tmp 45) = .int .i64 (bits : Nat) := hdep ⟨8, .data⟩ (by simp) rfl _ rfl
            refine stepIn_val (by intro c h; cases h) (by intro c h; cases h) (v := .int .i64 ((x + bits : Nat) : Int)) (w' := A.drew) (by simp [execOp, e43, e45, eqgA, addI, hw1]) ⟨_, rfl, ?_, fun j u hu hV _ => ⟨hV, trivial, trivial⟩, rfl⟩
            rw [if_neg]
            intro he; have := hdes 11 (by kernel_rfl); rw [getD_set_ne (by decide)] at he; rw [this] at he; cases he
          · rw [hdes 11 (by kernel_rfl)] at hR
            simp only [Bool.false_eq_true, if_false] at hR
            subst hR
            have e37 : a1.eval (.tmp 37) = .int .i64 (acc : Nat) := hdep ⟨0, .data⟩ (by simp) rfl _ rfl
            have e46 : a1.eval (.tmp 46) = .int .i64 ((x + bits : Nat) : Int) := hdep ⟨9, .data⟩ (by simp) rfl _ rfl
            refine stepIn_val (by intro c h; cases h) (by intro c h; cases h) (v := .int .i64 ((acc + (x + bits) : Nat) : Int)) (w' := A.drew) (by simp [execOp, e37, e46, eqgA, addI, hw2]) ⟨_, rfl, ?_, fun j u hu hV _ => ⟨hV, trivial, trivial⟩, rfl⟩
            rw [if_neg]
            intro he; have := hdes 11 (by kernel_rfl); rw [getD_set_ne (by decide)] at he; rw [this] at he; cases he
          · rw [hunf] at hR
            simp only [Bool.false_eq_true, if_false] at hR
            subst hR
            have f8 : a1.eval (.tmp 8) = .pointer (some ⟨w.heap.size + 1 + 1 + 1 + 1, 0, none⟩) := hout 8 (by decide)
            have e47 : a1.eval (.tmp 47) = .int .i64 ((acc + (x + bits) : Nat) : Int) := hdep ⟨10, .data⟩ (by simp) rfl _ rfl
            refine stepIn_skip (by intro c h; cases h) (by intro c h; cases h) (w' := A.drew.setCell ⟨w.heap.size + 1 + 1 + 1 + 1, 0, none⟩ (.int .i64 ((acc + (x + bits) : Nat) : Int))) (by simp only [execOp, f8, e47]; simp [stInt _ _ _ _ c4 d4]) ⟨undef, rfl, ?_, fun j u hu hV _ => ⟨hV, trivial, trivial⟩, trivial⟩
            rw [if_pos (set_getD_same hil)]
        · intro listed f w1 hR hall hV
          rw [if_pos (hall 11 (by decide))] at hR
          subst hR
          simp only [spread, List.contains_cons, List.contains_nil, Nat.reduceBEq, Bool.or_false, Bool.or_true, cond_true, cond_false, Nat.reduceAdd, Nat.zero_add]
          gi_wp2
          exact sym_norm2 HI.out _ _ HS.out H4.out (by have := HN.out; rw [HV.out] at this; exact this) (by omega)
  case done =>
    rintro A ⟨b0, b1, b2, b3, ⟨acc, b4, hs, hle⟩, hbA⟩ hD
    have k2 := cell_of_one b2
    have z2 := free_of_one b2
    have k3 := cell_of_one b3
    have z3 := free_of_one b3
    have k4 := cell_of_one b4
    have hS : Hid (symOut f o l = (acc, 0)) := by
      unfold Hid symOut
      rw [List.take_length] at hs
      rw [hs]
    have B2 := Lib.hid b2
    have B3 := Lib.hid b3
    have HB := Lib.hid hbA
    have HD := Lib.hid hD
    clear b0 b1 b2 b3 b4 hs hbA hD
    gi_wp2
    have H2' : ((A.setCell ⟨w.heap.size + 1 + 1, 0, none⟩ (.int .i64 (acc : Nat))).setCell ⟨w.heap.size + 1 + 1 + 1, 0, none⟩ (.int .i64 0)).heap[w.heap.size + 1 + 1]? = some (.cells #[.int .i64 (acc : Nat)] 3) := (Below.heap_setCell _ _ _ _ (by show w.heap.size + 1 + 1 ≠ w.heap.size + 1 + 1 + 1; omega)).trans (one_setCell B2.out)
    have H3' : ((A.setCell ⟨w.heap.size + 1 + 1, 0, none⟩ (.int .i64 (acc : Nat))).setCell ⟨w.heap.size + 1 + 1 + 1, 0, none⟩ (.int .i64 0)).heap[w.heap.size + 1 + 1 + 1]? = some (.cells #[.int .i64 0] 25) := one_setCell ((Below.heap_setCell _ _ _ _ (by show w.heap.size + 1 + 1 + 1 ≠ w.heap.size + 1 + 1; omega)).trans B3.out)
    have HD' : ((A.setCell ⟨w.heap.size + 1 + 1, 0, none⟩ (.int .i64 (acc : Nat))).setCell ⟨w.heap.size + 1 + 1 + 1, 0, none⟩ (.int .i64 0)).heap[W0.heap.size]? = some (.deferred (some [])) := (Below.heap_setCell _ _ _ _ (by show W0.heap.size ≠ w.heap.size + 1 + 1 + 1; omega)).trans ((Below.heap_setCell _ _ _ _ (by show W0.heap.size ≠ w.heap.size + 1 + 1; omega)).trans HD.out)
    have q2 := (World.putObj_heap_other (w := ((A.setCell ⟨w.heap.size + 1 + 1, 0, none⟩ (.int .i64 (acc : Nat))).setCell ⟨w.heap.size + 1 + 1 + 1, 0, none⟩ (.int .i64 0))) (o := .deferred none) (by omega : w.heap.size + 1 + 1 ≠ W0.heap.size)).trans H2'
    have q3 := (World.putObj_heap_other (w := ((A.setCell ⟨w.heap.size + 1 + 1, 0, none⟩ (.int .i64 (acc : Nat))).setCell ⟨w.heap.size + 1 + 1 + 1, 0, none⟩ (.int .i64 0))) (o := .deferred none) (by omega : w.heap.size + 1 + 1 + 1 ≠ W0.heap.size)).trans H3'
    have s2 := cell_of_one q2
    have s3 := cell_of_one q3
    refine ⟨by simp, .inl ⟨_, _, rfl, run_takeDeferred HD', ?_⟩⟩
    refine ⟨.tuple #[.int .i64 (acc : Nat), .int .i64 0], by simp [results, Try.results30, s2, s3, go_sem], by rw [hS.out]; rfl, ?_⟩
    exact Below.put ((HB.out.setCell (by show w.heap.size ≤ w.heap.size + 1 + 1; omega) _).setCell (by show w.heap.size ≤ w.heap.size + 1 + 1 + 1; omega) _) (Nat.le_refl _) HD' (by omega) _
  case stop =>
    rintro c i A hi ⟨rfl, hn, b2, b3, hbA⟩ hD
    have hS : Hid (symOut f o l = (0, 5)) := by
      unfold Hid symOut
      rw [hn]
    gi_wp2
    have q2 := (World.putObj_heap_other (w := A) (o := .deferred none) (by omega : w.heap.size + 1 + 1 ≠ W0.heap.size)).trans b2
    have q3 := (World.putObj_heap_other (w := A) (o := .deferred none) (by omega : w.heap.size + 1 + 1 + 1 ≠ W0.heap.size)).trans b3
    have s2 := cell_of_one q2
    have s3 := cell_of_one q3
    refine ⟨by simp, .inl ⟨_, _, rfl, run_takeDeferred hD, ?_⟩⟩
    refine ⟨.tuple #[.int .i64 0, .int .i64 5], by simp [results, Try.results30, s2, s3, go_sem], by rw [hS.out]; rfl, ?_⟩
    exact Below.put hbA (Nat.le_refl _) hD (by omega) _
end Go.Proofs.Ytmgoeokdlklabaa

namespace Go.Proofs.Ytmgoeokdlklabaa
open Go.RowKit Go.Shelf M04 M05 M08 M17
attribute [local go_sem] Oper.semAt_some
set_option linter.unusedVariables false
set_option linter.unusedSimpArgs false
theorem mkI (n : Nat) (hn : n ≤ 100000) : ∃ O : Obj, O = .cells (madeCells #[.int .i64 0] n) 3 ∧ ∀ A : World, (Instr.makeSlice 59 (.int .i64 (n : Nat)) (.int .i64 (n : Nat))).run Try.prog A = .ok (.slice (some ⟨A.heap.size, 0, none⟩) n n) (A.alloc O) := by
  refine ⟨_, rfl, fun w => ?_⟩
  obtain ⟨i, h2, h3, h4, h5⟩ := info_parts (et_int).info
  have := run_make (P := Try.prog) (w := w) 59 3 i (.int .i64 0) (et_int).und h2 h3 .i64 .i64 n n (by omega) (by omega) (by rw [h5]; omega) (by omega)
  rw [this, h4]
  simp [Value.cells]
theorem own_made {W : World} {g base n : Nat} (h : W.heap[g]? = some (.cells (madeCells #[.int .i64 0] n) 3)) (hb : base ≤ g) (hn : n ≤ 100000) : OwnN 3 .i64 W base (some ⟨g, 0, none⟩) n (List.replicate n 0) := by
  have hm : (madeCells #[Value.int .i64 0] n).toList = (List.replicate n (0 : Nat)).map fun (n : Nat) => Value.int .i64 n := by
    rw [toList_madeCells_one]; simp
  refine ⟨by simp, .inr ⟨g, n, madeCells #[.int .i64 0] n, ?_, hb, h, ?_, ?_, ?_, ?_⟩⟩
  · simp
  · simp
  · simp [maxLen]; omega
  · rw [← Array.length_toList, hm]; simp
  · rw [hm]; simp
theorem three (w : World) (X Y Z : Obj) : (((w.alloc X).alloc Y).alloc Z).drew.heap[w.heap.size]? = some X ∧ (((w.alloc X).alloc Y).alloc Z).drew.heap[w.heap.size + 1]? = some Y ∧ (((w.alloc X).alloc Y).alloc Z).drew.heap[w.heap.size + 1 + 1]? = some Z ∧ Below w.heap.size w (((w.alloc X).alloc Y).alloc Z).drew := by
  have e1 := World.alloc_heap_new w X
  have e2 := World.alloc_heap_new (w.alloc X) Y
  have e3 := World.alloc_heap_new ((w.alloc X).alloc Y) Z
  rw [World.size_alloc] at e2
  rw [World.size_alloc, World.size_alloc] at e3
  refine ⟨?_, ?_, e3, ?_⟩
  · show (((w.alloc X).alloc Y).alloc Z).heap[w.heap.size]? = some X
    rw [Below.heap_alloc _ _ _ (by simp; omega), Below.heap_alloc _ _ _ (by simp)]; exact e1
  · show (((w.alloc X).alloc Y).alloc Z).heap[w.heap.size + 1]? = some Y
    rw [Below.heap_alloc _ _ _ (by simp)]; exact e2
  · exact belDN ((((Below.refl _ w).alloc (Nat.le_refl _) _).alloc (by simp) _).alloc (by simp; omega) _) 1
structure CodI0 (w0 w : World) (fb g0 g1 : Nat) : Prop where
  bb : w.heap[fb]? = some (.cells #[.slice (some ⟨g0, 0, none⟩) 286 286, .slice (some ⟨g1, 0, none⟩) 30 30] 110)
  o0 : OwnN 3 .i64 w w0.heap.size (some ⟨g0, 0, none⟩) 286 (List.replicate 286 0)
  o1 : OwnN 3 .i64 w w0.heap.size (some ⟨g1, 0, none⟩) 30 (List.replicate 30 0)
  ne : g0 ≠ g1
  n0 : g0 ≠ fb
  n1 : g1 ≠ fb
  lf : w0.heap.size ≤ fb
  bel : Below w0.heap.size w0 w
theorem use_row_ok : ∀ (l : List Tok), (∀ t ∈ l, t.byte < 256) → ∀ r ∈ useU l, r.err = 0 → rowOk r := by
  intro l
  induction l with
  | nil => intro _ r hr _; simp [useU] at hr; subst hr; exact ⟨rfl, by decide, by decide⟩
  | cons t l ih =>
    intro hb r hr he
    simp only [useU] at hr
    split at hr
    · next ht =>
      rcases List.mem_append.1 hr with hr | hr
      · exact tokU_ok t ht (hb t (by simp)) r hr
      · exact ih (fun t ht => hb t (by simp [ht])) r hr he
    · next ht =>
      obtain ⟨r', h1, h2⟩ := tokU_bad t ht
      rw [h1, List.mem_singleton] at hr
      subst hr
      omega
theorem use_row_err : ∀ (l : List Tok), ∀ r ∈ useU l, r.err ≠ 0 → r.err = 5 ∧ ¬ ∀ t ∈ l, tokOk t := by
  intro l
  induction l with
  | nil => intro r hr h; simp [useU] at hr; subst hr; exact absurd rfl h
  | cons t l ih =>
    intro r hr h
    simp only [useU] at hr
    split at hr
    · next ht =>
      rcases List.mem_append.1 hr with hr | hr
      · exact absurd (tokU_err t ht r hr) h
      · obtain ⟨h1, h2⟩ := ih r hr h
        exact ⟨h1, fun hc => h2 (fun t ht => hc t (by simp [ht]))⟩
    · next ht =>
      obtain ⟨r', h1, h2⟩ := tokU_bad t ht
      rw [h1, List.mem_singleton] at hr
      subst hr
      exact ⟨h2, fun hc => ht (hc t (by simp))⟩
theorem use_all_ok (l : List Tok) (h : ∀ r ∈ useU l, r.err = 0) : ∀ t ∈ l, tokOk t := by
  intro t ht
  by_cases hc : tokOk t
  · exact hc
  · obtain ⟨r, hr, he⟩ := useU_bad l ⟨t, ht, hc⟩
    exact absurd (h r hr) he
structure CodI (w : World) (ff fb g0 g1 : Nat) (l : List Tok) (i : Nat) (A : World) : Prop where
  b0 : A.heap[w.heap.size]? = some (.cells #[.slice none 0 0] 22)
  b1 : A.heap[w.heap.size + 1]? = some (.cells #[.slice none 0 0] 22)
  b2 : A.heap[w.heap.size + 1 + 1]? = some (.cells #[.int .i64 0] 25)
  bf : A.heap[ff]? = some (.cells #[.func (.func 62) #[] #[.pointer (some ⟨fb, 0, none⟩)]] 113)
  bb : A.heap[fb]? = some (.cells #[.slice (some ⟨g0, 0, none⟩) 286 286, .slice (some ⟨g1, 0, none⟩) 30 30] 110)
  o0 : OwnN 3 .i64 A (w.heap.size + 1 + 1 + 1) (some ⟨g0, 0, none⟩) 286 (cntU false 286 ((useU l).take i))
  o1 : OwnN 3 .i64 A (w.heap.size + 1 + 1 + 1) (some ⟨g1, 0, none⟩) 30 (cntU true 30 ((useU l).take i))
  er : ∀ r ∈ (useU l).take i, r.err = 0
  bel : Below w.heap.size w A
structure CodX (w : World) (l : List Tok) (A : World) : Prop where
  bad : ¬ ∀ t ∈ l, tokOk t
  b0 : A.heap[w.heap.size]? = some (.cells #[.slice none 0 0] 22)
  b1 : A.heap[w.heap.size + 1]? = some (.cells #[.slice none 0 0] 22)
  b2 : A.heap[w.heap.size + 1 + 1]? = some (.cells #[.int .i64 5] 25)
  bel : Below w.heap.size w A
section
variable {w : World} {ff fb g0 g1 : Nat} {l : List Tok} {i : Nat} {A B : World}
theorem CodI.only (h : CodI w ff fb g0 g1 l i A) (ho : Only (fun _ => False) A B) : CodI w ff fb g0 g1 l i B :=
  ⟨box_only h.b0 ho id, box_only h.b1 ho id, box_only h.b2 ho id, box_only h.bf ho id, box_only h.bb ho id, h.o0.only ho (fun _ _ => id), h.o1.only ho (fun _ _ => id), h.er, Below.only h.bel ho (Nat.le_refl _) (fun _ h => h.elim)⟩
theorem CodI.put (h : CodI w ff fb g0 g1 l i A) {r : Nat} {ob : Obj} (h0 : w.heap.size ≤ r) (hro : A.heap[r]? = some ob) (hoc : ob.isCells = false) (o' : Obj) : CodI w ff fb g0 g1 l i (A.putObj r o') :=
  ⟨box_put h.b0 hro hoc, box_put h.b1 hro hoc, box_put h.b2 hro hoc, box_put h.bf hro hoc, box_put h.bb hro hoc, h.o0.put hro hoc o', h.o1.put hro hoc o', h.er, Below.put h.bel (Nat.le_refl _) hro h0 _⟩
theorem CodX.only (h : CodX w l A) (ho : Only (fun _ => False) A B) : CodX w l B :=
  ⟨h.bad, box_only h.b0 ho id, box_only h.b1 ho id, box_only h.b2 ho id, Below.only h.bel ho (Nat.le_refl _) (fun _ h => h.elim)⟩
theorem CodX.put (h : CodX w l A) {r : Nat} {ob : Obj} (h0 : w.heap.size ≤ r) (hro : A.heap[r]? = some ob) (hoc : ob.isCells = false) (o' : Obj) : CodX w l (A.putObj r o') :=
  ⟨h.bad, box_put h.b0 hro hoc, box_put h.b1 hro hoc, box_put h.b2 hro hoc, Below.put h.bel (Nat.le_refl _) hro h0 _⟩
theorem CodI.next {far : Bool} {sym bits : Nat} {g : Nat} (h : CodI w ff fb g0 g1 l i A) (hi : i < (useU l).length) (hr : (useU l)[i] = ⟨far, sym, bits, 0⟩) (hg : g = if far then g1 else g0) (hne : g0 ≠ g1) (hn0 : g0 ≠ fb) (hn1 : g1 ≠ fb) (hf : fb < ff) (hg0 : g0 < ff) (hg1 : g1 < ff) (hb0 : w.heap.size + 1 + 1 + 1 ≤ g0) (hb1 : w.heap.size + 1 + 1 + 1 ≤ g1)
    (hn : OwnN 3 .i64 B (w.heap.size + 1 + 1 + 1) (some ⟨g, 0, none⟩) (if far then 30 else 286) ((cntU far (if far then 30 else 286) ((useU l).take i)).set sym ((cntU far (if far then 30 else 286) ((useU l).take i)).getD sym 0 + 1))) (ho : Only (fun b => b = g) A B) :
    CodI w ff fb g0 g1 l (i + 1) B := by
  have hgn : g = g0 ∨ g = g1 := by cases far <;> simp at hg <;> simp [hg]
  have k : ∀ {b : Nat} {o : Obj}, b ≠ g0 → b ≠ g1 → A.heap[b]? = some o → B.heap[b]? = some o := fun h0 h1 hh => box_only hh ho (fun e => by rcases hgn with h | h <;> omega)
  have her : ∀ r ∈ (useU l).take (i + 1), r.err = 0 := by
    rw [List.take_succ_eq_append_getElem hi]
    intro r hrm
    rcases List.mem_append.1 hrm with hm | hm
    · exact h.er r hm
    · rw [List.mem_singleton] at hm; subst hm; rw [hr]
  have e1 : ∀ (f2 : Bool) (n : Nat), cntU f2 n ((useU l).take (i + 1)) = if far = f2 then (cntU f2 n ((useU l).take i)).set sym ((cntU f2 n ((useU l).take i)).getD sym 0 + 1) else cntU f2 n ((useU l).take i) := by
    intro f2 n; rw [cntU_take f2 n (useU l) i hi, hr]
  refine ⟨k (by omega) (by omega) h.b0, k (by omega) (by omega) h.b1, k (by omega) (by omega) h.b2, k (by omega) (by omega) h.bf, k (by omega) (by omega) h.bb, ?_, ?_, her, Below.only h.bel ho (Nat.le_refl _) (fun b e => by rcases hgn with h | h <;> omega)⟩
  · rw [e1]
    cases far with
    | false => simp only [Bool.false_eq_true, if_false, if_true] at hn hg ⊢; subst hg; exact hn
    | true =>
      simp only [if_true] at hg
      simp only [Bool.true_eq_false, if_false]
      subst hg
      have ho2 : Only (fun b => b = g) A B := ho
      exact ⟨h.o0.1, by
        rcases h.o0.2 with h2 | ⟨g', c, cur, h1, h2, h3, h4⟩
        · exact .inl h2
        · refine .inr ⟨g', c, cur, h1, h2, box_only h3 ho2 ?_, h4⟩
          simp only [Value.slice.injEq, Option.some.injEq, Addr.mk.injEq, and_true] at h1
          omega⟩
  · rw [e1]
    cases far with
    | true => simp only [Bool.false_eq_true, if_false, if_true] at hn hg ⊢; subst hg; exact hn
    | false =>
      simp only [Bool.false_eq_true, if_false] at hg
      simp only [Bool.false_eq_true, if_false]
      subst hg
      have ho2 : Only (fun b => b = g) A B := ho
      exact ⟨h.o1.1, by
        rcases h.o1.2 with h2 | ⟨g', c, cur, h1, h2, h3, h4⟩
        · exact .inl h2
        · refine .inr ⟨g', c, cur, h1, h2, box_only h3 ho2 ?_, h4⟩
          simp only [Value.slice.injEq, Option.some.injEq, Addr.mk.injEq, and_true] at h1
          omega⟩
end
def codAct (s0 s2 s3 s4 s5 s6 s13 s14 s15 s16 s17 s18 : Value) (g : Nat) (r : URow) : Act :=
  ⟨#[s0, undef, s2, s3, s4, s5, s6, .pointer (some ⟨g, 0, none⟩), .int .i64 (r.err : Nat), undef, undef, undef, undef, s13, s14, s15, s16, s17, s18, .agg #[.bool r.far, .int .i64 (r.sym : Nat), .int .i64 (r.bits : Nat)], .int .i64 (r.err : Nat), undef, undef, undef, undef, undef, undef, undef, undef, undef, undef, undef, undef, undef, undef, undef, undef, undef, undef, undef, undef, undef, undef], []⟩
theorem cod_start (W0 : World) (O1 O2 : Obj) (h1 : O1 = .cells (madeCells #[.int .i64 0] 286) 3) (h2 : O2 = .cells (madeCells #[.int .i64 0] 30) 3) (w : World) (fb g0 g1 : Nat) (hb : w.heap[fb]? = some (.cells #[.slice (some ⟨g0, 0, none⟩) 286 286, .slice (some ⟨g1, 0, none⟩) 30 30] 110)) (e0 : w.heap[g0]? = some O1) (e1 : w.heap[g1]? = some O2) (hne : g0 ≠ g1 ∧ g0 ≠ fb ∧ g1 ≠ fb) (hl : W0.heap.size ≤ g0 ∧ W0.heap.size ≤ g1 ∧ W0.heap.size ≤ fb) (hbel : Below W0.heap.size W0 w) : CodI0 W0 w fb g0 g1 :=
  ⟨hb, own_made (e0.trans (by rw [h1])) hl.1 (by decide), own_made (e1.trans (by rw [h2])) hl.2.1 (by decide), hne.1, hne.2.1, hne.2.2, hl.2.2, hbel⟩
def CodOut (w : World) (l : List Tok) (e : Ending) (w' : World) : Prop :=
  ((∀ t ∈ l, tokOk t) ∧ ∃ a1 c1 a2 c2, e = .returned (.tuple #[.slice a1 (codF l).length c1, .slice a2 (codO l).length c2, .int .i64 0]) ∧ RowN .u8 w' a1 c1 (codF l) ∧ RowN .u8 w' a2 c2 (codO l) ∧ Below w.heap.size w w') ∨
  ((¬ ∀ t ∈ l, tokOk t) ∧ e = .returned (.tuple #[.slice none 0 0, .slice none 0 0, .int .i64 5]) ∧ Below w.heap.size w w')
set_option maxRecDepth 100000 in
set_option maxHeartbeats 1600000 in
theorem cost_codes (a : Option Addr) (cap : Nat) (l : List Tok) (w : World) (hl : l.length ≤ 1000) (hby : ∀ t ∈ l, t.byte < 256) (hr : RowS encT w a cap l) :
    Calls Try.prog 27 #[.slice a l.length cap] w (CodOut w l) := by
  have HBY := Lib.hid hby
  clear hby
  refine (callsIn_wide (n := 9)).1 ?_
  refine callsIn_of_wp_marks Try.func27 rfl trivial ?_ rfl
  simp only [Try.ntmps27, List.size_toArray, List.length_cons, List.length_nil, Nat.reduceAdd, Nat.reduceSub, Array.replicate_succ, Array.replicate_zero, List.push_toArray, List.append_toArray, List.nil_append, List.cons_append]
  gi_wp2
  have hz0 : (((w.alloc (.cells #[.slice none 0 0] 22)).alloc (.cells #[.slice none 0 0] 22)).alloc (.cells #[.int .i64 0] 25)).heap.size = w.heap.size + 1 + 1 + 1 := by simp
  obtain ⟨hb0, hb1, hb2, hbel0⟩ := three w (.cells #[.slice none 0 0] 22) (.cells #[.slice none 0 0] 22) (.cells #[.int .i64 0] 25)
  replace hbel0 : Below w.heap.size w (((w.alloc (.cells #[.slice none 0 0] 22)).alloc (.cells #[.slice none 0 0] 22)).alloc (.cells #[.int .i64 0] 25)) := ⟨hbel0.os, hbel0.tape, hbel0.output, hbel0.size, hbel0.block⟩
  replace hb0 : (((w.alloc (.cells #[.slice none 0 0] 22)).alloc (.cells #[.slice none 0 0] 22)).alloc (.cells #[.int .i64 0] 25)).heap[w.heap.size]? = some (.cells #[.slice none 0 0] 22) := hb0
  replace hb1 : (((w.alloc (.cells #[.slice none 0 0] 22)).alloc (.cells #[.slice none 0 0] 22)).alloc (.cells #[.int .i64 0] 25)).heap[w.heap.size + 1]? = some (.cells #[.slice none 0 0] 22) := hb1
  replace hb2 : (((w.alloc (.cells #[.slice none 0 0] 22)).alloc (.cells #[.slice none 0 0] 22)).alloc (.cells #[.int .i64 0] 25)).heap[w.heap.size + 1 + 1]? = some (.cells #[.int .i64 0] 25) := hb2
  generalize ((w.alloc (.cells #[.slice none 0 0] 22)).alloc (.cells #[.slice none 0 0] 22)).alloc (.cells #[.int .i64 0] 25) = W0 at *
  have HZ0 := Lib.hid hz0
  have HB0 := Lib.hid (And.intro hb0 (And.intro hb1 (And.intro hb2 hbel0)))
  clear hz0 hb0 hb1 hb2 hbel0
  refine Code.wpIn_mono (Q := fun e a' w' => e = .normal ∧ ∃ (g0 g1 fb : Nat) (v13 v14 v15 : Value), a' = ⟨#[Value.slice a l.length cap, undef, Value.pointer (some ⟨w.heap.size, 0, none⟩), Value.pointer (some ⟨w.heap.size + 1, 0, none⟩), Value.pointer (some ⟨w.heap.size + 1 + 1, 0, none⟩), .pointer (some ⟨fb, 0, none⟩), undef, undef, undef, undef, undef, undef, undef, v13, v14, v15, undef, undef, undef, undef, undef, undef, undef, undef, undef, undef, undef, undef, undef, undef, undef, undef, undef, undef, undef, undef, undef, undef, undef, undef, undef, undef, undef], []⟩ ∧ CodI0 W0 w' fb g0 g1) ?_ ?_
  rotate_left
  · obtain ⟨O1, ho1, r1⟩ := mkI 286 (by decide)
    obtain ⟨O2, ho2, r2⟩ := mkI 30 (by decide)
    replace r1 : ∀ A : World, (Instr.makeSlice 59 (.int .i64 286) (.int .i64 286)).run Try.prog A = .ok (.slice (some ⟨A.heap.size, 0, none⟩) 286 286) (A.alloc O1) := fun A => r1 A
    replace r2 : ∀ A : World, (Instr.makeSlice 59 (.int .i64 30) (.int .i64 30)).run Try.prog A = .ok (.slice (some ⟨A.heap.size, 0, none⟩) 30 30) (A.alloc O2) := fun A => r2 A
    have H1 := Lib.hid ho1
    have H2 := Lib.hid ho2
    clear ho1 ho2
    gi_region
    · exact ⟨rfl, _, _, _, _, _, _, rfl, (fun h => cod_start W0 O1 O2 H1.out H2.out _ _ _ _ h.2.2.1 h.1 h.2.1 (by omega) (by omega) h.2.2.2) (three W0 _ _ _)⟩
    · exact ⟨rfl, _, _, _, _, _, _, rfl, (fun h => cod_start W0 O1 O2 H1.out H2.out _ _ _ _ h.2.1 h.1 h.2.2.1 (by omega) (by omega) h.2.2.2) (three W0 _ _ _)⟩
    · exact ⟨rfl, _, _, _, _, _, _, rfl, (fun h => cod_start W0 O1 O2 H1.out H2.out _ _ _ _ h.2.2.1 h.2.1 h.1 (by omega) (by omega) h.2.2.2) (three W0 _ _ _)⟩
    · exact ⟨rfl, _, _, _, _, _, _, rfl, (fun h => cod_start W0 O1 O2 H1.out H2.out _ _ _ _ h.2.1 h.2.2.1 h.1 (by omega) (by omega) h.2.2.2) (three W0 _ _ _)⟩
    · exact ⟨rfl, _, _, _, _, _, _, rfl, (fun h => cod_start W0 O1 O2 H1.out H2.out _ _ _ _ h.1 h.2.1 h.2.2.1 (by omega) (by omega) h.2.2.2) (three W0 _ _ _)⟩
    · exact ⟨rfl, _, _, _, _, _, _, rfl, (fun h => cod_start W0 O1 O2 H1.out H2.out _ _ _ _ h.1 h.2.2.1 h.2.1 (by omega) (by omega) h.2.2.2) (three W0 _ _ _)⟩
  rintro e a' W1 ⟨rfl, g0, g1, fb, v13, v14, v15, rfl, hI0⟩
  have HI0 := Lib.hid hI0
  clear hI0
  gi_wp2_with (refine ⟨trivial, ?_⟩; gi_at_call 63; refine (callsIn_wide.2 (cost_uses _ _ _ _)).mono ?_; rintro e w' ⟨rfl, rfl⟩)
  obtain ⟨hB0, hB1, hB2, hbel0⟩ := HB0.out
  obtain ⟨i1, i2, i3, i4, i5, i6, i7, i8⟩ := HI0.out
  have hz0 := HZ0.out
  have hfb := lt_of_block i1
  obtain ⟨g0', e0, hg0, hg0'⟩ := i2.form.resolve_left (by intro h; cases h.1)
  simp only [Option.some.injEq, Addr.mk.injEq, and_true] at e0
  subst e0
  obtain ⟨g1', e1, hg1, hg1'⟩ := i3.form.resolve_left (by intro h; cases h.1)
  simp only [Option.some.injEq, Addr.mk.injEq, and_true] at e1
  subst e1
  have hz1 := i8.size
  rw [hz0] at hg0 hg1 i7 hz1
  have hz2 : ((W1.alloc (.cells #[.func (.func 62) #[] #[.pointer (some ⟨fb, 0, none⟩)]] 113)).alloc (.cells #[.slice a l.length cap] 57)).heap.size = W1.heap.size + 1 + 1 := by simp
  have hbe : Below W1.heap.size W1 ((W1.alloc (.cells #[.func (.func 62) #[] #[.pointer (some ⟨fb, 0, none⟩)]] 113)).alloc (.cells #[.slice a l.length cap] 57)) := ((Below.refl _ W1).alloc (Nat.le_refl _) _).alloc (by simp) _
  have hff : ((W1.alloc (.cells #[.func (.func 62) #[] #[.pointer (some ⟨fb, 0, none⟩)]] 113)).alloc (.cells #[.slice a l.length cap] 57)).heap[W1.heap.size]? = some (.cells #[.func (.func 62) #[] #[.pointer (some ⟨fb, 0, none⟩)]] 113) := (Below.heap_alloc _ _ _ (by simp)).trans (World.alloc_heap_new W1 _)
  have hft : ((W1.alloc (.cells #[.func (.func 62) #[] #[.pointer (some ⟨fb, 0, none⟩)]] 113)).alloc (.cells #[.slice a l.length cap] 57)).heap[W1.heap.size + 1]? = some (.cells #[.slice a l.length cap] 57) := by have := World.alloc_heap_new (W1.alloc (.cells #[.func (.func 62) #[] #[.pointer (some ⟨fb, 0, none⟩)]] 113)) (.cells #[.slice a l.length cap] 57); rwa [World.size_alloc] at this
  generalize ((W1.alloc (.cells #[.func (.func 62) #[] #[.pointer (some ⟨fb, 0, none⟩)]] 113)).alloc (.cells #[.slice a l.length cap] 57)) = W2 at *
  obtain ⟨ff, hffe⟩ : ∃ ff, W1.heap.size = ff := ⟨_, rfl⟩
  have hbw1 : Below w.heap.size w W1 := hbel0.trans (i8.mono (by omega))
  have hbw2 : Below w.heap.size w W2 := hbw1.trans (hbe.mono hbw1.size)
  have j0 : W2.heap[w.heap.size]? = some (.cells #[.slice none 0 0] 22) := (hbe.block _ (by omega)).trans ((i8.block _ (by omega)).trans hB0)
  have j1 : W2.heap[w.heap.size + 1]? = some (.cells #[.slice none 0 0] 22) := (hbe.block _ (by omega)).trans ((i8.block _ (by omega)).trans hB1)
  have j2 : W2.heap[w.heap.size + 1 + 1]? = some (.cells #[.int .i64 0] 25) := (hbe.block _ (by omega)).trans ((i8.block _ (by omega)).trans hB2)
  have jb := (hbe.block _ hfb).trans i1
  have jo0 := (i2.below hbe).mono (show w.heap.size + 1 + 1 + 1 ≤ W0.heap.size by omega)
  have jo1 := (i3.below hbe).mono (show w.heap.size + 1 + 1 + 1 ≤ W0.heap.size by omega)
  rw [hffe] at hff hft hz2 hg0' hg1' hfb hz1 ⊢
  have hr4 : RowS encT W2 a cap l := hr.below hbw2
  have hlw : ∀ x, 0 < l.length → a = some x → x.block < w.heap.size := by
    intro x h0 hx
    obtain ⟨b', off, he, hlt, _⟩ := hr.at h0
    rw [hx] at he
    cases he
    exact hlt
  clear HB0 HI0 hB0 hB1 hB2 hbel0 i1 i2 i3 i8 hbe HZ0 hffe hbw1
  refine range_law2 (g := .tmp 18) (gf := 96) (lb := #[.pointer (some ⟨ff + 1, 0, none⟩)]) rfl (enters_of Try.func96 (by kernel_rfl) rfl)
    (uses_yields a cap l W2 (ff + 1) (by omega) HBY.out hr4 hft) (SameOn.refl _ _) ?hS (fun _ h => h.elim) (fun _ => rfl)
    (CodI w ff fb g0 g1 l)
    (fun c _ A => c = .ret ∧ CodX w l A) (fun _ _ _ h ho => h.only ho) (fun _ _ _ _ o' h h0 h1 h2 => h.put (by omega) h1 h2 o') (fun _ _ _ _ h ho => ⟨h.1, h.2.only ho⟩) (fun _ _ _ _ _ o' h h0 h1 h2 => ⟨h.1, h.2.put (by omega) h1 h2 o'⟩) ?h0
    (fun i a' A => CodI w ff fb g0 g1 l i A ∧ ∃ (g : Nat) (r : URow), (useU l)[i]? = some r ∧ W2.heap.size ≤ g ∧ A.heap[g]? = some (.cells #[.bool r.far, .int .i64 (r.sym : Nat), .int .i64 (r.bits : Nat)] 112) ∧
      a' = codAct (.slice a l.length cap) (.pointer (some ⟨w.heap.size, 0, none⟩)) (.pointer (some ⟨w.heap.size + 1, 0, none⟩)) (.pointer (some ⟨w.heap.size + 1 + 1, 0, none⟩)) (.pointer (some ⟨fb, 0, none⟩)) (.pointer (some ⟨ff, 0, none⟩)) v13 v14 v15 (.func (.func 62) #[] #[.pointer (some ⟨fb, 0, none⟩)]) (.slice a l.length cap)
        (.func (.func 96) #[] #[.pointer (some ⟨ff + 1, 0, none⟩)]) g r) ?hAp ?assign ?body ?done ?stop
  case hS =>
    rintro b (rfl | ⟨h0, x, hx, rfl⟩)
    · omega
    · have := hlw x h0 hx; omega
  case h0 => exact ⟨j0, j1, j2, hff, jb, jo0, jo1, by simp, hbw2⟩
  case hAp =>
    rintro i a' A r ob o' ⟨h, g, u, hu, hgl, hg, ha⟩ h0 h1 h2
    exact ⟨h.put (by omega) h1 h2 o', g, u, hu, hgl, box_put hg h1 h2, ha⟩
  case assign =>
    rintro y i W K hi hsz hI hK
    obtain ⟨r, hr0⟩ : ∃ r, (useU l)[i]? = some r := ⟨_, List.getElem?_eq_getElem hi⟩
    obtain ⟨-, hrow⟩ := useRow_at hr0
    rw [hrow]
    have HK := Lib.hid hK
    have HI := Lib.hid hI
    have HI0 := Lib.hid hr0
    clear hK hrow hI hr0 hi
    gi_wp2
    have hb : Below W.heap.size W (W.alloc (.cells #[.bool r.far, .int .i64 (r.sym : Nat), .int .i64 (r.bits : Nat)] 112)) := box_below _ _
    refine HK.out _ _ (KeepsFrom.of_grownBy (row := none) ⟨hb.os, hb.tape, hb.output, hb.size, fun k hk _ => hb.block k hk⟩ (fun j e => by cases e)) (((Only.refl (fun _ => False) _).alloc _).sameOn ?_) ⟨HI.out.only ((Only.refl _ _).alloc _), W.heap.size, r, HI0.out, by omega, World.alloc_heap_new _ _, rfl⟩
    intro b hb
    refine ⟨?_, id⟩
    rcases hb with rfl | ⟨h0, x, hx, rfl⟩
    · omega
    · have := hlw x h0 hx; omega
  case body =>
    rintro y i hi a' A hsz ⟨hI, g, r, hri, hgl, hg, rfl⟩
    unfold codAct
    have hir : (useU l)[i] = r := by rw [List.getElem?_eq_getElem hi] at hri; exact Option.some.inj hri
    have hrm : r ∈ useU l := by rw [← hir]; exact List.getElem_mem hi
    have hbits := bits_le l r hrm
    have hil : i ≤ 2001 := by have := useU_len l; omega
    have k0 := cell_of_one hI.b0
    have z0 := free_of_one hI.b0
    have k1 := cell_of_one hI.b1
    have z1 := free_of_one hI.b1
    have k2 := cell_of_one hI.b2
    have z2 := free_of_one hI.b2
    have kf := cell_of_one hI.bf
    obtain ⟨c0, c1, c2⟩ := cells3 hg
    obtain ⟨far, sym, bits, err⟩ := r
    have hgb := lt_of_block hg
    have HI := Lib.hid hI
    have HER := Lib.hid (use_row_err l _ hrm)
    have HOKR := Lib.hid (use_row_ok l HBY.out _ hrm)
    have HIR := Lib.hid hir
    have HILT := Lib.hid hi
    have HS : Hid (∀ b, useS a (ff + 1) l b → b < A.heap.size ∧ b ≠ g0 ∧ b ≠ g1) := by
      intro b hb
      rcases hb with rfl | ⟨h0, x, hx, rfl⟩
      · exact ⟨by omega, by omega, by omega⟩
      · have := hlw x h0 hx; exact ⟨by omega, by omega, by omega⟩
    clear hI hri hir hrm hg j0 j1 j2 hff jb jo0 jo1 hr4 hft
    simp only at c0 c1 c2 hbits ⊢
    by_cases he : err = 0
    case neg =>
      have b0 : ((err : Int) != 0) = true := by simp; omega
      obtain ⟨he5, hbad⟩ := HER.out he
      simp only at he5
      subst he5
      have HBAD := Lib.hid hbad
      clear he hbad
      gi_wp2
      refine ⟨((KeepsOthers.setCell _ _ _).trans ((KeepsOthers.setCell _ _ _).trans (KeepsOthers.setCell _ _ _))).from _, rfl, HBAD.out, ?_, ?_, ?_, ?_⟩
      · exact (Below.heap_setCell _ _ _ _ (by show w.heap.size ≠ w.heap.size + 1 + 1; omega)).trans ((Below.heap_setCell _ _ _ _ (by show w.heap.size ≠ w.heap.size + 1; omega)).trans (one_setCell HI.out.b0))
      · exact (Below.heap_setCell _ _ _ _ (by show w.heap.size + 1 ≠ w.heap.size + 1 + 1; omega)).trans (one_setCell ((Below.heap_setCell _ _ _ _ (by show w.heap.size + 1 ≠ w.heap.size; omega)).trans HI.out.b1))
      · exact one_setCell ((Below.heap_setCell _ _ _ _ (by show w.heap.size + 1 + 1 ≠ w.heap.size + 1; omega)).trans ((Below.heap_setCell _ _ _ _ (by show w.heap.size + 1 + 1 ≠ w.heap.size; omega)).trans HI.out.b2))
      · exact ((HI.out.bel.setCell (by show w.heap.size ≤ w.heap.size; omega) _).setCell (by show w.heap.size ≤ w.heap.size + 1; omega) _).setCell (by show w.heap.size ≤ w.heap.size + 1 + 1; omega) _
    subst he
    obtain ⟨_, _, hsy⟩ := HOKR.out rfl
    have hvb : ∀ f n, (cntU f n ((useU l).take i)).getD sym 0 ≤ 1000000 := fun f n => by
      have := M04.getD_le (cntU_le f n (useU l) i (Nat.le_of_lt HILT.out)) sym
      omega
    simp only at hsy
    cases far with
    | false =>
      simp only [Bool.false_eq_true, if_false] at hsy
      have HC := Lib.hid (fun bt => cost_count0 A fb g0 g1 286 30 286 30 (w.heap.size + 1 + 1 + 1) sym bt _ _ HI.out.bb HI.out.o0 (cntU_len _ _ _) hsy rfl (hvb _ _))
      clear hvb hsy HER HOKR
      gi_wp2_with (refine ⟨trivial, ?_⟩; gi_at_call 62; refine (callsIn_wide.2 (HC.out bits)).mono ?_; rintro e w' ⟨rfl, hown', honly⟩)
      refine ⟨⟨honly.size, fun k o hk ho _ => (honly.block k (lt_of_block ho) (by omega)).trans ho⟩, honly.sameOn (fun b hb => ⟨(HS.out b hb).1, (HS.out b hb).2.1⟩), ?_⟩
      exact CodI.next (far := false) HI.out HILT.out HIR.out rfl i4 i5 i6 hfb hg0' hg1' (by omega) (by omega) hown' honly
    | true =>
      simp only [if_true] at hsy
      have HC := Lib.hid (fun bt => cost_count1 A fb g0 g1 286 30 286 30 (w.heap.size + 1 + 1 + 1) sym bt _ _ HI.out.bb HI.out.o1 (cntU_len _ _ _) hsy rfl (hvb _ _))
      clear hvb hsy HER HOKR
      gi_wp2_with (refine ⟨trivial, ?_⟩; gi_at_call 62; refine (callsIn_wide.2 (HC.out bits)).mono ?_; rintro e w' ⟨rfl, hown', honly⟩)
      refine ⟨⟨honly.size, fun k o hk ho _ => (honly.block k (lt_of_block ho) (by omega)).trans ho⟩, honly.sameOn (fun b hb => ⟨(HS.out b hb).1, (HS.out b hb).2.2⟩), ?_⟩
      exact CodI.next (far := true) HI.out HILT.out HIR.out rfl i4 i5 i6 hfb hg0' hg1' (by omega) (by omega) hown' honly
  case done =>
    rintro A hI hD
    have hoe : ∀ t ∈ l, tokOk t := use_all_ok l (by have := hI.er; rwa [List.take_length] at this)
    have hi0 := hI.o0
    have hi1 := hI.o1
    rw [List.take_length] at hi0 hi1
    obtain ⟨kb0, kb1⟩ := two_cells hI.bb
    have hused0 : (used (cntU false 286 (useU l))).length ≤ 286 := by have := M09.used_le (cntU false 286 (useU l)); rw [cntU_len] at this; exact this
    have hused1 : (used (cntU true 30 (useU l))).length ≤ 30 := by have := M09.used_le (cntU true 30 (useU l)); rw [cntU_len] at this; exact this
    have hle : ∀ f n, ∀ x ∈ cntU f n (useU l), x ≤ 1099511627776 := fun f n x hx => by
      have h1 := cntU_le f n (useU l) _ (Nat.le_refl _)
      rw [List.take_length] at h1
      have := h1 x hx
      have := useU_len l
      omega
    have HL0 := limit_lengthsA A (some ⟨g0, 0, none⟩) 286 (cntU false 286 (useU l)) 15 hi0.row (by rw [cntU_len]; decide) (by omega) (hle _ _) (by decide) (by decide) (pow15 _ (by rw [(rar_perm _).length_eq]; omega))
    rw [cntU_len] at HL0
    have HL1 := fun A' (h : Below A.heap.size A A') => limit_lengthsA A' (some ⟨g1, 0, none⟩) 30 (cntU true 30 (useU l)) 15 (hi1.row.below h) (by rw [cntU_len]; decide) (by omega) (hle _ _) (by decide) (by decide) (pow15 _ (by rw [(rar_perm _).length_eq]; omega))
    rw [cntU_len] at HL1
    have HC0 := fun A' a' c' (h : RowN .u8 A' a' c' (limL (cntU false 286 (useU l)) 15)) => cost_cut A' a' c' (limL (cntU false 286 (useU l)) 15) 257 h (by rw [limL_len, cntU_len]; decide)
    have HC1 := fun A' a' c' (h : RowN .u8 A' a' c' (limL (cntU true 30 (useU l)) 15)) => cost_cut A' a' c' (limL (cntU true 30 (useU l)) 15) 1 h (by rw [limL_len, cntU_len]; decide)
    rw [limL_len, cntU_len] at HC0 HC1
    have hcf : codF l = (limL (cntU false 286 (useU l)) 15).take (cutZ (limL (cntU false 286 (useU l)) 15) 257 286) := by unfold codF bestF; rw [limL_len, cntU_len]
    have hco : codO l = (limL (cntU true 30 (useU l)) 15).take (cutZ (limL (cntU true 30 (useU l)) 15) 1 30) := by unfold codO bestO; rw [limL_len, cntU_len]
    have hlf : (codF l).length = cutZ (limL (cntU false 286 (useU l)) 15) 257 286 := by have := cutZ_le (limL (cntU false 286 (useU l)) 15) 257 286; rw [hcf, List.length_take, limL_len, cntU_len]; omega
    have hlo : (codO l).length = cutZ (limL (cntU true 30 (useU l)) 15) 1 30 := by have := cutZ_le (limL (cntU true 30 (useU l)) 15) 1 30; rw [hco, List.length_take, limL_len, cntU_len]; omega
    have HL0 := Lib.hid HL0
    have HL1 := Lib.hid HL1
    have HC0 := Lib.hid HC0
    have HC1 := Lib.hid HC1
    have HCF := Lib.hid hcf
    have HCO := Lib.hid hco
    have HLF := Lib.hid hlf
    have HLO := Lib.hid hlo
    have HOE := Lib.hid hoe
    have HI := Lib.hid hI
    have HD := Lib.hid hD
    have hAsz := hI.bel.size
    have hfbA := lt_of_block hI.bb
    have hn2 := lt_of_block hI.b2
    clear hI hD hoe hi0 hi1 hle hcf hco hlf hlo hused0 hused1 j0 j1 j2 hff jb jo0 jo1 hr4 hft
    generalize limL (cntU false 286 (useU l)) 15 = F at *
    generalize limL (cntU true 30 (useU l)) 15 = O at *
    generalize cutZ F 257 286 = nf at *
    generalize cutZ O 1 30 = no at *
    gi_wp2_with (refine ⟨trivial, ?_⟩; gi_at_call 53; refine (callsIn_wide.2 HL0.out).mono ?_; rintro e A1 ⟨p1, d1, rfl, ho1, hb1⟩; have kb1' : A1.cell? ⟨fb, 1, none⟩ = some (.slice (some ⟨g1, 0, none⟩) 30 30) := (hb1.cell (p := ⟨fb, 1, none⟩) hfbA).trans kb1; have HO1 := Lib.hid ho1; have HB1 := Lib.hid hb1; clear ho1 hb1 HL0 kb0 kb1)
    gi_wp2_with (refine ⟨trivial, ?_⟩; gi_at_call 53; refine (callsIn_wide.2 (HL1.out _ HB1.out)).mono ?_; rintro e A2 ⟨p2, d2, rfl, ho2, hb2⟩)
    have hbA2 : Below A.heap.size A A2 := HB1.out.trans (hb2.mono HB1.out.size)
    have b0 : A2.heap[w.heap.size]? = some (.cells #[.slice none 0 0] 22) := (hbA2.block _ (by omega)).trans HI.out.b0
    have b1 : A2.heap[w.heap.size + 1]? = some (.cells #[.slice none 0 0] 22) := (hbA2.block _ (by omega)).trans HI.out.b1
    have b2 : A2.heap[w.heap.size + 1 + 1]? = some (.cells #[.int .i64 0] 25) := (hbA2.block _ (by omega)).trans HI.out.b2
    have hdA2 : A2.heap[W2.heap.size]? = some (.deferred (some [])) := (hbA2.block _ (lt_of_block HD.out)).trans HD.out
    have k0 := cell_of_one b0
    have z0 := free_of_one b0
    have k1 := cell_of_one b1
    have z1 := free_of_one b1
    have k2 := cell_of_one b2
    have z2 := free_of_one b2
    have HRF := Lib.hid (HO1.out.below hb2)
    have HRO := Lib.hid ho2
    have hsA1 := HB1.out.size
    have hsA2 := hb2.size
    have HB0 := Lib.hid b0
    have HB1' := Lib.hid b1
    have HB2 := Lib.hid b2
    have HDA := Lib.hid hdA2
    have HBEL := Lib.hid (HI.out.bel.trans (hbA2.mono HI.out.bel.size))
    clear HL1 HB1 HO1 hb2 ho2 hbA2 b0 b1 b2 hdA2 HI HD kb1'
    have HC0' := Lib.hid (HC0.out _ _ _ HRF.out.row)
    have HC1' := Lib.hid (HC1.out _ _ _ HRO.out.row)
    clear HC0 HC1
    have HL5 : A2.heap.size = A2.heap.size := rfl
    gi_wp2_with (first | (clear HL5; refine ⟨trivial, ?_⟩; gi_at_call 64; refine (callsIn_wide.2 HC0'.out).mono ?_; rintro e w' ⟨rfl, rfl⟩) | (refine ⟨trivial, ?_⟩; gi_at_call 64; refine (callsIn_wide.2 HC1'.out).mono ?_; rintro e w' ⟨rfl, rfl⟩))
    have e0 : ((w'.setCell ⟨w.heap.size, 0, none⟩ (.slice p1 nf d1)).setCell ⟨w.heap.size + 1, 0, none⟩ (.slice p2 no d2)).setCell ⟨w.heap.size + 1 + 1, 0, none⟩ (.int .i64 0) = ((w'.setCell ⟨w.heap.size, 0, none⟩ (.slice p1 nf d1)).setCell ⟨w.heap.size + 1, 0, none⟩ (.slice p2 no d2)).setCell ⟨w.heap.size + 1 + 1, 0, none⟩ (.int .i64 0) := rfl
    have t0 : (((w'.setCell ⟨w.heap.size, 0, none⟩ (.slice p1 nf d1)).setCell ⟨w.heap.size + 1, 0, none⟩ (.slice p2 no d2)).setCell ⟨w.heap.size + 1 + 1, 0, none⟩ (.int .i64 0)).heap[w.heap.size]? = some (.cells #[.slice p1 nf d1] 22) := (Below.heap_setCell _ _ _ _ (by show w.heap.size ≠ w.heap.size + 1 + 1; omega)).trans ((Below.heap_setCell _ _ _ _ (by show w.heap.size ≠ w.heap.size + 1; omega)).trans (one_setCell HB0.out))
    have t1 : (((w'.setCell ⟨w.heap.size, 0, none⟩ (.slice p1 nf d1)).setCell ⟨w.heap.size + 1, 0, none⟩ (.slice p2 no d2)).setCell ⟨w.heap.size + 1 + 1, 0, none⟩ (.int .i64 0)).heap[w.heap.size + 1]? = some (.cells #[.slice p2 no d2] 22) := (Below.heap_setCell _ _ _ _ (by show w.heap.size + 1 ≠ w.heap.size + 1 + 1; omega)).trans (one_setCell ((Below.heap_setCell _ _ _ _ (by show w.heap.size + 1 ≠ w.heap.size; omega)).trans HB1'.out))
    have t2 : (((w'.setCell ⟨w.heap.size, 0, none⟩ (.slice p1 nf d1)).setCell ⟨w.heap.size + 1, 0, none⟩ (.slice p2 no d2)).setCell ⟨w.heap.size + 1 + 1, 0, none⟩ (.int .i64 0)).heap[w.heap.size + 1 + 1]? = some (.cells #[.int .i64 0] 25) := one_setCell ((Below.heap_setCell _ _ _ _ (by show w.heap.size + 1 + 1 ≠ w.heap.size + 1; omega)).trans ((Below.heap_setCell _ _ _ _ (by show w.heap.size + 1 + 1 ≠ w.heap.size; omega)).trans HB2.out))
    have td : (((w'.setCell ⟨w.heap.size, 0, none⟩ (.slice p1 nf d1)).setCell ⟨w.heap.size + 1, 0, none⟩ (.slice p2 no d2)).setCell ⟨w.heap.size + 1 + 1, 0, none⟩ (.int .i64 0)).heap[ff + 1 + 1]? = some (.deferred (some [])) := (Below.heap_setCell _ _ _ _ (by show ff + 1 + 1 ≠ w.heap.size + 1 + 1; omega)).trans ((Below.heap_setCell _ _ _ _ (by show ff + 1 + 1 ≠ w.heap.size + 1; omega)).trans ((Below.heap_setCell _ _ _ _ (by show ff + 1 + 1 ≠ w.heap.size; omega)).trans (by rw [← hz2]; exact HDA.out)))
    have tb : Below w.heap.size w (((w'.setCell ⟨w.heap.size, 0, none⟩ (.slice p1 nf d1)).setCell ⟨w.heap.size + 1, 0, none⟩ (.slice p2 no d2)).setCell ⟨w.heap.size + 1 + 1, 0, none⟩ (.int .i64 0)) := ((HBEL.out.setCell (by show w.heap.size ≤ w.heap.size; omega) _).setCell (by show w.heap.size ≤ w.heap.size + 1; omega) _).setCell (by show w.heap.size ≤ w.heap.size + 1 + 1; omega) _
    have tf : OwnN 5 .u8 (((w'.setCell ⟨w.heap.size, 0, none⟩ (.slice p1 nf d1)).setCell ⟨w.heap.size + 1, 0, none⟩ (.slice p2 no d2)).setCell ⟨w.heap.size + 1 + 1, 0, none⟩ (.int .i64 0)) A.heap.size p1 d1 F := by
      have hne : ∀ g, p1 = some ⟨g, 0, none⟩ → A.heap.size ≤ g := by
        intro g hg
        rcases HRF.out.form with h | ⟨g', h1, h2, _⟩
        · rw [h.1] at hg; cases hg
        · rw [h1] at hg; cases hg; exact h2
      exact ((HRF.out.other (fun g hg => by have := hne g hg; show w.heap.size ≠ g; omega) _).other (fun g hg => by have := hne g hg; show w.heap.size + 1 ≠ g; omega) _).other (fun g hg => by have := hne g hg; show w.heap.size + 1 + 1 ≠ g; omega) _
    have to : OwnN 5 .u8 (((w'.setCell ⟨w.heap.size, 0, none⟩ (.slice p1 nf d1)).setCell ⟨w.heap.size + 1, 0, none⟩ (.slice p2 no d2)).setCell ⟨w.heap.size + 1 + 1, 0, none⟩ (.int .i64 0)) A1.heap.size p2 d2 O := by
      have hne : ∀ g, p2 = some ⟨g, 0, none⟩ → A1.heap.size ≤ g := by
        intro g hg
        rcases HRO.out.form with h | ⟨g', h1, h2, _⟩
        · rw [h.1] at hg; cases hg
        · rw [h1] at hg; cases hg; exact h2
      exact ((HRO.out.other (fun g hg => by have := hne g hg; show w.heap.size ≠ g; omega) _).other (fun g hg => by have := hne g hg; show w.heap.size + 1 ≠ g; omega) _).other (fun g hg => by have := hne g hg; show w.heap.size + 1 + 1 ≠ g; omega) _
    clear e0
    generalize ((w'.setCell ⟨w.heap.size, 0, none⟩ (.slice p1 nf d1)).setCell ⟨w.heap.size + 1, 0, none⟩ (.slice p2 no d2)).setCell ⟨w.heap.size + 1 + 1, 0, none⟩ (.int .i64 0) = A3 at *
    have q0 := (World.putObj_heap_other (w := A3) (o := .deferred none) (by omega : w.heap.size ≠ ff + 1 + 1)).trans t0
    have q1 := (World.putObj_heap_other (w := A3) (o := .deferred none) (by omega : w.heap.size + 1 ≠ ff + 1 + 1)).trans t1
    have q2 := (World.putObj_heap_other (w := A3) (o := .deferred none) (by omega : w.heap.size + 1 + 1 ≠ ff + 1 + 1)).trans t2
    have s0 := cell_of_one q0
    have s1 := cell_of_one q1
    have s2 := cell_of_one q2
    refine ⟨by simp, .inl ⟨_, _, rfl, run_takeDeferred td, ?_⟩⟩
    refine ⟨.tuple #[.slice p1 nf d1, .slice p2 no d2, .int .i64 0], by simp [results, Try.results27, s0, s1, s2, go_sem], .inl ⟨HOE.out, p1, d1, p2, d2, by rw [HLF.out, HLO.out], ?_, ?_, Below.put tb (Nat.le_refl _) td (by omega) _⟩⟩
    · rw [HCF.out]; exact rowN_take (OwnN.put tf td rfl _).row _
    · rw [HCO.out]; exact rowN_take (OwnN.put to td rfl _).row _
  case stop =>
    rintro c i A hi ⟨rfl, hX⟩ hD
    gi_wp2
    have q0 := (World.putObj_heap_other (w := A) (o := .deferred none) (by omega : w.heap.size ≠ W2.heap.size)).trans hX.b0
    have q1 := (World.putObj_heap_other (w := A) (o := .deferred none) (by omega : w.heap.size + 1 ≠ W2.heap.size)).trans hX.b1
    have q2 := (World.putObj_heap_other (w := A) (o := .deferred none) (by omega : w.heap.size + 1 + 1 ≠ W2.heap.size)).trans hX.b2
    have s0 := cell_of_one q0
    have s1 := cell_of_one q1
    have s2 := cell_of_one q2
    refine ⟨by simp, .inl ⟨_, _, rfl, run_takeDeferred hD, ?_⟩⟩
    refine ⟨.tuple #[.slice none 0 0, .slice none 0 0, .int .i64 5], by simp [results, Try.results27, s0, s1, s2, go_sem], .inr ⟨hX.bad, rfl, ?_⟩⟩
    exact Below.put hX.bel (Nat.le_refl _) hD (by omega) _
end Go.Proofs.Ytmgoeokdlklabaa

namespace Go.Proofs.Ytmgoeokdlklabaa
open Go.RowKit Go.Shelf M08 M17
set_option linter.unusedVariables false
theorem fix_start {w w1 w2 : World} (h1 : OwnN 5 .u8 w1 w.heap.size (some ⟨w.heap.size, 0, none⟩) 286 (List.replicate 286 0)) (g1 : w.grownBy w1 none) (h2 : OwnN 5 .u8 w2 w1.heap.size (some ⟨w1.heap.size, 0, none⟩) 30 (List.replicate 30 0)) (g2 : w1.grownBy w2 none) :
    w.heap.size < w1.heap.size ∧ Hid (OwnN 5 .u8 w2 w.heap.size (some ⟨w.heap.size, 0, none⟩) 286 (partL fixN 286 0)) ∧ Hid (OwnN 5 .u8 w2 w.heap.size (some ⟨w1.heap.size, 0, none⟩) 30 (partL (fun _ => 5) 30 0)) ∧ Hid (Below w.heap.size w w2) := by
  have hB1 : Below w.heap.size w w1 := Below.of_grown g1 (Nat.le_refl _) (fun k e => by cases e)
  have hB2 : Below w1.heap.size w1 w2 := Below.of_grown g2 (Nat.le_refl _) (fun k e => by cases e)
  have o1 := h1.below hB2
  have hz1 : w.heap.size < w1.heap.size := by
    obtain ⟨g, he, _, hlt⟩ := (h1.form).resolve_left (by intro h; cases h.1)
    simp only [Option.some.injEq, Addr.mk.injEq, and_true] at he
    omega
  rw [partL_zero, partL_zero]
  exact ⟨hz1, o1, h2.mono (by omega), hB1.trans (hB2.mono hB1.size)⟩
def fixR : List Nat := partL fixN 286 286
def fixQ : List Nat := partL (fun _ => 5) 30 30
set_option maxRecDepth 100000 in
set_option maxHeartbeats 1600000 in
theorem ref17_fixed (w : World) :
    Calls Try.prog 31 #[] w fun e w' => ∃ g1 g2, e = .returned (.tuple #[.slice (some ⟨g1, 0, none⟩) 286 286, .slice (some ⟨g2, 0, none⟩) 30 30]) ∧ RowN .u8 w' (some ⟨g1, 0, none⟩) 286 fixR ∧ RowN .u8 w' (some ⟨g2, 0, none⟩) 30 fixQ ∧ Below w.heap.size w w' := by
  go_enter Try.func31, Try.ntmps31
  go_wp2_with (first | (at_make; refine makeN (n := 286) et_u8 rfl _ _ rfl w.heap.size rfl rfl (by decide) (by decide) (Nat.le_refl _) ?_; intro w1 hown1 hg1) | (at_make; refine makeN (n := 30) et_u8 rfl _ _ rfl w1.heap.size rfl rfl (by decide) (by decide) (Nat.le_refl _) ?_; intro w2 hown2 hg2; obtain ⟨hz1, HO1, HO2, HB⟩ := fix_start hown1 hg1 hown2 hg2; clear hown1 hg1 hown2 hg2))
  obtain ⟨g1, hg1⟩ : ∃ g1, w.heap.size = g1 := ⟨_, rfl⟩
  obtain ⟨g2, hg2⟩ : ∃ g2, w1.heap.size = g2 := ⟨_, rfl⟩
  rw [hg1] at HO1
  rw [hg1, hg2] at HO2 hz1
  simp only [hg1, hg2]
  have HG1 := Lib.hid hg1
  clear hg1 hg2
  go_loopw [4] (fun i A => ∃ k : Nat, k ≤ 286 ∧ i = .int .i64 k ∧ OwnN 5 .u8 A g1 (some ⟨g1, 0, none⟩) 286 (partL fixN 286 k) ∧ OwnN 5 .u8 A g1 (some ⟨g2, 0, none⟩) 30 (partL (fun _ => 5) 30 0) ∧ Below w.heap.size w A) (fun i _ => 286 - (intOf i).toNat)
  case atStart => exact ⟨0, by omega, rfl, HO1.out, HO2.out, HB.out⟩
  case round =>
    clear HO1 HO2 HB
    obtain ⟨k, hk, rfl, ho1, ho2, hb⟩ := hrel
    have HO2 := Lib.hid ho2
    have HB := Lib.hid hb
    have HBW := Lib.hid (show ∀ (A : World) v, Below w.heap.size w A → Below w.heap.size w (A.setCell ⟨g1, k, none⟩ v) from fun A v h => h.setCell (by show w.heap.size ≤ g1; have := HG1.out; omega) _)
    have HN2 := Lib.hid (show ∀ (A : World) v, OwnN 5 .u8 A g1 (some ⟨g2, 0, none⟩) 30 (partL (fun _ => 5) 30 0) → OwnN 5 .u8 (A.setCell ⟨g1, k, none⟩ v) g1 (some ⟨g2, 0, none⟩) 30 (partL (fun _ => 5) 30 0) from fun A v h => OwnN.other h (fun x hx => by cases hx; show g1 ≠ g2; omega) _)
    clear ho2 hb
    by_cases hlt : k < 286
    · obtain ⟨⟨v, f1⟩, f2⟩ := part_at ho1 k hlt
      have b0 : decide ((k : Int) < 286) = true := by simp; omega
      have HO1 := Lib.hid ho1
      clear ho1
      by_cases h1 : 143 < k ∧ k < 256
      · have hf : fixN k = 9 := by unfold fixN; rw [if_pos h1]
        have H1 := Lib.hid (part_put2 (x := 8) HO1.out hlt)
        rw [hf] at H1
        have b1 : decide (143 < (k : Int)) = true := by simp; omega
        have b2 : decide ((k : Int) < 256) = true := by simp; omega
        have b3 : decide (255 < (k : Int)) = false := by simp; omega
        clear hf
        go_wp2
        go_roundw
        case rel => exact ⟨k + 1, by omega, by go_num, H1.out, HN2.out _ _ (HN2.out _ _ HO2.out), HBW.out _ _ (HBW.out _ _ HB.out)⟩
        case measure => simp [intOf]; omega
      · by_cases h2 : 255 < k ∧ k < 280
        · have hf : fixN k = 7 := by unfold fixN; rw [if_neg h1, if_pos h2]
          have H1 := Lib.hid (part_put2 (x := 8) HO1.out hlt)
          rw [hf] at H1
          have b1 : decide (143 < (k : Int)) = true := by simp; omega
          have b2 : decide ((k : Int) < 256) = false := by simp; omega
          have b3 : decide (255 < (k : Int)) = true := by simp; omega
          have b4 : decide ((k : Int) < 280) = true := by simp; omega
          clear hf h1
          go_wp2
          go_roundw
          case rel => exact ⟨k + 1, by omega, by go_num, H1.out, HN2.out _ _ (HN2.out _ _ HO2.out), HBW.out _ _ (HBW.out _ _ HB.out)⟩
          case measure => simp [intOf]; omega
        · have hf : fixN k = 8 := by unfold fixN; rw [if_neg h1, if_neg h2]
          have H1 := Lib.hid (part_put HO1.out hlt)
          rw [hf] at H1
          by_cases h3 : 143 < k
          · have b1 : decide (143 < (k : Int)) = true := by simp; omega
            have b2 : decide ((k : Int) < 256) = false := by simp; omega
            have b3 : decide (255 < (k : Int)) = true := by simp; omega
            have b4 : decide ((k : Int) < 280) = false := by simp; omega
            clear hf h1 h2
            go_wp2
            go_roundw
            case rel => exact ⟨k + 1, by omega, by go_num, H1.out, HN2.out _ _ HO2.out, HBW.out _ _ HB.out⟩
            case measure => simp [intOf]; omega
          · have b1 : decide (143 < (k : Int)) = false := by simp; omega
            have b3 : decide (255 < (k : Int)) = false := by simp; omega
            clear hf h1 h2
            go_wp2
            go_roundw
            case rel => exact ⟨k + 1, by omega, by go_num, H1.out, HN2.out _ _ HO2.out, HBW.out _ _ HB.out⟩
            case measure => simp [intOf]; omega
    · obtain rfl : k = 286 := by omega
      have HO1 := Lib.hid ho1
      clear ho1 HBW HN2
      go_wp2_with fail
      go_loopw [5] (fun i A => ∃ k : Nat, k ≤ 30 ∧ i = .int .i64 k ∧ OwnN 5 .u8 A g1 (some ⟨g1, 0, none⟩) 286 (partL fixN 286 286) ∧ OwnN 5 .u8 A g1 (some ⟨g2, 0, none⟩) 30 (partL (fun _ => 5) 30 k) ∧ Below w.heap.size w A) (fun i _ => 30 - (intOf i).toNat)
      case atStart => exact ⟨0, by omega, rfl, HO1.out, HO2.out, HB.out⟩
      case round =>
        clear HO1 HO2 HB
        obtain ⟨k, hk, rfl, ho1, ho2, hb⟩ := hrel
        have HB := Lib.hid hb
        have HO1 := Lib.hid ho1
        clear hb ho1
        by_cases hlt : k < 30
        · obtain ⟨⟨v, f1⟩, f2⟩ := part_at ho2 k hlt
          have H2 := Lib.hid (part_put ho2 hlt)
          have H1 := Lib.hid (show ∀ v, OwnN 5 .u8 (wr.setCell ⟨g2, k, none⟩ v) g1 (some ⟨g1, 0, none⟩) 286 (partL fixN 286 286) from fun v => OwnN.other HO1.out (fun x hx => by cases hx; show g2 ≠ g1; omega) _)
          have H3 := Lib.hid (show ∀ v, Below w.heap.size w (wr.setCell ⟨g2, k, none⟩ v) from fun v => HB.out.setCell (by show w.heap.size ≤ g2; have := HG1.out; omega) _)
          clear ho2
          go_wp2
          go_roundw
          case rel => exact ⟨k + 1, by omega, by go_num, H1.out _, H2.out, H3.out _⟩
          case measure => simp [intOf]; omega
        · obtain rfl : k = 30 := by omega
          have HO2 := Lib.hid ho2.row
          clear ho2
          go_wp2
          go_ret2
          exact ⟨g1, g2, rfl, HO1.out.row, HO2.out, HB.out⟩
theorem fixR_len : fixR.length = 286 := partL_len _ _ _
theorem fixQ_len : fixQ.length = 30 := partL_len _ _ _
theorem fixR_le : ∀ x ∈ fixR, x ≤ 255 := by decide +kernel
theorem fixQ_le : ∀ x ∈ fixQ, x ≤ 255 := by decide +kernel
end Go.Proofs.Ytmgoeokdlklabaa

namespace Go.Proofs.Ytmgoeokdlklabaa.M17
set_option linter.unusedVariables false
def align (x : Nat) : Nat := (x + 7) / 8 * 8
def st (n at_ : Nat) : Nat := if n ≤ 65535 then align (at_ + 3) + 32 + 8 * n else st (n - 65535) (align (at_ + 3) + 32 + 8 * 65535)
termination_by n
decreasing_by omega
def ev (at_ : Nat) : Nat → Nat
  | 0 => at_
  | i + 1 => align (ev at_ i + 3) + 32 + 8 * 65535
theorem align_le (x : Nat) : x ≤ align x ∧ align x ≤ x + 7 ∧ align x % 8 = 0 := by unfold align; omega
theorem st_le (n : Nat) : ∀ at_, at_ + 8 * n + 35 ≤ st n at_ ∧ st n at_ ≤ at_ + 8 * n + 42 * (n / 65535 + 1) ∧ st n at_ % 8 = 0 := by
  induction n using Nat.strongRecOn with
  | _ n ih =>
    intro at_
    have ha := align_le (at_ + 3)
    rw [st]
    split
    · omega
    · have := ih (n - 65535) (by omega) (align (at_ + 3) + 32 + 8 * 65535)
      have h1 : n / 65535 = (n - 65535) / 65535 + 1 := by omega
      rw [h1]
      omega
end Go.Proofs.Ytmgoeokdlklabaa.M17
