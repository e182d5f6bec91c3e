/- A region whose order is drawn and that holds guarded operations: each that is wanted leaves its own value (as Flow, with the guards' values kept). -/
import Derived.Test.YtendielanacflaaGreatL02
namespace Go.Proofs.YtendielanacflaaGreat.FG
open Go
set_option linter.unusedVariables false
section
variable {P : Program} {ops : Array Oper} {Q : Exit → Act → World → Prop} {md : Region.Mode}
def wantE (md : Region.Mode) (e : Edge) : Bool := Region.binds md e && (match e.ground with | .data => true | .guard => true | _ => false)
theorem wantE_binds {e : Edge} (h : wantE md e = true) : Region.binds md e = true := by unfold wantE at h; rw [Bool.and_eq_true] at h; exact h.1
def usedB (md : Region.Mode) (ops : Array Oper) (fin : Nat → Bool) (i j : Nat) : Bool :=
  !(i == j) && !(anc md ops i ops.size j) && (fin j || (List.range ops.size).any fun k => !(k == i) && !(anc md ops k ops.size i) && ((ops[k]?).map fun o => o.after.any fun e => wantE md e && e.on == j).getD false)
def Wants (md : Region.Mode) (ops : Array Oper) (fin : Nat → Bool) (listed : Array Bool) (j : Nat) : Prop :=
  fin j = true ∨ ∃ (k : Nat) (o : Oper) (e : Edge), ops[k]? = some o ∧ listed.getD k true = false ∧ e ∈ o.after ∧ wantE md e = true ∧ e.on = j
theorem Wants.used {fin : Nat → Bool} {listed : Array Bool} {i j : Nat} {oi : Oper} (hij : i ≠ j) (hoi : ops[i]? = some oi) (hwi : ∀ e ∈ oi.after, Region.binds md e = true → listed.getD e.on false = true) (hi : i < listed.size) (hsh : Shut md ops listed) (hun : listed.getD i true = false) (hlj : listed.getD j false = true) (h : Wants md ops fin (listed.setIfInBounds i true) j) : Wants md ops fin listed j ∧ usedB md ops fin i j = true := by
  have hna : anc md ops i ops.size j = false := by
    cases hc : anc md ops i ops.size j with
    | false => rfl
    | true =>
      have := hsh.anc i _ _ hc hlj
      simp [hi] at this hun
      rw [hun] at this; cases this
  have hij' : (i == j) = false := by simpa using hij
  unfold usedB
  rw [hna, hij', Bool.not_false, Bool.true_and, Bool.true_and]
  rcases h with h | ⟨k, o, e, hk, hl, he, hb, hj⟩
  · exact ⟨.inl h, by simp [h]⟩
  · have hki : k ≠ i := fun hc => by
      subst hc; simp [hi] at hl
    rw [getD_set_ne true (Ne.symm hki)] at hl
    have hnk : anc md ops k ops.size i = false := by
      cases hc : anc md ops k ops.size i with
      | false => rfl
      | true =>
        have h1 := hsh.ready hoi hwi _ hc
        have hk2 : k < listed.size := by
          rcases Nat.lt_or_ge k listed.size with h' | h'
          · exact h'
          · simp [Array.getElem?_eq_none h'] at h1
        simp [hk2] at h1 hl
        rw [h1] at hl; cases hl
    refine ⟨.inr ⟨k, o, e, hk, hl, he, hb, hj⟩, ?_⟩
    rw [Bool.or_eq_true]; right
    rw [List.any_eq_true]
    refine ⟨k, by simpa using (Array.getElem?_eq_some_iff.1 hk).1, ?_⟩
    simp only [hk, Option.map_some, Option.getD_some, Bool.and_eq_true, Bool.not_eq_true', beq_eq_false_iff_ne]
    refine ⟨⟨hki, hnk⟩, ?_⟩
    rw [Array.any_eq_true']
    exact ⟨e, he, by simp [hb, hj]⟩
def leftBy (a : Act) (o : Oper) : Value := match o.dst with | some d => a.tmps.getD d undef | none => undef
structure FlowAt (md : Region.Mode) (ops : Array Oper) (fin : Nat → Bool) (R : Array Bool → World → Prop) (V : Nat → Value → World → Prop) (D : Nat → Nat → Value → Value → Prop) (a0 : Act) (listed : Array Bool) (a : Act) (w : World) : Prop where
  rel : R listed w
  size : a.tmps.size = a0.tmps.size
  defers : a.defers = a0.defers
  out : ∀ t, t ∉ dstsL ops → a.tmps.getD t undef = a0.tmps.getD t undef
  old : ∀ (j : Nat) (oj : Oper) (d : Tmp), ops[j]? = some oj → oj.dst = some d → listed.getD j false = false → a.tmps.getD d undef = a0.tmps.getD d undef
  len : listed.size = ops.size
  shut : Shut md ops listed
  val : ∀ (i : Nat) (o : Oper), ops[i]? = some o → listed.getD i false = true → Wants md ops fin listed i → V i (leftBy a o) w
  apart : ∀ (i j : Nat) (o o' : Oper), ops[i]? = some o → ops[j]? = some o' → listed.getD i false = true → listed.getD j false = true → Wants md ops fin listed i → Wants md ops fin listed j → i ≠ j → D i j (leftBy a o) (leftBy a o')
theorem mem_dstsL {i : Nat} {o : Oper} {d : Tmp} (h : ops[i]? = some o) (hd : o.dst = some d) : d ∈ dstsL ops := by
  unfold dstsL
  rw [List.mem_filterMap]
  exact ⟨o, by simpa using Array.mem_of_getElem? h, hd⟩
structure OneEach (ops : Array Oper) (n : Nat) : Prop where
  one : ∀ (i j : Nat) (oi oj : Oper) (d : Tmp), ops[i]? = some oi → ops[j]? = some oj → oi.dst = some d → oj.dst = some d → i = j
  fits : ∀ d ∈ dstsL ops, d < n
theorem OneEach.mk' {n : Nat} (h : ((List.range ops.size).all fun i => (List.range ops.size).all fun j => i == j || (match (ops[i]?).bind (·.dst), (ops[j]?).bind (·.dst) with | some d, some e => !(d == e) | _, _ => true)) = true)
    (hf : ((dstsL ops).all fun d => d < n) = true) : OneEach ops n where
  one i j oi oj d hi hj di dj := by
    rw [List.all_eq_true] at h
    have h1 := h i (by simpa using (Array.getElem?_eq_some_iff.1 hi).1)
    rw [List.all_eq_true] at h1
    have h2 := h1 j (by simpa using (Array.getElem?_eq_some_iff.1 hj).1)
    simpa [hi, hj, di, dj] using h2
  fits d hd := by
    rw [List.all_eq_true] at hf
    simpa using hf d hd
theorem leftBy_put_ne {n : Nat} {a : Act} {i j : Nat} {o oj : Oper} {v : Value} (h1 : OneEach ops n) (hi : ops[i]? = some o) (hj : ops[j]? = some oj) (hij : i ≠ j) : leftBy (a.put o.dst v) oj = leftBy a oj := by
  unfold leftBy
  cases hdj : oj.dst with
  | none => rfl
  | some dj =>
    cases hd : o.dst with
    | none => rfl
    | some d =>
      have : d ≠ dj := fun e => hij (h1.one i j o oj d hi hj hd (e ▸ hdj))
      simp [Act.put, Array.getElem?_setIfInBounds_ne this]
theorem leftBy_put {a : Act} {i : Nat} {o : Oper} {v : Value} (h1 : OneEach ops a.tmps.size) (hi : ops[i]? = some o) : leftBy (a.put o.dst v) o = (match o.dst with | some _ => v | none => undef) := by
  unfold leftBy
  cases hd : o.dst with
  | none => rfl
  | some d =>
    have hlt : d < a.tmps.size := h1.fits d (mem_dstsL hi hd)
    simp [Act.put, hlt]
theorem getD_set_same' {listed : Array Bool} {i : Nat} (hi : i < listed.size) : (listed.setIfInBounds i true).getD i false = true := by simp [hi]
theorem FlowAt.next {fin : Nat → Bool} {R : Array Bool → World → Prop} {V : Nat → Value → World → Prop} {D : Nat → Nat → Value → Value → Prop} {a0 a : Act} {listed : Array Bool} {w w' : World} {i : Nat} {o : Oper} {v : Value}
    (h1 : OneEach ops a0.tmps.size) (h : FlowAt md ops fin R V D a0 listed a w) (hi : ops[i]? = some o) (hun : listed.getD i true = false)
    (hw : ∀ e ∈ o.after, Region.binds md e = true → listed.getD e.on false = true)
    (hR : R (listed.setIfInBounds i true) w')
    (hmono : ∀ j u, usedB md ops fin i j = true → V j u w → (∀ e ∈ o.after, wantE md e = true → e.on ≠ j → ∀ oe, ops[e.on]? = some oe → D e.on j (leftBy a oe) u ∧ D j e.on u (leftBy a oe)) →
      V j u w' ∧ D i j (match o.dst with | some _ => v | none => undef) u ∧ D j i u (match o.dst with | some _ => v | none => undef))
    (hv : V i (match o.dst with | some _ => v | none => undef) w') : FlowAt md ops fin R V D a0 (listed.setIfInBounds i true) (a.put o.dst v) w' := by
  have hil : i < listed.size := by rw [h.len]; exact (Array.getElem?_eq_some_iff.1 hi).1
  have h1a : OneEach ops a.tmps.size := h.size ▸ h1
  have wi : ∀ e ∈ o.after, wantE md e = true → Wants md ops fin listed e.on := fun e he hb => .inr ⟨i, o, e, hi, hun, he, hb, rfl⟩
  have key : ∀ (j : Nat) (oj : Oper), i ≠ j → ops[j]? = some oj → (listed.setIfInBounds i true).getD j false = true → Wants md ops fin (listed.setIfInBounds i true) j →
      V j (leftBy a oj) w' ∧ D i j (match o.dst with | some _ => v | none => undef) (leftBy a oj) ∧ D j i (leftBy a oj) (match o.dst with | some _ => v | none => undef) := by
    intro j oj hij hj hl hn
    rw [getD_set_ne false hij] at hl
    obtain ⟨hn', hu⟩ := hn.used hij hi hw hil h.shut hun hl
    refine hmono j _ hu (h.val j oj hj hl hn') fun e he hb hne oe hoe => ?_
    exact ⟨h.apart _ _ _ _ hoe hj (hw e he (wantE_binds hb)) hl (wi e he hb) hn' hne, h.apart _ _ _ _ hj hoe hl (hw e he (wantE_binds hb)) hn' (wi e he hb) (Ne.symm hne)⟩
  refine ⟨hR, ?_, ?_, ?_, ?_, ?_, ?_, ?_, ?_⟩
  · rw [← h.size]; cases o.dst <;> simp [Act.put]
  · rw [← h.defers]; cases o.dst <;> simp [Act.put]
  · intro t ht
    rw [← h.out t ht]
    cases hd : o.dst with
    | none => rfl
    | some d =>
      have : d ≠ t := fun e => ht (e ▸ mem_dstsL hi hd)
      simp [Act.put, Array.getElem?_setIfInBounds_ne this]
  · intro j oj d hj hd hl
    by_cases hij : i = j
    · subst hij
      rw [getD_set_same' hil] at hl; cases hl
    · rw [getD_set_ne false hij] at hl
      rw [← h.old j oj d hj hd hl]
      cases hd' : o.dst with
      | none => rfl
      | some d' =>
        have : d' ≠ d := fun e => hij (h1.one i j o oj d hi hj (e ▸ hd') hd)
        simp [Act.put, Array.getElem?_setIfInBounds_ne this]
  · rw [← h.len]; simp
  · intro j oj hj hl e he hb
    by_cases hij : i = j
    · subst hij
      rw [hi] at hj; cases hj
      exact getD_set_true (hw e he hb)
    · rw [getD_set_ne false hij] at hl
      exact getD_set_true (h.shut j oj hj hl e he hb)
  · intro j oj hj hl hn
    by_cases hij : i = j
    · subst hij
      rw [hi] at hj; cases hj
      rw [leftBy_put h1a hi]; exact hv
    · rw [leftBy_put_ne h1a hi hj hij]
      exact (key j oj hij hj hl hn).1
  · intro j k oj ok hj hk hlj hlk hnj hnk hjk
    by_cases hij : i = j
    · subst hij
      rw [hi] at hj; cases hj
      rw [leftBy_put h1a hi, leftBy_put_ne h1a hi hk hjk]
      exact (key k ok hjk hk hlk hnk).2.1
    · rw [leftBy_put_ne h1a hi hj hij]
      by_cases hik : i = k
      · subst hik
        rw [hi] at hk; cases hk
        rw [leftBy_put h1a hi]
        exact (key j oj hij hj hlj hnj).2.2
      · rw [leftBy_put_ne h1a hi hk hik]
        rw [getD_set_ne false hij] at hlj
        rw [getD_set_ne false hik] at hlk
        exact h.apart _ _ _ _ hj hk hlj hlk (hnj.used hij hi hw hil h.shut hun hlj).1 (hnk.used hik hi hw hil h.shut hun hlk).1 hjk
theorem FlowAt.start {fin : Nat → Bool} {R : Array Bool → World → Prop} {V : Nat → Value → World → Prop} {D : Nat → Nat → Value → Value → Prop} {a0 : Act} {w : World} (h : R (Array.replicate ops.size false) w) : FlowAt md ops fin R V D a0 (Array.replicate ops.size false) a0 w where
  rel := h
  size := rfl
  defers := rfl
  out _ _ := rfl
  old _ _ _ _ _ _ := rfl
  len := by simp
  shut i o hi hl := by
    exfalso
    have := (Array.getElem?_eq_some_iff.1 hi).1
    simp [this] at hl
  val i o hi hl _ := by
    exfalso
    have := (Array.getElem?_eq_some_iff.1 hi).1
    simp [this] at hl
  apart i j o o' hi hj hl _ _ _ _ := by
    exfalso
    have := (Array.getElem?_eq_some_iff.1 hi).1
    simp [this] at hl
theorem FlowAt.end {fin : Nat → Bool} {R : Array Bool → World → Prop} {V : Nat → Value → World → Prop} {D : Nat → Nat → Value → Value → Prop} {l : List Value} {d : List Deferred} {listed : Array Bool} {a : Act} {w : World}
    (hb : ∀ (i : Nat) (o : Oper), ops[i]? = some o → ∀ e ∈ o.after, Region.binds md e = true → e.on < i)
    (h : FlowAt md ops fin R V D ⟨l.toArray, d⟩ listed a w) (hr : Region.ready md ops listed = []) :
    R listed w ∧ (∀ i, i < ops.size → listed.getD i false = true) ∧ (∀ (i : Nat) (o : Oper), ops[i]? = some o → fin i = true → V i (leftBy a o) w) ∧
    a = ⟨(spread (dstsL ops) (fun t => a.tmps.getD t undef) 0 l).toArray, d⟩ := by
  refine ⟨h.rel, all_listed h.len hb hr, fun i o hi hf => h.val i o hi (all_listed h.len hb hr i (Array.getElem?_eq_some_iff.1 hi).1) (.inl hf), ?_⟩
  have h1 := h.size
  have h2 := h.defers
  have h3 := h.out
  cases a with
  | mk tm df =>
    simp only at h1 h2 h3 ⊢
    subst h2
    congr 1
    apply Array.ext_getElem?
    intro t
    have e2 : (spread (dstsL ops) (fun t => tm.getD t undef) 0 l).toArray[t]? = (spread (dstsL ops) (fun t => tm.getD t undef) 0 l)[t]? := by simp
    rw [e2, spread_getElem?]
    simp only [Nat.zero_add]
    have hs : tm.size = l.length := by simpa using h1
    by_cases ht : t < l.length
    · have e1 : tm[t]? = some (tm.getD t undef) := by simp [hs, ht]
      rw [e1, List.getElem?_eq_getElem ht]
      simp only [Option.map_some, Option.some.injEq]
      cases hc : (dstsL ops).contains t with
      | true => rfl
      | false =>
        have : t ∉ dstsL ops := fun hm => by rw [List.contains_iff_mem.2 hm] at hc; cases hc
        have h4 := h3 t this
        rw [h4]; simp [ht]
    · rw [Array.getElem?_eq_none (by omega), List.getElem?_eq_none (by omega)]; rfl
theorem wp_region_flowG {id : Nat} {l : List Value} {df : List Deferred} {w0 : World} (ds : List Tmp) (fin : Nat → Bool) (R : Array Bool → World → Prop) (V : Nat → Value → World → Prop) (D : Nat → Nat → Value → Value → Prop)
    (hm : P.follows .mixedOrders = true) (hds : dstsL ops = ds) (h1 : OneEach ops l.length) (hb : backB .any ops = true)
    (h0 : R (Array.replicate ops.size false) { w0 with drawn := w0.drawn + 1 })
    (step : ∀ (i : Nat) (o : Oper), ops[i]? = some o → ∀ (listed : Array Bool) (a : Act) (w : World), R listed w → i < listed.size → listed.getD i false = false → (∀ j, anc .any ops i ops.size j = true → listed.getD j false = false) → (∀ j, anc .any ops j ops.size i = true → listed.getD j false = true) → (∀ t, t ∉ ds → a.eval (.tmp t) = l.getD t undef) →
      (∀ (j : Nat) (oj : Oper) (d : Tmp), ops[j]? = some oj → oj.dst = some d → listed.getD j false = false → a.eval (.tmp d) = l.getD d undef) →
      (∀ e ∈ o.after, wantE .any e = true → ∀ oe, ops[e.on]? = some oe → V e.on (leftBy a oe) w) →
      Region.wanted o (yielded ops a.tmps) = true ∧ StepTo P Q o a w (fun a' w' => ∃ v, a' = a.put o.dst v ∧ R (listed.setIfInBounds i true) w' ∧ (∀ j u, usedB .any ops fin i j = true → V j u w → (∀ e ∈ o.after, wantE .any e = true → e.on ≠ j → ∀ oe, ops[e.on]? = some oe → D e.on j (leftBy a oe) u ∧ D j e.on u (leftBy a oe)) →
        V j u w' ∧ D i j (match o.dst with | some _ => v | none => undef) u ∧ D j i u (match o.dst with | some _ => v | none => undef)) ∧ V i (match o.dst with | some _ => v | none => undef) w'))
    (done : ∀ (listed : Array Bool) (f : Nat → Value) (w : World), R listed w → (∀ i, i < ops.size → listed.getD i false = true) → (∀ (i : Nat) (o : Oper), ops[i]? = some o → fin i = true → V i (match o.dst with | some d => f d | none => undef) w) →
      Q .normal ⟨(spread ds f 0 l).toArray, df⟩ w) :
    (Code.region id ops true).wp P Q ⟨l.toArray, df⟩ w0 := by
  subst hds
  have hb' : ∀ (i : Nat) (o : Oper), ops[i]? = some o → ∀ e ∈ o.after, Region.binds .any e = true → e.on < i := fun i o hi e he hbe => by
    unfold backB at hb
    rw [List.all_eq_true] at hb
    have h2 := hb i (by simpa using (Array.getElem?_eq_some_iff.1 hi).1)
    rw [hi] at h2
    simp only [Option.map_some, Option.getD_some] at h2
    rw [Array.all_eq_true_iff_forall_mem] at h2
    have h3 := h2 e he
    rw [hbe] at h3
    simpa using h3
  have h1' : OneEach ops (Act.mk l.toArray df).tmps.size := by simpa using h1
  refine wp_region_any hm (wpAny_inv (FlowAt .any ops fin R V D ⟨l.toArray, df⟩) ?_ ?_ _ _ _ _ (leftOf_start ops) (FlowAt.start h0))
  · intro listed a w i hI hi
    obtain ⟨hun, o, ho, hw⟩ := mem_ready.1 hi
    have hil : i < listed.size := by rw [hI.len]; exact (Array.getElem?_eq_some_iff.1 ho).1
    have hunf : listed.getD i false = false := by simp [hil] at hun ⊢; exact hun
    have hs := step i o ho listed a w hI.rel hil hunf (fun j hj => by
      cases hc : listed.getD j false with
      | false => rfl
      | true => have := hI.shut.anc i _ _ hj hc; rw [hunf] at this; cases this) (fun j hj => hI.shut.ready ho hw _ hj) (fun t ht => by have := hI.out t ht; simpa [Act.eval] using this) (fun j oj d hj hd hl => by have := hI.old j oj d hj hd hl; simpa [Act.eval] using this) (fun e he hbe oe hoe => hI.val e.on oe hoe (hw e he (wantE_binds hbe)) (.inr ⟨i, o, e, ho, hun, he, hbe, rfl⟩))
    unfold wpOp
    simp only [ho, hs.1, if_true]
    exact hs.2.imp (Oper.wp_mono (fun a' w' h => by
      obtain ⟨v, rfl, hR, hmono, hv⟩ := h
      exact hI.next h1' ho hun hw hR hmono hv)) (fun h => h)
  · intro listed a w hI hr
    obtain ⟨hR, hall, hV, ha⟩ := hI.end hb' hr
    rw [ha]
    exact done _ _ _ hR hall hV
end
end Go.Proofs.YtendielanacflaaGreat.FG
