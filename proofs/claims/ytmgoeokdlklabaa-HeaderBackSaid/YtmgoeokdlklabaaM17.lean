/- Plain mathematics of layer 17: bits of symbols, one by one and by how often they come. -/
import Derived.Test.YtmgoeokdlklabaaM08
namespace Go.Proofs.Ytmgoeokdlklabaa.M17
open M08
set_option linter.unusedVariables false

structure Tok where
  len : Int
  dist : Int
  byte : Nat
def tokOk (t : Tok) : Prop := if t.len = 0 then t.dist = 0 else t.byte = 0 ∧ 3 ≤ t.len ∧ t.len ≤ 258 ∧ 1 ≤ t.dist ∧ t.dist ≤ 32768
instance (t : Tok) : Decidable (tokOk t) := by unfold tokOk; split <;> infer_instance
structure URow where
  far : Bool
  sym : Nat
  bits : Nat
  err : Nat
deriving DecidableEq
def tokU (t : Tok) : List URow :=
  if t.len = 0 then [⟨false, t.byte, 0, if t.dist = 0 then 0 else 5⟩]
  else if tokOk t then [⟨false, 257 + lk t.len.toNat, lbits (257 + lk t.len.toNat), 0⟩, ⟨true, dk t.dist.toNat, dbits (dk t.dist.toNat), 0⟩]
  else [⟨false, if 3 ≤ t.len ∧ t.len ≤ 258 then 257 + lk t.len.toNat else 0, if 3 ≤ t.len ∧ t.len ≤ 258 then lbits (257 + lk t.len.toNat) else 0, 5⟩]
def endU : URow := ⟨false, 256, 0, 0⟩
def useU : List Tok → List URow
  | [] => [endU]
  | t :: l => if tokOk t then tokU t ++ useU l else tokU t
theorem useU_ok (l : List Tok) (h : ∀ t ∈ l, tokOk t) : useU l = l.flatMap tokU ++ [endU] := by
  induction l with
  | nil => rfl
  | cons t l ih => simp only [useU, if_pos (h t (by simp)), List.flatMap_cons, List.append_assoc, ih fun t ht => h t (by simp [ht])]
theorem useU_split (l : List Tok) (k : Nat) (h : ∀ t ∈ l.take k, tokOk t) : useU l = (l.take k).flatMap tokU ++ useU (l.drop k) := by
  induction l generalizing k with
  | nil => simp
  | cons t l ih =>
    cases k with
    | zero => simp
    | succ k =>
      simp only [List.take_succ_cons, List.drop_succ_cons, List.flatMap_cons, List.append_assoc]
      rw [← ih k fun t ht => h t (by simp [ht])]
      simp only [useU, if_pos (h t (by simp))]
theorem useU_at (l : List Tok) (k : Nat) (hk : k < l.length) (h : ∀ t ∈ l.take k, tokOk t) :
    useU l = (l.take k).flatMap tokU ++ (if tokOk l[k] then tokU l[k] ++ useU (l.drop (k + 1)) else tokU l[k]) := by
  rw [useU_split l k h, List.drop_eq_getElem_cons hk]; rfl

/-- how many bits rows have by two codes' lengths; none: one has none -/
def lensOf (f o : List Nat) (r : URow) : Nat := (if r.far then o else f).getD r.sym 0
def symU (f o : List Nat) : List URow → Nat → Option Nat
  | [], n => some n
  | r :: rs, n => if r.err ≠ 0 ∨ lensOf f o r = 0 then none else symU f o rs (n + (lensOf f o r + r.bits))
def sumL (g : URow → Nat) : List URow → Nat
  | [] => 0
  | r :: rs => g r + sumL g rs
theorem sumL_append (g : URow → Nat) (a b : List URow) : sumL g (a ++ b) = sumL g a + sumL g b := by
  induction a with
  | nil => simp [sumL]
  | cons r a ih => simp only [List.cons_append, sumL, ih]; omega
theorem symU_eq (f o : List Nat) (R : List URow) : ∀ n, (∀ r ∈ R, r.err = 0) → symU f o R n = if ∀ r ∈ R, lensOf f o r ≠ 0 then some (n + sumL (fun r => lensOf f o r + r.bits) R) else none := by
  induction R with
  | nil => intro n _; simp [symU, sumL]
  | cons r R ih =>
    intro n he
    have h0 := he r (by simp)
    simp only [symU, sumL]
    by_cases hl : lensOf f o r = 0
    · rw [if_pos (.inr hl), if_neg]
      intro h; exact h r (by simp) hl
    · rw [if_neg (by simp [h0, hl]), ih _ fun r hr => he r (by simp [hr])]
      by_cases ha : ∀ r ∈ R, lensOf f o r ≠ 0
      · rw [if_pos ha, if_pos]
        · congr 1; omega
        · intro x hx
          rcases List.mem_cons.1 hx with rfl | hx
          · exact hl
          · exact ha x hx
      · rw [if_neg ha, if_neg]
        exact fun h => ha fun x hx => h x (by simp [hx])
theorem symU_bad (f o : List Nat) (R : List URow) : ∀ n, (∃ r ∈ R, r.err ≠ 0) → symU f o R n = none := by
  induction R with
  | nil => intro n h; obtain ⟨r, hr, _⟩ := h; cases hr
  | cons r R ih =>
    intro n h
    simp only [symU]
    by_cases hc : r.err ≠ 0 ∨ lensOf f o r = 0
    · rw [if_pos hc]
    · rw [if_neg hc]
      obtain ⟨x, hx, hxe⟩ := h
      rcases List.mem_cons.1 hx with rfl | hx
      · exact absurd (.inl hxe) hc
      · exact ih _ ⟨x, hx, hxe⟩
theorem tokU_err (t : Tok) (h : tokOk t) : ∀ r ∈ tokU t, r.err = 0 := by
  intro r hr
  unfold tokU at hr
  by_cases h0 : t.len = 0
  · rw [if_pos h0] at hr
    have : t.dist = 0 := by unfold tokOk at h; rwa [if_pos h0] at h
    simp [this] at hr; subst hr; rfl
  · rw [if_neg h0, if_pos h] at hr
    simp at hr
    rcases hr with rfl | rfl <;> rfl
theorem tokU_bad (t : Tok) (h : ¬ tokOk t) : ∃ r, tokU t = [r] ∧ r.err = 5 := by
  unfold tokU
  by_cases h0 : t.len = 0
  · rw [if_pos h0]
    have : ¬ t.dist = 0 := by unfold tokOk at h; rwa [if_pos h0] at h
    exact ⟨_, rfl, by simp [this]⟩
  · rw [if_neg h0, if_neg h]; exact ⟨_, rfl, rfl⟩
theorem useU_bad (l : List Tok) (h : ∃ t ∈ l, ¬ tokOk t) : ∃ r ∈ useU l, r.err ≠ 0 := by
  induction l with
  | nil => obtain ⟨t, ht, _⟩ := h; cases ht
  | cons t l ih =>
    simp only [useU]
    by_cases ht : tokOk t
    · rw [if_pos ht]
      obtain ⟨x, hx, hxn⟩ := h
      rcases List.mem_cons.1 hx with rfl | hx
      · exact absurd ht hxn
      · obtain ⟨r, hr, h2⟩ := ih ⟨x, hx, hxn⟩
        exact ⟨r, by simp [hr], h2⟩
    · rw [if_neg ht]
      obtain ⟨r, hr, h2⟩ := tokU_bad t ht
      exact ⟨r, by simp [hr], by omega⟩

/-! ### how often -/
def cnt (R : List URow) (far : Bool) (s : Nat) : Nat := R.countP fun r => r.far == far && r.sym == s
def cntL (R : List URow) (far : Bool) (n : Nat) : List Nat := (List.range n).map (cnt R far)
theorem cntL_length (R : List URow) (far : Bool) (n : Nat) : (cntL R far n).length = n := by simp [cntL]
theorem cntL_at (R : List URow) (far : Bool) (n i : Nat) (h : i < n) : (cntL R far n).getD i 0 = cnt R far i := by simp [cntL, h]
theorem cnt_le (R : List URow) (far : Bool) (s : Nat) : cnt R far s ≤ R.length := List.countP_le_length
theorem cnt_snoc (R : List URow) (r : URow) (far : Bool) (i : Nat) : cnt (R ++ [r]) far i = cnt R far i + if r.far = far ∧ r.sym = i then 1 else 0 := by
  unfold cnt
  rw [List.countP_append, List.countP_singleton]
  congr 1
  by_cases hc : r.far = far ∧ r.sym = i
  · rw [if_pos hc, if_pos (by simp [hc.1, hc.2])]
  · rw [if_neg hc, if_neg]
    intro h; rw [Bool.and_eq_true, beq_iff_eq, beq_iff_eq] at h; exact hc h
theorem cntL_get (R : List URow) (far : Bool) (n i : Nat) : (cntL R far n)[i]? = if i < n then some (cnt R far i) else none := by
  unfold cntL
  by_cases hi : i < n
  · simp [hi]
  · simp [hi]
theorem cntL_snoc (R : List URow) (r : URow) (far : Bool) (n : Nat) : cntL (R ++ [r]) far n = if r.far = far ∧ r.sym < n then (cntL R far n).set r.sym (cnt R far r.sym + 1) else cntL R far n := by
  apply List.ext_getElem?
  intro i
  by_cases hc : r.far = far ∧ r.sym < n
  · rw [if_pos hc, List.getElem?_set, cntL_get, cntL_get, cntL_length, cnt_snoc]
    by_cases he : r.sym = i
    · subst he; rw [if_pos rfl, if_pos hc.2, if_pos hc.2, if_pos ⟨hc.1, rfl⟩]
    · rw [if_neg he]; simp [he]
  · rw [if_neg hc, cntL_get, cntL_get, cnt_snoc]
    by_cases hi : i < n
    · rw [if_pos hi, if_pos hi, if_neg (fun h => hc ⟨h.1, by omega⟩)]; rfl
    · rw [if_neg hi, if_neg hi]
/-- Σ over the first n places -/
def S (f : Nat → Nat) : Nat → Nat
  | 0 => 0
  | n + 1 => S f n + f n
theorem S_add (f g : Nat → Nat) (n : Nat) : S (fun i => f i + g i) n = S f n + S g n := by
  induction n with
  | zero => rfl
  | succ n ih => simp only [S, ih]; omega
theorem S_congr {f g : Nat → Nat} {n : Nat} (h : ∀ i, i < n → f i = g i) : S f n = S g n := by
  induction n with
  | zero => rfl
  | succ n ih => simp only [S]; rw [ih fun i hi => h i (by omega), h n (by omega)]
theorem S_one (g : Nat → Nat) (s n : Nat) : S (fun i => if s = i then g i else 0) n = if s < n then g s else 0 := by
  induction n with
  | zero => simp [S]
  | succ n ih =>
    simp only [S, ih]
    by_cases h1 : s < n
    · simp [h1, show s < n + 1 by omega, show s ≠ n by omega]
    · by_cases h2 : s = n
      · subst h2; simp
      · simp [h1, h2, show ¬ s < n + 1 by omega]
theorem sum_cnt (g : Nat → Nat) (far : Bool) (n : Nat) (R : List URow) (h : ∀ r ∈ R, r.far = far → r.sym < n) :
    sumL (fun r => if r.far = far then g r.sym else 0) R = S (fun i => cnt R far i * g i) n := by
  induction R with
  | nil =>
    simp only [sumL]
    rw [S_congr (g := fun _ => 0) (fun i _ => by simp [cnt])]
    induction n with
    | zero => rfl
    | succ n ih => simp only [S]; rw [← ih (fun r hr => by cases hr)]
  | cons r R ih =>
    simp only [sumL]
    rw [ih fun x hx => h x (by simp [hx])]
    have : ∀ i, i < n → cnt (r :: R) far i * g i = (if r.far = far then (if r.sym = i then g i else 0) else 0) + cnt R far i * g i := by
      intro i _
      simp only [cnt, List.countP_cons]
      by_cases h1 : r.far = far
      · by_cases h2 : r.sym = i
        · simp [h1, h2, Nat.add_mul]; omega
        · simp [h1, h2]
      · have : (r.far == far) = false := by simpa using h1
        simp [h1, this]
    rw [S_congr this, S_add]
    congr 1
    by_cases h1 : r.far = far
    · simp only [h1, if_true]
      rw [S_one, if_pos (h r (by simp) h1)]
    · simp only [h1, if_false]
      clear ih this h
      induction n with
      | zero => rfl
      | succ n ih => simp only [S]; rw [← ih]
/-- what the sum of a code's bits is, by how often symbols come; none: one that comes has none -/
def sumE (c lens : List Nat) : Option Nat := if ∀ i, i < c.length → c.getD i 0 ≠ 0 → lens.getD i 0 ≠ 0 then some (S (fun i => c.getD i 0 * lens.getD i 0) c.length) else none
def rowOk (r : URow) : Prop := r.err = 0 ∧ r.bits = (if r.far then dbits r.sym else lbits r.sym) ∧ r.sym < (if r.far then 30 else 286)
theorem byte_bits (b : Nat) (h : b ≤ 256) : lbits b = 0 := by unfold lbits; rw [if_pos (by omega)]
theorem tokU_ok (t : Tok) (h : tokOk t) (hb : t.byte < 256) : ∀ r ∈ tokU t, rowOk r := by
  intro r hr
  unfold tokU at hr
  by_cases h0 : t.len = 0
  · rw [if_pos h0] at hr
    have : t.dist = 0 := by unfold tokOk at h; rwa [if_pos h0] at h
    simp [this] at hr; subst hr
    exact ⟨rfl, by simp [byte_bits _ (Nat.le_of_lt hb)], by simp; omega⟩
  · rw [if_neg h0, if_pos h] at hr
    unfold tokOk at h
    rw [if_neg h0] at h
    have hl : lk t.len.toNat < 29 := lastLe_lt _ (by decide)
    have hd := dk_lt t.dist.toNat
    simp at hr
    rcases hr with rfl | rfl
    · exact ⟨rfl, rfl, by simp; omega⟩
    · exact ⟨rfl, rfl, by simpa using hd⟩
theorem useU_rows (l : List Tok) (h : ∀ t ∈ l, tokOk t) (hb : ∀ t ∈ l, t.byte < 256) : ∀ r ∈ useU l, rowOk r := by
  rw [useU_ok l h]
  intro r hr
  rcases List.mem_append.1 hr with hr | hr
  · obtain ⟨t, ht, hrt⟩ := List.mem_flatMap.1 hr
    exact tokU_ok t (h t ht) (hb t ht) r hrt
  · simp at hr; subst hr; exact ⟨rfl, by decide, by decide⟩
theorem cnt_pos {R : List URow} {r : URow} (h : r ∈ R) : cnt R r.far r.sym ≠ 0 := by
  unfold cnt
  rw [Nat.ne_zero_iff_zero_lt, List.countP_pos_iff]
  exact ⟨r, h, by simp⟩
theorem cnt_mem {R : List URow} {far : Bool} {s : Nat} (h : cnt R far s ≠ 0) : ∃ r ∈ R, r.far = far ∧ r.sym = s := by
  unfold cnt at h
  rw [Nat.ne_zero_iff_zero_lt, List.countP_pos_iff] at h
  obtain ⟨r, hr, h2⟩ := h
  rw [Bool.and_eq_true, beq_iff_eq, beq_iff_eq] at h2
  exact ⟨r, hr, h2⟩
theorem sumE_cnt (R : List URow) (far : Bool) (n : Nat) (lens : List Nat) : sumE (cntL R far n) lens = if ∀ i, i < n → cnt R far i ≠ 0 → lens.getD i 0 ≠ 0 then some (S (fun i => cnt R far i * lens.getD i 0) n) else none := by
  unfold sumE
  rw [cntL_length]
  have hS : S (fun i => (cntL R far n).getD i 0 * lens.getD i 0) n = S (fun i => cnt R far i * lens.getD i 0) n := S_congr fun i hi => by rw [cntL_at _ _ _ _ hi]
  rw [hS]
  by_cases h : ∀ i, i < n → cnt R far i ≠ 0 → lens.getD i 0 ≠ 0
  · rw [if_pos h, if_pos]
    intro i hi hc
    rw [cntL_at _ _ _ _ hi] at hc
    exact h i hi hc
  · rw [if_neg h, if_neg]
    intro h2
    exact h fun i hi hc => h2 i hi (by rw [cntL_at _ _ _ _ hi]; exact hc)
theorem sumL_split (f g : URow → Nat) (R : List URow) : sumL (fun r => f r + g r) R = sumL f R + sumL g R := by
  induction R with
  | nil => rfl
  | cons r R ih => simp only [sumL, ih]; omega
theorem sumL_congr {f g : URow → Nat} {R : List URow} (h : ∀ r ∈ R, f r = g r) : sumL f R = sumL g R := by
  induction R with
  | nil => rfl
  | cons r R ih => simp only [sumL]; rw [h r (by simp), ih fun x hx => h x (by simp [hx])]
/-- The theorem of the chapter: symbol by symbol, or by how often each comes. -/
theorem sym_sums (f o : List Nat) (R : List URow) (h : ∀ r ∈ R, rowOk r) :
    symU f o R 0 = match sumE (cntL R false 286) f, sumE (cntL R true 30) o with
      | some n, some m => some (n + m + S (fun i => cnt R false i * lbits i) 286 + S (fun i => cnt R true i * dbits i) 30)
      | _, _ => none := by
  rw [symU_eq f o R 0 fun r hr => (h r hr).1, sumE_cnt, sumE_cnt]
  have hs1 : ∀ r ∈ R, r.far = false → r.sym < 286 := fun r hr hf => by have := (h r hr).2.2; simpa [hf] using this
  have hs2 : ∀ r ∈ R, r.far = true → r.sym < 30 := fun r hr hf => by have := (h r hr).2.2; simpa [hf] using this
  by_cases ha : ∀ i, i < 286 → cnt R false i ≠ 0 → f.getD i 0 ≠ 0
  case neg =>
    rw [if_neg ha, if_neg]
    intro hc
    apply ha
    intro i hi hci
    obtain ⟨r, hr, hf, rfl⟩ := cnt_mem hci
    have := hc r hr
    unfold lensOf at this
    simpa [hf] using this
  by_cases hb : ∀ i, i < 30 → cnt R true i ≠ 0 → o.getD i 0 ≠ 0
  case neg =>
    rw [if_neg hb, if_neg]
    · rw [if_pos ha]
    · intro hc
      apply hb
      intro i hi hci
      obtain ⟨r, hr, hf, rfl⟩ := cnt_mem hci
      have := hc r hr
      unfold lensOf at this
      simpa [hf] using this
  rw [if_pos ha, if_pos hb, if_pos]
  · have e1 : sumL (fun r => lensOf f o r + r.bits) R = sumL (fun r => (if r.far = false then f.getD r.sym 0 + lbits r.sym else 0) + (if r.far = true then o.getD r.sym 0 + dbits r.sym else 0)) R := by
      apply sumL_congr
      intro r hr
      rw [(h r hr).2.1]
      unfold lensOf
      cases hf : r.far <;> simp
    rw [e1, sumL_split, sum_cnt (fun i => f.getD i 0 + lbits i) false 286 R hs1, sum_cnt (fun i => o.getD i 0 + dbits i) true 30 R hs2]
    have e2 : ∀ (g k : Nat → Nat) (far : Bool) (n : Nat), S (fun i => cnt R far i * (g i + k i)) n = S (fun i => cnt R far i * g i) n + S (fun i => cnt R far i * k i) n := fun g k far n => by
      rw [← S_add]; exact S_congr fun i _ => by rw [Nat.mul_add]
    rw [e2, e2]
    simp only [Option.some.injEq]
    omega
  · intro r hr
    unfold lensOf
    cases hf : r.far with
    | false => simp only [if_neg (show ¬ (false = true) by decide)]; exact ha _ (hs1 r hr hf) (by have := cnt_pos hr; rwa [hf] at this)
    | true => simp only [if_true]; exact hb _ (hs2 r hr hf) (by have := cnt_pos hr; rwa [hf] at this)
theorem S_low (g : Nat → Nat) (a : Nat) (h : ∀ i, i < a → g i = 0) : S g a = 0 := by
  induction a with
  | zero => rfl
  | succ a ih => simp only [S]; rw [ih fun i hi => h i (by omega), h a (by omega)]
theorem S_le (g : Nat → Nat) (k : Nat) (h : ∀ i, g i ≤ k) : ∀ n, S g n ≤ n * k := by
  intro n
  induction n with
  | zero => simp [S]
  | succ n ih => simp only [S]; have := h n; rw [Nat.add_mul]; omega
theorem useU_len (l : List Tok) : (useU l).length ≤ 2 * l.length + 1 := by
  have ht : ∀ t, (tokU t).length ≤ 2 := fun t => by unfold tokU; split; · simp
                                                    · split <;> simp
  induction l with
  | nil => simp [useU]
  | cons t l ih =>
    simp only [useU]
    have := ht t
    split
    · simp only [List.length_append, List.length_cons]; omega
    · simp only [List.length_cons]; omega
theorem symU_fit (f g o p : List Nat) (R : List URow) : ∀ n, (∀ r ∈ R, r.err = 0 → lensOf f o r = lensOf g p r) → symU f o R n = symU g p R n := by
  induction R with
  | nil => intro n _; rfl
  | cons r R ih =>
    intro n h
    simp only [symU]
    by_cases he : r.err = 0
    · rw [h r (by simp) he, ih _ fun x hx => h x (by simp [hx])]
    · rw [if_pos (.inl he), if_pos (.inl he)]
theorem symU_app (f o : List Nat) (R Q : List URow) : ∀ n, symU f o (R ++ Q) n = (symU f o R n).bind fun m => symU f o Q m := by
  induction R with
  | nil => intro n; rfl
  | cons r R ih =>
    intro n
    simp only [List.cons_append, symU]
    split
    · rfl
    · exact ih _
theorem symU_from (f o : List Nat) (R : List URow) : ∀ n, symU f o R n = (symU f o R 0).map (n + ·) := by
  induction R with
  | nil => intro n; simp [symU]
  | cons r R ih =>
    intro n
    simp only [symU]
    split
    · rfl
    · rw [ih, ih (0 + _)]
      cases symU f o R 0 <;> simp; omega
theorem S_le' (g : Nat → Nat) (k : Nat) : ∀ n, (∀ i, i < n → g i ≤ k) → S g n ≤ n * k := by
  intro n
  induction n with
  | zero => intro _; simp [S]
  | succ n ih => intro h; simp only [S]; have := ih (fun i hi => h i (by omega)); have := h n (by omega); rw [Nat.add_mul]; omega
def symOut (f o : List Nat) (l : List Tok) : Nat × Nat := match symU f o (useU l) 0 with | some n => (n, 0) | none => (0, 5)
def oftR (l : List Tok) (k : Nat) : List URow := [endU] ++ (l.take k).flatMap tokU
theorem oftR_succ (l : List Tok) (k : Nat) (hk : k < l.length) : oftR l (k + 1) = oftR l k ++ tokU l[k] := by
  unfold oftR
  rw [List.take_succ_eq_append_getElem hk, List.flatMap_append, List.append_assoc]
  simp
theorem oftR_cnt (l : List Tok) (h : ∀ t ∈ l, tokOk t) (far : Bool) (n : Nat) : cntL (oftR l l.length) far n = cntL (useU l) far n := by
  unfold cntL
  apply List.map_congr_left
  intro i _
  unfold cnt oftR
  rw [useU_ok l h, List.take_length, List.countP_append, List.countP_append, Nat.add_comm]
theorem cntL_nil (far : Bool) (n : Nat) : cntL [] far n = List.replicate n 0 := by
  apply List.ext_getElem?
  intro i
  rw [cntL_get, List.getElem?_replicate]
  rfl
theorem oftR_zero (l : List Tok) : cntL (oftR l 0) false 286 = (List.replicate 286 0).set 256 1 ∧ cntL (oftR l 0) true 30 = List.replicate 30 0 := by
  have e : oftR l 0 = [] ++ [endU] := rfl
  rw [e, cntL_snoc, cntL_snoc, cntL_nil, cntL_nil, if_pos ⟨rfl, by decide⟩, if_neg (by intro h; cases h.1)]
  exact ⟨rfl, rfl⟩
theorem oftR_len (l : List Tok) (k : Nat) : (oftR l k).length ≤ 2 * l.length + 1 := by
  have ht : ∀ m : List Tok, (m.flatMap tokU).length ≤ 2 * m.length := by
    intro m
    induction m with
    | nil => simp
    | cons t m ih =>
      have : (tokU t).length ≤ 2 := by
        unfold tokU
        split
        · simp
        · split <;> simp
      simp only [List.flatMap_cons, List.length_append, List.length_cons]; omega
  unfold oftR
  have := ht (l.take k)
  simp only [List.length_append, List.length_cons, List.length_nil, List.length_take] at *
  omega
theorem symOut_bad (f o : List Nat) (l : List Tok) (h : ∃ t ∈ l, ¬ tokOk t) : symOut f o l = (0, 5) := by
  unfold symOut
  rw [symU_bad f o _ 0 (useU_bad l h)]
theorem symOut_none (f o : List Nat) (l : List Tok) (h : ∀ t ∈ l, tokOk t) (hb : ∀ t ∈ l, t.byte < 256) (hn : sumE (cntL (useU l) false 286) f = none ∨ sumE (cntL (useU l) true 30) o = none) : symOut f o l = (0, 5) := by
  unfold symOut
  rw [sym_sums f o _ (useU_rows l h hb)]
  rcases hn with hn | hn
  · rw [hn]
  · rw [hn]; cases sumE (cntL (useU l) false 286) f <;> rfl
theorem symOut_some (f o : List Nat) (l : List Tok) (h : ∀ t ∈ l, tokOk t) (hb : ∀ t ∈ l, t.byte < 256) {n m : Nat} (hn : sumE (cntL (useU l) false 286) f = some n) (hm : sumE (cntL (useU l) true 30) o = some m) :
    symOut f o l = (n + m + S (fun i => cnt (useU l) false i * lbits i) 286 + S (fun i => cnt (useU l) true i * dbits i) 30, 0) := by
  unfold symOut
  rw [sym_sums f o _ (useU_rows l h hb), hn, hm]
theorem S257 (R : List URow) : S (fun i => cnt R false i * lbits i) 257 = 0 := S_low _ _ fun i hi => by
  show cnt R false i * lbits i = 0
  rw [byte_bits i (by omega), Nat.mul_zero]
theorem sumE_le {R : List URow} {far : Bool} {n : Nat} {lens : List Nat} {m : Nat} (h : sumE (cntL R far n) lens = some m) (hR : R.length ≤ 3000) (hl : ∀ x ∈ lens, x ≤ 255) : m ≤ n * (3000 * 255) := by
  rw [sumE_cnt] at h
  split at h
  · cases h
    refine S_le' _ _ _ fun i hi => Nat.mul_le_mul (Nat.le_trans (cnt_le _ _ _) hR) ?_
    rw [List.getD_eq_getElem?_getD]
    cases h : lens[i]? with
    | none => simp
    | some x => exact hl x (List.mem_of_getElem? h)
  · cases h
end Go.Proofs.Ytmgoeokdlklabaa.M17
