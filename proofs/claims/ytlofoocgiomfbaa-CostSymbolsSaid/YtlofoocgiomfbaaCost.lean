/- cost.Fixed, and the example that every law of layer 17 ends with: contracts. -/
import Derived.Test.YtlofoocgiomfbaaSym
import Derived.Test.YtlofoocgiomfbaaFix
import Derived.Test.YtlofoocgiomfbaaRFix
import Derived.Test.YtlofoocgiomfbaaOpenT
namespace Go.Proofs.Ytlofoocgiomfbaa
open Go.RowKit Go.Shelf M08 M17
set_option linter.unusedVariables false

theorem useU_fit (l : List Tok) (hb : ∀ t ∈ l, t.byte < 256) : ∀ r ∈ useU l, r.err = 0 → rowOk r := by
  induction l with
  | nil => intro r hr _; simp [useU] at hr; subst hr; exact ⟨rfl, by decide, by decide⟩
  | cons t l ih =>
    intro r hr he
    simp only [useU] at hr
    split at hr
    · rename_i ht
      rcases List.mem_append.1 hr with hr | hr
      · exact tokU_ok t ht (hb t (by simp)) r hr
      · exact ih (fun x hx => hb x (by simp [hx])) r hr he
    · rename_i ht
      obtain ⟨x, hx, h5⟩ := tokU_bad t ht
      rw [hx] at hr
      simp at hr
      subst hr
      rw [h5] at he; cases he
theorem fix_same1 : ∀ s, s < 286 → fixF.getD s 0 = fixR.getD s 0 := by decide +kernel
theorem fix_same2 : ∀ s, s < 30 → fixO.getD s 0 = fixQ.getD s 0 := by decide +kernel
theorem fix_pos1 : ∀ s, s < 286 → fixF.getD s 0 ≠ 0 := by decide +kernel
theorem fix_pos2 : ∀ s, s < 30 → fixO.getD s 0 ≠ 0 := by decide +kernel
theorem fixF_le : ∀ x ∈ fixF, x ≤ 255 := by decide +kernel
theorem fixO_le : ∀ x ∈ fixO, x ≤ 255 := by decide +kernel
theorem fixO_len : fixO.length = 30 := by unfold fixO; simp only [List.length_replicate]
theorem symU_fixed (l : List Tok) (hb : ∀ t ∈ l, t.byte < 256) : symU fixF fixO (useU l) 0 = symU fixR fixQ (useU l) 0 := by
  refine symU_fit _ _ _ _ _ _ fun r hr he => ?_
  have h := (useU_fit l hb r hr he).2.2
  unfold lensOf
  cases hf : r.far with
  | false => rw [hf] at h; exact fix_same1 _ (by simpa using h)
  | true => rw [hf] at h; exact fix_same2 _ (by simpa using h)
def fixOut (l : List Tok) : Nat × Nat := match symU fixF fixO (useU l) 0 with | some n => (3 + n, 0) | none => (0, 5)
theorem symU_le (f o : List Nat) (hf : ∀ x ∈ f, x ≤ 255) (ho : ∀ x ∈ o, x ≤ 255) (R : List URow) (hR : ∀ r ∈ R, r.bits ≤ 100) : ∀ n m, symU f o R n = some m → m ≤ n + R.length * 400 := by
  have hg : ∀ (L : List Nat), (∀ x ∈ L, x ≤ 255) → ∀ s, L.getD s 0 ≤ 255 := by
    intro L hL s
    rw [List.getD_eq_getElem?_getD]
    cases h : L[s]? with
    | none => simp
    | some x => exact hL x (List.mem_of_getElem? h)
  induction R with
  | nil => intro n m h; simp [symU] at h; omega
  | cons r R ih =>
    intro n m h
    simp only [symU] at h
    split at h
    · cases h
    · have h1 := ih (fun x hx => hR x (by simp [hx])) _ _ h
      have h2 := hR r (by simp)
      have h3 : lensOf f o r ≤ 255 := by
        unfold lensOf
        split
        · exact hg o ho _
        · exact hg f hf _
      simp only [List.length_cons]
      omega

theorem cost_Fixed (a : Option Addr) (cap : Nat) (l : List Tok) (w : World) (hl : l.length ≤ 1000) (hby : ∀ t ∈ l, t.byte < 256) (hr : RowS encT w a cap l) :
    Calls Try.prog 13 #[.slice a l.length cap] w fun e w' => e = .returned (.tuple #[.int .i64 ((fixOut l).1 : Nat), .int .i64 ((fixOut l).2 : Nat)]) ∧ Below w.heap.size w w' := by
  have hle : ∀ m, symU fixF fixO (useU l) 0 = some m → m ≤ 1000000 := fun m h => by
    have h1 := symU_le fixF fixO fixF_le fixO_le _ (bits_le l) 0 m h
    have h2 := useU_len l
    omega
  go_enter Try.func13, Try.ntmps13
  go_wp2_with fail
  refine (cost_fixed _).mono ?_
  rintro e w1 ⟨a1, c1, a2, c2, rfl, r1, r2, hb⟩
  have HC := Lib.hid (cost_symbols a a1 a2 cap c1 c2 l fixF fixO w1 hl hby (hr.below hb) r1 r2 fixF_le fixO_le)
  rw [fixF_len, fixO_len] at HC
  have HB := Lib.hid hb
  clear r1 r2 hb
  go_wp2_with fail
  refine HC.out.mono ?_
  rintro e w2 ⟨rfl, hb2⟩
  have HB2 := Lib.hid (HB.out.trans (hb2.mono HB.out.size))
  clear HC HB hb2
  cases hs : symU fixF fixO (useU l) 0 with
  | none =>
    have e1 : symOut fixF fixO l = (0, 5) := by unfold symOut; rw [hs]
    have e2 : fixOut l = (0, 5) := by unfold fixOut; rw [hs]
    have HE := Lib.hid e2
    rw [e1]
    clear e1 e2 hs hle
    go_wp2_with fail
    go_ret2
    exact ⟨by rw [HE.out]; rfl, HB2.out⟩
  | some m =>
    have e1 : symOut fixF fixO l = (m, 0) := by unfold symOut; rw [hs]
    have e2 : fixOut l = (3 + m, 0) := by unfold fixOut; rw [hs]
    have hm := hle m hs
    have HE := Lib.hid e2
    rw [e1]
    clear e1 e2 hs hle
    go_wp2_with fail
    go_ret2
    exact ⟨by rw [HE.out]; simp, HB2.out⟩

def RetTrue17 (w : World) (e : Ending) (w' : World) : Prop := e = .returned (.bool true) ∧ Below w.heap.size w w'
theorem exf1 : fixOut [] = (10, 0) := by decide +kernel
theorem exf2 : fixOut [⟨0, 0, 97⟩, ⟨3, 1, 0⟩] = (30, 0) := by decide +kernel
theorem exf3 : symOut [] [] [⟨0, 0, 97⟩] = (0, 5) := by decide +kernel
theorem exf4 : storedZ 2 6 = 58 := by decide +kernel
set_option maxRecDepth 100000 in
theorem law17_counts (w : World) : Calls Try.prog 15 #[] w (RetTrue17 w) := by
  go_enter Try.func15, Try.ntmps15
  go_wp2_with fail
  refine (cost_Fixed none 0 [] w (by decide) (by simp) (RowS.nil _ _)).mono ?_
  rintro e w1 ⟨rfl, hb1⟩
  rw [exf1]
  go_wp2_with fail
  refine (cost_Fixed _ 2 [⟨0, 0, 97⟩, ⟨3, 1, 0⟩] _ (by decide) (by decide) ?h1).mono ?_
  case h1 => exact RowS.lit encT w1 [⟨0, 0, 97⟩, ⟨3, 1, 0⟩] _ _ _ rfl rfl (by decide)
  rintro e w2 ⟨rfl, hb2⟩
  rw [exf2]
  have hB2 : Below w.heap.size w w2 := hb1.trans (((box_below w1 _).trans (hb2.mono (by simp))).mono hb1.size)
  have HB2 := Lib.hid hB2
  clear hb1 hb2 hB2
  go_wp2_with fail
  refine (cost_symbols _ none none 1 0 0 [⟨0, 0, 97⟩] [] [] _ (by decide) (by decide) ?h2 (RowN.nil _ _) (RowN.nil _ _) (by simp) (by simp)).mono ?_
  case h2 => exact RowS.lit encT w2 [⟨0, 0, 97⟩] _ _ _ rfl rfl (by decide)
  rintro e w3 ⟨rfl, hb3⟩
  rw [exf3]
  have HB3 := Lib.hid (HB2.out.trans (((box_below w2 _).trans (hb3.mono (by simp))).mono HB2.out.size))
  clear HB2 hb3
  go_wp2_with fail
  refine (cost_stored 2 6 _ (by decide) (by decide)).mono ?_
  rintro e w4 ⟨rfl, rfl⟩
  rw [exf4]
  go_wp2_with fail
  go_ret
  exact ⟨rfl, HB3.out⟩
end Go.Proofs.Ytlofoocgiomfbaa
