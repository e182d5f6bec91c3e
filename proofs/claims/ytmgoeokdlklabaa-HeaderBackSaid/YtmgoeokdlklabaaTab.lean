/- A map from words (bits, how many) to numbers, as a function. -/
import Derived.Test.YtmgoeokdlklabaaChecked
import Derived.Test.YtmgoeokdlklabaaBase
import Derived.Test.YtmgoeokdlklabaaM06
import Derived.Maps.Own
import Derived.Maps.OwnOps
import Derived.Maps.OwnSet
import Derived.Maps.Views
import Derived.DeepKeys4
import Derived.WalkArith
namespace Go.Proofs.Ytmgoeokdlklabaa
open Go.RowKit Go.Maps M06
set_option linter.unusedVariables false

theorem tab_laid : laidOutB Try.prog = true := by kernel_rfl
theorem word_row : (136 : TypeId) < Try.prog.types.size := of_decide_eq_true (by kernel_rfl)
theorem word_wide : (match Try.prog.underlying 136 with | some (.array _ _) | some (.struct _) => true | _ => false) = true := by rw [Try.underlying136]
set_option maxRecDepth 100000 in
theorem word_law : Keyed Try.prog 136 := Keyed.of_law (deep_law_laid tab_laid (m := 2) (by omega) word_row (by kernel_rfl) word_wide)
theorem word_type : Try.prog.keyType 136 = true := by kernel_rfl
def wordV (x k : Nat) : Value := .agg #[.int .u32 (x : Nat), .int .u8 (k : Nat)]
theorem cast_le {x m : Nat} (h : x < m + 1) : (x : Int) ≤ (m : Int) := Int.ofNat_le.2 (Nat.le_of_lt_succ h)
theorem word_key (x k : Nat) (hx : x < 4294967296) (hk : k < 256) : ∃ kl, keyOf Try.prog 136 (wordV x k) = some kl := by
  have c101 : Try.prog.cellsOf 136 = 2 := by kernel_rfl
  have c36 : Try.prog.cellsOf 27 = 1 := by kernel_rfl
  have c5 : Try.prog.cellsOf 5 = 1 := by kernel_rfl
  obtain ⟨m, hm⟩ : ∃ m, Try.prog.types.size = m + 1 := by
    have h := word_row
    revert h
    generalize Try.prog.types.size = n
    intro h
    cases n with
    | zero => exact absurd h (Nat.not_lt_zero _)
    | succ n => exact ⟨n, rfl⟩
  have wx : (Lit.int .u32 (x : Int)).wf = true := WalkArith.wf_u32 ⟨Int.natCast_nonneg _, cast_le (m := 4294967295) hx⟩
  have wk : (Lit.int .u8 (k : Int)).wf = true := WalkArith.wf_u8 ⟨Int.natCast_nonneg _, cast_le (m := 255) hk⟩
  refine ⟨.string (keyBytes [.int .u32 (x : Int), .int .u8 (k : Int)]), ?_⟩
  unfold keyOf wordV
  simp only [Try.underlying136]
  rw [if_pos (by simp [word_type, Value.formed, Try.underlying136, c101]), hm]
  unfold Program.keyLits
  simp only [Try.underlying136, Value.cells]
  rw [if_pos ⟨by rw [c101]; rfl, by decide +kernel⟩]
  simp [c36, c5, Program.keyLits, Try.underlying27, Try.underlying5, wx, wk]
theorem word_inj {x k x' k' : Nat} (h : wordV x k = wordV x' k') : x = x' ∧ k = k' := by
  unfold wordV at h
  simp only [Value.agg.injEq, Array.mk.injEq, List.cons.injEq, Value.int.injEq, true_and, and_true] at h
  omega
theorem zeroInt (w : World) : (zeroValue 3).run Try.prog w = .ok (.int .i64 0) w := by kernel_rfl

/-- block b is a map of at most n words, to numbers, as F says -/
def MapF (w : World) (b n : Nat) (F : Nat → Nat → Option Int) : Prop :=
  ∃ D : DataW Unit, w.ownsMap Try.prog 136 (plainElem Try.prog 3) b n D ∧ IsMap D ∧
    ∀ x k kl, keyOf Try.prog 136 (wordV x k) = some kl → Maps.has D kl = (F x k).isSome ∧ D.atKey kl (.lit (.int .i64 0)) = .lit (.int .i64 ((F x k).getD 0))
theorem mapF_made (w : World) : MapF (w.alloc (.map #[] 0)) w.heap.size 0 (fun _ _ => none) :=
  ⟨.map [], World.ownsMap_made _ _ _ _, isMap_empty, fun x k kl _ => ⟨rfl, rfl⟩⟩
theorem MapF.kept {w w' : World} {b n : Nat} {F : Nat → Nat → Option Int} {row : Option Nat} (h : MapF w b n F) (hg : w.grownBy w' row) (hne : some b ≠ row) : MapF w' b n F := by
  obtain ⟨D, h1, h2⟩ := h
  exact ⟨D, h1.kept hg hne, h2⟩
theorem MapF.lt {w : World} {b n : Nat} {F : Nat → Nat → Option Int} (h : MapF w b n F) : b < w.heap.size := by
  obtain ⟨D, h1, _⟩ := h
  exact h1.lt
theorem MapF.look {w : World} {b n : Nat} {F : Nat → Nat → Option Int} (h : MapF w b n F) (x k : Nat) (hx : x < 4294967296) (hk : k < 256) :
    (Instr.lookup 132 (.map (some b)) (wordV x k) true).run Try.prog w = .ok (.tuple #[.int .i64 ((F x k).getD 0), .bool (F x k).isSome]) w := by
  obtain ⟨D, h1, _, h2⟩ := h
  obtain ⟨kl, hkl⟩ := word_key x k hx hk
  obtain ⟨v, ps, hrun, hv⟩ := h1.look_ok word_law Try.underlying132 (zeroInt w) (plainElem_int Try.underlying3 (by decide)) hkl
  obtain ⟨g1, g2⟩ := h2 x k kl hkl
  obtain ⟨c, rfl, hc, _⟩ := plainElem_int_inv Try.underlying3 hv
  simp only [Prod.mk.injEq] at hc
  rw [g2] at hc
  have hcc : (F x k).getD 0 = c := by
    have := hc.1
    simpa using this
  rw [hrun, g1, hcc]
theorem MapF.put {w : World} {b n : Nat} {F : Nat → Nat → Option Int} (h : MapF w b n F) (hn : n < maxLen) (x k : Nat) (v : Int) (hx : x < 4294967296) (hk : k < 256) (hv : -1000000 ≤ v ∧ v ≤ 1000000) :
    ∃ w', (Instr.mapUpdate 132 (.map (some b)) (wordV x k) (.int .i64 v)).run Try.prog w = .ok () w' ∧ MapF w' b (n + 1) (putF F x k v) ∧ w.grownBy w' (some b) := by
  obtain ⟨D, h1, hD, h2⟩ := h
  obtain ⟨kl, hkl⟩ := word_key x k hx hk
  have wv : (Lit.int .i64 v).wf = true := WalkArith.wf_i64 (by omega)
  obtain ⟨w', hrun, hown, hg⟩ := h1.update word_law Try.underlying132 hn hkl (plainElem_int Try.underlying3 wv)
  refine ⟨w', hrun, ⟨_, hown, hD.put _ _, fun x' k' kl' hkl' => ?_⟩, hg⟩
  unfold putF
  by_cases he : kl' = kl
  · subst he
    have := word_law.inj hkl' hkl
    obtain ⟨rfl, rfl⟩ := word_inj this
    rw [if_pos ⟨rfl, rfl⟩]
    exact ⟨by rw [has_put_same hD (word_law.key hkl)]; rfl, atKey_put_same hD (word_law.key hkl) _ _⟩
  · have hne : ¬ (x' = x ∧ k' = k) := fun ⟨h3, h4⟩ => by
      subst h3 h4
      rw [hkl] at hkl'
      exact he (Option.some.inj hkl').symm
    rw [if_neg hne]
    obtain ⟨g1, g2⟩ := h2 x' k' kl' hkl'
    exact ⟨by rw [has_put_other he]; exact g1, by rw [atKey_put_other he]; exact g2⟩
end Go.Proofs.Ytmgoeokdlklabaa
