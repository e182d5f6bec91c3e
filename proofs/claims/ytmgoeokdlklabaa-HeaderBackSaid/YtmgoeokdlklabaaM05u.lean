/- Plain mathematics of layer 5: the lengths, round by round. -/
import Derived.Test.YtmgoeokdlklabaaM05
namespace Go.Proofs.Ytmgoeokdlklabaa.M05
set_option linter.unusedVariables false

/-- the length of s behind i rounds -/
def lenUp (f : List Nat) (lim i s : Nat) : Nat := if f.getD s 0 = 0 then 0 else (if (rar f).length = 1 then 1 else 0) + ((List.range i).filter fun i' => decide ((rar f).idxOf s < cnt (symW f) lim i')).length
/-- the same, and t symbols of the next round -/
def lenIn (f : List Nat) (lim i t s : Nat) : Nat := lenUp f lim i s + (if f.getD s 0 ≠ 0 ∧ (rar f).idxOf s < t then 1 else 0)
def lenInL (f : List Nat) (lim i t : Nat) : List Nat := (List.range f.length).map (lenIn f lim i t)
theorem lenInL_len (f : List Nat) (lim i t : Nat) : (lenInL f lim i t).length = f.length := by simp [lenInL]
theorem lenInL_all (f : List Nat) (lim : Nat) : lenInL f lim lim 0 = limL f lim := by
  unfold lenInL limL
  refine List.map_congr_left (fun s _ => ?_)
  unfold lenIn lenUp limS lenJ
  simp
theorem lenInL_next (f : List Nat) (lim i : Nat) : lenInL f lim i (cnt (symW f) lim i) = lenInL f lim (i + 1) 0 := by
  unfold lenInL
  refine List.map_congr_left (fun s _ => ?_)
  unfold lenIn lenUp
  rw [List.range_succ, List.filter_append, List.length_append]
  have hf : ((List.filter (fun i' => decide ((rar f).idxOf s < cnt (symW f) lim i')) [i]).length) = if (rar f).idxOf s < cnt (symW f) lim i then 1 else 0 := by
    by_cases h1 : (rar f).idxOf s < cnt (symW f) lim i
    · simp [h1]
    · simp [h1]
  rw [hf, if_neg (show ¬ (f.getD s 0 ≠ 0 ∧ (rar f).idxOf s < 0) from fun h => by omega)]
  by_cases h0 : f.getD s 0 = 0
  · rw [if_pos h0, if_pos h0, if_neg (fun h => h.1 h0)]
  · rw [if_neg h0, if_neg h0]
    by_cases h1 : (rar f).idxOf s < cnt (symW f) lim i
    · rw [if_pos (show f.getD s 0 ≠ 0 ∧ (rar f).idxOf s < cnt (symW f) lim i from ⟨h0, h1⟩), if_pos h1]; omega
    · rw [if_neg (show ¬ (f.getD s 0 ≠ 0 ∧ (rar f).idxOf s < cnt (symW f) lim i) from fun h => h1 h.2), if_neg h1]; omega
theorem lenInL_step (f : List Nat) (lim i t : Nat) (ht : t < (rar f).length) : lenInL f lim i (t + 1) = (lenInL f lim i t).set (rar f)[t] ((lenInL f lim i t).getD (rar f)[t] 0 + 1) := by
  have hm := (mem_rar f _).1 (List.getElem_mem ht)
  have hidx : (rar f).idxOf (rar f)[t] = t := (rar_nodup f).idxOf_getElem t ht
  apply List.ext_getElem
  · simp [lenInL]
  · intro s h1 h2
    rw [lenInL_len] at h1
    have hg : ∀ t' (h : s < (lenInL f lim i t').length), (lenInL f lim i t')[s] = lenIn f lim i t' s := by intro t' h; simp [lenInL]
    rw [hg]
    by_cases hs : s = (rar f)[t]
    · have hgd : (lenInL f lim i t).getD (rar f)[t] 0 = lenIn f lim i t (rar f)[t] := by
        rw [List.getD_eq_getElem?_getD, List.getElem?_eq_getElem (by rw [lenInL_len]; exact hm.1)]
        simp [lenInL]
      rw [List.getElem_set, if_pos hs.symm, hgd, hs]
      unfold lenIn
      rw [hidx, if_pos ⟨by omega, by omega⟩, if_neg (fun h => by omega)]
    · rw [List.getElem_set, if_neg (fun e => hs e.symm), hg]
      unfold lenIn
      by_cases h0 : f.getD s 0 = 0
      · rw [if_neg (fun h => h.1 h0), if_neg (fun h => h.1 h0)]
      · have hne : (rar f).idxOf s ≠ t := by
          intro e
          have hmem : s ∈ rar f := (mem_rar f s).2 ⟨h1, by omega⟩
          have := List.getElem_idxOf (List.idxOf_lt_length_of_mem hmem)
          apply hs
          rw [← this]
          simp [e]
        by_cases h3 : (rar f).idxOf s < t
        · rw [if_pos ⟨h0, by omega⟩, if_pos ⟨h0, h3⟩]
        · rw [if_neg (fun h => by omega), if_neg (fun h => by omega)]
theorem tkn_one (sy : List Nat) (lim : Nat) (h : sy.length = 1) : ∀ i, tkn sy lim i = 0 := by
  intro i
  induction i with
  | zero => show 2 * sy.length - 2 = 0; omega
  | succ i ih => show 2 * (tkn sy lim i - _) = 0; rw [ih]; simp
theorem tkn_fits1 (sy : List Nat) (lim : Nat) (h1 : 1 ≤ sy.length) (hl : sy.length ≤ 2 ^ lim) (h0 : 1 ≤ lim) (i : Nat) (hi : i < lim) : tkn sy lim i ≤ (rowS sy (lim - 1 - i)).length := by
  by_cases h : sy.length = 1
  · rw [tkn_one sy lim h]; exact Nat.zero_le _
  · exact tkn_fits sy lim (by omega) hl h0 i hi
theorem cnt_le1 (sy : List Nat) (lim : Nat) (h1 : 1 ≤ sy.length) (hl : sy.length ≤ 2 ^ lim) (h0 : 1 ≤ lim) (i : Nat) (hi : i < lim) : cnt sy lim i ≤ sy.length := by
  by_cases h : sy.length = 1
  · have := cnt_le sy lim i
    rw [tkn_one sy lim h] at this; omega
  · exact cnt_le_len sy lim (by omega) hl h0 i hi
theorem lenIn_le (f : List Nat) (lim i t s : Nat) : lenIn f lim i t s ≤ i + 2 := by
  unfold lenIn lenUp
  have h1 : ((List.range i).filter fun i' => decide ((rar f).idxOf s < cnt (symW f) lim i')).length ≤ i := by
    refine Nat.le_trans (List.length_filter_le _ _) (by simp)
  split <;> split <;> (try split) <;> omega
theorem lenInL_le (f : List Nat) (lim i t : Nat) : ∀ x ∈ lenInL f lim i t, x ≤ i + 2 := by
  intro x hx
  unfold lenInL at hx
  obtain ⟨s, _, rfl⟩ := List.mem_map.1 hx
  exact lenIn_le f lim i t s
/-- lengths that begin: 1 for a lone symbol -/
def len0 (f : List Nat) : List Nat := if (rar f).length = 1 then (List.replicate f.length 0).set ((rar f).getD 0 0) 1 else List.replicate f.length 0
theorem len0_len (f : List Nat) : (len0 f).length = f.length := by unfold len0; split <;> simp
theorem lenInL_zero (f : List Nat) (lim : Nat) : lenInL f lim 0 0 = len0 f := by
  apply List.ext_getElem
  · rw [lenInL_len, len0_len]
  · intro s h1 h2
    rw [lenInL_len] at h1
    have hg : (lenInL f lim 0 0)[s]'(by rw [lenInL_len]; exact h1) = lenIn f lim 0 0 s := by simp [lenInL]
    rw [hg]
    unfold lenIn lenUp
    rw [if_neg (show ¬ (f.getD s 0 ≠ 0 ∧ (rar f).idxOf s < 0) from fun h => by omega)]
    simp only [List.range_zero, List.filter_nil, List.length_nil, Nat.add_zero]
    by_cases h : (rar f).length = 1
    · have hl : len0 f = (List.replicate f.length 0).set ((rar f).getD 0 0) 1 := by unfold len0; rw [if_pos h]
      simp only [hl]
      rw [List.getElem_set, if_pos h]
      obtain ⟨s0, hs0⟩ := List.length_eq_one_iff.1 h
      have hm := mem_rar f s
      have hgd : (rar f).getD 0 0 = s0 := by rw [hs0]; rfl
      rw [hs0, List.mem_singleton] at hm
      simp only [hgd]
      by_cases hz : f.getD s 0 = 0
      · rw [if_pos hz, if_neg (fun e => by have := (hm.1 e.symm).2; omega), List.getElem_replicate]
      · rw [if_neg hz, if_pos (hm.2 ⟨h1, by omega⟩).symm]
    · have hl : len0 f = List.replicate f.length 0 := by unfold len0; rw [if_neg h]
      simp only [hl]
      rw [if_neg h, List.getElem_replicate]; split <;> rfl
end Go.Proofs.Ytmgoeokdlklabaa.M05
