/- Plain mathematics of layer 7: signs that are packed say the lengths. header.signs: the first and the last frequency above 0: contracts. Plain mathematics of layers 1 and 6: bits that were laid are read back. Plain mathematics of layer 9: a head that is laid, and read back. Laying tokens by two codes: plain. Plain mathematics of layer 10: symbols by two codes. -/
import Derived.Test.YtendielanacflaaGreatL06
import Derived.Test.YtendielanacflaaGreatL05
import Derived.Test.YtendielanacflaaGreatL08
namespace Go.Proofs.YtendielanacflaaGreat.M07
set_option linter.unusedVariables false
def exS : List Sg → List Nat → Option (List Nat)
  | [], out => some out
  | s :: l, out => if s.1 = 16 ∧ out.length = 0 then none else exS l (out ++ List.replicate (times s) (kOf s.1 out))
theorem exS_append (l m : List Sg) (out : List Nat) : exS (l ++ m) out = (exS l out).bind (exS m) := by
  induction l generalizing out with
  | nil => rfl
  | cons s l ih =>
    simp only [List.cons_append, exS]
    split
    · rfl
    · exact ih _
theorem exS_len (l : List Sg) (out r : List Nat) (h : exS l out = some r) : out.length ≤ r.length := by
  induction l generalizing out with
  | nil => simp [exS] at h; rw [h]; exact Nat.le_refl _
  | cons s l ih =>
    simp only [exS] at h
    split at h
    · cases h
    · have := ih _ h
      rw [List.length_append] at this
      omega
theorem unp_exS (n : Nat) (l : List Sg) (out r : List Nat) (h : exS l out = some r) (hr : r.length = n) : unp n l out = some r := by
  induction l generalizing out with
  | nil => simp [exS] at h; subst h; simp [unp, hr]
  | cons s l ih =>
    simp only [exS] at h
    split at h
    · cases h
    · next h0 =>
      have h1 := exS_len _ _ _ h
      rw [List.length_append, List.length_replicate] at h1
      rw [unp, if_neg h0, if_neg (by omega)]
      exact ih _ h
def runsF : Nat → List Nat → List (Nat × Nat)
  | 0, _ => []
  | _ + 1, [] => []
  | f + 1, a :: l => (a, 1 + (l.takeWhile fun x => x == a).length) :: runsF f (l.dropWhile fun x => x == a)
def runs (l : List Nat) : List (Nat × Nat) := runsF l.length l
theorem dropWhile_len (a : Nat) (l : List Nat) : (l.dropWhile fun x => x == a).length ≤ l.length := (List.dropWhile_sublist _).length_le
theorem runsF_more (f : Nat) : ∀ (l : List Nat) (g : Nat), l.length ≤ f → l.length ≤ g → runsF f l = runsF g l := by
  induction f with
  | zero =>
    intro l g h1 h2
    have : l = [] := List.eq_nil_of_length_eq_zero (by omega)
    subst this
    cases g <;> rfl
  | succ f ih =>
    intro l g h1 h2
    cases l with
    | nil => cases g <;> rfl
    | cons a l =>
      cases g with
      | zero => simp at h2
      | succ g =>
        simp only [List.length_cons] at h1 h2
        have := dropWhile_len a l
        simp only [runsF]
        rw [ih _ g (by omega) (by omega)]
theorem runs_cons (a : Nat) (l : List Nat) : runs (a :: l) = (a, 1 + (l.takeWhile fun x => x == a).length) :: runs (l.dropWhile fun x => x == a) := by
  have := dropWhile_len a l
  unfold runs
  rw [List.length_cons, runsF]
  rw [runsF_more l.length _ (l.dropWhile fun x => x == a).length (by omega) (Nat.le_refl _)]
theorem tw_run (a : Nat) (n : Nat) (l : List Nat) (h : ∀ x, l.head? = some x → x ≠ a) : ((List.replicate n a ++ l).takeWhile fun x => x == a) = List.replicate n a ∧ ((List.replicate n a ++ l).dropWhile fun x => x == a) = l := by
  induction n with
  | zero =>
    cases l with
    | nil => simp
    | cons b l =>
      have := h b rfl
      simp [this]
  | succ n ih =>
    simp only [List.replicate_succ, List.cons_append]
    simp [ih.1, ih.2]
theorem runs_step (l : List Nat) (i n : Nat) (hn : 0 < n) (hi : i + n ≤ l.length) (h : ∀ j, j < n → l.getD (i + j) 0 = l.getD i 0) (hend : i + n = l.length ∨ l.getD (i + n) 0 ≠ l.getD i 0) :
    runs (l.drop i) = (l.getD i 0, n) :: runs (l.drop (i + n)) := by
  have hsp : l.drop i = List.replicate n (l.getD i 0) ++ l.drop (i + n) := by
    apply List.ext_getElem?
    intro j
    by_cases hj : j < n
    · rw [List.getElem?_append_left (by simpa using hj), List.getElem?_replicate, if_pos hj, List.getElem?_drop]
      have := h j hj
      rw [List.getD_eq_getElem?_getD, List.getElem?_eq_getElem (by omega), Option.getD_some] at this
      rw [List.getElem?_eq_getElem (by omega), this]
    · rw [List.getElem?_append_right (by simpa using hj), List.length_replicate, List.getElem?_drop, List.getElem?_drop]
      congr 1; omega
  obtain ⟨m, rfl⟩ : ∃ m, n = m + 1 := ⟨n - 1, by omega⟩
  have hd : ∀ x, (l.drop (i + (m + 1))).head? = some x → x ≠ l.getD i 0 := by
    intro x hx
    rw [List.head?_drop] at hx
    rcases hend with he | he
    · rw [List.getElem?_eq_none (by omega)] at hx; cases hx
    · rw [List.getD_eq_getElem?_getD, hx] at he
      exact he
  rw [hsp, List.replicate_succ, List.cons_append, runs_cons, (tw_run _ m _ hd).1, (tw_run _ m _ hd).2, List.length_replicate, Nat.add_comm]
theorem runs_pos (l : List Nat) : ∀ r ∈ runs l, 0 < r.2 := by
  unfold runs
  generalize l.length = f
  induction f generalizing l with
  | zero => intro r hr; simp [runsF] at hr
  | succ f ih =>
    cases l with
    | nil => intro r hr; simp [runsF] at hr
    | cons a l =>
      intro r hr
      simp only [runsF, List.mem_cons] at hr
      rcases hr with rfl | hr
      · show 0 < 1 + _; omega
      · exact ih _ r hr
def unrun (r : List (Nat × Nat)) : List Nat := r.flatMap fun x => List.replicate x.2 x.1
theorem runs_unrun (l : List Nat) : unrun (runs l) = l := by
  unfold runs
  have : ∀ f (l : List Nat), l.length ≤ f → unrun (runsF f l) = l := by
    intro f
    induction f with
    | zero =>
      intro l h
      have : l = [] := List.eq_nil_of_length_eq_zero (by omega)
      subst this; rfl
    | succ f ih =>
      intro l h
      cases l with
      | nil => rfl
      | cons a l =>
        have h1 := dropWhile_len a l
        simp only [List.length_cons] at h
        have h2 := ih (l.dropWhile fun x => x == a) (by omega)
        have h3 : l.takeWhile (fun x => x == a) = List.replicate (l.takeWhile fun x => x == a).length a := by
          apply List.eq_replicate_of_mem
          intro x hx
          have := List.all_eq_true.1 (List.all_takeWhile (l := l) (p := fun x => x == a)) x hx
          simpa using this
        unfold unrun at *
        simp only [runsF, List.flatMap_cons, h2]
        rw [Nat.add_comm, List.replicate_succ, ← h3, List.cons_append, List.takeWhile_append_dropWhile]
  exact this _ _ (Nat.le_refl _)
def pickS (k m : Nat) : Sg := if k = 0 ∧ 11 ≤ m then (18, min m 138 - 11) else if k = 0 ∧ 3 ≤ m then (17, m - 3) else if 3 ≤ m then (16, min m 6 - 3) else (k, 0)
theorem pickS_times (k m : Nat) (hk : k ≤ 15) (hm : 0 < m) : times (pickS k m) ≤ m ∧ 1 ≤ times (pickS k m) ∧ SgOk (pickS k m) := by
  unfold pickS
  split
  · next h => simp only [times, SgOk, rbits]; simp; omega
  · split
    · next h1 h => simp only [times, SgOk, rbits]; simp; omega
    · split
      · next h1 h2 h => simp only [times, SgOk, rbits]; simp; omega
      · next h1 h2 h =>
        simp only [times, SgOk, rbits]
        rw [if_pos (by omega), if_neg (by omega), if_neg (by omega), if_neg (by omega)]
        simp; omega
theorem pickS_k (k m : Nat) (hk : k ≤ 15) (o : List Nat) (ho : k ≠ 0 → ∃ o', o = o' ++ [k]) : ¬ ((pickS k m).1 = 16 ∧ o.length = 0 ∧ k ≠ 0) ∧ (k ≠ 0 ∨ m < 3 ∨ (pickS k m).1 ≠ 16) ∧ ((pickS k m).1 = 16 → k ≠ 0) ∧ kOf (pickS k m).1 o = k := by
  unfold pickS
  have hlast : k ≠ 0 → o.getD (o.length - 1) 0 = k ∧ o.length ≠ 0 := by
    intro h
    obtain ⟨o', rfl⟩ := ho h
    simp
  split
  · next h => refine ⟨by simp, by simp, by simp, ?_⟩; unfold kOf; simp; omega
  · split
    · next h1 h => refine ⟨by simp, by simp, by simp, ?_⟩; unfold kOf; simp; omega
    · split
      · next h1 h2 h =>
        have hk0 : k ≠ 0 := by omega
        obtain ⟨h3, h4⟩ := hlast hk0
        refine ⟨by simp [h4], .inl hk0, fun _ => hk0, ?_⟩
        unfold kOf; simp only [if_true]; exact h3
      · next h1 h2 h =>
        refine ⟨by simp; omega, by omega, by simp; omega, ?_⟩
        unfold kOf
        rw [if_neg (by show ¬ k = 16; omega), if_neg (by show ¬ 16 < k; omega)]
def packM (k : Nat) : Nat → Nat → List Sg
  | 0, _ => []
  | f + 1, m => if m = 0 then [] else pickS k m :: packM k f (m - times (pickS k m))
theorem packM_more (k : Nat) (hk : k ≤ 15) : ∀ f g m, m ≤ f → m ≤ g → packM k f m = packM k g m := by
  intro f
  induction f with
  | zero =>
    intro g m h1 h2
    obtain rfl : m = 0 := by omega
    cases g <;> simp [packM]
  | succ f ih =>
    intro g m h1 h2
    cases g with
    | zero =>
      obtain rfl : m = 0 := by omega
      simp [packM]
    | succ g =>
      simp only [packM]
      split
      · rfl
      · next h0 =>
        have := pickS_times k m hk (by omega)
        rw [ih g _ (by omega) (by omega)]
def packK (k m : Nat) : List Sg := packM k m m
theorem packK_step (k m : Nat) (hk : k ≤ 15) (hm : 0 < m) : packK k m = pickS k m :: packK k (m - times (pickS k m)) := by
  obtain ⟨n, rfl⟩ : ∃ n, m = n + 1 := ⟨m - 1, by omega⟩
  have := pickS_times k (n + 1) hk hm
  unfold packK
  rw [packM, if_neg (by omega), packM_more k hk n (n + 1 - times (pickS k (n + 1))) _ (by omega) (Nat.le_refl _)]
def packR (r : Nat × Nat) : List Sg := if 0 < r.1 then (r.1, 0) :: packK r.1 (r.2 - 1) else packK 0 r.2
def pack (l : List Nat) : List Sg := (runs l).flatMap packR
theorem packK_ex (k : Nat) (hk : k ≤ 15) : ∀ m (o : List Nat), (k ≠ 0 → ∃ o', o = o' ++ [k]) → exS (packK k m) o = some (o ++ List.replicate m k) ∧ (∀ s ∈ packK k m, SgOk s) ∧ (packK k m).length ≤ m := by
  intro m
  induction m using Nat.strongRecOn with
  | ind m ih =>
    intro o ho
    by_cases hm : m = 0
    · subst hm
      simp [packK, packM, exS]
    · have h1 := pickS_times k m hk (by omega)
      have h2 := pickS_k k m hk o ho
      rw [packK_step k m hk (by omega)]
      have h3 := ih (m - times (pickS k m)) (by omega) (o ++ List.replicate (times (pickS k m)) k) (fun h => ⟨o ++ List.replicate (times (pickS k m) - 1) k, by
        rw [List.append_assoc]
        congr 1
        rw [show [k] = List.replicate 1 k from rfl, List.replicate_append_replicate, show times (pickS k m) - 1 + 1 = times (pickS k m) by omega]⟩)
      refine ⟨?_, ?_, ?_⟩
      · rw [exS, if_neg, h2.2.2.2, h3.1, List.append_assoc, List.replicate_append_replicate, show times (pickS k m) + (m - times (pickS k m)) = m by omega]
        rintro ⟨h4, h5⟩
        exact h2.1 ⟨h4, h5, h2.2.2.1 h4⟩
      · intro s hs
        rcases List.mem_cons.1 hs with rfl | hs
        · exact h1.2.2
        · exact h3.2.1 s hs
      · rw [List.length_cons]
        have := h3.2.2
        omega
theorem packR_ex (r : Nat × Nat) (hk : r.1 ≤ 15) (hn : 0 < r.2) (o : List Nat) : exS (packR r) o = some (o ++ List.replicate r.2 r.1) ∧ (∀ s ∈ packR r, SgOk s) ∧ (packR r).length ≤ r.2 := by
  unfold packR
  split
  · next h0 =>
    have h1 := packK_ex r.1 hk (r.2 - 1) (o ++ [r.1]) (fun _ => ⟨o, rfl⟩)
    refine ⟨?_, ?_, ?_⟩
    · have ht : times (r.1, 0) = 1 := by unfold times; rw [if_pos (by show r.1 < 16; omega)]
      have hk2 : kOf r.1 o = r.1 := by unfold kOf; rw [if_neg (by omega), if_neg (by omega)]
      rw [exS, if_neg (by show ¬ (r.1 = 16 ∧ _); omega), ht]
      show exS (packK r.1 (r.2 - 1)) (o ++ List.replicate 1 (kOf r.1 o)) = _
      rw [hk2, show List.replicate 1 r.1 = [r.1] from rfl, h1.1, List.append_assoc]
      congr 2
      rw [show [r.1] = List.replicate 1 r.1 from rfl, List.replicate_append_replicate, show 1 + (r.2 - 1) = r.2 by omega]
    · intro s hs
      rcases List.mem_cons.1 hs with rfl | hs
      · unfold SgOk rbits
        refine ⟨by show r.1 ≤ 18; omega, ?_⟩
        show 0 < 2 ^ _
        exact Nat.pos_of_ne_zero (by simp)
      · exact h1.2.1 s hs
    · rw [List.length_cons]; have := h1.2.2; omega
  · next h0 =>
    have hr : r.1 = 0 := by omega
    have h1 := packK_ex 0 (by omega) r.2 o (fun h => absurd rfl h)
    rw [hr]
    exact h1
theorem packs_ex (rs : List (Nat × Nat)) (hk : ∀ r ∈ rs, r.1 ≤ 15) (hn : ∀ r ∈ rs, 0 < r.2) : ∀ o, exS (rs.flatMap packR) o = some (o ++ unrun rs) ∧ (∀ s ∈ rs.flatMap packR, SgOk s) ∧ (rs.flatMap packR).length ≤ (unrun rs).length := by
  induction rs with
  | nil => intro o; simp [exS, unrun]
  | cons r rs ih =>
    intro o
    have h1 := packR_ex r (hk r (by simp)) (hn r (by simp)) o
    have h2 := ih (fun x hx => hk x (by simp [hx])) (fun x hx => hn x (by simp [hx])) (o ++ List.replicate r.2 r.1)
    unfold unrun at *
    simp only [List.flatMap_cons]
    refine ⟨?_, ?_, ?_⟩
    · rw [exS_append, h1.1, Option.bind_some, h2.1, List.append_assoc]
    · intro s hs
      rcases List.mem_append.1 hs with hs | hs
      · exact h1.2.1 s hs
      · exact h2.2.1 s hs
    · rw [List.length_append, List.length_append, List.length_replicate]
      have := h1.2.2; have := h2.2.2; omega
theorem runs_mem (l : List Nat) (h : ∀ x ∈ l, x ≤ 15) : ∀ r ∈ runs l, r.1 ≤ 15 := by
  intro r hr
  have h1 := runs_pos l r hr
  refine h r.1 ?_
  rw [← runs_unrun l]
  unfold unrun
  rw [List.mem_flatMap]
  exact ⟨r, hr, List.mem_replicate.2 ⟨by omega, rfl⟩⟩
theorem pack_unp (l : List Nat) (h : ∀ x ∈ l, x ≤ 15) : unp l.length (pack l) [] = some l ∧ (∀ s ∈ pack l, SgOk s) ∧ (pack l).length ≤ l.length := by
  have h1 := packs_ex (runs l) (runs_mem l h) (runs_pos l) []
  rw [runs_unrun, List.nil_append] at h1
  exact ⟨unp_exS _ _ _ _ h1.1 rfl, h1.2⟩
end Go.Proofs.YtendielanacflaaGreat.M07

namespace Go.Proofs.YtendielanacflaaGreat
open Go.RowKit Go.Shelf M04 M05
attribute [local go_sem] Oper.semAt_some
set_option linter.unusedVariables false
set_option linter.unusedSimpArgs false
def lstF (f : List Nat) : Nat → Int
  | 0 => -1
  | k + 1 => if 0 < f.getD k 0 then (k : Int) else lstF f k
def fstF (f : List Nat) : Nat → Nat → Int
  | _, 0 => -1
  | k, n + 1 => if 0 < f.getD k 0 then (k : Int) else fstF f (k + 1) n
set_option maxRecDepth 100000 in
theorem last_index (a : Option Addr) (cap : Nat) (l : List Nat) (w : World) (hr : RowN .i64 w a cap l) (hl : l.length ≤ 100000) :
    Calls Tryz.prog 95 #[.slice a l.length cap] w fun e w' => e = .returned (.int .i64 (lstF l l.length)) ∧ w' = w := by
  obtain ⟨T, hT⟩ : ∃ T, lstF l l.length = T := ⟨_, rfl⟩
  have HT := Lib.hid hT
  rw [hT]
  clear hT
  go_enter Tryz.func95, Tryz.ntmps95
  go_wp2_with fail
  go_loop [2, 3] (fun _ i => ∃ k : Nat, k ≤ l.length ∧ i = .int .i64 ((k : Int) - 1) ∧ lstF l k = T) (fun _ i => (intOf i + 1).toNat)
  case atStart => exact ⟨l.length, Nat.le_refl _, by go_num, HT.out⟩
  case round =>
    clear HT
    obtain ⟨k, hk, rfl, ht⟩ := hrel
    have HT := Lib.hid ht
    clear ht
    by_cases h0 : 0 < k
    · obtain ⟨j, rfl⟩ : ∃ j, k = j + 1 := ⟨k - 1, by omega⟩
      have hj : j < l.length := by omega
      obtain ⟨b, off, rfl, hb, hck⟩ := hr.at hj
      have hg : l.getD j 0 = l[j] := by rw [List.getD_eq_getElem?_getD, List.getElem?_eq_getElem hj]; rfl
      have HT2 := Lib.hid (show (if 0 < l.getD j 0 then (j : Int) else lstF l j) = T from HT.out)
      rw [hg] at HT2
      clear hr HT hg h0
      have e1 : ((j + 1 : Nat) : Int) - 1 = (j : Int) := by omega
      rw [e1]
      have qj : (j : Int) < (l.length : Int) := by omega
      have b0 : decide ((0 : Int) ≤ (j : Int)) = true := by simp
      clear e1
      generalize l[j] = x at *
      by_cases hx : 0 < x
      · have b1 : decide (0 < x) = true := by simpa using hx
        rw [if_pos hx] at HT2
        clear hx
        go_wp2
        go_ret
        exact ⟨by rw [← HT2.out]; rfl, rfl⟩
      · have b1 : decide (0 < x) = false := by simpa using hx
        rw [if_neg hx] at HT2
        clear hx
        go_wp2
        go_round
        case rel => exact ⟨j, by omega, by go_num, HT2.out⟩
        case measure => simp [intOf]
    · obtain rfl : k = 0 := by omega
      have HT2 := Lib.hid (show (-1 : Int) = T from HT.out)
      clear HT h0
      have b0 : decide ((0 : Int) ≤ ((0 : Nat) : Int) - 1) = false := rfl
      go_wp2
      go_ret
      exact ⟨by rw [← HT2.out]; rfl, rfl⟩
set_option maxRecDepth 100000 in
theorem sign_pos (x : Nat) (w : World) : Calls Tryz.prog 94 #[.int .i64 (x : Nat)] w fun e w' => e = .returned (.bool (decide (0 < x))) ∧ w' = w := by
  go_enter Tryz.func94, Tryz.ntmps94
  go_wp2
  go_ret
  simp
set_option maxRecDepth 100000 in
theorem first_index (a : Option Addr) (cap : Nat) (l : List Nat) (w : World) (hr : RowN .i64 w a cap l) :
    Calls Tryz.prog 93 #[.slice a l.length cap, .func (Fn.func 94) #[] #[]] w fun e w' => e = .returned (.int .i64 (fstF l 0 l.length)) ∧ w' = w := by
  have hlen := hr.len
  obtain ⟨T, hT⟩ : ∃ T, fstF l 0 l.length = T := ⟨_, rfl⟩
  have HT := Lib.hid hT
  rw [hT]
  clear hT
  go_enter Tryz.func93, Tryz.ntmps93
  go_wp2_with fail
  go_loop [5, 8] (fun _ i => ∃ k : Nat, k ≤ l.length ∧ i = .int .i64 k ∧ fstF l k (l.length - k) = T) (fun _ i => l.length - (intOf i).toNat)
  case atStart => exact ⟨0, by omega, rfl, HT.out⟩
  case round =>
    clear HT
    obtain ⟨k, hk, rfl, ht⟩ := hrel
    have HT := Lib.hid ht
    clear ht
    by_cases hlt : k < l.length
    · obtain ⟨b, off, rfl, hb, hck⟩ := hr.at hlt
      clear hr
      have hg : l.getD k 0 = l[k] := by rw [List.getD_eq_getElem?_getD, List.getElem?_eq_getElem hlt]; rfl
      obtain ⟨m, hm⟩ : ∃ m, l.length - k = m + 1 := ⟨l.length - k - 1, by omega⟩
      have HT2 := Lib.hid (show (if 0 < l.getD k 0 then (k : Int) else fstF l (k + 1) m) = T from by have := HT.out; rw [hm] at this; exact this)
      have HM := Lib.hid (show m = l.length - (k + 1) from by omega)
      rw [hg] at HT2
      clear hm HT hg
      generalize l[k] = x at *
      by_cases hx : 0 < x
      · have hd : decide (0 < x) = true := by simpa using hx
        rw [if_pos hx] at HT2
        clear hx
        go_wp2_with (go_at_call 94; refine (sign_pos x _).mono ?_; rintro e w' ⟨rfl, rfl⟩; rw [hd])
        go_ret
        exact ⟨by rw [← HT2.out]; rfl, rfl⟩
      · have hd : decide (0 < x) = false := by simpa using hx
        rw [if_neg hx] at HT2
        clear hx
        go_wp2_with (go_at_call 94; refine (sign_pos x _).mono ?_; rintro e w' ⟨rfl, rfl⟩; rw [hd])
        go_round
        case rel => exact ⟨k + 1, by omega, by go_num, by rw [← HM.out]; exact HT2.out⟩
        case measure => simp [intOf]; omega
    · have b1 : decide (k < l.length) = false := by simp; omega
      have HT2 := Lib.hid (show (-1 : Int) = T from by have := HT.out; rw [show l.length - k = 0 by omega] at this; exact this)
      clear HT
      go_wp2
      go_ret
      exact ⟨by rw [← HT2.out]; rfl, rfl⟩
end Go.Proofs.YtendielanacflaaGreat
namespace Go.Proofs.YtendielanacflaaGreat.M01
open M04 M06 M10
set_option linter.unusedVariables false
theorem bit_test (bs : List Nat) (i : Nat) : bit bs i = ((bs.getD (i / 8) 0).testBit (i % 8)).toNat := by
  unfold bit; rw [Nat.toNat_testBit]
theorem bit_out (bs : List Nat) (i : Nat) (h : 8 * bs.length ≤ i) : bit bs i = 0 := by
  unfold bit
  rw [List.getD_eq_getElem?_getD, List.getElem?_eq_none (by omega)]; simp
def WZ (s : Wst) : Prop := ∀ i, s.2 ≤ i → bit s.1 i = 0
def ExtW (s s' : Wst) : Prop := s.2 ≤ s'.2 ∧ ∀ i, i < s.2 → bit s'.1 i = bit s.1 i
theorem ExtW.refl (s : Wst) : ExtW s s := ⟨Nat.le_refl _, fun _ _ => rfl⟩
theorem ExtW.trans {s t u : Wst} (h : ExtW s t) (h2 : ExtW t u) : ExtW s u :=
  ⟨Nat.le_trans h.1 h2.1, fun i hi => (h2.2 i (Nat.lt_of_lt_of_le hi h.1)).trans (h.2 i hi)⟩
theorem bit_roomy (s : Wst) (i : Nat) : bit (roomy s) i = bit s.1 i := by
  unfold roomy
  split
  · unfold bit
    congr 2
    rw [List.getD_eq_getElem?_getD, List.getD_eq_getElem?_getD]
    by_cases h : i / 8 < s.1.length
    · rw [List.getElem?_append_left h]
    · rw [List.getElem?_eq_none (l := s.1) (by omega)]
      by_cases h2 : i / 8 = s.1.length
      · rw [h2, List.getElem?_concat_length]; rfl
      · rw [List.getElem?_eq_none (by simp; omega)]
  · rfl
theorem bit_addBit {s : Wst} (h : WOk s) (hz : WZ s) {b : Nat} (hb : b < 2) (i : Nat) : bit (addBit s b).1 i = if i = s.2 then b else bit s.1 i := by
  have hl := roomy_len h
  rw [← bit_roomy s i]
  show bit ((roomy s).set (s.2 / 8) ((roomy s).getD (s.2 / 8) 0 ||| b * 2 ^ (s.2 % 8))) i = _
  by_cases h8 : i / 8 = s.2 / 8
  · rw [bit_test]
    have hget : ((roomy s).set (s.2 / 8) ((roomy s).getD (s.2 / 8) 0 ||| b * 2 ^ (s.2 % 8))).getD (i / 8) 0 = (roomy s).getD (i / 8) 0 ||| b * 2 ^ (s.2 % 8) := by
      rw [h8, List.getD_eq_getElem?_getD, List.getElem?_set_self (by omega)]; rfl
    rw [hget, Nat.testBit_or]
    have hb2 : (b * 2 ^ (s.2 % 8)).testBit (i % 8) = (decide (b = 1) && decide (s.2 % 8 = i % 8)) := by
      rcases (show b = 0 ∨ b = 1 by omega) with rfl | rfl
      · simp
      · rw [Nat.one_mul, Nat.testBit_two_pow]; simp
    rw [hb2]
    by_cases hi : i = s.2
    · subst hi
      have h0 := hz s.2 (Nat.le_refl _)
      rw [← bit_roomy s, bit_test] at h0
      have h1 : ((roomy s).getD (s.2 / 8) 0).testBit (s.2 % 8) = false := by
        cases hc : ((roomy s).getD (s.2 / 8) 0).testBit (s.2 % 8)
        · rfl
        · rw [hc] at h0; cases h0
      rw [h1, if_pos rfl]
      rcases (show b = 0 ∨ b = 1 by omega) with rfl | rfl <;> simp
    · rw [if_neg hi, bit_test]
      have hm : ¬ s.2 % 8 = i % 8 := by omega
      simp [hm]
  · rw [if_neg (fun e => h8 (by rw [e]))]
    unfold bit
    congr 2
    rw [List.getD_eq_getElem?_getD, List.getElem?_set_ne (fun e => h8 e.symm), ← List.getD_eq_getElem?_getD]
theorem addBit_ext {s : Wst} (h : WOk s) (hz : WZ s) {b : Nat} (hb : b < 2) : WZ (addBit s b) ∧ ExtW s (addBit s b) ∧ bit (addBit s b).1 s.2 = b := by
  have h2 : (addBit s b).2 = s.2 + 1 := rfl
  refine ⟨fun i hi => ?_, ⟨by omega, fun i hi => ?_⟩, ?_⟩
  · rw [bit_addBit h hz hb, if_neg (by omega)]; exact hz i (by omega)
  · rw [bit_addBit h hz hb, if_neg (by omega)]
  · rw [bit_addBit h hz hb, if_pos rfl]
theorem addNum_ext {s : Wst} (h : WOk s) (hz : WZ s) (v n : Nat) : WZ (addNum s v n) ∧ ExtW s (addNum s v n) ∧ ∀ j, j < n → bit (addNum s v n).1 (s.2 + j) = v / 2 ^ j % 2 := by
  induction n with
  | zero => exact ⟨hz, .refl _, fun j hj => absurd hj (by omega)⟩
  | succ n ih =>
    obtain ⟨i1, i2, i3⟩ := ih
    obtain ⟨a1, a2, a3⟩ := addBit_ext (addNum_ok h v n) i1 (show v / 2 ^ n % 2 < 2 from Nat.mod_lt _ (by decide))
    refine ⟨a1, i2.trans a2, fun j hj => ?_⟩
    show bit (addBit (addNum s v n) (v / 2 ^ n % 2)).1 (s.2 + j) = _
    by_cases hjn : j = n
    · subst hjn
      rw [addNum_len] at a3; exact a3
    · rw [a2.2 _ (by rw [addNum_len]; omega)]; exact i3 j (by omega)
theorem num_of_bits (bs : List Nat) (at_ v : Nat) : ∀ n, (∀ j, j < n → bit bs (at_ + j) = v / 2 ^ j % 2) → num bs at_ n = v % 2 ^ n := by
  intro n
  induction n with
  | zero => intro _; simp [num, Nat.mod_one]
  | succ n ih =>
    intro h
    rw [num, ih (fun j hj => h j (by omega)), h n (by omega), Nat.pow_succ, Nat.mod_mul, Nat.mul_comm]
theorem num_laid {s t : Wst} (h : WOk s) (hz : WZ s) (v n : Nat) (hv : v < 2 ^ n) (ht : ExtW (addNum s v n) t) : num t.1 s.2 n = v := by
  obtain ⟨_, _, h3⟩ := addNum_ext h hz v n
  rw [num_of_bits t.1 s.2 v n (fun j hj => by rw [ht.2 _ (by rw [addNum_len]; omega)]; exact h3 j hj), Nat.mod_eq_of_lt hv]
theorem addWord_ext {s : Wst} (h : WOk s) (hz : WZ s) (x n : Nat) : ∀ m, m ≤ n → WOk (addWord s x n m) ∧ WZ (addWord s x n m) ∧ ExtW s (addWord s x n m) ∧ ∀ j, j < m → bit (addWord s x n m).1 (s.2 + j) = x / 2 ^ (n - 1 - j) % 2 := by
  intro m
  induction m with
  | zero => intro _; exact ⟨h, hz, .refl _, fun j hj => absurd hj (by omega)⟩
  | succ m ih =>
    intro hm
    obtain ⟨i0, i1, i2, i3⟩ := ih (by omega)
    obtain ⟨a1, a2, a3⟩ := addNum_ext i0 i1 (x / 2 ^ (n - 1 - m) % 2) 1
    refine ⟨addNum_ok i0 _ _, a1, i2.trans a2, fun j hj => ?_⟩
    show bit (addNum (addWord s x n m) (x / 2 ^ (n - 1 - m) % 2) 1).1 (s.2 + j) = _
    by_cases hjn : j = m
    · subst hjn
      have := a3 0 (by omega)
      rw [addWord_len] at this
      simpa using this
    · rw [a2.2 _ (by rw [addWord_len]; omega)]; exact i3 j (by omega)
theorem sym_bits (l bs : List Nat) (h20 : ∀ x ∈ l, x ≤ 20) (s at_ : Nat) (hs : s < l.length) (h0 : 0 < l.getD s 0) (hw : weight l ≤ 2 ^ 20)
    (hb : ∀ j, j < l.getD s 0 → bit bs (at_ + j) = word l s / 2 ^ (l.getD s 0 - 1 - j) % 2) (hlen : at_ + l.getD s 0 ≤ 8 * bs.length) : sym l bs at_ = some (s, at_ + l.getD s 0) := by
  have hL : l.getD s 0 ≤ 20 := M04.getD_le h20 s
  have hsm := word_small l s hs h20 hw
  generalize hLe : l.getD s 0 = L at *
  have key : ∀ d n, n + d = L → decF (tabOf l) bs (22 - n) (word l s / 2 ^ (L - n)) n (at_ + n) = some (s, at_ + L) := by
    intro d
    induction d with
    | zero =>
      intro n hn
      obtain rfl : n = L := by omega
      obtain ⟨k, hk⟩ : ∃ k, 22 - n = k + 1 := ⟨21 - n, by omega⟩
      rw [hk, decF_hit l bs h20 k _ n (at_ + n) s hs ⟨by omega, by omega, by rw [hLe]⟩ hLe.symm]
    | succ d ih =>
      intro n hn
      obtain ⟨k, hk⟩ : ∃ k, 22 - n = k + 1 := ⟨21 - n, by omega⟩
      rw [hk, decF_on l bs h20 k _ n (at_ + n) s hs ⟨by omega, by omega, by rw [hLe]⟩ (by omega), if_pos (by omega), hb n (by omega)]
      have h1 := ih (n + 1) (by omega)
      have h2 : 2 * (word l s / 2 ^ (L - n)) + word l s / 2 ^ (L - 1 - n) % 2 = word l s / 2 ^ (L - (n + 1)) := by
        rw [show L - n = (L - (n + 1)) + 1 by omega, Nat.pow_succ, ← Nat.div_div_eq_div_mul, show L - 1 - n = L - (n + 1) by omega]
        omega
      rw [h2, show k = 22 - (n + 1) by omega]
      exact h1
  have h3 := key L 0 (by omega)
  simp only [Nat.sub_zero, Nat.add_zero] at h3
  rw [hsm] at h3
  exact h3
theorem addSym_ext {s : Wst} (h : WOk s) (hz : WZ s) (l : List Nat) (c : Nat) : WOk (addSym l s c) ∧ WZ (addSym l s c) ∧ ExtW s (addSym l s c) ∧ (addSym l s c).2 = s.2 + l.getD c 0 := by
  obtain ⟨a, b, d, _⟩ := addWord_ext h hz ((words l).getD c 0) (l.getD c 0) _ (Nat.le_refl _)
  exact ⟨a, b, d, addWord_len _ _ _ _⟩
theorem ext_len {s t : Wst} (h : WOk t) (he : ExtW s t) : s.2 ≤ 8 * t.1.length := by
  have := h.1; have := he.1; omega
theorem sym_laid {s t : Wst} (h : WOk s) (hz : WZ s) (l : List Nat) (h20 : ∀ x ∈ l, x ≤ 20) (hw : weight l ≤ 2 ^ 20) (c : Nat) (hc : c < l.length) (h0 : 0 < l.getD c 0) (ht : ExtW (addSym l s c) t) (hk : WOk t) : sym l t.1 s.2 = some (c, s.2 + l.getD c 0) := by
  obtain ⟨_, _, _, h3⟩ := addWord_ext h hz ((words l).getD c 0) (l.getD c 0) _ (Nat.le_refl _)
  have hwd : (words l).getD c 0 = word l c := by
    rw [List.getD_eq_getElem?_getD, List.getElem?_eq_getElem (by rw [words_length]; exact hc)]
    exact words_getElem l c _
  have hl2 : (addSym l s c).2 = s.2 + l.getD c 0 := addWord_len _ _ _ _
  refine sym_bits l t.1 h20 c s.2 hc h0 hw (fun j hj => ?_) ?_
  · rw [ht.2 _ (by rw [hl2]; omega), ← hwd]
    exact h3 j hj
  · rw [← hl2]; exact ext_len hk ht
end Go.Proofs.YtendielanacflaaGreat.M01
namespace Go.Proofs.YtendielanacflaaGreat.M09
open M01 M04 M05 M06 M07 M10
set_option linter.unusedVariables false
def sgC (l : List Sg) : List Nat := (List.range 19).map fun c => (l.map fun s => s.1).count c
theorem sgC_len (l : List Sg) : (sgC l).length = 19 := by simp [sgC]
theorem sgC_get (l : List Sg) (c : Nat) (h : c < 19) : (sgC l).getD c 0 = (l.map fun s => s.1).count c := by
  rw [List.getD_eq_getElem?_getD, List.getElem?_eq_getElem (by rw [sgC_len]; exact h)]; simp [sgC]
theorem sgC_snoc (l : List Sg) (s : Sg) (hs : s.1 < 19) : sgC (l ++ [s]) = (sgC l).set s.1 ((sgC l).getD s.1 0 + 1) := by
  apply List.ext_getElem
  · simp [sgC]
  · intro i h1 h2
    rw [sgC_len] at h1
    have g : ∀ l' : List Sg, ∀ h : i < (sgC l').length, (sgC l')[i] = (l'.map fun s => s.1).count i := by intro l' h; simp [sgC]
    rw [g, List.getElem_set, g, sgC_get l s.1 hs]
    rw [List.map_append, List.count_append]
    by_cases hi : s.1 = i
    · rw [if_pos hi, hi]; simp [hi]
    · rw [if_neg hi]; simp [hi]
theorem sgC_le (l : List Sg) : ∀ x ∈ sgC l, x ≤ l.length := by
  intro x hx
  unfold sgC at hx
  obtain ⟨c, _, rfl⟩ := List.mem_map.1 hx
  have := List.count_le_length (a := c) (l := l.map fun s => s.1)
  rw [List.length_map] at this; exact this
def sg1 (f : List Nat) (i : Nat) : List Nat := f.set i (f.getD i 0 + 1)
def sgI (f : List Nat) : Nat → List Nat
  | 0 => f
  | i + 1 => sg1 (sgI f i) i
def oneB (f : List Nat) : Bool := fstF f 0 f.length == lstF f f.length
def sgN (f : List Nat) : Nat := if oneB (sgI f 0) = true then (if oneB (sgI f 1) = true then 2 else 1) else 0
def sgF (f : List Nat) : List Nat := sgI f (sgN f)
theorem sgI_len (f : List Nat) (i : Nat) : (sgI f i).length = f.length := by
  induction i with
  | zero => rfl
  | succ i ih => show ((sgI f i).set i _).length = _; rw [List.length_set, ih]
theorem sgI_get (f : List Nat) (i c : Nat) (hi : i ≤ f.length) : (sgI f i).getD c 0 = f.getD c 0 + if c < i then 1 else 0 := by
  induction i with
  | zero => simp [sgI]
  | succ i ih =>
    show ((sgI f i).set i ((sgI f i).getD i 0 + 1)).getD c 0 = _
    rw [List.getD_eq_getElem?_getD]
    by_cases h : c = i
    · subst h
      rw [List.getElem?_set_self (by rw [sgI_len]; omega), if_pos (by omega), ih (by omega), if_neg (by omega)]
      rfl
    · rw [List.getElem?_set_ne (fun e => h e.symm), ← List.getD_eq_getElem?_getD, ih (by omega)]
      by_cases h2 : c < i
      · rw [if_pos h2, if_pos (by omega)]
      · rw [if_neg h2, if_neg (by omega)]
theorem lstF_ge (f : List Nat) (n c : Nat) (hc : c < n) (h : 0 < f.getD c 0) : (c : Int) ≤ lstF f n := by
  induction n with
  | zero => omega
  | succ n ih =>
    unfold lstF
    split
    · omega
    · next hn =>
      by_cases hcn : c = n
      · subst hcn; exact absurd h hn
      · exact ih (by omega)
theorem lstF_mem (f : List Nat) (n : Nat) : lstF f n = -1 ∨ ∃ c : Nat, lstF f n = c ∧ c < n ∧ 0 < f.getD c 0 := by
  induction n with
  | zero => exact .inl rfl
  | succ n ih =>
    unfold lstF
    split
    · next h => exact .inr ⟨n, rfl, by omega, h⟩
    · rcases ih with h | ⟨c, h1, h2, h3⟩
      · exact .inl h
      · exact .inr ⟨c, h1, by omega, h3⟩
theorem fstF_mem (f : List Nat) (n k : Nat) : fstF f k n = -1 ∨ ∃ c : Nat, fstF f k n = c ∧ k ≤ c ∧ c < k + n ∧ 0 < f.getD c 0 := by
  induction n generalizing k with
  | zero => exact .inl rfl
  | succ n ih =>
    unfold fstF
    split
    · next h => exact .inr ⟨k, rfl, by omega, by omega, h⟩
    · rcases ih (k + 1) with h | ⟨c, h1, h2, h3, h4⟩
      · exact .inl h
      · exact .inr ⟨c, h1, by omega, by omega, h4⟩
theorem fstF_le (f : List Nat) (n k c : Nat) (h1 : k ≤ c) (h2 : c < k + n) (h : 0 < f.getD c 0) : fstF f k n ≤ (c : Int) := by
  induction n generalizing k with
  | zero => omega
  | succ n ih =>
    unfold fstF
    split
    · omega
    · next hn =>
      by_cases hck : c = k
      · subst hck; exact absurd h hn
      · exact ih (k + 1) (by omega) (by omega)
theorem oneB_two (f : List Nat) (a b : Nat) (hab : a < b) (hb : b < f.length) (ha : 0 < f.getD a 0) (hb0 : 0 < f.getD b 0) : oneB f = false := by
  unfold oneB
  have h1 := fstF_le f f.length 0 a (by omega) (by omega) ha
  have h2 := lstF_ge f f.length b hb hb0
  exact beq_eq_false_iff_ne.2 (by omega)
theorem oneB_sg2 (f : List Nat) (h : 2 ≤ f.length) : oneB (sgI f 2) = false :=
  oneB_two _ 0 1 (by omega) (by rw [sgI_len]; omega) (by rw [sgI_get f 2 0 h]; simp) (by rw [sgI_get f 2 1 h]; simp)
theorem sgN_le (f : List Nat) : sgN f ≤ 2 := by unfold sgN; split <;> (try split) <;> omega
theorem oneB_sgF (f : List Nat) (h : 2 ≤ f.length) : oneB (sgF f) = false := by
  unfold sgF sgN
  by_cases h0 : oneB (sgI f 0) = true
  · rw [if_pos h0]
    by_cases h1 : oneB (sgI f 1) = true
    · rw [if_pos h1]; exact oneB_sg2 f h
    · rw [if_neg h1]; simpa using h1
  · rw [if_neg h0]; simpa using h0
theorem two_of_oneB (f : List Nat) (h : oneB f = false) : 2 ≤ (used f).length := by
  unfold oneB at h
  have h := beq_eq_false_iff_ne.1 h
  rcases fstF_mem f f.length 0 with h1 | ⟨a, h1, _, h2, h3⟩
  · rcases lstF_mem f f.length with h4 | ⟨b, h4, h5, h6⟩
    · exact absurd (h1.trans h4.symm) h
    · have h7 : ∀ n k, k ≤ b → b < k + n → fstF f k n ≠ -1 := by
        intro n
        induction n with
        | zero => intro k g1 g2; omega
        | succ n ih =>
          intro k g1 g2
          unfold fstF
          split
          · omega
          · next hn =>
            by_cases e : b = k
            · subst e; exact absurd h6 hn
            · exact ih (k + 1) (by omega) (by omega)
      exact absurd h1 (h7 f.length 0 (by omega) (by omega))
  · rcases lstF_mem f f.length with h4 | ⟨b, h4, h5, h6⟩
    · have := lstF_ge f f.length a (by omega) h3; omega
    · have hab : a ≠ b := fun e => h (by rw [h1, h4, e])
      have ha : a ∈ used f := by unfold used; simp; exact ⟨by omega, by simpa [List.getD_eq_getElem?_getD] using h3⟩
      have hb : b ∈ used f := by unfold used; simp; exact ⟨by omega, by simpa [List.getD_eq_getElem?_getD] using h6⟩
      match hu : used f with
      | [] => rw [hu] at ha; cases ha
      | [x] =>
        rw [hu] at ha hb
        exact absurd ((List.mem_singleton.1 ha).trans (List.mem_singleton.1 hb).symm) hab
      | _ :: _ :: _ => simp
theorem used_le (f : List Nat) : (used f).length ≤ f.length := by
  have := List.length_filter_le (fun s => decide (0 < f.getD s 0)) (List.range f.length)
  rw [List.length_range] at this; exact this
def sgLens (l : List Sg) : List Nat := limL (sgF (sgC l)) 7
theorem sgF_len (l : List Sg) : (sgF (sgC l)).length = 19 := by unfold sgF; rw [sgI_len, sgC_len]
theorem sgF_rar (l : List Sg) : 2 ≤ (rar (sgF (sgC l))).length ∧ (rar (sgF (sgC l))).length ≤ 19 := by
  have h1 := (rar_perm (sgF (sgC l))).length_eq
  have h2 := two_of_oneB _ (oneB_sgF (sgC l) (by rw [sgC_len]; decide))
  have h3 := used_le (sgF (sgC l))
  rw [sgF_len] at h3
  omega
theorem sgLens_len (l : List Sg) : (sgLens l).length = 19 := by unfold sgLens; rw [limL_len, sgF_len]
theorem sgLens_weight (l : List Sg) : weight (sgLens l) = 2 ^ 20 :=
  limL_full _ 7 (by decide) (by decide) (sgF_rar l).1 (by have := (sgF_rar l).2; omega)
theorem sgLens_bound (l : List Sg) (c : Nat) (hc : c < 19) : (sgLens l).getD c 0 ≤ 7 ∧ ((sgLens l).getD c 0 = 0 ↔ (sgF (sgC l)).getD c 0 = 0) := by
  unfold sgLens
  rw [limL_get _ _ _ (by rw [sgF_len]; exact hc)]
  exact limS_bound _ 7 c (by decide) (by have := (sgF_rar l).2; omega) (by rw [sgF_len]; exact hc)
theorem sgLens_le7 (l : List Sg) : ∀ x ∈ sgLens l, x ≤ 7 := by
  intro x hx
  obtain ⟨c, hc, rfl⟩ := List.getElem_of_mem hx
  have hc' := hc
  rw [sgLens_len] at hc'
  have := (sgLens_bound l c hc').1
  rw [List.getD_eq_getElem?_getD, List.getElem?_eq_getElem hc] at this
  exact this
theorem sgLens_pos (l : List Sg) (s : Sg) (hs : s ∈ l) (h18 : s.1 ≤ 18) : 0 < (sgLens l).getD s.1 0 := by
  have h1 := (sgLens_bound l s.1 (by omega)).2
  have h2 : 0 < (sgF (sgC l)).getD s.1 0 := by
    unfold sgF
    rw [sgI_get _ _ _ (by have := sgN_le (sgC l); rw [sgC_len]; omega), sgC_get l _ (by omega)]
    have h3 : 0 < (l.map fun s => s.1).count s.1 := List.count_pos_iff.2 (List.mem_map.2 ⟨s, hs, rfl⟩)
    omega
  omega
theorem sgLens_cls (l : List Sg) : (clsE (sgLens l)).1 = 2 := by
  unfold clsE
  rw [if_pos ⟨fun x hx => Nat.le_trans (sgLens_le7 l x hx) (by decide), by rw [sgLens_len]; decide⟩]
  show cls (sgLens l) = 2
  unfold cls
  rw [sgLens_weight]
  decide
def cutN (lens : List Nat) : Nat → Nat
  | 0 => 0
  | n + 1 => if 4 < n + 1 ∧ lens.getD (ordL.getD n 0) 0 = 0 then cutN lens n else n + 1
theorem cutN_le (lens : List Nat) (n : Nat) : cutN lens n ≤ n := by
  induction n with
  | zero => exact Nat.le_refl _
  | succ n ih => unfold cutN; split <;> omega
theorem cutN_ge (lens : List Nat) (n : Nat) (h : 4 ≤ n) : 4 ≤ cutN lens n := by
  induction n with
  | zero => omega
  | succ n ih => unfold cutN; split <;> omega
theorem cutN_zero (lens : List Nat) (n k : Nat) (h : cutN lens n ≤ k) (hk : k < n) : lens.getD (ordL.getD k 0) 0 = 0 := by
  induction n with
  | zero => omega
  | succ n ih =>
    unfold cutN at h
    split at h
    · next hc =>
      by_cases e : k = n
      · subst e; exact hc.2
      · exact ih h (by omega)
    · omega
def put3 (lens : List Nat) (s : Wst) : Nat → Wst
  | 0 => s
  | k + 1 => addNum (put3 lens s k) (lens.getD (ordL.getD k 0) 0) 3
def putS (lens : List Nat) (s : Wst) (g : Sg) : Wst := addNum (addSym lens s g.1) g.2 (rbits g.1)
def putsS (lens : List Nat) (s : Wst) (l : List Sg) : Wst := l.foldl (putS lens) s
def put14 (s : Wst) (a b n : Nat) : Wst := addNum (addNum (addNum s (a - 257) 5) (b - 1) 5) (n - 4) 4
def hputL (s : Wst) (a b : Nat) (l : List Sg) (lens : List Nat) : Wst := putsS lens (put3 lens (put14 s a b (cutN lens 19)) (cutN lens 19)) l
def hputW (s : Wst) (f o : List Nat) : Wst := hputL s f.length o.length (pack (f ++ o)) (sgLens (pack (f ++ o)))
def WG (s : Wst) : Prop := WOk s ∧ WZ s
theorem addNum_g {s : Wst} (h : WG s) (v n : Nat) : WG (addNum s v n) ∧ ExtW s (addNum s v n) := by
  obtain ⟨a, b, _⟩ := addNum_ext h.1 h.2 v n
  exact ⟨⟨addNum_ok h.1 v n, a⟩, b⟩
theorem put3_g {s : Wst} (h : WG s) (lens : List Nat) (k : Nat) : WG (put3 lens s k) ∧ ExtW s (put3 lens s k) ∧ (put3 lens s k).2 = s.2 + 3 * k := by
  induction k with
  | zero => exact ⟨h, .refl _, rfl⟩
  | succ k ih =>
    obtain ⟨a, b, c⟩ := ih
    obtain ⟨d, e⟩ := addNum_g a (lens.getD (ordL.getD k 0) 0) 3
    exact ⟨d, b.trans e, by show (addNum _ _ 3).2 = _; rw [addNum_len, c]; omega⟩
theorem put3_ext {s : Wst} (h : WG s) (lens : List Nat) {j k : Nat} (hjk : j ≤ k) : ExtW (put3 lens s j) (put3 lens s k) := by
  induction k with
  | zero => obtain rfl : j = 0 := by omega
            exact .refl _
  | succ k ih =>
    by_cases e : j = k + 1
    · subst e; exact .refl _
    · exact (ih (by omega)).trans (addNum_g (put3_g h lens k).1 _ 3).2
theorem put3_laid {s t : Wst} (h : WG s) (lens : List Nat) (k : Nat) (hl : ∀ x ∈ lens, x ≤ 7) (ht : ExtW (put3 lens s k) t) (j : Nat) (hj : j < k) : num t.1 (s.2 + 3 * j) 3 = lens.getD (ordL.getD j 0) 0 := by
  obtain ⟨a, _, c⟩ := put3_g h lens j
  have := num_laid a.1 a.2 (lens.getD (ordL.getD j 0) 0) 3 (by have := M04.getD_le hl (ordL.getD j 0); omega) (t := t) ((put3_ext h lens (show j + 1 ≤ k from hj)).trans ht)
  rw [c] at this; exact this
theorem ordL_idx : ∀ k : Fin 19, ordL.idxOf (ordL.getD k.val 0) = k.val ∧ ordL.idxOf k.val < 19 ∧ ordL.getD (ordL.idxOf k.val) 0 = k.val ∧ ordL.getD k.val 0 < 19 := by decide
theorem lensL_get (bs : List Nat) (p k i : Nat) (hk : k ≤ 19) (hi : i < 19) : (lensL bs p k).getD i 0 = if ordL.idxOf i < k then num bs (p + 3 * ordL.idxOf i) 3 else 0 := by
  induction k with
  | zero =>
    have hz : ∀ i : Fin 19, (List.replicate 19 0).getD i.val 0 = 0 := by decide
    rw [if_neg (by omega)]
    exact hz ⟨i, hi⟩
  | succ k ih =>
    show ((lensL bs p k).set (ordL.getD k 0) (num bs (p + 3 * k) 3)).getD i 0 = _
    obtain ⟨o1, o2, o3, o4⟩ := ordL_idx ⟨k, by omega⟩
    obtain ⟨q1, q2, q3, q4⟩ := ordL_idx ⟨i, hi⟩
    simp only at o1 o2 o3 o4 q1 q2 q3 q4
    rw [List.getD_eq_getElem?_getD]
    by_cases he : ordL.getD k 0 = i
    · rw [he, List.getElem?_set_self (by rw [lensL_len]; exact hi)]
      have : ordL.idxOf i = k := by rw [← he]; exact o1
      rw [this, if_pos (by omega)]; rfl
    · rw [List.getElem?_set_ne he, ← List.getD_eq_getElem?_getD, ih (by omega)]
      have hne : ordL.idxOf i ≠ k := fun e => he (by rw [← e]; exact q3)
      by_cases h2 : ordL.idxOf i < k
      · rw [if_pos h2, if_pos (by omega)]
      · rw [if_neg h2, if_neg (by omega)]
theorem ext_getD {l m : List Nat} (h : l.length = m.length) (hg : ∀ i, i < l.length → l.getD i 0 = m.getD i 0) : l = m := by
  apply List.ext_getElem h
  intro i h1 h2
  have := hg i h1
  rw [List.getD_eq_getElem?_getD, List.getD_eq_getElem?_getD, List.getElem?_eq_getElem h1, List.getElem?_eq_getElem h2] at this
  exact this
theorem lensL_laid {s t : Wst} (h : WG s) (lens : List Nat) (hn : lens.length = 19) (hl : ∀ x ∈ lens, x ≤ 7) (ht : ExtW (put3 lens s (cutN lens 19)) t) : lensL t.1 s.2 (cutN lens 19) = lens := by
  have hc := cutN_le lens 19
  refine ext_getD (by rw [lensL_len, hn]) (fun i hi => ?_)
  rw [lensL_len] at hi
  rw [lensL_get _ _ _ _ hc hi]
  obtain ⟨q1, q2, q3, q4⟩ := ordL_idx ⟨i, hi⟩
  simp only at q1 q2 q3 q4
  split
  · next hlt => rw [put3_laid h lens _ hl ht _ hlt, q3]
  · next hge =>
    have := cutN_zero lens 19 (ordL.idxOf i) (by omega) q2
    rw [q3] at this
    exact this.symm
theorem putS_g {s : Wst} (h : WG s) (lens : List Nat) (g : Sg) : WG (putS lens s g) ∧ ExtW s (putS lens s g) ∧ (putS lens s g).2 = s.2 + lens.getD g.1 0 + rbits g.1 := by
  obtain ⟨a, b, c, d⟩ := addSym_ext h.1 h.2 lens g.1
  obtain ⟨e, f⟩ := addNum_g ⟨a, b⟩ g.2 (rbits g.1)
  exact ⟨e, c.trans f, by show (addNum _ _ _).2 = _; rw [addNum_len, d]⟩
theorem putsS_g (lens : List Nat) : ∀ (l : List Sg) {s : Wst}, WG s → WG (putsS lens s l) ∧ ExtW s (putsS lens s l) := by
  intro l
  induction l with
  | nil => intro s h; exact ⟨h, .refl _⟩
  | cons g l ih =>
    intro s h
    obtain ⟨a, b, _⟩ := putS_g h lens g
    obtain ⟨c, d⟩ := ih a
    exact ⟨c, b.trans d⟩
def timesL (l : List Sg) : Nat := (l.map times).sum
theorem sgL_laid (lens : List Nat) (hn : lens.length = 19) (hl : ∀ x ∈ lens, x ≤ 7) (hw : weight lens ≤ 2 ^ 20) {t : Wst} (hk : WG t) (tot : Nat) :
    ∀ (l : List Sg) (f : Nat) (s : Wst) (said : Nat) (acc : List Sg), l.length < f → WG s → (∀ g ∈ l, SgOk g ∧ 0 < lens.getD g.1 0) → said + timesL l = tot → ExtW (putsS lens s l) t → sgL lens t.1 tot f s.2 said acc = some (acc ++ l, (putsS lens s l).2) := by
  intro l
  induction l with
  | nil =>
    intro f s said acc hf hs hg ht he
    obtain ⟨f, rfl⟩ : ∃ k, f = k + 1 := ⟨f - 1, by simp at hf; omega⟩
    rw [sgL_succ]
    unfold sgStep
    simp [timesL] at ht
    rw [if_neg (by omega), List.append_nil]
    rfl
  | cons g l ih =>
    intro f s said acc hf hs hg ht he
    obtain ⟨f, rfl⟩ : ∃ k, f = k + 1 := ⟨f - 1, by simp at hf; omega⟩
    rw [sgL_succ]
    unfold sgStep
    obtain ⟨hgo, hgl⟩ := hg g (by simp)
    have htt : timesL (g :: l) = times g + timesL l := by simp [timesL]
    have htb := (times_bound hgo).1
    obtain ⟨p1, p2, p3⟩ := putS_g hs lens g
    obtain ⟨a1, a2, a3, a4⟩ := addSym_ext hs.1 hs.2 lens g.1
    obtain ⟨n1, n2⟩ := addNum_g ⟨a1, a2⟩ g.2 (rbits g.1)
    have he1 : ExtW (putS lens s g) t := (putsS_g lens l p1).2.trans he
    have hsym := sym_laid hs.1 hs.2 lens (fun x hx => Nat.le_trans (hl x hx) (by decide)) hw g.1 (by rw [hn]; exact Nat.lt_succ_of_le hgo.1) hgl (n2.trans he1) hk.1
    have hnum := num_laid a1 a2 g.2 (rbits g.1) hgo.2 (t := t) he1
    rw [a4] at hnum
    have hlen := ext_len hk.1 he1
    rw [p3] at hlen
    rw [if_pos (by omega), hsym]
    simp only
    rw [if_pos hlen, hnum]
    have hih := ih f (putS lens s g) (said + times g) (acc ++ [g]) (by simp at hf; omega) p1 (fun x hx => hg x (by simp [hx])) (by omega) he
    rw [p3] at hih
    rw [hih, List.append_assoc]
    rfl
theorem unp_times {n : Nat} : ∀ (l : List Sg) (out all : List Nat), unp n l out = some all → out.length + timesL l = n := by
  intro l
  induction l with
  | nil =>
    intro out all h
    unfold unp at h
    split at h
    · simp [timesL]; assumption
    · cases h
  | cons s l ih =>
    intro out all h
    unfold unp at h
    split at h
    · cases h
    · split at h
      · cases h
      · have := ih _ _ h
        rw [List.length_append, List.length_replicate] at this
        have htt : timesL (s :: l) = times s + timesL l := by simp [timesL]
        omega
theorem mayH_facts {f o : List Nat} (h : mayH f o = true) : 257 ≤ f.length ∧ f.length ≤ 286 ∧ 1 ≤ o.length ∧ o.length ≤ 30 ∧ (∀ x ∈ f, x ≤ 15) ∧ (∀ x ∈ o, x ≤ 15) := by
  unfold mayH at h
  simp only [Bool.and_eq_true, decide_eq_true_eq, Bool.not_eq_true'] at h
  obtain ⟨⟨⟨⟨⟨⟨⟨⟨h1, h2⟩, h3⟩, h4⟩, _⟩, h5⟩, h6⟩, _⟩, _⟩ := h
  refine ⟨h1, h2, h3, h4, ?_, ?_⟩
  · intro x hx
    unfold long at h5
    simp at h5
    exact h5 x hx
  · intro x hx
    unfold long at h6
    simp at h6
    exact h6 x hx
theorem put14_g {s : Wst} (h : WG s) (a b n : Nat) : WG (put14 s a b n) ∧ ExtW s (put14 s a b n) ∧ (put14 s a b n).2 = s.2 + 14 := by
  obtain ⟨a1, a2⟩ := addNum_g h (a - 257) 5
  obtain ⟨b1, b2⟩ := addNum_g a1 (b - 1) 5
  obtain ⟨c1, c2⟩ := addNum_g b1 (n - 4) 4
  exact ⟨c1, (a2.trans b2).trans c2, by unfold put14; rw [addNum_len, addNum_len, addNum_len]⟩
theorem hputL_g {s : Wst} (h : WG s) (a b : Nat) (l : List Sg) (lens : List Nat) : WG (hputL s a b l lens) ∧ ExtW s (hputL s a b l lens) := by
  obtain ⟨a1, a2, _⟩ := put14_g h a b (cutN lens 19)
  obtain ⟨b1, b2, _⟩ := put3_g a1 lens (cutN lens 19)
  obtain ⟨c1, c2⟩ := putsS_g lens l b1
  exact ⟨c1, (a2.trans b2).trans c2⟩
theorem hputW_g {s : Wst} (h : WG s) (f o : List Nat) : WG (hputW s f o) ∧ ExtW s (hputW s f o) := hputL_g h _ _ _ _
theorem hdr_laid {s t : Wst} (h : WG s) (hk : WG t) (f o : List Nat) (hm : mayH f o = true) (ht : ExtW (hputW s f o) t) : hdr t.1 s.2 = some ((f, o), (hputW s f o).2) := by
  obtain ⟨m1, m2, m3, m4, m5, m6⟩ := mayH_facts hm
  have h15 : ∀ x ∈ f ++ o, x ≤ 15 := by
    intro x hx
    rcases List.mem_append.1 hx with h1 | h1
    · exact m5 x h1
    · exact m6 x h1
  obtain ⟨u1, u2, u3⟩ := pack_unp (f ++ o) h15
  have hlen := sgLens_len (pack (f ++ o))
  have hle := sgLens_le7 (pack (f ++ o))
  have hwt := sgLens_weight (pack (f ++ o))
  have hcl := sgLens_cls (pack (f ++ o))
  have hpos : ∀ g ∈ pack (f ++ o), SgOk g ∧ 0 < (sgLens (pack (f ++ o))).getD g.1 0 := fun g hg => ⟨u2 g hg, sgLens_pos _ g hg (u2 g hg).1⟩
  have htt := unp_times _ _ _ u1
  unfold hputW hputL at ht ⊢
  rw [List.length_append] at u1 u3 htt
  generalize hP : pack (f ++ o) = l at *
  generalize hL : sgLens l = lens at *
  generalize hN : cutN lens 19 = n at *
  have hn19 : n ≤ 19 := by rw [← hN]; exact cutN_le _ _
  have hn4 : 4 ≤ n := by rw [← hN]; exact cutN_ge _ _ (by decide)
  obtain ⟨a1, a2⟩ := addNum_g h (f.length - 257) 5
  obtain ⟨b1, b2⟩ := addNum_g a1 (o.length - 1) 5
  obtain ⟨c1, c2⟩ := addNum_g b1 (n - 4) 4
  obtain ⟨p1, p2, p3⟩ := put14_g h f.length o.length n
  obtain ⟨q1, q2, q3⟩ := put3_g p1 lens n
  obtain ⟨r1, r2⟩ := putsS_g lens l q1
  have e3 : ExtW (put3 lens (put14 s f.length o.length n) n) t := r2.trans ht
  have e2 : ExtW (put14 s f.length o.length n) t := q2.trans e3
  have hx := num_laid h.1 h.2 (f.length - 257) 5 (by omega) (t := t) ((b2.trans c2).trans e2)
  have hy := num_laid a1.1 a1.2 (o.length - 1) 5 (by omega) (t := t) (c2.trans e2)
  have hz := num_laid b1.1 b1.2 (n - 4) 4 (by omega) (t := t) e2
  rw [addNum_len] at hy hz
  rw [addNum_len] at hz
  have g2 := ext_len hk.1 e2
  have g3 := ext_len hk.1 e3
  rw [p3] at g2
  rw [q3, p3] at g3
  unfold hdr
  rw [if_neg (by omega), hx, hy, show s.2 + 10 = s.2 + 5 + 5 by omega, hz]
  unfold hdrB
  rw [show f.length - 257 + 257 = f.length by omega, show o.length - 1 + 1 = o.length by omega, show n - 4 + 4 = n by omega]
  have hLL := lensL_laid p1 lens hlen hle (t := t) (by rw [hN]; exact e3)
  rw [hN, p3] at hLL
  rw [if_neg (by omega), hLL, if_neg (by rw [hcl]; simp)]
  have hsg := sgL_laid lens hlen hle (by rw [hwt]; exact Nat.le_refl _) hk (f.length + o.length) l 400 (put3 lens (put14 s f.length o.length n) n) 0 [] (by omega) q1 hpos (by simpa using htt) ht
  rw [q3, p3] at hsg
  rw [hsg]
  unfold hdrE
  simp only [List.nil_append]
  rw [u1]
  simp only
  rw [List.take_left' rfl, List.drop_left' rfl, if_pos hm]
theorem putsS_len (lens : List Nat) (hl : ∀ x ∈ lens, x ≤ 7) : ∀ (l : List Sg) (s : Wst), WG s → (putsS lens s l).2 ≤ s.2 + 14 * l.length := by
  intro l
  induction l with
  | nil => intro s _; exact Nat.le_refl _
  | cons g l ih =>
    intro s h
    obtain ⟨p1, _, p3⟩ := putS_g h lens g
    have := ih (putS lens s g) p1
    have h2 := M04.getD_le hl g.1
    have h3 : rbits g.1 ≤ 7 := by unfold rbits; split <;> (try split) <;> (try split) <;> omega
    rw [p3] at this
    show (putsS lens (putS lens s g) l).2 ≤ _
    rw [List.length_cons]
    omega
theorem hputW_len {s : Wst} (h : WG s) (f o : List Nat) (h15 : ∀ x ∈ f ++ o, x ≤ 15) : (hputW s f o).2 ≤ s.2 + 14 + 57 + 14 * (f.length + o.length) := by
  obtain ⟨u1, u2, u3⟩ := pack_unp (f ++ o) h15
  rw [List.length_append] at u3
  unfold hputW hputL
  obtain ⟨p1, p2, p3⟩ := put14_g h f.length o.length (cutN (sgLens (pack (f ++ o))) 19)
  obtain ⟨q1, q2, q3⟩ := put3_g p1 (sgLens (pack (f ++ o))) (cutN (sgLens (pack (f ++ o))) 19)
  have := putsS_len (sgLens (pack (f ++ o))) (sgLens_le7 _) (pack (f ++ o)) _ q1
  have hc := cutN_le (sgLens (pack (f ++ o))) 19
  omega
theorem empty_g : WG ([], 0) := ⟨⟨rfl, by simp⟩, fun i _ => bit_out [] i (by simp)⟩
end Go.Proofs.YtendielanacflaaGreat.M09

namespace Go.Proofs.YtendielanacflaaGreat
open Go.RowKit Go.Shelf M01 M04 M06 M08 M17
set_option linter.unusedVariables false
def layTok (l1 l2 : List Nat) (st : Wst) (t : Tok) : Wst :=
  if t.len = 0 then addSymE l1 st t.byte else addNum (addSymE l2 (addNum (addSymE l1 st (lenS t.len)) (lenX t.len) (lenB t.len)) (dstS t.dist)) (dstX t.dist) (dstB t.dist)
def layTo (l1 l2 : List Nat) (st : Wst) (l : List Tok) : Wst := l.foldl (layTok l1 l2) st
theorem lenX_lt (n : Int) : lenX n < 2 ^ lenB n ∧ lenB n ≤ 5 := by
  unfold lenX lenB
  by_cases h : 3 ≤ n ∧ n ≤ 258
  · simp only [if_pos h]
    obtain ⟨m, rfl⟩ := Int.eq_ofNat_of_zero_le (by omega : 0 ≤ n)
    have hall : ∀ m : Fin 259, 3 ≤ m.val → m.val - lensL.getD (lk m.val) 0 < 2 ^ lbits (257 + lk m.val) ∧ lbits (257 + lk m.val) ≤ 5 := by decide +kernel
    exact hall ⟨m, by omega⟩ (by show 3 ≤ m; omega)
  · simp only [if_neg h]; decide
theorem dstX_lt (n : Int) : dstX n < 2 ^ dstB n ∧ dstB n ≤ 13 := by
  unfold dstX dstB
  by_cases h : 1 ≤ n ∧ n ≤ 32768
  · simp only [if_pos h]
    obtain ⟨m, rfl⟩ := Int.eq_ofNat_of_zero_le (by omega : 0 ≤ n)
    simp only [Int.toNat_natCast]
    obtain ⟨s1, s2⟩ := lastLe_spec dist_up m (by decide) (show distL.getD 0 0 ≤ m from by show 1 ≤ m; omega)
    have hk : dk m < 30 := dk_lt m
    rw [show lastLe distL m = dk m from rfl] at s1 s2
    generalize dk m = k at *
    have hall : ∀ k : Fin 30, (k.val + 1 < 30 → distL.getD (k.val + 1) 0 ≤ distL.getD k.val 0 + 2 ^ dbits k.val) ∧ (k.val = 29 → 32768 < distL.getD k.val 0 + 2 ^ dbits k.val) ∧ dbits k.val ≤ 13 := by decide
    obtain ⟨g1, g2, g3⟩ := hall ⟨k, hk⟩
    simp only at g1 g2 g3
    refine ⟨?_, g3⟩
    by_cases h29 : k = 29
    · have := g2 h29
      omega
    · have := g1 (by omega)
      have := s2 (by show k + 1 < 30; omega)
      omega
  · simp only [if_neg h]; decide
theorem layTok_len {l1 l2 : List Nat} (h1 : ∀ x ∈ l1, x ≤ 20) (h2 : ∀ x ∈ l2, x ≤ 20) (st : Wst) (t : Tok) : (layTok l1 l2 st t).2 ≤ st.2 + 58 := by
  unfold layTok
  split
  · have := addSymE_len h1 st t.byte; omega
  · rw [addNum_len]
    have := addSymE_len h2 (addNum (addSymE l1 st (lenS t.len)) (lenX t.len) (lenB t.len)) (dstS t.dist)
    rw [addNum_len] at this
    have := addSymE_len h1 st (lenS t.len)
    have := (lenX_lt t.len).2
    have := (dstX_lt t.dist).2
    omega
theorem layTo_snoc (l1 l2 : List Nat) (st : Wst) (l : List Tok) (k : Nat) (hk : k < l.length) : layTo l1 l2 st (l.take (k + 1)) = layTok l1 l2 (layTo l1 l2 st (l.take k)) l[k] := by
  unfold layTo
  rw [List.take_succ_eq_append_getElem hk, List.foldl_append]
  rfl
theorem layTo_len {l1 l2 : List Nat} (h1 : ∀ x ∈ l1, x ≤ 20) (h2 : ∀ x ∈ l2, x ≤ 20) (l : List Tok) : ∀ st, (layTo l1 l2 st l).2 ≤ st.2 + 58 * l.length := by
  induction l with
  | nil => intro st; simp [layTo]
  | cons t l ih =>
    intro st
    have := ih (layTok l1 l2 st t)
    have := layTok_len h1 h2 st t
    simp only [layTo, List.foldl_cons, List.length_cons] at *
    omega
end Go.Proofs.YtendielanacflaaGreat

namespace Go.Proofs.YtendielanacflaaGreat.M10
open M01 M04 M06 M08
set_option linter.unusedVariables false
theorem decF_some {l bs : List Nat} {F : TF} {i : Nat} (hg : Good l F i) : ∀ f x k at_ s at2, decF F bs f x k at_ = some (s, at2) → s < i ∧ at2 + k = at_ + l.getD s 0 ∧ at_ ≤ at2 ∧ 0 < l.getD s 0 := by
  intro f
  induction f with
  | zero => intro x k at_ s at2 h; simp [decF] at h
  | succ f ih =>
    intro x k at_ s at2 h
    unfold decF at h
    split at h
    · simp at h
    · next v hv =>
      obtain ⟨_, h2⟩ := hg x k v hv
      split at h
      · next h0 =>
        rcases h2 with rfl | ⟨s', rfl, h3, h4, h5, h6⟩
        · omega
        · simp only [Option.some.injEq, Prod.mk.injEq, Int.toNat_natCast] at h
          obtain ⟨rfl, rfl⟩ := h
          omega
      · split at h
        · have := ih _ _ _ _ _ h
          omega
        · simp at h
theorem sym_some {l bs : List Nat} {at_ s at2 : Nat} (h20 : ∀ x ∈ l, x ≤ 20) (h : sym l bs at_ = some (s, at2)) : s < l.length ∧ at2 = at_ + l.getD s 0 ∧ at_ < at2 := by
  obtain ⟨h1, h2, h3, h4⟩ := decF_some (good_tab l h20) _ _ _ _ _ _ h
  omega
def symsStep (l1 l2 bs : List Nat) (k : Nat → List Nat → Option (Nat × List Nat)) (at_ : Nat) (out : List Nat) : Option (Nat × List Nat) :=
  match sym l1 bs at_ with
  | none => none
  | some (c, a1) => if c < 256 then k a1 (out ++ [c]) else if c = 256 then some (a1, out) else if (loS c).2.2 ≠ 0 then none else
    match rdN bs (loS c).2.1 a1 with
    | none => none
    | some (x, a2) => match sym l2 bs a2 with
      | none => none
      | some (d, a3) => if (doS d).2.2 ≠ 0 then none else match rdN bs (doS d).2.1 a3 with
        | none => none
        | some (y, a4) => if out.length < (doS d).1 + y then none else k a4 (repOut ((doS d).1 + y) out ((loS c).1 + x))
def symsL (l1 l2 bs : List Nat) : Nat → Nat → List Nat → Option (Nat × List Nat)
  | 0 => fun _ _ => none
  | f + 1 => symsStep l1 l2 bs (symsL l1 l2 bs f)
theorem symsL_succ (l1 l2 bs : List Nat) (f at_ : Nat) (out : List Nat) : symsL l1 l2 bs (f + 1) at_ out = symsStep l1 l2 bs (symsL l1 l2 bs f) at_ out := rfl
def symsB (l1 l2 bs : List Nat) (at_ : Nat) (out : List Nat) : Option (Nat × List Nat) :=
  if (wordsE l1).2 = 0 then if (wordsE l2).2 = 0 then symsL l1 l2 bs (8 * bs.length + 1) at_ out else none else none
theorem loS_bound (c : Nat) (h : (loS c).2.2 = 0) : (loS c).2.1 ≤ 5 ∧ (loS c).1 + 2 ^ (loS c).2.1 ≤ 259 := by
  by_cases hc : 257 ≤ c ∧ c ≤ 285
  · obtain ⟨k, rfl⟩ : ∃ k, c = 257 + k := ⟨c - 257, by omega⟩
    have hk : k < 29 := by omega
    have hall : ∀ k : Fin 29, (loS (257 + k.val : Nat)).2.1 ≤ 5 ∧ (loS (257 + k.val : Nat)).1 + 2 ^ (loS (257 + k.val : Nat)).2.1 ≤ 259 := by decide +kernel
    exact hall ⟨k, hk⟩
  · unfold loS at h
    rw [if_neg (by omega)] at h
    simp at h
theorem doS_bound (c : Nat) (h : (doS c).2.2 = 0) : (doS c).2.1 ≤ 13 ∧ 1 ≤ (doS c).1 ∧ (doS c).1 ≤ 32768 := by
  by_cases hc : c < 30
  · have hall : ∀ k : Fin 30, (doS (k.val : Nat)).2.1 ≤ 13 ∧ 1 ≤ (doS (k.val : Nat)).1 ∧ (doS (k.val : Nat)).1 ≤ 32768 := by decide +kernel
    exact hall ⟨c, hc⟩
  · unfold doS at h
    rw [if_neg (by omega)] at h
    simp at h
end Go.Proofs.YtendielanacflaaGreat.M10
