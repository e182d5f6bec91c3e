/- cost.may, cost.uses: contracts. cost.Codes: its closure that counts a use: contract. Layer 17: the best codes, cut at their ends, may be a head's (plain). Layer 17: how often each symbol comes, the best codes for tokens, and that their symbols have words (plain). A range over a function whose loop variables lie in cells: the assignment of a round may make memory. -/
import Derived.Test.YtmgoeokdlklabaaC04
import Derived.Test.YtmgoeokdlklabaaC13
import Derived.Test.YtmgoeokdlklabaaC03
import Derived.Test.YtmgoeokdlklabaaC02
namespace Go.Proofs.Ytmgoeokdlklabaa
open Go.RowKit Go.Shelf M08 M17
attribute [local go_sem] Oper.semAt_some
set_option linter.unusedVariables false
def mayN (t : Tok) : Nat := if (t.len = 0 ∧ t.dist ≠ 0) ∨ (t.len ≠ 0 ∧ t.byte ≠ 0) then 5 else 0
theorem box_below (w : World) (o : Obj) : Below w.heap.size w (w.alloc o) := (Below.refl _ _).alloc (Nat.le_refl _) _
theorem cost_may (t : Tok) (w : World) :
    Calls Try.prog 97 #[tokV t] w fun e w' => e = .returned (.int .i64 (mayN t : Nat)) ∧ Below w.heap.size w w' := by
  obtain ⟨L, D, b⟩ := t
  unfold tokV
  by_cases h0 : L = 0
  · by_cases h1 : D = 0
    · have H : Hid (mayN ⟨L, D, b⟩ = 0) := by unfold Hid mayN; rw [if_neg (by simp [h0, h1])]
      have b0 : (L == 0) = true := by simp [h0]
      have b2 : (L != 0) = false := by simp [h0]
      have b1 : (D != 0) = false := by simp [h1]
      clear h0 h1
      go_enter Try.func97, Try.ntmps97
      go_wp2
      go_ret
      exact ⟨ret_int (by rw [H.out]; rfl), box_below _ _⟩
    · have H : Hid (mayN ⟨L, D, b⟩ = 5) := by unfold Hid mayN; rw [if_pos (by simp [h0, h1])]
      have b0 : (L == 0) = true := by simp [h0]
      have b2 : (L != 0) = false := by simp [h0]
      have b1 : (D != 0) = true := by simp [h1]
      clear h0 h1
      go_enter Try.func97, Try.ntmps97
      go_wp2
      go_ret
      exact ⟨ret_int (by rw [H.out]; rfl), box_below _ _⟩
  · by_cases h1 : b = 0
    · have H : Hid (mayN ⟨L, D, b⟩ = 0) := by unfold Hid mayN; rw [if_neg (by simp [h0, h1])]
      have b0 : (L == 0) = false := by simp [h0]
      have b2 : (L != 0) = true := by simp [h0]
      have b1 : ((b : Int) != 0) = false := by simp; omega
      clear h0 h1
      go_enter Try.func97, Try.ntmps97
      go_wp2
      go_ret
      exact ⟨ret_int (by rw [H.out]; rfl), box_below _ _⟩
    · have H : Hid (mayN ⟨L, D, b⟩ = 5) := by unfold Hid mayN; rw [if_pos (by simp [h0, h1])]
      have b0 : (L == 0) = false := by simp [h0]
      have b2 : (L != 0) = true := by simp [h0]
      have b1 : ((b : Int) != 0) = true := by simp; omega
      clear h0 h1
      go_enter Try.func97, Try.ntmps97
      go_wp2
      go_ret
      exact ⟨ret_int (by rw [H.out]; rfl), box_below _ _⟩
theorem cost_uses (a : Option Addr) (cap n : Nat) (w : World) :
    Calls Try.prog 63 #[.slice a n cap] w fun e w' => e = .returned (.func (.func 96) #[] #[.pointer (some ⟨w.heap.size, 0, none⟩)]) ∧ w' = w.alloc (.cells #[.slice a n cap] 57) := by
  have hmf : ∀ (fn : Fn) (first cap : Array Value) (w : World), (Instr.makeFunc fn first cap).run Try.prog w = .ok (.func fn first cap) w := fun _ _ _ _ => rfl
  go_enter Try.func63, Try.ntmps63
  go_wp2
  go_ret
  exact ⟨rfl, rfl⟩
def lenS (n : Int) : Nat := if 3 ≤ n ∧ n ≤ 258 then 257 + lk n.toNat else 0
def lenB (n : Int) : Nat := if 3 ≤ n ∧ n ≤ 258 then lbits (257 + lk n.toNat) else 0
def lenX (n : Int) : Nat := if 3 ≤ n ∧ n ≤ 258 then n.toNat - lensL.getD (lk n.toNat) 0 else 0
def lenE (n : Int) : Nat := if 3 ≤ n ∧ n ≤ 258 then 0 else 5
def dstS (n : Int) : Nat := if 1 ≤ n ∧ n ≤ 32768 then dk n.toNat else 0
def dstB (n : Int) : Nat := if 1 ≤ n ∧ n ≤ 32768 then dbits (dk n.toNat) else 0
def dstX (n : Int) : Nat := if 1 ≤ n ∧ n ≤ 32768 then n.toNat - distL.getD (dk n.toNat) 0 else 0
def dstE (n : Int) : Nat := if 1 ≤ n ∧ n ≤ 32768 then 0 else 5
theorem token_length_all (n : Int) (w : World) :
    Calls Try.prog 98 #[.int .i64 n] w fun e w' => e = .returned (.tuple #[.int .i64 (lenS n : Nat), .int .i64 (lenB n : Nat), .int .i64 (lenX n : Nat), .int .i64 (lenE n : Nat)]) ∧ Below w.heap.size w w' := by
  unfold lenS lenB lenX lenE
  by_cases h : 3 ≤ n ∧ n ≤ 258
  · obtain ⟨m, rfl⟩ := Int.eq_ofNat_of_zero_le (by omega : 0 ≤ n)
    simp only [if_pos h, Int.toNat_natCast]
    exact token_length m w (by omega) (by omega)
  · simp only [if_neg h]
    exact (token_length_no n w (by omega)).mono fun e w' ⟨h1, h2⟩ => ⟨h1, h2 ▸ Below.refl _ _⟩
theorem token_distance_all (n : Int) (w : World) :
    Calls Try.prog 99 #[.int .i64 n] w fun e w' => e = .returned (.tuple #[.int .i64 (dstS n : Nat), .int .i64 (dstB n : Nat), .int .i64 (dstX n : Nat), .int .i64 (dstE n : Nat)]) ∧ Below w.heap.size w w' := by
  unfold dstS dstB dstX dstE
  by_cases h : 1 ≤ n ∧ n ≤ 32768
  · obtain ⟨m, rfl⟩ := Int.eq_ofNat_of_zero_le (by omega : 0 ≤ n)
    simp only [if_pos h, Int.toNat_natCast]
    exact token_distance m w (by omega) (by omega)
  · simp only [if_neg h]
    exact (token_distance_no n w (by omega)).mono fun e w' ⟨h1, h2⟩ => ⟨h1, h2 ▸ Below.refl _ _⟩
def useRow (l : List Tok) (i : Nat) : Array Value :=
  let r := (useU l).getD i endU
  #[.agg #[.bool r.far, .int .i64 (r.sym : Nat), .int .i64 (r.bits : Nat)], .int .i64 (r.err : Nat)]
def useP (l : List Tok) (k : Nat) : Nat := ((l.take k).flatMap tokU).length
theorem useRow_at {l : List Tok} {i : Nat} {r : URow} (h : (useU l)[i]? = some r) : i < (useU l).length ∧ useRow l i = #[.agg #[.bool r.far, .int .i64 (r.sym : Nat), .int .i64 (r.bits : Nat)], .int .i64 (r.err : Nat)] := by
  refine ⟨(List.getElem?_eq_some_iff.1 h).1, ?_⟩
  simp [useRow, List.getD, h]
theorem useP_succ (l : List Tok) (k : Nat) (hk : k < l.length) : useP l (k + 1) = useP l k + (tokU l[k]).length := by
  unfold useP
  rw [List.take_succ_eq_append_getElem hk, List.flatMap_append, List.length_append]
  simp
theorem use_get (l : List Tok) (k : Nat) (hk : k < l.length) (h : ∀ t ∈ l.take k, tokOk t) (j : Nat) (hj : j < (tokU l[k]).length) : (useU l)[useP l k + j]? = (tokU l[k])[j]? := by
  rw [useU_at l k hk h]
  unfold useP
  rw [List.getElem?_append_right (by omega), Nat.add_sub_cancel_left]
  split
  · rw [List.getElem?_append_left hj]
  · rfl
theorem use_last (l : List Tok) (k : Nat) (hk : k < l.length) (h : ∀ t ∈ l.take k, tokOk t) (hb : ¬ tokOk l[k]) : (useU l).length = useP l k + (tokU l[k]).length := by
  rw [useU_at l k hk h, if_neg hb, List.length_append]; rfl
theorem use_end (l : List Tok) (h : ∀ t ∈ l, tokOk t) : (useU l)[useP l l.length]? = some endU ∧ (useU l).length = useP l l.length + 1 := by
  rw [useU_ok l h]
  unfold useP
  rw [List.take_length]
  refine ⟨?_, by simp⟩
  rw [List.getElem?_append_right (Nat.le_refl _), Nat.sub_self]; rfl
theorem take_ok {l : List Tok} {k : Nat} (hk : k < l.length) (h : ∀ t ∈ l.take k, tokOk t) (h2 : tokOk l[k]) : ∀ t ∈ l.take (k + 1), tokOk t := by
  rw [List.take_succ_eq_append_getElem hk]
  intro t ht
  rcases List.mem_append.1 ht with ht | ht
  · exact h t ht
  · simp at ht; exact ht ▸ h2
theorem tokU_lit {t : Tok} (h : t.len = 0) (h1 : t.dist = 0) : tokOk t ∧ tokU t = [⟨false, t.byte, 0, 0⟩] := by
  refine ⟨by unfold tokOk; rw [if_pos h]; exact h1, ?_⟩
  unfold tokU; rw [if_pos h, if_pos h1]
theorem tokU_litbad {t : Tok} (h : t.len = 0) (h1 : t.dist ≠ 0) : ¬ tokOk t ∧ tokU t = [⟨false, t.byte, 0, 5⟩] := by
  refine ⟨by unfold tokOk; rw [if_pos h]; exact h1, ?_⟩
  unfold tokU; rw [if_pos h, if_neg h1]
theorem tokU_far {t : Tok} (h : t.len ≠ 0) (h1 : tokOk t) : tokU t = [⟨false, lenS t.len, lenB t.len, 0⟩, ⟨true, dstS t.dist, dstB t.dist, 0⟩] ∧ lenE t.len = 0 ∧ dstE t.dist = 0 ∧ mayN t = 0 := by
  have h2 := h1
  unfold tokOk at h2
  rw [if_neg h] at h2
  unfold tokU lenS lenB dstS dstB lenE dstE mayN
  rw [if_neg h, if_pos h1, if_pos ⟨h2.2.1, h2.2.2.1⟩, if_pos ⟨h2.2.1, h2.2.2.1⟩, if_pos h2.2.2.2, if_pos h2.2.2.2, if_pos ⟨h2.2.1, h2.2.2.1⟩, if_pos h2.2.2.2, if_neg (by simp [h, h2.1])]
  exact ⟨rfl, rfl, rfl, rfl⟩
theorem tokU_farbad {t : Tok} (h : t.len ≠ 0) (h1 : ¬ tokOk t) : tokU t = [⟨false, lenS t.len, lenB t.len, 5⟩] ∧ max (max (lenE t.len) (dstE t.dist)) (mayN t) = 5 := by
  have h2 := h1
  unfold tokOk at h2
  rw [if_neg h] at h2
  unfold tokU lenS lenB
  rw [if_neg h, if_neg h1]
  refine ⟨rfl, ?_⟩
  unfold lenE dstE mayN
  by_cases a : 3 ≤ t.len ∧ t.len ≤ 258
  · by_cases b : 1 ≤ t.dist ∧ t.dist ≤ 32768
    · have hb : t.byte ≠ 0 := fun hb => h2 ⟨hb, a.1, a.2, b.1, b.2⟩
      rw [if_pos a, if_pos b, if_pos (.inr ⟨h, hb⟩)]; rfl
    · rw [if_neg b]; split <;> split <;> rfl
  · rw [if_neg a]; split <;> split <;> rfl
theorem box3 {wr w1 : World} {x y z : Value} {t : TypeId} (h : Below (wr.alloc (.cells #[x, y, z] t)).heap.size (wr.alloc (.cells #[x, y, z] t)) w1) : w1.heap[wr.heap.size]? = some (.cells #[x, y, z] t) :=
  (h.block _ (by simp)).trans (World.alloc_heap_new _ _)
theorem cells3 {w : World} {b : Nat} {x y z : Value} {t : TypeId} (h : w.heap[b]? = some (.cells #[x, y, z] t)) : w.cell? ⟨b, 0, none⟩ = some x ∧ w.cell? ⟨b, 1, none⟩ = some y ∧ w.cell? ⟨b, 2, none⟩ = some z := by
  simp [World.cell?, h]
def useS (a : Option Addr) (B : Nat) (l : List Tok) (b : Nat) : Prop := b = B ∨ (0 < l.length ∧ ∃ x, a = some x ∧ b = x.block)
set_option maxRecDepth 100000 in
set_option maxHeartbeats 3200000 in
theorem uses_yields (a : Option Addr) (cap : Nat) (l : List Tok) (w : World) (B : Nat) (hl : l.length ≤ 100000) (hby : ∀ t ∈ l, t.byte < 256) (hr : RowS encT w a cap l) (hB : w.heap[B]? = some (.cells #[.slice a l.length cap] 57 (0, 0))) :
    Yields Try.prog 96 #[.pointer (some ⟨B, 0, none⟩)] (useU l).length (useRow l) (useS a B l) (fun _ => False) w := by
  intro y J Jx W hsame hJ hJx hY h0
  have HY := Lib.hid hY
  have HJ := Lib.hid hJ
  have hbox : W.cell? ⟨B, 0, none⟩ = some (.slice a l.length cap) := cell_of_one ((hsame.same B (.inl rfl)).trans hB)
  have HBY := Lib.hid hby
  clear hJ hJx hY hby
  refine callsIn_of_wp Try.func96 rfl trivial ?_ rfl
  simp only [Try.ntmps96, List.size_toArray, List.length_cons, List.length_nil, Nat.reduceAdd, Nat.reduceSub, Array.replicate_succ, Array.replicate_zero, List.push_toArray, List.append_toArray, List.nil_append, List.cons_append]
  gi_wp2
  gi_loopw [4, 5, 6, 7, 8, 9, 10, 11, 12, 13, 16] (fun _ _ _ _ _ _ _ _ _ _ i A => ∃ k : Nat, k ≤ l.length ∧ i = .int .i64 k ∧ (∀ t ∈ l.take k, tokOk t) ∧ SameOn (useS a B l) w A ∧ J (useP l k) A) (fun _ _ _ _ _ _ _ _ _ _ i _ => l.length - (intOf i).toNat)
  case atStart => exact ⟨0, by omega, rfl, by simp, hsame, by simpa [useP] using h0⟩
  case round =>
    clear hsame hbox h0
    obtain ⟨k, hk, rfl, hok, hsameA, hJA⟩ := hrel
    have HO := Lib.hid hok
    have HA := Lib.hid hJA
    clear hok hJA
    by_cases hlt : k < l.length
    · have hrA := hr.same hsameA.size (fun x h0 hx => hsameA.same _ (.inr ⟨h0, x, hx, rfl⟩))
      obtain ⟨b, off, rfl, hb, hcl⟩ := hrA.at hlt
      have c0 := hcl 0 _ rfl
      have c1 := hcl 1 _ rfl
      have c2 := hcl 2 _ rfl
      have G := Lib.hid (fun j (hj : j < (tokU l[k]).length) => use_get l k hlt HO.out j hj)
      have GL := Lib.hid (fun hb => use_last l k hlt HO.out hb)
      have GS := Lib.hid (useP_succ l k hlt)
      have GT := Lib.hid (fun h2 => take_ok hlt HO.out h2)
      have hbt := HBY.out _ (List.getElem_mem hlt)
      clear hrA hcl
      generalize l[k] = t at *
      obtain ⟨L, D, bt⟩ := t
      simp only [encT, Nat.add_zero] at c0 c1 c2 hbt
      rw [← Nat.add_assoc] at c1 c2
      have HS : Hid (∀ x, useS (some ⟨b, off, none⟩) B l x → x < wr.heap.size ∧ ¬ False) := by
        rintro x (rfl | ⟨h0, x', hx', rfl⟩)
        · exact ⟨Nat.lt_of_lt_of_le (Array.getElem?_eq_some_iff.1 hB).1 hsameA.size, id⟩
        · cases hx'; exact ⟨hb, id⟩
      by_cases h0 : L = 0
      · by_cases h1 : D = 0
        · obtain ⟨t1, t2⟩ := tokU_lit (t := ⟨L, D, bt⟩) h0 h1
          obtain ⟨hi, hrow⟩ := useRow_at ((G.out 0 (by rw [t2]; simp)).trans (by rw [t2]; rfl))
          have b0 : (L == 0) = true := by simp [h0]
          have hm : mayN ⟨0, 0, bt⟩ = 0 := by simp [mayN]
          subst h0 h1
          have T2 := Lib.hid t2
          have T1 := Lib.hid t1
          have HM := Lib.hid hm
          have HROW := Lib.hid hrow
          clear t1 t2 hm hrow
          gi_wp2
          refine ⟨trivial, ?_⟩
          gi_at_call 97
          refine (callsIn_wide.2 (cost_may ⟨0, 0, bt⟩ _)).mono ?_
          rintro e w1 ⟨rfl, hb1⟩
          rw [HM.out]
          obtain ⟨q0, q1, q2⟩ := cells3 (box3 hb1)
          have hO : Only (fun _ => False) wr w1 := ((Only.refl _ _).alloc _).below hb1
          have hJ1 := HJ.out _ _ _ HA.out hO
          obtain ⟨fn, tmps, assign, body, hy, hR⟩ := HY.out _ _ hi hJ1
          rw [HROW.out] at hy
          simp only [Int.cast_ofNat_Int] at hy
          have HR := Lib.hid hR
          have HK := Lib.hid (hO.sameOn (S := useS (some ⟨b, off, none⟩) B l) HS.out)
          clear hR hJ1 hO hb1
          gi_wp2
          refine (round_wide HR.out).mono ?_
          rintro e W' (⟨rfl, hJ', hk'⟩ | ⟨rfl, hJx'⟩)
          · gi_wp2
            go_roundw
            case rel => exact ⟨k + 1, by omega, by go_num, GT.out T1.out, (hsameA.trans HK.out).trans hk', by rw [GS.out, T2.out]; exact hJ'⟩
            case measure => simp [intOf]; omega
          · gi_wp2
            refine bodyPost_ret (results_none rfl _ _ _) rfl ?_
            exact ⟨⟨_, rfl⟩, .inr ⟨_, hi, hJx'⟩⟩
        · have b1 : (D == 0) = false := by simp [h1]
          obtain ⟨t1, t2⟩ := tokU_litbad (t := ⟨L, D, bt⟩) h0 h1
          obtain ⟨hi, hrow⟩ := useRow_at ((G.out 0 (by rw [t2]; simp)).trans (by rw [t2]; rfl))
          have b0 : (L == 0) = true := by simp [h0]
          have hm : mayN ⟨0, D, bt⟩ = 5 := by simp [mayN, h1]
          subst h0
          have T2 := Lib.hid t2
          have T1 := Lib.hid t1
          have HM := Lib.hid hm
          have HROW := Lib.hid hrow
          clear t1 t2 hm hrow
          gi_wp2
          refine ⟨trivial, ?_⟩
          gi_at_call 97
          refine (callsIn_wide.2 (cost_may ⟨0, D, bt⟩ _)).mono ?_
          rintro e w1 ⟨rfl, hb1⟩
          rw [HM.out]
          obtain ⟨q0, q1, q2⟩ := cells3 (box3 hb1)
          have hO : Only (fun _ => False) wr w1 := ((Only.refl _ _).alloc _).below hb1
          have hJ1 := HJ.out _ _ _ HA.out hO
          obtain ⟨fn, tmps, assign, body, hy, hR⟩ := HY.out _ _ hi hJ1
          rw [HROW.out] at hy
          simp only [Int.cast_ofNat_Int] at hy
          have HR := Lib.hid hR
          have HK := Lib.hid (hO.sameOn (S := useS (some ⟨b, off, none⟩) B l) HS.out)
          clear hR hJ1 hO hb1
          gi_wp2
          refine (round_wide HR.out).mono ?_
          rintro e W' (⟨rfl, hJ', hk'⟩ | ⟨rfl, hJx'⟩)
          · gi_wp2
            refine bodyPost_ret (results_none rfl _ _ _) rfl ?_
            exact ⟨⟨_, rfl⟩, .inl (by rw [GL.out T1.out, T2.out]; exact hJ')⟩
          · gi_wp2
            refine bodyPost_ret (results_none rfl _ _ _) rfl ?_
            exact ⟨⟨_, rfl⟩, .inr ⟨_, hi, hJx'⟩⟩
      · have b0 : (L == 0) = false := by simp [h0]
        by_cases hok : tokOk ⟨L, D, bt⟩
        · obtain ⟨t2, tl, td, hm⟩ := tokU_far (t := ⟨L, D, bt⟩) h0 hok
          obtain ⟨hi, hrow⟩ := useRow_at ((G.out 0 (by rw [t2]; simp)).trans (by rw [t2]; rfl))
          obtain ⟨hi2, hrow2⟩ := useRow_at ((G.out 1 (by rw [t2]; simp)).trans (by rw [t2]; rfl))
          have T2 := Lib.hid t2
          have T1 := Lib.hid hok
          have HM := Lib.hid hm
          have HL := Lib.hid tl
          have HD := Lib.hid td
          have HROW := Lib.hid hrow
          have HROW2 := Lib.hid hrow2
          clear t2 tl td hm hrow hrow2 h0 hok
          gi_wp2
          refine ⟨trivial, ?_⟩
          gi_at_call 98
          refine (callsIn_wide.2 (token_length_all L _)).mono ?_
          rintro e w1 ⟨rfl, hb1⟩
          have q1 := box3 hb1
          obtain ⟨_, p1, _⟩ := cells3 q1
          have hO1 : Only (fun _ => False) wr w1 := ((Only.refl _ _).alloc _).below hb1
          have hw1 : wr.heap.size < w1.heap.size := (Array.getElem?_eq_some_iff.1 q1).1
          have Q1 := Lib.hid q1
          have HO1 := Lib.hid hO1
          clear hb1 q1 hO1
          rw [HL.out]
          gi_wp2
          refine ⟨trivial, ?_⟩
          gi_at_call 99
          refine (callsIn_wide.2 (token_distance_all D _)).mono ?_
          rintro e w2 ⟨rfl, hb2⟩
          have q2 := (hb2.block _ hw1).trans Q1.out
          obtain ⟨p20, p21, p22⟩ := cells3 q2
          have hO2 : Only (fun _ => False) wr w2 := HO1.out.below hb2
          have hw2 : wr.heap.size < w2.heap.size := (Array.getElem?_eq_some_iff.1 q2).1
          have HO2 := Lib.hid hO2
          clear hb2 q2 hO2 HO1 Q1 p1
          rw [HD.out]
          gi_wp2
          refine ⟨trivial, ?_⟩
          gi_at_call 97
          refine (callsIn_wide.2 (cost_may ⟨L, D, bt⟩ _)).mono ?_
          rintro e w3 ⟨rfl, hb3⟩
          have hO := HO2.out.below hb3
          have hJ1 := HJ.out _ _ _ HA.out hO
          have HK := Lib.hid (hO.sameOn (S := useS (some ⟨b, off, none⟩) B l) HS.out)
          clear hO hb3 p20 p21 p22 HO2
          rw [HM.out]
          obtain ⟨fn, tmps, assign, body, hy, hR⟩ := HY.out _ _ hi hJ1
          rw [HROW.out] at hy
          simp only [Int.cast_ofNat_Int] at hy
          have HR := Lib.hid hR
          have HI2 := Lib.hid hi2
          have HI := Lib.hid hi
          clear hR hJ1 hi hi2
          gi_wp2
          refine (round_wide HR.out).mono ?_
          rintro e W' (⟨rfl, hJ', hk'⟩ | ⟨rfl, hJx'⟩)
          · obtain ⟨fn2, tmps2, assign2, body2, hy2, hR2⟩ := HY.out _ _ HI2.out hJ'
            rw [HROW2.out] at hy2
            simp only [Int.cast_ofNat_Int] at hy2
            have HR2 := Lib.hid hR2
            have HK2 := Lib.hid hk'
            clear hR2 hJ' hy HR hk'
            gi_wp2
            refine (round_wide HR2.out).mono ?_
            rintro e W2 (⟨rfl, hJ2, hk2⟩ | ⟨rfl, hJx2⟩)
            · gi_wp2
              go_roundw
              case rel => exact ⟨k + 1, by omega, by go_num, GT.out T1.out, ((hsameA.trans HK.out).trans HK2.out).trans hk2, by rw [GS.out, T2.out]; exact hJ2⟩
              case measure => simp [intOf]; omega
            · gi_wp2
              refine bodyPost_ret (results_none rfl _ _ _) rfl ?_
              exact ⟨⟨_, rfl⟩, .inr ⟨_, HI2.out, hJx2⟩⟩
          · gi_wp2
            refine ⟨fun _ h => (by cases h), ?_⟩
            gi_wp2
            refine bodyPost_ret (results_none rfl _ _ _) rfl ?_
            exact ⟨⟨_, rfl⟩, .inr ⟨_, HI.out, hJx'⟩⟩
        · obtain ⟨t2, tm⟩ := tokU_farbad (t := ⟨L, D, bt⟩) h0 hok
          obtain ⟨hi, hrow⟩ := useRow_at ((G.out 0 (by rw [t2]; simp)).trans (by rw [t2]; rfl))
          have T2 := Lib.hid t2
          have T1 := Lib.hid hok
          have HROW := Lib.hid hrow
          clear t2 hrow h0
          have hx : lenE L = 0 ∨ lenE L = 5 := by unfold lenE; split <;> simp
          have hy : dstE D = 0 ∨ dstE D = 5 := by unfold dstE; split <;> simp
          have hz : mayN ⟨L, D, bt⟩ = 0 ∨ mayN ⟨L, D, bt⟩ = 5 := by unfold mayN; split <;> simp
          rcases hx with hx | hx <;> rcases hy with hy | hy <;> rcases hz with hz | hz <;> rw [hx, hy, hz] at tm <;> first | (exact absurd tm (by decide)) | skip
          all_goals
            have HL := Lib.hid hx
            have HD := Lib.hid hy
            have HM := Lib.hid hz
            clear hx hy hz tm hok
            gi_wp2
            refine ⟨trivial, ?_⟩
            gi_at_call 98
            refine (callsIn_wide.2 (token_length_all L _)).mono ?_
            rintro e w1 ⟨rfl, hb1⟩
            have q1 := box3 hb1
            obtain ⟨_, p1, _⟩ := cells3 q1
            have hO1 : Only (fun _ => False) wr w1 := ((Only.refl _ _).alloc _).below hb1
            have hw1 : wr.heap.size < w1.heap.size := (Array.getElem?_eq_some_iff.1 q1).1
            have Q1 := Lib.hid q1
            have HO1 := Lib.hid hO1
            clear hb1 q1 hO1
            rw [HL.out]
            gi_wp2
            refine ⟨trivial, ?_⟩
            gi_at_call 99
            refine (callsIn_wide.2 (token_distance_all D _)).mono ?_
            rintro e w2 ⟨rfl, hb2⟩
            have q2 := (hb2.block _ hw1).trans Q1.out
            obtain ⟨p20, p21, p22⟩ := cells3 q2
            have hO2 : Only (fun _ => False) wr w2 := HO1.out.below hb2
            have hw2 : wr.heap.size < w2.heap.size := (Array.getElem?_eq_some_iff.1 q2).1
            have HO2 := Lib.hid hO2
            clear hb2 q2 hO2 HO1 Q1 p1
            rw [HD.out]
            gi_wp2
            refine ⟨trivial, ?_⟩
            gi_at_call 97
            refine (callsIn_wide.2 (cost_may ⟨L, D, bt⟩ _)).mono ?_
            rintro e w3 ⟨rfl, hb3⟩
            have hO := HO2.out.below hb3
            have hJ1 := HJ.out _ _ _ HA.out hO
            have HK := Lib.hid (hO.sameOn (S := useS (some ⟨b, off, none⟩) B l) HS.out)
            clear hO hb3 p20 p21 p22 HO2
            rw [HM.out]
            obtain ⟨fn, tmps, assign, body, hy, hR⟩ := HY.out _ _ hi hJ1
            rw [HROW.out] at hy
            simp only [Int.cast_ofNat_Int] at hy
            have HR := Lib.hid hR
            have HI := Lib.hid hi
            clear hR hJ1 hi
            gi_wp2
            refine (round_wide HR.out).mono ?_
            rintro e W' (⟨rfl, hJ', hk'⟩ | ⟨rfl, hJx'⟩)
            · gi_wp2
              refine ⟨fun _ h => (by cases h), ?_⟩
              gi_wp2
              refine bodyPost_ret (results_none rfl _ _ _) rfl ?_
              exact ⟨⟨_, rfl⟩, .inl (by rw [GL.out T1.out, T2.out]; exact hJ')⟩
            · gi_wp2
              refine ⟨fun _ h => (by cases h), ?_⟩
              gi_wp2
              refine bodyPost_ret (results_none rfl _ _ _) rfl ?_
              exact ⟨⟨_, rfl⟩, .inr ⟨_, HI.out, hJx'⟩⟩
    · obtain rfl : k = l.length := by omega
      have hall : ∀ t ∈ l, tokOk t := by have := HO.out; rwa [List.take_length] at this
      obtain ⟨g1, g2⟩ := use_end l hall
      obtain ⟨hi, hrow⟩ := useRow_at g1
      obtain ⟨fn, tmps, assign, body, hy, hR⟩ := HY.out _ _ hi HA.out
      rw [hrow] at hy
      simp only [endU, Int.cast_ofNat_Int] at hy
      have HR := Lib.hid hR
      have HI := Lib.hid hi
      have HG := Lib.hid g2
      clear hR hi hrow g1 g2 hall
      gi_wp2
      refine (round_wide HR.out).mono ?_
      rintro e W' (⟨rfl, hJ', hk'⟩ | ⟨rfl, hJx'⟩)
      · gi_wp2
        go_end0
        exact ⟨⟨_, rfl⟩, .inl (by rw [HG.out]; exact hJ')⟩
      · gi_wp2
        go_end0
        exact ⟨⟨_, rfl⟩, .inr ⟨_, HI.out, hJx'⟩⟩
end Go.Proofs.Ytmgoeokdlklabaa

namespace Go.Proofs.Ytmgoeokdlklabaa
open Go.RowKit Go.Shelf M04
attribute [local go_sem] Oper.semAt_some
set_option linter.unusedVariables false
set_option linter.unusedSimpArgs false
set_option maxRecDepth 100000 in
theorem cost_count0 (w : World) (fb g0 g1 n0 n1 c0 c1 base sym bits v : Nat) (F : List Nat) (hbox : w.heap[fb]? = some (.cells #[.slice (some ⟨g0, 0, none⟩) n0 c0, .slice (some ⟨g1, 0, none⟩) n1 c1] 110)) (hown : OwnN 3 .i64 w base (some ⟨g0, 0, none⟩) c0 F) (hn : F.length = n0) (hs : sym < n0) (hv : F.getD sym 0 = v) (hvb : v ≤ 1000000) :
    Calls Try.prog 62 #[.agg #[.bool false, .int .i64 (sym : Nat), .int .i64 (bits : Nat)], .pointer (some ⟨fb, 0, none⟩)] w fun e w' => e = .returned (.tuple #[]) ∧ OwnN 3 .i64 w' base (some ⟨g0, 0, none⟩) c0 (F.set sym (v + 1)) ∧ Only (fun b => b = g0) w w' := by
  have hbx := box_b w (.cells #[.bool false, .int .i64 (sym : Nat), .int .i64 (bits : Nat)] 112)
  have hlt : fb < w.heap.size := (Array.getElem?_eq_some_iff.1 hbox).1
  obtain ⟨k0, k1⟩ := two_cells ((hbx.block fb hlt).trans hbox)
  obtain ⟨e0, e1, e2⟩ := cells3 (World.alloc_heap_new w (.cells #[.bool false, .int .i64 (sym : Nat), .int .i64 (bits : Nat)] 112))
  have hown2 := hown.below hbx
  obtain ⟨g9, hg9, _, _, hcv, hfv⟩ := hown2.at (show sym < F.length by omega)
  simp only [Option.some.injEq, Addr.mk.injEq, and_true] at hg9
  subst hg9
  have hgd : F[sym]'(by omega) = v := by rw [← hv, List.getD_eq_getElem?_getD, List.getElem?_eq_getElem (by omega)]; rfl
  rw [hgd] at hcv
  obtain ⟨v1, hv1⟩ : ∃ v1, v + 1 = v1 := ⟨_, rfl⟩
  have qv : (v : Int) + 1 = (v1 : Int) := by omega
  have qvw : IntKind.i64.wrap (v1 : Int) = (v1 : Int) := IntWalk.i64_in _ (by omega)
  rw [hv1]
  have hst := hown2.stored sym v1
  have HST := Lib.hid hst.1
  have HON := Lib.hid ((Only.ofBelow hbx : Only (fun b => b = g0) w _).trans ⟨hst.2.os, hst.2.tape, hst.2.output, hst.2.size, fun b hb hne => hst.2.block b hb (fun e => by cases e; exact hne rfl)⟩)
  have qs : (sym : Int) < (n0 : Int) := by omega
  clear hst hv1 hgd hown2 hown hbox hbx hlt hv hn
  go_enter Try.func62, Try.ntmps62
  go_wp2_with fail
  generalize w.alloc (.cells #[.bool false, .int .i64 (sym : Nat), .int .i64 (bits : Nat)] 112) = W at *
  go_still_tail 9, (by kernel_rfl)
  go_wp2
  go_end0
  exact ⟨rfl, HST.out, HON.out.trans (only_drewN _ _ 1)⟩
set_option maxRecDepth 100000 in
theorem cost_count1 (w : World) (fb g0 g1 n0 n1 c0 c1 base sym bits v : Nat) (F : List Nat) (hbox : w.heap[fb]? = some (.cells #[.slice (some ⟨g0, 0, none⟩) n0 c0, .slice (some ⟨g1, 0, none⟩) n1 c1] 110)) (hown : OwnN 3 .i64 w base (some ⟨g1, 0, none⟩) c1 F) (hn : F.length = n1) (hs : sym < n1) (hv : F.getD sym 0 = v) (hvb : v ≤ 1000000) :
    Calls Try.prog 62 #[.agg #[.bool true, .int .i64 (sym : Nat), .int .i64 (bits : Nat)], .pointer (some ⟨fb, 0, none⟩)] w fun e w' => e = .returned (.tuple #[]) ∧ OwnN 3 .i64 w' base (some ⟨g1, 0, none⟩) c1 (F.set sym (v + 1)) ∧ Only (fun b => b = g1) w w' := by
  have hbx := box_b w (.cells #[.bool true, .int .i64 (sym : Nat), .int .i64 (bits : Nat)] 112)
  have hlt : fb < w.heap.size := (Array.getElem?_eq_some_iff.1 hbox).1
  obtain ⟨k0, k1⟩ := two_cells ((hbx.block fb hlt).trans hbox)
  obtain ⟨e0, e1, e2⟩ := cells3 (World.alloc_heap_new w (.cells #[.bool true, .int .i64 (sym : Nat), .int .i64 (bits : Nat)] 112))
  have hown2 := hown.below hbx
  obtain ⟨g9, hg9, _, _, hcv, hfv⟩ := hown2.at (show sym < F.length by omega)
  simp only [Option.some.injEq, Addr.mk.injEq, and_true] at hg9
  subst hg9
  have hgd : F[sym]'(by omega) = v := by rw [← hv, List.getD_eq_getElem?_getD, List.getElem?_eq_getElem (by omega)]; rfl
  rw [hgd] at hcv
  obtain ⟨v1, hv1⟩ : ∃ v1, v + 1 = v1 := ⟨_, rfl⟩
  have qv : (v : Int) + 1 = (v1 : Int) := by omega
  have qvw : IntKind.i64.wrap (v1 : Int) = (v1 : Int) := IntWalk.i64_in _ (by omega)
  rw [hv1]
  have hst := hown2.stored sym v1
  have HST := Lib.hid hst.1
  have HON := Lib.hid ((Only.ofBelow hbx : Only (fun b => b = g1) w _).trans ⟨hst.2.os, hst.2.tape, hst.2.output, hst.2.size, fun b hb hne => hst.2.block b hb (fun e => by cases e; exact hne rfl)⟩)
  have qs : (sym : Int) < (n1 : Int) := by omega
  clear hst hv1 hgd hown2 hown hbox hbx hlt hv hn
  go_enter Try.func62, Try.ntmps62
  go_wp2_with fail
  generalize w.alloc (.cells #[.bool true, .int .i64 (sym : Nat), .int .i64 (bits : Nat)] 112) = W at *
  go_still_tail 9, (by kernel_rfl)
  go_wp2
  go_end0
  exact ⟨rfl, HST.out, HON.out.trans (only_drewN _ _ 1)⟩
end Go.Proofs.Ytmgoeokdlklabaa

namespace Go.Proofs.Ytmgoeokdlklabaa
open Go.RowKit Go.Shelf M01 M04 M05 M06 M07 M09 M10
set_option linter.unusedVariables false
set_option linter.unusedSimpArgs false
theorem zeros_tail {l : List Nat} {k : Nat} (h : ∀ j, k ≤ j → j < l.length → l.getD j 0 = 0) : ∀ x ∈ l.drop k, x = 0 := by
  intro x hx
  obtain ⟨i, hi, rfl⟩ := List.getElem_of_mem hx
  rw [List.length_drop] at hi
  have := h (k + i) (by omega) (by omega)
  rw [List.getElem_drop]
  rw [List.getD_eq_getElem?_getD, List.getElem?_eq_getElem (by omega)] at this
  exact this
theorem weight_app (a b : List Nat) : weight (a ++ b) = weight a + weight b := by simp [weight]
theorem weight_zeros (l : List Nat) (h : ∀ x ∈ l, x = 0) : weight l = 0 := by
  induction l with
  | nil => rfl
  | cons x l ih =>
    have hx := h x (by simp)
    have := ih (fun y hy => h y (by simp [hy]))
    subst hx
    unfold weight at this ⊢
    rw [List.map_cons, List.sum_cons, this]
    rfl
theorem sum_zeros (l : List Nat) (h : ∀ x ∈ l, x = 0) : l.sum = 0 := by
  induction l with
  | nil => rfl
  | cons x l ih => rw [List.sum_cons, ih (fun y hy => h y (by simp [hy])), h x (by simp)]
theorem weight_cut {l : List Nat} {k : Nat} (h : ∀ j, k ≤ j → j < l.length → l.getD j 0 = 0) : weight (l.take k) = weight l := by
  have := weight_app (l.take k) (l.drop k)
  rw [List.take_append_drop, weight_zeros _ (zeros_tail h)] at this
  omega
theorem cls_cut {l : List Nat} {k : Nat} (hm : May l) (h : ∀ j, k ≤ j → j < l.length → l.getD j 0 = 0) : (clsE (l.take k)).1 = (clsE l).1 := by
  have hm2 : May (l.take k) := ⟨fun x hx => hm.1 x (List.mem_of_mem_take hx), by rw [List.length_take]; have := hm.2; omega⟩
  unfold clsE
  rw [if_pos hm, if_pos hm2]
  show cls _ = cls _
  unfold cls
  rw [weight_cut h]
theorem single_cut {l : List Nat} {k : Nat} (h : ∀ j, k ≤ j → j < l.length → l.getD j 0 = 0) : singleB (l.take k) = singleB l := by
  have hz := zeros_tail h
  have hs : (l.take k).sum = l.sum := by
    have := List.sum_append (l₁ := l.take k) (l₂ := l.drop k)
    rw [List.take_append_drop, sum_zeros _ hz] at this
    omega
  have hall : (∀ x ∈ l.take k, x ≤ 1) ↔ (∀ x ∈ l, x ≤ 1) := by
    constructor
    · intro h1 x hx
      rw [← List.take_append_drop k l] at hx
      rcases List.mem_append.1 hx with h2 | h2
      · exact h1 x h2
      · rw [hz x h2]; omega
    · intro h1 x hx; exact h1 x (List.mem_of_mem_take hx)
  unfold singleB
  rw [hs]
  simp only [hall]
def bestF (f : List Nat) : List Nat := (limL f 15).take (cutZ (limL f 15) 257 (limL f 15).length)
def bestO (o : List Nat) : List Nat := (limL o 15).take (cutZ (limL o 15) 1 (limL o 15).length)
theorem cut_tail (l : List Nat) (least : Nat) : ∀ j, cutZ l least l.length ≤ j → j < l.length → l.getD j 0 = 0 := fun j h1 h2 => cutZ_zero l least l.length j h1 h2
theorem getD_take0 (l : List Nat) (k j : Nat) (h : j < k) : (l.take k).getD j 0 = l.getD j 0 := by
  rw [List.getD_eq_getElem?_getD, List.getD_eq_getElem?_getD, List.getElem?_take_of_lt h]
theorem getD_cut (l : List Nat) (least j : Nat) : (l.take (cutZ l least l.length)).getD j 0 = l.getD j 0 := by
  by_cases h : j < cutZ l least l.length
  · exact getD_take0 _ _ _ h
  · rw [List.getD_eq_getElem?_getD, List.getElem?_eq_none (by rw [List.length_take]; omega)]
    by_cases h2 : j < l.length
    · exact (cut_tail l least j (by omega) h2).symm
    · rw [List.getD_eq_getElem?_getD, List.getElem?_eq_none (by omega)]
theorem bestF_len (f : List Nat) (h : 257 ≤ f.length) : 257 ≤ (bestF f).length ∧ (bestF f).length ≤ f.length := by
  unfold bestF
  have h1 := cutZ_ge (limL f 15) 257 (limL f 15).length (by rw [limL_len]; exact h)
  have h2 := cutZ_le (limL f 15) 257 (limL f 15).length
  have h3 := limL_len f 15
  rw [List.length_take]; omega
theorem bestO_len (o : List Nat) (h : 1 ≤ o.length) : 1 ≤ (bestO o).length ∧ (bestO o).length ≤ o.length := by
  unfold bestO
  have h1 := cutZ_ge (limL o 15) 1 (limL o 15).length (by rw [limL_len]; exact h)
  have h2 := cutZ_le (limL o 15) 1 (limL o 15).length
  have h3 := limL_len o 15
  rw [List.length_take]; omega
theorem codes_may (f o : List Nat) (h1 : 257 ≤ f.length) (h2 : f.length ≤ 286) (h3 : 1 ≤ o.length) (h4 : o.length ≤ 30) (h5 : 0 < f.getD 256 0) : mayH (bestF f) (bestO o) = true := by
  obtain ⟨f1, f2⟩ := lim_kind f h2
  obtain ⟨o1, o2⟩ := lim_kind o (by omega)
  have hm := best_may f o h1 h2 h3 h4 h5
  have bf := bestF_len f h1
  have bo := bestO_len o h3
  have mf : May (limL f 15) := ⟨fun x hx => Nat.le_trans (f1 x hx) (by decide), by rw [limL_len]; omega⟩
  have mo : May (limL o 15) := ⟨fun x hx => Nat.le_trans (o1 x hx) (by decide), by rw [limL_len]; omega⟩
  have cf := cls_cut mf (cut_tail (limL f 15) 257)
  have co := cls_cut mo (cut_tail (limL o 15) 1)
  have sf := single_cut (cut_tail (limL f 15) 257)
  have so := single_cut (cut_tail (limL o 15) 1)
  have lf : long (bestF f) = false := by unfold long; simp; intro x hx; exact f1 x (List.mem_of_mem_take hx)
  have lo : long (bestO o) = false := by unfold long; simp; intro x hx; exact o1 x (List.mem_of_mem_take hx)
  have hz : (bestF f).getD 256 0 = (limL f 15).getD 256 0 := getD_cut _ _ _
  unfold mayH at hm ⊢
  simp only [Bool.and_eq_true, decide_eq_true_eq, Bool.or_eq_true, Bool.not_eq_true'] at hm ⊢
  obtain ⟨⟨⟨⟨⟨_, g5⟩, _⟩, _⟩, g8⟩, g9⟩ := hm
  refine ⟨⟨⟨⟨⟨⟨⟨⟨bf.1, by omega⟩, bo.1⟩, by omega⟩, by rw [hz]; exact g5⟩, lf⟩, lo⟩, ?_⟩, ?_⟩
  · show (clsE (List.take _ _)).1 = 2 ∨ singleB (List.take _ _) = true
    rw [cf, sf]; exact g8
  · show ((clsE (List.take _ _)).1 = 2 ∨ (clsE (List.take _ _)).1 = 0) ∨ singleB (List.take _ _) = true
    rw [co, so]; exact g9
end Go.Proofs.Ytmgoeokdlklabaa

namespace Go.Proofs.Ytmgoeokdlklabaa
open Go.RowKit Go.Shelf M01 M04 M05 M06 M07 M08 M09 M10 M17
set_option linter.unusedVariables false
set_option linter.unusedSimpArgs false
def cntU (far : Bool) (n : Nat) (us : List URow) : List Nat := us.foldl (fun F r => if r.far = far then F.set r.sym (F.getD r.sym 0 + 1) else F) (List.replicate n 0)
theorem cntU_snoc (far : Bool) (n : Nat) (us : List URow) (r : URow) : cntU far n (us ++ [r]) = if r.far = far then (cntU far n us).set r.sym ((cntU far n us).getD r.sym 0 + 1) else cntU far n us := by
  unfold cntU; rw [List.foldl_append]; rfl
theorem cntU_foldlen (far : Bool) : ∀ (us : List URow) (F : List Nat), (us.foldl (fun F r => if r.far = far then F.set r.sym (F.getD r.sym 0 + 1) else F) F).length = F.length := by
  intro us
  induction us with
  | nil => intro F; rfl
  | cons r us ih =>
    intro F
    rw [List.foldl_cons, ih]
    split
    · rw [List.length_set]
    · rfl
theorem cntU_len (far : Bool) (n : Nat) (us : List URow) : (cntU far n us).length = n := by unfold cntU; rw [cntU_foldlen, List.length_replicate]
theorem cntU_take (far : Bool) (n : Nat) (us : List URow) (i : Nat) (h : i < us.length) : cntU far n (us.take (i + 1)) = if us[i].far = far then (cntU far n (us.take i)).set us[i].sym ((cntU far n (us.take i)).getD us[i].sym 0 + 1) else cntU far n (us.take i) := by
  rw [List.take_succ_eq_append_getElem h, cntU_snoc]
theorem cntU_le (far : Bool) (n : Nat) (us : List URow) : ∀ i, i ≤ us.length → ∀ x ∈ cntU far n (us.take i), x ≤ i := by
  intro i
  induction i with
  | zero =>
    intro _ x hx
    have : x ∈ List.replicate n 0 := hx
    have := List.eq_of_mem_replicate this
    omega
  | succ i ih =>
    intro hi x hx
    have ih := ih (by omega)
    rw [cntU_take far n us i (by omega)] at hx
    split at hx
    · rcases List.mem_or_eq_of_mem_set hx with h | rfl
      · have := ih x h; omega
      · have := M04.getD_le ih us[i].sym; omega
    · have := ih x hx; omega
theorem cntU_mono (far : Bool) (s : Nat) : ∀ (us : List URow) (F : List Nat), F.getD s 0 ≤ (us.foldl (fun F r => if r.far = far then F.set r.sym (F.getD r.sym 0 + 1) else F) F).getD s 0 := by
  intro us
  induction us with
  | nil => intro F; exact Nat.le_refl _
  | cons r us ih =>
    intro F
    rw [List.foldl_cons]
    refine Nat.le_trans ?_ (ih _)
    split
    · by_cases h : r.sym = s
      · subst h
        by_cases hl : r.sym < F.length
        · rw [List.getD_eq_getElem?_getD (l := F.set _ _), List.getElem?_set_self hl]; show _ ≤ F.getD r.sym 0 + 1; omega
        · rw [List.getD_eq_getElem?_getD, List.getElem?_eq_none (by omega)]; exact Nat.zero_le _
      · rw [List.getD_eq_getElem?_getD (l := F.set _ _), List.getElem?_set_ne h, ← List.getD_eq_getElem?_getD]; exact Nat.le_refl _
    · exact Nat.le_refl _
theorem cntU_pos (far : Bool) (n : Nat) (us : List URow) (r : URow) (h : r ∈ us) (hf : r.far = far) (hs : r.sym < n) : 0 < (cntU far n us).getD r.sym 0 := by
  obtain ⟨a, b, rfl⟩ := List.append_of_mem h
  have h1 : cntU far n (a ++ r :: b) = b.foldl (fun F r => if r.far = far then F.set r.sym (F.getD r.sym 0 + 1) else F) (cntU far n (a ++ [r])) := by
    unfold cntU; rw [← List.foldl_append]; simp
  rw [h1]
  refine Nat.lt_of_lt_of_le ?_ (cntU_mono far r.sym b _)
  rw [cntU_snoc, if_pos hf, List.getD_eq_getElem?_getD, List.getElem?_set_self (by rw [cntU_len]; exact hs)]
  exact Nat.succ_pos _
theorem useU_last (l : List Tok) (h : ∀ t ∈ l, tokOk t) : endU ∈ useU l := by rw [useU_ok l h]; simp
def codE (l : List Tok) : Nat := if ∀ t ∈ l, tokOk t then 0 else 5
def codF (l : List Tok) : List Nat := bestF (cntU false 286 (useU l))
def codO (l : List Tok) : List Nat := bestO (cntU true 30 (useU l))
theorem cod_may (l : List Tok) (h : ∀ t ∈ l, tokOk t) : mayH (codF l) (codO l) = true := by
  refine codes_may _ _ ?_ ?_ ?_ ?_ ?_
  · rw [cntU_len]; decide
  · rw [cntU_len]; decide
  · rw [cntU_len]; decide
  · rw [cntU_len]; decide
  · exact cntU_pos false 286 (useU l) endU (useU_last l h) rfl (by decide)
theorem useU_rows (l : List Tok) (hb : ∀ t ∈ l, t.byte < 256) (h : ∀ t ∈ l, tokOk t) : ∀ r ∈ useU l, rowOk r := by
  intro r hr
  rw [useU_ok l h] at hr
  rcases List.mem_append.1 hr with h1 | h1
  · obtain ⟨t, ht, hrt⟩ := List.mem_flatMap.1 h1
    exact tokU_ok t (h t ht) (hb t ht) r hrt
  · rw [List.mem_singleton] at h1
    subst h1
    exact ⟨rfl, by decide, by decide⟩
theorem lim_pos (f : List Nat) (s : Nat) (hl : f.length ≤ 300) (hs : s < f.length) (h : 0 < f.getD s 0) : (limL f 15).getD s 0 ≠ 0 := by
  have hr1 := (rar_perm f).length_eq
  have hr2 := used_le f
  rw [limL_get f 15 s hs]
  have := (limS_bound f 15 s (by decide) (pow15 _ (by omega)) hs).2
  omega
theorem cod_sym (l : List Tok) (hb : ∀ t ∈ l, t.byte < 256) (h : ∀ t ∈ l, tokOk t) : ∀ r ∈ useU l, r.err = 0 ∧ lensOf (codF l) (codO l) r ≠ 0 := by
  intro r hr
  obtain ⟨h1, h2, h3⟩ := useU_rows l hb h r hr
  refine ⟨h1, ?_⟩
  unfold lensOf
  cases hf : r.far with
  | false =>
    rw [hf] at h3
    simp only [Bool.false_eq_true, if_false] at h3 ⊢
    unfold codF bestF
    rw [getD_cut]
    exact lim_pos _ _ (by rw [cntU_len]; decide) (by rw [cntU_len]; exact h3) (cntU_pos false 286 _ r hr hf h3)
  | true =>
    rw [hf] at h3
    simp only [if_true] at h3 ⊢
    unfold codO bestO
    rw [getD_cut]
    exact lim_pos _ _ (by rw [cntU_len]; decide) (by rw [cntU_len]; exact h3) (cntU_pos true 30 _ r hr hf h3)
theorem symU_some (f o : List Nat) : ∀ (us : List URow) (n : Nat), (∀ r ∈ us, r.err = 0 ∧ lensOf f o r ≠ 0) → ∃ m, symU f o us n = some m := by
  intro us
  induction us with
  | nil => intro n _; exact ⟨n, rfl⟩
  | cons r us ih =>
    intro n h
    obtain ⟨h1, h2⟩ := h r (by simp)
    unfold symU
    rw [if_neg (by simp [h1, h2])]
    exact ih _ (fun r hr => h r (by simp [hr]))
end Go.Proofs.Ytmgoeokdlklabaa

namespace Go.Proofs.Ytmgoeokdlklabaa
open Go.RowKit
set_option linter.unusedVariables false
theorem range_law2 {P : Program} {g : Operand} {ps : Array Tmp} {assign body : Code} {Q : Exit → Act → World → Prop} {a : Act} {w : World}
    {gf : Nat} {lb : Array Value} (hg : a.eval g = .func (.func gf) #[] lb) (eg : ∀ args w, (callFunc gf args).run P w = .ok (.enter gf args) w)
    {n : Nat} {row : Nat → Array Value} {S T : Nat → Prop} {w0 : World} (hy : Yields P gf lb n row S T w0) (hsame : SameOn S w0 w) (hS : ∀ b, S b → b < w.heap.size) (hT : ∀ b, T b → b < w.heap.size)
    (hps : ∀ i, (row i).size = ps.size)
    (I : Nat → World → Prop) (Ix : Code → Nat → World → Prop)
    (hI : ∀ i A B, I i A → Only T A B → I i B) (hIp : ∀ i A l o o', I i A → w.heap.size ≤ l → A.heap[l]? = some o → o.isCells = false → I i (A.putObj l o'))
    (hX : ∀ c i A B, Ix c i A → Only T A B → Ix c i B) (hXp : ∀ c i A l o o', Ix c i A → w.heap.size ≤ l → A.heap[l]? = some o → o.isCells = false → Ix c i (A.putObj l o'))
    (h0 : I 0 w) (Ax : Nat → Act → World → Prop)
    (hAp : ∀ i a' A l o o', Ax i a' A → w.heap.size ≤ l → A.heap[l]? = some o → o.isCells = false → Ax i a' (A.putObj l o'))
    (hassign : ∀ (l i : Nat) (W : World) (K : Act → World → Prop), i < n → w.heap.size + 2 ≤ W.heap.size → I i W → (∀ a' W', KeepsFrom w.heap.size W W' → SameOn S W W' → Ax i a' W' → K a' W') →
      assign.wpIn (Fence.wide.inRound l) 9 P (Exit.then K (fun _ _ _ => False)) { tmps := (ps.zip (row i)).foldl (fun t (p, v) => t.setIfInBounds p v) a.tmps, defers := [] } W)
    (hbody : ∀ (l i : Nat) (hi : i < n) (a' : Act) (A : World), w.heap.size + 2 ≤ A.heap.size → Ax i a' A → body.wpIn (Fence.wide.inRound l) 9 P (roundEnds w.heap.size S I Ix i A) a' A)
    (hdone : ∀ (A : World), I n A → A.heap[w.heap.size]? = some (.deferred (some [])) → Q .normal { a with defers := { target := .collected w.heap.size, args := #[] } :: a.defers } A)
    (hstop : ∀ (c : Code) (i : Nat) (A : World), i < n → Ix c (i + 1) A → A.heap[w.heap.size]? = some (.deferred (some [])) → c.wpIn Fence.wide 9 P Q { a with defers := { target := .collected w.heap.size, args := #[] } :: a.defers } A) :
    (Code.rangeFunc g ps assign body).wpIn Fence.wide 9 P Q a w := by
  refine wpIn_rangeFunc ?_
  intro fn hfn
  obtain ⟨rec, hrec⟩ : ∃ rec : LoopState → Option Code → Loop, rec = fun st pe => { state := st, pending := pe, fn, tmps := a.tmps, params := ps, assign, body, defers := w.heap.size } := ⟨_, rfl⟩
  obtain ⟨W1, hW1⟩ : ∃ W1, (w.alloc (.deferred (some []))).alloc (.loop (rec .ready none)) = W1 := ⟨_, rfl⟩
  have hs1 : W1.heap.size = w.heap.size + 2 := by rw [← hW1]; simp
  have hL1 : W1.heap[w.heap.size + 1]? = some (.loop (rec .ready none)) := by
    rw [← hW1]; have := World.alloc_heap_new (w.alloc (.deferred (some []))) (.loop (rec .ready none)); rwa [World.size_alloc] at this
  have hK1 : W1.heap[w.heap.size]? = some (.deferred (some [])) := by
    rw [← hW1]; exact (Below.heap_alloc _ _ _ (by simp)).trans (World.alloc_heap_new w _)
  have hI1 : I 0 W1 := hI 0 w W1 h0 (by rw [← hW1]; exact ((Only.refl T w).alloc _).alloc _)
  have hsame1 : SameOn S w0 W1 := ⟨by have := hsame.size; omega, fun b hb => by
    rw [← hW1, Below.heap_alloc _ _ _ (by have := hS b hb; simp; omega), Below.heap_alloc _ _ _ (hS b hb)]
    exact hsame.same b hb⟩
  refine ⟨w.heap.size + 1, [{ target := .collected w.heap.size, args := #[] }], W1, { target := .fn (.func gf) lb, args := #[.func (.yield (w.heap.size + 1)) #[] #[]] }, W1, gf,
    #[.func (.yield (w.heap.size + 1)) #[] #[]] ++ lb, W1, ?_, ?_, ?_, ?_, fun h => by simp [Fence.wide] at h, ?_⟩
  · rw [← hW1, hrec]; exact run_enterLoop_outer _ _ _ _ _
  · simp only [resolve, hg]
    simp [go_sem]
  · intro f' hf'; trivial
  · simp [invoke, go_sem, eg]
  · have hyy := hy (w.heap.size + 1)
      (fun i A => I i A ∧ w.heap.size + 2 ≤ A.heap.size ∧ A.heap[w.heap.size + 1]? = some (.loop (rec .ready none)) ∧ A.heap[w.heap.size]? = some (.deferred (some [])))
      (fun i A => ∃ c, Ix c i A ∧ A.heap[w.heap.size + 1]? = some (.loop (rec .done (some c))) ∧ A.heap[w.heap.size]? = some (.deferred (some [])))
      W1 hsame1
      (fun i A B h ho => ⟨hI i A B h.1 ho, Nat.le_trans h.2.1 ho.size, box_only h.2.2.1 ho (fun t => by have := hT _ t; omega), box_only h.2.2.2 ho (fun t => by have := hT _ t; omega)⟩)
      (fun i A B h ho => by
        obtain ⟨c, hc, hl, hk⟩ := h
        exact ⟨c, hX c i A B hc ho, box_only hl ho (fun t => by have := hT _ t; omega), box_only hk ho (fun t => by have := hT _ t; omega)⟩)
      ?_ ⟨hI1, by omega, hL1, hK1⟩
    · refine (callsIn_wide.2 (callsIn_wide.1 hyy)).mono ?_
      rintro e W2 ⟨⟨v, rfl⟩, (⟨hi, _, hl, hk⟩ | ⟨i, hlt, c, hi, hl, hk⟩)⟩
      · exact ⟨none, _, by have := run_endLoop (P := P) hl (by rw [hrec]; simp); rw [hrec] at this; exact this, hdone _ (hIp _ _ _ _ _ hi (by omega) hl rfl) ((World.putObj_heap_other (by omega)).trans hk)⟩
      · exact ⟨some c, _, by have := run_endLoop (P := P) hl (by rw [hrec]; simp); rw [hrec] at this; exact this, hstop c i _ hlt (hXp _ _ _ _ _ _ hi (by omega) hl rfl) ((World.putObj_heap_other (by omega)).trans hk)⟩
    · rintro i W hi ⟨hii, hsz, hl, hk⟩
      have hy' := run_yield (P := P) (args := row i) hl (by rw [hrec]; exact hps _)
      rw [hrec] at hy'
      refine wide_yield (n := 9) ⟨fn, _, assign, body, hy', roundIn_of_wpIn hfn (hassign _ i W _ hi hsz hii fun a' W' hk0 hs0 hax => ⟨_, run_beginRound (hk0.same _ _ (by omega) hl rfl) (by rw [hrec]), ?_⟩)⟩
      replace hl := hk0.same _ _ (by omega) hl rfl
      replace hk := hk0.same _ _ (by omega) hk rfl
      have hlt : w.heap.size + 1 < W'.heap.size := by have := hk0.size; omega
      have hl2 : (W'.putObj (w.heap.size + 1) (.loop { rec .ready none with state := .busy })).heap[w.heap.size + 1]? = some (.loop { rec .ready none with state := .busy }) := World.putObj_heap_same hlt
      have hk2 : (W'.putObj (w.heap.size + 1) (.loop { rec .ready none with state := .busy })).heap[w.heap.size]? = some (.deferred (some [])) := (World.putObj_heap_other (by omega)).trans hk
      have hS2 : ∀ (A : World) (o : Obj), SameOn S A (A.putObj (w.heap.size + 1) o) := fun A o => ⟨by rw [World.putObj_size]; exact Nat.le_refl _, fun b hb => World.putObj_heap_other (by have := hS b hb; omega)⟩
      refine wpIn_mono (hbody _ i hi _ _ (by rw [World.putObj_size]; omega) (hAp _ _ _ _ _ _ hax (by omega) hl rfl)) ?_
      have fin : ∀ (jump : Option Code) (W3 : World), KeepsFrom w.heap.size (W'.putObj (w.heap.size + 1) (.loop { rec .ready none with state := .busy })) W3 →
          (Instr.endRound (w.heap.size + 1) jump).run P W3 = .ok (.bool jump.isNone) (W3.putObj (w.heap.size + 1) (.loop (rec (if jump.isNone then .ready else .done) jump))) ∧
          W3.heap[w.heap.size + 1]? = some (.loop { rec .ready none with state := .busy }) ∧
          (W3.putObj (w.heap.size + 1) (.loop (rec (if jump.isNone then .ready else .done) jump))).heap[w.heap.size + 1]? = some (.loop (rec (if jump.isNone then .ready else .done) jump)) ∧
          (W3.putObj (w.heap.size + 1) (.loop (rec (if jump.isNone then .ready else .done) jump))).heap[w.heap.size]? = some (.deferred (some [])) ∧ w.heap.size + 2 ≤ (W3.putObj (w.heap.size + 1) (.loop (rec (if jump.isNone then .ready else .done) jump))).heap.size := fun jump W3 hk3 => by
        have hl3 := hk3.same _ _ (by omega) hl2 rfl
        have := run_endRound (P := P) jump hl3
        rw [hrec] at this ⊢
        exact ⟨this, by rw [hrec] at hl3; exact hl3, World.putObj_heap_same (Array.getElem?_eq_some_iff.1 hl3).1, (World.putObj_heap_other (by omega)).trans (hk3.same _ _ (by omega) hk2 rfl), by rw [World.putObj_size]; have := (Array.getElem?_eq_some_iff.1 hl3).1; omega⟩
      rintro e a3 W3 hp
      cases e with
      | normal =>
        obtain ⟨hk3, hkp3, hi3⟩ := hp
        obtain ⟨hr, hl3, hl4, hk4, hz4⟩ := fin none W3 hk3
        exact ⟨_, _, hr, .inl ⟨rfl, ⟨hIp _ _ _ _ _ hi3 (by omega) hl3 rfl, hz4, hl4, hk4⟩, ((hs0.trans (hS2 _ _)).trans hkp3).trans (hS2 _ _)⟩⟩
      | ret =>
        obtain ⟨hk3, hi3⟩ := hp
        obtain ⟨hr, hl3, hl4, hk4, _⟩ := fin (some .ret) W3 hk3
        exact ⟨_, _, hr, .inr ⟨rfl, .ret, hXp _ _ _ _ _ _ hi3 (by omega) hl3 rfl, hl4, hk4⟩⟩
      | exit id =>
        obtain ⟨hk3, hi3⟩ := hp
        obtain ⟨hr, hl3, hl4, hk4, _⟩ := fin (some (.exit id)) W3 hk3
        exact ⟨_, _, hr, .inr ⟨rfl, .exit id, hXp _ _ _ _ _ _ hi3 (by omega) hl3 rfl, hl4, hk4⟩⟩
      | goto t =>
        obtain ⟨hk3, hi3⟩ := hp
        obtain ⟨hr, hl3, hl4, hk4, _⟩ := fin (some (.goto t)) W3 hk3
        exact ⟨_, _, hr, .inr ⟨rfl, .goto t, hXp _ _ _ _ _ _ hi3 (by omega) hl3 rfl, hl4, hk4⟩⟩
      | panic ch => exact hp.elim
      | outgrown => exact hp.elim
end Go.Proofs.Ytmgoeokdlklabaa
