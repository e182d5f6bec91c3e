/- cost.may, cost.uses: contracts. -/
import Derived.Test.YtlofoocgiomfbaaRef08
import Derived.Test.YtlofoocgiomfbaaWords
namespace Go.Proofs.Ytlofoocgiomfbaa
open Go.RowKit Go.Shelf M08 M17
attribute [local go_sem] Oper.semAt_some
set_option linter.unusedVariables false

def mayN (t : Tok) : Nat := if (t.len = 0 ∧ t.dist ≠ 0) ∨ (t.len ≠ 0 ∧ t.byte ≠ 0) then 5 else 0
theorem box_below (w : World) (o : Obj) : Below w.heap.size w (w.alloc o) := (Below.refl _ _).alloc (Nat.le_refl _) _
theorem cost_may (t : Tok) (w : World) :
    Calls Try.prog 52 #[tokV t] w fun e w' => e = .returned (.int .i64 (mayN t : Nat)) ∧ Below w.heap.size w w' := by
  obtain ⟨L, D, b⟩ := t
  unfold tokV
  by_cases h0 : L = 0
  · by_cases h1 : D = 0
    · have H : Hid (mayN ⟨L, D, b⟩ = 0) := by unfold Hid mayN; rw [if_neg (by simp [h0, h1])]
      have b0 : (L == 0) = true := by simp [h0]
      have b2 : (L != 0) = false := by simp [h0]
      have b1 : (D != 0) = false := by simp [h1]
      clear h0 h1
      go_enter Try.func52, Try.ntmps52
      go_wp2
      go_ret
      exact ⟨ret_int (by rw [H.out]; rfl), box_below _ _⟩
    · have H : Hid (mayN ⟨L, D, b⟩ = 5) := by unfold Hid mayN; rw [if_pos (by simp [h0, h1])]
      have b0 : (L == 0) = true := by simp [h0]
      have b2 : (L != 0) = false := by simp [h0]
      have b1 : (D != 0) = true := by simp [h1]
      clear h0 h1
      go_enter Try.func52, Try.ntmps52
      go_wp2
      go_ret
      exact ⟨ret_int (by rw [H.out]; rfl), box_below _ _⟩
  · by_cases h1 : b = 0
    · have H : Hid (mayN ⟨L, D, b⟩ = 0) := by unfold Hid mayN; rw [if_neg (by simp [h0, h1])]
      have b0 : (L == 0) = false := by simp [h0]
      have b2 : (L != 0) = true := by simp [h0]
      have b1 : ((b : Int) != 0) = false := by simp; omega
      clear h0 h1
      go_enter Try.func52, Try.ntmps52
      go_wp2
      go_ret
      exact ⟨ret_int (by rw [H.out]; rfl), box_below _ _⟩
    · have H : Hid (mayN ⟨L, D, b⟩ = 5) := by unfold Hid mayN; rw [if_pos (by simp [h0, h1])]
      have b0 : (L == 0) = false := by simp [h0]
      have b2 : (L != 0) = true := by simp [h0]
      have b1 : ((b : Int) != 0) = true := by simp; omega
      clear h0 h1
      go_enter Try.func52, Try.ntmps52
      go_wp2
      go_ret
      exact ⟨ret_int (by rw [H.out]; rfl), box_below _ _⟩

theorem cost_uses (a : Option Addr) (cap n : Nat) (w : World) :
    Calls Try.prog 28 #[.slice a n cap] w fun e w' => e = .returned (.func (.func 51) #[] #[.pointer (some ⟨w.heap.size, 0, none⟩)]) ∧ w' = w.alloc (.cells #[.slice a n cap] 22) := by
  have hmf : ∀ (fn : Fn) (first cap : Array Value) (w : World), (Instr.makeFunc fn first cap).run Try.prog w = .ok (.func fn first cap) w := fun _ _ _ _ => rfl
  go_enter Try.func28, Try.ntmps28
  go_wp2
  go_ret
  exact ⟨rfl, rfl⟩

def lenS (n : Int) : Nat := if 3 ≤ n ∧ n ≤ 258 then 257 + lk n.toNat else 0
def lenB (n : Int) : Nat := if 3 ≤ n ∧ n ≤ 258 then lbits (257 + lk n.toNat) else 0
def lenX (n : Int) : Nat := if 3 ≤ n ∧ n ≤ 258 then n.toNat - lensL.getD (lk n.toNat) 0 else 0
def lenE (n : Int) : Nat := if 3 ≤ n ∧ n ≤ 258 then 0 else 5
def dstS (n : Int) : Nat := if 1 ≤ n ∧ n ≤ 32768 then dk n.toNat else 0
def dstB (n : Int) : Nat := if 1 ≤ n ∧ n ≤ 32768 then dbits (dk n.toNat) else 0
def dstX (n : Int) : Nat := if 1 ≤ n ∧ n ≤ 32768 then n.toNat - distL.getD (dk n.toNat) 0 else 0
def dstE (n : Int) : Nat := if 1 ≤ n ∧ n ≤ 32768 then 0 else 5
theorem token_length_all (n : Int) (w : World) :
    Calls Try.prog 46 #[.int .i64 n] w fun e w' => e = .returned (.tuple #[.int .i64 (lenS n : Nat), .int .i64 (lenB n : Nat), .int .i64 (lenX n : Nat), .int .i64 (lenE n : Nat)]) ∧ Below w.heap.size w w' := by
  unfold lenS lenB lenX lenE
  by_cases h : 3 ≤ n ∧ n ≤ 258
  · obtain ⟨m, rfl⟩ := Int.eq_ofNat_of_zero_le (by omega : 0 ≤ n)
    simp only [if_pos h, Int.toNat_natCast]
    exact token_length m w (by omega) (by omega)
  · simp only [if_neg h]
    exact (token_length_no n w (by omega)).mono fun e w' ⟨h1, h2⟩ => ⟨h1, h2 ▸ Below.refl _ _⟩
theorem token_distance_all (n : Int) (w : World) :
    Calls Try.prog 47 #[.int .i64 n] w fun e w' => e = .returned (.tuple #[.int .i64 (dstS n : Nat), .int .i64 (dstB n : Nat), .int .i64 (dstX n : Nat), .int .i64 (dstE n : Nat)]) ∧ Below w.heap.size w w' := by
  unfold dstS dstB dstX dstE
  by_cases h : 1 ≤ n ∧ n ≤ 32768
  · obtain ⟨m, rfl⟩ := Int.eq_ofNat_of_zero_le (by omega : 0 ≤ n)
    simp only [if_pos h, Int.toNat_natCast]
    exact token_distance m w (by omega) (by omega)
  · simp only [if_neg h]
    exact (token_distance_no n w (by omega)).mono fun e w' ⟨h1, h2⟩ => ⟨h1, h2 ▸ Below.refl _ _⟩

def useRow (l : List Tok) (i : Nat) : Array Value :=
  let r := (useU l).getD i endU
  #[.agg #[.bool r.far, .int .i64 (r.sym : Nat), .int .i64 (r.bits : Nat)], .int .i64 (r.err : Nat)]
def useP (l : List Tok) (k : Nat) : Nat := ((l.take k).flatMap tokU).length
theorem useRow_at {l : List Tok} {i : Nat} {r : URow} (h : (useU l)[i]? = some r) : i < (useU l).length ∧ useRow l i = #[.agg #[.bool r.far, .int .i64 (r.sym : Nat), .int .i64 (r.bits : Nat)], .int .i64 (r.err : Nat)] := by
  refine ⟨(List.getElem?_eq_some_iff.1 h).1, ?_⟩
  simp [useRow, List.getD, h]
theorem useP_succ (l : List Tok) (k : Nat) (hk : k < l.length) : useP l (k + 1) = useP l k + (tokU l[k]).length := by
  unfold useP
  rw [List.take_succ_eq_append_getElem hk, List.flatMap_append, List.length_append]
  simp
theorem use_get (l : List Tok) (k : Nat) (hk : k < l.length) (h : ∀ t ∈ l.take k, tokOk t) (j : Nat) (hj : j < (tokU l[k]).length) : (useU l)[useP l k + j]? = (tokU l[k])[j]? := by
  rw [useU_at l k hk h]
  unfold useP
  rw [List.getElem?_append_right (by omega), Nat.add_sub_cancel_left]
  split
  · rw [List.getElem?_append_left hj]
  · rfl
theorem use_last (l : List Tok) (k : Nat) (hk : k < l.length) (h : ∀ t ∈ l.take k, tokOk t) (hb : ¬ tokOk l[k]) : (useU l).length = useP l k + (tokU l[k]).length := by
  rw [useU_at l k hk h, if_neg hb, List.length_append]; rfl
theorem use_end (l : List Tok) (h : ∀ t ∈ l, tokOk t) : (useU l)[useP l l.length]? = some endU ∧ (useU l).length = useP l l.length + 1 := by
  rw [useU_ok l h]
  unfold useP
  rw [List.take_length]
  refine ⟨?_, by simp⟩
  rw [List.getElem?_append_right (Nat.le_refl _), Nat.sub_self]; rfl
theorem take_ok {l : List Tok} {k : Nat} (hk : k < l.length) (h : ∀ t ∈ l.take k, tokOk t) (h2 : tokOk l[k]) : ∀ t ∈ l.take (k + 1), tokOk t := by
  rw [List.take_succ_eq_append_getElem hk]
  intro t ht
  rcases List.mem_append.1 ht with ht | ht
  · exact h t ht
  · simp at ht; exact ht ▸ h2
theorem tokU_lit {t : Tok} (h : t.len = 0) (h1 : t.dist = 0) : tokOk t ∧ tokU t = [⟨false, t.byte, 0, 0⟩] := by
  refine ⟨by unfold tokOk; rw [if_pos h]; exact h1, ?_⟩
  unfold tokU; rw [if_pos h, if_pos h1]
theorem tokU_litbad {t : Tok} (h : t.len = 0) (h1 : t.dist ≠ 0) : ¬ tokOk t ∧ tokU t = [⟨false, t.byte, 0, 5⟩] := by
  refine ⟨by unfold tokOk; rw [if_pos h]; exact h1, ?_⟩
  unfold tokU; rw [if_pos h, if_neg h1]
theorem tokU_far {t : Tok} (h : t.len ≠ 0) (h1 : tokOk t) : tokU t = [⟨false, lenS t.len, lenB t.len, 0⟩, ⟨true, dstS t.dist, dstB t.dist, 0⟩] ∧ lenE t.len = 0 ∧ dstE t.dist = 0 ∧ mayN t = 0 := by
  have h2 := h1
  unfold tokOk at h2
  rw [if_neg h] at h2
  unfold tokU lenS lenB dstS dstB lenE dstE mayN
  rw [if_neg h, if_pos h1, if_pos ⟨h2.2.1, h2.2.2.1⟩, if_pos ⟨h2.2.1, h2.2.2.1⟩, if_pos h2.2.2.2, if_pos h2.2.2.2, if_pos ⟨h2.2.1, h2.2.2.1⟩, if_pos h2.2.2.2, if_neg (by simp [h, h2.1])]
  exact ⟨rfl, rfl, rfl, rfl⟩
theorem tokU_farbad {t : Tok} (h : t.len ≠ 0) (h1 : ¬ tokOk t) : tokU t = [⟨false, lenS t.len, lenB t.len, 5⟩] ∧ max (max (lenE t.len) (dstE t.dist)) (mayN t) = 5 := by
  have h2 := h1
  unfold tokOk at h2
  rw [if_neg h] at h2
  unfold tokU lenS lenB
  rw [if_neg h, if_neg h1]
  refine ⟨rfl, ?_⟩
  unfold lenE dstE mayN
  by_cases a : 3 ≤ t.len ∧ t.len ≤ 258
  · by_cases b : 1 ≤ t.dist ∧ t.dist ≤ 32768
    · have hb : t.byte ≠ 0 := fun hb => h2 ⟨hb, a.1, a.2, b.1, b.2⟩
      rw [if_pos a, if_pos b, if_pos (.inr ⟨h, hb⟩)]; rfl
    · rw [if_neg b]; split <;> split <;> rfl
  · rw [if_neg a]; split <;> split <;> rfl
theorem box3 {wr w1 : World} {x y z : Value} {t : TypeId} (h : Below (wr.alloc (.cells #[x, y, z] t)).heap.size (wr.alloc (.cells #[x, y, z] t)) w1) : w1.heap[wr.heap.size]? = some (.cells #[x, y, z] t) :=
  (h.block _ (by simp)).trans (World.alloc_heap_new _ _)
theorem cells3 {w : World} {b : Nat} {x y z : Value} {t : TypeId} (h : w.heap[b]? = some (.cells #[x, y, z] t)) : w.cell? ⟨b, 0, none⟩ = some x ∧ w.cell? ⟨b, 1, none⟩ = some y ∧ w.cell? ⟨b, 2, none⟩ = some z := by
  simp [World.cell?, h]
def useS (a : Option Addr) (B : Nat) (l : List Tok) (b : Nat) : Prop := b = B ∨ (0 < l.length ∧ ∃ x, a = some x ∧ b = x.block)

set_option maxRecDepth 100000 in
set_option maxHeartbeats 3200000 in
theorem uses_yields (a : Option Addr) (cap : Nat) (l : List Tok) (w : World) (B : Nat) (hl : l.length ≤ 100000) (hby : ∀ t ∈ l, t.byte < 256) (hr : RowS encT w a cap l) (hB : w.heap[B]? = some (.cells #[.slice a l.length cap] 22 (0, 0))) :
    Yields Try.prog 51 #[.pointer (some ⟨B, 0, none⟩)] (useU l).length (useRow l) (useS a B l) (fun _ => False) w := by
  intro y J Jx W hsame hJ hJx hY h0
  have HY := Lib.hid hY
  have HJ := Lib.hid hJ
  have hbox : W.cell? ⟨B, 0, none⟩ = some (.slice a l.length cap) := cell_of_one ((hsame.same B (.inl rfl)).trans hB)
  have HBY := Lib.hid hby
  clear hJ hJx hY hby
  refine callsIn_of_wp Try.func51 rfl trivial ?_ rfl
  simp only [Try.ntmps51, List.size_toArray, List.length_cons, List.length_nil, Nat.reduceAdd, Nat.reduceSub, Array.replicate_succ, Array.replicate_zero, List.push_toArray, List.append_toArray, List.nil_append, List.cons_append]
  gi_wp2
  gi_loopw [4, 5, 6, 7, 8, 9, 10, 11, 12, 13, 16] (fun _ _ _ _ _ _ _ _ _ _ i A => ∃ k : Nat, k ≤ l.length ∧ i = .int .i64 k ∧ (∀ t ∈ l.take k, tokOk t) ∧ SameOn (useS a B l) w A ∧ J (useP l k) A) (fun _ _ _ _ _ _ _ _ _ _ i _ => l.length - (intOf i).toNat)
  case atStart => exact ⟨0, by omega, rfl, by simp, hsame, by simpa [useP] using h0⟩
  case round =>
    clear hsame hbox h0
    obtain ⟨k, hk, rfl, hok, hsameA, hJA⟩ := hrel
    have HO := Lib.hid hok
    have HA := Lib.hid hJA
    clear hok hJA
    by_cases hlt : k < l.length
    · have hrA := hr.same hsameA.size (fun x h0 hx => hsameA.same _ (.inr ⟨h0, x, hx, rfl⟩))
      obtain ⟨b, off, rfl, hb, hcl⟩ := hrA.at hlt
      have c0 := hcl 0 _ rfl
      have c1 := hcl 1 _ rfl
      have c2 := hcl 2 _ rfl
      have G := Lib.hid (fun j (hj : j < (tokU l[k]).length) => use_get l k hlt HO.out j hj)
      have GL := Lib.hid (fun hb => use_last l k hlt HO.out hb)
      have GS := Lib.hid (useP_succ l k hlt)
      have GT := Lib.hid (fun h2 => take_ok hlt HO.out h2)
      have hbt := HBY.out _ (List.getElem_mem hlt)
      clear hrA hcl
      generalize l[k] = t at *
      obtain ⟨L, D, bt⟩ := t
      simp only [encT, Nat.add_zero] at c0 c1 c2 hbt
      rw [← Nat.add_assoc] at c1 c2
      have HS : Hid (∀ x, useS (some ⟨b, off, none⟩) B l x → x < wr.heap.size ∧ ¬ False) := by
        rintro x (rfl | ⟨h0, x', hx', rfl⟩)
        · exact ⟨Nat.lt_of_lt_of_le (Array.getElem?_eq_some_iff.1 hB).1 hsameA.size, id⟩
        · cases hx'; exact ⟨hb, id⟩
      by_cases h0 : L = 0
      · by_cases h1 : D = 0
        · obtain ⟨t1, t2⟩ := tokU_lit (t := ⟨L, D, bt⟩) h0 h1
          obtain ⟨hi, hrow⟩ := useRow_at ((G.out 0 (by rw [t2]; simp)).trans (by rw [t2]; rfl))
          have b0 : (L == 0) = true := by simp [h0]
          have hm : mayN ⟨0, 0, bt⟩ = 0 := by simp [mayN]
          subst h0 h1
          have T2 := Lib.hid t2
          have T1 := Lib.hid t1
          have HM := Lib.hid hm
          have HROW := Lib.hid hrow
          clear t1 t2 hm hrow
          gi_wp2
          refine ⟨trivial, ?_⟩
          gi_at_call 52
          refine (callsIn_wide.2 (cost_may ⟨0, 0, bt⟩ _)).mono ?_
          rintro e w1 ⟨rfl, hb1⟩
          rw [HM.out]
          obtain ⟨q0, q1, q2⟩ := cells3 (box3 hb1)
          have hO : Only (fun _ => False) wr w1 := ((Only.refl _ _).alloc _).below hb1
          have hJ1 := HJ.out _ _ _ HA.out hO
          obtain ⟨fn, tmps, assign, body, hy, hR⟩ := HY.out _ _ hi hJ1
          rw [HROW.out] at hy
          simp only [Int.cast_ofNat_Int] at hy
          have HR := Lib.hid hR
          have HK := Lib.hid (hO.sameOn (S := useS (some ⟨b, off, none⟩) B l) HS.out)
          clear hR hJ1 hO hb1
          gi_wp2
          refine (round_wide HR.out).mono ?_
          rintro e W' (⟨rfl, hJ', hk'⟩ | ⟨rfl, hJx'⟩)
          · gi_wp2
            go_roundw
            case rel => exact ⟨k + 1, by omega, by go_num, GT.out T1.out, (hsameA.trans HK.out).trans hk', by rw [GS.out, T2.out]; exact hJ'⟩
            case measure => simp [intOf]; omega
          · gi_wp2
            refine bodyPost_ret (results_none rfl _ _ _) rfl ?_
            exact ⟨⟨_, rfl⟩, .inr ⟨_, hi, hJx'⟩⟩
        · have b1 : (D == 0) = false := by simp [h1]
          obtain ⟨t1, t2⟩ := tokU_litbad (t := ⟨L, D, bt⟩) h0 h1
          obtain ⟨hi, hrow⟩ := useRow_at ((G.out 0 (by rw [t2]; simp)).trans (by rw [t2]; rfl))
          have b0 : (L == 0) = true := by simp [h0]
          have hm : mayN ⟨0, D, bt⟩ = 5 := by simp [mayN, h1]
          subst h0
          have T2 := Lib.hid t2
          have T1 := Lib.hid t1
          have HM := Lib.hid hm
          have HROW := Lib.hid hrow
          clear t1 t2 hm hrow
          gi_wp2
          refine ⟨trivial, ?_⟩
          gi_at_call 52
          refine (callsIn_wide.2 (cost_may ⟨0, D, bt⟩ _)).mono ?_
          rintro e w1 ⟨rfl, hb1⟩
          rw [HM.out]
          obtain ⟨q0, q1, q2⟩ := cells3 (box3 hb1)
          have hO : Only (fun _ => False) wr w1 := ((Only.refl _ _).alloc _).below hb1
          have hJ1 := HJ.out _ _ _ HA.out hO
          obtain ⟨fn, tmps, assign, body, hy, hR⟩ := HY.out _ _ hi hJ1
          rw [HROW.out] at hy
          simp only [Int.cast_ofNat_Int] at hy
          have HR := Lib.hid hR
          have HK := Lib.hid (hO.sameOn (S := useS (some ⟨b, off, none⟩) B l) HS.out)
          clear hR hJ1 hO hb1
          gi_wp2
          refine (round_wide HR.out).mono ?_
          rintro e W' (⟨rfl, hJ', hk'⟩ | ⟨rfl, hJx'⟩)
          · gi_wp2
            refine bodyPost_ret (results_none rfl _ _ _) rfl ?_
            exact ⟨⟨_, rfl⟩, .inl (by rw [GL.out T1.out, T2.out]; exact hJ')⟩
          · gi_wp2
            refine bodyPost_ret (results_none rfl _ _ _) rfl ?_
            exact ⟨⟨_, rfl⟩, .inr ⟨_, hi, hJx'⟩⟩
      · have b0 : (L == 0) = false := by simp [h0]
        by_cases hok : tokOk ⟨L, D, bt⟩
        · obtain ⟨t2, tl, td, hm⟩ := tokU_far (t := ⟨L, D, bt⟩) h0 hok
          obtain ⟨hi, hrow⟩ := useRow_at ((G.out 0 (by rw [t2]; simp)).trans (by rw [t2]; rfl))
          obtain ⟨hi2, hrow2⟩ := useRow_at ((G.out 1 (by rw [t2]; simp)).trans (by rw [t2]; rfl))
          have T2 := Lib.hid t2
          have T1 := Lib.hid hok
          have HM := Lib.hid hm
          have HL := Lib.hid tl
          have HD := Lib.hid td
          have HROW := Lib.hid hrow
          have HROW2 := Lib.hid hrow2
          clear t2 tl td hm hrow hrow2 h0 hok
          gi_wp2
          refine ⟨trivial, ?_⟩
          gi_at_call 46
          refine (callsIn_wide.2 (token_length_all L _)).mono ?_
          rintro e w1 ⟨rfl, hb1⟩
          have q1 := box3 hb1
          obtain ⟨_, p1, _⟩ := cells3 q1
          have hO1 : Only (fun _ => False) wr w1 := ((Only.refl _ _).alloc _).below hb1
          have hw1 : wr.heap.size < w1.heap.size := (Array.getElem?_eq_some_iff.1 q1).1
          have Q1 := Lib.hid q1
          have HO1 := Lib.hid hO1
          clear hb1 q1 hO1
          rw [HL.out]
          gi_wp2
          refine ⟨trivial, ?_⟩
          gi_at_call 47
          refine (callsIn_wide.2 (token_distance_all D _)).mono ?_
          rintro e w2 ⟨rfl, hb2⟩
          have q2 := (hb2.block _ hw1).trans Q1.out
          obtain ⟨p20, p21, p22⟩ := cells3 q2
          have hO2 : Only (fun _ => False) wr w2 := HO1.out.below hb2
          have hw2 : wr.heap.size < w2.heap.size := (Array.getElem?_eq_some_iff.1 q2).1
          have HO2 := Lib.hid hO2
          clear hb2 q2 hO2 HO1 Q1 p1
          rw [HD.out]
          gi_wp2
          refine ⟨trivial, ?_⟩
          gi_at_call 52
          refine (callsIn_wide.2 (cost_may ⟨L, D, bt⟩ _)).mono ?_
          rintro e w3 ⟨rfl, hb3⟩
          have hO := HO2.out.below hb3
          have hJ1 := HJ.out _ _ _ HA.out hO
          have HK := Lib.hid (hO.sameOn (S := useS (some ⟨b, off, none⟩) B l) HS.out)
          clear hO hb3 p20 p21 p22 HO2
          rw [HM.out]
          obtain ⟨fn, tmps, assign, body, hy, hR⟩ := HY.out _ _ hi hJ1
          rw [HROW.out] at hy
          simp only [Int.cast_ofNat_Int] at hy
          have HR := Lib.hid hR
          have HI2 := Lib.hid hi2
          have HI := Lib.hid hi
          clear hR hJ1 hi hi2
          gi_wp2
          refine (round_wide HR.out).mono ?_
          rintro e W' (⟨rfl, hJ', hk'⟩ | ⟨rfl, hJx'⟩)
          · obtain ⟨fn2, tmps2, assign2, body2, hy2, hR2⟩ := HY.out _ _ HI2.out hJ'
            rw [HROW2.out] at hy2
            simp only [Int.cast_ofNat_Int] at hy2
            have HR2 := Lib.hid hR2
            have HK2 := Lib.hid hk'
            clear hR2 hJ' hy HR hk'
            gi_wp2
            refine (round_wide HR2.out).mono ?_
            rintro e W2 (⟨rfl, hJ2, hk2⟩ | ⟨rfl, hJx2⟩)
            · gi_wp2
              go_roundw
              case rel => exact ⟨k + 1, by omega, by go_num, GT.out T1.out, ((hsameA.trans HK.out).trans HK2.out).trans hk2, by rw [GS.out, T2.out]; exact hJ2⟩
              case measure => simp [intOf]; omega
            · gi_wp2
              refine bodyPost_ret (results_none rfl _ _ _) rfl ?_
              exact ⟨⟨_, rfl⟩, .inr ⟨_, HI2.out, hJx2⟩⟩
          · gi_wp2
            refine ⟨fun _ h => (by cases h), ?_⟩
            gi_wp2
            refine bodyPost_ret (results_none rfl _ _ _) rfl ?_
            exact ⟨⟨_, rfl⟩, .inr ⟨_, HI.out, hJx'⟩⟩
        · obtain ⟨t2, tm⟩ := tokU_farbad (t := ⟨L, D, bt⟩) h0 hok
          obtain ⟨hi, hrow⟩ := useRow_at ((G.out 0 (by rw [t2]; simp)).trans (by rw [t2]; rfl))
          have T2 := Lib.hid t2
          have T1 := Lib.hid hok
          have HROW := Lib.hid hrow
          clear t2 hrow h0
          have hx : lenE L = 0 ∨ lenE L = 5 := by unfold lenE; split <;> simp
          have hy : dstE D = 0 ∨ dstE D = 5 := by unfold dstE; split <;> simp
          have hz : mayN ⟨L, D, bt⟩ = 0 ∨ mayN ⟨L, D, bt⟩ = 5 := by unfold mayN; split <;> simp
          rcases hx with hx | hx <;> rcases hy with hy | hy <;> rcases hz with hz | hz <;> rw [hx, hy, hz] at tm <;> first | (exact absurd tm (by decide)) | skip
          all_goals
            have HL := Lib.hid hx
            have HD := Lib.hid hy
            have HM := Lib.hid hz
            clear hx hy hz tm hok
            gi_wp2
            refine ⟨trivial, ?_⟩
            gi_at_call 46
            refine (callsIn_wide.2 (token_length_all L _)).mono ?_
            rintro e w1 ⟨rfl, hb1⟩
            have q1 := box3 hb1
            obtain ⟨_, p1, _⟩ := cells3 q1
            have hO1 : Only (fun _ => False) wr w1 := ((Only.refl _ _).alloc _).below hb1
            have hw1 : wr.heap.size < w1.heap.size := (Array.getElem?_eq_some_iff.1 q1).1
            have Q1 := Lib.hid q1
            have HO1 := Lib.hid hO1
            clear hb1 q1 hO1
            rw [HL.out]
            gi_wp2
            refine ⟨trivial, ?_⟩
            gi_at_call 47
            refine (callsIn_wide.2 (token_distance_all D _)).mono ?_
            rintro e w2 ⟨rfl, hb2⟩
            have q2 := (hb2.block _ hw1).trans Q1.out
            obtain ⟨p20, p21, p22⟩ := cells3 q2
            have hO2 : Only (fun _ => False) wr w2 := HO1.out.below hb2
            have hw2 : wr.heap.size < w2.heap.size := (Array.getElem?_eq_some_iff.1 q2).1
            have HO2 := Lib.hid hO2
            clear hb2 q2 hO2 HO1 Q1 p1
            rw [HD.out]
            gi_wp2
            refine ⟨trivial, ?_⟩
            gi_at_call 52
            refine (callsIn_wide.2 (cost_may ⟨L, D, bt⟩ _)).mono ?_
            rintro e w3 ⟨rfl, hb3⟩
            have hO := HO2.out.below hb3
            have hJ1 := HJ.out _ _ _ HA.out hO
            have HK := Lib.hid (hO.sameOn (S := useS (some ⟨b, off, none⟩) B l) HS.out)
            clear hO hb3 p20 p21 p22 HO2
            rw [HM.out]
            obtain ⟨fn, tmps, assign, body, hy, hR⟩ := HY.out _ _ hi hJ1
            rw [HROW.out] at hy
            simp only [Int.cast_ofNat_Int] at hy
            have HR := Lib.hid hR
            have HI := Lib.hid hi
            clear hR hJ1 hi
            gi_wp2
            refine (round_wide HR.out).mono ?_
            rintro e W' (⟨rfl, hJ', hk'⟩ | ⟨rfl, hJx'⟩)
            · gi_wp2
              refine ⟨fun _ h => (by cases h), ?_⟩
              gi_wp2
              refine bodyPost_ret (results_none rfl _ _ _) rfl ?_
              exact ⟨⟨_, rfl⟩, .inl (by rw [GL.out T1.out, T2.out]; exact hJ')⟩
            · gi_wp2
              refine ⟨fun _ h => (by cases h), ?_⟩
              gi_wp2
              refine bodyPost_ret (results_none rfl _ _ _) rfl ?_
              exact ⟨⟨_, rfl⟩, .inr ⟨_, HI.out, hJx'⟩⟩
    · obtain rfl : k = l.length := by omega
      have hall : ∀ t ∈ l, tokOk t := by have := HO.out; rwa [List.take_length] at this
      obtain ⟨g1, g2⟩ := use_end l hall
      obtain ⟨hi, hrow⟩ := useRow_at g1
      obtain ⟨fn, tmps, assign, body, hy, hR⟩ := HY.out _ _ hi HA.out
      rw [hrow] at hy
      simp only [endU, Int.cast_ofNat_Int] at hy
      have HR := Lib.hid hR
      have HI := Lib.hid hi
      have HG := Lib.hid g2
      clear hR hi hrow g1 g2 hall
      gi_wp2
      refine (round_wide HR.out).mono ?_
      rintro e W' (⟨rfl, hJ', hk'⟩ | ⟨rfl, hJx'⟩)
      · gi_wp2
        go_end0
        exact ⟨⟨_, rfl⟩, .inl (by rw [HG.out]; exact hJ')⟩
      · gi_wp2
        go_end0
        exact ⟨⟨_, rfl⟩, .inr ⟨_, HI.out, hJx'⟩⟩
end Go.Proofs.Ytlofoocgiomfbaa
