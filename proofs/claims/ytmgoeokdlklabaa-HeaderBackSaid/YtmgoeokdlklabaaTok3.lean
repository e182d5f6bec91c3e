/- token.find, Length, Distance, LengthOf, DistanceOf: contracts. -/
import Derived.Test.YtmgoeokdlklabaaTok2
namespace Go.Proofs.Ytmgoeokdlklabaa
open Go.RowKit Go.Shelf M08
set_option linter.unusedVariables false

theorem belDN {B : Nat} {w w' : World} (h : Below B w w') (q : Nat) : Below B w (w'.drewN q) := ⟨h.os, h.tape, h.output, h.size, h.block⟩
theorem drewN_heap (w : World) (q : Nat) : (w.drewN q).heap = w.heap := rfl
theorem RowN.drewN {k : IntKind} {w : World} {a : Option Addr} {cap : Nat} {l : List Nat} (h : RowN k w a cap l) (q : Nat) : RowN k (w.drewN q) a cap l := h

set_option maxHeartbeats 800000 in
theorem find_one (B : Nat) (w : World) (a1 : Option Addr) (c1 : Nat) (S2 : Value) (L : List Nat) (n i : Nat) (hc : w.heap[B]? = some (.cells #[.slice a1 L.length c1, S2] 173 (0, 0))) (hn : w.heap[B + 1]? = some (.cells #[.int .i64 n] 3 (0, 0)))
    (hr : RowN .i64 w a1 c1 L) (hi : i < L.length) :
    Calls Try.prog 132 (#[.int .i64 i] ++ #[.pointer (some ⟨B, 0, none⟩), .pointer (some ⟨B + 1, 0, none⟩)]) w fun e w' => e = .returned (.bool (decide (n < L.getD i 0))) ∧ ∃ q, w' = w.drewN q := by
  show Calls Try.prog 132 #[.int .i64 i, .pointer (some ⟨B, 0, none⟩), .pointer (some ⟨B + 1, 0, none⟩)] w _
  have hlen := hr.len
  obtain ⟨b, off, rfl, hb, hck⟩ := hr.at hi
  have q1 := (two_cell hc).1
  have q2 := cell_of_one hn
  have hg : L.getD i 0 = L[i] := by simp [hi]
  rw [hg]
  clear hg hc hn hr
  generalize L[i] = x at *
  have h1 : (0 : Int) ≤ (i : Int) := by omega
  have h2 : (i : Int) < (L.length : Int) := by omega
  generalize L.length = N at *
  go_enter Try.func132, Try.ntmps132
  go_wp2
  go_quiet (fail)
  go_wp2
  go_ret
  exact ⟨ret_bool (by simp), _, rfl⟩

set_option maxHeartbeats 1600000 in
theorem token_find (w : World) (a1 a2 : Option Addr) (c1 c2 : Nat) (L B : List Nat) (n : Nat) (hlb : B.length = L.length) (h0 : 0 < L.length) (h1000 : L.length ≤ 1000) (hup : Up L) (hn : L.getD 0 0 ≤ n) (hn2 : n ≤ 1000000)
    (hr1 : RowN .i64 w a1 c1 L) (hr2 : RowN .i64 w a2 c2 B) :
    Calls Try.prog 123 #[.agg #[.slice a1 L.length c1, .slice a2 L.length c2], .int .i64 n] w fun e w' =>
      e = .returned (.tuple #[.int .i64 (lastLe L n : Nat), .int .i64 (B.getD (lastLe L n) 0 : Nat), .int .i64 ((n - L.getD (lastLe L n) 0 : Nat) : Int)]) ∧ Below w.heap.size w w' := by
  have hmf : ∀ (fn : Fn) (first cap : Array Value) (w : World), (Instr.makeFunc fn first cap).run Try.prog w = .ok (.func fn first cap) w := fun _ _ _ _ => rfl
  have hb : Below w.heap.size w ((w.alloc (.cells #[.slice a1 L.length c1, .slice a2 L.length c2] 173)).alloc (.cells #[.int .i64 n] 3)) := ((Below.refl _ _).alloc (Nat.le_refl _) _).alloc (by simp) _
  have k1 := hr1.below hb
  have k2 := hr2.below hb
  have e1 : ((w.alloc (.cells #[.slice a1 L.length c1, .slice a2 L.length c2] 173)).alloc (.cells #[.int .i64 n] 3)).heap[w.heap.size]? = some (.cells #[.slice a1 L.length c1, .slice a2 L.length c2] 173 (0, 0)) := by
    rw [Below.heap_alloc _ _ _ (by simp)]; exact World.alloc_heap_new _ _
  have e2 : ((w.alloc (.cells #[.slice a1 L.length c1, .slice a2 L.length c2] 173)).alloc (.cells #[.int .i64 n] 3)).heap[w.heap.size + 1]? = some (.cells #[.int .i64 n] 3 (0, 0)) := by
    have := World.alloc_heap_new (w.alloc (.cells #[.slice a1 L.length c1, .slice a2 L.length c2] 173)) (.cells #[.int .i64 n] 3); rwa [World.size_alloc] at this
  have HS := Lib.hid (sort_search L.length 132 #[.pointer (some ⟨w.heap.size, 0, none⟩), .pointer (some ⟨w.heap.size + 1, 0, none⟩)] (fun i => decide (n < L.getD i 0)) _ h1000 (enters_of Try.func132 (by kernel_rfl) rfl)
    (fun i q hi => (find_one w.heap.size (((w.alloc (.cells #[.slice a1 L.length c1, .slice a2 L.length c2] 173)).alloc (.cells #[.int .i64 n] 3)).drewN q) a1 c1 (.slice a2 L.length c2) L n i e1 e2 (k1.drewN q) hi).mono fun e w' ⟨h, q', hq⟩ => ⟨h, q + q', by rw [hq]; simp [World.drewN, Nat.add_assoc]⟩))
  obtain ⟨i1, i2⟩ := two_cell e1
  have i3 := cell_of_one e2
  have HB := Lib.hid hb
  have HK1 := Lib.hid k1
  have HK2 := Lib.hid k2
  have HU := Lib.hid hup
  clear e1 e2 hb k1 k2 hup
  go_enter Try.func123, Try.ntmps123
  go_wp2_with (go_at_call 131; refine HS.out.mono ?_; rintro e w' ⟨k, q, rfl, rfl, hkN, hk0, hk1⟩; clear HS)
  obtain ⟨m, rfl⟩ : ∃ m, k = m + 1 := by
    cases k with
    | zero => have := hk1 h0; simp at this; simp at hn; omega
    | succ m => exact ⟨m, rfl⟩
  have hm : lastLe L n = m := by
    refine lastLe_up HU.out n m (by omega) ?_ (fun h => ?_)
    · have := hk0 (by omega)
      simpa using this
    · have := hk1 h
      simpa using this
  have hle : L.getD m 0 ≤ n := by have := hk0 (by omega); simpa using this
  obtain ⟨b1, o1, rfl, _, d1⟩ := HK1.out.at (i := m) (by omega)
  obtain ⟨b2, o2, rfl, _, d2⟩ := HK2.out.at (i := m) (by omega)
  have g1 : L.getD m 0 = L[m] := by simp [show m < L.length by omega]
  have g2 : B.getD m 0 = B[m] := by simp [show m < B.length by omega]
  rw [g1] at hle
  have hmi : ((m + 1 : Nat) : Int) - 1 = (m : Int) := by omega
  have HR : Hid (Ending.returned (.tuple #[.int .i64 m, .int .i64 (B[m] : Nat), .int .i64 ((n : Int) - (L[m] : Nat))]) = Ending.returned (.tuple #[.int .i64 (lastLe L n : Nat), .int .i64 (B.getD (lastLe L n) 0 : Nat), .int .i64 ((n - L.getD (lastLe L n) 0 : Nat) : Int)])) := by
    unfold Hid
    rw [hm, g1, g2, show ((n - L[m] : Nat) : Int) = (n : Int) - (L[m] : Nat) from by omega]
  have z1 : (0 : Int) ≤ (m : Int) := by omega
  have z2 : (m : Int) < (L.length : Int) := by omega
  have hmL : m < L.length := by omega
  have hmB : m < B.length := by omega
  have d1' : _ = some (Value.int .i64 (L[m]'hmL : Nat)) := d1
  have d2' : _ = some (Value.int .i64 (B[m]'hmB : Nat)) := d2
  have HR' : Hid (Ending.returned (.tuple #[.int .i64 m, .int .i64 (B[m]'hmB : Nat), .int .i64 ((n : Int) - (L[m]'hmL : Nat))]) = _) := HR
  have hle' : L[m]'hmL ≤ n := hle
  clear d1 d2 HR hle
  clear HK1 HK2 hk0 hk1 hm g1 g2 hn HU hr1 hr2
  generalize L[m]'hmL = x at *
  generalize B[m]'hmB = y at *
  simp only [hmi]
  clear hmi
  go_wp2
  go_quiet (fail)
  go_wp2
  go_ret3
  exact ⟨HR'.out, belDN (belDN HB.out q) _⟩

theorem results_tmp4 {fn : Func} {t u v x : Tmp} (h : fn.results = #[.tmp t, .tmp u, .tmp v, .tmp x]) (tmps : Array Value) (P : Program) (w : World) :
    (results fn tmps).run P w = .ok (.tuple #[tmps.getD t undef, tmps.getD u undef, tmps.getD v undef, tmps.getD x undef]) w := by
  simp [results, h, go_sem]
/-- what a made scale, collected, leaves -/
structure ScaleOk (n none each least : Nat) : Prop where
  n1 : n ≤ 100
  n2 : none ≤ 100
  e1 : 1 ≤ each
  e2 : each ≤ 100
  bits : ∀ i, i < n → sbits none each i ≤ 20
  least : ∀ i, i ≤ n → sleast none each least i ≤ 1000000
theorem scale_collect (n none each least : Nat) (w : World) (h : ScaleOk n none each least) :
    Calls Try.prog 121 #[.func (.func 130) #[] #[.pointer (some ⟨w.heap.size, 0, .none⟩), .pointer (some ⟨w.heap.size + 1, 0, .none⟩), .pointer (some ⟨w.heap.size + 1 + 1, 0, .none⟩), .pointer (some ⟨w.heap.size + 1 + 1 + 1, 0, .none⟩)]]
      ((((w.alloc (.cells #[.int .i64 n] 3)).alloc (.cells #[.int .i64 none] 3)).alloc (.cells #[.int .i64 each] 3)).alloc (.cells #[.int .i64 least] 3)) fun e w' =>
      ∃ a1 c1 a2 c2, e = .returned (.agg #[.slice a1 n c1, .slice a2 n c2]) ∧ RowN .i64 w' a1 c1 (leasts n none each least) ∧ RowN .i64 w' a2 c2 (bitss n none each) ∧ Below w.heap.size w w' := by
  obtain ⟨hz, h1, h2, h3, h4, hb⟩ := alloc4 w (.cells #[.int .i64 n] 3) (.cells #[.int .i64 none] 3) (.cells #[.int .i64 each] 3) (.cells #[.int .i64 least] 3)
  generalize (((w.alloc (.cells #[.int .i64 n] 3)).alloc (.cells #[.int .i64 none] 3)).alloc (.cells #[.int .i64 each] 3)).alloc (.cells #[.int .i64 least] 3) = W at *
  refine (token_collect 130 _ n (sleast none each least) (sbits none each) (scS w.heap.size) (fun b => b = w.heap.size + 1 + 1 + 1) W (by have := h.n1; omega) (enters_of Try.func130 (by kernel_rfl) rfl)
    (scale_yields n none each least w.heap.size W h.n1 h.n2 h.e1 h.e2 h.bits h.least h1 h2 h3 h4) ?_ (fun b hb => by omega)).mono ?_
  · rintro b (rfl | rfl | rfl | rfl) <;> omega
  · rintro e w' ⟨a1, c1, a2, c2, rfl, o1, o2, ho⟩
    exact ⟨a1, c1, a2, c2, rfl, o1.row, o2.row, Below.only hb ho (by omega) (fun b hb => by omega)⟩
theorem ok_len : ScaleOk 28 8 4 3 := ⟨by decide, by decide, by decide, by decide, by decide, by decide⟩
theorem ok_dist : ScaleOk 30 4 2 1 := ⟨by decide, by decide, by decide, by decide, by decide, by decide⟩


theorem bits28 : ∀ k, k < 28 → (bitss 28 8 4).getD k 0 = lbits (257 + k) ∧ (leasts 28 8 4 3).getD k 0 = lensL.getD k 0 := by decide
theorem bits30 : ∀ k, k < 30 → (bitss 30 4 2).getD k 0 = dbits k ∧ (leasts 30 4 2 1).getD k 0 = distL.getD k 0 := by decide

set_option maxHeartbeats 800000 in
theorem token_length (n : Nat) (w : World) (h3 : 3 ≤ n) (h258 : n ≤ 258) :
    Calls Try.prog 98 #[.int .i64 n] w fun e w' =>
      e = .returned (.tuple #[.int .i64 (257 + lk n : Nat), .int .i64 (lbits (257 + lk n) : Nat), .int .i64 ((n - lensL.getD (lk n) 0 : Nat) : Int), .int .i64 0]) ∧ Below w.heap.size w w' := by
  by_cases h : n = 258
  · subst h
    go_enter Try.func98, Try.ntmps98
    go_wp2_with fail
    refine bodyPost_ret (results_tmp4 rfl _ _ _) rfl ?_
    exact ⟨by rw [lk_top]; rfl, Below.refl _ _⟩
  · obtain ⟨hk, hke⟩ := lk_lt h3 (by omega : n < 258)
    have hb : ((n : Int) == 258) = false := by simp; omega
    have hl : lastLe (leasts 28 8 4 3) n = lk n := by rw [hke, lens_leasts]
    obtain ⟨g1, g2⟩ := bits28 _ hk
    have HP : ((257 + lk n : Nat) : Int) = 257 + ((lk n : Nat) : Int) := by simp
    rw [HP]
    clear hke h HP
    generalize lk n = k at *
    obtain ⟨bb, hbb⟩ : ∃ bb, lbits (257 + k) = bb := ⟨_, rfl⟩
    obtain ⟨xx, hxx⟩ : ∃ xx, n - lensL.getD k 0 = xx := ⟨_, rfl⟩
    rw [hbb, hxx]
    have G := Lib.hid (show lastLe (leasts 28 8 4 3) n = k ∧ (bitss 28 8 4).getD k 0 = bb ∧ n - (leasts 28 8 4 3).getD k 0 = xx from ⟨hl, g1.trans hbb, by rw [g2]; exact hxx⟩)
    clear hl g1 g2 hbb hxx
    have hS := Lib.hid (scale_collect 28 8 4 3 w ok_len)
    go_enter Try.func98, Try.ntmps98
    go_wp2_with (first | (go_at_call 122; refine (token_scale 28 8 4 3 _).mono ?_; rintro e w' ⟨rfl, rfl⟩) | (go_at_call 121; refine hS.out.mono ?_; rintro e w' ⟨a1, c1, a2, c2, rfl, r1, r2, hbw⟩))
    refine (token_find w' a1 a2 c1 c2 (leasts 28 8 4 3) (bitss 28 8 4) n rfl (by decide) (by decide) (by decide) (show 3 ≤ n from h3) (by omega) r1 r2).mono ?_
    rintro e w3 ⟨rfl, hb3⟩
    rw [G.out.1, G.out.2.1, G.out.2.2]
    have hB : Below w.heap.size w w3 := hbw.trans (hb3.mono hbw.size)
    clear G hS hbw hb3 r1 r2
    go_wp2
    refine bodyPost_ret (results_tmp4 rfl _ _ _) rfl ?_
    exact ⟨rfl, hB⟩

set_option maxHeartbeats 800000 in
theorem token_distance (n : Nat) (w : World) (h1 : 1 ≤ n) (h2 : n ≤ 32768) :
    Calls Try.prog 99 #[.int .i64 n] w fun e w' =>
      e = .returned (.tuple #[.int .i64 (dk n : Nat), .int .i64 (dbits (dk n) : Nat), .int .i64 ((n - distL.getD (dk n) 0 : Nat) : Int), .int .i64 0]) ∧ Below w.heap.size w w' := by
  have hk := dk_lt n
  have hl : lastLe (leasts 30 4 2 1) n = dk n := by rw [dist_leasts]; rfl
  obtain ⟨g1, g2⟩ := bits30 _ hk
  generalize dk n = k at *
  obtain ⟨bb, hbb⟩ : ∃ bb, dbits k = bb := ⟨_, rfl⟩
  obtain ⟨xx, hxx⟩ : ∃ xx, n - distL.getD k 0 = xx := ⟨_, rfl⟩
  rw [hbb, hxx]
  have G := Lib.hid (show lastLe (leasts 30 4 2 1) n = k ∧ (bitss 30 4 2).getD k 0 = bb ∧ n - (leasts 30 4 2 1).getD k 0 = xx from ⟨hl, g1.trans hbb, by rw [g2]; exact hxx⟩)
  clear hl g1 g2 hbb hxx
  have hS := Lib.hid (scale_collect 30 4 2 1 w ok_dist)
  go_enter Try.func99, Try.ntmps99
  go_wp2_with (first | (go_at_call 122; refine (token_scale 30 4 2 1 _).mono ?_; rintro e w' ⟨rfl, rfl⟩) | (go_at_call 121; refine hS.out.mono ?_; rintro e w' ⟨a1, c1, a2, c2, rfl, r1, r2, hbw⟩))
  refine (token_find w' a1 a2 c1 c2 (leasts 30 4 2 1) (bitss 30 4 2) n rfl (by decide) (by decide) (by decide) (show 1 ≤ n from h1) (by omega) r1 r2).mono ?_
  rintro e w3 ⟨rfl, hb3⟩
  rw [G.out.1, G.out.2.1, G.out.2.2]
  have hB : Below w.heap.size w w3 := hbw.trans (hb3.mono hbw.size)
  clear G hS hbw hb3 r1 r2
  go_wp2
  refine bodyPost_ret (results_tmp4 rfl _ _ _) rfl ?_
  exact ⟨rfl, hB⟩

theorem token_length_no (n : Int) (w : World) (h : n < 3 ∨ 258 < n) :
    Calls Try.prog 98 #[.int .i64 n] w fun e w' => e = .returned (.tuple #[.int .i64 0, .int .i64 0, .int .i64 0, .int .i64 5]) ∧ w = w' := by
  rcases h with h | h
  · go_enter Try.func98, Try.ntmps98
    go_wp2_with fail
    refine bodyPost_ret (results_tmp4 rfl _ _ _) rfl ?_
    exact ⟨rfl, rfl⟩
  · have h' : ¬ n < 3 := by omega
    go_enter Try.func98, Try.ntmps98
    go_wp2_with fail
    refine bodyPost_ret (results_tmp4 rfl _ _ _) rfl ?_
    exact ⟨rfl, rfl⟩
theorem token_distance_no (n : Int) (w : World) (h : n < 1 ∨ 32768 < n) :
    Calls Try.prog 99 #[.int .i64 n] w fun e w' => e = .returned (.tuple #[.int .i64 0, .int .i64 0, .int .i64 0, .int .i64 5]) ∧ w = w' := by
  rcases h with h | h
  · go_enter Try.func99, Try.ntmps99
    go_wp2_with fail
    refine bodyPost_ret (results_tmp4 rfl _ _ _) rfl ?_
    exact ⟨rfl, rfl⟩
  · have h' : ¬ n < 1 := by omega
    go_enter Try.func99, Try.ntmps99
    go_wp2_with fail
    refine bodyPost_ret (results_tmp4 rfl _ _ _) rfl ?_
    exact ⟨rfl, rfl⟩
end Go.Proofs.Ytmgoeokdlklabaa
