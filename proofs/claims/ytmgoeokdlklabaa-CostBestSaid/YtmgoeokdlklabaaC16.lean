/- cost.Stored. Slices of tokens that came in, as lists. cost.Fixed, and the example that every law of layer 17 ends with: contracts. cost.Dynamic: contract; CostDynamic: the law's walk. Plain mathematics of layer 5: no lengths cost less than those that package-merge finds. Layer 17: the best codes cost no more than any other codes that have the symbols (plain). Layer 8's reference May: contract. The reference of layer 17: Often, Symbols, Fixed: contracts. -/
import Derived.Test.YtmgoeokdlklabaaC01
import Derived.Test.YtmgoeokdlklabaaC15
import Derived.Test.YtmgoeokdlklabaaC04
import Derived.Test.YtmgoeokdlklabaaC12
import Derived.Test.YtmgoeokdlklabaaC05
import Derived.Test.YtmgoeokdlklabaaC14
import Derived.Test.YtmgoeokdlklabaaChecked
import Derived.Deep.Slices
import Derived.Deep.Strs
import Derived.ProofKit
namespace Go.Proofs.Ytmgoeokdlklabaa
open Go.RowKit M17
set_option linter.unusedVariables false
def storedZ (n at_ : Int) : Int := if n < 0 ∨ at_ < 0 then 0 else st n.toNat at_.toNat - at_
set_option maxHeartbeats 400000 in
theorem cost_stored (n at_ : Int) (w : World) (hn : n ≤ 1073741824) (ha : at_ ≤ 1073741824) :
    Calls Try.prog 34 #[.int .i64 n, .int .i64 at_] w fun e w' => e = .returned (.int .i64 (storedZ n at_)) ∧ w = w' := by
  by_cases h0 : n < 0
  · have H : Hid (storedZ n at_ = 0) := by unfold Hid storedZ; rw [if_pos (.inl h0)]
    go_enter Try.func34, Try.ntmps34
    go_wp2
    go_ret
    exact ⟨ret_int H.out.symm, rfl⟩
  by_cases h1 : at_ < 0
  · have H : Hid (storedZ n at_ = 0) := by unfold Hid storedZ; rw [if_pos (.inr h1)]
    go_enter Try.func34, Try.ntmps34
    go_wp2
    go_ret
    exact ⟨ret_int H.out.symm, rfl⟩
  have H : Hid (storedZ n at_ = st n.toNat at_.toNat - at_) := by unfold Hid storedZ; rw [if_neg (by omega)]
  obtain ⟨N, rfl⟩ := Int.eq_ofNat_of_zero_le (by omega : 0 ≤ n)
  obtain ⟨A, rfl⟩ := Int.eq_ofNat_of_zero_le (by omega : 0 ≤ at_)
  have HS := Lib.hid (st_le N A)
  simp only [Int.toNat_natCast] at H
  go_enter Try.func34, Try.ntmps34
  go_wp2
  go_loop [0, 1] (fun n a => ∃ n' a' : Nat, n = .int .i64 n' ∧ a = .int .i64 a' ∧ n' ≤ N ∧ st n' a' = st N A) (fun n _ => (intOf n).toNat)
  case atStart => exact ⟨N, A, rfl, rfl, Nat.le_refl _, rfl⟩
  case round =>
    obtain ⟨n', a', rfl, rfl, hle, hst⟩ := hrel
    have h2 := st_le n' a'
    have h3 := HS.out
    have h4 : a' ≤ 10000000000 := by rw [hst] at h2; omega
    have HE : Hid (st n' a' = st N A) := hst
    have HD := Lib.hid (st.eq_1 n' a')
    clear h2 h3 hst
    by_cases hk : n' ≤ 65535
    · have HR : Hid (st N A = align (a' + 3) + 32 + 8 * n') := by
        rw [Hid, ← HE.out, HD.out, if_pos hk]
      go_wp2
      go_ret
      refine ⟨ret_int ?_, rfl⟩
      rw [H.out, HR.out]
      unfold align
      omega
    · have HR : Hid (st (n' - 65535) (align (a' + 3) + 32 + 8 * 65535) = st N A) := by
        rw [Hid, ← HE.out, HD.out, if_neg hk]
      go_wp2
      go_round
      case rel => exact ⟨n' - 65535, align (a' + 3) + 32 + 8 * 65535, int_eq (by omega), int_eq (by unfold align; omega), by omega, HR.out⟩
      case measure => simp [intOf]; omega
end Go.Proofs.Ytmgoeokdlklabaa

namespace Go.Proofs.Ytmgoeokdlklabaa
open Go.RowKit Go.Deep M17
set_option linter.unusedVariables false
theorem tok_at {H : Type} {enc : TypeId × Value → H} {W : World} {n : Nat} {cs : List Value} {x : DataW H × List MemPlace} (h : DataW.trod enc Try.prog W 0 (fun _ => true) true n 67 cs = some x) (hl : cs.length = 3) :
    ∃ t : Tok, cs = [.int .i64 t.len, .int .i64 t.dist, .int .u8 (t.byte : Nat)] ∧ t.byte < 256 := by
  have c3 : Try.prog.cellsOf 3 = 1 := by kernel_rfl
  have c5 : Try.prog.cellsOf 5 = 1 := by kernel_rfl
  obtain ⟨v0, v1, v2, rfl⟩ : ∃ v0 v1 v2, cs = [v0, v1, v2] := by
    cases cs with
    | nil => cases hl
    | cons v0 cs => cases cs with
      | nil => cases hl
      | cons v1 cs => cases cs with
        | nil => cases hl
        | cons v2 cs => cases cs with
          | nil => exact ⟨_, _, _, rfl⟩
          | cons v3 cs => simp at hl
  obtain ⟨y0, y1, y2, k, _, _, g0, g1, g2⟩ := trod_struct3 Try.underlying67 h
  simp only [c3, c5, List.drop_zero, List.drop_succ_cons, List.take_succ_cons, List.take_zero] at g0 g1 g2
  obtain ⟨a, ha, _, _⟩ := DataW.trod_int Try.underlying3 g0
  obtain ⟨b, hb, _, _⟩ := DataW.trod_int Try.underlying3 g1
  obtain ⟨c, hc, _, hw⟩ := DataW.trod_int Try.underlying5 g2
  simp only [List.cons.injEq, and_true] at ha hb hc
  subst ha hb hc
  obtain ⟨h1, h2⟩ := bd_u8 hw
  refine ⟨⟨a, b, c.toNat⟩, ?_, by show c.toNat < 256; omega⟩
  simp only [Int.toNat_of_nonneg h1]
instance : Inhabited Tok := ⟨⟨0, 0, 0⟩⟩
theorem toks_open {H : Type} {enc : TypeId × Value → H} {W : World} {a : Option Addr} {len cap : Nat} {d : DataW H} {p : List MemPlace} (h : ∃ fuel, DataW.trod enc Try.prog W 0 (fun _ => true) true fuel 57 (Value.slice a len cap).cells.toList = some (d, p)) :
    ∃ l : List Tok, l.length = len ∧ RowS encT W a cap l ∧ ∀ t ∈ l, t.byte < 256 := by
  obtain ⟨fuel, h⟩ := h
  have c28 : Try.prog.cellsOf 67 = 3 := by kernel_rfl
  rcases open_slice Try.underlying57 h with ⟨hcs, _⟩ | ⟨x, l, c, m, n, D, Pl, hcs, _, hl, hm, hmm, _, hx⟩
  · simp [Value.cells] at hcs
    obtain ⟨rfl, rfl, rfl⟩ := hcs
    exact ⟨[], rfl, RowS.nil _ _, by simp⟩
  · simp [Value.cells] at hcs
    obtain ⟨rfl, rfl, rfl⟩ := hcs
    simp only [if_true] at hmm
    subst hmm
    rw [c28] at hx
    have each : ∀ i, i < m → ∃ t : Tok, (W.cell? (x.add (i * 3)) = some (.int .i64 t.len) ∧ W.cell? (x.add (i * 3 + 1)) = some (.int .i64 t.dist) ∧ W.cell? (x.add (i * 3 + 2)) = some (.int .u8 (t.byte : Nat))) ∧ t.byte < 256 := by
      intro i hi
      obtain ⟨cs', h1, h2⟩ := hx i hi
      obtain ⟨_, hlen, hcell⟩ := World.cells?_some h1
      obtain ⟨t, rfl, ht⟩ := tok_at h2 hlen
      have e0 := hcell 0 (by omega)
      have e1 := hcell 1 (by omega)
      have e2 := hcell 2 (by omega)
      rw [add_add] at e0 e1 e2
      exact ⟨t, ⟨by simpa using e0, by simpa using e1, by simpa using e2⟩, ht⟩
    obtain ⟨q, hq⟩ := choose_lt each
    have hlist : ∀ i (hi : i < ((List.range len).map q).length), ((List.range len).map q)[i] = q i := by intro i hi; simp
    refine ⟨(List.range len).map q, by simp, ⟨by simpa using hl, ⟨by simpa [maxLen] using hm, fun hn => by cases hn⟩, ?_⟩, ?_⟩
    · by_cases h0 : len = 0
      · subst h0; exact .inl rfl
      · have e := (hq 0 (by omega)).1.1
        simp only [Nat.zero_mul, Addr.add, if_true] at e
        obtain ⟨hs, hb⟩ := spot_none e
        have hxf : ∀ k, x.add k = ⟨x.block, x.off + k, none⟩ := by
          intro k
          unfold Addr.add
          split
          · rename_i hk; cases x; simp_all
          · cases x; simp_all
        refine .inr ⟨x.block, x.off, by cases x; simp_all, hb, fun i v hv => ?_⟩
        have hi : i < len * 3 := by
          have := (List.getElem?_eq_some_iff.1 hv).1
          rw [flat_length] at this
          simpa [encT] using this
        have hdm : i = i / 3 * 3 + i % 3 := by omega
        have hi3 : i / 3 < len := by omega
        have hf := flat_at (c := encT) ((List.range len).map q) (i / 3) (i % 3) (by simpa using hi3) (by show i % 3 < 3; omega)
        have hf' : (flat encT ((List.range len).map q))[i]? = (encT.cells (q (i / 3)))[i % 3]? := by
          rw [hlist] at hf
          have : i / 3 * encT.sz + i % 3 = i := by show i / 3 * 3 + i % 3 = i; omega
          rw [this] at hf
          exact hf
        rw [hf'] at hv
        obtain ⟨⟨q0, q1, q2⟩, _⟩ := hq (i / 3) (by omega)
        rw [hxf] at q0 q1 q2
        have hr : i % 3 = 0 ∨ i % 3 = 1 ∨ i % 3 = 2 := by omega
        rcases hr with hr | hr | hr
        · rw [hr] at hv
          have : v = .int .i64 (q (i / 3)).len := by simpa [encT] using hv.symm
          rw [this]
          exact (congrArg (fun k => W.cell? ⟨x.block, k, none⟩) (show x.off + i = x.off + i / 3 * 3 by omega)).trans q0
        · rw [hr] at hv
          have : v = .int .i64 (q (i / 3)).dist := by simpa [encT] using hv.symm
          rw [this]
          exact (congrArg (fun k => W.cell? ⟨x.block, k, none⟩) (show x.off + i = x.off + (i / 3 * 3 + 1) by omega)).trans q1
        · rw [hr] at hv
          have : v = .int .u8 ((q (i / 3)).byte : Nat) := by simpa [encT] using hv.symm
          rw [this]
          exact (congrArg (fun k => W.cell? ⟨x.block, k, none⟩) (show x.off + i = x.off + (i / 3 * 3 + 2) by omega)).trans q2
    · intro t ht
      obtain ⟨i, hi, rfl⟩ := List.mem_map.1 ht
      exact (hq i (by have := List.mem_range.1 hi; omega)).2
end Go.Proofs.Ytmgoeokdlklabaa

namespace Go.Proofs.Ytmgoeokdlklabaa
open Go.RowKit Go.Shelf M08 M17
set_option linter.unusedVariables false
theorem fixF_le : ∀ x ∈ fixF, x ≤ 255 := by decide +kernel
theorem fixO_le : ∀ x ∈ fixO, x ≤ 255 := by decide +kernel
theorem fixO_len : fixO.length = 30 := by unfold fixO; simp only [List.length_replicate]
def fixOut (l : List Tok) : Nat × Nat := match symU fixF fixO (useU l) 0 with | some n => (3 + n, 0) | none => (0, 5)
theorem symU_le (f o : List Nat) (hf : ∀ x ∈ f, x ≤ 255) (ho : ∀ x ∈ o, x ≤ 255) (R : List URow) (hR : ∀ r ∈ R, r.bits ≤ 100) : ∀ n m, symU f o R n = some m → m ≤ n + R.length * 400 := by
  have hg : ∀ (L : List Nat), (∀ x ∈ L, x ≤ 255) → ∀ s, L.getD s 0 ≤ 255 := by
    intro L hL s
    rw [List.getD_eq_getElem?_getD]
    cases h : L[s]? with
    | none => simp
    | some x => exact hL x (List.mem_of_getElem? h)
  induction R with
  | nil => intro n m h; simp [symU] at h; omega
  | cons r R ih =>
    intro n m h
    simp only [symU] at h
    split at h
    · cases h
    · have h1 := ih (fun x hx => hR x (by simp [hx])) _ _ h
      have h2 := hR r (by simp)
      have h3 : lensOf f o r ≤ 255 := by
        unfold lensOf
        split
        · exact hg o ho _
        · exact hg f hf _
      simp only [List.length_cons]
      omega
theorem cost_Fixed (a : Option Addr) (cap : Nat) (l : List Tok) (w : World) (hl : l.length ≤ 1000) (hby : ∀ t ∈ l, t.byte < 256) (hr : RowS encT w a cap l) :
    Calls Try.prog 33 #[.slice a l.length cap] w fun e w' => e = .returned (.tuple #[.int .i64 ((fixOut l).1 : Nat), .int .i64 ((fixOut l).2 : Nat)]) ∧ Below w.heap.size w w' := by
  have hle : ∀ m, symU fixF fixO (useU l) 0 = some m → m ≤ 1000000 := fun m h => by
    have h1 := symU_le fixF fixO fixF_le fixO_le _ (bits_le l) 0 m h
    have h2 := useU_len l
    omega
  go_enter Try.func33, Try.ntmps33
  go_wp2_with fail
  refine (cost_fixed _).mono ?_
  rintro e w1 ⟨a1, c1, a2, c2, rfl, r1, r2, hb⟩
  have HC := Lib.hid (cost_symbols a a1 a2 cap c1 c2 l fixF fixO w1 hl hby (hr.below hb) r1 r2 fixF_le fixO_le)
  rw [fixF_len, fixO_len] at HC
  have HB := Lib.hid hb
  clear r1 r2 hb
  go_wp2_with fail
  refine HC.out.mono ?_
  rintro e w2 ⟨rfl, hb2⟩
  have HB2 := Lib.hid (HB.out.trans (hb2.mono HB.out.size))
  clear HC HB hb2
  cases hs : symU fixF fixO (useU l) 0 with
  | none =>
    have e1 : symOut fixF fixO l = (0, 5) := by unfold symOut; rw [hs]
    have e2 : fixOut l = (0, 5) := by unfold fixOut; rw [hs]
    have HE := Lib.hid e2
    rw [e1]
    clear e1 e2 hs hle
    go_wp2_with fail
    go_ret2
    exact ⟨by rw [HE.out]; rfl, HB2.out⟩
  | some m =>
    have e1 : symOut fixF fixO l = (m, 0) := by unfold symOut; rw [hs]
    have e2 : fixOut l = (3 + m, 0) := by unfold fixOut; rw [hs]
    have hm := hle m hs
    have HE := Lib.hid e2
    rw [e1]
    clear e1 e2 hs hle
    go_wp2_with fail
    go_ret2
    exact ⟨by rw [HE.out]; simp, HB2.out⟩
def RetTrue17 (w : World) (e : Ending) (w' : World) : Prop := e = .returned (.bool true) ∧ Below w.heap.size w w'
theorem exf1 : fixOut [] = (10, 0) := by decide +kernel
theorem exf2 : fixOut [⟨0, 0, 97⟩, ⟨3, 1, 0⟩] = (30, 0) := by decide +kernel
theorem exf3 : symOut [] [] [⟨0, 0, 97⟩] = (0, 5) := by decide +kernel
theorem exf4 : storedZ 2 6 = 58 := by decide +kernel
set_option maxRecDepth 100000 in
theorem law17_counts (w : World) : Calls Try.prog 29 #[] w (RetTrue17 w) := by
  go_enter Try.func29, Try.ntmps29
  go_wp2_with fail
  refine (cost_Fixed none 0 [] w (by decide) (by simp) (RowS.nil _ _)).mono ?_
  rintro e w1 ⟨rfl, hb1⟩
  rw [exf1]
  go_wp2_with fail
  refine (cost_Fixed _ 2 [⟨0, 0, 97⟩, ⟨3, 1, 0⟩] _ (by decide) (by decide) ?h1).mono ?_
  case h1 => exact RowS.lit encT w1 [⟨0, 0, 97⟩, ⟨3, 1, 0⟩] _ _ _ rfl rfl (by decide)
  rintro e w2 ⟨rfl, hb2⟩
  rw [exf2]
  have hB2 : Below w.heap.size w w2 := hb1.trans (((box_below w1 _).trans (hb2.mono (by simp))).mono hb1.size)
  have HB2 := Lib.hid hB2
  clear hb1 hb2 hB2
  go_wp2_with fail
  refine (cost_symbols _ none none 1 0 0 [⟨0, 0, 97⟩] [] [] _ (by decide) (by decide) ?h2 (RowN.nil _ _) (RowN.nil _ _) (by simp) (by simp)).mono ?_
  case h2 => exact RowS.lit encT w2 [⟨0, 0, 97⟩] _ _ _ rfl rfl (by decide)
  rintro e w3 ⟨rfl, hb3⟩
  rw [exf3]
  have HB3 := Lib.hid (HB2.out.trans (((box_below w2 _).trans (hb3.mono (by simp))).mono HB2.out.size))
  clear HB2 hb3
  go_wp2_with fail
  refine (cost_stored 2 6 _ (by decide) (by decide)).mono ?_
  rintro e w4 ⟨rfl, rfl⟩
  rw [exf4]
  go_wp2_with fail
  go_ret
  exact ⟨rfl, HB3.out⟩
end Go.Proofs.Ytmgoeokdlklabaa

namespace Go.Proofs.Ytmgoeokdlklabaa
open Go.RowKit Go.Shelf M01 M04 M05 M06 M07 M08 M09 M17
attribute [local go_sem] Oper.semAt_some
set_option linter.unusedVariables false
set_option linter.unusedSimpArgs false
def headN (l : List Tok) : Nat := (hputW ([], 0) (codF l) (codO l)).2
theorem codF_len (l : List Tok) : 257 ≤ (codF l).length ∧ (codF l).length ≤ 286 := by
  have := bestF_len (cntU false 286 (useU l)) (by rw [cntU_len]; decide)
  rw [cntU_len] at this
  exact this
theorem codO_len (l : List Tok) : 1 ≤ (codO l).length ∧ (codO l).length ≤ 30 := by
  have := bestO_len (cntU true 30 (useU l)) (by rw [cntU_len]; decide)
  rw [cntU_len] at this
  exact this
theorem codF_15 (l : List Tok) : ∀ x ∈ codF l, x ≤ 15 := fun x hx => (lim_kind (cntU false 286 (useU l)) (by rw [cntU_len]; decide)).1 x (List.mem_of_mem_take hx)
theorem codO_15 (l : List Tok) : ∀ x ∈ codO l, x ≤ 15 := fun x hx => (lim_kind (cntU true 30 (useU l)) (by rw [cntU_len]; decide)).1 x (List.mem_of_mem_take hx)
theorem headN_le (l : List Tok) : headN l ≤ 100000 := by
  have h1 := codF_len l
  have h2 := codO_len l
  have := hputW_len (s := ([], 0)) M09.empty_g (codF l) (codO l) (fun x hx => by
    rcases List.mem_append.1 hx with h | h
    · exact codF_15 l x h
    · exact codO_15 l x h)
  unfold headN
  simp only at this
  omega
theorem cod_symOut (l : List Tok) (hb : ∀ t ∈ l, t.byte < 256) (h : ∀ t ∈ l, tokOk t) : (symOut (codF l) (codO l) l).2 = 0 := by
  obtain ⟨m, hm⟩ := symU_some (codF l) (codO l) (useU l) 0 (cod_sym l hb h)
  unfold symOut
  rw [hm]
theorem symOut_le' (f o : List Nat) (l : List Tok) (hf : ∀ x ∈ f, x ≤ 255) (ho : ∀ x ∈ o, x ≤ 255) (hl : l.length ≤ 1100) : (symOut f o l).1 ≤ 1000000 := by
  unfold symOut
  cases h : symU f o (useU l) 0 with
  | none => simp
  | some m =>
    have h1 := symU_le f o hf ho _ (bits_le l) 0 m h
    have h2 := useU_len l
    have : (useU l).length * 400 ≤ 2201 * 400 := Nat.mul_le_mul_right _ (by omega)
    show m ≤ _
    omega
def dynOut (l : List Tok) : Nat × Nat := if codE l = 0 then (3 + headN l + (symOut (codF l) (codO l) l).1, 0) else (0, 5)
theorem codE_ok {l : List Tok} (h : ∀ t ∈ l, tokOk t) : codE l = 0 := by unfold codE; rw [if_pos h]
theorem codE_bad {l : List Tok} (h : ¬ ∀ t ∈ l, tokOk t) : codE l = 5 := by unfold codE; rw [if_neg h]
set_option maxRecDepth 100000 in
set_option maxHeartbeats 1600000 in
theorem cost_dynamic (a : Option Addr) (cap : Nat) (l : List Tok) (w : World) (hl : l.length ≤ 1000) (hby : ∀ t ∈ l, t.byte < 256) (hr : RowS encT w a cap l) :
    Calls Try.prog 32 #[.slice a l.length cap] w fun e w' => e = .returned (.tuple #[.int .i64 ((dynOut l).1 : Nat), .int .i64 ((dynOut l).2 : Nat)]) ∧ Below w.heap.size w w' := by
  have HC := Lib.hid (cost_codes a cap l w hl hby hr)
  have BY := Lib.hid hby
  have HR := Lib.hid hr
  clear hby hr
  go_enter Try.func32, Try.ntmps32
  go_wp2_with fail
  refine HC.out.mono ?_
  rintro e w1 (⟨hok, a1, c1, a2, c2, rfl, r1, r2, hb1⟩ | ⟨hbad, rfl, hb1⟩)
  case inr =>
    have HD : Hid (dynOut l = (0, 5)) := by unfold Hid dynOut; rw [codE_bad hbad]; rfl
    clear hbad HC
    go_wp2
    go_ret2
    exact ⟨by rw [HD.out]; rfl, hb1⟩
  have hm := cod_may l hok
  have HS := Lib.hid (fun (w' : World) (h : Below w1.heap.size w1 w') => header_size w' a1 a2 c1 c2 (codF l) (codO l) (r1.below h) (r2.below h) (by have := codF_len l; omega) (by have := codO_len l; omega))
  have HY := Lib.hid (fun (w' : World) (h : Below w1.heap.size w1 w') => cost_symbols a a1 a2 cap c1 c2 l (codF l) (codO l) w' hl BY.out (HR.out.below (hb1.trans (h.mono hb1.size))) (r1.below h) (r2.below h) (fun x hx => by have := codF_15 l x hx; omega) (fun x hx => by have := codO_15 l x hx; omega))
  rw [hm] at HS
  have hn1 := headN_le l
  have hn2 := symOut_le' (codF l) (codO l) l (fun x hx => by have := codF_15 l x hx; omega) (fun x hx => by have := codO_15 l x hx; omega) (by omega)
  have HD : Hid (dynOut l = (3 + headN l + (symOut (codF l) (codO l) l).1, 0)) := by unfold Hid dynOut; rw [codE_ok hok]; rfl
  unfold headN at hn1 HD
  generalize (hputW ([], 0) (codF l) (codO l)) = T at *
  generalize symOut (codF l) (codO l) l = so at *
  generalize (codF l).length = lf at *
  generalize (codO l).length = lo at *
  obtain ⟨T1, T2⟩ := T
  obtain ⟨sn, se⟩ := so
  simp only at hn1 hn2 HD HS HY
  have HB1 := Lib.hid hb1
  clear hm hok HC r1 r2 hb1
  go_wp2_with fail
  refine (HS.out _ (Below.refl _ _)).mono ?_
  rintro e w2 ⟨hb2, rfl⟩
  have HB2 := Lib.hid hb2
  clear HS hb2
  go_wp2_with fail
  refine (HY.out _ HB2.out).mono ?_
  rintro e w3 ⟨rfl, hb3⟩
  have HB3 := Lib.hid (HB1.out.trans ((HB2.out.trans (hb3.mono HB2.out.size)).mono HB1.out.size))
  have q1 : IntKind.i64.wrap ((3 : Int) + (T2 : Int)) = ((3 + T2 : Nat) : Int) := by rw [IntWalk.i64_in _ (by omega)]; omega
  have q2 : IntKind.i64.wrap (((3 + T2 : Nat) : Int) + (sn : Int)) = ((3 + T2 + sn : Nat) : Int) := by rw [IntWalk.i64_in _ (by omega)]; omega
  clear HY hb3
  go_wp2
  go_ret2
  exact ⟨by rw [HD.out]; simp only [Int.natCast_add]; rfl, HB3.out⟩
set_option maxRecDepth 100000 in
set_option maxHeartbeats 1600000 in
theorem law_dynamic (a0 : Option Addr) (cap0 : Nat) (l : List Tok) (w : World) (h0 : RowS encT w a0 cap0 l) (b0 : ∀ t ∈ l, t.byte < 256) :
    Calls Try.prog 10 #[.slice a0 l.length cap0] w (RetTrue17 w) := by
  have hll := h0.len
  by_cases hl2 : l.length ≤ 400
  case neg =>
    have c0 : decide ((400 : Int) < (l.length : Int)) = true := by simp; omega
    clear hl2
    go_enter Try.func10, Try.ntmps10
    go_wp2
    go_ret
    exact ⟨rfl, Below.refl _ _⟩
  have c0 : decide ((400 : Int) < (l.length : Int)) = false := by simp; omega
  have HD := Lib.hid (cost_dynamic a0 cap0 l w (by omega) b0 h0)
  have HC := Lib.hid (fun w' (h : Below w.heap.size w w') => cost_codes a0 cap0 l w' (by omega) b0 (h0.below h))
  have BY := Lib.hid b0
  clear b0
  go_enter Try.func10, Try.ntmps10
  go_wp2_with fail
  refine HD.out.mono ?_
  rintro e w1 ⟨rfl, hb1⟩
  have HB1 := Lib.hid hb1
  by_cases hok : ∀ t ∈ l, tokOk t
  case neg =>
    have hD : dynOut l = (0, 5) := by unfold dynOut; rw [codE_bad hok]; rfl
    rw [hD]
    have HOK := Lib.hid hok
    clear hD HD hb1 hok
    go_wp2_with fail
    refine (HC.out _ HB1.out).mono ?_
    rintro e w2 (⟨hok, _⟩ | ⟨hbad, rfl, hb2⟩)
    · exact absurd hok HOK.out
    have HB2 := Lib.hid (HB1.out.trans (hb2.mono HB1.out.size))
    clear hbad HC hb2 HOK
    go_wp2_with fail
    refine (law17_counts _).mono ?_
    rintro e w7 ⟨rfl, hb7⟩
    go_wp2
    go_ret
    exact ⟨rfl, HB2.out.trans (hb7.mono HB2.out.size)⟩
  have hD : dynOut l = (3 + headN l + (symOut (codF l) (codO l) l).1, 0) := by unfold dynOut; rw [codE_ok hok]; rfl
  rw [hD]
  have hm := cod_may l hok
  have hse := cod_symOut l BY.out hok
  have hn1 := headN_le l
  have hn2 := symOut_le' (codF l) (codO l) l (fun x hx => by have := codF_15 l x hx; omega) (fun x hx => by have := codO_15 l x hx; omega) (by omega)
  have hlf := codF_len l
  have hlo := codO_len l
  have HS := Lib.hid (fun (w' : World) (a1 a2 : Option Addr) (c1 c2 : Nat) (r1 : RowN .u8 w' a1 c1 (codF l)) (r2 : RowN .u8 w' a2 c2 (codO l)) => header_size w' a1 a2 c1 c2 (codF l) (codO l) r1 r2 (by omega) (by omega))
  have HY := Lib.hid (fun (w' : World) (a1 a2 : Option Addr) (c1 c2 : Nat) (h : Below w.heap.size w w') (r1 : RowN .u8 w' a1 c1 (codF l)) (r2 : RowN .u8 w' a2 c2 (codO l)) => cost_symbols a0 a1 a2 cap0 c1 c2 l (codF l) (codO l) w' (by omega) BY.out (h0.below h) r1 r2 (fun x hx => by have := codF_15 l x hx; omega) (fun x hx => by have := codO_15 l x hx; omega))
  rw [hm] at HS
  have HOK := Lib.hid hok
  clear hD HD hb1 hm hok
  unfold headN at *
  generalize (hputW ([], 0) (codF l) (codO l)) = T at *
  generalize symOut (codF l) (codO l) l = so at *
  obtain ⟨T1, T2⟩ := T
  obtain ⟨sn, se⟩ := so
  simp only at hn1 hn2 HS HY hse ⊢
  subst hse
  go_wp2_with fail
  refine (HC.out _ HB1.out).mono ?_
  rintro e w2 (⟨_, a1, c1, a2, c2, rfl, r1, r2, hb2⟩ | ⟨hbad, _⟩)
  case inr => exact absurd HOK.out hbad
  have HB2 := Lib.hid (HB1.out.trans (hb2.mono HB1.out.size))
  have HR := Lib.hid (And.intro r1 r2)
  clear HC hb2 HOK r1 r2
  generalize (codF l) = F at *
  generalize (codO l) = O at *
  go_wp2_with fail
  refine (HY.out _ a1 a2 c1 c2 HB2.out HR.out.1 HR.out.2).mono ?_
  rintro e w3 ⟨rfl, hb3⟩
  have HB3 := Lib.hid (HB2.out.trans (hb3.mono HB2.out.size))
  have HR3 := Lib.hid (And.intro (HR.out.1.below hb3) (HR.out.2.below hb3))
  clear HY hb3 HR
  go_wp2_with fail
  refine (HS.out _ a1 a2 c1 c2 HR3.out.1 HR3.out.2).mono ?_
  rintro e w4 ⟨hb4, rfl⟩
  have HB4 := Lib.hid (HB3.out.trans (hb4.mono HB3.out.size))
  have q1 : IntKind.i64.wrap ((3 : Int) + (sn : Int)) = ((3 + sn : Nat) : Int) := by rw [IntWalk.i64_in _ (by omega)]; omega
  have q2 : IntKind.i64.wrap (((3 + sn : Nat) : Int) + (T2 : Int)) = ((3 + T2 + sn : Nat) : Int) := by rw [IntWalk.i64_in _ (by omega)]; omega
  clear HS hb4 HR3
  go_wp2_with fail
  refine (law17_counts _).mono ?_
  rintro e w7 ⟨rfl, hb7⟩
  go_wp2
  go_ret
  exact ⟨rfl, HB4.out.trans (hb7.mono HB4.out.size)⟩
end Go.Proofs.Ytmgoeokdlklabaa

namespace Go.Proofs.Ytmgoeokdlklabaa.M05
set_option linter.unusedVariables false
set_option linter.unusedSimpArgs false
def psum (l : List Nat) (t : Nat) : Nat := (l.take t).sum
theorem psum_zero (l : List Nat) : psum l 0 = 0 := by simp [psum]
theorem psum_nil (t : Nat) : psum [] t = 0 := by simp [psum]
theorem psum_cons (x : Nat) (l : List Nat) (t : Nat) : psum (x :: l) (t + 1) = x + psum l t := by simp [psum]
theorem psum_succ (l : List Nat) (t : Nat) : psum l (t + 1) = psum l t + l.getD t 0 := by
  unfold psum
  rcases Nat.lt_or_ge t l.length with h | h
  · rw [List.take_succ_eq_append_getElem h, List.sum_append, List.getD_eq_getElem?_getD, List.getElem?_eq_getElem h]; simp
  · rw [List.take_of_length_le (by omega), List.take_of_length_le h, List.getD_eq_getElem?_getD, List.getElem?_eq_none h]; simp
theorem psum_mono (l : List Nat) {s t : Nat} (h : s ≤ t) : psum l s ≤ psum l t := by
  induction t with
  | zero => obtain rfl : s = 0 := by omega
            exact Nat.le_refl _
  | succ t ih =>
    rw [psum_succ]
    rcases Nat.lt_or_ge t s with h1 | h1
    · obtain rfl : s = t + 1 := by omega
      rw [psum_succ]; exact Nat.le_refl _
    · have := ih h1; omega
theorem psum_two (l : List Nat) (p : Nat) : psum l (2 * (p + 1)) = psum l (2 * p) + pkg l p := by
  rw [show 2 * (p + 1) = 2 * p + 1 + 1 by omega, psum_succ, psum_succ]
  unfold pkg; omega
theorem wts_cons (x : Item) (r : List Item) : wts (x :: r) = x.1 :: wts r := rfl
theorem rises_tail {x : Nat} {l : List Nat} (h : Rises (x :: l)) : Rises l := by
  intro i j hij hj
  have := h (i + 1) (j + 1) (by omega) (by simpa using hj)
  simpa using this
theorem rises_drop2 {a b : Nat} {l : List Nat} (h : Rises (a :: b :: l)) : Rises l := rises_tail (rises_tail h)
theorem rises_step {l : List Nat} (h : ∀ t, t + 1 < l.length → l.getD t 0 ≤ l.getD (t + 1) 0) : Rises l := by
  intro i j hij
  induction j with
  | zero => intro hj; obtain rfl : i = 0 := by omega
            exact Nat.le_refl _
  | succ j ih =>
    intro hj
    rcases Nat.lt_or_ge j i with h1 | h1
    · obtain rfl : i = j + 1 := by omega
      exact Nat.le_refl _
    · exact Nat.le_trans (ih h1 (by omega)) (h j hj)
theorem wts_getD (r : List Item) (t : Nat) (h : t < r.length) : (wts r).getD t 0 = r[t].1 := by
  unfold wts
  rw [List.getD_eq_getElem?_getD, List.getElem?_map, List.getElem?_eq_getElem h]; rfl
theorem nextR_rises (sy last : List Nat) (hs : Rises sy) (hl : Rises last) : Rises (wts (nextR sy last)) := by
  refine rises_step (fun t ht => ?_)
  have ht' : t + 1 < (nextR sy last).length := by simpa [wts] using ht
  rw [wts_getD _ _ (by omega), wts_getD _ _ ht']
  have hst := (nextR_state sy last t (by omega)).2.1
  have hsu := symN_succ (nextR sy last) t (by omega)
  rcases nextR_item sy last t (by omega) with ⟨h1, h2, h3⟩ | ⟨h1, h2, h3⟩ <;> rcases nextR_item sy last (t + 1) ht' with ⟨g1, g2, g3⟩ | ⟨g1, g2, g3⟩
  · rw [h1] at hsu ⊢
    rw [g1]
    rw [hsu] at g2 ⊢
    exact hs _ _ (by omega) g2
  · rw [h1] at hsu ⊢
    rw [g1]
    simp only at hsu
    rw [hsu] at g2 ⊢
    rw [show t + 1 - (symN (nextR sy last) t + 1) = t - symN (nextR sy last) t by omega] at g2 ⊢
    exact h3 g2
  · rw [h1] at hsu ⊢
    rw [g1]
    simp only [Nat.add_zero] at hsu
    rw [hsu] at g2 ⊢
    exact Nat.le_of_lt (h3 g2)
  · rw [h1] at hsu ⊢
    rw [g1]
    simp only [Nat.add_zero] at hsu
    rw [hsu] at g2 ⊢
    rw [show t + 1 - symN (nextR sy last) t = t - symN (nextR sy last) t + 1 by omega] at g2 ⊢
    generalize t - symN (nextR sy last) t = p at *
    have e1 := hl (2 * p) (2 * (p + 1)) (by omega) (by omega)
    have e2 := hl (2 * p + 1) (2 * (p + 1) + 1) (by omega) (by omega)
    unfold pkg
    simp only
    omega
theorem rowS_rises (sy : List Nat) (hs : Rises sy) : ∀ k, Rises (wts (rowS sy k)) := by
  intro k
  induction k with
  | zero => exact nextR_rises sy [] hs (fun i j _ h => by simp at h)
  | succ k ih => exact nextR_rises sy _ hs ih
theorem head_le {x : Nat} {l : List Nat} (h : Rises (x :: l)) (c : Nat) (hc : c < (x :: l).length) : x ≤ (x :: l).getD c 0 := h 0 c (by omega) hc
theorem merged_le : ∀ (n : Nat) (sy last : List Nat), sy.length + last.length ≤ n → Rises sy → Rises last → ∀ c b, c ≤ sy.length → 2 * b ≤ last.length → psum (wts (nextR sy last)) (c + b) ≤ psum sy c + psum last (2 * b) := by
  intro n
  induction n with
  | zero =>
    intro sy last h hs hl c b hc hb
    obtain rfl : c = 0 := by omega
    obtain rfl : b = 0 := by omega
    simp [psum_zero]
  | succ n ih =>
    intro sy last h hs hl c b hc hb
    match sy, last with
    | s :: sy, a :: d :: t =>
      simp only [List.length_cons] at h hc hb
      rw [nextR_two]
      split
      · next hle =>
        rw [wts_cons]
        cases c with
        | succ c =>
          rw [show c + 1 + b = c + b + 1 by omega, psum_cons, psum_cons]
          have := ih sy (a :: d :: t) (by simp; omega) (rises_tail hs) hl c b (by omega) (by simp; omega)
          simp only at this ⊢
          omega
        | zero =>
          cases b with
          | zero => simp [psum_zero]
          | succ b =>
            rw [show 0 + (b + 1) = 0 + b + 1 by omega, psum_cons, psum_zero, psum_two]
            have := ih sy (a :: d :: t) (by simp; omega) (rises_tail hs) hl 0 b (by omega) (by simp; omega)
            rw [psum_zero] at this
            have e1 := hl 0 (2 * b) (by omega) (by simp; omega)
            have e2 := hl 1 (2 * b + 1) (by omega) (by simp; omega)
            unfold pkg
            generalize (a :: d :: t).getD (2 * b) 0 = x at *
            generalize (a :: d :: t).getD (2 * b + 1) 0 = y at *
            simp only [List.getD_cons_zero, List.getD_cons_succ] at e1 e2
            simp only at this ⊢
            omega
      · next hle =>
        rw [wts_cons]
        cases b with
        | succ b =>
          rw [show c + (b + 1) = c + b + 1 by omega, psum_cons, show 2 * (b + 1) = 2 * b + 1 + 1 by omega, psum_cons, psum_cons]
          have := ih (s :: sy) t (by simp; omega) hs (rises_drop2 hl) c b (by simp; omega) (by omega)
          simp only at this ⊢
          omega
        | zero =>
          cases c with
          | zero => simp [psum_zero]
          | succ c =>
            rw [show c + 1 + 0 = c + 0 + 1 by omega, psum_cons, psum_succ]
            have := ih (s :: sy) t (by simp; omega) hs (rises_drop2 hl) c 0 (by simp; omega) (by omega)
            have e1 := head_le hs c (by simp; omega)
            simp only [Nat.mul_zero, psum_zero, Nat.add_zero] at this ⊢
            omega
    | s :: sy, [a] =>
      simp only [List.length_cons, List.length_nil] at h hc hb
      obtain rfl : b = 0 := by omega
      rw [nextR_sym _ _ _ (by simp), wts_cons]
      cases c with
      | zero => simp [psum_zero]
      | succ c =>
        rw [show c + 1 + 0 = c + 0 + 1 by omega, psum_cons, psum_cons]
        have := ih sy [a] (by simp; omega) (rises_tail hs) hl c 0 (by omega) (by simp)
        simp only [Nat.add_zero] at this ⊢
        omega
    | s :: sy, [] =>
      simp only [List.length_cons, List.length_nil] at h hc hb
      obtain rfl : b = 0 := by omega
      rw [nextR_sym _ _ _ (by simp), wts_cons]
      cases c with
      | zero => simp [psum_zero]
      | succ c =>
        rw [show c + 1 + 0 = c + 0 + 1 by omega, psum_cons, psum_cons]
        have := ih sy [] (by simp; omega) (rises_tail hs) hl c 0 (by omega) (by simp)
        simp only [Nat.add_zero] at this ⊢
        omega
    | [], a :: d :: t =>
      simp only [List.length_cons, List.length_nil] at h hc hb
      obtain rfl : c = 0 := by omega
      rw [nextR_pkg, wts_cons]
      cases b with
      | zero => simp [psum_zero]
      | succ b =>
        rw [show 0 + (b + 1) = 0 + b + 1 by omega, psum_cons, show 2 * (b + 1) = 2 * b + 1 + 1 by omega, psum_cons, psum_cons]
        have := ih [] t (by simp; omega) hs (rises_drop2 hl) 0 b (by simp) (by omega)
        simp only at this ⊢
        omega
    | [], [a] =>
      simp only [List.length_cons, List.length_nil] at h hc hb
      obtain rfl : c = 0 := by omega
      obtain rfl : b = 0 := by omega
      simp [psum_zero]
    | [], [] =>
      simp only [List.length_nil] at h hc hb
      obtain rfl : c = 0 := by omega
      obtain rfl : b = 0 := by omega
      simp [psum_zero]
theorem merged_eq (sy last : List Nat) : ∀ t, t ≤ (nextR sy last).length → psum (wts (nextR sy last)) t = psum sy (symN (nextR sy last) t) + psum last (2 * (t - symN (nextR sy last) t)) := by
  intro t
  induction t with
  | zero => intro _; simp [psum_zero, symN_zero]
  | succ t ih =>
    intro ht
    have ih := ih (by omega)
    have hst := (nextR_state sy last t (by omega)).2.1
    rw [psum_succ, ih, wts_getD _ _ (by omega), symN_succ _ t (by omega)]
    rcases nextR_item sy last t (by omega) with ⟨h1, _, _⟩ | ⟨h1, _, _⟩
    · rw [h1]
      simp only
      rw [psum_succ, show t + 1 - (symN (nextR sy last) t + 1) = t - symN (nextR sy last) t by omega]
      omega
    · rw [h1]
      simp only [Nat.add_zero]
      rw [show t + 1 - symN (nextR sy last) t = t - symN (nextR sy last) t + 1 by omega, psum_two]
      omega
theorem taken_cost (sy : List Nat) (lim : Nat) (h2 : 2 ≤ sy.length) (hl : sy.length ≤ 2 ^ lim) (h0 : 1 ≤ lim) : ∀ d i, i + d + 1 = lim → psum (wts (rowS sy d)) (tkn sy lim i) = sumN (fun k => psum sy (cnt sy lim (i + k))) (d + 1) := by
  intro d
  induction d with
  | zero =>
    intro i hi
    have hf := tkn_fits sy lim h2 hl h0 i (by omega)
    rw [show lim - 1 - i = 0 by omega] at hf
    have hc : cnt sy lim i = symN (nextR sy []) (tkn sy lim i) := by unfold cnt; rw [show lim - 1 - i = 0 by omega]; rfl
    rw [show rowS sy 0 = nextR sy [] from rfl, merged_eq _ _ _ (by exact hf), psum_nil]
    simp only [sumN, Nat.add_zero, Nat.zero_add]
    rw [hc]
  | succ d ih =>
    intro i hi
    have hf := tkn_fits sy lim h2 hl h0 i (by omega)
    rw [show lim - 1 - i = d + 1 by omega] at hf
    have hc : cnt sy lim i = symN (nextR sy (wts (rowS sy d))) (tkn sy lim i) := by unfold cnt; rw [show lim - 1 - i = d + 1 by omega]; rfl
    have ht : 2 * (tkn sy lim i - cnt sy lim i) = tkn sy lim (i + 1) := rfl
    rw [show rowS sy (d + 1) = nextR sy (wts (rowS sy d)) from rfl, merged_eq _ _ _ (by exact hf), ← hc, ht, ih (i + 1) (by omega)]
    have e : ∀ (g : Nat → Nat) (m : Nat), g i + sumN (fun k => g (i + 1 + k)) m = sumN (fun k => g (i + k)) (m + 1) := by
      intro g m
      induction m with
      | zero => simp [sumN]
      | succ m ihm =>
        rw [sumN, ← Nat.add_assoc, ihm]
        simp only [sumN]
        rw [show i + 1 + m = i + (m + 1) by omega]
    exact e (fun k => psum sy (cnt sy lim k)) (d + 1)
theorem sumN_mul_if (g : Nat → Nat) (p : Nat → Nat → Bool) (m n : Nat) : sumN (fun j => g j * ((List.range m).filter fun i => p i j).length) n = sumN (fun i => sumN (fun j => if p i j = true then g j else 0) n) m := by
  induction m with
  | zero => simp only [sumN, List.range_zero, List.filter_nil, List.length_nil, Nat.mul_zero, sumN_zero]
  | succ m ih =>
    simp only [sumN]
    rw [← ih, ← sumN_add]
    refine sumN_congr (fun j _ => ?_)
    rw [List.range_succ, List.filter_append, List.length_append, Nat.mul_add]
    congr 1
    by_cases h : p m j = true
    · simp [h]
    · simp [h]
theorem sumN_psum (sy : List Nat) (c : Nat) : sumN (fun j => sy.getD j 0) c = psum sy c := by
  induction c with
  | zero => simp [sumN, psum_zero]
  | succ c ih => rw [sumN, ih, psum_succ]
theorem lenJ_cost (sy : List Nat) (lim : Nat) (h2 : 2 ≤ sy.length) (hl : sy.length ≤ 2 ^ lim) (h0 : 1 ≤ lim) : sumN (fun j => sy.getD j 0 * lenJ sy lim j) sy.length = psum (wts (rowS sy (lim - 1))) (2 * sy.length - 2) := by
  have h := taken_cost sy lim h2 hl h0 (lim - 1) 0 (by omega)
  rw [show tkn sy lim 0 = 2 * sy.length - 2 from rfl] at h
  rw [h, show lim - 1 + 1 = lim by omega]
  unfold lenJ
  rw [sumN_mul_if (fun j => sy.getD j 0) (fun i j => decide (j < cnt sy lim i)) lim sy.length]
  refine sumN_congr (fun i hi => ?_)
  rw [Nat.zero_add, ← sumN_psum]
  rw [← sumN_below (fun j => sy.getD j 0) (cnt sy lim i) sy.length (cnt_le_len sy lim h2 hl h0 i hi)]
  refine sumN_congr (fun j _ => ?_)
  by_cases h : j < cnt sy lim i
  · rw [if_pos h, if_pos (by simp [h])]
  · rw [if_neg h, if_neg (by simp [h])]
def many (p : Nat → Bool) (n : Nat) : Nat := sumN (fun j => if p j = true then 1 else 0) n
theorem many_le (p : Nat → Bool) (n : Nat) : many p n ≤ n := by
  unfold many
  induction n with
  | zero => exact Nat.le_refl _
  | succ n ih => simp only [sumN]; split <;> omega
theorem pick_ge (sy : List Nat) (hs : Rises sy) (p : Nat → Bool) : ∀ n, n ≤ sy.length → psum sy (many p n) ≤ sumN (fun j => if p j = true then sy.getD j 0 else 0) n := by
  intro n
  induction n with
  | zero => intro _; simp [many, sumN, psum_zero]
  | succ n ih =>
    intro hn
    have ih := ih (by omega)
    have hm := many_le p n
    have e : many p (n + 1) = many p n + if p n = true then 1 else 0 := rfl
    rw [e]
    simp only [sumN]
    by_cases h : p n = true
    · rw [if_pos h, if_pos h, psum_succ]
      have := hs (many p n) n hm (by omega)
      omega
    · rw [if_neg h, if_neg h]; omega
def lvl (ln : Nat → Nat) (n lim i : Nat) : Nat := many (fun j => decide (lim ≤ i + ln j)) n
def itm (ln : Nat → Nat) (n lim : Nat) : Nat → Nat
  | 0 => lvl ln n lim 0
  | i + 1 => lvl ln n lim (i + 1) + itm ln n lim i / 2
def lvlW (sy : List Nat) (ln : Nat → Nat) (lim i : Nat) : Nat := sumN (fun j => if decide (lim ≤ i + ln j) = true then sy.getD j 0 else 0) sy.length
theorem itm_le (sy : List Nat) (ln : Nat → Nat) (lim : Nat) : ∀ i, itm ln sy.length lim i ≤ (rowS sy i).length := by
  intro i
  induction i with
  | zero =>
    rw [rowS_len]
    have := many_le (fun j => decide (lim ≤ 0 + ln j)) sy.length
    simp only [itm, lvl]; omega
  | succ i ih =>
    rw [rowS_len, lastOf_len]
    have := many_le (fun j => decide (lim ≤ (i + 1) + ln j)) sy.length
    simp only [itm, lvl]; omega
theorem other_cost (sy : List Nat) (hs : Rises sy) (ln : Nat → Nat) (lim : Nat) : ∀ i, psum (wts (rowS sy i)) (itm ln sy.length lim i) ≤ sumN (fun k => lvlW sy ln lim k) (i + 1) := by
  intro i
  induction i with
  | zero =>
    have h1 := pick_ge sy hs (fun j => decide (lim ≤ 0 + ln j)) sy.length (Nat.le_refl _)
    have h2 := merged_le _ sy [] (Nat.le_refl _) hs (fun i j _ h => by simp at h) (itm ln sy.length lim 0) 0 (many_le _ _) (by simp)
    rw [Nat.add_zero, Nat.mul_zero, psum_zero, Nat.add_zero] at h2
    simp only [sumN, Nat.zero_add]
    exact Nat.le_trans h2 h1
  | succ i ih =>
    have h1 := pick_ge sy hs (fun j => decide (lim ≤ (i + 1) + ln j)) sy.length (Nat.le_refl _)
    have hle := itm_le sy ln lim i
    have h2 := merged_le _ sy (wts (rowS sy i)) (Nat.le_refl _) hs (rowS_rises sy hs i) (lvl ln sy.length lim (i + 1)) (itm ln sy.length lim i / 2) (many_le _ _) (by rw [show (wts (rowS sy i)).length = (rowS sy i).length by simp [wts]]; omega)
    have h3 := psum_mono (wts (rowS sy i)) (show 2 * (itm ln sy.length lim i / 2) ≤ itm ln sy.length lim i by omega)
    rw [sumN]
    show psum (wts (nextR sy (wts (rowS sy i)))) (lvl ln sy.length lim (i + 1) + itm ln sy.length lim i / 2) ≤ _
    have h4 : psum sy (lvl ln sy.length lim (i + 1)) ≤ lvlW sy ln lim (i + 1) := h1
    omega
theorem itm_width (ln : Nat → Nat) (n lim : Nat) : ∀ i, sumN (fun k => lvl ln n lim k * 2 ^ k) (i + 1) < (itm ln n lim i + 1) * 2 ^ i := by
  intro i
  induction i with
  | zero => simp [sumN, itm]
  | succ i ih =>
    rw [sumN]
    have h1 : (itm ln n lim i + 1) * 2 ^ i ≤ (2 * (itm ln n lim i / 2) + 2) * 2 ^ i := Nat.mul_le_mul_right _ (by omega)
    have h2 : (2 * (itm ln n lim i / 2) + 2) * 2 ^ i = (itm ln n lim i / 2 + 1) * 2 ^ (i + 1) := by
      rw [Nat.pow_succ, show 2 * (itm ln n lim i / 2) + 2 = (itm ln n lim i / 2 + 1) * 2 by omega, Nat.mul_assoc, Nat.mul_comm 2]
    have h3 : (itm ln n lim (i + 1) + 1) * 2 ^ (i + 1) = lvl ln n lim (i + 1) * 2 ^ (i + 1) + (itm ln n lim i / 2 + 1) * 2 ^ (i + 1) := by
      rw [← Nat.add_mul]; simp only [itm]; rw [Nat.add_assoc]
    omega
theorem pow_levels (l : Nat) : ∀ lim, l ≤ lim → sumN (fun k => if decide (lim ≤ k + l) = true then 2 ^ k else 0) lim + 2 ^ (lim - l) = 2 ^ lim := by
  have h0 : ∀ n lim, n + l ≤ lim → sumN (fun k => if decide (lim ≤ k + l) = true then 2 ^ k else 0) n = 0 := by
    intro n lim h
    rw [sumN_congr (g := fun _ => 0) (fun k hk => if_neg (by simp; omega)), sumN_zero]
  intro lim hl
  have key : ∀ d, d ≤ l → sumN (fun k => if decide (lim ≤ k + l) = true then 2 ^ k else 0) (lim - l + d) + 2 ^ (lim - l) = 2 ^ (lim - l + d) := by
    intro d
    induction d with
    | zero => intro _; rw [Nat.add_zero, h0 _ _ (by omega), Nat.zero_add]
    | succ d ih =>
      intro hd
      have ih := ih (by omega)
      rw [show lim - l + (d + 1) = lim - l + d + 1 by omega, sumN, if_pos (by simp; omega), Nat.pow_succ]
      omega
  have := key l (Nat.le_refl _)
  rw [show lim - l + l = lim by omega] at this
  exact this
theorem itm_enough (ln : Nat → Nat) (n lim : Nat) (h0 : 1 ≤ lim) (hn : 1 ≤ n) (hle : ∀ j, j < n → ln j ≤ lim) (hk : sumN (fun j => 2 ^ (lim - ln j)) n ≤ 2 ^ lim) : 2 * n - 2 ≤ itm ln n lim (lim - 1) := by
  have h1 := itm_width ln n lim (lim - 1)
  rw [show lim - 1 + 1 = lim by omega] at h1
  have h2 : sumN (fun k => lvl ln n lim k * 2 ^ k) lim = sumN (fun j => sumN (fun k => if decide (lim ≤ k + ln j) = true then 2 ^ k else 0) lim) n := by
    rw [sumN_swap]
    refine sumN_congr (fun k _ => ?_)
    unfold lvl many
    generalize n = n'
    induction n' with
    | zero => simp [sumN]
    | succ n' ih =>
      simp only [sumN]
      rw [Nat.add_mul, ih]
      congr 1
      split <;> simp
  have h3 : sumN (fun j => sumN (fun k => if decide (lim ≤ k + ln j) = true then 2 ^ k else 0) lim) n + sumN (fun j => 2 ^ (lim - ln j)) n = n * 2 ^ lim := by
    rw [← sumN_add, ← sumN_const]
    exact sumN_congr (fun j hj => pow_levels _ _ (hle j hj))
  rw [h2] at h1
  have h4 : 2 ^ lim = 2 * 2 ^ (lim - 1) := by
    obtain ⟨k, rfl⟩ : ∃ k, lim = k + 1 := ⟨lim - 1, by omega⟩
    rw [Nat.add_sub_cancel, Nat.pow_succ, Nat.mul_comm]
  have hp : 0 < 2 ^ (lim - 1) := Nat.pos_of_ne_zero (by simp)
  rcases Nat.lt_or_ge (itm ln n lim (lim - 1)) (2 * n - 2) with h5 | h5
  · exfalso
    have h6 : (itm ln n lim (lim - 1) + 1) * 2 ^ (lim - 1) ≤ (2 * n - 2) * 2 ^ (lim - 1) := Nat.mul_le_mul_right _ (by omega)
    have h7 : (2 * n - 2) * 2 ^ (lim - 1) = n * 2 ^ lim - 2 ^ lim := by
      rw [Nat.sub_mul, h4, Nat.mul_comm 2 n, Nat.mul_assoc]
    omega
  · exact h5
theorem best_cost (sy : List Nat) (lim : Nat) (hs : Rises sy) (h2 : 2 ≤ sy.length) (hl : sy.length ≤ 2 ^ lim) (h0 : 1 ≤ lim) (ln : Nat → Nat) (hle : ∀ j, j < sy.length → ln j ≤ lim) (hk : sumN (fun j => 2 ^ (lim - ln j)) sy.length ≤ 2 ^ lim) :
    sumN (fun j => sy.getD j 0 * lenJ sy lim j) sy.length ≤ sumN (fun j => sy.getD j 0 * ln j) sy.length := by
  rw [lenJ_cost sy lim h2 hl h0]
  have h3 := itm_enough ln sy.length lim h0 (by omega) hle hk
  refine Nat.le_trans (psum_mono _ h3) ?_
  refine Nat.le_trans (other_cost sy hs ln lim (lim - 1)) ?_
  rw [show lim - 1 + 1 = lim by omega]
  have hc : ∀ l m, l ≤ m → ((List.range m).filter fun k => decide (m ≤ k + l)).length = l := by
    intro l m hlm
    have key : ∀ m', m' ≤ m → ((List.range m').filter fun k => decide (m ≤ k + l)).length = m' - (m - l) := by
      intro m'
      induction m' with
      | zero => intro _; simp
      | succ m' ih =>
        intro h
        rw [List.range_succ, List.filter_append, List.length_append, ih (by omega)]
        by_cases hm : m ≤ m' + l
        · simp [hm]; omega
        · simp [hm]; omega
    rw [key m (Nat.le_refl _)]; omega
  have h4 : sumN (fun j => sy.getD j 0 * ln j) sy.length = sumN (fun j => sy.getD j 0 * ((List.range lim).filter fun k => decide (lim ≤ k + ln j)).length) sy.length :=
    sumN_congr (fun j hj => by rw [hc _ _ (hle j hj)])
  rw [h4, sumN_mul_if (fun j => sy.getD j 0) (fun k j => decide (lim ≤ k + ln j)) lim sy.length]
  exact Nat.le_refl _
end Go.Proofs.Ytmgoeokdlklabaa.M05

namespace Go.Proofs.Ytmgoeokdlklabaa
open Go.RowKit Go.Shelf M01 M04 M05 M06 M07 M08 M09 M10 M17
set_option linter.unusedVariables false
set_option linter.unusedSimpArgs false
theorem cntU_cntL (far : Bool) (n : Nat) (us : List URow) : cntU far n us = cntL us far n := by
  have key : ∀ k, k ≤ us.length → cntU far n (us.take k) = cntL (us.take k) far n := by
    intro k
    induction k with
    | zero => intro _; rw [List.take_zero, cntL_nil]; rfl
    | succ k ih =>
      intro hk
      have ih := ih (by omega)
      rw [List.take_succ_eq_append_getElem (by omega), cntU_snoc, cntL_snoc, ih]
      by_cases hf : us[k].far = far
      · rw [if_pos hf]
        by_cases hs : us[k].sym < n
        · rw [if_pos ⟨hf, hs⟩, cntL_at _ _ _ _ hs]
        · rw [if_neg (fun h => hs h.2), List.set_eq_of_length_le (by rw [cntL_length]; omega)]
      · rw [if_neg hf, if_neg (fun h => hf h.1)]
  have := key us.length (Nat.le_refl _)
  rwa [List.take_length] at this
theorem S_sumN (g : Nat → Nat) (n : Nat) : M17.S g n = sumN g n := by
  induction n with
  | zero => rfl
  | succ n ih => simp only [M17.S, sumN, ih]
theorem sumN_le {f g : Nat → Nat} {n : Nat} (h : ∀ i, i < n → f i ≤ g i) : sumN f n ≤ sumN g n := by
  induction n with
  | zero => exact Nat.le_refl _
  | succ n ih =>
    simp only [sumN]
    have := ih (fun i hi => h i (by omega))
    have := h n (by omega)
    omega
theorem sum_used (f : List Nat) (g : Nat → Nat) (h : ∀ i, f.getD i 0 = 0 → g i = 0) : sumN g f.length = ((used f).map g).sum := by
  rw [← sum_map_range]
  unfold used
  generalize List.range f.length = l
  induction l with
  | nil => rfl
  | cons s l ih =>
    rw [List.map_cons, List.sum_cons, ih, List.filter_cons]
    by_cases hz : f.getD s 0 = 0
    · have hd : decide (0 < f.getD s 0) = false := by rw [decide_eq_false_iff_not]; omega
      rw [h s hz, hd, if_neg (by decide), Nat.zero_add]
    · have hd : decide (0 < f.getD s 0) = true := by rw [decide_eq_true_eq]; omega
      rw [hd, if_pos rfl, List.map_cons, List.sum_cons]
theorem sum_used_le (f : List Nat) (g : Nat → Nat) : ((used f).map g).sum ≤ sumN g f.length := by
  rw [← sum_map_range]
  unfold used
  generalize List.range f.length = l
  induction l with
  | nil => exact Nat.le_refl _
  | cons s l ih =>
    rw [List.map_cons, List.sum_cons, List.filter_cons]
    split
    · rw [List.map_cons, List.sum_cons]; omega
    · omega
theorem sum_rar (f : List Nat) (g : Nat → Nat) : ((used f).map g).sum = sumN (fun j => g ((rar f).getD j 0)) (rar f).length := by
  rw [← sum_map_perm (rar_perm f), ← sum_map_range]
  congr 1
  apply List.ext_getElem
  · simp
  · intro j h1 h2
    simp only [List.length_map] at h1
    simp only [List.getElem_map, List.getElem_range]
    rw [List.getD_eq_getElem?_getD, List.getElem?_eq_getElem h1]; rfl
theorem symW_at (f : List Nat) (j : Nat) (h : j < (rar f).length) : (symW f).getD j 0 = f.getD ((rar f).getD j 0) 0 := by
  unfold symW
  rw [List.getD_eq_getElem?_getD, List.getElem?_map, List.getElem?_eq_getElem h, List.getD_eq_getElem?_getD (l := rar f), List.getElem?_eq_getElem h]; rfl
theorem weight_getD (lens : List Nat) (N : Nat) : sumN (fun i => wt (lens.getD i 0)) N ≤ weight lens := by
  have h1 : sumN (fun i => wt (lens.getD i 0)) N = psum (lens.map wt) N := by
    rw [← sumN_psum]
    refine sumN_congr (fun i _ => ?_)
    rw [List.getD_eq_getElem?_getD, List.getD_eq_getElem?_getD, List.getElem?_map]
    cases lens[i]? <;> rfl
  rw [h1]
  have h2 := psum_mono (lens.map wt) (show N ≤ N + (lens.map wt).length by omega)
  refine Nat.le_trans h2 ?_
  unfold psum weight
  rw [List.take_of_length_le (by omega)]
  exact Nat.le_refl _
theorem getD_all {l : List Nat} {k : Nat} (h : ∀ x ∈ l, x ≤ k) (i : Nat) : l.getD i 0 ≤ k := M04.getD_le h i
theorem limL_best (f lens : List Nat) (hl : f.length ≤ 300) (h15 : ∀ x ∈ lens, x ≤ 15) (hw : weight lens ≤ 2 ^ 20) (hpos : ∀ i, i < f.length → f.getD i 0 ≠ 0 → lens.getD i 0 ≠ 0) :
    sumN (fun i => f.getD i 0 * (limL f 15).getD i 0) f.length ≤ sumN (fun i => f.getD i 0 * lens.getD i 0) f.length := by
  have hr1 := (rar_perm f).length_eq
  have hr2 := used_le f
  have hn15 : (rar f).length ≤ 2 ^ 15 := pow15 _ (by omega)
  have hlim : ∀ i, i < f.length → (limL f 15).getD i 0 = limS f 15 i := fun i hi => limL_get f 15 i hi
  rcases Nat.lt_or_ge (rar f).length 2 with hn | hn
  · refine sumN_le (fun i hi => ?_)
    rw [hlim i hi]
    by_cases hz : f.getD i 0 = 0
    · rw [hz, Nat.zero_mul]; exact Nat.zero_le _
    · refine Nat.mul_le_mul_left _ ?_
      have hp := hpos i hi hz
      have hmem : i ∈ rar f := (mem_rar f i).2 ⟨hi, by omega⟩
      have h1 : (rar f).length = 1 := by
        have := List.length_pos_of_mem hmem
        omega
      have hj : lenJ (symW f) 15 ((rar f).idxOf i) = 0 := by
        unfold lenJ
        rw [List.length_eq_zero_iff, List.filter_eq_nil_iff]
        intro k hk
        have := M05.cnt_le (symW f) 15 k
        rw [tkn_one (symW f) 15 (by rw [symW_len]; exact h1)] at this
        simp; omega
      unfold limS
      rw [if_neg hz, if_pos h1, hj]
      omega
  · rw [sum_used f (fun i => f.getD i 0 * (limL f 15).getD i 0) (fun i h => by simp only [h, Nat.zero_mul]), sum_used f (fun i => f.getD i 0 * lens.getD i 0) (fun i h => by simp only [h, Nat.zero_mul]), sum_rar, sum_rar]
    have hb := best_cost (symW f) 15 (symW_rises f) (by rw [symW_len]; exact hn) (by rw [symW_len]; exact hn15) (by decide) (fun j => lens.getD ((rar f).getD j 0) 0) (fun j _ => getD_all h15 _) ?hk
    case hk =>
      have h1 := Nat.le_trans (sum_used_le f (fun i => wt (lens.getD i 0))) (Nat.le_trans (weight_getD lens f.length) hw)
      rw [sum_rar] at h1
      have h2 : sumN (fun j => wt (lens.getD ((rar f).getD j 0) 0)) (rar f).length = sumN (fun j => 2 ^ 5 * 2 ^ (15 - lens.getD ((rar f).getD j 0) 0)) (rar f).length := by
        refine sumN_congr (fun j hj => ?_)
        have hm := (mem_rar f ((rar f).getD j 0)).1 (by rw [List.getD_eq_getElem?_getD, List.getElem?_eq_getElem hj]; exact List.getElem_mem hj)
        have hp := hpos _ hm.1 (by omega)
        have hx := getD_all h15 ((rar f).getD j 0)
        generalize lens.getD ((rar f).getD j 0) 0 = x at *
        unfold wt
        rw [if_neg hp, ← Nat.pow_add, show 20 - x = 5 + (15 - x) by omega]
      have h3 : ∀ (g : Nat → Nat) n, sumN (fun j => 2 ^ 5 * g j) n = 2 ^ 5 * sumN g n := by
        intro g n
        induction n with
        | zero => rfl
        | succ n ih => simp only [sumN, ih]; omega
      rw [h2, h3] at h1
      rw [symW_len]
      generalize sumN (fun j => 2 ^ (15 - lens.getD ((rar f).getD j 0) 0)) (rar f).length = q at *
      omega
    rw [symW_len] at hb
    have e1 : sumN (fun j => f.getD ((rar f).getD j 0) 0 * (limL f 15).getD ((rar f).getD j 0) 0) (rar f).length = sumN (fun j => (symW f).getD j 0 * lenJ (symW f) 15 j) (rar f).length := by
      refine sumN_congr (fun j hj => ?_)
      have hge : (rar f).getD j 0 = (rar f)[j] := by rw [List.getD_eq_getElem?_getD, List.getElem?_eq_getElem hj]; rfl
      have hm := (mem_rar f (rar f)[j]).1 (List.getElem_mem hj)
      rw [symW_at f j hj, hge, hlim _ hm.1]
      unfold limS
      rw [if_neg (by omega), if_neg (by omega), (rar_nodup f).idxOf_getElem j hj, Nat.zero_add]
    have e2 : sumN (fun j => f.getD ((rar f).getD j 0) 0 * lens.getD ((rar f).getD j 0) 0) (rar f).length = sumN (fun j => (symW f).getD j 0 * lens.getD ((rar f).getD j 0) 0) (rar f).length :=
      sumN_congr (fun j hj => by rw [symW_at f j hj])
    rw [e1, e2]
    exact hb
theorem lim_weight (f : List Nat) (hl : f.length ≤ 286) : weight (limL f 15) ≤ 2 ^ 20 := by
  obtain ⟨h15, h⟩ := lim_kind f hl
  have hm : May (limL f 15) := ⟨fun x hx => Nat.le_trans (h15 x hx) (by decide), by rw [limL_len]; omega⟩
  have hc : (clsE (limL f 15)).1 = cls (limL f 15) := by unfold clsE; rw [if_pos hm]
  rw [hc] at h
  rcases h with (h | h) | ⟨h, _⟩
  · unfold cls at h
    split at h
    · omega
    · split at h
      · omega
      · split at h
        · omega
        · omega
  · unfold singleB at h
    simp only [decide_eq_true_eq] at h
    obtain ⟨h1, h2⟩ := h
    generalize limL f 15 = l at *
    have : weight l ≤ 2 ^ 19 * l.sum := by
      clear h2 hm hc h15
      induction l with
      | nil => exact Nat.zero_le _
      | cons x l ih =>
        have ih := ih (fun y hy => h1 y (by simp [hy]))
        have hx := h1 x (by simp)
        unfold weight at ih ⊢
        rw [List.map_cons, List.sum_cons, List.sum_cons, Nat.mul_add]
        have : wt x ≤ 2 ^ 19 * x := by
          rcases (show x = 0 ∨ x = 1 by omega) with rfl | rfl
          · simp [wt]
          · simp [wt]
        omega
    rw [h2] at this
    exact Nat.le_trans this (by decide)
  · unfold cls at h
    split at h
    · omega
    · split at h
      · omega
      · split at h <;> omega
theorem sumE_best {c lens : List Nat} {m : Nat} (best : List Nat) (hbest : ∀ i, best.getD i 0 = (limL c 15).getD i 0) (hl : c.length ≤ 300) (h : sumE c lens = some m) (h15 : ∀ x ∈ lens, x ≤ 15) (hw : weight lens ≤ 2 ^ 20) : ∃ n, sumE c best = some n ∧ n ≤ m := by
  unfold sumE at h
  split at h
  case isFalse => cases h
  next hp =>
  simp only [Option.some.injEq] at h
  refine ⟨M17.S (fun i => c.getD i 0 * best.getD i 0) c.length, ?_, ?_⟩
  · unfold sumE
    rw [if_pos]
    intro i hi hc
    have hr1 := (rar_perm c).length_eq
    have hr2 := used_le c
    rw [hbest, limL_get c 15 i hi]
    have := (limS_bound c 15 i (by decide) (pow15 _ (by omega)) hi).2
    omega
  · rw [← h, S_sumN, S_sumN]
    simp only [hbest]
    exact limL_best c lens hl h15 hw hp
theorem codF_get (l : List Tok) (i : Nat) : (codF l).getD i 0 = (limL (cntL (useU l) false 286) 15).getD i 0 := by
  unfold codF bestF; rw [getD_cut, cntU_cntL]
theorem codO_get (l : List Tok) (i : Nat) : (codO l).getD i 0 = (limL (cntL (useU l) true 30) 15).getD i 0 := by
  unfold codO bestO; rw [getD_cut, cntU_cntL]
theorem cod_best (l : List Tok) (f o : List Nat) (h : ∀ t ∈ l, tokOk t) (hb : ∀ t ∈ l, t.byte < 256) (hf : ∀ x ∈ f, x ≤ 15) (ho : ∀ x ∈ o, x ≤ 15) (wf : weight f ≤ 2 ^ 20) (wo : weight o ≤ 2 ^ 20) (hs : (symOut f o l).2 = 0) :
    (symOut (codF l) (codO l) l).2 = 0 ∧ (symOut (codF l) (codO l) l).1 ≤ (symOut f o l).1 := by
  cases h1 : sumE (cntL (useU l) false 286) f with
  | none => rw [symOut_none f o l h hb (.inl h1)] at hs; simp at hs
  | some n =>
    cases h2 : sumE (cntL (useU l) true 30) o with
    | none => rw [symOut_none f o l h hb (.inr h2)] at hs; simp at hs
    | some m =>
      obtain ⟨n', g1, g2⟩ := sumE_best (codF l) (codF_get l) (by rw [cntL_length]; decide) h1 hf wf
      obtain ⟨m', g3, g4⟩ := sumE_best (codO l) (codO_get l) (by rw [cntL_length]; decide) h2 ho wo
      rw [symOut_some _ _ l h hb g1 g3, symOut_some _ _ l h hb h1 h2]
      exact ⟨rfl, by simp only; omega⟩
theorem codF_le (l : List Tok) : (∀ x ∈ codF l, x ≤ 15) ∧ weight (codF l) ≤ 2 ^ 20 := by
  unfold codF bestF
  have h1 := (lim_kind (cntU false 286 (useU l)) (by rw [cntU_len]; decide)).1
  have h2 := lim_weight (cntU false 286 (useU l)) (by rw [cntU_len]; decide)
  exact ⟨fun x hx => h1 x (List.mem_of_mem_take hx), by rw [weight_cut (cut_tail _ _)]; exact h2⟩
theorem codO_le (l : List Tok) : (∀ x ∈ codO l, x ≤ 15) ∧ weight (codO l) ≤ 2 ^ 20 := by
  unfold codO bestO
  have h1 := (lim_kind (cntU true 30 (useU l)) (by rw [cntU_len]; decide)).1
  have h2 := lim_weight (cntU true 30 (useU l)) (by rw [cntU_len]; decide)
  exact ⟨fun x hx => h1 x (List.mem_of_mem_take hx), by rw [weight_cut (cut_tail _ _)]; exact h2⟩
end Go.Proofs.Ytmgoeokdlklabaa

namespace Go.Proofs.Ytmgoeokdlklabaa
open Go.RowKit Go.Shelf M08 M17
set_option linter.unusedVariables false
theorem box_below2 (w : World) (o : Obj) : Below w.heap.size w (w.alloc o) := (Below.refl _ _).alloc (Nat.le_refl _) _
set_option maxHeartbeats 800000 in
theorem ref08_may (t : Tok) (w : World) :
    Calls Try.prog 65 #[tokV t] w fun e w' => e = .returned (.bool (decide (tokOk t))) ∧ Below w.heap.size w w' := by
  obtain ⟨L, D, b⟩ := t
  unfold tokV
  by_cases h0 : L = 0
  · by_cases h1 : D = 0
    · have H : Hid (decide (tokOk ⟨L, D, b⟩) = true) := by unfold Hid tokOk; simp [h0, h1]
      have b0 : (L == 0) = true := by simp [h0]
      have b1 : (D == 0) = true := by simp [h1]
      clear h0 h1
      go_enter Try.func65, Try.ntmps65
      go_wp2
      go_ret
      exact ⟨ret_bool H.out.symm, box_below2 _ _⟩
    · have H : Hid (decide (tokOk ⟨L, D, b⟩) = false) := by unfold Hid tokOk; simp [h0, h1]
      have b0 : (L == 0) = true := by simp [h0]
      have b1 : (D == 0) = false := by simp [h1]
      have b2 : decide (3 ≤ L) = false := by simp; omega
      clear h0 h1
      by_cases hb : b = 0
      · have b3 : ((b : Int) == 0) = true := by simp; omega
        clear hb
        go_enter Try.func65, Try.ntmps65
        go_wp2
        go_ret
        exact ⟨ret_bool H.out.symm, box_below2 _ _⟩
      · have b3 : ((b : Int) == 0) = false := by simp; omega
        clear hb
        go_enter Try.func65, Try.ntmps65
        go_wp2
        go_ret
        exact ⟨ret_bool H.out.symm, box_below2 _ _⟩
  · have H : Hid (tokOk ⟨L, D, b⟩ ↔ (b = 0 ∧ 3 ≤ L ∧ L ≤ 258 ∧ 1 ≤ D ∧ D ≤ 32768)) := by unfold Hid tokOk; simp [h0]
    have b0 : (L == 0) = false := by simp [h0]
    clear h0
    by_cases hb : b = 0
    case neg =>
      have b3 : ((b : Int) == 0) = false := by simp; omega
      have HH : Hid (decide (tokOk ⟨L, D, b⟩) = false) := by show decide _ = false; rw [decide_eq_false_iff_not, H.out]; exact fun h => hb h.1
      clear hb
      go_enter Try.func65, Try.ntmps65
      go_wp2
      go_ret
      exact ⟨ret_bool HH.out.symm, box_below2 _ _⟩
    have b3 : ((b : Int) == 0) = true := by simp; omega
    by_cases h3 : 3 ≤ L
    case neg =>
      have c3 : decide (3 ≤ L) = false := by simp; omega
      have HH : Hid (decide (tokOk ⟨L, D, b⟩) = false) := by show decide _ = false; rw [decide_eq_false_iff_not, H.out]; exact fun h => h3 h.2.1
      clear hb h3
      go_enter Try.func65, Try.ntmps65
      go_wp2
      go_ret
      exact ⟨ret_bool HH.out.symm, box_below2 _ _⟩
    have c3 : decide (3 ≤ L) = true := by simp; omega
    by_cases h4 : L ≤ 258
    case neg =>
      have c4 : decide (L ≤ 258) = false := by simp; omega
      have HH : Hid (decide (tokOk ⟨L, D, b⟩) = false) := by show decide _ = false; rw [decide_eq_false_iff_not, H.out]; exact fun h => h4 h.2.2.1
      clear hb h3 h4
      go_enter Try.func65, Try.ntmps65
      go_wp2
      go_ret
      exact ⟨ret_bool HH.out.symm, box_below2 _ _⟩
    have c4 : decide (L ≤ 258) = true := by simp; omega
    by_cases h5 : 1 ≤ D
    case neg =>
      have c5 : decide (1 ≤ D) = false := by simp; omega
      have HH : Hid (decide (tokOk ⟨L, D, b⟩) = false) := by show decide _ = false; rw [decide_eq_false_iff_not, H.out]; exact fun h => h5 h.2.2.2.1
      clear hb h3 h4 h5
      go_enter Try.func65, Try.ntmps65
      go_wp2
      go_ret
      exact ⟨ret_bool HH.out.symm, box_below2 _ _⟩
    have c5 : decide (1 ≤ D) = true := by simp; omega
    have HH : Hid (decide (tokOk ⟨L, D, b⟩) = decide (D ≤ 32768)) := by
      show decide _ = _
      rw [decide_eq_decide, H.out]
      exact ⟨fun h => h.2.2.2.2, fun h => ⟨hb, h3, h4, h5, h⟩⟩
    clear hb h3 h4 h5
    go_enter Try.func65, Try.ntmps65
    go_wp2
    go_ret
    exact ⟨ret_bool HH.out.symm, box_below2 _ _⟩
end Go.Proofs.Ytmgoeokdlklabaa

namespace Go.Proofs.Ytmgoeokdlklabaa
open Go.RowKit Go.Shelf M08 M17
set_option linter.unusedVariables false
def oftOut (w : World) (l : List Tok) (e : Ending) (w' : World) : Prop :=
  if ∀ t ∈ l, tokOk t then ∃ g1 g2, e = .returned (.tuple #[.slice (some ⟨g1, 0, none⟩) 286 286, .slice (some ⟨g2, 0, none⟩) 30 30, .bool true]) ∧ RowN .i64 w' (some ⟨g1, 0, none⟩) 286 (cntL (useU l) false 286) ∧ RowN .i64 w' (some ⟨g2, 0, none⟩) 30 (cntL (useU l) true 30) ∧ Below w.heap.size w w'
  else e = .returned (.tuple #[.slice none 0 0, .slice none 0 0, .bool false]) ∧ Below w.heap.size w w'
theorem oft_bad {w : World} {l : List Tok} {w' : World} {t : Tok} (ht : t ∈ l) (h : ¬ tokOk t) (hb : Below w.heap.size w w') : oftOut w l (.returned (.tuple #[.slice none 0 0, .slice none 0 0, .bool false])) w' := by
  unfold oftOut
  rw [if_neg (fun h2 => h (h2 t ht))]
  exact ⟨rfl, hb⟩
theorem take_ok' {l : List Tok} {k : Nat} (hk : k < l.length) (h : ∀ t ∈ l.take k, tokOk t) (h2 : tokOk l[k]) : ∀ t ∈ l.take (k + 1), tokOk t := by
  rw [List.take_succ_eq_append_getElem hk]
  intro t ht
  rcases List.mem_append.1 ht with ht | ht
  · exact h t ht
  · simp at ht; exact ht ▸ h2
theorem cnt_at {A : World} {base g n : Nat} {far : Bool} {R : List URow} (h : OwnN 3 .i64 A base (some ⟨g, 0, none⟩) n (cntL R far n)) (s : Nat) (hs : s < n) : A.cell? ⟨g, s, none⟩ = some (.int .i64 (cnt R far s : Nat)) ∧ A.frozen? ⟨g, s, none⟩ = false := by
  obtain ⟨g', he, _, _, hc, hf⟩ := h.at (i := s) (by rw [cntL_length]; exact hs)
  simp only [Option.some.injEq, Addr.mk.injEq, and_true] at he
  subst he
  refine ⟨?_, hf⟩
  rw [hc]
  have := cntL_at R far n s hs
  rw [List.getD_eq_getElem?_getD, List.getElem?_eq_getElem (by rw [cntL_length]; exact hs), Option.getD_some] at this
  rw [this]
theorem cnt_put {A : World} {base g n : Nat} {R : List URow} (r : URow) (h : OwnN 3 .i64 A base (some ⟨g, 0, none⟩) n (cntL R r.far n)) (hs : r.sym < n) : OwnN 3 .i64 (A.setCell ⟨g, r.sym, none⟩ (.int .i64 ((cnt R r.far r.sym + 1 : Nat) : Int))) base (some ⟨g, 0, none⟩) n (cntL (R ++ [r]) r.far n) := by
  rw [cntL_snoc, if_pos ⟨rfl, hs⟩]
  exact (OwnN.stored h _ _).1
theorem cnt_keep {A : World} {base g g' n s : Nat} {R : List URow} (r : URow) {far : Bool} (h : OwnN 3 .i64 A base (some ⟨g, 0, none⟩) n (cntL R far n)) (hf : r.far ≠ far) (hg : g' ≠ g) (v : Value) : OwnN 3 .i64 (A.setCell ⟨g', s, none⟩ v) base (some ⟨g, 0, none⟩) n (cntL (R ++ [r]) far n) := by
  rw [cntL_snoc, if_neg (fun h => hf h.1)]
  exact OwnN.other h (fun x hx => by cases hx; exact hg) _
theorem oft_start {w w1 w2 : World} (h1 : OwnN 3 .i64 w1 w.heap.size (some ⟨w.heap.size, 0, none⟩) 286 (List.replicate 286 0)) (g1 : w.grownBy w1 none) (h2 : OwnN 3 .i64 w2 w1.heap.size (some ⟨w1.heap.size, 0, none⟩) 30 (List.replicate 30 0)) (g2 : w1.grownBy w2 none) :
    w.heap.size < w1.heap.size ∧ w1.heap.size < w2.heap.size ∧ w2.cell? ⟨w.heap.size, 256, none⟩ = some (.int .i64 0) ∧ w2.frozen? ⟨w.heap.size, 256, none⟩ = false ∧
    Hid (OwnN 3 .i64 w2 w.heap.size (some ⟨w.heap.size, 0, none⟩) 286 (List.replicate 286 0)) ∧ Hid (OwnN 3 .i64 w2 w.heap.size (some ⟨w1.heap.size, 0, none⟩) 30 (List.replicate 30 0)) ∧ Hid (Below w.heap.size w w2) := by
  have hB1 : Below w.heap.size w w1 := Below.of_grown g1 (Nat.le_refl _) (fun k e => by cases e)
  have hB2 : Below w1.heap.size w1 w2 := Below.of_grown g2 (Nat.le_refl _) (fun k e => by cases e)
  have o1 := h1.below hB2
  have hz1 : w.heap.size < w1.heap.size := by
    obtain ⟨g, he, _, hlt⟩ := (h1.form).resolve_left (by intro h; cases h.1)
    simp only [Option.some.injEq, Addr.mk.injEq, and_true] at he
    omega
  have hz2 : w1.heap.size < w2.heap.size := by
    obtain ⟨g, he, _, hlt⟩ := (h2.form).resolve_left (by intro h; cases h.1)
    simp only [Option.some.injEq, Addr.mk.injEq, and_true] at he
    omega
  obtain ⟨g, he, _, _, hc, hf⟩ := o1.at (i := 256) (by rw [List.length_replicate]; decide)
  simp only [Option.some.injEq, Addr.mk.injEq, and_true] at he
  subst he
  exact ⟨hz1, hz2, by rw [hc, List.getElem_replicate]; rfl, hf, o1, h2.mono (by omega), hB1.trans (hB2.mono hB1.size)⟩
set_option maxRecDepth 100000 in
set_option maxHeartbeats 1600000 in
theorem ref17_often (a : Option Addr) (cap : Nat) (l : List Tok) (w : World) (hl : l.length ≤ 1000) (hby : ∀ t ∈ l, t.byte < 256) (hr : RowS encT w a cap l) :
    Calls Try.prog 28 #[.slice a l.length cap] w (oftOut w l) := by
  have HBY := Lib.hid hby
  clear hby
  go_enter Try.func28, Try.ntmps28
  go_wp2_with (first | (at_make; refine makeN (n := 286) et_int rfl _ _ rfl w.heap.size rfl rfl (by decide) (by decide) (Nat.le_refl _) ?_; intro w1 hown1 hg1) | (at_make; refine makeN (n := 30) et_int rfl _ _ rfl w1.heap.size rfl rfl (by decide) (by decide) (Nat.le_refl _) ?_; intro w2 hown2 hg2; obtain ⟨hz1, hz2, hc256, hf256, HO1, HO2, HB⟩ := oft_start hown1 hg1 hown2 hg2; clear hown1 hg1 hown2 hg2))
  obtain ⟨z1, z2⟩ := oftR_zero l
  have S1 : Hid (OwnN 3 .i64 (w2.setCell ⟨w.heap.size, 256, none⟩ (.int .i64 1)) w.heap.size (some ⟨w.heap.size, 0, none⟩) 286 (cntL (oftR l 0) false 286)) := by
    rw [z1]; exact (OwnN.stored HO1.out 256 1).1
  have S2 : Hid (OwnN 3 .i64 (w2.setCell ⟨w.heap.size, 256, none⟩ (.int .i64 1)) w.heap.size (some ⟨w1.heap.size, 0, none⟩) 30 (cntL (oftR l 0) true 30)) := by
    rw [z2]; exact OwnN.other HO2.out (fun g hg => by cases hg; show w.heap.size ≠ w1.heap.size; omega) _
  have S3 : Hid (Below w.heap.size w (w2.setCell ⟨w.heap.size, 256, none⟩ (.int .i64 1))) := HB.out.setCell (Nat.le_refl _) _
  clear z1 z2 HO1 HO2 HB hc256 hf256
  generalize w2.setCell ⟨w.heap.size, 256, none⟩ (.int .i64 1) = w3 at *
  have HZ := Lib.hid hz1
  clear hz2
  obtain ⟨g1, hg1⟩ : ∃ g1, w.heap.size = g1 := ⟨_, rfl⟩
  obtain ⟨g2, hg2⟩ : ∃ g2, w1.heap.size = g2 := ⟨_, rfl⟩
  rw [hg1, hg2] at S2
  rw [hg1] at S1
  rw [hg1, hg2] at hz1
  simp only [hg1, hg2]
  have HG1 := Lib.hid hg1
  clear hg1 hg2 HZ
  go_loopw [7, 8, 9, 10, 11, 12, 13, 14, 15] (fun i _ _ _ _ _ _ _ _ A => ∃ k : Nat, k ≤ l.length ∧ i = .int .i64 k ∧ (∀ t ∈ l.take k, tokOk t) ∧ OwnN 3 .i64 A g1 (some ⟨g1, 0, none⟩) 286 (cntL (oftR l k) false 286) ∧ OwnN 3 .i64 A g1 (some ⟨g2, 0, none⟩) 30 (cntL (oftR l k) true 30) ∧ Below w.heap.size w A) (fun i _ _ _ _ _ _ _ _ _ => l.length - (intOf i).toNat)
  case atStart => exact ⟨0, by omega, rfl, by simp, S1.out, S2.out, S3.out⟩
  case round =>
    clear S1 S2 S3
    obtain ⟨k, hk, rfl, hok, ho1, ho2, hbel⟩ := hrel
    have HOK := Lib.hid hok
    clear hok
    by_cases hlt : k < l.length
    · have hrA := hr.below hbel
      obtain ⟨b, off, rfl, hb, hcl⟩ := hrA.at hlt
      have c0 := hcl 0 _ rfl
      have c1 := hcl 1 _ rfl
      have c2 := hcl 2 _ rfl
      have hbt := HBY.out _ (List.getElem_mem hlt)
      have hmem := List.getElem_mem hlt
      have GT := Lib.hid (fun h2 => take_ok' hlt HOK.out h2)
      have GS := Lib.hid (oftR_succ l k hlt)
      have HLEN := Lib.hid (oftR_len l k)
      clear hrA hcl
      generalize l[k] = t at *
      obtain ⟨L, D, bt⟩ := t
      simp only [encT, Nat.add_zero] at c0 c1 c2 hbt
      rw [← Nat.add_assoc] at c1 c2
      by_cases hok : tokOk ⟨L, D, bt⟩
      case neg =>
        have HN := Lib.hid (fun (w' : World) (hb : Below w.heap.size w w') => oft_bad hmem hok hb)
        have hd : decide (tokOk ⟨L, D, bt⟩) = false := by simpa using hok
        have HB := Lib.hid hbel
        clear ho1 ho2 hmem hok hbel
        go_wp2_with (go_at_call 65; refine (ref08_may ⟨L, D, bt⟩ _).mono ?_; rintro e w' ⟨rfl, hbw⟩; rw [hd])
        refine bodyPost_ret (results_tmp3 rfl _ _ _) rfl ?_
        exact HN.out _ (HB.out.trans (hbw.mono HB.out.size))
      have hd : decide (tokOk ⟨L, D, bt⟩) = true := by simpa using hok
      by_cases h0 : L = 0
      · have hD : D = 0 := by have h := hok; unfold tokOk at h; rw [if_pos h0] at h; exact h
        have hu : tokU ⟨L, D, bt⟩ = [⟨false, bt, 0, 0⟩] := by unfold tokU; rw [if_pos h0, if_pos hD]
        subst h0 hD
        have HS := Lib.hid (GS.out.trans (by rw [hu]))
        have HT := Lib.hid (GT.out hok)
        have hcl := cnt_le (oftR l k) false bt
        have hcl2 := HLEN.out
        have HO1 := Lib.hid ho1
        have HO2 := Lib.hid ho2
        have HB := Lib.hid hbel
        clear ho1 ho2 hmem hbel hu
        go_wp2_with fail
        refine (ref08_may ⟨0, 0, bt⟩ _).mono ?_
        rintro e w4 ⟨rfl, hbw⟩
        rw [hd]
        have e0 := (hbw.cell (p := ⟨b, off + k * 3, none⟩) hb).trans c0
        have e2 := (hbw.cell (p := ⟨b, off + k * 3 + 2, none⟩) hb).trans c2
        have HO1' := Lib.hid (HO1.out.below hbw)
        have HO2' := Lib.hid (HO2.out.below hbw)
        have HB' := Lib.hid (HB.out.trans (hbw.mono HB.out.size))
        obtain ⟨f1, f2⟩ := cnt_at HO1'.out bt (by omega)
        clear c0 c1 c2 hbw hd hok HO1 HO2 HB
        have HO1P := fun x => cnt_put ⟨false, bt, 0, 0⟩ HO1'.out (show bt < 286 by omega)
        have H1 := Lib.hid (cnt_put ⟨false, bt, 0, 0⟩ HO1'.out (show bt < 286 by omega))
        have H2 := Lib.hid (fun v => cnt_keep (s := bt) (g' := g1) ⟨false, bt, 0, 0⟩ HO2'.out Bool.false_ne_true (by omega) v)
        clear HO1P
        simp only at H1
        generalize cnt (oftR l k) false bt = cc at *
        have hcc : cc ≤ 2001 := by omega
        clear hcl hcl2 HLEN
        go_wp2
        go_roundw
        case rel => exact ⟨k + 1, by omega, by go_num, HT.out, by rw [HS.out]; exact H1.out, by rw [HS.out]; exact H2.out _, HB'.out.setCell (by show w.heap.size ≤ g1; have := HG1.out; omega) _⟩
        case measure => simp [intOf]; omega
      · have h2 : bt = 0 ∧ 3 ≤ L ∧ L ≤ 258 ∧ 1 ≤ D ∧ D ≤ 32768 := by have h := hok; unfold tokOk at h; rw [if_neg h0] at h; exact h
        obtain ⟨rfl, hl3, hl258, hd1, hd3⟩ := h2
        have hu : tokU ⟨L, D, 0⟩ = [⟨false, 257 + lk L.toNat, lbits (257 + lk L.toNat), 0⟩, ⟨true, dk D.toNat, dbits (dk D.toNat), 0⟩] := by unfold tokU; rw [if_neg h0, if_pos hok]
        have b0 : (L == 0) = false := by simp [h0]
        have HS := Lib.hid (GS.out.trans (by rw [hu]))
        have HT := Lib.hid (GT.out hok)
        have HO1 := Lib.hid ho1
        have HO2 := Lib.hid ho2
        have HB := Lib.hid hbel
        obtain ⟨n, rfl⟩ := Int.eq_ofNat_of_zero_le (by omega : 0 ≤ L)
        obtain ⟨m, rfl⟩ := Int.eq_ofNat_of_zero_le (by omega : 0 ≤ D)
        simp only [Int.toNat_natCast] at HS hu
        have hlk : lk n < 29 := lastLe_lt n (by decide)
        have hdk := dk_lt m
        have HLN := Lib.hid (fun (w : World) => ref08_length n w (by omega) (by omega))
        have HDN := Lib.hid (fun (w : World) => ref08_distance m w (by omega) (by omega))
        clear ho1 ho2 hmem hbel hu hl3 hl258 hd1 hd3 h0
        have hs286 : 257 + lk n < 286 := by omega
        clear hlk
        generalize lensL.getD (lk n) 0 = ln at *
        generalize distL.getD (dk m) 0 = dn at *
        generalize 257 + lk n = s at *
        generalize dk m = kd at *
        generalize lbits s = bl at *
        generalize dbits kd = bd at *
        go_wp2_with fail
        refine (ref08_may ⟨(n : Int), (m : Int), 0⟩ _).mono ?_
        rintro e w4 ⟨rfl, hbw⟩
        rw [hd]
        have e0 := (hbw.cell (p := ⟨b, off + k * 3, none⟩) hb).trans c0
        have e1 := (hbw.cell (p := ⟨b, off + k * 3 + 1, none⟩) hb).trans c1
        have hb4 : b < w4.heap.size := Nat.lt_of_lt_of_le hb hbw.size
        have HO1' := Lib.hid (HO1.out.below hbw)
        have HO2' := Lib.hid (HO2.out.below hbw)
        have HB' := Lib.hid (HB.out.trans (hbw.mono HB.out.size))
        clear c0 c1 c2 hbw hd hok HO1 HO2 HB
        go_wp2_with fail
        refine (HLN.out _).mono ?_
        rintro e w5 ⟨rfl, hbw⟩
        have e1' := (hbw.cell (p := ⟨b, off + k * 3 + 1, none⟩) hb4).trans e1
        have HO1 := Lib.hid (HO1'.out.below hbw)
        have HO2 := Lib.hid (HO2'.out.below hbw)
        have HB := Lib.hid (HB'.out.trans (hbw.mono HB'.out.size))
        clear e0 e1 hbw HO1' HO2' HB' HLN
        go_wp2_with fail
        refine (HDN.out _).mono ?_
        rintro e w6 ⟨rfl, hbw⟩
        have HO1' := Lib.hid (HO1.out.below hbw)
        have HO2' := Lib.hid (HO2.out.below hbw)
        have HB' := Lib.hid (HB.out.trans (hbw.mono HB.out.size))
        obtain ⟨f1, f2⟩ := cnt_at HO1'.out s (by omega)
        obtain ⟨f3, f4⟩ := cnt_at HO2'.out kd (by omega)
        have hcl := cnt_le (oftR l k) false s
        have hcl2 := cnt_le (oftR l k) true kd
        have hcl3 := HLEN.out
        clear e1' hbw HO1 HO2 HB HDN hb4
        have H1 := Lib.hid (fun v (x : Nat) => cnt_keep (s := kd) (g' := g2) ⟨true, kd, bd, 0⟩ (cnt_put ⟨false, s, bl, 0⟩ HO1'.out hs286) (fun h => Bool.false_ne_true h.symm) (by omega) v)
        have H2 := Lib.hid (fun v => cnt_keep (s := s) (g' := g1) ⟨false, s, bl, 0⟩ HO2'.out Bool.false_ne_true (by omega) v)
        have H3 := Lib.hid (show ∀ v, OwnN 3 .i64 (w6.setCell ⟨g1, s, none⟩ v |>.setCell ⟨g2, kd, none⟩ (.int .i64 ((cnt (oftR l k) true kd + 1 : Nat) : Int))) g1 (some ⟨g2, 0, none⟩) 30 (cntL ((oftR l k ++ [⟨false, s, bl, 0⟩]) ++ [⟨true, kd, bd, 0⟩]) true 30) from fun v => by
          have h := cnt_put ⟨true, kd, bd, 0⟩ (H2.out v) hdk
          have hc : cnt (oftR l k ++ [⟨false, s, bl, 0⟩]) true kd = cnt (oftR l k) true kd := by rw [cnt_snoc, if_neg (by intro h; cases h.1)]; rfl
          simp only [hc] at h
          exact h)
        simp only at H1
        have HS2 : Hid (oftR l (k + 1) = (oftR l k ++ [⟨false, s, bl, 0⟩]) ++ [⟨true, kd, bd, 0⟩]) := HS.out.trans (by simp)
        generalize cnt (oftR l k) false s = cc at *
        generalize cnt (oftR l k) true kd = cd at *
        have hcc : cc ≤ 2001 := by omega
        have hcd : cd ≤ 2001 := by omega
        clear hcl hcl2 hcl3 HLEN H2 HS
        go_wp2
        go_roundw
        case rel => exact ⟨k + 1, by omega, by go_num, HT.out, by rw [HS2.out]; exact H1.out _ 0, by rw [HS2.out]; exact H3.out _, (HB'.out.setCell (by show w.heap.size ≤ g1; have := HG1.out; omega) _).setCell (by show w.heap.size ≤ g2; have := HG1.out; omega) _⟩
        case measure => simp [intOf]; omega
    · obtain rfl : k = l.length := by omega
      have hall : ∀ t ∈ l, tokOk t := by have := HOK.out; rwa [List.take_length] at this
      rw [oftR_cnt l hall] at ho1 ho2
      have HO1 := Lib.hid ho1.row
      have HO2 := Lib.hid ho2.row
      have HB := Lib.hid hbel
      have HALL := Lib.hid hall
      clear ho1 ho2 hbel hall
      go_wp2
      refine bodyPost_ret (results_tmp3 rfl _ _ _) rfl ?_
      unfold oftOut
      rw [if_pos HALL.out]
      exact ⟨g1, g2, rfl, HO1.out, HO2.out, HB.out⟩
end Go.Proofs.Ytmgoeokdlklabaa
