/- prefix: PutLow: contract. -/
import Derived.Test.YtmgoeokdlklabaaWr
import Derived.Test.YtmgoeokdlklabaaPrefix
namespace Go.Proofs.Ytmgoeokdlklabaa
open Go.RowKit Go.Shelf M01 M04 M06
set_option linter.unusedVariables false

/-- a word's bits, the highest first -/
def addWord (s : Wst) (x n : Nat) : Nat → Wst
  | 0 => s
  | j + 1 => addNum (addWord s x n j) (x / 2 ^ (n - 1 - j) % 2) 1
def addSym (l : List Nat) (st : Wst) (s : Nat) : Wst := addWord st ((words l).getD s 0) (l.getD s 0) (l.getD s 0)
theorem addWord_len (s : Wst) (x n j : Nat) : (addWord s x n j).2 = s.2 + j := by
  induction j with
  | zero => rfl
  | succ j ih => unfold addWord; rw [addNum_len, ih]; omega
theorem table_bits (w : World) (lo hi p : Nat) (l : List Nat) (s : Nat) (h : Tb lo hi w p l) (hs : s < l.length) (hx : l.getD s 0 ≤ 255) :
    Calls Try.prog 111 #[.pointer (some ⟨p, 0, none⟩), .int .i64 (s : Nat)] w fun e w' => e = .returned (.int .i64 (l.getD s 0 : Nat)) ∧ w' = w := by
  obtain ⟨a1, c1, a2, c2, mb, nn, g1, g2, g3, g4, _⟩ := h
  obtain ⟨b, off, rfl, hb, hck⟩ := g2.at hs
  have hge : l[s] = l.getD s 0 := by simp [List.getD, List.getElem?_eq_getElem hs]
  rw [hge] at hck
  have c0 : w.cell? ⟨p, 0, none⟩ = some (.slice (some ⟨b, off, none⟩) l.length c1) := by simp [World.cell?, g1]
  have t1 : decide (l.length ≤ s) = false := by simp; omega
  have q1 : (0 : Int) ≤ (s : Int) := by omega
  have q2 : (s : Int) < (l.length : Int) := by omega
  generalize l.getD s 0 = x at *
  clear g1 g2 g3 g4 hge hb
  go_enter Try.func111, Try.ntmps111
  go_wp2
  go_ret
  exact ⟨rfl, rfl⟩
set_option maxRecDepth 100000 in
set_option maxHeartbeats 1600000 in
theorem prefix_put {P : Nat → Prop} {w : World} {lo hi tp p : Nat} {l : List Nat} {st : Wst} (hT : Tb lo hi w tp l) (hW : Wr P w p st) (hP : ∀ b, lo ≤ b → b < hi → ¬ P b) (s n : Nat) (hs : s < l.length) (hn : l.getD s 0 = n) (h0 : 0 < n) (h20 : n ≤ 20)
    (hx : (words l).getD s 0 < 4294967296) (hb : st.2 + n ≤ 100000000) :
    Calls Try.prog 78 #[.pointer (some ⟨tp, 0, none⟩), .pointer (some ⟨p, 0, none⟩), .int .i64 (s : Nat), .func (Fn.func 12) #[.pointer (some ⟨p, 0, none⟩)] #[]] w fun e w' =>
      e = .returned (.int .i64 0) ∧ Only P w w' ∧ Wr P w' p (addWord st ((words l).getD s 0) n n) := by
  have HB := Lib.hid (table_bits w lo hi tp l s hT hs (by omega))
  rw [hn] at HB
  obtain ⟨x, hxe⟩ : ∃ x, (words l).getD s 0 = x := ⟨_, rfl⟩
  rw [hxe] at hx ⊢
  have HT := Lib.hid hT
  have HW := Lib.hid hW
  have HP := Lib.hid hP
  have t0 : ((n : Int) == 0) = false := beq_eq_false_iff_ne.2 (by omega)
  obtain ⟨n1, hn1⟩ : ∃ n1, n = n1 + 1 := ⟨n - 1, by omega⟩
  have q0 : (n : Int) - 1 = (n1 : Int) := by omega
  replace hn1 := Lib.hid hn1
  have HXE := Lib.hid hxe
  have hwl := words_length l
  clear hT hW hP hxe
  go_enter Try.func78, Try.ntmps78
  go_wp2_with fail
  refine HB.out.mono ?_
  rintro e w1 ⟨rfl, rfl⟩
  go_wp2_with fail
  go_loopw [10] (fun c A => Only P w1 A ∧ ((∃ r : Nat, c = .int .i64 (r : Nat) ∧ r < n ∧ Wr P A p (addWord st x n (n - 1 - r))) ∨ (c = .int .i64 (-1) ∧ Wr P A p (addWord st x n n)))) (fun c _ => (intOf c + 1).toNat)
  case atStart => exact ⟨Only.refl _ _, .inl ⟨n1, rfl, by have := hn1.out; omega, by rw [show n - 1 - n1 = 0 by have := hn1.out; omega]; exact HW.out⟩⟩
  case round =>
    clear HB q0 t0
    obtain ⟨ho, hrel⟩ := hrel
    have HO := Lib.hid ho
    rcases hrel with ⟨r, rfl, hr, hw⟩ | ⟨rfl, hw⟩
    · have HW2 := Lib.hid hw
      have HT2 := Lib.hid (HT.out.only ho HP.out)
      obtain ⟨a1, c1, a2, c2, mb, nn, g1, g2, g3, g4, _⟩ := HT2.out
      obtain ⟨b, off, rfl, hbb, hck⟩ := g3.at (i := s) (by rw [hwl]; exact hs)
      have hge : (words l)[s]'(by rw [hwl]; exact hs) = x := by rw [← HXE.out]; simp [List.getD, List.getElem?_eq_getElem (show s < (words l).length by rw [hwl]; exact hs)]
      rw [hge] at hck
      have k1 : wr.cell? ⟨tp, 1, none⟩ = some (.slice (some ⟨b, off, none⟩) l.length c2) := by simp [World.cell?, g1]
      obtain ⟨y, hy⟩ : ∃ y, x / 2 ^ r = y := ⟨_, rfl⟩
      have hy2 : y < 4294967296 := by rw [← hy]; exact Nat.lt_of_le_of_lt (Nat.div_le_self _ _) hx
      have q1 : (x : Int) / 2 ^ r = (y : Int) := by rw [← hy]; simp
      obtain ⟨z, hz⟩ : ∃ z, y % 2 = z := ⟨_, rfl⟩
      have q2 : bits .and .u32 (y : Int) 1 = (z : Int) := by rw [and1 y hy2, hz]
      have q3 : (0 : Int) ≤ (s : Int) := by omega
      have q4 : (s : Int) < (l.length : Int) := by omega
      have q5 : (0 : Int) ≤ (r : Int) := by omega
      have hr32 : r ≤ 32 := by omega
      have hll : (addWord st x n (n - 1 - r)).2 + 1 ≤ 100000000 := by rw [addWord_len]; omega
      have HPU := Lib.hid (show Calls Try.prog 12 #[.pointer (some ⟨p, 0, none⟩), .int .u32 (z : Nat), .int .i64 1] wr _ from lsb_put HW2.out z 1 (by decide) (by omega) hll)
      have HA : Hid (addNum (addWord st x n (n - 1 - r)) z 1 = addWord st x n (n - r)) := by
        unfold Hid
        rw [show n - r = (n - 1 - r) + 1 by omega]
        show _ = addNum _ (x / 2 ^ (n - 1 - (n - 1 - r)) % 2) 1
        rw [show n - 1 - (n - 1 - r) = r by omega, hy, hz]
      rw [HA.out] at HPU
      clear ho hw HW2 HT2 g1 g2 g3 g4 hge hll HA hy hz hbb
      go_wp2_with (go_at_call 12; refine HPU.out.mono ?_; rintro e w2 ⟨rfl, ho2, hw2⟩; replace ho2 := Lib.hid ho2; replace hw2 := Lib.hid hw2)
      go_roundw
      case rel =>
        refine ⟨HO.out.trans ho2.out, ?_⟩
        cases r with
        | zero => exact .inr ⟨rfl, hw2.out⟩
        | succ r => exact .inl ⟨r, congrArg (Value.int IntKind.i64) (by omega), by omega, by rw [show n - 1 - r = n - (r + 1) by omega]; exact hw2.out⟩
      case measure => simp [intOf]
    · have HW2 := Lib.hid hw
      clear ho hw
      go_wp2
      go_ret
      exact ⟨rfl, HO.out, HW2.out⟩
theorem prefix_putLow {P : Nat → Prop} {w : World} {lo hi tp p : Nat} {l : List Nat} {st : Wst} (hT : Tb lo hi w tp l) (hW : Wr P w p st) (hP : ∀ b, lo ≤ b → b < hi → ¬ P b) (s : Nat) (hs : s < l.length) (h0 : 0 < l.getD s 0) (h20 : l.getD s 0 ≤ 20)
    (hx : (words l).getD s 0 < 4294967296) (hb : st.2 + l.getD s 0 ≤ 100000000) :
    Calls Try.prog 40 #[.pointer (some ⟨tp, 0, none⟩), .pointer (some ⟨p, 0, none⟩), .int .i64 (s : Nat)] w fun e w' =>
      e = .returned (.int .i64 0) ∧ Only P w w' ∧ Wr P w' p (addSym l st s) := by
  have HC := Lib.hid (prefix_put hT hW hP s _ hs rfl h0 h20 hx hb)
  have hmf : ∀ (fn : Fn) (first cap : Array Value) (w : World), (Instr.makeFunc fn first cap).run Try.prog w = .ok (.func fn first cap) w := fun _ _ _ _ => rfl
  have HD : Hid (addWord st ((words l).getD s 0) (l.getD s 0) (l.getD s 0) = addSym l st s) := rfl
  rw [HD.out] at HC
  clear hT hW hP h0 h20 hx hb
  go_enter Try.func40, Try.ntmps40
  go_wp2_with fail
  refine HC.out.mono ?_
  rintro e w2 ⟨rfl, ho, hw⟩
  have HO := Lib.hid ho
  have HW := Lib.hid hw
  clear ho hw HC
  go_wp2
  go_ret
  exact ⟨rfl, HO.out, HW.out⟩
theorem table_bits_no (w : World) (lo hi p : Nat) (l : List Nat) (s : Nat) (h : Tb lo hi w p l) (hs : l.length ≤ s) :
    Calls Try.prog 111 #[.pointer (some ⟨p, 0, none⟩), .int .i64 (s : Nat)] w fun e w' => e = .returned (.int .i64 0) ∧ w' = w := by
  obtain ⟨a1, c1, a2, c2, mb, nn, g1, g2, g3, g4, _⟩ := h
  have c0 : w.cell? ⟨p, 0, none⟩ = some (.slice a1 l.length c1) := by simp [World.cell?, g1]
  have t1 : decide (l.length ≤ s) = true := by simpa using hs
  clear g1 g2 g3 g4 hs
  go_enter Try.func111, Try.ntmps111
  go_wp2
  go_ret
  exact ⟨rfl, rfl⟩
/-- a symbol's word, if it has one -/
def addSymE (l : List Nat) (st : Wst) (s : Nat) : Wst := if l.getD s 0 = 0 then st else addSym l st s
theorem table_bits_all (w : World) (lo hi p : Nat) (l : List Nat) (s : Nat) (h : Tb lo hi w p l) (hx : ∀ x ∈ l, x ≤ 20) :
    Calls Try.prog 111 #[.pointer (some ⟨p, 0, none⟩), .int .i64 (s : Nat)] w fun e w' => e = .returned (.int .i64 (l.getD s 0 : Nat)) ∧ w' = w := by
  by_cases hs : s < l.length
  · exact table_bits w lo hi p l s h hs (by have := getD_le hx s; omega)
  · have h0 : l.getD s 0 = 0 := by simp [List.getD, List.getElem?_eq_none (show l.length ≤ s by omega)]
    rw [h0]
    exact table_bits_no w lo hi p l s h (by omega)
theorem prefix_putLow0 (w : World) (lo hi tp p : Nat) (l : List Nat) (s : Nat) (hT : Tb lo hi w tp l) (hx : ∀ x ∈ l, x ≤ 20) (h0 : l.getD s 0 = 0) :
    Calls Try.prog 40 #[.pointer (some ⟨tp, 0, none⟩), .pointer (some ⟨p, 0, none⟩), .int .i64 (s : Nat)] w fun e w' => e = .returned (.int .i64 5) ∧ w' = w := by
  have HB := Lib.hid (table_bits_all w lo hi tp l s hT hx)
  rw [h0] at HB
  have hmf : ∀ (fn : Fn) (first cap : Array Value) (w : World), (Instr.makeFunc fn first cap).run Try.prog w = .ok (.func fn first cap) w := fun _ _ _ _ => rfl
  clear hT hx h0
  go_enter Try.func40, Try.ntmps40
  go_wp2_with fail
  go_enter Try.func78, Try.ntmps78
  go_wp2_with fail
  refine HB.out.mono ?_
  rintro e w1 ⟨rfl, rfl⟩
  go_wp2
  go_ret
  go_wp2
/-- PutLow, whatever the symbol -/
theorem prefix_putLowE {P : Nat → Prop} {w : World} {lo hi tp p : Nat} {l : List Nat} {st : Wst} (hT : Tb lo hi w tp l) (hW : Wr P w p st) (hP : ∀ b, lo ≤ b → b < hi → ¬ P b) (h20 : ∀ x ∈ l, x ≤ 20) (hwt : weight l ≤ 2 ^ 20) (s : Nat) (hb : st.2 + 20 ≤ 100000000) :
    Calls Try.prog 40 #[.pointer (some ⟨tp, 0, none⟩), .pointer (some ⟨p, 0, none⟩), .int .i64 (s : Nat)] w fun e w' =>
      ∃ c : Nat, e = .returned (.int .i64 (c : Nat)) ∧ Only P w w' ∧ Wr P w' p (addSymE l st s) := by
  unfold addSymE
  by_cases h0 : l.getD s 0 = 0
  · rw [if_pos h0]
    refine (prefix_putLow0 w lo hi tp p l s hT h20 h0).mono ?_
    rintro e w' ⟨rfl, rfl⟩
    exact ⟨5, rfl, Only.refl _ _, hW⟩
  · rw [if_neg h0]
    have hs : s < l.length := by
      rcases Nat.lt_or_ge s l.length with h | h
      · exact h
      · exact absurd (by simp [List.getD, List.getElem?_eq_none h]) h0
    have hle := getD_le h20 s
    have hx : (words l).getD s 0 < 4294967296 := by
      have h1 := word_small l s hs h20 hwt
      have h2 : (words l).getD s 0 = word l s := by simp [List.getD, List.getElem?_eq_getElem (show s < (words l).length by rw [words_length]; exact hs), words_getElem]
      have h3 : word l s < 2 ^ l.getD s 0 := by
        rcases Nat.lt_or_ge (word l s) (2 ^ l.getD s 0) with h | h
        · exact h
        · have := Nat.div_pos h (Nat.pow_pos (by decide)); omega
      have h4 : 2 ^ l.getD s 0 ≤ 2 ^ 20 := Nat.pow_le_pow_right (by decide) hle
      omega
    refine (prefix_putLow hT hW hP s hs (by omega) hle hx (by omega)).mono ?_
    rintro e w' ⟨rfl, h1, h2⟩
    exact ⟨0, rfl, h1, h2⟩
theorem Wr.below {P : Nat → Prop} {w w' : World} {p : Nat} {s : Wst} (h : Wr P w p s) (hb : Below w.heap.size w w') : Wr P w' p s := by
  have hlt := h.lt
  obtain ⟨⟨a, c, h1, h2, h3, h4, h5⟩, h6⟩ := h
  exact ⟨⟨a, c, (hb.block p hlt).trans h1, h2.below hb, h3, h4, fun b hb' => h5 b (Nat.le_trans hb.size hb')⟩, h6⟩
theorem Wr.narrow {P : Nat → Prop} {w w' : World} {p : Nat} {s : Wst} (h : Wr P w p s) (hb : Below w.heap.size w w') : Wr (Sub P w.heap.size w'.heap.size) w' p s := by
  have hlt := h.lt
  obtain ⟨⟨a, c, h1, h2, h3, h4, h5⟩, h6⟩ := h
  have hz := hb.size
  refine ⟨⟨a, c, (hb.block p hlt).trans h1, h2.below hb, ⟨h3, by omega⟩, fun g hg => ⟨⟨(h4 g hg).1, ?_⟩, (h4 g hg).2⟩, fun b hb' => ⟨h5 b (by omega), by omega⟩⟩, h6⟩
  rcases h2.form with ⟨rfl, _, _⟩ | ⟨g', rfl, _, hg'⟩
  · cases hg
  · cases hg; omega
theorem Wr.widen {P : Nat → Prop} {lo hi : Nat} {w : World} {p : Nat} {s : Wst} (h : Wr (Sub P lo hi) w p s) : Wr P w p s := by
  obtain ⟨⟨a, c, h1, h2, h3, h4, h5⟩, h6⟩ := h
  exact ⟨⟨a, c, h1, h2, h3.1, fun g hg => ⟨(h4 g hg).1.1, (h4 g hg).2⟩, fun b hb => (h5 b hb).1⟩, h6⟩
theorem addSymE_len {l : List Nat} (h : ∀ x ∈ l, x ≤ 20) (st : Wst) (s : Nat) : (addSymE l st s).2 ≤ st.2 + 20 := by
  unfold addSymE
  split
  · omega
  · unfold addSym
    rw [addWord_len]
    have := getD_le h s
    omega
end Go.Proofs.Ytmgoeokdlklabaa
