/- The reference of layer 1: rows of bits: contracts of Bits, Number, Of, Get. The reference of layers 4, 6: words as rows of bits: contracts of Bits, Rows, begins, Get. -/
import Derived.Test.YtmgoeokdlklabaaGen
import Derived.Test.YtmgoeokdlklabaaChecked
import Derived.Test.YtmgoeokdlklabaaPart
import Derived.Test.YtmgoeokdlklabaaLibS
import Derived.Test.YtmgoeokdlklabaaM10
import Derived.Test.YtmgoeokdlklabaaHdr
import Derived.Test.YtmgoeokdlklabaaRef04
import Derived.Deep.RegionLaw
namespace Go.Proofs.Ytmgoeokdlklabaa
open Go.RowKit M01 M10
set_option linter.unusedVariables false

/-! ### plain -/
def numL (l : List Nat) : Nat := l.foldr (fun b v => 2 * v + b) 0
theorem numL_lt : ∀ l : List Nat, (∀ x ∈ l, x < 2) → numL l < 2 ^ l.length
  | [], _ => by simp [numL]
  | b :: l, h => by
    have ih := numL_lt l (fun x hx => h x (by simp [hx]))
    have hb := h b (by simp)
    simp only [numL, List.foldr_cons, List.length_cons, Nat.pow_succ] at *
    omega
theorem numL_snoc (l : List Nat) (b : Nat) : numL (l ++ [b]) = numL l + b * 2 ^ l.length := by
  induction l with
  | nil => simp [numL]
  | cons x l ih =>
    simp only [numL, List.cons_append, List.foldr_cons, List.length_cons, Nat.pow_succ] at *
    rw [ih]
    rw [Nat.mul_add, ← Nat.mul_assoc, ← Nat.mul_assoc, Nat.mul_comm 2 b, Nat.mul_right_comm b 2]; omega
/-- the bits of bytes -/
def bitL (bs : List Nat) : List Nat := (List.range (8 * bs.length)).map (bit bs)
theorem bitL_len (bs : List Nat) : (bitL bs).length = 8 * bs.length := by simp [bitL]
theorem bitL_lt (bs : List Nat) : ∀ x ∈ bitL bs, x < 2 := by
  intro x hx
  simp only [bitL, List.mem_map] at hx
  obtain ⟨i, _, rfl⟩ := hx
  exact bit_lt _ _
theorem bitL_sub (bs : List Nat) (at_ n : Nat) (h : at_ + n ≤ 8 * bs.length) : ((bitL bs).drop at_).take n = (List.range n).map fun j => bit bs (at_ + j) := by
  apply List.ext_getElem?
  intro i
  rw [List.getElem?_take, List.getElem?_map]
  by_cases hi : i < n
  · rw [if_pos hi, List.getElem?_drop, List.getElem?_range hi]
    simp only [bitL, List.getElem?_map, Option.map_some]
    rw [List.getElem?_range (by omega)]; rfl
  · rw [if_neg hi]
    rw [List.getElem?_eq_none (by simp; omega)]; rfl
theorem numL_num (bs : List Nat) (at_ n : Nat) : numL ((List.range n).map fun j => bit bs (at_ + j)) = num bs at_ n := by
  induction n with
  | zero => rfl
  | succ n ih =>
    rw [List.range_succ, List.map_append, List.map_cons, List.map_nil, numL_snoc, ih]
    simp [num]
theorem numL_sub (bs : List Nat) (at_ n : Nat) (h : at_ + n ≤ 8 * bs.length) : numL (((bitL bs).drop at_).take n) = num bs at_ n := by rw [bitL_sub bs at_ n h, numL_num]
/-- bits of a number, the least first -/
def bitsN (v n : Nat) : List Nat := (List.range n).map fun j => v / 2 ^ j % 2
theorem bitL_snoc (bs : List Nat) (x : Nat) : bitL (bs ++ [x]) = bitL bs ++ bitsN x 8 := by
  unfold bitL bitsN
  rw [List.length_append, List.length_singleton, Nat.mul_add, List.range_add, List.map_append, List.map_map]
  congr 1
  · apply List.map_congr_left
    intro i hi
    simp only [List.mem_range] at hi
    unfold bit
    rw [List.getD_eq_getElem?_getD, List.getD_eq_getElem?_getD, List.getElem?_append_left (by omega)]
  · apply List.map_congr_left
    intro i hi
    simp only [List.mem_range] at hi
    simp only [Function.comp]
    unfold bit
    rw [List.getD_eq_getElem?_getD, List.getElem?_append_right (by omega), show (8 * bs.length + i) / 8 - bs.length = 0 by omega, show (8 * bs.length + i) % 8 = i by omega]
    simp

/-! ### rows -/
def encB : Enc Nat := ⟨1, fun n => [.bool (n == 1)], fun _ => rfl, fun _ u hu => by simp at hu; subst hu; rfl, by decide⟩
theorem bool_elems : ElemS Try.prog 38 4 encB (.bool false) 1 := ⟨Try.underlying38, by kernel_rfl, by kernel_rfl⟩
theorem flatB (l : List Nat) : flat encB l = l.map fun n => Value.bool (n == 1) := by
  induction l with
  | nil => rfl
  | cons a l ih => simp only [flat, List.flatMap_cons, List.map_cons, encB] at *; rw [ih]; rfl
abbrev OwnB (w : World) (base : Nat) (a : Option Addr) (cap : Nat) (l : List Nat) : Prop := OwnS encB 4 w base a cap l
abbrev RowB (w : World) (a : Option Addr) (cap : Nat) (l : List Nat) : Prop := RowS encB w a cap l
theorem RowS.atB {w : World} {a : Option Addr} {cap : Nat} {l : List Nat} (h : RowB w a cap l) {i : Nat} (hi : i < l.length) :
    ∃ b off, a = some ⟨b, off, none⟩ ∧ b < w.heap.size ∧ w.cell? ⟨b, off + i, none⟩ = some (.bool (l[i] == 1)) := by
  obtain ⟨b, off, ha, hb, hc⟩ := h.at hi
  exact ⟨b, off, ha, hb, by simpa [encB] using hc 0 (.bool (l[i] == 1)) (by simp [encB])⟩
theorem RowS.subB {w : World} {b off cap : Nat} {l : List Nat} (h : RowB w (some ⟨b, off, none⟩) cap l) (i n : Nat) (hi : i + n ≤ l.length) : RowB w (some ⟨b, off + i, none⟩) (cap - i) ((l.drop i).take n) := by
  obtain ⟨h1, ⟨h2, _⟩, h3⟩ := h
  refine ⟨by simp; omega, ⟨by omega, by simp⟩, ?_⟩
  rcases h3 with rfl | ⟨b', off', he, hb, hc⟩
  · left; simp
  · right
    simp only [Option.some.injEq, Addr.mk.injEq, and_true] at he
    obtain ⟨rfl, rfl⟩ := he
    refine ⟨b, off + i, rfl, hb, fun j v hv => ?_⟩
    rw [Nat.add_assoc]
    refine hc (i + j) v ?_
    rw [flatB] at hv ⊢
    rw [List.getElem?_map, List.getElem?_take] at hv
    rw [List.getElem?_map]
    split at hv
    · rw [List.getElem?_drop] at hv; exact hv
    · simp at hv
theorem OwnS.storedB {w : World} {base g cap : Nat} {l : List Nat} (h : OwnB w base (some ⟨g, 0, none⟩) cap l) (i x : Nat) : OwnB (w.setCell ⟨g, i, none⟩ (.bool (x == 1))) base (some ⟨g, 0, none⟩) cap (l.set i x) := by
  have h1 := (World.ownsRow.stored h i (.bool (x == 1))).1
  unfold OwnB OwnS at *
  rw [List.length_set, flatB, List.map_set]
  rw [flatB] at h1
  exact h1
theorem OwnS.atB {w : World} {base g cap : Nat} {l : List Nat} (h : OwnB w base (some ⟨g, 0, none⟩) cap l) {i : Nat} (hi : i < l.length) :
    (∃ v, w.cell? ⟨g, i, none⟩ = some v) ∧ w.frozen? ⟨g, i, none⟩ = false := by
  have hc := World.ownsRow.cellAt h i (by simpa [encB] using hi)
  rw [flatB, List.getElem?_map, List.getElem?_eq_getElem hi, Option.map_some] at hc
  exact ⟨⟨_, hc⟩, World.ownsRow.frozenAt h i⟩
theorem makeB {P : Program} {T : TypeId} {bytes : Nat} (et : ElemS P T 4 encB (.bool false) bytes) {w : World} {ops : Array Oper} {rest : List Oper} {o : Oper} {a : Act} {Q : Exit → Act → World → Prop}
    (hg : o.guard = none) (lo c : Operand) (hop : o.op = Op.makeSlice T lo c) (base : Nat) {kl kc : IntKind} {n : Nat} (hl : a.eval lo = .int kl n) (hc : a.eval c = .int kc n)
    (hb : bytes * n ≤ 281474976710656) (hn : n ≤ 9223372036854775807) (hbase : base ≤ w.heap.size)
    (hK : ∀ w', OwnB w' base (some ⟨w.heap.size, 0, none⟩) n (List.replicate n 0) → w.grownBy w' none → wpList P ops Q rest (a.put o.dst (.slice (some ⟨w.heap.size, 0, none⟩) n n)) w') :
    wpList P ops Q (o :: rest) a w := by
  obtain ⟨i, h2, h3, h4, h5⟩ := info_parts et.info
  refine wpList_plain (by assumption) fun K hK' => ?_
  obtain ⟨w', hrun, r1, r2⟩ := run_make_full (P := P) w base T 4 i (.bool false) 1 et.und h2 h3 h4 kl kc n (by rw [h5]; exact hb) (by simpa [maxLen] using hn) hbase
  unfold Oper.wp
  simp [execOp, hop, hl, hc, hrun, Result.andThen]
  refine hK' _ _ (hK w' ?_ r2)
  unfold OwnB OwnS
  have hm : (madeCells (Value.bool false).cells (n * 1)).toList = flat encB (List.replicate n 0) := by
    rw [Nat.mul_one]; show (madeCells #[.bool false] n).toList = _; rw [toList_madeCells_one, flatB]; simp
  rw [List.length_replicate, ← hm]
  exact r1
theorem partB_put {A : World} {base g n k : Nat} {f : Nat → Nat} (h : OwnB A base (some ⟨g, 0, none⟩) n (partL f n k)) (hk : k < n) : OwnB (A.setCell ⟨g, k, none⟩ (.bool (f k == 1))) base (some ⟨g, 0, none⟩) n (partL f n (k + 1)) := by
  rw [← partL_succ f n k hk]
  exact OwnS.storedB h _ _
theorem partL_full (f : Nat → Nat) (n : Nat) : partL f n n = (List.range n).map f := by
  unfold partL
  apply List.map_congr_left
  intro i hi
  simp only [List.mem_range] at hi
  rw [if_pos hi]

/-! ### walks -/
set_option maxRecDepth 100000 in
set_option maxHeartbeats 800000 in
theorem ref01_bits (v n : Nat) (w : World) (hv : v < 4294967296) (hn : n ≤ 32) :
    Calls Try.prog 51 #[.int .u32 (v : Nat), .int .i64 (n : Nat)] w fun e w' => ∃ g, e = .returned (.slice (some ⟨g, 0, none⟩) n n) ∧ OwnB w' w.heap.size (some ⟨g, 0, none⟩) n (bitsN v n) ∧ Below w.heap.size w w' := by
  go_enter Try.func51, Try.ntmps51
  go_wp2_with (first | (at_make; refine makeB (n := n) bool_elems rfl _ _ rfl w.heap.size rfl rfl (by omega) (by omega) (Nat.le_refl _) ?_; intro w1 hown1 hg1))
  have HB0 := Lib.hid (Below.of_grown hg1 (Nat.le_refl _) (fun k e => by cases e))
  obtain ⟨g1, hg⟩ : ∃ g1, w.heap.size = g1 := ⟨_, rfl⟩
  rw [← partL_zero (fun j => v / 2 ^ j % 2) n] at hown1
  have HO := Lib.hid hown1
  clear hg1 hown1
  simp only [hg]
  rw [hg] at HO
  have HG1 := Lib.hid hg
  clear hg
  go_loopw [0, 6] (fun x i A => ∃ k : Nat, k ≤ n ∧ i = .int .i64 k ∧ x = .int .u32 (v / 2 ^ k : Nat) ∧ OwnB A g1 (some ⟨g1, 0, none⟩) n (partL (fun j => v / 2 ^ j % 2) n k) ∧ Below w.heap.size w A) (fun x i _ => n - (intOf i).toNat)
  case atStart => exact ⟨0, by omega, rfl, by simp, HO.out, HB0.out⟩
  case round =>
    clear HO HB0
    obtain ⟨k, hk, rfl, rfl, ho, hb⟩ := hrel
    have HO := Lib.hid ho
    have HB := Lib.hid hb
    clear ho hb
    by_cases hlt : k < n
    · have t0 : decide ((k : Nat) < n) = true := by simp; omega
      obtain ⟨⟨u, f1⟩, f2⟩ := OwnS.atB HO.out (i := k) (by rw [partL_len]; exact hlt)
      have HS := Lib.hid (partB_put HO.out hlt)
      have HBS := Lib.hid (HB.out.setCell (p := ⟨g1, k, none⟩) (by show w.heap.size ≤ g1; have := HG1.out; omega) (.bool (v / 2 ^ k % 2 == 1)))
      obtain ⟨x, hx⟩ : ∃ x, v / 2 ^ k = x := ⟨_, rfl⟩
      have hx2 : x < 4294967296 := by have := Nat.div_le_self v (2 ^ k); omega
      have HX2 : Hid (v / 2 ^ (k + 1) = x / 2) := by unfold Hid; rw [Nat.pow_succ, ← Nat.div_div_eq_div_mul, hx]
      have HE : Hid ((((x : Nat) : Int) % 2 == 1) = (x % 2 == 1)) := by
        unfold Hid
        have : x % 2 = 0 ∨ x % 2 = 1 := by omega
        rcases this with h | h
        · rw [h, show ((x : Nat) : Int) % 2 = 0 by omega]; rfl
        · rw [h, show ((x : Nat) : Int) % 2 = 1 by omega]; rfl
      simp only [hx] at HS HBS ⊢
      clear hx HO HB
      go_wp2
      go_roundw
      case rel => exact ⟨k + 1, by omega, by go_num, by rw [HX2.out]; exact int_eq (by omega), by rw [HE.out]; exact HS.out, by rw [HE.out]; exact HBS.out⟩
      case measure => simp [intOf]; omega
    · obtain rfl : k = n := by omega
      go_wp2
      go_ret
      exact ⟨g1, rfl, by rw [HG1.out]; have := HO.out; rw [partL_full] at this; exact this, HB.out⟩

set_option maxRecDepth 100000 in
set_option maxHeartbeats 800000 in
theorem ref01_number (a : Option Addr) (c : Nat) (l : List Nat) (w : World) (hr : RowB w a c l) (hl : l.length ≤ 32) (hb : ∀ x ∈ l, x < 2) :
    Calls Try.prog 80 #[.slice a l.length c] w fun e w' => e = .returned (.int .u32 (numL l : Nat)) ∧ w' = w := by
  have HR := Lib.hid hr
  have HB := Lib.hid hb
  clear hr hb
  go_enter Try.func80, Try.ntmps80
  go_wp2
  go_loopw [3, 4] (fun x i A => ∃ k : Nat, k ≤ l.length ∧ i = .int .i64 k ∧ x = .int .u32 (numL (l.drop (l.length - k)) : Nat) ∧ A = w) (fun x i _ => l.length - (intOf i).toNat)
  case atStart => exact ⟨0, by omega, rfl, by simp [numL], rfl⟩
  case round =>
    obtain ⟨k, hk, rfl, rfl, rfl⟩ := hrel
    by_cases hlt : k < l.length
    · obtain ⟨m, hm⟩ : ∃ m, l.length - 1 - k = m := ⟨_, rfl⟩
      have hml : m < l.length := by omega
      have hmi : (l.length : Int) - 1 - (k : Int) = (m : Int) := by omega
      obtain ⟨b, off, rfl, hbs, hc⟩ := HR.out.atB hml
      have hd : l.drop m = l[m] :: l.drop (m + 1) := by rw [List.drop_eq_getElem_cons hml]
      have hx := numL_lt (l.drop (m + 1)) (fun x hx => HB.out x (List.mem_of_mem_drop hx))
      rw [List.length_drop] at hx
      have hx3 : (2 : Nat) ^ (l.length - (m + 1)) ≤ 2 ^ 31 := Nat.pow_le_pow_right (by decide) (by omega)
      have HN : Hid (numL (l.drop (l.length - (k + 1))) = 2 * numL (l.drop (m + 1)) + l[m]) := by
        unfold Hid
        rw [show l.length - (k + 1) = m by omega, hd]; rfl
      have hkm : l.length - k = m + 1 := by omega
      rw [hkm]
      have hv2 := HB.out l[m] (List.getElem_mem hml)
      obtain ⟨y, hy⟩ : ∃ y, l[m] = y := ⟨_, rfl⟩
      rw [hy] at hc HN hv2
      generalize numL (l.drop (m + 1)) = x at *
      have hx4 : x < 2147483648 := by omega
      have t0 : decide ((k : Nat) < l.length) = true := by simp; omega
      replace hm := Lib.hid hm
      replace hkm := Lib.hid hkm
      clear hx hx3 hd hy hlt
      rcases (show y = 0 ∨ y = 1 by omega) with rfl | rfl
      · rw [show ((0 : Nat) == 1) = false from rfl] at hc
        go_wp2
        go_roundw
        case rel => exact ⟨k + 1, by omega, by go_num, by rw [HN.out]; exact int_eq (by omega), by trivial⟩
        case measure => simp [intOf]; omega
      · rw [show ((1 : Nat) == 1) = true from rfl] at hc
        go_wp2
        go_roundw
        case rel => exact ⟨k + 1, by omega, by go_num, by rw [HN.out]; exact int_eq (by omega), by trivial⟩
        case measure => simp [intOf]; omega
    · obtain rfl : k = l.length := by omega
      rw [Nat.sub_self, List.drop_zero]
      go_wp2
      go_ret
      exact ⟨rfl, rfl⟩

set_option maxRecDepth 100000 in
set_option maxHeartbeats 800000 in
theorem ref01_of (a : Option Addr) (cap : Nat) (bs : List Nat) (w : World) (hr : RowN .u8 w a cap bs) (hb : ∀ x ∈ bs, x < 256) (hl : bs.length ≤ 1000) :
    Calls Try.prog 19 #[.slice a bs.length cap] w fun e w' => ∃ g c, e = .returned (.slice g (bitL bs).length c) ∧ OwnB w' w.heap.size g c (bitL bs) ∧ Below w.heap.size w w' := by
  have HR := Lib.hid hr
  have HB := Lib.hid hb
  clear hr hb
  obtain ⟨q, hq⟩ : ∃ q, w.heap.size = q := ⟨_, rfl⟩
  rw [hq]
  have HQ := Lib.hid hq
  go_enter Try.func19, Try.ntmps19
  go_wp2
  go_loopw [3, 4] (fun x i A => ∃ (k : Nat) (o : List Nat) (g : Option Addr) (c : Nat), k ≤ bs.length ∧ i = .int .i64 k ∧ x = .slice g o.length c ∧ o = bitL (bs.take k) ∧ OwnB A q g c o ∧ Below q w A) (fun x i _ => bs.length - (intOf i).toNat)
  case atStart => exact ⟨0, [], none, 0, by omega, rfl, rfl, by simp [bitL], OwnS.nil _ _ _ _, Below.refl _ _⟩
  case round =>
    clear hq
    obtain ⟨k, o, g, c, hk, rfl, rfl, ho, hown, hbe⟩ := hrel
    have HO := Lib.hid hown
    have HE := Lib.hid hbe
    have HOB := Lib.hid ho
    have hol : o.length = 8 * k := by rw [ho, bitL_len, List.length_take, Nat.min_eq_left hk]
    have hol2 : o.length ≤ 8000 := by omega
    replace hol := Lib.hid hol
    clear ho hown hbe
    by_cases hlt : k < bs.length
    · obtain ⟨b, off, rfl, hbs, hc⟩ := (HR.out.below (HQ.out ▸ HE.out)).at hlt
      have hv := HB.out bs[k] (List.getElem_mem hlt)
      have HT : Hid (bs.take (k + 1) = bs.take k ++ [bs[k]]) := M04.take_snoc bs k hlt
      generalize bs[k] = v at *
      have hwr : q ≤ wr.heap.size := by have := HE.out.size; have := HQ.out; omega
      have HBI := Lib.hid (ref01_bits v 8 wr (by omega) (by omega))
      have HWR := Lib.hid hwr
      have hbl : 8 = (bitsN v 8).length := by simp [bitsN]
      have HBL := Lib.hid hbl
      clear hwr hbl
      go_wp2_with fail
      refine HBI.out.mono ?_
      rintro e w3 ⟨g3, rfl, ho3, hb3⟩
      have HO3 := Lib.hid (HO.out.below hb3)
      have HR3 := Lib.hid ho3.row
      have HE3 := Lib.hid (HE.out.trans (hb3.mono HWR.out))
      have HW3 : Hid (q ≤ w3.heap.size) := by unfold Hid; have := hb3.size; have := HWR.out; omega
      clear HO HE HBI ho3 hb3
      go_wp2_with (at_builtin; refine appAnyS bool_elems rfl (.tmp 11) (.tmp 17) rfl rfl HO3.out HBL.out rfl HR3.out (by omega) (by omega) HW3.out ?_; intro a7 cap7 w7 hown7 hg7 hb7; replace hown7 := Lib.hid hown7; replace hb7 := Lib.hid (HE3.out.trans hb7); clear hg7)
      go_wp2
      go_roundw
      case rel => exact ⟨k + 1, o ++ bitsN v 8, a7, cap7, by omega, by go_num, by rw [List.length_append, ← HBL.out], by rw [HT.out, bitL_snoc, ← HOB.out], hown7.out, hb7.out⟩
      case measure => simp [intOf]; omega
    · obtain rfl : k = bs.length := by omega
      go_wp2
      go_ret
      have h1 := HOB.out
      rw [List.take_length] at h1
      subst h1
      exact ⟨g, c, rfl, HO.out, HE.out⟩

set_option maxRecDepth 100000 in
set_option maxHeartbeats 800000 in
theorem ref01_get (a : Option Addr) (cap : Nat) (bs : List Nat) (at_ n : Nat) (w : World) (hr : RowB w a cap (bitL bs)) (hl : bs.length ≤ 1000) (ha : at_ ≤ 8 * bs.length) (hn : n ≤ 32) :
    Calls Try.prog 44 #[.slice a (bitL bs).length cap, .int .i64 (at_ : Nat), .int .i64 (n : Nat)] w fun e w' =>
      e = .returned (if at_ + n ≤ 8 * bs.length then .tuple #[.int .u32 (num bs at_ n : Nat), .int .i64 ((at_ + n : Nat) : Int), .int .i64 0] else .tuple #[.int .u32 0, .int .i64 (at_ : Nat), .int .i64 2]) ∧ w' = w := by
  have HR := Lib.hid hr
  have HL := Lib.hid (bitL_len bs)
  have HS := Lib.hid (fun h => bitL_sub bs at_ n h)
  have HNS := Lib.hid (fun h => numL_sub bs at_ n h)
  have HBL := Lib.hid (bitL_lt bs)
  have hll : (bitL bs).length = 8 * bs.length := bitL_len bs
  generalize bitL bs = L at *
  clear hr
  have t0 : decide ((n : Int) < 0) = false := by simp
  have t1 : decide ((32 : Int) < (n : Int)) = false := by simp; omega
  go_enter Try.func44, Try.ntmps44
  by_cases hfit : at_ + n ≤ 8 * bs.length
  · have t2 : decide ((L.length : Int) - (at_ : Int) < (n : Int)) = false := by simp; omega
    have hfit2 : at_ + n ≤ L.length := by omega
    simp only [if_pos hfit]
    have hcap := HR.out.1
    have hcap2 := HR.out.2.1.1
    have HLL := Lib.hid hll
    have hln : ((L.drop at_).take n).length = n := by rw [List.length_take, List.length_drop]; omega
    have h32 : L.length ≤ 8000 := by omega
    cases a with
    | none =>
      obtain rfl : cap = 0 := HR.out.2.1.2 rfl
      obtain rfl : at_ = 0 := by omega
      obtain rfl : n = 0 := by omega
      have hL0 : L = [] := List.eq_nil_of_length_eq_zero (by omega)
      subst hL0
      have HN := Lib.hid (ref01_number none 0 [] w (RowS.nil _ _) (by decide) (by simp))
      clear hll hln hfit hfit2
      go_wp2_with fail
      refine HN.out.mono ?_
      rintro e w3 ⟨rfl, rfl⟩
      go_wp2
      go_ret3
      exact ⟨rfl, rfl⟩
    | some ad =>
      obtain ⟨b, off, p⟩ := ad
      by_cases hn0 : n = 0
      · subst hn0
        have HN := Lib.hid (fun (x : Addr) (c : Nat) (hc : c ≤ 9223372036854775807) => ref01_number (some x) c [] w ⟨by simp, ⟨hc, by simp⟩, .inl rfl⟩ (by decide) (by simp))
        by_cases hac : at_ = cap
        · subst hac
          clear hll hln hfit
          go_wp2_with fail
          refine (HN.out _ _ (by omega)).mono ?_
          rintro e w3 ⟨rfl, rfl⟩
          go_wp2
          go_ret3
          exact ⟨rfl, rfl⟩
        · clear hll hln hfit
          go_wp2_with fail
          refine (HN.out _ _ (by omega)).mono ?_
          rintro e w3 ⟨rfl, rfl⟩
          go_wp2
          go_ret3
          exact ⟨rfl, rfl⟩
      · obtain rfl : p = none := by
          rcases HR.out.2.2 with h | ⟨b', off', he, _⟩
          · rw [h] at hfit2; simp at hfit2; omega
          · simp only [Option.some.injEq, Addr.mk.injEq] at he; exact he.2.2
        have hac : at_ ≠ cap := by omega
        have HSB := Lib.hid (HR.out.subB at_ n hfit2)
        have HN := Lib.hid (fun (x : Nat) (hx : x = n) => by
          have := ref01_number (some ⟨b, off + at_, none⟩) (cap - at_) ((L.drop at_).take n) w HSB.out (by omega) (fun y hy => HBL.out y (List.mem_of_mem_drop (List.mem_of_mem_take hy)))
          rwa [hln, HNS.out hfit, ← hx] at this)
        clear hll hln hfit
        go_wp2_with fail
        refine (HN.out _ rfl).mono ?_
        rintro e w3 ⟨rfl, rfl⟩
        go_wp2
        go_ret3
        exact ⟨rfl, rfl⟩
  · have t2 : decide ((L.length : Int) - (at_ : Int) < (n : Int)) = true := by simp; omega
    simp only [if_neg hfit]
    have hfit2 : L.length < at_ + n := by omega
    clear hfit hll
    go_wp2_with fail
    go_ret3
    exact ⟨rfl, rfl⟩
end Go.Proofs.Ytmgoeokdlklabaa

namespace Go.Proofs.Ytmgoeokdlklabaa
open Go.RowKit M01 M04 M10
set_option linter.unusedVariables false

/-! ### plain -/
/-- bits of a word, the first one first -/
def msbL (x n : Nat) : List Nat := (List.range n).map fun j => x / 2 ^ (n - 1 - j) % 2
theorem msbL_len (x n : Nat) : (msbL x n).length = n := by simp [msbL]
theorem msbL_lt (x n : Nat) : ∀ b ∈ msbL x n, b < 2 := by
  intro b hb
  simp only [msbL, List.mem_map] at hb
  obtain ⟨j, _, rfl⟩ := hb
  exact Nat.mod_lt _ (by decide)
theorem msbL_at (x n j : Nat) (hj : j < n) : (msbL x n)[j]'(by rw [msbL_len]; exact hj) = x / 2 ^ (n - 1 - j) % 2 := by simp [msbL]
theorem msbL_succ (x n : Nat) : msbL x (n + 1) = msbL (x / 2) n ++ [x % 2] := by
  unfold msbL
  rw [List.range_succ, List.map_append, List.map_cons, List.map_nil]
  congr 1
  · apply List.map_congr_left
    intro j hj
    simp only [List.mem_range] at hj
    rw [show n + 1 - 1 - j = (n - 1 - j) + 1 by omega, Nat.pow_succ, Nat.mul_comm, ← Nat.div_div_eq_div_mul]
  · simp
theorem msbL_take (x n k : Nat) (hk : k ≤ n) : (msbL x n).take k = msbL (x / 2 ^ (n - k)) k := by
  apply List.ext_getElem (by simp [msbL_len]; omega)
  intro j h1 h2
  rw [msbL_len] at h2
  rw [List.getElem_take, msbL_at _ _ _ (by omega), msbL_at _ _ _ h2, Nat.div_div_eq_div_mul, ← Nat.pow_add]
  congr 3
  omega
theorem msbL_inj : ∀ (n x y : Nat), x < 2 ^ n → y < 2 ^ n → msbL x n = msbL y n → x = y := by
  intro n
  induction n with
  | zero => intro x y hx hy _; simp at hx hy; omega
  | succ n ih =>
    intro x y hx hy h
    rw [msbL_succ, msbL_succ] at h
    obtain ⟨h1, h2⟩ := List.append_inj' h rfl
    have := ih (x / 2) (y / 2) (by rw [Nat.pow_succ] at hx; omega) (by rw [Nat.pow_succ] at hy; omega) h1
    simp at h2
    omega

/-! ### what a table holds -/
def hitF (l : List Nat) (x n j : Nat) : Prop := 0 < l.getD j 0 ∧ n ≤ l.getD j 0 ∧ word l j / 2 ^ (l.getD j 0 - n) = x
instance (l : List Nat) (x n j : Nat) : Decidable (hitF l x n j) := by unfold hitF; infer_instance
theorem tabK_eq (x n : Nat) (F : M06.TF) (x' k' : Nat) : ∀ k, M06.tabK x n F k x' k' = if k' < k ∧ x' = x / 2 ^ (n - k') then some (-1) else F x' k' := by
  intro k
  induction k with
  | zero => simp [M06.tabK]
  | succ k ih =>
    unfold M06.tabK M06.putF
    rw [ih]
    by_cases h : x' = x / 2 ^ (n - k) ∧ k' = k
    · rw [if_pos h, if_pos (by obtain ⟨h1, rfl⟩ := h; exact ⟨by omega, h1⟩)]
    · rw [if_neg h]
      by_cases h2 : k' < k ∧ x' = x / 2 ^ (n - k')
      · rw [if_pos h2, if_pos ⟨by omega, h2.2⟩]
      · rw [if_neg h2, if_neg]
        rintro ⟨h3, h4⟩
        by_cases e : k' = k
        · subst e; exact h ⟨h4, rfl⟩
        · exact h2 ⟨by omega, h4⟩
theorem tabI_eq (l : List Nat) (i x n : Nat) (hi : i < l.length) : M06.tabI l (words l) (i + 1) x n =
    if n < l.getD i 0 ∧ x = word l i / 2 ^ (l.getD i 0 - n) then some (-1) else if x = word l i ∧ n = l.getD i 0 ∧ 0 < l.getD i 0 then some (i : Int) else M06.tabI l (words l) i x n := by
  have hw : (words l).getD i 0 = word l i := by rw [List.getD_eq_getElem?_getD, List.getElem?_eq_getElem (by rw [words_length]; exact hi), Option.getD_some, words_getElem]
  rw [M06.tabI]
  by_cases h0 : l.getD i 0 = 0
  · rw [if_pos h0, if_neg (by omega), if_neg (by omega)]
  · rw [if_neg h0, tabK_eq, hw]
    unfold M06.putF
    by_cases h : n < l.getD i 0 ∧ x = word l i / 2 ^ (l.getD i 0 - n)
    · rw [if_pos h, if_pos h]
    · rw [if_neg h, if_neg h]
      by_cases h2 : x = word l i ∧ n = l.getD i 0
      · rw [if_pos h2, if_pos ⟨h2.1, h2.2, by omega⟩]
      · rw [if_neg h2, if_neg (fun h3 => h2 ⟨h3.1, h3.2.1⟩)]
theorem tab_full (l : List Nat) (h20 : ∀ x ∈ l, x ≤ 20) (x n : Nat) : ∀ i, i ≤ l.length →
    (∀ j, j < i → hitF l x n j → M06.tabI l (words l) i x n = if n = l.getD j 0 then some (j : Int) else some (-1)) ∧ ((∀ j, j < i → ¬ hitF l x n j) → M06.tabI l (words l) i x n = none) := by
  intro i
  induction i with
  | zero => intro _; exact ⟨fun j hj => by omega, fun _ => rfl⟩
  | succ i ih =>
    intro hi
    obtain ⟨ih1, ih2⟩ := ih (by omega)
    rw [tabI_eq l i x n hi]
    refine ⟨fun j hj hh => ?_, fun hn => ?_⟩
    · obtain ⟨h1, h2, h3⟩ := hh
      by_cases e : j = i
      · subst e
        by_cases hlt : n < l.getD j 0
        · rw [if_pos ⟨hlt, h3.symm⟩, if_neg (by omega)]
        · have hn : n = l.getD j 0 := by omega
          rw [if_neg (by omega), if_pos hn, if_pos ⟨by rw [← h3, hn, Nat.sub_self, Nat.pow_zero, Nat.div_one], hn, h1⟩]
      · by_cases hc1 : n < l.getD i 0 ∧ x = word l i / 2 ^ (l.getD i 0 - n)
        · rw [if_pos hc1, if_neg]
          intro hn
          have := word_apart l j i (by omega) hi h20 (by omega) (by omega) (by omega)
          rw [← hn, ← hc1.2] at this
          rw [← hn, Nat.sub_self] at h3
          simp at h3
          exact this h3.symm
        · rw [if_neg hc1, if_neg]
          · exact ih1 j (by omega) ⟨h1, h2, h3⟩
          · rintro ⟨h4, h5, h6⟩
            have := word_apart l i j hi (by omega) h20 (by omega) (by omega) (by omega)
            rw [← h5, h3] at this
            exact this h4
    · rw [if_neg (fun h => hn i (by omega) ⟨by omega, by omega, h.2.symm⟩), if_neg (fun h => hn i (by omega) ⟨h.2.2, by omega, by rw [h.2.1, Nat.sub_self]; simp [h.1]⟩)]
      exact ih2 fun j hj => hn j (by omega)
theorem tabOf_hit (l : List Nat) (h20 : ∀ x ∈ l, x ≤ 20) (x n j : Nat) (hj : j < l.length) (h : hitF l x n j) : tabOf l x n = if n = l.getD j 0 then some (j : Int) else some (-1) :=
  (tab_full l h20 x n _ (Nat.le_refl _)).1 j hj h
theorem tabOf_none (l : List Nat) (h20 : ∀ x ∈ l, x ≤ 20) (x n : Nat) (h : ∀ j, j < l.length → ¬ hitF l x n j) : tabOf l x n = none :=
  (tab_full l h20 x n _ (Nat.le_refl _)).2 h
theorem decF_hit (l bs : List Nat) (h20 : ∀ x ∈ l, x ≤ 20) (f x n at_ j : Nat) (hj : j < l.length) (h : hitF l x n j) (hn : n = l.getD j 0) : decF (tabOf l) bs (f + 1) x n at_ = some (j, at_) := by
  unfold decF
  rw [tabOf_hit l h20 x n j hj h, if_pos hn]
  simp
theorem decF_none (l bs : List Nat) (h20 : ∀ x ∈ l, x ≤ 20) (f x n at_ : Nat) (h : ∀ j, j < l.length → ¬ hitF l x n j) : decF (tabOf l) bs (f + 1) x n at_ = none := by
  unfold decF
  rw [tabOf_none l h20 x n h]
theorem decF_on (l bs : List Nat) (h20 : ∀ x ∈ l, x ≤ 20) (f x n at_ j : Nat) (hj : j < l.length) (h : hitF l x n j) (hn : n ≠ l.getD j 0) : decF (tabOf l) bs (f + 1) x n at_ = if at_ + 1 ≤ 8 * bs.length then decF (tabOf l) bs f (2 * x + bit bs at_) (n + 1) (at_ + 1) else none := by
  rw [decF, tabOf_hit l h20 x n j hj h, if_neg hn]
  rfl
theorem begins_hit (l : List Nat) (x n j : Nat) (hj : j < l.length) (h20 : ∀ x ∈ l, x ≤ 20) (hw : weight l ≤ 2 ^ 20) (h0 : 0 < l.getD j 0) (hx : x < 2 ^ n) :
    (n ≤ l.getD j 0 ∧ (msbL (word l j) (l.getD j 0)).take n = msbL x n) ↔ hitF l x n j := by
  unfold hitF
  refine ⟨fun ⟨h1, h2⟩ => ⟨h0, h1, ?_⟩, fun ⟨_, h1, h2⟩ => ⟨h1, ?_⟩⟩
  · rw [msbL_take _ _ _ h1] at h2
    refine msbL_inj n _ _ ?_ hx h2
    have h3 := word_small l j hj h20 hw
    have h4 : word l j < 2 ^ l.getD j 0 := by
      rcases Nat.div_eq_zero_iff.1 h3 with h | h
      · have := Nat.pow_pos (n := l.getD j 0) (show 0 < 2 by decide); omega
      · exact h
    rw [Nat.div_lt_iff_lt_mul (Nat.pow_pos (by decide)), ← Nat.pow_add]
    rwa [show n + (l.getD j 0 - n) = l.getD j 0 by omega]
  · rw [msbL_take _ _ _ h1, h2]
theorem cur_snoc (bs : List Nat) (at_ n x : Nat) (h : at_ + n + 1 ≤ 8 * bs.length) (hx : ((bitL bs).drop at_).take n = msbL x n) : ((bitL bs).drop at_).take (n + 1) = msbL (2 * x + bit bs (at_ + n)) (n + 1) := by
  have hb := bit_lt bs (at_ + n)
  rw [msbL_succ, show (2 * x + bit bs (at_ + n)) / 2 = x by omega, show (2 * x + bit bs (at_ + n)) % 2 = bit bs (at_ + n) by omega, ← hx, bitL_sub bs at_ (n + 1) (by omega), bitL_sub bs at_ n (by omega), List.range_succ, List.map_append]
  rfl

/-! ### walks -/
set_option maxRecDepth 100000 in
set_option maxHeartbeats 800000 in
theorem ref04_bits (v n : Nat) (w : World) (hv : v < 4294967296) (hn : n ≤ 32) :
    Calls Try.prog 82 #[.int .u32 (v : Nat), .int .u8 (n : Nat)] w fun e w' => ∃ a c, e = .returned (.slice a n c) ∧ OwnN 5 .u8 w' w.heap.size a c (msbL v n) ∧ Below w.heap.size w w' := by
  go_enter Try.func82, Try.ntmps82
  go_wp2
  go_loopw [5, 6] (fun x i A => ∃ (j : Nat) (o : List Nat) (g : Option Addr) (c : Nat), j ≤ n ∧ i = .int .i64 ((n : Int) - 1 - (j : Int)) ∧ x = .slice g o.length c ∧ o.length = j ∧ o = (msbL v n).take j ∧ OwnN 5 .u8 A w.heap.size g c o ∧ Below w.heap.size w A) (fun x i _ => (intOf i + 1).toNat)
  case atStart => exact ⟨0, [], none, 0, by omega, by simp, rfl, rfl, by simp, OwnN.nil _ _ _ _, Below.refl _ _⟩
  case round =>
    obtain ⟨j, o, g, c, hj, rfl, rfl, hol, ho, hown, hbe⟩ := hrel
    have HO := Lib.hid hown
    have HE := Lib.hid hbe
    have HOB := Lib.hid ho
    clear ho hown hbe
    by_cases hlt : j < n
    · obtain ⟨k, hk⟩ : ∃ k, n - 1 - j = k := ⟨_, rfl⟩
      have hki : (n : Int) - 1 - (j : Int) = (k : Int) := by omega
      have hk32 : k < 32 := by omega
      have HT : Hid ((msbL v n).take (j + 1) = (msbL v n).take j ++ [v / 2 ^ k % 2]) := by
        unfold Hid
        rw [M04.take_snoc _ j (by rw [msbL_len]; exact hlt), msbL_at _ _ _ hlt, hk]
      obtain ⟨x, hx⟩ : ∃ x, v / 2 ^ k = x := ⟨_, rfl⟩
      have hx2 : x < 4294967296 := by have := Nat.div_le_self v (2 ^ k); omega
      have hxi : (v : Int) / 2 ^ k = (x : Int) := by rw [← hx]; simp
      rw [hx] at HT
      have HK := Lib.hid hk
      have HOL := Lib.hid hol
      have hwr : w.heap.size ≤ wr.heap.size := HE.out.size
      have HWR := Lib.hid hwr
      have hol2 : o.length ≤ 32 := by omega
      have HKI : Hid ((n : Int) - 1 - ((j + 1 : Nat) : Int) = (k : Int) - 1) := by unfold Hid; omega
      clear hx hk hol hwr
      rw [hki]
      clear hki
      obtain ⟨y, hy⟩ : ∃ y, x % 2 = y := ⟨_, rfl⟩
      have hyi : (x : Int) % 2 = (y : Int) := by omega
      have hy2 : y < 2 := by omega
      rw [hy] at HT
      clear hy
      go_wp2_with (at_builtin; refine app1N (y := y) et_u8 rfl (.tmp 14) (.tmp 20) rfl rfl HO.out rfl (by omega) (by omega) (by omega) (by omega) HWR.out ?_; intro a' c' w2 hown hg hb2; replace hown := Lib.hid hown; replace hb2 := Lib.hid (HE.out.trans hb2); clear hg)
      go_roundw
      case rel => exact ⟨j + 1, o ++ [y], a', c', by omega, by rw [HKI.out], by rw [List.length_append]; rfl, by rw [List.length_append, HOL.out]; rfl, by rw [HT.out, ← HOB.out], hown.out, hb2.out⟩
      case measure => simp [intOf]
    · obtain rfl : j = n := by omega
      have t0 : decide ((0 : Int) ≤ (j : Int) - 1 - (j : Int)) = false := by simp; omega
      have h1 := HOB.out
      rw [List.take_of_length_le (by rw [msbL_len]; exact Nat.le_refl _)] at h1
      have HOL := Lib.hid hol
      have H1 := Lib.hid h1
      clear hol h1
      go_wp2
      go_ret
      exact ⟨g, c, by rw [HOL.out]; rfl, by have := HO.out; rwa [H1.out] at this, HE.out⟩

abbrev Es := List (Option Addr × Nat × List Nat)
/-- rows of words -/
def RowsOf (w : World) (l : List Nat) (es : Es) : Prop := es.length = l.length ∧ ∀ i (h : i < es.length), es[i].2.2 = msbL (word l i) (l.getD i 0) ∧ RowN .u8 w es[i].1 es[i].2.1 es[i].2.2
theorem RowsOf.below {w w' : World} {l : List Nat} {es : Es} (h : RowsOf w l es) (hb : Below w.heap.size w w') : RowsOf w' l es := ⟨h.1, fun i hi => ⟨(h.2 i hi).1, (h.2 i hi).2.below hb⟩⟩

set_option maxRecDepth 100000 in
set_option maxHeartbeats 800000 in
theorem ref06_begins (a b : Option Addr) (ca cb : Nat) (x y : List Nat) (w : World) (hx : RowN .u8 w a ca x) (hy : RowN .u8 w b cb y) (hx2 : ∀ v ∈ x, v < 256) (hy2 : ∀ v ∈ y, v < 256) :
    Calls Try.prog 83 #[.slice a x.length ca, .slice b y.length cb] w fun e w' => e = .returned (.bool (decide (y.length ≤ x.length ∧ x.take y.length = y))) ∧ ∃ m, w' = w.drewN m := by
  have hxl := hx.len
  have hyl := hy.len
  have hcap := hx.1
  by_cases hle : y.length ≤ x.length
  · have t0 : decide ((y.length : Nat) ≤ x.length) = true := by simp; omega
    have hcv1 : ∀ q, (convert 22 9 (.slice a y.length ca)).run Try.prog (w.drewN q) = .ok (.string (strOf (x.take y.length))) (w.drewN q) := fun q => conv_row Try.underlying22 Try.underlying5 Try.underlying9 (by rw [List.length_take]; omega) (rowN_take (w := w.drewN q) hx y.length)
    have hcv2 : ∀ q, (convert 22 9 (.slice b y.length cb)).run Try.prog (w.drewN q) = .ok (.string (strOf y)) (w.drewN q) := fun q => conv_row Try.underlying22 Try.underlying5 Try.underlying9 rfl (show RowN .u8 (w.drewN q) b cb y from hy)
    have hinj : strOf (x.take y.length) = strOf y ↔ x.take y.length = y := ⟨strOf_inj (fun v hv => hx2 v (List.mem_of_mem_take hv)) hy2, fun h => by rw [h]⟩
    have HR : Hid (decide (y.length ≤ x.length ∧ x.take y.length = y) = decide (strOf (x.take y.length) = strOf y)) := by
      unfold Hid
      exact decide_eq_decide.2 ⟨fun h => hinj.2 h.2, fun h => ⟨hle, hinj.1 h⟩⟩
    rw [HR.out]
    obtain ⟨s, hs⟩ : ∃ s, strOf (x.take y.length) = s := ⟨_, rfl⟩
    obtain ⟨t, ht⟩ : ∃ t, strOf y = t := ⟨_, rfl⟩
    rw [hs] at hcv1 ⊢
    rw [ht] at hcv2 ⊢
    have hd : (s.toList == t.toList) = decide (s = t) := tl_beq s t
    clear HR hinj hs ht hx hy hx2 hy2 hle
    obtain ⟨d, hdd⟩ : ∃ d, decide (s = t) = d := ⟨_, rfl⟩
    rw [hdd] at hd ⊢
    clear hdd
    obtain ⟨n, hn⟩ : ∃ n, y.length = n := ⟨_, rfl⟩
    obtain ⟨m, hm⟩ : ∃ m, x.length = m := ⟨_, rfl⟩
    have hnm : n ≤ m := by simp only [hn, hm] at t0; simpa using t0
    simp only [hn, hm] at hcv1 hcv2 t0 hxl hyl hcap ⊢
    clear hn hm
    go_enter Try.func83, Try.ntmps83
    go_wp2_with fail
    go_quiet (fail)
    go_wp2
    go_ret
    exact ⟨rfl, _, rfl⟩
  · have t0 : decide ((y.length : Nat) ≤ x.length) = false := by simp; omega
    have HR : Hid (decide (y.length ≤ x.length ∧ x.take y.length = y) = false) := by unfold Hid; simp; omega
    rw [HR.out]
    obtain ⟨n, hn⟩ : ∃ n, y.length = n := ⟨_, rfl⟩
    obtain ⟨m, hm⟩ : ∃ m, x.length = m := ⟨_, rfl⟩
    have hnm : m < n := by omega
    simp only [hn, hm] at t0 ⊢
    clear hn hm hle hx hy HR hcap
    go_enter Try.func83, Try.ntmps83
    go_wp2_with fail
    go_quiet (fail)
    go_wp2
    go_ret
    exact ⟨rfl, _, rfl⟩

section
variable {P : Program} {T E : TypeId} {α : Type} {cc : Enc α} {z : Value} {bytes : Nat}
theorem step_app1S (et : ElemS P T E cc z bytes) {w : World} {ops : Array Oper} {o : Oper} {ac : Act} {K : Act → World → Prop} {Q : Exit → Act → World → Prop} {G : Prop} (hgd : o.guard = none) (s x : Operand)
    (ho : o.op = .call { callee := .builtin .append, args := #[s, x], argTypes := #[T, T] }) {base : Nat} {a : Option Addr} {cap : Nat} {l : List α} (y : α) {cs : Array Value} {c E' : Nat}
    (hs : ac.eval s = .slice a l.length cap) (hown : OwnS cc E w base a cap l) (hx : ac.eval x = .slice (some ⟨w.heap.size, 0, none⟩) 1 c) (hcs : cs = (cc.cells y).toArray) (hc : 1 ≤ c) (hc' : c ≤ 9223372036854775807)
    (hn : l.length + 1 ≤ 9223372036854775807) (hbytes : (l.length + 1) * bytes ≤ 140737488355328) (hbase : base ≤ w.heap.size)
    (h : ∀ a' cap' w', OwnS cc E w' base a' cap' (l ++ [y]) → Below base w w' → w.grownBy w' (Value.slice a l.length cap).ownBlock → (∀ g, a' = some ⟨g, 0, none⟩ → a = some ⟨g, 0, none⟩ ∨ w.heap.size ≤ g) → K (ac.put o.dst (.slice a' (l.length + 1) cap')) w') :
    if Region.wanted o (yielded ops ac.tmps) = true then Oper.wp P o ac (w.alloc (.cells cs E')) K Q else G := by
  have hw : Region.wanted o (yielded ops ac.tmps) = true := by simp [Region.wanted, hgd]
  rw [if_pos hw]
  obtain ⟨i, h2, h3, h4, h5⟩ := info_parts et.info
  have hy : RowS cc (w.alloc (.cells cs E')) (some ⟨w.heap.size, 0, none⟩) c [y] := by
    subst hcs
    have := RowS.lit cc w [y] E' ((cc.cells y).toArray) w.heap.size rfl (by simp [flat]) (by simp)
    exact ⟨by simpa using hc, ⟨hc', fun hn => by cases hn⟩, this.2.2⟩
  have hcl : ∀ j u, (flat cc [y])[j]? = some u → (w.alloc (.cells cs E')).cell? ((⟨w.heap.size, 0, none⟩ : Addr).add j) = some u := by
    intro j u hu
    obtain ⟨_, _, h0 | ⟨b', off, he, _, hcc⟩⟩ := hy
    · simp at h0
    · cases he
      have := hcc j u hu
      unfold Addr.add
      split
      · simp_all
      · exact this
  obtain ⟨v', w', hr, h6, h7, h8, h9⟩ := run_append_own_at (P := P) (w.alloc (.cells cs E')) base T o.type E i z cc.sz bytes et.und h2 h3 h4 h5 et.zs cc.pos _ l.length _ (hown.alloc _) ⟨w.heap.size, 0, none⟩ 1 c (flat cc [y]) (by rw [flat_length]; rfl)
    hcl (flat_one _) (by simpa [maxLen] using hn) hbytes (by simp; omega)
  have hv : ∃ a' cap', v' = .slice a' (l.length + 1) cap' := by
    rcases h6.2 with ⟨h11, h10⟩ | ⟨g, c', cur, h11, _⟩
    · omega
    · exact ⟨_, _, h11⟩
  obtain ⟨a', cap', rfl⟩ := hv
  have hown' : OwnS cc E w' base a' cap' (l ++ [y]) := by
    unfold OwnS; rw [List.length_append, flat_append]; exact h6
  have hbel : Below base (w.alloc (.cells cs E')) w' := Below.of_grown h7 (by simp; omega) (by
    intro g hg
    exact (World.ownsRow.lt hown g hg).1)
  unfold Oper.wp
  simp [execOp, ho, resolve, invoke, builtin, hs, hx, hr, Result.andThen]
  refine h a' cap' w' hown' (((Below.refl base w).alloc hbase _).trans hbel) ⟨h7.os, h7.tape, h7.output, Nat.le_trans (by simp) h7.size, fun q hq hr => (h7.block q (by simp; omega) hr).trans (Below.heap_alloc _ _ _ hq)⟩ ?_
  rintro g rfl
  rcases h9 with h9 | h9
  · left
    rcases hown.form with ⟨rfl, _, _⟩ | ⟨g', rfl, _⟩
    · simp [Value.ownBlock] at h9
    · simp [Value.ownBlock] at h9
      rw [h9]
  · right
    simp [Value.ownBlock] at h9
    omega
end

theorem es_elems : ElemS Try.prog 85 22 encSl (.slice none 0 0) 24 := ⟨Try.underlying85, by kernel_rfl, by kernel_rfl⟩
def rowW (l : List Nat) (i : Nat) : List Nat := msbL (word l i) (l.getD i 0)
def RowsTo (w : World) (l : List Nat) (k : Nat) (es : Es) : Prop := es.length = k ∧ ∀ i (h : i < es.length), es[i].2.2 = rowW l i ∧ RowN .u8 w es[i].1 es[i].2.1 es[i].2.2
def Off (w : World) (g a : Option Addr) : Prop := a = none ∨ ∃ b, a = some ⟨b, 0, none⟩ ∧ b < w.heap.size ∧ ∀ g0, g = some ⟨g0, 0, none⟩ → b ≠ g0
def RowsG (w : World) (l : List Nat) (k : Nat) (g : Option Addr) (es : Es) : Prop := es.length = k ∧ ∀ i (h : i < es.length), (es[i].2.2 = rowW l i ∧ RowN .u8 w es[i].1 es[i].2.1 es[i].2.2) ∧ Off w g es[i].1
theorem Off.put {w3 w7 : World} {g a7 a : Option Addr} {n c : Nat} (h : Off w3 g a) (hgf : g = none ∨ ∃ g0, g = some ⟨g0, 0, none⟩) (hg : w3.grownBy w7 (Value.slice g n c).ownBlock) (hf : ∀ g', a7 = some ⟨g', 0, none⟩ → g = some ⟨g', 0, none⟩ ∨ w3.heap.size ≤ g') {r : List Nat} {cc : Nat} (hr : RowN .u8 w3 a cc r) :
    RowN .u8 w7 a cc r ∧ Off w7 a7 a := by
  rcases h with rfl | ⟨b, rfl, hb, hne⟩
  · refine ⟨?_, .inl rfl⟩
    obtain ⟨h1, h2, h3⟩ := hr
    refine ⟨h1, h2, ?_⟩
    rcases h3 with h3 | ⟨b, off, he, _⟩
    · exact .inl h3
    · cases he
  · refine ⟨hr.same hg.size fun x _ hx => ?_, .inr ⟨b, rfl, Nat.lt_of_lt_of_le hb hg.size, fun g0 h0 => ?_⟩⟩
    · simp only [Option.some.injEq] at hx
      subst hx
      refine hg.block b hb fun e => ?_
      rcases hgf with rfl | ⟨g0, rfl⟩
      · simp [Value.ownBlock] at e
      · simp only [Value.ownBlock, Option.some.injEq] at e
        exact hne g0 rfl e
    · rcases hf g0 h0 with h1 | h1
      · exact hne g0 h1
      · omega
theorem RowsG.put {w w3 w7 : World} {l : List Nat} {k n c : Nat} {g a7 ga : Option Addr} {gc : Nat} {es : Es} (h : RowsG w l k g es) (hgl : ∀ g0, g = some ⟨g0, 0, none⟩ → g0 < w.heap.size) (hgf : g = none ∨ ∃ g0, g = some ⟨g0, 0, none⟩) (hb : Below w.heap.size w w3) (hr : OwnN 5 .u8 w3 w.heap.size ga gc (rowW l k))
    (hg : w3.grownBy w7 (Value.slice g n c).ownBlock) (hf : ∀ g', a7 = some ⟨g', 0, none⟩ → g = some ⟨g', 0, none⟩ ∨ w3.heap.size ≤ g') : RowsG w7 l (k + 1) a7 (es ++ [(ga, gc, rowW l k)]) := by
  refine ⟨by rw [List.length_append, h.1]; rfl, fun i hi => ?_⟩
  rw [List.length_append, List.length_singleton] at hi
  by_cases e : i < es.length
  · rw [List.getElem_append_left e]
    obtain ⟨⟨h1, h2⟩, h3⟩ := h.2 i e
    have h3' : Off w3 g es[i].1 := by
      rcases h3 with h3 | ⟨b, h4, h5, h6⟩
      · exact .inl h3
      · exact .inr ⟨b, h4, Nat.lt_of_lt_of_le h5 hb.size, h6⟩
    obtain ⟨h4, h5⟩ := h3'.put hgf hg hf (h2.below hb)
    exact ⟨⟨h1, h4⟩, h5⟩
  · have : i = k := by have := h.1; omega
    subst this
    rw [List.getElem_append_right (by omega)]
    have e0 : i - es.length = 0 := by have := h.1; omega
    simp only [e0, List.getElem_cons_zero]
    have h3' : Off w3 g ga := by
      rcases hr.form with ⟨h3, _⟩ | ⟨b, h4, h5, h6⟩
      · exact .inl h3
      · exact .inr ⟨b, h4, h6, fun g0 h0 => by have := hgl g0 h0; omega⟩
    obtain ⟨h4, h5⟩ := h3'.put hgf hg hf hr.row
    exact ⟨⟨by trivial, h4⟩, h5⟩
theorem rows_g {α : Type} {c : Enc α} {E : TypeId} {w : World} {base cap : Nat} {a : Option Addr} {l : List α} (h : OwnS c E w base a cap l) : ∀ g0, a = some ⟨g0, 0, none⟩ → g0 < w.heap.size := by
  rintro g0 rfl
  rcases h.form with ⟨h1, _⟩ | ⟨g, h1, _, h2⟩
  · cases h1
  · cases h1; exact h2
theorem rows_f {α : Type} {c : Enc α} {E : TypeId} {w : World} {base cap : Nat} {a : Option Addr} {l : List α} (h : OwnS c E w base a cap l) : a = none ∨ ∃ g0, a = some ⟨g0, 0, none⟩ := by
  rcases h.form with ⟨h1, _⟩ | ⟨g, h1, _, h2⟩
  · exact .inl h1
  · exact .inr ⟨g, h1⟩
theorem RowsG.to {w : World} {l : List Nat} {k : Nat} {g : Option Addr} {es : Es} (h : RowsG w l k g es) : RowsTo w l k es := ⟨h.1, fun i hi => (h.2 i hi).1⟩
theorem RowsTo.below {w w2 : World} {l : List Nat} {k : Nat} {es : Es} (h : RowsTo w l k es) (hb : Below w.heap.size w w2) : RowsTo w2 l k es := ⟨h.1, fun i hi => ⟨(h.2 i hi).1, (h.2 i hi).2.below hb⟩⟩

/-- rows that lie from a block on -/
def EsLo (q : Nat) (es : Es) : Prop := ∀ i (h : i < es.length) x, es[i].1 = some x → q ≤ x.block
theorem EsLo.put {q : Nat} {es : Es} {ga : Option Addr} {gc : Nat} {r : List Nat} (h : EsLo q es) (hg : ∀ x, ga = some x → q ≤ x.block) : EsLo q (es ++ [(ga, gc, r)]) := by
  intro i hi x hx
  by_cases e : i < es.length
  · rw [List.getElem_append_left e] at hx
    exact h i e x hx
  · rw [List.getElem_append_right (by omega)] at hx
    simp only [List.length_append, List.length_singleton] at hi
    have e0 : i - es.length = 0 := by omega
    simp only [e0, List.getElem_cons_zero] at hx
    exact hg x hx
set_option maxRecDepth 100000 in
set_option maxHeartbeats 1600000 in
theorem ref06_rowsB (a : Option Addr) (cap : Nat) (l : List Nat) (w : World) (hr : RowN .u8 w a cap l) (hm : M04.May l) (hw : weight l ≤ 2 ^ 20) :
    Calls Try.prog 46 #[.slice a l.length cap] w fun e w' => ∃ g c es, e = .returned (.tuple #[.slice g l.length c, .int .i64 0]) ∧ RowS encSl w' g c es ∧ RowsTo w' l l.length es ∧ Below w.heap.size w w' ∧ (∀ x, g = some x → w.heap.size ≤ x.block) ∧ EsLo w.heap.size es := by
  have hlen : l.length ≤ 512 := hm.2
  have h20 : ∀ x ∈ l, x ≤ 20 := hm.1
  have HW := Lib.hid (ref04_words a cap l w hr)
  have HE0 : Hid (wordsE l = (words l, 0)) := by unfold Hid wordsE; rw [if_neg (by simpa using hm), if_neg (by omega)]
  have HR := Lib.hid hr
  have H20 := Lib.hid h20
  have HWT := Lib.hid hw
  clear hr hm h20 hw
  obtain ⟨q, hq⟩ : ∃ q, w.heap.size = q := ⟨_, rfl⟩
  have HQ := Lib.hid hq
  rw [hq]
  go_enter Try.func46, Try.ntmps46
  go_wp2_with fail
  refine HW.out.mono ?_
  rintro e w1 ⟨wa, wc, rfl, hown, hb1⟩
  rw [HE0.out, words_length] at *
  rw [hq] at hown hb1
  have HRW := Lib.hid hown.row
  have HB1 := Lib.hid hb1
  have HR1 := Lib.hid (HR.out.below (HQ.out ▸ hb1))
  have hq1 : q ≤ w1.heap.size := by have := hb1.size; omega
  have HQ1 := Lib.hid hq1
  clear hown hb1 hq HW hq1
  go_wp2
  go_loopw [6, 7] (fun x i A => ∃ (k : Nat) (es : Es) (g : Option Addr) (c : Nat), k ≤ l.length ∧ i = .int .i64 k ∧ x = .slice g es.length c ∧ OwnS encSl 22 A w1.heap.size g c es ∧ RowsG A l k g es ∧ Below q w A ∧ Below w1.heap.size w1 A ∧ EsLo q es) (fun x i _ => l.length - (intOf i).toNat)
  case atStart => exact ⟨0, [], none, 0, by omega, by trivial, by trivial, OwnS.nil _ _ _ _, ⟨by trivial, fun i hi => by simp at hi⟩, HB1.out, Below.refl _ _, fun i hi => by simp at hi⟩
  case round =>
    obtain ⟨k, es, g, c, hk, rfl, rfl, ho, hro, hb, hbb, hlo⟩ := hrel
    have HLO := Lib.hid hlo
    clear hlo
    have HO := Lib.hid ho
    have HRO := Lib.hid hro
    have HB := Lib.hid hb
    have HBB := Lib.hid hbb
    have hel : es.length = k := hro.1
    clear ho hro hb hbb
    by_cases hlt : k < l.length
    · obtain ⟨b, off, rfl, hbl, hc⟩ := (HR1.out.below HBB.out).at hlt
      obtain ⟨b2, off2, rfl, hbl2, hc2⟩ := (HRW.out.below HBB.out).at (i := k) (by rw [words_length]; exact hlt)
      rw [words_getElem] at hc2
      have hwl := word_lt l k hlt H20.out HWT.out
      have hx20 := H20.out _ (List.getElem_mem hlt)
      have HRK : Hid (rowW l k = msbL (word l k) l[k]) := by unfold Hid rowW; simp [hlt]
      generalize word l k = x at *
      generalize l[k] = y at *
      have HBI := Lib.hid (fun W => ref04_bits x y W (by omega) (by omega))
      have HEL := Lib.hid hel
      have hwr : q ≤ wr.heap.size := by have := HBB.out.size; have := HQ1.out; omega
      have HWR := Lib.hid hwr
      clear hel hwr
      obtain ⟨n, hn⟩ : ∃ n, es.length = n := ⟨_, rfl⟩
      have hnk : n ≤ 512 := by have := HEL.out; omega
      rw [hn]
      have HN := Lib.hid hn
      clear hn
      go_wp2_with fail
      have hk512 : (k : Int) < (l.length : Int) := by omega
      have hk512 : (k : Int) < (l.length : Int) := by omega
      have HOD := Lib.hid (show OwnS encSl 22 wr.drew w1.heap.size g c es from HO.out)
      have HKY : Hid (∀ ga gc w3, OwnN 5 .u8 w3 wr.drew.heap.size ga gc (msbL x y) → (encSl.cells (ga, gc, msbL x y)).toArray = #[.slice ga y gc]) := by
        unfold Hid
        intro ga gc w3 _
        simp [encSl, msbL_len]
      go_region_law (first | (go_simp; go_at_call 82; refine (HBI.out _).mono ?_; rintro e w3 ⟨ga, gc, rfl, ho3, hb3⟩; dsimp only) | (refine step_app1S (cs := #[.slice ga y gc]) es_elems (by rfl) (.tmp 22) (.tmp 32) (by rfl) (ga, gc, msbL x y) (by rw [HN.out]; rfl) (HOD.out.below hb3) (by rfl) (HKY.out ga gc w3 ho3).symm (by omega) (by omega) (by have := HN.out; omega) (by have := HN.out; omega) (by have := hb3.size; have := HBB.out.size; have h5 : wr.drew.heap.size = wr.heap.size := rfl; omega) ?_; intro a7 c7 w7 hown7 hb7 hg7 hf7))
      all_goals
        have hb37 : Below wr.heap.size wr w3 := ⟨hb3.os, hb3.tape, hb3.output, hb3.size, hb3.block⟩
        have HB37 := Lib.hid hb37
        have HB7 := Lib.hid hb7
        have HG7 := Lib.hid hg7
        have HF7 := Lib.hid hf7
        have HO3 := Lib.hid ho3
        have HOW7 := Lib.hid hown7
        clear hb37 hb7 hg7 hf7 ho3 hown7 hb3
        go_wp2
        go_roundw
        case rel => exact ⟨k + 1, es ++ [(ga, gc, msbL x y)], a7, c7, by omega, by go_num, by rw [List.length_append]; rfl, HOW7.out, by have := HRO.out.put (ga := ga) (gc := gc) (rows_g HO.out) (rows_f HO.out) HB37.out (by rw [HRK.out]; exact HO3.out) HG7.out HF7.out; rw [HRK.out] at this; exact this, HB.out.trans ((HB37.out.mono HWR.out).trans (HB7.out.mono HQ1.out)), HBB.out.trans ((HB37.out.mono HBB.out.size).trans HB7.out), HLO.out.put (fun x hx => by rcases HO3.out.form with ⟨h, _⟩ | ⟨b, h, h5, _⟩ <;> rw [h] at hx <;> cases hx; exact Nat.le_trans HWR.out h5)⟩
        case measure => simp [intOf]; omega
    · obtain rfl : k = l.length := by omega
      have HEL := Lib.hid hel
      clear hel
      go_wp2
      go_ret2
      exact ⟨g, c, es, by rw [HEL.out]; rfl, HO.out.row, HRO.out.to, HB.out, fun x hx => (by rcases HO.out.form with ⟨h, _⟩ | ⟨b, h, h5, _⟩ <;> rw [h] at hx <;> cases hx; exact Nat.le_trans HQ1.out h5), HLO.out⟩

theorem ref06_rows (a : Option Addr) (cap : Nat) (l : List Nat) (w : World) (hr : RowN .u8 w a cap l) (hm : M04.May l) (hw : weight l ≤ 2 ^ 20) :
    Calls Try.prog 46 #[.slice a l.length cap] w fun e w' => ∃ g c es, e = .returned (.tuple #[.slice g l.length c, .int .i64 0]) ∧ RowS encSl w' g c es ∧ RowsTo w' l l.length es ∧ Below w.heap.size w w' :=
  (ref06_rowsB a cap l w hr hm hw).mono fun e w' ⟨g, c, es, h1, h2, h3, h4, _⟩ => ⟨g, c, es, h1, h2, h3, h4⟩

/-- what a symbol's reading answers -/
def GetOut (R : Option (Nat × Nat)) (at_ top : Nat) (e : Ending) : Prop := match R with
  | some (s, at2) => e = .returned (.tuple #[.int .i64 (s : Nat), .int .i64 (at2 : Nat), .int .i64 0])
  | none => ∃ m : Nat, at_ ≤ m ∧ m ≤ top ∧ e = .returned (.tuple #[.int .i64 0, .int .i64 (m : Nat), .int .i64 2])

set_option maxRecDepth 100000 in
set_option maxHeartbeats 3200000 in
theorem ref06_get (a a2 : Option Addr) (cap c2 : Nat) (l bs : List Nat) (es : Es) (at_ : Nat) (w : World) (hr : RowS encSl w a cap es) (hro : RowsTo w l l.length es) (hm : M04.May l) (hw : weight l ≤ 2 ^ 20)
    (hb : RowN .u8 w a2 c2 (bitL bs)) (hbl : bs.length ≤ 1000) (hb0 : 0 < bs.length) (ha : at_ ≤ 8 * bs.length) :
    Calls Try.prog 48 #[.slice a l.length cap, .slice a2 (bitL bs).length c2, .int .i64 (at_ : Nat)] w fun e w' => GetOut (sym l bs at_) at_ (8 * bs.length) e ∧ Below w.heap.size w w' := by
  have hlen : l.length ≤ 512 := hm.2
  have H20 := Lib.hid hm.1
  have HWT := Lib.hid hw
  have HR := Lib.hid hr
  have HRO := Lib.hid hro
  have HBR := Lib.hid hb
  have HEL := Lib.hid hro.1
  have hLL : (bitL bs).length = 8 * bs.length := bitL_len bs
  have HBG := Lib.hid (fun x y a b c1 c2 w h1 h2 h3 h4 => ref06_begins a b c1 c2 x y w h1 h2 h3 h4)
  have HC0 := Lib.hid (cur_snoc bs at_)
  have HBL := Lib.hid (bitL_lt bs)
  have HDEC : Hid (sym l bs at_ = decF (tabOf l) bs (22 - 0) 0 0 (at_ + 0)) := rfl
  obtain ⟨S, hS⟩ : ∃ S, sym l bs at_ = S := ⟨_, rfl⟩
  rw [hS] at HDEC ⊢
  clear hS hr hro hm hw hb
  have HTK : Hid (((bitL bs).drop at_).take 0 = msbL 0 0) := by unfold Hid; simp [msbL]
  have hcap := HBR.out.1
  have hcap2 := HBR.out.2.1.1
  have hcap3 := HBR.out.2.1.2
  have hform : bitL bs = [] ∨ ∃ b off, a2 = some ⟨b, off, none⟩ := by
    rcases HBR.out.2.2 with h | ⟨b, off, h, _⟩
    · exact .inl h
    · exact .inr ⟨b, off, h⟩
  have HFORM := Lib.hid hform
  have HBSUB : Hid (∀ (b off n : Nat), a2 = some ⟨b, off, none⟩ → at_ + n ≤ (bitL bs).length → ∀ A, Below w.heap.size w A → RowN .u8 A (some ⟨b, off + at_, none⟩) (c2 - at_) (((bitL bs).drop at_).take n)) := fun b off n h1 h2 A hA => by subst h1; exact rowN_sub (HBR.out.below hA) at_ n h2
  generalize bitL bs = L at *
  clear hform
  go_enter Try.func48, Try.ntmps48
  go_wp2
  go_loopw [9] (fun m A => ∃ (n x : Nat), m = .int .i64 (n : Nat) ∧ n ≤ 20 ∧ at_ + n ≤ 8 * bs.length ∧ x < 2 ^ n ∧ (L.drop at_).take n = msbL x n ∧ S = decF (tabOf l) bs (22 - n) x n (at_ + n) ∧ Below w.heap.size w A) (fun m _ => 21 - (intOf m).toNat)
  case atStart => exact ⟨0, 0, by trivial, by omega, by omega, by omega, HTK.out, HDEC.out, Below.refl _ _⟩
  case round =>
    clear HDEC HTK
    obtain ⟨n, x, rfl, hn20, hfit, hx2, htk, hdec, hbw⟩ := hrel
    have HDEC := Lib.hid hdec
    have HTK := Lib.hid htk
    have HX2 := Lib.hid hx2
    have HBW := Lib.hid hbw
    clear hdec htk hx2 hbw
    go_wp2
    go_loopw [10, 11] (fun s i A => ∃ (k : Nat) (b : Bool), k ≤ l.length ∧ i = .int .i64 (k : Nat) ∧ s = .bool b ∧ (∀ j, j < k → hitF l x n j → n ≠ l.getD j 0) ∧ (b = true ↔ ∃ j, j < k ∧ hitF l x n j) ∧ Below w.heap.size w A) (fun s i _ => l.length - (intOf i).toNat)
    case atStart => exact ⟨0, false, by omega, by trivial, by trivial, fun j hj => by omega, by simp, HBW.out⟩
    case round =>
      clear HBW
      obtain ⟨k, sb, hk, rfl, rfl, hno, hso, hbw⟩ := hrel
      have HNO := Lib.hid hno
      have HSO := Lib.hid hso
      have HBW := Lib.hid hbw
      clear hno hso hbw
      by_cases hlt : k < l.length
      · obtain ⟨b, off, rfl, hbb, hcl⟩ := (HR.out.below HBW.out).at (i := k) (by rw [HEL.out]; exact hlt)
        have c0 := hcl 0 _ rfl
        simp only [encSl, Nat.add_zero, Nat.mul_one] at c0
        have hke : k < es.length := by rw [HEL.out]; exact hlt
        obtain ⟨hr1, hr2⟩ := HRO.out.2 k hke
        obtain ⟨m, hm⟩ : ∃ m, l.getD k 0 = m := ⟨_, rfl⟩
        have hrl : es[k].2.2.length = m := by rw [hr1, rowW, msbL_len, hm]
        rw [hrl] at c0
        have hm20 : m ≤ 20 := hm ▸ getD_le H20.out k
        generalize es[k] = e at *
        clear hke
        obtain ⟨pa, pc, row⟩ := e
        simp only at hr1 hr2 hrl c0
        have hk5 : (k : Int) < (l.length : Int) := by omega
        have hNX : Hid (hitF l x n k → n ≠ m → ∀ j, j < k + 1 → hitF l x n j → n ≠ l.getD j 0) := by
          unfold Hid
          intro _ h2 j hj hh
          by_cases e : j = k
          · subst e; rw [hm]; exact h2
          · exact HNO.out j (by omega) hh
        have hNY : Hid (¬ hitF l x n k → (∀ j, j < k + 1 → hitF l x n j → n ≠ l.getD j 0) ∧ (sb = true ↔ ∃ j, j < k + 1 ∧ hitF l x n j)) := by
          unfold Hid
          intro h2
          refine ⟨fun j hj hh => ?_, HSO.out.trans ⟨fun ⟨j, h3, h4⟩ => ⟨j, by omega, h4⟩, fun ⟨j, h3, h4⟩ => ?_⟩⟩
          · by_cases e : j = k
            · subst e; exact absurd hh h2
            · exact HNO.out j (by omega) hh
          · by_cases e : j = k
            · subst e; exact absurd h4 h2
            · exact ⟨j, by omega, h4⟩
        by_cases hm0 : m = 0
        · have t0 : ((m : Int) == 0) = true := beq_iff_eq.2 (by omega)
          have HNH := Lib.hid (hNY.out (by unfold hitF; rw [hm]; omega))
          clear hcl hr1 hr2 hrl hm hNX hNY hm0
          go_wp2_with fail
          go_quiet (fail)
          go_wp2
          go_roundw
          case rel => exact ⟨k + 1, sb, by omega, by go_num, by trivial, HNH.out.1, HNH.out.2, belDN HBW.out _⟩
          case measure => simp [intOf]; omega
        have t0 : ((m : Int) == 0) = false := beq_eq_false_iff_ne.2 (by omega)
        have hll : ((L.drop at_).take n).length = n := by rw [List.length_take, List.length_drop]; omega
        have HBX : Hid (∀ (q : Nat) (p : Option Addr) (c' : Nat), (c' ≤ 9223372036854775807 ∧ (p = none → c' = 0) ∧ (n = 0 ∨ ∃ b2 off2, a2 = some ⟨b2, off2, none⟩ ∧ p = some ⟨b2, off2 + at_, none⟩ ∧ c' = c2 - at_)) →
            Calls Try.prog 83 #[.slice pa m pc, .slice p n c'] (wr.drewN q) fun e w' => e = .returned (.bool (decide (hitF l x n k))) ∧ ∃ m, w' = (wr.drewN q).drewN m) := by
          unfold Hid
          intro q p c' ⟨g1, g2, g3⟩
          have hrow : RowN .u8 (wr.drewN q) p c' ((L.drop at_).take n) := by
            rcases g3 with rfl | ⟨b2, off2, h1, rfl, rfl⟩
            · exact ⟨by simp, ⟨g1, g2⟩, .inl (by simp)⟩
            · exact HBSUB.out b2 off2 n h1 (by omega) _ (belDN HBW.out q)
          have h := HBG.out row ((L.drop at_).take n) pa p pc c' (wr.drewN q) (show RowN .u8 wr pa pc row from hr2.below HBW.out) hrow (fun v hv => by rw [hr1] at hv; have := msbL_lt _ _ v hv; omega) (fun v hv => by have := HBL.out v (List.mem_of_mem_drop (List.mem_of_mem_take hv)); omega)
          rw [hrl, hll] at h
          have hiff := begins_hit l x n k hlt H20.out HWT.out (by omega) HX2.out
          rw [hm] at hiff
          rw [hr1, rowW, hm, HTK.out, decide_eq_decide.2 hiff] at h
          exact h
        have HM := Lib.hid hm
        have hfit2 : at_ + n ≤ L.length := by omega
        have hfit3 : L.length ≤ 8000 := by omega
        obtain ⟨b2, off2, h1⟩ : ∃ b2 off2, a2 = some ⟨b2, off2, none⟩ := by
          rcases HFORM.out with h | h
          · rw [h] at hLL; simp at hLL; omega
          · exact h
        subst h1
        obtain ⟨d, hd⟩ : ∃ d, decide (hitF l x n k) = d := ⟨_, rfl⟩
        rw [hd] at HBX
        have HD := Lib.hid hd
        have HNX := hNX
        have HNY := hNY
        have HML := hLL
        replace HML := Lib.hid HML
        clear hcl hr1 hr2 hrl hm hNX hNY hm0 hll hd hLL hcap3
        by_cases h3 : at_ = c2
        · have HN0 : Hid (n = 0) := by unfold Hid; omega
          subst h3
          go_wp2_with fail
          go_quiet ((go_at_call 83; exact Calls.quiet_of (HBX.out _ _ _ ⟨by omega, by simp, .inl HN0.out⟩)))
          cases d with
          | false =>
            have HNH := Lib.hid (HNY.out (by have := HD.out; simpa using this))
            clear HD
            go_wp2
            go_roundw
            case rel => exact ⟨k + 1, sb, by omega, by go_num, by trivial, HNH.out.1, HNH.out.2, belDN HBW.out _⟩
            case measure => simp [intOf]; omega
          | true =>
            have hh : hitF l x n k := by have := HD.out; simpa using this
            have HSX : Hid (true = true ↔ ∃ j, j < k + 1 ∧ hitF l x n j) := ⟨fun _ => ⟨k, by omega, hh⟩, fun _ => rfl⟩
            by_cases hmn : n = m
            · have HS : Hid (S = some (k, at_ + n)) := by
                unfold Hid
                rw [HDEC.out, show 22 - n = (21 - n) + 1 by omega]
                exact decF_hit l bs H20.out _ x n _ k hlt hh (by rw [hmn, HM.out])
              have t1 : ((m : Int) == (n : Int)) = true := beq_iff_eq.2 (by omega)
              clear hh HD HSX hmn
              go_wp2
              go_ret3
              exact ⟨by rw [HS.out]; rfl, belDN HBW.out _⟩
            · have t1 : ((m : Int) == (n : Int)) = false := beq_eq_false_iff_ne.2 (by omega)
              have HNH := Lib.hid (HNX.out hh hmn)
              clear hh HD hmn
              go_wp2
              go_roundw
              case rel => exact ⟨k + 1, true, by omega, by go_num, by trivial, HNH.out, HSX.out, belDN HBW.out _⟩
              case measure => simp [intOf]; omega
        · go_wp2_with fail
          go_quiet ((go_at_call 83; exact Calls.quiet_of (HBX.out _ _ _ ⟨by omega, by simp, .inr ⟨_, _, rfl, rfl, by first | rfl | omega⟩⟩)))
          cases d with
          | false =>
            have HNH := Lib.hid (HNY.out (by have := HD.out; simpa using this))
            clear HD
            go_wp2
            go_roundw
            case rel => exact ⟨k + 1, sb, by omega, by go_num, by trivial, HNH.out.1, HNH.out.2, belDN HBW.out _⟩
            case measure => simp [intOf]; omega
          | true =>
            have hh : hitF l x n k := by have := HD.out; simpa using this
            have HSX : Hid (true = true ↔ ∃ j, j < k + 1 ∧ hitF l x n j) := ⟨fun _ => ⟨k, by omega, hh⟩, fun _ => rfl⟩
            by_cases hmn : n = m
            · have HS : Hid (S = some (k, at_ + n)) := by
                unfold Hid
                rw [HDEC.out, show 22 - n = (21 - n) + 1 by omega]
                exact decF_hit l bs H20.out _ x n _ k hlt hh (by rw [hmn, HM.out])
              have t1 : ((m : Int) == (n : Int)) = true := beq_iff_eq.2 (by omega)
              clear hh HD HSX hmn
              go_wp2
              go_ret3
              exact ⟨by rw [HS.out]; rfl, belDN HBW.out _⟩
            · have t1 : ((m : Int) == (n : Int)) = false := beq_eq_false_iff_ne.2 (by omega)
              have HNH := Lib.hid (HNX.out hh hmn)
              clear hh HD hmn
              go_wp2
              go_roundw
              case rel => exact ⟨k + 1, true, by omega, by go_num, by trivial, HNH.out, HSX.out, belDN HBW.out _⟩
              case measure => simp [intOf]; omega
      · obtain rfl : k = l.length := by omega
        cases sb with
        | false =>
          have HNH : Hid (∀ j, j < l.length → ¬ hitF l x n j) := by
            unfold Hid
            intro j hj hh
            have := HSO.out.2 ⟨j, hj, hh⟩
            cases this
          have HS : Hid (S = none) := by
            unfold Hid
            rw [HDEC.out, show 22 - n = (21 - n) + 1 by omega]
            exact decF_none l bs H20.out _ x n _ HNH.out
          go_wp2
          go_ret3
          exact ⟨by rw [HS.out]; exact ⟨at_ + n, by omega, by omega, rfl⟩, HBW.out⟩
        | true =>
          obtain ⟨j, hj, hh⟩ := HSO.out.1 rfl
          have HON := Lib.hid (decF_on l bs H20.out (21 - n) x n (at_ + n) j hj hh (HNO.out j hj hh))
          have hjl : n < l.getD j 0 := by have := hh.2.1; have := HNO.out j hj hh; omega
          have hj20 := getD_le H20.out j
          have hn19 : n < 20 := by omega
          clear hh hjl hj20
          by_cases hend : at_ + n = L.length
          · have t0 : (((at_ : Int) + (n : Int)) == (L.length : Int)) = true := beq_iff_eq.2 (by omega)
            have HS : Hid (S = none) := by
              unfold Hid
              rw [HDEC.out, show 22 - n = (21 - n) + 1 by omega, HON.out, if_neg (by omega)]
            go_wp2
            go_ret3
            exact ⟨by rw [HS.out]; exact ⟨at_ + n, by omega, by omega, rfl⟩, HBW.out⟩
          · have t0 : (((at_ : Int) + (n : Int)) == (L.length : Int)) = false := beq_eq_false_iff_ne.2 (by omega)
            have HS : Hid (S = decF (tabOf l) bs (22 - (n + 1)) (2 * x + bit bs (at_ + n)) (n + 1) (at_ + (n + 1))) := by
              unfold Hid
              rw [HDEC.out, show 22 - n = (21 - n) + 1 by omega, HON.out, if_pos (by omega), show 22 - (n + 1) = 21 - n by omega, Nat.add_assoc]
            have HT2 := Lib.hid (HC0.out n x (by omega) HTK.out)
            have hb2 := bit_lt bs (at_ + n)
            have HX3 : Hid (2 * x + bit bs (at_ + n) < 2 ^ (n + 1)) := by unfold Hid; have := HX2.out; rw [Nat.pow_succ]; omega
            go_wp2
            go_roundw
            case rel => exact ⟨n + 1, 2 * x + bit bs (at_ + n), by go_num, by omega, by omega, HX3.out, HT2.out, HS.out, HBW.out⟩
            case measure => simp [intOf]; omega
end Go.Proofs.Ytmgoeokdlklabaa
