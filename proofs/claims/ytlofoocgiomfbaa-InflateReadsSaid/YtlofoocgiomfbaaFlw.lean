/- layer 10's laws: Same, reads: contracts. layer 10's laws: reads: contract. layer 10's laws: a flow in its cell; what Inflate answers, in two contracts. -/
import Derived.Test.YtlofoocgiomfbaaInflate
import Derived.Lib.SlicesS
namespace Go.Proofs.Ytlofoocgiomfbaa
open Go.RowKit Go.Shelf M01 M04 M09 M10
set_option linter.unusedVariables false

theorem ba_beq (x y : ByteArray) : (x == y) = decide (x = y) := by
  cases x; cases y
  rename_i a b
  show (a == b) = _
  rw [Bool.eq_iff_iff]
  simp
theorem tl_beq (x y : ByteArray) : (x.toList == y.toList) = decide (x = y) := by
  by_cases h : x = y
  · subst h; simp
  · rw [(Lib.bytes_beq_false_iff x y).2 h]; simp [h]
/-- the same flows? -/
def sameB (l1 : List Nat) (s1 u1 : Nat) (l2 : List Nat) (s2 u2 : Nat) : Bool := (strOf l1 == strOf l2) && decide (s1 = s2) && decide (u1 = u2)
set_option maxRecDepth 100000 in
set_option maxHeartbeats 1600000 in
theorem same_flow (w : World) (a1 a2 : Option Addr) (c1 c2 : Nat) (l1 l2 : List Nat) (s1 u1 s2 u2 : Nat) (h1 : RowN .u8 w a1 c1 l1) (h2 : RowN .u8 w a2 c2 l2) :
    Calls Try.prog 20 #[.agg #[.slice a1 l1.length c1, .int .i64 (s1 : Nat), .int .i64 (u1 : Nat), .bool false], .agg #[.slice a2 l2.length c2, .int .i64 (s2 : Nat), .int .i64 (u2 : Nat), .bool false]] w fun e w' =>
      e = .returned (.bool (sameB l1 s1 u1 l2 s2 u2)) ∧ Below w.heap.size w w' := by
  have b1 := box_b w (.cells #[.slice a1 l1.length c1, .int .i64 (s1 : Nat), .int .i64 (u1 : Nat), .bool false] 39)
  have b2 := box_b (w.alloc (.cells #[.slice a1 l1.length c1, .int .i64 (s1 : Nat), .int .i64 (u1 : Nat), .bool false] 39)) (.cells #[.slice a2 l2.length c2, .int .i64 (s2 : Nat), .int .i64 (u2 : Nat), .bool false] 39)
  have hcv1 := conv_row Try.underlying23 Try.underlying5 Try.underlying9 rfl ((h1.below b1).below b2)
  have hcv2 := conv_row Try.underlying23 Try.underlying5 Try.underlying9 rfl ((h2.below b1).below b2)
  have HB := Lib.hid (b1.trans (b2.mono b1.size))
  clear b1 b2 h1 h2
  obtain ⟨x, hx⟩ : ∃ x, strOf l1 = x := ⟨_, rfl⟩
  obtain ⟨y, hy⟩ : ∃ y, strOf l2 = y := ⟨_, rfl⟩
  have HX := Lib.hid hx
  have HY := Lib.hid hy
  rw [hx] at hcv1
  rw [hy] at hcv2
  clear hx hy
  obtain ⟨n1, hn1⟩ : ∃ n, l1.length = n := ⟨_, rfl⟩
  obtain ⟨n2, hn2⟩ : ∃ n, l2.length = n := ⟨_, rfl⟩
  rw [hn1, hn2] at hcv1 hcv2 HB
  rw [hn1, hn2]
  clear hn1 hn2
  by_cases e1 : x = y
  case neg =>
    have HR : Hid (sameB l1 s1 u1 l2 s2 u2 = false) := by unfold Hid sameB; rw [HX.out, HY.out, ba_beq]; simp [e1]
    have t1 : (x.toList == y.toList) = false := (tl_beq x y).trans (by simp [e1])
    clear e1
    go_enter Try.func20, Try.ntmps20
    go_wp2
    go_ret
    exact ⟨by rw [HR.out]; rfl, HB.out⟩
  have t1 : (x.toList == y.toList) = true := (tl_beq x y).trans (by simp [e1])
  by_cases e2 : s1 = s2
  case neg =>
    have HR : Hid (sameB l1 s1 u1 l2 s2 u2 = false) := by unfold Hid sameB; rw [HX.out, HY.out]; simp [e2]
    have t2 : ((s1 : Int) == (s2 : Int)) = false := beq_eq_false_iff_ne.2 (by omega)
    clear e1 e2
    go_enter Try.func20, Try.ntmps20
    go_wp2
    go_ret
    exact ⟨by rw [HR.out]; rfl, HB.out⟩
  have t2 : ((s1 : Int) == (s2 : Int)) = true := beq_iff_eq.2 (by omega)
  by_cases e3 : u1 = u2
  case neg =>
    have HR : Hid (sameB l1 s1 u1 l2 s2 u2 = false) := by unfold Hid sameB; rw [HX.out, HY.out]; simp [e3]
    have t3 : ((u1 : Int) == (u2 : Int)) = false := beq_eq_false_iff_ne.2 (by omega)
    clear e1 e2 e3
    go_enter Try.func20, Try.ntmps20
    go_wp2
    go_ret
    exact ⟨by rw [HR.out]; rfl, HB.out⟩
  have t3 : ((u1 : Int) == (u2 : Int)) = true := beq_iff_eq.2 (by omega)
  have HR : Hid (sameB l1 s1 u1 l2 s2 u2 = true) := by unfold Hid sameB; rw [HX.out, HY.out, ba_beq]; simp [e1, e2, e3]
  clear e1 e2 e3
  go_enter Try.func20, Try.ntmps20
  go_wp2
  go_ret
  exact ⟨by rw [HR.out]; rfl, HB.out⟩
theorem read1 : inflB [1, 2, 0, 253, 255, 97, 98, 99] = some (56, [97, 98]) := by decide +kernel
theorem read2 : inflB [3, 0] = some (10, []) := by decide +kernel
theorem read3 : inflB [7] = none := by decide +kernel
theorem read_lit (w : World) (l : List Nat) (vs : Array Value) (B n : Nat) (R : Option (Nat × List Nat)) (hB : B = w.heap.size) (hv : vs = (l.map fun (n : Nat) => Value.int .u8 n).toArray) (hn : n = l.length) (hb : ∀ x ∈ l, x < 256) (hl : l.length ≤ 100000) (hR : inflB l = R) :
    Calls Try.prog 18 #[.slice (some ⟨B, 0, none⟩) n n, .int .i64 9] (w.alloc (.cells vs 5)) fun e w' => Below w.heap.size w w' ∧ InflOut 9 R e w' := by
  subst hn hB
  have h := inflate_inflate (w.alloc (.cells vs 5)) (some ⟨w.heap.size, 0, none⟩) l.length l 9 (rowN_lit .u8 w l 5 vs w.heap.size rfl hv (by omega)) hb hl (by decide)
  rw [hR] at h
  exact h.mono fun e w' hp => ⟨(box_b w _).trans (hp.1.mono (by simp)), hp.2⟩
end Go.Proofs.Ytlofoocgiomfbaa

namespace Go.Proofs.Ytlofoocgiomfbaa
open Go.RowKit Go.Shelf M01 M04 M09 M10
set_option linter.unusedVariables false

set_option maxRecDepth 100000 in
set_option maxHeartbeats 1600000 in
theorem law10_reads (w : World) : Calls Try.prog 21 #[] w fun e w' => e = .returned (.bool true) ∧ Below w.heap.size w w' := by
  go_enter Try.func21, Try.ntmps21
  go_wp2_with fail
  refine (read_lit _ [1, 2, 0, 253, 255, 97, 98, 99] _ _ 8 _ rfl rfl rfl (by decide) (by decide) read1).mono ?_
  rintro e w1 ⟨hb1, a1, c1, he, hr1⟩
  obtain rfl : e = .returned (.tuple #[.agg #[.slice a1 2 c1, .int .i64 2, .int .i64 7, .bool false], .int .i64 0]) := he
  replace hr1 : RowN .u8 w1 a1 c1 [97, 98] := hr1
  have HB1 := Lib.hid hb1
  have HR1 := Lib.hid hr1
  clear hb1 hr1
  go_wp2_with fail
  have HA1 := Lib.hid (World.alloc_heap_new w1 (.cells #[.slice a1 2 c1, .int .i64 2, .int .i64 7, .bool false] 39))
  have HB2 := Lib.hid (HB1.out.trans ((box_b w1 (.cells #[.slice a1 2 c1, .int .i64 2, .int .i64 7, .bool false] 39)).mono HB1.out.size))
  have HR2 := Lib.hid (HR1.out.below (box_b w1 (.cells #[.slice a1 2 c1, .int .i64 2, .int .i64 7, .bool false] 39)))
  have hl1 : w1.heap.size < (w1.alloc (.cells #[.slice a1 2 c1, .int .i64 2, .int .i64 7, .bool false] 39)).heap.size := by simp
  have hs2 : w1.heap.size + 1 = (w1.alloc (.cells #[.slice a1 2 c1, .int .i64 2, .int .i64 7, .bool false] 39)).heap.size := by simp
  clear HB1 HR1
  generalize w1.alloc (.cells #[.slice a1 2 c1, .int .i64 2, .int .i64 7, .bool false] 39) = w2 at *
  generalize w1.heap.size = b1 at *
  refine (read_lit _ [3, 0] _ _ 2 _ hs2 rfl rfl (by decide) (by decide) read2).mono ?_
  rintro e w3 ⟨hb3, a2, c2, he, hr3⟩
  obtain rfl : e = .returned (.tuple #[.agg #[.slice a2 0 c2, .int .i64 0, .int .i64 2, .bool false], .int .i64 0]) := he
  have HA3 := Lib.hid ((hb3.block b1 hl1).trans HA1.out)
  have HB3 := Lib.hid (HB2.out.trans (hb3.mono HB2.out.size))
  have HR3 := Lib.hid (HR2.out.below hb3)
  have hl3 : b1 < w3.heap.size := Nat.lt_of_lt_of_le hl1 hb3.size
  clear hb3 hr3 HA1 HB2 HR2 hl1
  go_wp2_with fail
  have HC1 := Lib.hid (World.alloc_heap_new w3 (.cells #[.slice a2 0 c2, .int .i64 0, .int .i64 2, .bool false] 39))
  have hb4 := box_b w3 (.cells #[.slice a2 0 c2, .int .i64 0, .int .i64 2, .bool false] 39)
  have HB4 := Lib.hid (HB3.out.trans (hb4.mono HB3.out.size))
  have HR4 := Lib.hid (HR3.out.below hb4)
  have HA4 := Lib.hid ((hb4.block b1 hl3).trans HA3.out)
  have hl4 : w3.heap.size < (w3.alloc (.cells #[.slice a2 0 c2, .int .i64 0, .int .i64 2, .bool false] 39)).heap.size := by simp
  have hs4 : w3.heap.size + 1 = (w3.alloc (.cells #[.slice a2 0 c2, .int .i64 0, .int .i64 2, .bool false] 39)).heap.size := by simp
  clear HB3 HR3 HA3 hb4
  generalize w3.alloc (.cells #[.slice a2 0 c2, .int .i64 0, .int .i64 2, .bool false] 39) = w4 at *
  generalize w3.heap.size = b2 at *
  refine (read_lit _ [7] _ _ 1 _ hs4 rfl rfl (by decide) (by decide) read3).mono ?_
  rintro e w5 ⟨hb5, he⟩
  obtain rfl : e = .returned (.tuple #[.agg #[.slice none 0 0, .int .i64 0, .int .i64 0, .bool false], .int .i64 2]) := he
  have HA5 := Lib.hid ((hb5.block b1 (by omega)).trans HA4.out)
  have HC5 := Lib.hid ((hb5.block b2 hl4).trans HC1.out)
  have HB5 := Lib.hid (HB4.out.trans (hb5.mono HB4.out.size))
  have HR5 := Lib.hid (HR4.out.below hb5)
  have hl5 : b2 < w5.heap.size := Nat.lt_of_lt_of_le hl4 hb5.size
  clear hb5 HA4 HC1 HB4 HR4 hl4
  have hb6 := box_b w5 (.cells #[.slice none 0 0, .int .i64 0, .int .i64 0, .bool false] 39)
  obtain ⟨e0, e1, e2, e3, _, _⟩ := four_cells ((hb6.block b1 (by omega)).trans HA5.out)
  obtain ⟨d0, d1, d2, d3, _, _⟩ := four_cells ((hb6.block b2 hl5).trans HC5.out)
  have hcv := conv_row (n := 2) Try.underlying23 Try.underlying5 Try.underlying9 rfl (HR5.out.below hb6)
  rw [show strOf [97, 98] = ByteArray.mk #[97, 98] from rfl] at hcv
  have HB6 := Lib.hid (HB5.out.trans (hb6.mono HB5.out.size))
  clear hb6
  go_wp2
  go_ret
  exact ⟨rfl, HB6.out⟩
end Go.Proofs.Ytlofoocgiomfbaa

namespace Go.Proofs.Ytlofoocgiomfbaa
open Go.RowKit Go.Shelf M01 M04 M09 M10
set_option linter.unusedVariables false

/-- a flow in its cell -/
def FlwAt (w : World) (b : Nat) (a : Option Addr) (c : Nat) (l : List Nat) (s u : Nat) : Prop := w.heap[b]? = some (.cells #[.slice a l.length c, .int .i64 (s : Nat), .int .i64 (u : Nat), .bool false] 39 (0, 0)) ∧ RowN .u8 w a c l ∧ b < w.heap.size
theorem FlwAt.below {w w' : World} {b c s u : Nat} {a : Option Addr} {l : List Nat} (h : FlwAt w b a c l s u) (hb : Below w.heap.size w w') : FlwAt w' b a c l s u :=
  ⟨(hb.block b h.2.2).trans h.1, h.2.1.below hb, Nat.lt_of_lt_of_le h.2.2 hb.size⟩
theorem FlwAt.drewN {w : World} {b c s u : Nat} {a : Option Addr} {l : List Nat} (h : FlwAt w b a c l s u) (q : Nat) : FlwAt (w.drewN q) b a c l s u := h
theorem FlwAt.new (w : World) {a : Option Addr} {c s u : Nat} {l : List Nat} (h : RowN .u8 w a c l) : FlwAt (w.alloc (.cells #[.slice a l.length c, .int .i64 (s : Nat), .int .i64 (u : Nat), .bool false] 39)) w.heap.size a c l s u :=
  ⟨World.alloc_heap_new _ _, h.below (box_b _ _), by simp⟩
theorem inflate_some {w : World} {a : Option Addr} {cap : Nat} {bs : List Nat} {keep at2 : Nat} {o : List Nat} (hr : RowN .u8 w a cap bs) (hb : ∀ x ∈ bs, x < 256) (hl : bs.length ≤ 100000) (hk : keep ≤ 1000000000) (hR : inflB bs = some (at2, o)) :
    Calls Try.prog 18 #[.slice a bs.length cap, .int .i64 (keep : Nat)] w fun e w' => Below w.heap.size w w' ∧ ∃ a2 c2, e = .returned (.tuple #[.agg #[.slice a2 (o.take keep).length c2, .int .i64 (o.length : Nat), .int .i64 ((at2 + 7) / 8 : Nat), .bool false], .int .i64 0]) ∧ RowN .u8 w' a2 c2 (o.take keep) := by
  have h := inflate_inflate w a cap bs keep hr hb hl hk
  rw [hR] at h
  exact h.mono fun e w' hp => ⟨hp.1, hp.2⟩
theorem inflate_none {w : World} {a : Option Addr} {cap : Nat} {bs : List Nat} {keep : Nat} (hr : RowN .u8 w a cap bs) (hb : ∀ x ∈ bs, x < 256) (hl : bs.length ≤ 100000) (hk : keep ≤ 1000000000) (hR : inflB bs = none) :
    Calls Try.prog 18 #[.slice a bs.length cap, .int .i64 (keep : Nat)] w fun e w' => Below w.heap.size w w' ∧ e = .returned (.tuple #[.agg #[.slice none 0 0, .int .i64 0, .int .i64 0, .bool false], .int .i64 2]) := by
  have h := inflate_inflate w a cap bs keep hr hb hl hk
  rw [hR] at h
  exact h.mono fun e w' hp => ⟨hp.1, hp.2⟩

theorem same_zero (w : World) : Calls Try.prog 20 #[.agg #[.slice none 0 0, .int .i64 0, .int .i64 0, .bool false], .agg #[.slice none 0 0, .int .i64 0, .int .i64 0, .bool false]] w fun e w' => e = .returned (.bool true) ∧ Below w.heap.size w w' := by
  have h0 : RowN .u8 w none 0 [] := ⟨by simp, ⟨by omega, fun _ => rfl⟩, .inl rfl⟩
  exact (same_flow w none none 0 0 [] [] 0 0 0 0 h0 h0).mono fun e w' h => ⟨h.1.trans (by rw [show sameB [] 0 0 [] 0 0 = true from by unfold sameB; rw [ba_beq]; simp]), h.2⟩
theorem sameB_refl (l : List Nat) (s u : Nat) : sameB l s u l s u = true := by unfold sameB; rw [ba_beq]; simp
theorem min2I (x y z : Int) (hz : min x y = z) (w : World) : (Builtin.min2 (.int .i64 x) (.int .i64 y) : Sem Value).run Try.prog w = .ok (.int .i64 z) w := by
  subst hz
  by_cases h : y < x
  · rw [Int.min_eq_right (by omega)]
    simp [Builtin.min2, h, go_sem]
  · rw [Int.min_eq_left (by omega)]
    simp [Builtin.min2, h, go_sem]
theorem bit_take (l m : List Nat) (u i : Nat) (h : i < 8 * u) (hu : u ≤ l.length) : bit (l.take u ++ m) i = bit l i := by
  unfold bit
  congr 2
  have h1 : i / 8 < u := by omega
  simp only [List.getD]
  rw [List.getElem?_append_left (by simp; omega), List.getElem?_take_of_lt h1]
theorem inflB_behind {l m o : List Nat} {at2 u : Nat} (h : inflB l = some (at2, o)) (hu : (at2 + 7) / 8 = u) (hul : u ≤ l.length) : inflB (l.take u ++ m) = some (at2, o) :=
  inflB_same h ⟨fun i _ hi => bit_take l m u i (by omega) hul, by simp; omega⟩
theorem OwnN.lit {k : IntKind} (E : TypeId) (w : World) (base : Nat) (l : List Nat) (vs : Array Value) (B : Nat) (hB : B = w.heap.size) (hv : vs = (l.map fun (n : Nat) => Value.int k n).toArray) (hb : base ≤ w.heap.size) (hl : l.length ≤ maxLen) :
    OwnN E k (w.alloc (.cells vs E)) base (some ⟨B, 0, none⟩) l.length l := by
  subst hB hv
  exact ⟨by simp, .inr ⟨w.heap.size, l.length, (l.map fun (n : Nat) => Value.int k n).toArray, rfl, hb, World.alloc_heap_new w _, Nat.le_refl _, hl, by simp, by simp [List.take_of_length_le]⟩⟩
theorem strOf_push (l : List Nat) : ∀ r : ByteArray, ((l.map fun (n : Nat) => (n : Int)).foldl (fun r n => r.push (UInt8.ofNat n.toNat)) r) = r ++ ByteArray.mk (l.map UInt8.ofNat).toArray := by
  induction l with
  | nil => intro r; simp [ByteArray.ext_iff]
  | cons x t ih =>
    intro r
    simp only [List.map_cons, List.foldl_cons, Int.toNat_natCast]
    rw [ih]
    simp [ByteArray.ext_iff]
theorem strOf_eq (l : List Nat) : strOf l = ByteArray.mk (l.map UInt8.ofNat).toArray := by
  unfold strOf
  rw [strOf_push]
  simp
theorem strOf_append (l m : List Nat) : strOf (l ++ m) = strOf l ++ strOf m := by
  rw [strOf_eq, strOf_eq, strOf_eq]
  simp [ByteArray.ext_iff]
theorem strOf_size (l : List Nat) : (strOf l).size = l.length := by
  rw [strOf_eq]
  simp [ByteArray.size]
theorem strOf_inj {l m : List Nat} (hl : ∀ x ∈ l, x < 256) (hm : ∀ x ∈ m, x < 256) (h : strOf l = strOf m) : l = m := by
  rw [strOf_eq, strOf_eq] at h
  have h1 : l.map UInt8.ofNat = m.map UInt8.ofNat := by simpa [ByteArray.ext_iff] using h
  have h2 := congrArg (List.map UInt8.toNat) h1
  simp only [List.map_map] at h2
  have f : ∀ l : List Nat, (∀ x ∈ l, x < 256) → l.map (UInt8.toNat ∘ UInt8.ofNat) = l := fun l hl => by
    conv => rhs; rw [← List.map_id l]
    refine List.map_congr_left fun x hx => ?_
    have := hl x hx
    simp
    omega
  rwa [f l hl, f m hm] at h2
end Go.Proofs.Ytlofoocgiomfbaa
