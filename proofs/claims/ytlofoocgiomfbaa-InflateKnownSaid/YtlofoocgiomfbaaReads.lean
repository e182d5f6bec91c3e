/- layer 10's laws: Same, reads: contracts. -/
import Derived.Test.YtlofoocgiomfbaaInflate
import Derived.Lib.SlicesS
namespace Go.Proofs.Ytlofoocgiomfbaa
open Go.RowKit Go.Shelf M01 M04 M09 M10
set_option linter.unusedVariables false

theorem ba_beq (x y : ByteArray) : (x == y) = decide (x = y) := by
  cases x; cases y
  rename_i a b
  show (a == b) = _
  rw [Bool.eq_iff_iff]
  simp
theorem tl_beq (x y : ByteArray) : (x.toList == y.toList) = decide (x = y) := by
  by_cases h : x = y
  · subst h; simp
  · rw [(Lib.bytes_beq_false_iff x y).2 h]; simp [h]
/-- the same flows? -/
def sameB (l1 : List Nat) (s1 u1 : Nat) (l2 : List Nat) (s2 u2 : Nat) : Bool := (strOf l1 == strOf l2) && decide (s1 = s2) && decide (u1 = u2)
set_option maxRecDepth 100000 in
set_option maxHeartbeats 1600000 in
theorem same_flow (w : World) (a1 a2 : Option Addr) (c1 c2 : Nat) (l1 l2 : List Nat) (s1 u1 s2 u2 : Nat) (h1 : RowN .u8 w a1 c1 l1) (h2 : RowN .u8 w a2 c2 l2) :
    Calls Try.prog 20 #[.agg #[.slice a1 l1.length c1, .int .i64 (s1 : Nat), .int .i64 (u1 : Nat), .bool false], .agg #[.slice a2 l2.length c2, .int .i64 (s2 : Nat), .int .i64 (u2 : Nat), .bool false]] w fun e w' =>
      e = .returned (.bool (sameB l1 s1 u1 l2 s2 u2)) ∧ Below w.heap.size w w' := by
  have b1 := box_b w (.cells #[.slice a1 l1.length c1, .int .i64 (s1 : Nat), .int .i64 (u1 : Nat), .bool false] 39)
  have b2 := box_b (w.alloc (.cells #[.slice a1 l1.length c1, .int .i64 (s1 : Nat), .int .i64 (u1 : Nat), .bool false] 39)) (.cells #[.slice a2 l2.length c2, .int .i64 (s2 : Nat), .int .i64 (u2 : Nat), .bool false] 39)
  have hcv1 := conv_row Try.underlying23 Try.underlying5 Try.underlying9 rfl ((h1.below b1).below b2)
  have hcv2 := conv_row Try.underlying23 Try.underlying5 Try.underlying9 rfl ((h2.below b1).below b2)
  have HB := Lib.hid (b1.trans (b2.mono b1.size))
  clear b1 b2 h1 h2
  obtain ⟨x, hx⟩ : ∃ x, strOf l1 = x := ⟨_, rfl⟩
  obtain ⟨y, hy⟩ : ∃ y, strOf l2 = y := ⟨_, rfl⟩
  have HX := Lib.hid hx
  have HY := Lib.hid hy
  rw [hx] at hcv1
  rw [hy] at hcv2
  clear hx hy
  obtain ⟨n1, hn1⟩ : ∃ n, l1.length = n := ⟨_, rfl⟩
  obtain ⟨n2, hn2⟩ : ∃ n, l2.length = n := ⟨_, rfl⟩
  rw [hn1, hn2] at hcv1 hcv2 HB
  rw [hn1, hn2]
  clear hn1 hn2
  by_cases e1 : x = y
  case neg =>
    have HR : Hid (sameB l1 s1 u1 l2 s2 u2 = false) := by unfold Hid sameB; rw [HX.out, HY.out, ba_beq]; simp [e1]
    have t1 : (x.toList == y.toList) = false := (tl_beq x y).trans (by simp [e1])
    clear e1
    go_enter Try.func20, Try.ntmps20
    go_wp2
    go_ret
    exact ⟨by rw [HR.out]; rfl, HB.out⟩
  have t1 : (x.toList == y.toList) = true := (tl_beq x y).trans (by simp [e1])
  by_cases e2 : s1 = s2
  case neg =>
    have HR : Hid (sameB l1 s1 u1 l2 s2 u2 = false) := by unfold Hid sameB; rw [HX.out, HY.out]; simp [e2]
    have t2 : ((s1 : Int) == (s2 : Int)) = false := beq_eq_false_iff_ne.2 (by omega)
    clear e1 e2
    go_enter Try.func20, Try.ntmps20
    go_wp2
    go_ret
    exact ⟨by rw [HR.out]; rfl, HB.out⟩
  have t2 : ((s1 : Int) == (s2 : Int)) = true := beq_iff_eq.2 (by omega)
  by_cases e3 : u1 = u2
  case neg =>
    have HR : Hid (sameB l1 s1 u1 l2 s2 u2 = false) := by unfold Hid sameB; rw [HX.out, HY.out]; simp [e3]
    have t3 : ((u1 : Int) == (u2 : Int)) = false := beq_eq_false_iff_ne.2 (by omega)
    clear e1 e2 e3
    go_enter Try.func20, Try.ntmps20
    go_wp2
    go_ret
    exact ⟨by rw [HR.out]; rfl, HB.out⟩
  have t3 : ((u1 : Int) == (u2 : Int)) = true := beq_iff_eq.2 (by omega)
  have HR : Hid (sameB l1 s1 u1 l2 s2 u2 = true) := by unfold Hid sameB; rw [HX.out, HY.out, ba_beq]; simp [e1, e2, e3]
  clear e1 e2 e3
  go_enter Try.func20, Try.ntmps20
  go_wp2
  go_ret
  exact ⟨by rw [HR.out]; rfl, HB.out⟩
theorem read1 : inflB [1, 2, 0, 253, 255, 97, 98, 99] = some (56, [97, 98]) := by decide +kernel
theorem read2 : inflB [3, 0] = some (10, []) := by decide +kernel
theorem read3 : inflB [7] = none := by decide +kernel
theorem read_lit (w : World) (l : List Nat) (vs : Array Value) (B n : Nat) (R : Option (Nat × List Nat)) (hB : B = w.heap.size) (hv : vs = (l.map fun (n : Nat) => Value.int .u8 n).toArray) (hn : n = l.length) (hb : ∀ x ∈ l, x < 256) (hl : l.length ≤ 100000) (hR : inflB l = R) :
    Calls Try.prog 18 #[.slice (some ⟨B, 0, none⟩) n n, .int .i64 9] (w.alloc (.cells vs 5)) fun e w' => Below w.heap.size w w' ∧ InflOut 9 R e w' := by
  subst hn hB
  have h := inflate_inflate (w.alloc (.cells vs 5)) (some ⟨w.heap.size, 0, none⟩) l.length l 9 (rowN_lit .u8 w l 5 vs w.heap.size rfl hv (by omega)) hb hl (by decide)
  rw [hR] at h
  exact h.mono fun e w' hp => ⟨(box_b w _).trans (hp.1.mono (by simp)), hp.2⟩
end Go.Proofs.Ytlofoocgiomfbaa
