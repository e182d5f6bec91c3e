/- InflateReads: the walk. -/
import Derived.Test.YtlofoocgiomfbaaR10f
import Derived.Test.YtlofoocgiomfbaaConvS
import Derived.Test.YtlofoocgiomfbaaOpen
namespace Go.Proofs.Ytlofoocgiomfbaa
open Go.RowKit Go.Shelf M01 M04 M09 M10
set_option linter.unusedVariables false

theorem ref10_neg (w : World) (a : Option Addr) (n cap : Nat) (k : Int) (hk : k < 0) :
    Calls Try.prog 19 #[.slice a n cap, .int .i64 k] w fun e w' => e = .returned (.tuple #[.agg #[.slice none 0 0, .int .i64 0, .int .i64 0, .bool false], .int .i64 5]) ∧ Below w.heap.size w w' := by
  have t1 : decide (k < 0) = true := by simpa using hk
  have HB := Lib.hid (box_b w (.cells #[.slice none 0 0, .int .i64 0, .int .i64 0, .bool false] 39))
  obtain ⟨c0, c1, c2, c3, d0, d1, d2, d3⟩ := flow_cells (World.alloc_heap_new w (.cells #[.slice none 0 0, .int .i64 0, .int .i64 0, .bool false] 39))
  clear hk
  go_enter Try.func19, Try.ntmps19
  go_wp2
  refine bodyPost_ret (v := .tuple #[.agg #[.slice none 0 0, .int .i64 0, .int .i64 0, .bool false], .int .i64 5]) (by simp [results, Try.results19, go_sem, c0, c1, c2, c3]) rfl ?_
  exact ⟨rfl, HB.out⟩
/-- what is read, whatever is to be kept -/
def flowR (bs : List Nat) (k : Int) : List Nat × Nat × Nat × Nat := if k < 0 then ([], 0, 0, 5) else match inflB bs with
  | none => ([], 0, 0, 2)
  | some r => (r.2.take k.toNat, r.2.length, (r.1 + 7) / 8, 0)
def FlowOut (r : List Nat × Nat × Nat × Nat) (w : World) (e : Ending) (w' : World) : Prop :=
  Below w.heap.size w w' ∧ ∃ a c, e = .returned (.tuple #[.agg #[.slice a r.1.length c, .int .i64 (r.2.1 : Nat), .int .i64 (r.2.2.1 : Nat), .bool false], .int .i64 (r.2.2.2 : Nat)]) ∧ RowN .u8 w' a c r.1
theorem flowOut_none {w w' : World} {e : Ending} {x : Nat} (h : e = .returned (.tuple #[.agg #[.slice none 0 0, .int .i64 0, .int .i64 0, .bool false], .int .i64 (x : Nat)])) (hb : Below w.heap.size w w') : FlowOut ([], 0, 0, x) w e w' := ⟨hb, none, 0, h, RowN.nil _ _⟩
theorem flowOut_of {w w' : World} {e : Ending} {bs : List Nat} {k : Nat} (h : FPost w k (inflB bs) e w') : FlowOut (flowR bs (k : Int)) w e w' := by
  unfold flowR
  rw [if_neg (by omega)]
  obtain ⟨h1, h2⟩ := h
  cases hR : inflB bs with
  | none => rw [hR] at h2; exact flowOut_none h2 h1
  | some r =>
    rw [hR] at h2
    obtain ⟨a, c, h3, h4⟩ := h2
    exact ⟨h1, a, c, by rw [Int.toNat_natCast]; exact h3, by rw [Int.toNat_natCast]; exact h4⟩
theorem inflate_any (w : World) (a : Option Addr) (cap : Nat) (bs : List Nat) (k : Int) (hr : RowN .u8 w a cap bs) (hb : ∀ x ∈ bs, x < 256) (hl : bs.length ≤ 100000) (hk : k ≤ 3000) :
    Calls Try.prog 18 #[.slice a bs.length cap, .int .i64 k] w fun e w' => FlowOut (flowR bs k) w e w' := by
  by_cases h : k < 0
  · refine (inflate_neg w a bs.length cap k h).mono fun e w' hp => ?_
    unfold flowR
    rw [if_pos h]
    exact flowOut_none hp.1 hp.2
  · obtain ⟨n, rfl⟩ := Int.eq_ofNat_of_zero_le (show 0 ≤ k by omega)
    exact (inflate_inflate w a cap bs n hr hb hl (by omega)).mono fun e w' hp => flowOut_of hp
theorem ref10_any (w : World) (a : Option Addr) (cap : Nat) (bs : List Nat) (k : Int) (hr : RowN .u8 w a cap bs) (hb : ∀ x ∈ bs, x < 256) (hl : bs.length ≤ 1000) (hk : k ≤ 3000) :
    Calls Try.prog 19 #[.slice a bs.length cap, .int .i64 k] w fun e w' => FlowOut (flowR bs k) w e w' := by
  by_cases h : k < 0
  · refine (ref10_neg w a bs.length cap k h).mono fun e w' hp => ?_
    unfold flowR
    rw [if_pos h]
    exact flowOut_none hp.1 hp.2
  · obtain ⟨n, rfl⟩ := Int.eq_ofNat_of_zero_le (show 0 ≤ k by omega)
    exact (ref10_inflate w a cap bs n hr hb hl (by omega)).mono fun e w' hp => flowOut_of hp

set_option maxRecDepth 100000 in
set_option maxHeartbeats 3200000 in
theorem law_reads (w : World) (a : Option Addr) (ca : Nat) (l : List Nat) (k : Int) (ha : RowN .u8 w a ca l) (hl : ∀ x ∈ l, x < 256) :
    Calls Try.prog 6 #[.slice a l.length ca, .int .i64 k] w fun e w' => e = .returned (.bool true) ∧ Below w.heap.size w w' := by
  by_cases c1 : 300 < l.length
  · have t1 : decide ((300 : Int) < (l.length : Int)) = true := by simp; omega
    clear ha hl c1
    go_enter Try.func6, Try.ntmps6
    go_wp2
    go_ret
    exact ⟨rfl, Below.refl _ _⟩
  have t1 : decide ((300 : Int) < (l.length : Int)) = false := by simp; omega
  by_cases c2 : 3000 < k
  · have t2 : decide ((3000 : Int) < k) = true := by simpa using c2
    clear ha hl c1 c2
    go_enter Try.func6, Try.ntmps6
    go_wp2
    go_ret
    exact ⟨rfl, Below.refl _ _⟩
  have t2 : decide ((3000 : Int) < k) = false := by simpa using c2
  have hl3 : l.length ≤ 300 := by omega
  have HA := Lib.hid ha
  have HL := Lib.hid hl
  have hbl := box_b w (.cells #[] 5)
  have HA1 := Lib.hid (ha.below hbl)
  have HB1 := Lib.hid hbl
  have HO1 := Lib.hid (OwnN.lit0 5 .u8 w w.heap.size (Nat.le_refl _))
  have hwz : w.heap.size ≤ (w.alloc (.cells #[] 5)).heap.size := by simp
  have HI := Lib.hid (fun w a c (h : RowN .u8 w a c l) => inflate_any w a c l k h hl (by omega) (by omega))
  have HR := Lib.hid (fun w a c (h : RowN .u8 w a c l) => ref10_any w a c l k h hl (by omega) (by omega))
  generalize flowR l k = r at *
  obtain ⟨fl, s, u, c⟩ := r
  clear ha hl c1 c2 hbl
  obtain ⟨n, hn⟩ : ∃ n, l.length = n := ⟨_, rfl⟩
  rw [hn] at HI HR t1 hl3 ⊢
  replace hn := Lib.hid hn
  go_enter Try.func6, Try.ntmps6
  go_wp2_with (at_builtin; refine (fun h => Hid.out h) ?_)
  unfold Hid
  refine appAnyN et_u8 rfl (.tmp 17) (.tmp 18) rfl (base := w.heap.size) (l := []) (ys := l) rfl HO1.out hn.out.symm rfl HA1.out (by simp; omega) (by simp; omega) hwz ?_
  intro a7 c7 w7 hown7 hg7 hb7
  simp only [List.nil_append, List.length_nil, Nat.zero_add] at hown7 ⊢
  have HO7 := Lib.hid hown7.row
  have HB7 := Lib.hid (HB1.out.trans (hb7.mono (Nat.le_refl _)))
  have HA7 := Lib.hid (HA.out.below HB7.out)
  clear hown7 hg7 hb7 HB1 HA1 HO1 HA hwz
  go_wp2_with fail
  refine (HI.out w7 a7 c7 HO7.out).mono ?_
  rintro e w8 ⟨hb8, xa, xc, rfl, hx8⟩
  have hbx8 := box_b w8 (.cells #[.slice xa fl.length xc, .int .i64 (s : Nat), .int .i64 (u : Nat), .bool false] 39)
  have HF8 := Lib.hid (FlwAt.new w8 (s := s) (u := u) hx8)
  have HB8 := Lib.hid ((HB7.out.trans (hb8.mono HB7.out.size)).trans (hbx8.mono (HB7.out.trans (hb8.mono HB7.out.size)).size))
  have HA8 := Lib.hid ((HA7.out.below hb8).below hbx8)
  have HO8 := Lib.hid ((HO7.out.below hb8).below hbx8)
  clear hb8 hx8 hbx8 HO7 HB7 HA7
  go_wp2_with fail
  obtain ⟨w9, hw9⟩ : ∃ w9, w8.alloc (.cells #[.slice xa fl.length xc, .int .i64 (s : Nat), .int .i64 (u : Nat), .bool false] 39) = w9 := ⟨_, rfl⟩
  rw [hw9] at HF8 HB8 HA8 HO8
  rw [hw9]
  clear hw9
  generalize w8.heap.size = bx at *
  refine (HR.out w9 a ca HA8.out).mono ?_
  rintro e w10 ⟨hb10, ya, yc, rfl, hy10⟩
  have hby := box_b w10 (.cells #[.slice ya fl.length yc, .int .i64 (s : Nat), .int .i64 (u : Nat), .bool false] 39)
  have HF10 := Lib.hid ((HF8.out.below hb10).below hby)
  have HG10 := Lib.hid (FlwAt.new w10 (s := s) (u := u) hy10)
  have HB10 := Lib.hid ((HB8.out.trans (hb10.mono HB8.out.size)).trans (hby.mono (HB8.out.trans (hb10.mono HB8.out.size)).size))
  have HA10 := Lib.hid ((HA8.out.below hb10).below hby)
  have HO10 := Lib.hid ((HO8.out.below hb10).below hby)
  clear hb10 hy10 hby HF8 HB8 HA8 HO8 HI HR
  obtain ⟨e0, e1, e2, e3, _, _⟩ := four_cells HF10.out.1
  have HSM := Lib.hid (same_flow _ xa ya xc yc fl fl s u s u HF10.out.2.1 HG10.out.2.1)
  rw [sameB_refl] at HSM
  have tc : ((c : Int) == (c : Int)) = true := beq_iff_eq.2 rfl
  go_wp2_with fail
  refine HSM.out.mono ?_
  rintro e w12 ⟨rfl, hb12⟩
  have HB12 := Lib.hid (HB10.out.trans (hb12.mono HB10.out.size))
  have hcv1 := conv_row (n := n) Try.underlying23 Try.underlying5 Try.underlying9 hn.out.symm (HO10.out.below hb12)
  have hcv2 := conv_row (n := n) Try.underlying23 Try.underlying5 Try.underlying9 hn.out.symm (HA10.out.below hb12)
  have tl : ((strOf l).toList == (strOf l).toList) = true := by simp
  clear HSM hb12 e0 e1 e2 e3 HF10 HG10 HA10 HO10 HB10
  generalize strOf l = x at *
  go_wp2_with fail
  refine (law10_reads w12).mono ?_
  rintro e w13 ⟨rfl, hb13⟩
  have HB13 := Lib.hid (HB12.out.trans (hb13.mono HB12.out.size))
  clear hb13 HB12
  go_wp2
  go_ret
  exact ⟨rfl, HB13.out⟩
end Go.Proofs.Ytlofoocgiomfbaa
