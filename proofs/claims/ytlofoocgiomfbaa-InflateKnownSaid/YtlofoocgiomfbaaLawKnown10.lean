/- InflateKnown: the walk. -/
import Derived.Test.YtlofoocgiomfbaaM10k
import Derived.Test.YtlofoocgiomfbaaConvS
import Derived.Test.YtlofoocgiomfbaaLFix
import Derived.BigQuiet
namespace Go.Proofs.Ytlofoocgiomfbaa
open Go.RowKit Go.Shelf M01 M04 M09 M10 M17
set_option linter.unusedVariables false

abbrev KRow := List Nat × List Nat × Nat × Nat
def encK : Enc KRow := ⟨4, fun r => [.string (strOf r.1), .string (strOf r.2.1), .int .i64 (r.2.2.1 : Nat), .int .i64 (r.2.2.2 : Nat)], fun _ => rfl, fun _ u hu => by simp at hu; rcases hu with rfl | rfl | rfl | rfl <;> rfl, by decide⟩
theorem known_call (r : KRow) (hr : knownR r = true) (hl : r.1.length ≤ 100) (hs : r.2.1.length ≤ 2) (hb : ∀ x ∈ r.1, x < 256) (w : World) (a : Option Addr) (cap : Nat) (hrow : RowN .u8 w a cap r.1) :
    Calls Try.prog 18 #[.slice a r.1.length cap, .int .i64 100] w fun e w' => Below w.heap.size w w' ∧ ∃ a2 c2, e = .returned (.tuple #[.agg #[.slice a2 r.2.1.length c2, .int .i64 (r.2.1.length : Nat), .int .i64 (r.2.2.1 : Nat), .bool false], .int .i64 (r.2.2.2 : Nat)]) ∧ RowN .u8 w' a2 c2 r.2.1 := by
  unfold knownR at hr
  cases hR : inflB r.1 with
  | none =>
    rw [hR] at hr
    simp only [decide_eq_true_eq] at hr
    obtain ⟨h1, h2, h3⟩ := hr
    refine (inflate_none (keep := 100) hrow hb (by omega) (by decide) hR).mono ?_
    rintro e w' ⟨hb', rfl⟩
    refine ⟨hb', none, 0, by rw [h1, h2, h3]; rfl, ?_⟩
    rw [h1]
    exact ⟨by simp, ⟨by omega, fun _ => rfl⟩, .inl rfl⟩
  | some q =>
    obtain ⟨at2, o⟩ := q
    rw [hR] at hr
    simp only [decide_eq_true_eq] at hr
    obtain ⟨rfl, h2, h3⟩ := hr
    refine (inflate_some (keep := 100) hrow hb (by omega) (by decide) hR).mono ?_
    rintro e w' ⟨hb', a2, c2, rfl, hr2⟩
    rw [List.take_of_length_le (by omega)] at hr2 ⊢
    exact ⟨hb', a2, c2, by rw [h2, h3]; rfl, hr2⟩
theorem fixF20 : ∀ x ∈ fixF, x ≤ 20 := by decide +kernel
theorem fixD20 : ∀ x ∈ fixD, x ≤ 20 := by decide +kernel
theorem fixF_l : fixF.length = 288 := by decide +kernel
theorem fixD_l : fixD.length = 32 := by decide +kernel
theorem fixF_w : (wordsE fixF).2 = 0 := by decide +kernel
theorem fixD_w : (wordsE fixD).2 = 0 := by decide +kernel
theorem wok_len {s : Wst} (h : WOk s) (hn : s.2 ≤ 1000) : s.1.length ≤ 200 := by rw [h.1]; omega
theorem wok0 : WOk ([], 0) := ⟨rfl, by simp⟩
/-- a new writer -/
theorem wr_new (w : World) : Wr (fun b => w.heap.size ≤ b) (w.alloc (.cells #[.slice none 0 0, .int .i64 0] 53)) w.heap.size ([], 0) := by
  refine ⟨⟨none, 0, World.alloc_heap_new _ _, OwnN.nil _ _ _ _, Nat.le_refl _, (fun g h => by cases h), fun b hb => ?_⟩, wok0, by show 0 ≤ _; omega⟩
  have : w.heap.size ≤ (w.alloc (.cells #[.slice none 0 0, .int .i64 0] 53)).heap.size := by simp
  omega
theorem only_below {w A : World} {n : Nat} (h : Only (fun b => n ≤ b) w A) (hn : n ≤ w.heap.size) : Below n w A := Below.ofOnly h hn
theorem lay_known {w : World} {p n : Nat} (d : Nat) (hd : 1 ≤ d ∧ d ≤ 3) (hW : Wr (fun b => n ≤ b) w p (addNum ([], 0) 3 3)) (hn : n ≤ w.heap.size) (a1 a2 : Option Addr) (c1 c2 B : Nat) (hB : B = w.heap.size) (r1 : RowN .u8 w a1 c1 fixF) (r2 : RowN .u8 w a2 c2 fixD) :
    Calls Try.prog 24 #[.pointer (some ⟨p, 0, none⟩), .slice (some ⟨B, 0, none⟩) 3 3, .slice a1 288 c1, .slice a2 32 c2] (w.alloc (.cells #[.int .i64 0, .int .i64 0, .int .u8 97, .int .i64 0, .int .i64 0, .int .u8 98, .int .i64 258, .int .i64 (d : Nat), .int .u8 0] 28)) fun e w' =>
      e = .returned (.tuple #[]) ∧ Below n w w' ∧ Wr (fun b => n ≤ b) w' p (knownB d) := by
  subst hB
  have hb := box_b w (.cells #[.int .i64 0, .int .i64 0, .int .u8 97, .int .i64 0, .int .i64 0, .int .u8 98, .int .i64 258, .int .i64 (d : Nat), .int .u8 0] 28)
  have hsz : (w.alloc (.cells #[.int .i64 0, .int .i64 0, .int .u8 97, .int .i64 0, .int .i64 0, .int .u8 98, .int .i64 258, .int .i64 (d : Nat), .int .u8 0] 28)).heap.size = w.heap.size + 1 := by simp
  have hl := law10_lay (hW.narrow hb) (some ⟨w.heap.size, 0, none⟩) a1 a2 3 c1 c2 (knownT d) fixF fixD (RowS.lit encT w (knownT d) 28 _ w.heap.size rfl rfl (by show 3 ≤ 9223372036854775807; decide)) (by
    intro t ht
    simp only [knownT, List.mem_cons, List.not_mem_nil, or_false] at ht
    rcases ht with rfl | rfl | rfl
    · decide
    · decide
    · show 0 < 256; decide) (fun x hx h => by cases hx; exact h.2 ⟨Nat.le_refl _, by rw [hsz]; exact Nat.lt_succ_self _⟩) (fun x _ hx => by cases hx; rw [hsz]; exact Nat.lt_succ_self _) (r1.below hb) (r2.below hb) fixF_w fixD_w (by show 3 ≤ 1000; decide) (by decide)
  rw [fixF_l, fixD_l, show (knownT d).length = 3 from rfl] at hl
  refine hl.mono ?_
  rintro e w' ⟨rfl, h1, h2⟩
  exact ⟨rfl, (hb.mono hn).trans (only_below h1.widen (Nat.le_trans hn hb.size)), h2.widen⟩
theorem known_far (d : Nat) (hd : 1 ≤ d ∧ d ≤ 3) (hok : WOk (knownB d)) (w : World) (a : Option Addr) (cap : Nat) (hr : RowN .u8 w a cap (knownB d).1) :
    Calls Try.prog 18 #[.slice a (knownB d).1.length cap, .int .i64 1000] w fun e w' => Below w.heap.size w w' ∧ ∃ (a2 : Option Addr) (n2 c2 : Nat) (u2 : Int), e = .returned (.tuple #[.agg #[.slice a2 n2 c2, .int .i64 ((if d < 3 then 260 else 0 : Nat) : Int), .int .i64 u2, .bool false], .int .i64 ((if d < 3 then 0 else 2 : Nat) : Int)]) := by
  have hl : (knownB d).1.length ≤ 200 := wok_len hok (by
    have h1 := addSymE_len fixF20 (layTo fixF fixD (addNum ([], 0) 3 3) (knownT d)) 256
    have h2 := layTo_len fixF20 fixD20 (knownT d) (addNum ([], 0) 3 3)
    have h3 : (addNum (([], 0) : Wst) 3 3).2 = 3 := rfl
    have h4 : (knownT d).length = 3 := rfl
    show (addSymE fixF (layTo fixF fixD (addNum ([], 0) 3 3) (knownT d)) 256).2 ≤ 1000
    omega)
  by_cases h3 : d = 3
  · subst h3
    refine (inflate_none (keep := 1000) hr hok.2 (by omega) (by decide) known_far3).mono ?_
    rintro e w' ⟨hb, rfl⟩
    exact ⟨hb, none, 0, 0, 0, rfl⟩
  · have hs : ((inflB (knownB d).1).map fun q => q.2.length) = some 260 := by
      rcases (show d = 1 ∨ d = 2 by omega) with rfl | rfl
      · exact known_far1
      · exact known_far2
    cases hR : inflB (knownB d).1 with
    | none => rw [hR] at hs; simp at hs
    | some q =>
      obtain ⟨at2, o⟩ := q
      rw [hR] at hs
      simp only [Option.map_some, Option.some.injEq] at hs
      refine (inflate_some (keep := 1000) hr hok.2 (by omega) (by decide) hR).mono ?_
      rintro e w' ⟨hb, a2, c2, rfl, -⟩
      refine ⟨hb, a2, (o.take 1000).length, c2, (((at2 + 7) / 8 : Nat) : Int), ?_⟩
      rw [hs, if_pos (by omega), if_pos (by omega)]
      rfl
theorem known_none (s : Nat) (hs : 284 ≤ s ∧ s < 288) : inflB (knownS s).1 = none := by
  obtain ⟨h1, h2, h3, h4⟩ := known_sym
  rcases (show s = 284 ∨ s = 285 ∨ s = 286 ∨ s = 287 by omega) with rfl | rfl | rfl | rfl
  · exact h1
  · exact h2
  · exact h3
  · exact h4
theorem knownS_len (s : Nat) : (knownS s).2 ≤ 1000 := by
  unfold knownS
  rw [addNum_len]
  have := addSymE_len fixF20 (addNum ([], 0) 3 3) s
  have h3 : (addNum (([], 0) : Wst) 3 3).2 = 3 := rfl
  omega
theorem read_litK (w : World) (l : List Nat) (vs : Array Value) (B n keep : Nat) (at2 : Nat) (o : List Nat) (hB : B = w.heap.size) (hv : vs = (l.map fun (n : Nat) => Value.int .u8 n).toArray) (hn : n = l.length) (hb : ∀ x ∈ l, x < 256) (hl : l.length ≤ 100000) (hk : keep ≤ 1000) (hR : inflB l = some (at2, o)) :
    Calls Try.prog 18 #[.slice (some ⟨B, 0, none⟩) n n, .int .i64 (keep : Nat)] (w.alloc (.cells vs 5)) fun e w' => Below w.heap.size w w' ∧ InflOut keep (some (at2, o)) e w' := by
  subst hn hB
  have h := inflate_inflate (w.alloc (.cells vs 5)) (some ⟨w.heap.size, 0, none⟩) l.length l keep (rowN_lit .u8 w l 5 vs w.heap.size rfl hv (by omega)) hb hl (by omega)
  rw [hR] at h
  exact h.mono fun e w' hp => ⟨(box_b w _).trans (hp.1.mono (by simp)), hp.2⟩
set_option maxRecDepth 100000 in
set_option maxHeartbeats 6400000 in
theorem law_known10 (w : World) :
    Calls Try.prog 10 #[] w fun e w' => e = .returned (.bool true) ∧ Below w.heap.size w w' := by
  go_enter Try.func10, Try.ntmps10
  go_wp2_with fail
  change Code.wp _ _ _ _ (w.alloc (.cells (flat encK knownL).toArray _))
  generalize hw1 : w.alloc (.cells (flat encK knownL).toArray _) = w1
  have HRK := Lib.hid (show RowS encK w1 (some ⟨w.heap.size, 0, none⟩) 14 knownL from hw1 ▸ RowS.lit encK w knownL _ _ w.heap.size rfl rfl (by decide))
  have HB1 := Lib.hid (show Below w.heap.size w w1 from hw1 ▸ box_b w _)
  have hz1 : w.heap.size < w1.heap.size := by rw [← hw1]; simp
  clear hw1
  generalize hg0 : w.heap.size = g0 at *
  have HG0 := Lib.hid hg0
  clear hg0
  go_loopw [2] (fun c A => ∃ k : Nat, k ≤ 14 ∧ c = .int .i64 (k : Nat) ∧ Below w1.heap.size w1 A) (fun c _ => 14 - (intOf c).toNat)
  case atStart => exact ⟨0, by omega, rfl, Below.refl _ _⟩
  case round =>
    obtain ⟨k, hk, rfl, hb⟩ := hrel
    have HB := Lib.hid hb
    by_cases hlt : k < 14
    · have hrow := HRK.out.below hb
      obtain ⟨b, off, he, hbb, hcells⟩ := hrow.at (i := k) hlt
      simp only [Option.some.injEq, Addr.mk.injEq, and_true] at he
      obtain ⟨rfl, rfl⟩ := he
      obtain ⟨m1, m2, m3, m4, m5⟩ := known_rows _ (List.getElem_mem (l := knownL) hlt)
      generalize knownL[k] = r at *
      have e0 := hcells 0 (.string (strOf r.1)) rfl
      have e1 := hcells 1 (.string (strOf r.2.1)) rfl
      have e2 := hcells 2 (.int .i64 (r.2.2.1 : Nat)) rfl
      have e3 := hcells 3 (.int .i64 (r.2.2.2 : Nat)) rfl
      rw [show 0 + (k * encK.sz + 0) = k * 4 by show 0 + (k * 4 + 0) = _; omega] at e0
      rw [show 0 + (k * encK.sz + 1) = k * 4 + 1 by show 0 + (k * 4 + 1) = _; omega] at e1
      rw [show 0 + (k * encK.sz + 2) = k * 4 + 2 by show 0 + (k * 4 + 2) = _; omega] at e2
      rw [show 0 + (k * encK.sz + 3) = k * 4 + 3 by show 0 + (k * 4 + 3) = _; omega] at e3
      obtain ⟨cv, w2, hrun, hr2, hb2, hz2⟩ := conv_str wr r.1 m4 (by omega)
      have HCALL := Lib.hid (known_call r m1 m2 m3 m4 w2 _ cv hr2)
      have hss : (strOf r.2.1).size = r.2.1.length := strOf_size _
      have HCV := Lib.hid (fun A a c (h : RowN .u8 A a c r.2.1) => conv_row Try.underlying23 Try.underlying5 Try.underlying9 rfl h)
      have HB2 := Lib.hid hb2
      have HE := Lib.hid (show ∀ A, Below wr.heap.size wr A → A.cell? ⟨g0, k * 4, none⟩ = some (.string (strOf r.1)) ∧ A.cell? ⟨g0, k * 4 + 1, none⟩ = some (.string (strOf r.2.1)) ∧ A.cell? ⟨g0, k * 4 + 2, none⟩ = some (.int .i64 (r.2.2.1 : Nat)) ∧ A.cell? ⟨g0, k * 4 + 3, none⟩ = some (.int .i64 (r.2.2.2 : Nat)) from fun A hA => ⟨(World.cell?_of_block (a := ⟨g0, k * 4, none⟩) (hA.block g0 hbb)).trans e0, (World.cell?_of_block (a := ⟨g0, k * 4 + 1, none⟩) (hA.block g0 hbb)).trans e1, (World.cell?_of_block (a := ⟨g0, k * 4 + 2, none⟩) (hA.block g0 hbb)).trans e2, (World.cell?_of_block (a := ⟨g0, k * 4 + 3, none⟩) (hA.block g0 hbb)).trans e3⟩)
      have q3 : (0 : Int) ≤ (k : Int) := by omega
      have q4 : (k : Int) < 14 := by omega
      clear hb hrow hcells hb2 hr2 m1 m2 m3 m4 m5 e1 e2 e3
      obtain ⟨rb, rs, rn, re⟩ := r
      simp only at *
      generalize hlb : rb.length = nb at *
      generalize hls : rs.length = ns at *
      generalize strOf rb = xb at *
      generalize strOf rs = xs at *
      go_wp2_with fail
      refine HCALL.out.mono ?_
      rintro e w3 ⟨hb3, a3, c3, rfl, hr3⟩
      have hb4 := box_b w3 (.cells #[.slice a3 ns c3, .int .i64 (ns : Nat), .int .i64 (rn : Nat), .bool false] 39)
      have hB3 : Below wr.heap.size wr w3 := HB2.out.trans (hb3.mono HB2.out.size)
      have hB4 := hB3.trans (hb4.mono hB3.size)
      have HB4 := Lib.hid (HB.out.trans (hB4.mono HB.out.size))
      obtain ⟨f0, f1, f2, f3⟩ := HE.out _ hB4
      obtain ⟨d0, d1, d2, d3, _, _⟩ := four_cells (World.alloc_heap_new w3 (.cells #[.slice a3 ns c3, .int .i64 (ns : Nat), .int .i64 (rn : Nat), .bool false] 39))
      have HR4 := Lib.hid (hr3.below hb4)
      clear hb3 hr3 hb4 hB3 hB4 HCALL HE e0 hrun HB2 hz2
      go_wp2_with fail
      obtain ⟨w4, hw4⟩ : ∃ w4, w3.alloc (.cells #[.slice a3 ns c3, .int .i64 (ns : Nat), .int .i64 (rn : Nat), .bool false] 39) = w4 := ⟨_, rfl⟩
      rw [hw4] at HB4 f0 f1 f2 f3 d0 d1 d2 d3 HR4
      rw [hw4]
      clear hw4
      generalize w3.heap.size = bx at *
      have hcv : ∀ q, (convert 23 9 (.slice a3 ns c3)).run Try.prog (w4.drewN q) = .ok (.string xs) (w4.drewN q) := fun q => by
        exact HCV.out (w4.drewN q) a3 c3 (HR4.out.drewN q)
      go_quiet (fail)
      have HB5 := Lib.hid (below_drewN HB4.out nq)
      clear f0 f1 f2 f3 d0 d1 d2 d3 hcv HCV HB4 HR4
      go_wp2
      go_roundw
      case rel => exact ⟨k + 1, by omega, by go_num, HB5.out⟩
      case measure => simp [intOf]; omega
    · obtain rfl : k = 14 := by omega
      clear hb
      go_wp2_with fail
      refine (law10_fixed wr).mono ?_
      rintro e wf ⟨gf, gd, rfl, hrf, hrd, hbf⟩
      rw [fix10F] at hrf
      rw [fix10D] at hrd
      have HRF := Lib.hid hrf
      have HRD := Lib.hid hrd
      have HBF := Lib.hid (HB.out.trans (hbf.mono HB.out.size))
      clear hrf hrd hbf HB
      go_wp2_with fail
      go_loopw [7] (fun c A => ∃ d : Nat, 1 ≤ d ∧ d ≤ 4 ∧ c = .int .i64 (d : Nat) ∧ Below wf.heap.size wf A) (fun c _ => 4 - (intOf c).toNat)
      case atStart => exact ⟨1, by omega, by omega, rfl, Below.refl _ _⟩
      case round =>
        obtain ⟨d, hd1, hd4, rfl, hb⟩ := hrel
        have HBA := Lib.hid hb
        clear hb
        by_cases hd3 : d < 4
        · have HW0 := Lib.hid (wr_new wr)
          have hb0 := box_b wr (.cells #[.slice none 0 0, .int .i64 0] 53)
          have HBN := Lib.hid (HBA.out.trans (hb0.mono HBA.out.size))
          have hsz0 : wr.heap.size ≤ (wr.alloc (.cells #[.slice none 0 0, .int .i64 0] 53)).heap.size := hb0.size
          clear hb0
          go_wp2_with fail
          generalize wr.alloc (.cells #[.slice none 0 0, .int .i64 0] 53) = w2 at *
          refine (show Calls Try.prog 23 #[.pointer (some ⟨wr.heap.size, 0, none⟩), .int .u32 3, .int .i64 3] w2 _ from lsb_put HW0.out 3 3 (by decide) (by decide) (by decide)).mono ?_
          rintro e w3 ⟨rfl, ho3, hw3⟩
          have HW3 := Lib.hid hw3
          have hB3 := only_below ho3 hsz0
          have HB3 := Lib.hid (HBN.out.trans (hB3.mono HBA.out.size))
          have hsz3 : wr.heap.size ≤ w3.heap.size := Nat.le_trans hsz0 hB3.size
          have hwz := HBA.out.size
          have HL := Lib.hid (fun B hB => lay_known (w := w3) d ⟨hd1, by omega⟩ HW3.out hsz3 (some ⟨gf, 0, none⟩) (some ⟨gd, 0, none⟩) 288 32 B hB (HRF.out.below HB3.out) (HRD.out.below HB3.out))
          clear ho3 hw3 hB3 HW0 HBN HW3 HBA
          go_wp2_with fail
          refine (HL.out _ rfl).mono ?_
          rintro e w4 ⟨rfl, hb4, hw4⟩
          have HW4 := Lib.hid hw4
          have HB4 := Lib.hid (HB3.out.trans (hb4.mono hwz))
          have hsz4 : wr.heap.size ≤ w4.heap.size := Nat.le_trans hsz3 hb4.size
          clear hb4 hw4 HL HB3
          go_wp2_with fail
          refine (lsb_bytes HW4.out).mono ?_
          rintro e w5 ⟨a5, c5, rfl, ho5, hb5⟩
          have HI := Lib.hid (known_far d ⟨hd1, by omega⟩ HW4.out.2.1 w5 a5 c5 ho5.row)
          have HB5 := Lib.hid (HB4.out.trans (hb5.mono HB4.out.size))
          clear ho5 hb5 HW4 HB4 hsz0 hsz3 hsz4
          generalize (knownB d).1.length = nb at *
          generalize wr.heap.size = p at *
          go_wp2_with fail
          refine HI.out.mono ?_
          rintro e w6 ⟨hb6, a6, n6, c6, u6, rfl⟩
          clear HI
          have HB6 := Lib.hid (HB5.out.trans (hb6.mono HB5.out.size))
          clear hb6 HB5
          by_cases h3 : d < 3
          · rw [if_pos h3, if_pos h3]
            have hb7 := box_b w6 (.cells #[.slice a6 n6 c6, .int .i64 ((260 : Nat) : Int), .int .i64 u6, .bool false] 39)
            have HB7 := Lib.hid (HB6.out.trans (hb7.mono HB6.out.size))
            have k3 : decide ((d : Int) < 3) = true := by simp; omega
            obtain ⟨d0, d1, d2, d3, _, _⟩ := four_cells (World.alloc_heap_new w6 (.cells #[.slice a6 n6 c6, .int .i64 ((260 : Nat) : Int), .int .i64 u6, .bool false] 39))
            clear hb7
            go_wp2
            go_roundw
            case rel => exact ⟨d + 1, by omega, by omega, by go_num, HB7.out⟩
            case measure => simp [intOf]; omega
          · rw [if_neg h3, if_neg h3]
            have hb7 := box_b w6 (.cells #[.slice a6 n6 c6, .int .i64 ((0 : Nat) : Int), .int .i64 u6, .bool false] 39)
            have HB7 := Lib.hid (HB6.out.trans (hb7.mono HB6.out.size))
            have k3 : decide ((d : Int) < 3) = false := by simp; omega
            clear hb7
            go_wp2
            go_roundw
            case rel => exact ⟨d + 1, by omega, by omega, by go_num, HB7.out⟩
            case measure => simp [intOf]; omega
        · have k4 : decide ((d : Int) ≤ 3) = false := by simp; omega
          have k5 : ¬ d ≤ 3 := by omega
          have HM := Lib.hid (wordsE_may fixF_w)
          go_wp2_with fail
          go_loopw [11] (fun c A => ∃ s : Nat, 284 ≤ s ∧ s ≤ 288 ∧ c = .int .i64 (s : Nat) ∧ Below wf.heap.size wf A) (fun c _ => 288 - (intOf c).toNat)
          case atStart => exact ⟨284, by omega, by omega, rfl, HBA.out⟩
          case round =>
            clear HBA
            obtain ⟨s, hs1, hs4, rfl, hb⟩ := hrel
            have HBA := Lib.hid hb
            clear hb
            by_cases hs3 : s < 288
            · have HW0 := Lib.hid (wr_new wr)
              have hb0 := box_b wr (.cells #[.slice none 0 0, .int .i64 0] 53)
              have HBN := Lib.hid (HBA.out.trans (hb0.mono HBA.out.size))
              have hsz0 : wr.heap.size ≤ (wr.alloc (.cells #[.slice none 0 0, .int .i64 0] 53)).heap.size := hb0.size
              have hwz := HBA.out.size
              clear hb0
              go_wp2_with fail
              generalize wr.alloc (.cells #[.slice none 0 0, .int .i64 0] 53) = w2 at *
              refine (show Calls Try.prog 23 #[.pointer (some ⟨wr.heap.size, 0, none⟩), .int .u32 3, .int .i64 3] w2 _ from lsb_put HW0.out 3 3 (by decide) (by decide) (by decide)).mono ?_
              rintro e w3 ⟨rfl, ho3, hw3⟩
              have hB3 := only_below ho3 hsz0
              have HB3 := Lib.hid (HBN.out.trans (hB3.mono HBA.out.size))
              have hsz3 : wr.heap.size ≤ w3.heap.size := Nat.le_trans hsz0 hB3.size
              have HW3 := Lib.hid hw3
              have HN := prefix_new (some ⟨gf, 0, none⟩) 288 fixF w3 (HRF.out.below HB3.out)
              simp only [if_pos fixF_w, fixF_l] at HN
              replace HN := Lib.hid HN
              clear ho3 hw3 hB3 HW0 HBN HBA
              generalize hp : wr.heap.size = p at *
              clear hp
              go_wp2_with fail
              refine HN.out.mono ?_
              rintro e w4 ⟨hb4, tp, rfl, htb⟩
              have HW4 := Lib.hid (HW3.out.narrow hb4)
              have HB4 := Lib.hid (HB3.out.trans (hb4.mono HB3.out.size))
              have hsz4 : p ≤ w4.heap.size := Nat.le_trans hsz3 hb4.size
              have HC := Lib.hid (prefix_putLowE htb HW4.out (fun b g1 g2 h => h.2 ⟨g1, g2⟩) HM.out.1.1 HM.out.2 s (by decide))
              have HWD : Hid (∀ A st', Only (Sub (fun b => p ≤ b) w3.heap.size w4.heap.size) w4 A → Wr (Sub (fun b => p ≤ b) w3.heap.size w4.heap.size) A p st' → Below p w4 A ∧ Wr (fun b => p ≤ b) A p st') := fun A st' g1 g2 => ⟨only_below g1.widen hsz4, g2.widen⟩
              clear hb4 htb HN HW3 HB3 hsz0 hsz3 HW4
              generalize Sub (fun b => p ≤ b) w3.heap.size w4.heap.size = Q at *
              go_wp2_with fail
              refine HC.out.mono ?_
              rintro e w5 ⟨cc, rfl, ho5, hw5⟩
              have HO5 := Lib.hid ho5
              have hlen5 : (addSymE fixF (addNum ([], 0) 3 3) s).2 + 20 ≤ 100000000 := by
                have h1 := addSymE_len fixF20 (addNum ([], 0) 3 3) s
                have h3 : (addNum (([], 0) : Wst) 3 3).2 = 3 := rfl
                omega
              have HC2 := Lib.hid (show Calls Try.prog 23 #[.pointer (some ⟨p, 0, none⟩), .int .u32 0, .int .i64 20] w5 _ from lsb_put hw5 0 20 (by decide) (by decide) hlen5)
              clear ho5 hw5 HC hlen5
              go_wp2_with fail
              refine HC2.out.mono ?_
              rintro e w6 ⟨rfl, ho6, hw6⟩
              obtain ⟨hB6, hW6⟩ := HWD.out _ _ (HO5.out.trans ho6) hw6
              have HW6 := Lib.hid (show Wr (fun b => p ≤ b) w6 p (knownS s) from hW6)
              have HB6 := Lib.hid (HB4.out.trans (hB6.mono hwz))
              clear ho6 hw6 HC2 HO5 hB6 hW6 HWD HB4
              go_wp2_with fail
              refine (lsb_bytes HW6.out).mono ?_
              rintro e w7 ⟨a7, c7, rfl, ho7, hb7⟩
              have hok := HW6.out.2.1
              have hwl := wok_len hok (knownS_len s)
              have HI := Lib.hid (inflate_none (keep := 1000) ho7.row hok.2 (by omega) (by decide) (known_none s ⟨hs1, by omega⟩))
              have HB7 := Lib.hid (HB6.out.trans (hb7.mono HB6.out.size))
              clear ho7 hb7 HW6 HB6 hok hwl hsz4
              generalize (knownS s).1.length = nb at *
              go_wp2_with fail
              refine HI.out.mono ?_
              rintro e w8 ⟨hb8, rfl⟩
              have hb9 := box_b w8 (.cells #[.slice none 0 0, .int .i64 0, .int .i64 0, .bool false] 39)
              have hB8 := HB7.out.trans (hb8.mono HB7.out.size)
              have HB9 := Lib.hid (hB8.trans (hb9.mono hB8.size))
              clear hb8 hb9 hB8 HI HB7
              go_wp2
              go_roundw
              case rel => exact ⟨s + 1, by omega, by omega, by go_num, HB9.out⟩
              case measure => simp [intOf]; omega
            · obtain rfl : s = 288 := by omega
              have HB := Lib.hid (show Below g0 w wr from (HB1.out.trans (HBF.out.mono (Nat.le_of_lt hz1))).trans (HBA.out.mono (Nat.le_trans (Nat.le_of_lt hz1) HBF.out.size)))
              clear HBA HBF HRF HRD HM HRK HB1
              go_wp2_with fail
              have hz0 := HB.out.size
              refine (inflate_neg (wr.alloc (.cells #[.int .u8 3, .int .u8 0] 5)) (some ⟨wr.heap.size, 0, none⟩) 2 2 (-1) (by decide)).mono ?_
              rintro e w20 ⟨rfl, hb20⟩
              have hba := box_b wr (.cells #[.int .u8 3, .int .u8 0] 5)
              have hB20 := (HB.out.trans (hba.mono (by have := HG0.out; omega))).trans (hb20.mono (by have := hba.size; have := HG0.out; omega))
              have HB21 := Lib.hid (hB20.trans ((box_b w20 (.cells #[.slice none 0 0, .int .i64 0, .int .i64 0, .bool false] 39)).mono (by have := hB20.size; have := HG0.out; omega)))
              have hs21 := Lib.hid (show w20.heap.size + 1 = (w20.alloc (.cells #[.slice none 0 0, .int .i64 0, .int .i64 0, .bool false] 39)).heap.size from by simp)
              clear hba hb20 hB20 HB hz0
              go_wp2_with fail
              generalize w20.alloc (.cells #[.slice none 0 0, .int .i64 0, .int .i64 0, .bool false] 39) = w21 at *
              refine (show Calls Try.prog 18 #[.slice (some ⟨w20.heap.size + 1, 0, none⟩) 8 8, .int .i64 1] _ _ from read_litK w21 [1, 2, 0, 253, 255, 97, 98, 99] _ (w20.heap.size + 1) 8 1 56 [97, 98] hs21.out rfl rfl (by decide) (by decide) (by decide) read1).mono ?_
              rintro e w22 ⟨hb22, a22, c22, he, hr22⟩
              obtain rfl : e = .returned (.tuple #[.agg #[.slice a22 1 c22, .int .i64 2, .int .i64 7, .bool false], .int .i64 0]) := he
              replace hr22 : RowN .u8 w22 a22 c22 [97] := hr22
              have hg0 : g0 ≤ w21.heap.size := by have := HB21.out.size; have := HG0.out; omega
              have hB22 := HB21.out.trans (hb22.mono hg0)
              have HB23 := Lib.hid (hB22.trans ((box_b w22 (.cells #[.slice a22 1 c22, .int .i64 2, .int .i64 7, .bool false] 39)).mono (Nat.le_trans hg0 hb22.size)))
              have HR23 := Lib.hid (hr22.below (box_b w22 (.cells #[.slice a22 1 c22, .int .i64 2, .int .i64 7, .bool false] 39)))
              have HN23 := Lib.hid (World.alloc_heap_new w22 (.cells #[.slice a22 1 c22, .int .i64 2, .int .i64 7, .bool false] 39))
              have hs23 := Lib.hid (show w22.heap.size + 1 = (w22.alloc (.cells #[.slice a22 1 c22, .int .i64 2, .int .i64 7, .bool false] 39)).heap.size from by simp)
              clear hb22 hr22 hB22 HB21 hs21 hg0
              go_wp2_with fail
              generalize w22.alloc (.cells #[.slice a22 1 c22, .int .i64 2, .int .i64 7, .bool false] 39) = w23 at *
              refine (show Calls Try.prog 18 #[.slice (some ⟨w22.heap.size + 1, 0, none⟩) 7 7, .int .i64 0] _ _ from read_litK w23 [1, 2, 0, 253, 255, 97, 98] _ (w22.heap.size + 1) 7 0 56 [97, 98] hs23.out rfl rfl (by decide) (by decide) (by decide) known_ab).mono ?_
              rintro e w24 ⟨hb24, a24, c24, he, hr24⟩
              obtain rfl : e = .returned (.tuple #[.agg #[.slice a24 0 c24, .int .i64 2, .int .i64 7, .bool false], .int .i64 0]) := he
              have hg0 : g0 ≤ w23.heap.size := by have := HB23.out.size; have := HG0.out; omega
              have hB24 := HB23.out.trans (hb24.mono hg0)
              have HB25 := Lib.hid (hB24.trans ((box_b w24 (.cells #[.slice a24 0 c24, .int .i64 2, .int .i64 7, .bool false] 39)).mono (Nat.le_trans hg0 hb24.size)))
              have hx23 : w22.heap.size < w23.heap.size := by have := hs23.out; omega
              have HN25 := Lib.hid (((box_b w24 (.cells #[.slice a24 0 c24, .int .i64 2, .int .i64 7, .bool false] 39)).block w22.heap.size (Nat.lt_of_lt_of_le hx23 hb24.size)).trans ((hb24.block w22.heap.size hx23).trans HN23.out))
              have hcv := conv_row (n := 1) Try.underlying23 Try.underlying5 Try.underlying9 rfl ((HR23.out.below hb24).below (box_b w24 (.cells #[.slice a24 0 c24, .int .i64 2, .int .i64 7, .bool false] 39)))
              rw [show strOf [97] = ByteArray.mk #[97] from rfl] at hcv
              obtain ⟨e0, e1, e2, e3, _, _⟩ := four_cells HN25.out
              obtain ⟨d0, d1, d2, d3, _, _⟩ := four_cells (World.alloc_heap_new w24 (.cells #[.slice a24 0 c24, .int .i64 2, .int .i64 7, .bool false] 39))
              clear hb24 hr24 hB24 HB23 hs23 hx23 HN23 HR23
              go_wp2_with (first | (go_at_call 21; refine (law10_reads _).mono ?_; rintro e w26 ⟨rfl, hb26⟩))
              have HB26 := Lib.hid (HB25.out.trans (hb26.mono (by have := HB25.out.size; have := HG0.out; omega)))
              clear hb26 HB25
              go_wp2
              go_ret
              exact ⟨rfl, HG0.out ▸ HB26.out⟩
end Go.Proofs.Ytlofoocgiomfbaa
