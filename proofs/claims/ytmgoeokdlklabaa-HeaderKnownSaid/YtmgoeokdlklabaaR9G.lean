/- The reference of layers 7, 9: class, single, May, Order, Bits, extra, Unpack: contracts. The reference of layer 7: Unpack: contract. The reference of layer 9: Get: contract. -/
import Derived.Test.YtmgoeokdlklabaaLoc
import Derived.Test.YtmgoeokdlklabaaR06
namespace Go.Proofs.Ytmgoeokdlklabaa
open Go.RowKit M01 M04 M07 M10
set_option linter.unusedVariables false

/-! ### plain -/
def clsL (l : List Nat) : Nat := if long l = true then 9 else (clsE l).1
def posN (l : List Nat) : Nat := (l.filter fun x => decide (0 < x)).length
def oneN (l : List Nat) : Nat := (l.filter fun x => decide (x = 1)).length
theorem pos_one (l : List Nat) : oneN l ≤ posN l ∧ (oneN l = posN l ↔ ∀ x ∈ l, x ≤ 1) ∧ ((∀ x ∈ l, x ≤ 1) → l.sum = posN l) := by
  induction l with
  | nil => simp [oneN, posN]
  | cons a l ih =>
    obtain ⟨h1, h2, h3⟩ := ih
    unfold oneN posN at *
    simp only [List.filter_cons, List.mem_cons, forall_eq_or_imp, List.sum_cons]
    by_cases e0 : a = 0
    · subst e0
      simpa using ⟨h1, h2, h3⟩
    · by_cases e1 : a = 1
      · subst e1
        simp only [decide_true, if_true, List.length_cons, Nat.zero_lt_one]
        refine ⟨by omega, ⟨fun h => ⟨by omega, h2.1 (by omega)⟩, fun h => by have := h2.2 h.2; omega⟩, fun h => by have := h3 h.2; omega⟩
      · have t1 : decide (a = 1) = false := by simpa using e1
        have t2 : decide (0 < a) = true := by simp; omega
        rw [t1, t2]
        simp only [if_true, Bool.false_eq_true, if_false, List.length_cons]
        exact ⟨by omega, ⟨fun h => by omega, fun h => by omega⟩, fun h => by omega⟩
theorem single_pos (l : List Nat) : singleB l = (decide (posN l = 1) && decide (oneN l = 1)) := by
  obtain ⟨h1, h2, h3⟩ := pos_one l
  unfold singleB
  rw [← Bool.decide_and]
  refine decide_eq_decide.2 ⟨fun ⟨h4, h5⟩ => ?_, fun ⟨h4, h5⟩ => ?_⟩
  · have := h3 h4
    have := h2.2 h4
    omega
  · have h6 := h2.1 (by omega)
    exact ⟨h6, by have := h3 h6; omega⟩
theorem long_single (l : List Nat) (h : long l = true) : singleB l = false := by
  unfold singleB
  rw [decide_eq_false_iff_not]
  rintro ⟨h1, _⟩
  unfold long at h
  rw [List.any_eq_true] at h
  obtain ⟨x, hx, hd⟩ := h
  have := h1 x hx
  simp at hd
  omega
theorem mayH_cls (f o : List Nat) : mayH f o = (decide (257 ≤ f.length) && decide (f.length ≤ 286) && decide (1 ≤ o.length) && decide (o.length ≤ 30) && decide (f.getD 256 0 ≠ 0) &&
    (decide (clsL f = 2) || singleB f) && (decide (clsL o = 2) || decide (clsL o = 0) || singleB o)) := by
  unfold mayH clsL
  cases hf : long f
  · cases ho : long o
    · simp
    · rw [long_single o ho]; simp
  · rw [long_single f hf]; simp

/-! ### walks -/
set_option maxRecDepth 100000 in
set_option maxHeartbeats 800000 in
theorem ref09_class (a : Option Addr) (cap : Nat) (l : List Nat) (w : World) (hr : RowN .u8 w a cap l) :
    Calls Try.prog 42 #[.slice a l.length cap] w fun e w' => e = .returned (.int .u8 (clsL l : Nat)) ∧ w' = w := by
  have hlen := hr.len
  have HC := Lib.hid (ref04_classify a cap l w hr)
  go_enter Try.func42, Try.ntmps42
  go_wp2
  go_loopw [3] (fun i A => ∃ k : Nat, k ≤ l.length ∧ i = .int .i64 (k : Nat) ∧ (∀ x ∈ l.take k, x ≤ 15) ∧ A = w) (fun i _ => l.length - (intOf i).toNat)
  case atStart => exact ⟨0, by omega, by trivial, by simp, rfl⟩
  case round =>
    obtain ⟨k, hk, rfl, hall, rfl⟩ := hrel
    have HA := Lib.hid hall
    clear hall
    by_cases hlt : k < l.length
    · obtain ⟨b, off, rfl, hb, hck⟩ := hr.at hlt
      clear hr
      have HM := Lib.hid (List.getElem_mem hlt)
      have HT := Lib.hid (take_snoc l k hlt)
      generalize l[k] = x at *
      by_cases hx : 15 < x
      · have hd : decide ((15 : Int) < (x : Int)) = true := by simp; omega
        have HL : Hid (clsL l = 9) := by
          unfold Hid clsL
          rw [if_pos]
          unfold long
          rw [List.any_eq_true]
          exact ⟨x, HM.out, by simpa using hx⟩
        go_wp2
        go_ret
        exact ⟨by rw [HL.out]; rfl, rfl⟩
      · have hd : decide ((15 : Int) < (x : Int)) = false := by simp; omega
        go_wp2
        go_roundw
        case rel => exact ⟨k + 1, by omega, by go_num, by rw [HT.out]; intro y hy; rcases List.mem_append.1 hy with h | h; exact HA.out y h; simp at h; omega, by trivial⟩
        case measure => simp [intOf]; omega
    · have h2 : l.take k = l := List.take_of_length_le (by omega)
      rw [h2] at HA
      have HL : Hid (clsL l = (clsE l).1) := by
        unfold Hid clsL
        rw [if_neg]
        unfold long
        rw [List.any_eq_true]
        rintro ⟨x, hx, hd⟩
        have := HA.out x hx
        simp at hd
        omega
      clear h2 HA
      go_wp2_with fail
      refine HC.out.mono ?_
      rintro e w1 ⟨rfl, rfl⟩
      go_wp2
      go_ret
      exact ⟨by rw [HL.out]; rfl, rfl⟩

set_option maxRecDepth 100000 in
set_option maxHeartbeats 800000 in
theorem ref09_single (a : Option Addr) (cap : Nat) (l : List Nat) (w : World) (hr : RowN .u8 w a cap l) :
    Calls Try.prog 43 #[.slice a l.length cap] w fun e w' => e = .returned (.bool (singleB l)) ∧ w' = w := by
  have hlen := hr.len
  go_enter Try.func43, Try.ntmps43
  go_wp2
  go_loopw [3, 4, 5] (fun s o i A => ∃ k p q : Nat, k ≤ l.length ∧ i = .int .i64 (k : Nat) ∧ s = .int .i64 (p : Nat) ∧ o = .int .i64 (q : Nat) ∧ p = posN (l.take k) ∧ q = oneN (l.take k) ∧ p ≤ k ∧ q ≤ k ∧ A = w) (fun _ _ i _ => l.length - (intOf i).toNat)
  case atStart => exact ⟨0, 0, 0, by omega, by trivial, by trivial, by trivial, by simp [posN], by simp [oneN], by omega, by omega, rfl⟩
  case round =>
    obtain ⟨k, p, q, hk, rfl, rfl, rfl, hp, hq, hpk, hqk, rfl⟩ := hrel
    have HP := Lib.hid hp
    have HQ := Lib.hid hq
    clear hp hq
    by_cases hlt : k < l.length
    · obtain ⟨b, off, rfl, hb, hck⟩ := hr.at hlt
      clear hr
      have HT := Lib.hid (take_snoc l k hlt)
      generalize l[k] = x at *
      have HP2 : Hid (posN (l.take (k + 1)) = p + if 0 < x then 1 else 0) := by
        unfold Hid posN
        rw [HT.out, HP.out, List.filter_append, List.length_append]
        unfold posN
        by_cases h : 0 < x
        · rw [if_pos h]; simp [h]
        · rw [if_neg h]; simp [h]
      have HQ2 : Hid (oneN (l.take (k + 1)) = q + if x = 1 then 1 else 0) := by
        unfold Hid oneN
        rw [HT.out, HQ.out, List.filter_append, List.length_append]
        unfold oneN
        by_cases h : x = 1
        · rw [if_pos h]; simp [h]
        · rw [if_neg h]; simp [h]
      clear HP HQ HT
      by_cases hx0 : x = 0
      · subst hx0
        go_wp2
        go_roundw
        case rel => exact ⟨k + 1, p, q, by omega, by go_num, by trivial, by trivial, by rw [HP2.out]; simp, by rw [HQ2.out]; simp, by omega, by omega, by trivial⟩
        case measure => simp [intOf]; omega
      · by_cases hx1 : x = 1
        · subst hx1
          go_wp2
          go_roundw
          case rel => exact ⟨k + 1, p + 1, q + 1, by omega, by go_num, by go_num, by go_num, by rw [HP2.out]; simp, by rw [HQ2.out]; simp, by omega, by omega, by trivial⟩
          case measure => simp [intOf]; omega
        · have t0 : decide ((0 : Int) < (x : Int)) = true := by simp; omega
          have t1 : ((x : Int) == 1) = false := beq_eq_false_iff_ne.2 (by omega)
          have HX : Hid (0 < x ∧ ¬ x = 1) := ⟨by omega, hx1⟩
          have hx5 : 0 < x := by omega
          clear hx0 hx1
          go_wp2
          go_roundw
          case rel => exact ⟨k + 1, p + 1, q, by omega, by go_num, by go_num, by trivial, by rw [HP2.out, if_pos HX.out.1], by rw [HQ2.out, if_neg HX.out.2]; rfl, by omega, by omega, by trivial⟩
          case measure => simp [intOf]; omega
    · have h2 : l.take k = l := List.take_of_length_le (by omega)
      rw [h2] at HP HQ
      have HS : Hid (singleB l = (decide (p = 1) && decide (q = 1))) := by unfold Hid; rw [single_pos, HP.out, HQ.out]
      clear HP HQ h2
      by_cases h1 : p = 1
      · have t1 : ((p : Int) == 1) = true := beq_iff_eq.2 (by omega)
        have HS2 : Hid (singleB l = decide (q = 1)) := by unfold Hid; rw [HS.out, h1]; simp
        have HQ3 : Hid (((q : Int) == 1) = decide (q = 1)) := by
          unfold Hid
          rw [Bool.eq_iff_iff, beq_iff_eq, decide_eq_true_eq]
          omega
        clear h1 HS
        go_wp2
        go_ret
        exact ⟨by rw [HS2.out, ← HQ3.out]; rfl, rfl⟩
      · have t1 : ((p : Int) == 1) = false := beq_eq_false_iff_ne.2 (by omega)
        have HS2 : Hid (singleB l = false) := by unfold Hid; rw [HS.out]; simp [h1]
        clear h1 HS
        go_wp2
        go_ret
        exact ⟨by rw [HS2.out]; rfl, rfl⟩

theorem ref09_order (w : World) : Calls Try.prog 45 #[] w fun e w' => e = .returned (.slice (some ⟨w.heap.size, 0, none⟩) 19 19) ∧ w' = w.alloc (.cells #[.int .i64 16, .int .i64 17, .int .i64 18, .int .i64 0, .int .i64 8, .int .i64 7, .int .i64 9, .int .i64 6, .int .i64 10, .int .i64 5, .int .i64 11, .int .i64 4, .int .i64 12, .int .i64 3, .int .i64 13, .int .i64 2, .int .i64 14, .int .i64 1, .int .i64 15] 3) := by
  go_enter Try.func45, Try.ntmps45
  go_wp2
  go_ret
  exact ⟨rfl, rfl⟩
theorem ref09_extra (c : Nat) (w : World) : Calls Try.prog 49 #[.int .i64 (c : Nat)] w fun e w' => e = .returned (.int .i64 (rbits c : Nat)) ∧ w' = w := by
  by_cases h16 : c = 16
  · subst h16
    go_enter Try.func49, Try.ntmps49
    go_wp2
    go_ret
    exact ⟨rfl, rfl⟩
  by_cases h17 : c = 17
  · subst h17
    go_enter Try.func49, Try.ntmps49
    go_wp2
    go_ret
    exact ⟨rfl, rfl⟩
  by_cases h18 : c = 18
  · subst h18
    go_enter Try.func49, Try.ntmps49
    go_wp2
    go_ret
    exact ⟨rfl, rfl⟩
  have HR : Hid (rbits c = 0) := by unfold Hid rbits; rw [if_neg h16, if_neg h17, if_neg h18]
  have t0 : ((c : Int) == 16) = false := beq_eq_false_iff_ne.2 (by omega)
  have t1 : ((c : Int) == 17) = false := beq_eq_false_iff_ne.2 (by omega)
  have t2 : ((c : Int) == 18) = false := beq_eq_false_iff_ne.2 (by omega)
  clear h16 h17 h18
  go_enter Try.func49, Try.ntmps49
  go_wp2
  go_ret
  exact ⟨by rw [HR.out]; rfl, rfl⟩

set_option maxRecDepth 100000 in
set_option maxHeartbeats 800000 in
theorem ref09_bits (a : Option Addr) (cap : Nat) (l : List Nat) (w : World) (hr : RowB w a cap l) (hb : ∀ x ∈ l, x < 2) (hl : l.length ≤ 8000) :
    Calls Try.prog 47 #[.slice a l.length cap] w fun e w' => ∃ g c, e = .returned (.slice g l.length c) ∧ OwnN 5 .u8 w' w.heap.size g c l ∧ Below w.heap.size w w' := by
  have HR := Lib.hid hr
  have HB := Lib.hid hb
  clear hr hb
  go_enter Try.func47, Try.ntmps47
  go_wp2
  go_loopw [3, 4] (fun x i A => ∃ (k : Nat) (o : List Nat) (g : Option Addr) (c : Nat), k ≤ l.length ∧ i = .int .i64 (k : Nat) ∧ x = .slice g o.length c ∧ o = l.take k ∧ OwnN 5 .u8 A w.heap.size g c o ∧ Below w.heap.size w A) (fun x i _ => l.length - (intOf i).toNat)
  case atStart => exact ⟨0, [], none, 0, by omega, by trivial, by trivial, by simp, OwnN.nil _ _ _ _, Below.refl _ _⟩
  case round =>
    obtain ⟨k, o, g, c, hk, rfl, rfl, ho, hown, hbe⟩ := hrel
    have HO := Lib.hid hown
    have HE := Lib.hid hbe
    have HOB := Lib.hid ho
    have hol : o.length ≤ 8000 := by rw [ho, List.length_take]; omega
    clear ho hown hbe
    by_cases hlt : k < l.length
    · obtain ⟨b, off, rfl, hbs, hc⟩ := (HR.out.below HE.out).atB hlt
      have hv := HB.out l[k] (List.getElem_mem hlt)
      have HT : Hid (l.take (k + 1) = l.take k ++ [l[k]]) := M04.take_snoc l k hlt
      generalize l[k] = v at *
      have HWR : Hid (w.heap.size ≤ wr.heap.size) := HE.out.size
      rcases (show v = 0 ∨ v = 1 by omega) with rfl | rfl
      · rw [show ((0 : Nat) == 1) = false from rfl] at hc
        go_wp2_with (at_builtin; refine app1N (y := 0) et_u8 rfl (.tmp 16) (.tmp 18) rfl rfl HO.out rfl (by omega) (by omega) (by omega) (by omega) HWR.out ?_; intro a' c' w2 hown hg hb2; replace hown := Lib.hid hown; replace hb2 := Lib.hid (HE.out.trans hb2); clear hg)
        go_wp2
        go_roundw
        case rel => exact ⟨k + 1, o ++ [0], a', c', by omega, by go_num, by rw [List.length_append]; rfl, by rw [HT.out, ← HOB.out], hown.out, hb2.out⟩
        case measure => simp [intOf]; omega
      · rw [show ((1 : Nat) == 1) = true from rfl] at hc
        go_wp2_with (at_builtin; refine app1N (y := 1) et_u8 rfl (.tmp 16) (.tmp 18) rfl rfl HO.out rfl (by omega) (by omega) (by omega) (by omega) HWR.out ?_; intro a' c' w2 hown hg hb2; replace hown := Lib.hid hown; replace hb2 := Lib.hid (HE.out.trans hb2); clear hg)
        go_wp2
        go_roundw
        case rel => exact ⟨k + 1, o ++ [1], a', c', by omega, by go_num, by rw [List.length_append]; rfl, by rw [HT.out, ← HOB.out], hown.out, hb2.out⟩
        case measure => simp [intOf]; omega
    · obtain rfl : k = l.length := by omega
      have h1 := HOB.out
      rw [List.take_length] at h1
      subst h1
      clear HOB
      go_wp2
      go_ret
      exact ⟨g, c, rfl, HO.out, HE.out⟩
set_option maxRecDepth 100000 in
set_option maxHeartbeats 3200000 in
theorem ref09_may (a b : Option Addr) (ca cb : Nat) (f o : List Nat) (w : World) (h1 : RowN .u8 w a ca f) (h2 : RowN .u8 w b cb o) (hf : f.length ≤ 1000) (ho : o.length ≤ 1000) :
    Calls Try.prog 15 #[.slice a f.length ca, .slice b o.length cb] w fun e w' => e = .returned (.bool (mayH f o)) ∧ w' = w := by
  have HK1 := Lib.hid (ref09_class a ca f w h1)
  have HK2 := Lib.hid (ref09_class b cb o w h2)
  have HS1 := Lib.hid (ref09_single a ca f w h1)
  have HS2 := Lib.hid (ref09_single b cb o w h2)
  have H1 := Lib.hid h1
  clear h1 h2
  by_cases c1 : f.length < 257
  · have HR : Hid (mayH f o = false) := by unfold Hid mayH; simp; omega
    have t1 : decide ((f.length : Int) < 257) = true := by simp; omega
    clear c1 hf ho
    go_enter Try.func15, Try.ntmps15
    go_wp2
    go_ret
    exact ⟨by rw [HR.out]; rfl, rfl⟩
  have t1 : decide ((f.length : Int) < 257) = false := by simp; omega
  by_cases c2 : 286 < f.length
  · have HR : Hid (mayH f o = false) := by unfold Hid mayH; simp; omega
    have t2 : decide ((286 : Int) < (f.length : Int)) = true := by simp; omega
    clear c1 c2 hf ho
    go_enter Try.func15, Try.ntmps15
    go_wp2
    go_ret
    exact ⟨by rw [HR.out]; rfl, rfl⟩
  have t2 : decide ((286 : Int) < (f.length : Int)) = false := by simp; omega
  by_cases c3 : o.length < 1
  · have HR : Hid (mayH f o = false) := by unfold Hid mayH; simp; omega
    have t3 : decide ((o.length : Int) < 1) = true := by simp; omega
    clear c1 c2 c3 hf ho
    go_enter Try.func15, Try.ntmps15
    go_wp2
    go_ret
    exact ⟨by rw [HR.out]; rfl, rfl⟩
  have t3 : decide ((o.length : Int) < 1) = false := by simp; omega
  by_cases c4 : 30 < o.length
  · have HR : Hid (mayH f o = false) := by unfold Hid mayH; simp; omega
    have t4 : decide ((30 : Int) < (o.length : Int)) = true := by simp; omega
    clear c1 c2 c3 c4 hf ho
    go_enter Try.func15, Try.ntmps15
    go_wp2
    go_ret
    exact ⟨by rw [HR.out]; rfl, rfl⟩
  have t4 : decide ((30 : Int) < (o.length : Int)) = false := by simp; omega
  have hil : 256 < f.length := by omega
  obtain ⟨bl, off, rfl, hbl, hck⟩ := H1.out.at hil
  have hgd : f.getD 256 0 = f[256] := by simp [hil]
  have hq : (256 : Int) < (f.length : Int) := by omega
  have HM : Hid (mayH f o = (decide (f[256] ≠ 0) && (decide (clsL f = 2) || singleB f) && (decide (clsL o = 2) || decide (clsL o = 0) || singleB o))) := by
    have e1 : 257 ≤ f.length := by omega
    have e2 : f.length ≤ 286 := by omega
    have e3 : 1 ≤ o.length := by omega
    have e4 : o.length ≤ 30 := by omega
    unfold Hid
    rw [mayH_cls, hgd]
    simp only [e1, e2, e3, e4, decide_true, Bool.true_and]
  clear c1 c2 c3 c4 hf ho hgd H1
  generalize f[256] = x at *
  by_cases c5 : x = 0
  · have HR : Hid (mayH f o = false) := by unfold Hid; rw [HM.out]; simp [c5]
    subst c5
    clear HM
    go_enter Try.func15, Try.ntmps15
    go_wp2
    go_ret
    exact ⟨by rw [HR.out]; rfl, rfl⟩
  have t5 : ((x : Int) == 0) = false := beq_eq_false_iff_ne.2 (by omega)
  have HM2 : Hid (mayH f o = ((decide (clsL f = 2) || singleB f) && (decide (clsL o = 2) || decide (clsL o = 0) || singleB o))) := by
    unfold Hid; rw [HM.out]; simp [c5]
  clear c5 HM
  generalize mayH f o = R at *
  -- classes
  generalize clsL f = cf at *
  generalize clsL o = co at *
  generalize singleB f = sf at *
  generalize singleB o = so at *
  by_cases d1 : cf = 2
  · have u1 : ((cf : Int) == 2) = true := by rw [d1]; rfl
    by_cases d2 : co = 2
    · have u3 : ((co : Int) == 2) = true := by rw [d2]; rfl
      have HR : Hid (R = true) := by unfold Hid; rw [HM2.out]; simp_all
      clear HM2
      go_enter Try.func15, Try.ntmps15
      go_wp2_with (first | (go_at_call 42; refine HK1.out.mono ?_; rintro e w' ⟨rfl, rfl⟩; clear HK1) | (go_at_call 42; refine HK2.out.mono ?_; rintro e w' ⟨rfl, rfl⟩; clear HK2) | (go_at_call 43; refine HSF.out.mono ?_; rintro e w' ⟨rfl, rfl⟩; clear HSF) | (go_at_call 43; refine HSO.out.mono ?_; rintro e w' ⟨rfl, rfl⟩; clear HSO))
      go_ret
      exact ⟨by rw [HR.out]; rfl, rfl⟩
    have u3 : ((co : Int) == 2) = false := beq_eq_false_iff_ne.2 (by omega)
    by_cases d0 : co = 0
    · have u4 : ((co : Int) == 0) = true := by rw [d0]; rfl
      have HR : Hid (R = true) := by unfold Hid; rw [HM2.out]; simp_all
      clear HM2
      go_enter Try.func15, Try.ntmps15
      go_wp2_with (first | (go_at_call 42; refine HK1.out.mono ?_; rintro e w' ⟨rfl, rfl⟩; clear HK1) | (go_at_call 42; refine HK2.out.mono ?_; rintro e w' ⟨rfl, rfl⟩; clear HK2) | (go_at_call 43; refine HSF.out.mono ?_; rintro e w' ⟨rfl, rfl⟩; clear HSF) | (go_at_call 43; refine HSO.out.mono ?_; rintro e w' ⟨rfl, rfl⟩; clear HSO))
      go_ret
      exact ⟨by rw [HR.out]; rfl, rfl⟩
    have u4 : ((co : Int) == 0) = false := beq_eq_false_iff_ne.2 (by omega)
    have HSO := HS2
    clear HS2
    have HR : Hid (R = so) := by unfold Hid; rw [HM2.out]; simp_all
    clear HM2
    go_enter Try.func15, Try.ntmps15
    go_wp2_with (first | (go_at_call 42; refine HK1.out.mono ?_; rintro e w' ⟨rfl, rfl⟩; clear HK1) | (go_at_call 42; refine HK2.out.mono ?_; rintro e w' ⟨rfl, rfl⟩; clear HK2) | (go_at_call 43; refine HSF.out.mono ?_; rintro e w' ⟨rfl, rfl⟩; clear HSF) | (go_at_call 43; refine HSO.out.mono ?_; rintro e w' ⟨rfl, rfl⟩; clear HSO))
    go_ret
    exact ⟨by rw [HR.out]; rfl, rfl⟩
  have u1 : ((cf : Int) == 2) = false := beq_eq_false_iff_ne.2 (by omega)
  cases sf
  case false =>
    have HSF := HS1
    clear HS1 HS2
    have HR : Hid (R = false) := by unfold Hid; rw [HM2.out]; simp_all
    clear HM2
    go_enter Try.func15, Try.ntmps15
    go_wp2_with (first | (go_at_call 42; refine HK1.out.mono ?_; rintro e w' ⟨rfl, rfl⟩; clear HK1) | (go_at_call 42; refine HK2.out.mono ?_; rintro e w' ⟨rfl, rfl⟩; clear HK2) | (go_at_call 43; refine HSF.out.mono ?_; rintro e w' ⟨rfl, rfl⟩; clear HSF) | (go_at_call 43; refine HSO.out.mono ?_; rintro e w' ⟨rfl, rfl⟩; clear HSO))
    go_ret
    exact ⟨by rw [HR.out]; rfl, rfl⟩
  have HSF := HS1
  clear HS1
  by_cases d2 : co = 2
  · have u3 : ((co : Int) == 2) = true := by rw [d2]; rfl
    have HR : Hid (R = true) := by unfold Hid; rw [HM2.out]; simp_all
    clear HM2
    go_enter Try.func15, Try.ntmps15
    go_wp2_with (first | (go_at_call 42; refine HK1.out.mono ?_; rintro e w' ⟨rfl, rfl⟩; clear HK1) | (go_at_call 42; refine HK2.out.mono ?_; rintro e w' ⟨rfl, rfl⟩; clear HK2) | (go_at_call 43; refine HSF.out.mono ?_; rintro e w' ⟨rfl, rfl⟩; clear HSF) | (go_at_call 43; refine HSO.out.mono ?_; rintro e w' ⟨rfl, rfl⟩; clear HSO))
    go_ret
    exact ⟨by rw [HR.out]; rfl, rfl⟩
  have u3 : ((co : Int) == 2) = false := beq_eq_false_iff_ne.2 (by omega)
  by_cases d0 : co = 0
  · have u4 : ((co : Int) == 0) = true := by rw [d0]; rfl
    have HR : Hid (R = true) := by unfold Hid; rw [HM2.out]; simp_all
    clear HM2
    go_enter Try.func15, Try.ntmps15
    go_wp2_with (first | (go_at_call 42; refine HK1.out.mono ?_; rintro e w' ⟨rfl, rfl⟩; clear HK1) | (go_at_call 42; refine HK2.out.mono ?_; rintro e w' ⟨rfl, rfl⟩; clear HK2) | (go_at_call 43; refine HSF.out.mono ?_; rintro e w' ⟨rfl, rfl⟩; clear HSF) | (go_at_call 43; refine HSO.out.mono ?_; rintro e w' ⟨rfl, rfl⟩; clear HSO))
    go_ret
    exact ⟨by rw [HR.out]; rfl, rfl⟩
  have u4 : ((co : Int) == 0) = false := beq_eq_false_iff_ne.2 (by omega)
  have HSO := HS2
  clear HS2
  have HR : Hid (R = so) := by unfold Hid; rw [HM2.out]; simp_all
  clear HM2
  go_enter Try.func15, Try.ntmps15
  go_wp2_with (first | (go_at_call 42; refine HK1.out.mono ?_; rintro e w' ⟨rfl, rfl⟩; clear HK1) | (go_at_call 42; refine HK2.out.mono ?_; rintro e w' ⟨rfl, rfl⟩; clear HK2) | (go_at_call 43; refine HSF.out.mono ?_; rintro e w' ⟨rfl, rfl⟩; clear HSF) | (go_at_call 43; refine HSO.out.mono ?_; rintro e w' ⟨rfl, rfl⟩; clear HSO))
  go_ret
  exact ⟨by rw [HR.out]; rfl, rfl⟩
end Go.Proofs.Ytmgoeokdlklabaa

namespace Go.Proofs.Ytmgoeokdlklabaa
open Go.RowKit M01 M04 M07 M10
set_option linter.unusedVariables false

theorem unp_cons (n c x : Nat) (tl : List Sg) (out : List Nat) (h : ¬ (c = 16 ∧ out.length = 0)) : unp n ((c, x) :: tl) out = if n < out.length + times (c, x) then none else unp n tl (out ++ List.replicate (times (c, x)) (kOf c out)) := by
  rw [unp, if_neg h]
set_option maxRecDepth 100000 in
set_option maxHeartbeats 6400000 in
theorem ref07_unpack (a : Option Addr) (cap : Nat) (l : List Sg) (n : Nat) (w : World) (hr : RowS encSg w a cap l) (hok : ∀ s ∈ l, SgOk s) (hn : n ≤ 1000) (hl : l.length ≤ 100000) :
    Calls Try.prog 50 #[.slice a l.length cap, .int .i64 (n : Nat)] w fun e w' => Below w.heap.size w w' ∧ UnpOut w.heap.size n (unp n l []) e w' := by
  have HOK := Lib.hid hok
  have HR := Lib.hid hr
  clear hr hok
  obtain ⟨R, hR0⟩ : ∃ R, R = unp n l [] := ⟨_, rfl⟩
  rw [← hR0]
  replace hR0 := Lib.hid hR0
  go_enter Try.func50, Try.ntmps50
  go_wp2
  go_loopw [6] (fun i A => ∃ k : Nat, k ≤ l.length ∧ i = .int .i64 (k : Nat) ∧ A = w) (fun i _ => l.length - (intOf i).toNat)
  case atStart => exact ⟨0, by omega, by trivial, rfl⟩
  case round =>
    obtain ⟨k, hk, rfl, hA⟩ := hrel
    have hA := hA.symm
    subst hA
    by_cases hlt : k < l.length
    · obtain ⟨b, off, rfl, hb, hcl⟩ := HR.out.at hlt
      have c0 := hcl 0 _ rfl
      have c1 := hcl 1 _ rfl
      have hs := HOK.out _ (List.getElem_mem hlt)
      clear hcl
      generalize l[k] = s at *
      have hx := hs.lt
      have hc18 := hs.1
      have hx2 := hs.2
      clear hs
      obtain ⟨c, x⟩ := s
      simp only [encSg, Nat.add_zero] at c0 c1
      rw [← Nat.add_assoc] at c1
      simp only at hx hc18 hx2
      by_cases h16 : c = 16
      · subst h16
        have hx3 : x < 4 := hx2
        have q1 : decide ((3 : Int) < (x : Int)) = false := by simp; omega
        have q2 : decide ((127 : Int) < (x : Int)) = false := by simp; omega
        clear hx2 hx hc18
        go_wp2
        go_roundw
        case rel => exact ⟨k + 1, by omega, by go_num, by trivial⟩
        case measure => simp [intOf]; omega
      by_cases h17 : c = 17
      · subst h17
        have hx3 : x < 8 := hx2
        have q1 : decide ((7 : Int) < (x : Int)) = false := by simp; omega
        have q2 : decide ((127 : Int) < (x : Int)) = false := by simp; omega
        clear hx2 hx hc18 h16
        go_wp2
        go_roundw
        case rel => exact ⟨k + 1, by omega, by go_num, by trivial⟩
        case measure => simp [intOf]; omega
      by_cases h18 : c = 18
      · subst h18
        have q2 : decide ((127 : Int) < (x : Int)) = false := by simp; omega
        clear hx2 hx hc18 h16 h17
        go_wp2
        go_roundw
        case rel => exact ⟨k + 1, by omega, by go_num, by trivial⟩
        case measure => simp [intOf]; omega
      have hx0 : x = 0 := by unfold rbits at hx2; rw [if_neg h16, if_neg h17, if_neg h18] at hx2; omega
      subst hx0
      have p1 : decide ((18 : Int) < (c : Int)) = false := by simp; omega
      have p2 : decide ((c : Int) < 16) = true := by simp; omega
      have p3 : ((c : Int) == 16) = false := beq_eq_false_iff_ne.2 (by omega)
      have p4 : ((c : Int) == 17) = false := beq_eq_false_iff_ne.2 (by omega)
      have hc16 : c < 16 := by omega
      clear hx2 hx hc18 h16 h17 h18
      go_wp2
      go_roundw
      case rel => exact ⟨k + 1, by omega, by go_num, by trivial⟩
      case measure => simp [intOf]; omega
    · obtain rfl : k = l.length := by omega
      clear hlt hk
      go_wp2
      go_loopw [9, 10] (fun s i A => ∃ (k : Nat) (out : List Nat) (b : Option Addr) (c : Nat), k ≤ l.length ∧ i = .int .i64 (k : Nat) ∧ s = .slice b out.length c ∧ OwnN 5 .u8 A w.heap.size b c out ∧ Below w.heap.size w A ∧ out.length ≤ n + 138 ∧ (out.length ≤ n → R = unp n (l.drop k) out) ∧ (n < out.length → R = none)) (fun _ i _ => l.length - (intOf i).toNat)
      case atStart => exact ⟨0, [], none, 0, by omega, by trivial, by trivial, OwnN.nil _ _ _ _, Below.refl _ _, by simp, fun _ => hR0.out, fun h => by simp at h⟩
      case round =>
        clear hR0
        obtain ⟨k, out, ob, oc, hk, rfl, rfl, hown, hbe, hol, hRa, hRb⟩ := hrel
        have HO := Lib.hid hown
        have HE := Lib.hid hbe
        have HRA := Lib.hid hRa
        have HRB := Lib.hid hRb
        clear hown hbe hRa hRb
        by_cases hin : k < l.length ∧ out.length ≤ n
        · obtain ⟨hlt, hon⟩ := hin
          obtain ⟨b, off, rfl, hb, hcl⟩ := (HR.out.below HE.out).at hlt
          have c0 := hcl 0 _ rfl
          have c1 := hcl 1 _ rfl
          have hs := HOK.out _ (List.getElem_mem hlt)
          have hR := HRA.out hon
          rw [List.drop_eq_getElem_cons hlt] at hR
          clear hcl HRA HRB
          generalize l[k] = s at *
          have hx := hs.lt
          have hc18 := hs.1
          clear hs
          obtain ⟨c, x⟩ := s
          simp only [encSg, Nat.add_zero] at c0 c1
          rw [← Nat.add_assoc] at c1
          simp only at hx hc18
          have hol2 : out.length ≤ 1000 := by omega
          by_cases h16 : c = 16
          · subst h16
            by_cases ho0 : out.length = 0
            · have HRR : Hid (R = none) := by
                rw [unp, if_pos ⟨rfl, ho0⟩] at hR; exact hR
              clear hR hol hol2
              have t0 : ((out.length : Int) == 0) = true := by rw [ho0]; rfl
              have t1 : decide (out.length ≤ n) = true := by simpa using hon
              clear ho0
              go_wp2
              go_ret2
              exact ⟨HE.out, by rw [HRR.out]; rfl⟩
            · rw [unp_cons n 16 x _ out (fun h => ho0 h.2)] at hR
              have t0 : ((out.length : Int) == 0) = false := beq_eq_false_iff_ne.2 (by omega)
              have hil : out.length - 1 < out.length := by omega
              obtain ⟨lb, rfl, hlb0, hlb, hcl, _⟩ := HO.out.at hil
              have hkv : kOf 16 out = out[out.length - 1] := by unfold kOf; rw [if_pos rfl]; simp [hil]
              rw [hkv] at hR
              have hkb : True := trivial
              have q1 : (out.length : Int) - 1 = ((out.length - 1 : Nat) : Int) := by omega
              have q2 : (out.length : Int) - 1 < (out.length : Int) := by omega
              generalize out[out.length - 1] = kv at *
              generalize out.length - 1 = ix at *
              clear ho0 hkv
              obtain ⟨tm, htm⟩ : ∃ tm, times (16, x) = tm := ⟨_, rfl⟩
              rw [htm] at hR
              have htmi : (tm : Int) = 3 + (x : Int) := by rw [← htm]; simp [times]
              have HTM := Lib.hid htmi
              have htl : tm ≤ 138 := by omega
              have HR2 := Lib.hid hR
              have t1 : decide (out.length ≤ n) = true := by simpa using hon
              clear hR htm htmi hol 
              go_wp2
              go_loopw [9, 13] (fun s j A => ∃ (m : Nat) (o : List Nat) (g : Option Addr) (cc : Nat), m ≤ tm ∧ j = .int .i64 (m : Nat) ∧ s = .slice g o.length cc ∧ o.length = out.length + m ∧ o = out ++ List.replicate m kv ∧ OwnN 5 .u8 A w.heap.size g cc o ∧ Below w.heap.size w A) (fun _ j _ => tm - (intOf j).toNat)
              case atStart => exact ⟨0, out, _, oc, by omega, by trivial, by trivial, by simp, by simp, HO.out, HE.out⟩
              case round =>
                clear HO HE
                obtain ⟨m, o, g, cc, hm, rfl, rfl, ho1, ho2, hown, hbe⟩ := hrel
                have HO := Lib.hid hown
                have HE := Lib.hid hbe
                have HO1 := Lib.hid ho1
                have HO2 := Lib.hid ho2
                have hoo : o.length ≤ 2000 := by omega
                clear ho1 ho2 hown hbe
                by_cases hml : m < tm
                · have u1 : decide ((m : Int) < 3 + (x : Int)) = true := by have := HTM.out; simp; omega
                  have HWR : Hid (w.heap.size ≤ wr.heap.size) := HE.out.size
                  go_wp2_with (at_builtin; refine app1N (y := kv) et_u8 rfl (.tmp 119) (.tmp 121) rfl rfl HO.out rfl (by omega) (by omega) (by omega) (by omega) HWR.out ?_; intro a' c' w2 hown hg hb2; replace hown := Lib.hid hown; replace hb2 := Lib.hid (HE.out.trans hb2); clear hg)
                  go_wp2
                  go_roundw
                  case rel => exact ⟨m + 1, o ++ [kv], a', c', by omega, by go_num, by rw [List.length_append]; rfl, by rw [List.length_append, HO1.out]; rfl, by rw [HO2.out, List.append_assoc, ← List.replicate_succ'], hown.out, hb2.out⟩
                  case measure => simp [intOf]; omega
                · obtain rfl : m = tm := by omega
                  have u1 : decide ((m : Int) < 3 + (x : Int)) = false := by have := HTM.out; simp; omega
                  have HX1 : Hid (o.length ≤ n → R = unp n (l.drop (k + 1)) o) := by
                    unfold Hid
                    intro h
                    have h1 := HR2.out
                    rw [HO1.out] at h
                    rw [if_neg (by omega)] at h1
                    rw [h1, HO2.out]
                  have HX2 : Hid (n < o.length → R = none) := by
                    unfold Hid
                    intro h
                    have h1 := HR2.out
                    rw [HO1.out] at h
                    rwa [if_pos (by omega)] at h1
                  have hfin : o.length ≤ n + 138 := by have := HO1.out; omega
                  clear HR2 HO1 HO2
                  go_wp2
                  go_roundw
                  case rel => exact ⟨k + 1, o, g, cc, by omega, by go_num, by trivial, HO.out, HE.out, hfin, HX1.out, HX2.out⟩
                  case measure => simp [intOf]; omega
          by_cases h17 : c = 17
          · subst h17
            rw [unp_cons n 17 x _ out (fun h => by omega), show kOf 17 out = 0 from rfl] at hR
            obtain ⟨kv, hkv⟩ : ∃ kv : Nat, kv = 0 := ⟨0, rfl⟩
            rw [← hkv] at hR
            replace hkv := Lib.hid hkv
            obtain ⟨tm, htm⟩ : ∃ tm, times (17, x) = tm := ⟨_, rfl⟩
            rw [htm] at hR
            have htmi : (tm : Int) = 3 + (x : Int) := by rw [← htm]; simp [times]
            have HTM := Lib.hid htmi
            have htl : tm ≤ 138 := by omega
            have HR2 := Lib.hid hR
            have t1 : decide (out.length ≤ n) = true := by simpa using hon
            clear hR htm htmi hol 
            go_wp2
            go_loopw [9, 13] (fun s j A => ∃ (m : Nat) (o : List Nat) (g : Option Addr) (cc : Nat), m ≤ tm ∧ j = .int .i64 (m : Nat) ∧ s = .slice g o.length cc ∧ o.length = out.length + m ∧ o = out ++ List.replicate m 0 ∧ OwnN 5 .u8 A w.heap.size g cc o ∧ Below w.heap.size w A) (fun _ j _ => tm - (intOf j).toNat)
            case atStart => exact ⟨0, out, _, oc, by omega, by trivial, by trivial, by simp, by simp, HO.out, HE.out⟩
            case round =>
              clear HO HE
              obtain ⟨m, o, g, cc, hm, rfl, rfl, ho1, ho2, hown, hbe⟩ := hrel
              have HO := Lib.hid hown
              have HE := Lib.hid hbe
              have HO1 := Lib.hid ho1
              have HO2 := Lib.hid ho2
              have hoo : o.length ≤ 2000 := by omega
              clear ho1 ho2 hown hbe
              by_cases hml : m < tm
              · have u1 : decide ((m : Int) < 3 + (x : Int)) = true := by have := HTM.out; simp; omega
                have HWR : Hid (w.heap.size ≤ wr.heap.size) := HE.out.size
                go_wp2_with (at_builtin; refine app1N (y := 0) et_u8 rfl (.tmp 119) (.tmp 121) rfl rfl HO.out rfl (by omega) (by omega) (by omega) (by omega) HWR.out ?_; intro a' c' w2 hown hg hb2; replace hown := Lib.hid hown; replace hb2 := Lib.hid (HE.out.trans hb2); clear hg)
                go_wp2
                go_roundw
                case rel => exact ⟨m + 1, o ++ [0], a', c', by omega, by go_num, by rw [List.length_append]; rfl, by rw [List.length_append, HO1.out]; rfl, by rw [HO2.out, List.append_assoc, ← List.replicate_succ'], hown.out, hb2.out⟩
                case measure => simp [intOf]; omega
              · obtain rfl : m = tm := by omega
                have u1 : decide ((m : Int) < 3 + (x : Int)) = false := by have := HTM.out; simp; omega
                have HX1 : Hid (o.length ≤ n → R = unp n (l.drop (k + 1)) o) := by
                  unfold Hid
                  intro h
                  have h1 := HR2.out
                  rw [HO1.out] at h
                  rw [if_neg (by omega)] at h1
                  rw [h1, HO2.out, hkv.out]
                have HX2 : Hid (n < o.length → R = none) := by
                  unfold Hid
                  intro h
                  have h1 := HR2.out
                  rw [HO1.out] at h
                  rwa [if_pos (by omega)] at h1
                have hfin : o.length ≤ n + 138 := by have := HO1.out; omega
                clear HR2 HO1 HO2
                go_wp2
                go_roundw
                case rel => exact ⟨k + 1, o, g, cc, by omega, by go_num, by trivial, HO.out, HE.out, hfin, HX1.out, HX2.out⟩
                case measure => simp [intOf]; omega
          by_cases h18 : c = 18
          · subst h18
            rw [unp_cons n 18 x _ out (fun h => by omega), show kOf 18 out = 0 from rfl] at hR
            obtain ⟨kv, hkv⟩ : ∃ kv : Nat, kv = 0 := ⟨0, rfl⟩
            rw [← hkv] at hR
            replace hkv := Lib.hid hkv
            obtain ⟨tm, htm⟩ : ∃ tm, times (18, x) = tm := ⟨_, rfl⟩
            rw [htm] at hR
            have htmi : (tm : Int) = 11 + (x : Int) := by rw [← htm]; simp [times]
            have HTM := Lib.hid htmi
            have htl : tm ≤ 138 := by omega
            have HR2 := Lib.hid hR
            have t1 : decide (out.length ≤ n) = true := by simpa using hon
            clear hR htm htmi hol 
            go_wp2
            go_loopw [9, 13] (fun s j A => ∃ (m : Nat) (o : List Nat) (g : Option Addr) (cc : Nat), m ≤ tm ∧ j = .int .i64 (m : Nat) ∧ s = .slice g o.length cc ∧ o.length = out.length + m ∧ o = out ++ List.replicate m 0 ∧ OwnN 5 .u8 A w.heap.size g cc o ∧ Below w.heap.size w A) (fun _ j _ => tm - (intOf j).toNat)
            case atStart => exact ⟨0, out, _, oc, by omega, by trivial, by trivial, by simp, by simp, HO.out, HE.out⟩
            case round =>
              clear HO HE
              obtain ⟨m, o, g, cc, hm, rfl, rfl, ho1, ho2, hown, hbe⟩ := hrel
              have HO := Lib.hid hown
              have HE := Lib.hid hbe
              have HO1 := Lib.hid ho1
              have HO2 := Lib.hid ho2
              have hoo : o.length ≤ 2000 := by omega
              clear ho1 ho2 hown hbe
              by_cases hml : m < tm
              · have u1 : decide ((m : Int) < 11 + (x : Int)) = true := by have := HTM.out; simp; omega
                have HWR : Hid (w.heap.size ≤ wr.heap.size) := HE.out.size
                go_wp2_with (at_builtin; refine app1N (y := 0) et_u8 rfl (.tmp 119) (.tmp 121) rfl rfl HO.out rfl (by omega) (by omega) (by omega) (by omega) HWR.out ?_; intro a' c' w2 hown hg hb2; replace hown := Lib.hid hown; replace hb2 := Lib.hid (HE.out.trans hb2); clear hg)
                go_wp2
                go_roundw
                case rel => exact ⟨m + 1, o ++ [0], a', c', by omega, by go_num, by rw [List.length_append]; rfl, by rw [List.length_append, HO1.out]; rfl, by rw [HO2.out, List.append_assoc, ← List.replicate_succ'], hown.out, hb2.out⟩
                case measure => simp [intOf]; omega
              · obtain rfl : m = tm := by omega
                have u1 : decide ((m : Int) < 11 + (x : Int)) = false := by have := HTM.out; simp; omega
                have HX1 : Hid (o.length ≤ n → R = unp n (l.drop (k + 1)) o) := by
                  unfold Hid
                  intro h
                  have h1 := HR2.out
                  rw [HO1.out] at h
                  rw [if_neg (by omega)] at h1
                  rw [h1, HO2.out, hkv.out]
                have HX2 : Hid (n < o.length → R = none) := by
                  unfold Hid
                  intro h
                  have h1 := HR2.out
                  rw [HO1.out] at h
                  rwa [if_pos (by omega)] at h1
                have hfin : o.length ≤ n + 138 := by have := HO1.out; omega
                clear HR2 HO1 HO2
                go_wp2
                go_roundw
                case rel => exact ⟨k + 1, o, g, cc, by omega, by go_num, by trivial, HO.out, HE.out, hfin, HX1.out, HX2.out⟩
                case measure => simp [intOf]; omega
          have hc16 : c < 16 := by omega
          rw [unp_cons n c x _ out (fun h => by omega), show kOf c out = c by unfold kOf; rw [if_neg h16, if_neg (by omega)]] at hR
          have p3 : ((c : Int) == 16) = false := beq_eq_false_iff_ne.2 (by omega)
          have p4 : ((c : Int) == 17) = false := beq_eq_false_iff_ne.2 (by omega)
          have p5 : ((c : Int) == 18) = false := beq_eq_false_iff_ne.2 (by omega)
          clear h16 h17 h18
          obtain ⟨tm, htm⟩ : ∃ tm, times (c, x) = tm := ⟨_, rfl⟩
          rw [htm] at hR
          have htmi : (tm : Int) = 1 := by rw [← htm]; unfold times; rw [if_pos hc16]; rfl
          have HTM := Lib.hid htmi
          have htl : tm ≤ 138 := by omega
          have HR2 := Lib.hid hR
          have t1 : decide (out.length ≤ n) = true := by simpa using hon
          clear hR htm htmi hol c1
          go_wp2
          go_loopw [9, 13] (fun s j A => ∃ (m : Nat) (o : List Nat) (g : Option Addr) (cc : Nat), m ≤ tm ∧ j = .int .i64 (m : Nat) ∧ s = .slice g o.length cc ∧ o.length = out.length + m ∧ o = out ++ List.replicate m c ∧ OwnN 5 .u8 A w.heap.size g cc o ∧ Below w.heap.size w A) (fun _ j _ => tm - (intOf j).toNat)
          case atStart => exact ⟨0, out, _, oc, by omega, by trivial, by trivial, by simp, by simp, HO.out, HE.out⟩
          case round =>
            clear HO HE
            obtain ⟨m, o, g, cc, hm, rfl, rfl, ho1, ho2, hown, hbe⟩ := hrel
            have HO := Lib.hid hown
            have HE := Lib.hid hbe
            have HO1 := Lib.hid ho1
            have HO2 := Lib.hid ho2
            have hoo : o.length ≤ 2000 := by omega
            clear ho1 ho2 hown hbe
            by_cases hml : m < tm
            · have u1 : decide ((m : Int) < 1) = true := by have := HTM.out; simp; omega
              have HWR : Hid (w.heap.size ≤ wr.heap.size) := HE.out.size
              go_wp2_with (at_builtin; refine app1N (y := c) et_u8 rfl (.tmp 119) (.tmp 121) rfl rfl HO.out rfl (by omega) (by omega) (by omega) (by omega) HWR.out ?_; intro a' c' w2 hown hg hb2; replace hown := Lib.hid hown; replace hb2 := Lib.hid (HE.out.trans hb2); clear hg)
              go_wp2
              go_roundw
              case rel => exact ⟨m + 1, o ++ [c], a', c', by omega, by go_num, by rw [List.length_append]; rfl, by rw [List.length_append, HO1.out]; rfl, by rw [HO2.out, List.append_assoc, ← List.replicate_succ'], hown.out, hb2.out⟩
              case measure => simp [intOf]; omega
            · obtain rfl : m = tm := by omega
              have u1 : decide ((m : Int) < 1) = false := by have := HTM.out; simp; omega
              have HX1 : Hid (o.length ≤ n → R = unp n (l.drop (k + 1)) o) := by
                unfold Hid
                intro h
                have h1 := HR2.out
                rw [HO1.out] at h
                rw [if_neg (by omega)] at h1
                rw [h1, HO2.out]
              have HX2 : Hid (n < o.length → R = none) := by
                unfold Hid
                intro h
                have h1 := HR2.out
                rw [HO1.out] at h
                rwa [if_pos (by omega)] at h1
              have hfin : o.length ≤ n + 138 := by have := HO1.out; omega
              clear HR2 HO1 HO2
              go_wp2
              go_roundw
              case rel => exact ⟨k + 1, o, g, cc, by omega, by go_num, by trivial, HO.out, HE.out, hfin, HX1.out, HX2.out⟩
              case measure => simp [intOf]; omega
        · have HX : Hid (R = if out.length = n then some out else none) := by
            unfold Hid
            by_cases h : out.length ≤ n
            · have h2 : k = l.length := by omega
              rw [HRA.out h, h2, List.drop_length]
              rfl
            · rw [HRB.out (by omega), if_neg (by omega)]
          clear HRA HRB
          by_cases hlt : k < l.length
          · have t1 : decide (out.length ≤ n) = false := by simp; omega
            by_cases hfin : out.length = n
            · have HX2 : Hid (R = some out) := by unfold Hid; rw [HX.out, if_pos hfin]
              have t2 : ((out.length : Int) == (n : Int)) = true := beq_iff_eq.2 (by omega)
              have t3 : ((out.length : Int) != (n : Int)) = false := by simp; omega
              clear hfin HX
              go_wp2
              go_ret2
              exact ⟨HE.out, by rw [HX2.out]; exact ⟨ob, oc, rfl, HO.out⟩⟩
            · have HX2 : Hid (R = none) := by unfold Hid; rw [HX.out, if_neg hfin]
              have t2 : ((out.length : Int) == (n : Int)) = false := beq_eq_false_iff_ne.2 (by omega)
              have t3 : ((out.length : Int) != (n : Int)) = true := by simp; omega
              clear hfin HX
              go_wp2
              go_ret2
              exact ⟨HE.out, by rw [HX2.out]; rfl⟩
          · obtain rfl : k = l.length := by omega
            by_cases hfin : out.length = n
            · have HX2 : Hid (R = some out) := by unfold Hid; rw [HX.out, if_pos hfin]
              have t2 : ((out.length : Int) == (n : Int)) = true := beq_iff_eq.2 (by omega)
              have t3 : ((out.length : Int) != (n : Int)) = false := by simp; omega
              clear hfin HX
              go_wp2
              go_ret2
              exact ⟨HE.out, by rw [HX2.out]; exact ⟨ob, oc, rfl, HO.out⟩⟩
            · have HX2 : Hid (R = none) := by unfold Hid; rw [HX.out, if_neg hfin]
              have t2 : ((out.length : Int) == (n : Int)) = false := beq_eq_false_iff_ne.2 (by omega)
              have t3 : ((out.length : Int) != (n : Int)) = true := by simp; omega
              clear hfin HX
              go_wp2
              go_ret2
              exact ⟨HE.out, by rw [HX2.out]; rfl⟩
end Go.Proofs.Ytmgoeokdlklabaa

namespace Go.Proofs.Ytmgoeokdlklabaa
open Go.RowKit M01 M04 M07 M09 M10
set_option linter.unusedVariables false


theorem sgR_elems : ElemS Try.prog 89 93 encSg (.agg #[.int .u8 0, .int .u8 0]) 2 := ⟨Try.underlying89, by kernel_rfl, by kernel_rfl⟩
/-- what a head's reading answers -/
def GetR (R : Option ((List Nat × List Nat) × Nat)) (top B : Nat) (e : Ending) (w' : World) : Prop := match R with
  | some ((f, o), at2) => ∃ g1 c1 g2 c2, e = .returned (.tuple #[.slice g1 f.length c1, .slice g2 o.length c2, .int .i64 (at2 : Nat), .int .i64 0]) ∧ RowN .u8 w' g1 c1 f ∧ RowN .u8 w' g2 c2 o ∧ (∀ x, g1 = some x → B ≤ x.block) ∧ (∀ x, g2 = some x → B ≤ x.block)
  | none => ∃ m : Nat, m ≤ top ∧ e = .returned (.tuple #[.slice none 0 0, .slice none 0 0, .int .i64 (m : Nat), .int .i64 2])
theorem getR_none {R : Option ((List Nat × List Nat) × Nat)} {top m B : Nat} {e : Ending} {w w' : World} (h : R = none) (hb : Below w.heap.size w w') (hm : m ≤ top) (he : e = .returned (.tuple #[.slice none 0 0, .slice none 0 0, .int .i64 (m : Nat), .int .i64 2])) : Below w.heap.size w w' ∧ GetR R top B e w' := by
  subst h
  exact ⟨hb, m, hm, he⟩
theorem ref01_some (a : Option Addr) (cap : Nat) (bs : List Nat) (at_ n : Nat) (w : World) (hr : RowB w a cap (bitL bs)) (hl : bs.length ≤ 1000) (ha : at_ ≤ 8 * bs.length) (hn : n ≤ 32) :
    ∃ v m x : Nat, m ≤ 8 * bs.length ∧ x ≤ 2 ∧ v < 4294967296 ∧ Calls Try.prog 44 #[.slice a (bitL bs).length cap, .int .i64 (at_ : Nat), .int .i64 (n : Nat)] w fun e w' => e = .returned (.tuple #[.int .u32 (v : Nat), .int .i64 (m : Nat), .int .i64 (x : Nat)]) ∧ w' = w := by
  have h := ref01_get a cap bs at_ n w hr hl ha hn
  by_cases hf : at_ + n ≤ 8 * bs.length
  · simp only [if_pos hf] at h
    have h1 := num_lt bs at_ n
    have h2 : (2 : Nat) ^ n ≤ 2 ^ 32 := Nat.pow_le_pow_right (by decide) hn
    exact ⟨num bs at_ n, at_ + n, 0, hf, by omega, by omega, h⟩
  · simp only [if_neg hf] at h
    exact ⟨0, at_, 2, ha, by omega, by omega, h⟩
theorem ref01_fit {a : Option Addr} {cap : Nat} {bs : List Nat} {at_ n : Nat} {w : World} (hr : RowB w a cap (bitL bs)) (hl : bs.length ≤ 1000) (hf : at_ + n ≤ 8 * bs.length) (hn : n ≤ 32) :
    Calls Try.prog 44 #[.slice a (bitL bs).length cap, .int .i64 (at_ : Nat), .int .i64 (n : Nat)] w fun e w' => e = .returned (.tuple #[.int .u32 (num bs at_ n : Nat), .int .i64 ((at_ + n : Nat) : Int), .int .i64 0]) ∧ w' = w := by
  have h := ref01_get a cap bs at_ n w hr hl (by omega) hn
  simp only [if_pos hf] at h
  exact h
theorem ref01_not {a : Option Addr} {cap : Nat} {bs : List Nat} {at_ n : Nat} {w : World} (hr : RowB w a cap (bitL bs)) (hl : bs.length ≤ 1000) (ha : at_ ≤ 8 * bs.length) (hf : ¬ at_ + n ≤ 8 * bs.length) (hn : n ≤ 32) :
    Calls Try.prog 44 #[.slice a (bitL bs).length cap, .int .i64 (at_ : Nat), .int .i64 (n : Nat)] w fun e w' => e = .returned (.tuple #[.int .u32 0, .int .i64 (at_ : Nat), .int .i64 2]) ∧ w' = w := by
  have h := ref01_get a cap bs at_ n w hr hl ha hn
  simp only [if_neg hf] at h
  exact h

theorem lens_short (bs : List Nat) (p k : Nat) : ¬ long (lensL bs p k) = true := by
  have h : ∀ x ∈ lensL bs p k, x < 8 := by
    induction k with
    | zero => intro x hx; unfold lensL at hx; have := (List.mem_replicate.1 hx).2; omega
    | succ k ih =>
      intro x hx
      unfold lensL at hx
      rcases List.mem_or_eq_of_mem_set hx with h | h
      · exact ih x h
      · rw [h]; exact num_lt bs (p + 3 * k) 3
  intro hl
  unfold long at hl
  rw [List.any_eq_true] at hl
  obtain ⟨x, hx, hd⟩ := hl
  have := h x hx
  simp at hd
  omega
set_option maxRecDepth 100000 in
set_option maxHeartbeats 12800000 in
theorem ref09_get (a : Option Addr) (cap : Nat) (bs : List Nat) (at_ : Nat) (w : World) (hr : RowB w a cap (bitL bs)) (hl : bs.length ≤ 1000) (h0 : 0 < bs.length) (ha : at_ ≤ 8 * bs.length) :
    Calls Try.prog 18 #[.slice a (bitL bs).length cap, .int .i64 (at_ : Nat)] w fun e w' => Below w.heap.size w w' ∧ GetR (hdr bs at_) (8 * bs.length) w.heap.size e w' := by
  have HRB := Lib.hid hr
  obtain ⟨R, hR⟩ : ∃ R, R = hdr bs at_ := ⟨_, rfl⟩
  rw [← hR]
  unfold hdr at hR
  have HGS := Lib.hid (fun p n hp hn => ref01_some a cap bs p n w hr hl hp hn)
  have HGF := Lib.hid (fun p n A h1 h2 h3 => ref01_fit (a := a) (cap := cap) (bs := bs) (at_ := p) (n := n) (w := A) h1 hl h2 h3)
  have HGN := Lib.hid (fun p n A h1 h2 h3 h4 => ref01_not (a := a) (cap := cap) (bs := bs) (at_ := p) (n := n) (w := A) h1 hl h2 h3 h4)
  have HLL := Lib.hid (bitL_len bs)
  have HBL := Lib.hid (bitL_lt bs)
  have HBT := Lib.hid (fun A h => ref09_bits a cap (bitL bs) A h (bitL_lt bs) (by rw [bitL_len]; omega))
  have HG6 := Lib.hid (fun g1 g2 c1 c2 l es p A h1 h2 h3 h4 h5 h6 => ref06_get g1 g2 c1 c2 l bs es p A h1 h2 h3 h4 h5 hl h0 h6)
  generalize bitL bs = L at *
  clear hr
  by_cases hfit : 8 * bs.length < at_ + 14
  · have HR : Hid (R = none) := by unfold Hid; rw [hR, if_pos hfit]
    clear hR
    by_cases f1 : at_ + 5 ≤ 8 * bs.length
    · have HC1 := Lib.hid (HGF.out at_ 5 w HRB.out f1 (by omega))
      have hv1 := num_lt bs at_ 5
      by_cases f2 : at_ + 5 + 5 ≤ 8 * bs.length
      · have HC2 := Lib.hid (HGF.out (at_ + 5) 5 w HRB.out f2 (by omega))
        have HC3 := Lib.hid (HGN.out (at_ + 5 + 5) 4 w HRB.out f2 (by omega) (by omega))
        have hv2 := num_lt bs (at_ + 5) 5
        generalize num bs at_ 5 = x at *
        generalize num bs (at_ + 5) 5 = y at *
        clear f1 hfit HRB
        go_enter Try.func18, Try.ntmps18
        go_wp2_with fail
        refine HC1.out.mono ?_
        rintro e w1 ⟨rfl, rfl⟩
        go_wp2_with fail
        refine HC2.out.mono ?_
        rintro e w1 ⟨rfl, rfl⟩
        go_wp2_with fail
        refine HC3.out.mono ?_
        rintro e w1 ⟨rfl, rfl⟩
        go_wp2
        ((try simp only [Exit.inBlock, Exit.then]); refine bodyPost_ret (results_tmp4 rfl _ _ _) rfl ?_)
        exact getR_none HR.out (Below.refl _ _) f2 rfl
      · have HC2 := Lib.hid (HGN.out (at_ + 5) 5 w HRB.out f1 f2 (by omega))
        obtain ⟨v3, m3, x3, hm3, hx3, hv3, h3⟩ := HGS.out (at_ + 5) 4 f1 (by omega)
        have HC3 := Lib.hid h3
        clear h3
        generalize num bs at_ 5 = x at *
        clear f1 f2 hfit HRB
        go_enter Try.func18, Try.ntmps18
        go_wp2_with fail
        refine HC1.out.mono ?_
        rintro e w1 ⟨rfl, rfl⟩
        go_wp2_with fail
        refine HC2.out.mono ?_
        rintro e w1 ⟨rfl, rfl⟩
        go_wp2_with fail
        refine HC3.out.mono ?_
        rintro e w1 ⟨rfl, rfl⟩
        go_wp2
        ((try simp only [Exit.inBlock, Exit.then]); refine bodyPost_ret (results_tmp4 rfl _ _ _) rfl ?_)
        exact getR_none HR.out (Below.refl _ _) hm3 rfl
    · have HC1 := Lib.hid (HGN.out at_ 5 w HRB.out ha f1 (by omega))
      have HC2 := HC1
      obtain ⟨v3, m3, x3, hm3, hx3, hv3, h3⟩ := HGS.out at_ 4 ha (by omega)
      have HC3 := Lib.hid h3
      clear h3
      clear f1 hfit HRB
      go_enter Try.func18, Try.ntmps18
      go_wp2_with fail
      refine HC1.out.mono ?_
      rintro e w1 ⟨rfl, rfl⟩
      go_wp2_with fail
      refine HC2.out.mono ?_
      rintro e w1 ⟨rfl, rfl⟩
      go_wp2_with fail
      refine HC3.out.mono ?_
      rintro e w1 ⟨rfl, rfl⟩
      go_wp2
      ((try simp only [Exit.inBlock, Exit.then]); refine bodyPost_ret (results_tmp4 rfl _ _ _) rfl ?_)
      exact getR_none HR.out (Below.refl _ _) hm3 rfl
  have HF3 : Hid (R = hdrB bs (num bs at_ 5 + 257) (num bs (at_ + 5) 5 + 1) (num bs (at_ + 10) 4 + 4) (at_ + 14)) := by unfold Hid; rw [hR, if_neg hfit]
  have HC1 := Lib.hid (HGF.out at_ 5 w HRB.out (by omega) (by omega))
  have HC2 := Lib.hid (HGF.out (at_ + 5) 5 w HRB.out (by omega) (by omega))
  have HC3 := Lib.hid (HGF.out (at_ + 5 + 5) 4 w HRB.out (by omega) (by omega))
  have hv1 := num_lt bs at_ 5
  have hv2 := num_lt bs (at_ + 5) 5
  have hv3 := num_lt bs (at_ + 10) 4
  have hp : at_ + 14 ≤ 8 * bs.length := by omega
  rw [show at_ + 5 + 5 = at_ + 10 by omega, show at_ + 10 + 4 = at_ + 14 by omega] at HC3
  rw [show at_ + 5 + 5 = at_ + 10 by omega] at HC2
  generalize num bs at_ 5 = x at *
  generalize num bs (at_ + 5) 5 = y at *
  generalize num bs (at_ + 10) 4 = z at *
  clear hR hfit
  obtain ⟨p, hpe⟩ : ∃ p, at_ + 14 = p := ⟨_, rfl⟩
  rw [hpe] at HF3 HC3 hp
  clear hpe
  obtain ⟨na, hna⟩ : ∃ na, x + 257 = na := ⟨_, rfl⟩
  obtain ⟨nb, hnb⟩ : ∃ nb, y + 1 = nb := ⟨_, rfl⟩
  obtain ⟨n, hn⟩ : ∃ n, z + 4 = n := ⟨_, rfl⟩
  have qa : (x : Int) + 257 = (na : Int) := by omega
  have qb : (y : Int) + 1 = (nb : Int) := by omega
  have qn : (z : Int) + 4 = (n : Int) := by omega
  have hna2 : na ≤ 288 ∧ nb ≤ 32 ∧ n ≤ 19 ∧ 1 ≤ nb ∧ 257 ≤ na := by omega
  rw [hna, hnb, hn] at HF3
  clear hna hnb hn hv1 hv2 hv3
  go_enter Try.func18, Try.ntmps18
  go_wp2_with fail
  refine HC1.out.mono ?_
  rintro e w1 ⟨rfl, rfl⟩
  go_wp2_with fail
  refine HC2.out.mono ?_
  rintro e w1 ⟨rfl, rfl⟩
  go_wp2_with fail
  refine HC3.out.mono ?_
  rintro e w1 ⟨rfl, rfl⟩
  clear HC1 HC2 HC3
  go_wp2_with (first | (at_make; refine makeN (n := 19) et_u8 rfl _ _ rfl w1.heap.size rfl rfl (by omega) (by omega) (Nat.le_refl _) ?_; intro w2 hown2 hg2))
  have HOWN2 := Lib.hid hown2
  have HB2 := Lib.hid (Below.of_grown hg2 (Nat.le_refl _) (fun k e => by cases e) : Below w1.heap.size w1 w2)
  clear hown2 hg2
  obtain ⟨lb, hlb⟩ : ∃ lb, w1.heap.size = lb := ⟨_, rfl⟩
  have HLB := Lib.hid hlb
  rw [hlb] at HOWN2
  simp only [hlb]
  clear hlb
  go_loopw [1, 17] (fun at1 i A => ∃ k : Nat, k ≤ n ∧ i = .int .i64 (k : Nat) ∧ at1 = .int .i64 ((p + 3 * k : Nat) : Int) ∧ p + 3 * k ≤ 8 * bs.length ∧ OwnN 5 .u8 A lb (some ⟨lb, 0, none⟩) 19 (lensL bs p k) ∧ Below w1.heap.size w1 A) (fun _ i _ => n - (intOf i).toNat)
  case atStart => exact ⟨0, by omega, by trivial, by trivial, by omega, HOWN2.out, HB2.out⟩
  case round =>
    clear HOWN2 HB2
    obtain ⟨k, hk, rfl, rfl, hpk, hown, hbe⟩ := hrel
    have HOWN := Lib.hid hown
    have HBE := Lib.hid hbe
    clear hbe
    by_cases hlt : k < n
    · have hk19 : k < ordL.length := by show k < 19; omega
      have hge : ordL[k] = ordL.getD k 0 := by simp [hk19]
      have hc19 := ord_lt ⟨k, by omega⟩
      have HLS := Lib.hid (show lensL bs p (k + 1) = (lensL bs p k).set (ordL.getD k 0) (num bs (p + 3 * k) 3) from rfl)
      have hll := lensL_len bs p k
      have HORD := Lib.hid (fun (A : World) => (show (A.alloc (.cells #[.int .i64 16, .int .i64 17, .int .i64 18, .int .i64 0, .int .i64 8, .int .i64 7, .int .i64 9, .int .i64 6, .int .i64 10, .int .i64 5, .int .i64 11, .int .i64 4, .int .i64 12, .int .i64 3, .int .i64 13, .int .i64 2, .int .i64 14, .int .i64 1, .int .i64 15] 3)).cell? ⟨A.heap.size, k, none⟩ = some (.int .i64 (ordL.getD k 0 : Nat)) from by
        obtain ⟨b, off, he, _, hc⟩ := (rowN_lit .i64 A ordL 3 _ A.heap.size rfl rfl (by decide)).at hk19
        simp only [Option.some.injEq, Addr.mk.injEq, and_true] at he
        obtain ⟨rfl, rfl⟩ := he
        rw [Nat.zero_add, hge] at hc
        exact hc))
      simp only at hc19
      clear hk19 hge
      generalize ordL.getD k 0 = c at *
      obtain ⟨g', he2, _, hlw, hcl, hfr⟩ := hown.at (i := c) (by omega)
      simp only [Option.some.injEq, Addr.mk.injEq, and_true] at he2
      subst he2
      generalize (lensL bs p k)[c] = old at *
      clear hown hll
      obtain ⟨p3, hp3⟩ : ∃ p3, p + 3 * k = p3 := ⟨_, rfl⟩
      have hp3' : p3 ≤ 8 * bs.length := by omega
      by_cases h4 : p + 3 * k + 3 ≤ 8 * bs.length
      case neg =>
        have HR : Hid (R = none) := by
          unfold Hid; rw [HF3.out]; unfold hdrB; rw [if_pos (by omega)]
        have HC := Lib.hid (HGN.out p3 3 wr (HRB.out.below HBE.out) hp3' (by omega) (by omega))
        have hkn : (k : Int) < (n : Int) := by omega
        rw [hp3]
        clear h4 hp3 hpk hcl hfr
        go_wp2_with fail
        refine HC.out.mono ?_
        rintro e w6 ⟨rfl, rfl⟩
        go_wp2
        ((try simp only [Exit.inBlock, Exit.then]); refine bodyPost_ret (results_tmp4 rfl _ _ _) rfl ?_)
        exact getR_none HR.out HBE.out hp3' rfl
      have HC := Lib.hid (HGF.out p3 3 wr (HRB.out.below HBE.out) (by omega) (by omega))
      have hv := num_lt bs p3 3
      rw [hp3] at HLS ⊢
      have HP3 : Hid (p + 3 * (k + 1) = p3 + 3) := by unfold Hid; omega
      have hp4 : p + 3 * (k + 1) ≤ 8 * bs.length := by omega
      clear h4 hp3 hpk
      generalize num bs p3 3 = v at *
      go_wp2_with fail
      refine HC.out.mono ?_
      rintro e w6 ⟨rfl, rfl⟩
      go_wp2_with fail
      refine (ref09_order w6).mono ?_
      rintro e w7 ⟨rfl, rfl⟩
      have ho := HORD.out w6
      have hbx := box_b w6 (.cells #[.int .i64 16, .int .i64 17, .int .i64 18, .int .i64 0, .int .i64 8, .int .i64 7, .int .i64 9, .int .i64 6, .int .i64 10, .int .i64 5, .int .i64 11, .int .i64 4, .int .i64 12, .int .i64 3, .int .i64 13, .int .i64 2, .int .i64 14, .int .i64 1, .int .i64 15] 3)
      have hcl7 := (hbx.cell (p := ⟨lb, c, none⟩) hlw).trans hcl
      have hfr7 := (World.frozen?_of_block (a := ⟨lb, c, none⟩) (hbx.block lb hlw)).trans hfr
      have HBX := Lib.hid hbx
      clear hbx hcl hfr HORD
      generalize w6.alloc (.cells #[.int .i64 16, .int .i64 17, .int .i64 18, .int .i64 0, .int .i64 8, .int .i64 7, .int .i64 9, .int .i64 6, .int .i64 10, .int .i64 5, .int .i64 11, .int .i64 4, .int .i64 12, .int .i64 3, .int .i64 13, .int .i64 2, .int .i64 14, .int .i64 1, .int .i64 15] 3) = W at *
      generalize hws : w6.heap.size = ws at *
      have HWS := Lib.hid hws
      clear hws
      have hv8 : v < 8 := by omega
      have hk19 : k < 19 := by omega
      go_wp2
      go_roundw
      case rel => exact ⟨k + 1, by omega, by go_num, by rw [HP3.out]; go_num, hp4, by rw [HLS.out]; exact ((HOWN.out.below (HWS.out.symm ▸ HBX.out)).stored c v).1, (HBE.out.trans ((HWS.out.symm ▸ HBX.out).mono HBE.out.size)).setCell (p := ⟨lb, c, none⟩) (by show _ ≤ lb; have := HLB.out; omega) _⟩
      case measure => simp [intOf]; omega
    · obtain rfl : k = n := by omega
      have hll := lensL_len bs p k
      have HF4 := Lib.hid (show R = if (clsE (lensL bs p k)).1 ≠ 2 then none else hdrE na (na + nb) (sgL (lensL bs p k) bs (na + nb) 400 (p + 3 * k) 0 []) from by rw [HF3.out]; unfold hdrB; rw [if_neg (by omega)])
      have HC2 := Lib.hid (fun h => cls2 (l := lensL bs p k) h)
      have HCL := Lib.hid (fun A (h : RowN .u8 A (some ⟨lb, 0, none⟩) 19 (lensL bs p k)) => ref09_class (some ⟨lb, 0, none⟩) 19 (lensL bs p k) A h)
      have HRW := Lib.hid (fun A (h : RowN .u8 A (some ⟨lb, 0, none⟩) 19 (lensL bs p k)) h1 h2 => ref06_rows (some ⟨lb, 0, none⟩) 19 (lensL bs p k) A h h1 h2)
      have hcc : clsL (lensL bs p k) = (clsE (lensL bs p k)).1 := by unfold clsL; rw [if_neg (lens_short bs p k)]
      rw [hll, hcc] at HCL
      rw [hll] at HRW
      clear hown HF3 hcc
      have HLEN := Lib.hid hll
      clear hll
      generalize lensL bs p k = lens at *
      generalize p + 3 * k = p2 at *
      go_wp2_with fail
      refine (HCL.out _ HOWN.out.row).mono ?_
      rintro e w6 ⟨rfl, rfl⟩
      clear HCL
      by_cases hcl : (clsE lens).1 = 2
      case neg =>
        have HR : Hid (R = none) := by unfold Hid; rw [HF4.out, if_pos hcl]
        have t1 : (((clsE lens).1 : Int) != 2) = true := by simp; omega
        have t2 : (((clsE lens).1 : Int) == 2) = false := beq_eq_false_iff_ne.2 (by omega)
        clear HF4 HC2 HRW hcl
        generalize (clsE lens).1 = ce at *
        go_wp2
        ((try simp only [Exit.inBlock, Exit.then]); refine bodyPost_ret (results_tmp4 rfl _ _ _) rfl ?_)
        exact getR_none HR.out HBE.out hpk rfl
      obtain ⟨hw0, hmay⟩ := HC2.out hcl
      have hwt : weight lens ≤ 2 ^ 20 := by
        unfold wordsE at hw0
        rw [if_neg (by simpa using hmay)] at hw0
        by_cases h : 2 ^ 20 < weight lens
        · rw [if_pos h] at hw0; simp at hw0
        · omega
      have HF5 := Lib.hid (show R = hdrE na (na + nb) (sgL lens bs (na + nb) 400 p2 0 []) from by rw [HF4.out, if_neg (by simpa using hcl)])
      have HMAY := Lib.hid hmay
      have HWT := Lib.hid hwt
      have ht1 : (((clsE lens).1 : Int) != 2) = false := by rw [hcl]; rfl
      have HRR := Lib.hid (HRW.out w6 HOWN.out.row hmay hwt)
      clear HF4 HC2 hcl hw0 hmay hwt HRW
      generalize (clsE lens).1 = ce at *
      go_wp2_with fail
      refine HRR.out.mono ?_
      rintro e w8 ⟨rg, rc, es, rfl, hrs, hrt, hb8⟩
      have HB8 := Lib.hid (HBE.out.trans (hb8.mono HBE.out.size))
      have HRS := Lib.hid hrs
      have HRT := Lib.hid hrt
      clear hrs hrt hb8 HRR HBE HOWN ht1
      go_wp2_with fail
      refine (HBT.out w8 (HRB.out.below HB8.out)).mono ?_
      rintro e w9 ⟨bg, bc, rfl, hown9, hb9⟩
      have HB9 := Lib.hid (HB8.out.trans (hb9.mono HB8.out.size))
      have HRS9 := Lib.hid (HRS.out.below hb9)
      have HRT9 := Lib.hid (HRT.out.below hb9)
      have HBR9 := Lib.hid hown9.row
      clear hown9 hb9 HBT HB8 HRS HRT
      obtain ⟨tot, htot⟩ : ∃ tot, na + nb = tot := ⟨_, rfl⟩
      have qt : (na : Int) + (nb : Int) = (tot : Int) := by omega
      have htot2 : tot ≤ 320 ∧ na < tot := by omega
      rw [htot] at HF5
      replace htot := Lib.hid htot
      obtain ⟨SG, hSG⟩ : ∃ SG, SG = sgL lens bs tot 400 p2 0 [] := ⟨_, rfl⟩
      rw [← hSG] at HF5
      replace hSG := Lib.hid hSG
      go_wp2
      go_loopw [1, 24, 25] (fun p1 s sd A => ∃ (f at2 said : Nat) (acc : List Sg) (b : Option Addr) (c : Nat), p1 = .int .i64 (at2 : Nat) ∧ at2 ≤ 8 * bs.length ∧ s = .slice b acc.length c ∧ sd = .int .i64 (said : Nat) ∧ OwnS encSg 93 A w9.heap.size b c acc ∧ Below w9.heap.size w9 A ∧ (∀ s ∈ acc, SgOk s) ∧ acc.length ≤ said ∧ said ≤ 500 ∧ f + acc.length = 400 ∧ acc.length ≤ 320 ∧ SG = sgL lens bs tot f at2 said acc) (fun _ _ sd _ => 1000 - (intOf sd).toNat)
      case atStart => exact ⟨400, p2, 0, [], none, 0, by trivial, hpk, by trivial, by trivial, OwnS.nil _ _ _ _, Below.refl _ _, by simp, by simp, by omega, by trivial, by simp, hSG.out⟩
      case round =>
        clear hSG
        obtain ⟨f, at2, said, acc, sb, sc, rfl, hat2, rfl, rfl, hown, hbe, hok, hal, hs5, hf, hal3, hsg⟩ := hrel
        have HOWN := Lib.hid hown
        have HBE := Lib.hid hbe
        have HOK := Lib.hid hok
        clear hown hbe hok
        by_cases hlt : said < tot
        · obtain ⟨f, rfl⟩ : ∃ g, f = g + 1 := ⟨f - 1, by omega⟩
          rw [sgL_succ] at hsg
          unfold sgStep at hsg
          rw [if_pos hlt] at hsg
          have HG := Lib.hid (HG6.out rg bg rc bc lens es at2 wr (HRS9.out.below HBE.out) (by rw [HLEN.out]; exact HRT9.out.below HBE.out) HMAY.out HWT.out (HBR9.out.below HBE.out) hat2)
          rw [HLEN.out] at HG
          have HSS := Lib.hid (fun s a (h : sym lens bs at2 = some (s, a)) => (⟨sym_some HMAY.out.1 h, (decF_loc (d := 0) (bs' := bs) _ _ _ _ _ _ h).2.1 hat2⟩ : (s < lens.length ∧ a = at2 + lens.getD s 0 ∧ at2 < a) ∧ a ≤ 8 * bs.length))
          rw [HLEN.out] at HSS
          have hsi : (said : Int) < (tot : Int) := by omega
          generalize hsy : sym lens bs at2 = s1 at *
          rcases s1 with _ | ⟨c, a1⟩
          · have HR : Hid (R = none) := by unfold Hid; rw [HF5.out, hsg]; rfl
            clear hsg HSS hsy
            go_wp2_with fail
            refine HG.out.mono ?_
            rintro e w10 ⟨hs10, hb10⟩
            obtain ⟨m, hm1, hm2, rfl⟩ := hs10
            have HB10 := Lib.hid ((HB9.out.trans (HBE.out.mono HB9.out.size)).trans (hb10.mono (Nat.le_trans HB9.out.size HBE.out.size)))
            clear HG hb10
            go_wp2
            ((try simp only [Exit.inBlock, Exit.then]); refine bodyPost_ret (results_tmp4 rfl _ _ _) rfl ?_)
            exact getR_none HR.out HB10.out hat2 rfl
          obtain ⟨⟨hc19, hq, hat3⟩, ha1⟩ := HSS.out c a1 rfl
          clear hq
          have HSG := Lib.hid hsg
          clear HSS hsy hsg
          go_wp2_with fail
          refine HG.out.mono ?_
          rintro e w10 ⟨hs10, hb10⟩
          obtain rfl : e = _ := hs10
          have HB10 := Lib.hid (HBE.out.trans (hb10.mono HBE.out.size))
          have HOW10 := Lib.hid (HOWN.out.below hb10)
          clear HG hb10 HOWN HBE
          go_wp2_with fail
          refine (ref09_extra c w10).mono ?_
          rintro e w10' ⟨rfl, rfl⟩
          have hbn7 : rbits c ≤ 7 := by unfold rbits; (repeat' split) <;> omega
          have HTD := Lib.hid (show ∀ v, times (c, v) = if c < 16 then 1 else if c < 18 then 3 + v else 11 + v from fun v => rfl)
          have HSGOK := Lib.hid (fun v (h : v < 2 ^ rbits c) => (show SgOk (c, v) from ⟨by show c ≤ 18; omega, h⟩))
          have HSG2 := Lib.hid (show SG = if a1 + rbits c ≤ 8 * bs.length then sgL lens bs tot f (a1 + rbits c) (said + times (c, num bs a1 (rbits c))) (acc ++ [(c, num bs a1 (rbits c))]) else none from HSG.out)
          clear HSG
          generalize rbits c = bn at *
          have HRBA := Lib.hid (HRB.out.below (HB9.out.trans (HB10.out.mono HB9.out.size)))
          by_cases h10 : a1 + bn ≤ 8 * bs.length
          case neg =>
            have HR : Hid (R = none) := by unfold Hid; rw [HF5.out, HSG2.out, if_neg h10]; rfl
            have HC := Lib.hid (HGN.out a1 bn w10' HRBA.out ha1 h10 (by omega))
            clear HSG2 h10
            go_wp2_with fail
            refine HC.out.mono ?_
            rintro e w11 ⟨rfl, rfl⟩
            go_wp2
            ((try simp only [Exit.inBlock, Exit.then]); refine bodyPost_ret (results_tmp4 rfl _ _ _) rfl ?_)
            exact getR_none HR.out (HB9.out.trans (HB10.out.mono HB9.out.size)) hat2 rfl
          have HC := Lib.hid (HGF.out a1 bn w10' HRBA.out h10 (by omega))
          have hv := num_lt bs a1 bn
          have HSG3 : Hid (SG = sgL lens bs tot f (a1 + bn) (said + times (c, num bs a1 bn)) (acc ++ [(c, num bs a1 bn)])) := by unfold Hid; rw [HSG2.out, if_pos h10]
          have hok1 := HSGOK.out (num bs a1 bn) hv
          have hv7 : num bs a1 bn < 128 := hok1.lt
          have htb1 := times_bound hok1
          have HOK1 := Lib.hid hok1
          clear HSG2 hok1 HRBA
          generalize num bs a1 bn = v at *
          obtain ⟨a2, ha2⟩ : ∃ a2, a1 + bn = a2 := ⟨_, rfl⟩
          rw [ha2] at HC HSG3 h10
          clear ha2 hv
          obtain ⟨tm, htme⟩ : ∃ tm, tm = times (c, v) := ⟨_, rfl⟩
          rw [← htme] at HSG3 htb1
          have htme2 := htme.trans (HTD.out v)
          clear htme HTD HSGOK
          have htme := Lib.hid htme2
          clear htme2
          go_wp2_with fail
          refine HC.out.mono ?_
          rintro e w11 ⟨rfl, rfl⟩
          clear HC
          have hsz11 : w9.heap.size ≤ w11.heap.size := HB10.out.size
          go_wp2_with (at_builtin; refine (fun h => Hid.out h) ?_)
          unfold Hid
          refine app1S sgR_elems rfl (.tmp 138) (.tmp 144) rfl (c, v) (base := w9.heap.size) rfl HOW10.out rfl rfl (Nat.le_refl _) (by decide) (by omega) (by omega) hsz11 ?_
          intro a7 cap7 w7 hown7 hg7 hb7
          have HB7 := Lib.hid (HB10.out.trans hb7)
          replace hown7 := Lib.hid hown7
          have HOK7 : Hid (∀ s ∈ acc ++ [(c, v)], SgOk s) := by
            unfold Hid
            intro s hs
            rcases List.mem_append.1 hs with h | h
            · exact HOK.out s h
            · rw [List.mem_singleton.1 h]; exact HOK1.out
          clear hg7 hb7 HOK HOK1 HB10 HOW10 hsz11
          by_cases h16 : c = 16 ∨ c = 17
          · have htm2 : tm = 3 + v := by rw [htme.out]; rw [if_neg (by omega), if_pos (by omega)]
            obtain ⟨s3, hs3⟩ : ∃ s3, said + 3 + v = s3 := ⟨_, rfl⟩
            have qc : (said : Int) + 3 + (v : Int) = (s3 : Int) := by omega
            have HSG4 : Hid (SG = sgL lens bs tot f a2 s3 (acc ++ [(c, v)])) := by unfold Hid; rw [show s3 = said + tm by omega]; exact HSG3.out
            have hsm : s3 ≤ 500 ∧ said < s3 ∧ acc.length + 1 ≤ s3 := by omega
            clear htm2 hs3 HSG3 htme
            rcases h16 with rfl | rfl
            · go_wp2
              go_roundw
              case rel => exact ⟨f, a2, s3, acc ++ [(16, v)], a7, cap7, by go_num, h10, by rw [List.length_append]; rfl, by go_num, hown7.out, HB7.out, HOK7.out, by rw [List.length_append]; show acc.length + 1 ≤ _; omega, by omega, by rw [List.length_append]; show f + (acc.length + 1) = 400; omega, by rw [List.length_append]; show acc.length + 1 ≤ 320; omega, HSG4.out⟩
              case measure => simp [intOf]; omega
            · go_wp2
              go_roundw
              case rel => exact ⟨f, a2, s3, acc ++ [(17, v)], a7, cap7, by go_num, h10, by rw [List.length_append]; rfl, by go_num, hown7.out, HB7.out, HOK7.out, by rw [List.length_append]; show acc.length + 1 ≤ _; omega, by omega, by rw [List.length_append]; show f + (acc.length + 1) = 400; omega, by rw [List.length_append]; show acc.length + 1 ≤ 320; omega, HSG4.out⟩
              case measure => simp [intOf]; omega
          by_cases h18 : c = 18
          · have htm2 : tm = 11 + v := by rw [htme.out]; rw [if_neg (by omega), if_neg (by omega)]
            obtain ⟨s3, hs3⟩ : ∃ s3, said + 11 + v = s3 := ⟨_, rfl⟩
            have qc : (said : Int) + 11 + (v : Int) = (s3 : Int) := by omega
            have HSG4 : Hid (SG = sgL lens bs tot f a2 s3 (acc ++ [(c, v)])) := by unfold Hid; rw [show s3 = said + tm by omega]; exact HSG3.out
            have hsm : s3 ≤ 500 ∧ said < s3 ∧ acc.length + 1 ≤ s3 := by omega
            clear htm2 hs3 HSG3 htme h16
            subst h18
            go_wp2
            go_roundw
            case rel => exact ⟨f, a2, s3, acc ++ [(18, v)], a7, cap7, by go_num, h10, by rw [List.length_append]; rfl, by go_num, hown7.out, HB7.out, HOK7.out, by rw [List.length_append]; show acc.length + 1 ≤ _; omega, by omega, by rw [List.length_append]; show f + (acc.length + 1) = 400; omega, by rw [List.length_append]; show acc.length + 1 ≤ 320; omega, HSG4.out⟩
            case measure => simp [intOf]; omega
          · have t16 : ((c : Int) == 16) = false := beq_eq_false_iff_ne.2 (by omega)
            have t17 : ((c : Int) == 17) = false := beq_eq_false_iff_ne.2 (by omega)
            have t18 : ((c : Int) == 18) = false := beq_eq_false_iff_ne.2 (by omega)
            have htm2 : tm = 1 := by rw [htme.out, if_pos (by omega)]
            have HSG4 : Hid (SG = sgL lens bs tot f a2 (said + 1) (acc ++ [(c, v)])) := by unfold Hid; rw [show said + 1 = said + tm by omega]; exact HSG3.out
            have hsm : said + 1 ≤ 500 ∧ acc.length + 1 ≤ said + 1 := by omega
            clear htm2 HSG3 htme h16 h18
            go_wp2
            go_roundw
            case rel => exact ⟨f, a2, said + 1, acc ++ [(c, v)], a7, cap7, by go_num, h10, by rw [List.length_append]; rfl, by go_num, hown7.out, HB7.out, HOK7.out, by rw [List.length_append]; show acc.length + 1 ≤ _; omega, by omega, by rw [List.length_append]; show f + (acc.length + 1) = 400; omega, by rw [List.length_append]; show acc.length + 1 ≤ 320; omega, HSG4.out⟩
            case measure => simp [intOf]; omega
        · obtain ⟨f, rfl⟩ : ∃ g, f = g + 1 := ⟨f - 1, by omega⟩
          rw [sgL_succ] at hsg
          unfold sgStep at hsg
          rw [if_neg hlt] at hsg
          have hF5 := HF5.out
          rw [hsg] at hF5
          have HF6 := Lib.hid (show R = match unp tot acc [] with
            | none => none
            | some all => if mayH (all.take na) (all.drop na) = true then some ((all.take na, all.drop na), at2) else none from hF5)
          have HUL := Lib.hid (fun all h => unp_len (n := tot) acc [] all h)
          have HB10 := Lib.hid (HB9.out.trans (HBE.out.mono HB9.out.size))
          have hsi : decide ((said : Int) < (tot : Int)) = false := by simp; omega
          clear hsg hF5 HF5
          have HU := Lib.hid (ref07_unpack sb sc acc tot wr HOWN.out.row HOK.out (by omega) (by omega))
          clear HOK
          generalize unp tot acc [] = U at *
          rcases U with _ | all
          · have HR : Hid (R = none) := HF6.out
            clear HF6 HUL
            go_wp2_with fail
            refine HU.out.mono ?_
            rintro e w12 ⟨hb12, hu⟩
            obtain rfl : e = _ := hu
            have HB12 := Lib.hid (HB10.out.trans (hb12.mono HB10.out.size))
            clear HU hb12 HOWN
            go_wp2_with fail
            go_quiet (fail)
            go_wp2
            ((try simp only [Exit.inBlock, Exit.then]); refine bodyPost_ret (results_tmp4 rfl _ _ _) rfl ?_)
            exact getR_none HR.out (belDN HB12.out _) hat2 rfl
          have hall := HUL.out all rfl
          go_wp2_with fail
          refine HU.out.mono ?_
          rintro e w12 ⟨hb12, hu⟩
          obtain ⟨aa, ac, rfl, howa⟩ := hu
          have HB12 := Lib.hid (HB10.out.trans (hb12.mono HB10.out.size))
          obtain ⟨ga, rfl, hga1, hga2⟩ : ∃ g, aa = some ⟨g, 0, none⟩ ∧ wr.heap.size ≤ g ∧ g < w12.heap.size := by
            rcases howa.form with ⟨_, _, h⟩ | h
            · rw [h] at hall; simp at hall; omega
            · exact h
          have HROW := Lib.hid howa.row
          have hcap : tot ≤ ac := by have := howa.row.1; omega
          clear HU hb12 HOWN howa HUL
          rw [hall]
          have q1 : (0 : Int) ≤ (na : Int) := by omega
          have q2 : (na : Int) ≤ (ac : Int) := by omega
          have q3 : (na : Int) ≤ (tot : Int) := by omega
          obtain ⟨R1, hR1⟩ : ∃ R1, R1 = mayH (all.take na) (all.drop na) := ⟨_, rfl⟩
          have hl1 : (all.take na).length = na := by simp; omega
          have hl2 : (all.drop na).length = tot - na := by simp; omega
          have HMY := Lib.hid (fun A (h1 : RowN .u8 A (some ⟨ga, 0, none⟩) ac (all.take na)) (h2 : RowN .u8 A (some ⟨ga, na, none⟩) (ac - na) (all.drop na)) => ref09_may (some ⟨ga, 0, none⟩) (some ⟨ga, na, none⟩) ac (ac - na) (all.take na) (all.drop na) A h1 h2 (by omega) (by omega))
          rw [hl1, hl2, ← hR1] at HMY
          replace hR1 := Lib.hid hR1
          have HR1 := Lib.hid (rowN_take HROW.out na)
          have HR2 := Lib.hid (rowN_drop HROW.out na (by omega))
          rw [Nat.zero_add] at HR2
          have HL1 := Lib.hid hl1
          have HL2 := Lib.hid hl2
          clear hl1 hl2
          go_wp2_with fail
          go_quiet ((go_at_call 15; exact (HMY.out _ (HR1.out.drewN _) (HR2.out.drewN _)).mono (fun _ _ h => ⟨h.1, _, h.2⟩)))
          cases R1 with
          | false =>
            have HR : Hid (R = none) := by unfold Hid; rw [HF6.out]; show (if mayH _ _ = true then _ else _) = _; rw [← hR1.out]; rfl
            clear HF6 hR1
            go_wp2_with fail
            ((try simp only [Exit.inBlock, Exit.then]); refine bodyPost_ret (results_tmp4 rfl _ _ _) rfl ?_)
            exact getR_none HR.out (belDN HB12.out _) hat2 rfl
          | true =>
            have HR : Hid (R = some ((all.take na, all.drop na), at2)) := by unfold Hid; rw [HF6.out]; show (if mayH _ _ = true then _ else _) = _; rw [← hR1.out]; rfl
            clear HF6 hR1
            go_wp2_with fail
            go_quiet (fail)
            go_wp2
            ((try simp only [Exit.inBlock, Exit.then]); refine bodyPost_ret (results_tmp4 rfl _ _ _) rfl ?_)
            refine ⟨belDN (belDN HB12.out _) _, ?_⟩
            rw [HR.out]
            exact ⟨some ⟨ga, 0, none⟩, ac, some ⟨ga, na, none⟩, ac - na, by rw [HL1.out, HL2.out]; rfl, (HR1.out.drewN _).drewN _, (HR2.out.drewN _).drewN _, fun x hx => (by cases hx; exact Nat.le_trans HB10.out.size hga1), fun x hx => (by cases hx; exact Nat.le_trans HB10.out.size hga1)⟩
end Go.Proofs.Ytmgoeokdlklabaa
