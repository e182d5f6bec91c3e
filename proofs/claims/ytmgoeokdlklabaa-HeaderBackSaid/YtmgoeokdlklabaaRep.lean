/- repeat.Bits, times, Unpack: contracts. -/
import Derived.Test.YtmgoeokdlklabaaGen
import Derived.Test.YtmgoeokdlklabaaM07
import Derived.Test.YtmgoeokdlklabaaFix
import Derived.Test.YtmgoeokdlklabaaLibS
namespace Go.Proofs.Ytmgoeokdlklabaa
open Go.RowKit Go.Shelf M07
set_option linter.unusedVariables false

def encSg : Enc Sg := ⟨2, fun s => [.int .u8 (s.1 : Nat), .int .u8 (s.2 : Nat)], fun _ => rfl, fun _ u hu => by simp at hu; rcases hu with rfl | rfl <;> rfl, by decide⟩
theorem sg_elems : ElemS Try.prog 71 78 encSg (.agg #[.int .u8 0, .int .u8 0]) 2 := ⟨Try.underlying71, by kernel_rfl, by kernel_rfl⟩
def sgV (s : Sg) : Value := .agg #[.int .u8 (s.1 : Nat), .int .u8 (s.2 : Nat)]

set_option maxRecDepth 100000 in
theorem repeat_bits (c : Nat) (w : World) : Calls Try.prog 41 #[.int .u8 (c : Nat)] w fun e w' => e = .returned (.int .i64 (rbits c : Nat)) ∧ w' = w := by
  by_cases h1 : c = 16
  · subst h1
    go_enter Try.func41, Try.ntmps41
    go_wp2
    go_ret
    exact ⟨rfl, rfl⟩
  by_cases h2 : c = 17
  · subst h2
    go_enter Try.func41, Try.ntmps41
    go_wp2
    go_ret
    exact ⟨rfl, rfl⟩
  by_cases h3 : c = 18
  · subst h3
    go_enter Try.func41, Try.ntmps41
    go_wp2
    go_ret
    exact ⟨rfl, rfl⟩
  have hr : Hid (rbits c = 0) := by unfold Hid rbits; rw [if_neg h1, if_neg h2, if_neg h3]
  have t1 : ((c : Int) == 16) = false := by simp; omega
  have t2 : ((c : Int) == 17) = false := by simp; omega
  have t3 : ((c : Int) == 18) = false := by simp; omega
  clear h1 h2 h3
  go_enter Try.func41, Try.ntmps41
  go_wp2
  go_ret
  exact ⟨by rw [hr.out]; rfl, rfl⟩
set_option maxRecDepth 100000 in
theorem repeat_times (s : Sg) (hs : SgOk s) (w : World) : Calls Try.prog 94 #[sgV s] w fun e w' => e = .returned (.int .i64 (times s : Nat)) ∧ Below w.heap.size w w' := by
  have hx := hs.lt
  obtain ⟨c, x⟩ := s
  unfold sgV
  have HB := Lib.hid (box_b w (.cells #[.int .u8 (c : Nat), .int .u8 (x : Nat)] 78))
  simp only at hx
  by_cases h1 : c < 16
  · have hr : Hid (times (c, x) = 1) := by unfold Hid times; rw [if_pos h1]
    have t1 : decide ((c : Int) < 16) = true := by simp; omega
    clear h1
    go_enter Try.func94, Try.ntmps94
    go_wp2
    go_ret
    exact ⟨by rw [hr.out]; rfl, HB.out⟩
  by_cases h2 : c < 18
  · have hr : Hid (Ending.returned (.int .i64 (3 + (x : Int))) = Ending.returned (.int .i64 (times (c, x) : Nat))) := by unfold Hid times; rw [if_neg h1, if_pos h2]; rfl
    have t1 : decide ((c : Int) < 16) = false := by simp; omega
    have t2 : decide ((c : Int) < 18) = true := by simp; omega
    clear h1 h2
    go_enter Try.func94, Try.ntmps94
    go_wp2
    go_ret
    exact ⟨hr.out, HB.out⟩
  have hr : Hid (Ending.returned (.int .i64 (11 + (x : Int))) = Ending.returned (.int .i64 (times (c, x) : Nat))) := by unfold Hid times; rw [if_neg h1, if_neg h2]; rfl
  have t1 : decide ((c : Int) < 16) = false := by simp; omega
  have t2 : decide ((c : Int) < 18) = false := by simp; omega
  clear h1 h2
  go_enter Try.func94, Try.ntmps94
  go_wp2
  go_ret
  exact ⟨hr.out, HB.out⟩
theorem bits_fit (n x : Nat) (h7 : n ≤ 7) (h : x < 2 ^ n) : decide (wrap64 ((2 : Int) ^ n) ≤ (x : Int)) = false := by
  have hall : ∀ k : Fin 8, wrap64 ((2 : Int) ^ k.val) = ((2 ^ k.val : Nat) : Int) := by decide +kernel
  have := hall ⟨n, by omega⟩
  simp only at this
  rw [this]
  simp only [decide_eq_false_iff_not]
  omega
theorem below_drewN {B : Nat} {w w' : World} (h : Below B w w') (q : Nat) : Below B w (w'.drewN q) := ⟨h.os, h.tape, h.output, h.size, h.block⟩
set_option maxRecDepth 100000 in
theorem unpack_bad (s : Sg) (hs : SgOk s) (w : World) : Calls Try.prog 93 #[sgV s] w fun e w' => e = .returned (.bool false) ∧ Below w.heap.size w w' := by
  have hx := hs.lt
  obtain ⟨c, x⟩ := s
  obtain ⟨hc, h2⟩ := hs
  unfold sgV
  simp only at hx hc h2
  have HB := Lib.hid (box_b w (.cells #[.int .u8 (c : Nat), .int .u8 (x : Nat)] 78))
  have t1 : decide ((18 : Int) < (c : Int)) = false := by simp; omega
  have HBT := Lib.hid (fun A => repeat_bits c A)
  have hr7 : rbits c ≤ 7 := by unfold rbits; (repeat' split) <;> omega
  clear hc
  generalize rbits c = n at *
  go_enter Try.func93, Try.ntmps93
  go_wp2_with fail
  obtain ⟨b0, b1⟩ := box2_cells w (.int .u8 (c : Nat)) (.int .u8 (x : Nat)) 78
  generalize w.alloc (.cells #[.int .u8 (c : Nat), .int .u8 (x : Nat)] 78) = W at *
  go_quiet ((go_at_call 41; exact (HBT.out _).mono (fun _ _ h => ⟨h.1, _, h.2⟩)))
  have hd : decide (wrap64 ((2 : Int) ^ n) ≤ (x : Int)) = false := bits_fit n x hr7 h2
  go_wp2_with fail
  simp only [hd]
  go_ret
  exact ⟨rfl, below_drewN HB.out _⟩
set_option maxRecDepth 100000 in
theorem sg_index (a : Option Addr) (cap : Nat) (l : List Sg) (w : World) (hr : RowS encSg w a cap l) (hok : ∀ s ∈ l, SgOk s) :
    Calls Try.prog 119 #[.slice a l.length cap, .func (Fn.func 93) #[] #[]] w fun e w' => e = .returned (.int .i64 (-1)) ∧ Below w.heap.size w w' := by
  have HOK := Lib.hid hok
  have hlen := hr.len
  clear hok
  go_enter Try.func119, Try.ntmps119
  go_wp2_with fail
  go_loopw [5, 8] (fun _ i A => ∃ k : Nat, k ≤ l.length ∧ i = .int .i64 k ∧ Below w.heap.size w A) (fun _ i _ => l.length - (intOf i).toNat)
  case atStart => exact ⟨0, by omega, rfl, Below.refl _ _⟩
  case round =>
    obtain ⟨k, hk, rfl, hbel⟩ := hrel
    by_cases hlt : k < l.length
    · have hrA := hr.below hbel
      obtain ⟨b, off, rfl, hb, hcl⟩ := hrA.at hlt
      have c0 := hcl 0 _ rfl
      have c1 := hcl 1 _ rfl
      have hs := HOK.out _ (List.getElem_mem hlt)
      have HBEL := Lib.hid hbel
      have HR := Lib.hid hr
      clear hrA hcl hbel hr
      generalize l[k] = s at *
      have HC := Lib.hid (unpack_bad s hs)
      clear hs
      obtain ⟨c, x⟩ := s
      simp only [encSg, Nat.add_zero] at c0 c1
      rw [← Nat.add_assoc] at c1
      go_wp2_with fail
      refine (HC.out _).mono ?_
      rintro e w1 ⟨rfl, hb1⟩
      have HB1 := Lib.hid (HBEL.out.trans (hb1.mono HBEL.out.size))
      clear hb1 HC HBEL c0 c1
      go_wp2
      go_roundw
      case rel => exact ⟨k + 1, by omega, by go_num, HB1.out⟩
      case measure => simp [intOf]; omega
    · obtain rfl : k = l.length := by omega
      have HBEL := Lib.hid hbel
      clear hbel
      go_wp2
      go_ret
      exact ⟨rfl, HBEL.out⟩
theorem sg_contains (a : Option Addr) (cap : Nat) (l : List Sg) (w : World) (hr : RowS encSg w a cap l) (hok : ∀ s ∈ l, SgOk s) :
    Calls Try.prog 92 #[.slice a l.length cap, .func (Fn.func 93) #[] #[]] w fun e w' => e = .returned (.bool false) ∧ Below w.heap.size w w' := by
  have HC := Lib.hid (sg_index a cap l w hr hok)
  clear hr hok
  go_enter Try.func92, Try.ntmps92
  go_wp2_with fail
  refine HC.out.mono ?_
  rintro e w1 ⟨rfl, hb⟩
  have HB := Lib.hid hb
  clear hb HC
  go_wp2
  go_ret
  exact ⟨rfl, HB.out⟩

/-- what Unpack answers -/
def UnpOut (B n : Nat) (R : Option (List Nat)) (e : Ending) (w' : World) : Prop :=
  match R with
  | some o => ∃ a c, e = .returned (.tuple #[.slice a o.length c, .int .i64 0]) ∧ OwnN 5 .u8 w' B a c o
  | none => e = .returned (.tuple #[.slice none 0 0, .int .i64 2])
set_option maxRecDepth 100000 in
set_option maxHeartbeats 1600000 in
theorem repeat_unpack (a : Option Addr) (cap : Nat) (l : List Sg) (n : Nat) (w : World) (hr : RowS encSg w a cap l) (hok : ∀ s ∈ l, SgOk s) (hn : n ≤ 1000) (hl : l.length ≤ 100000) :
    Calls Try.prog 60 #[.slice a l.length cap, .int .i64 (n : Nat)] w fun e w' => Below w.heap.size w w' ∧ UnpOut w.heap.size n (unp n l []) e w' := by
  have HC := Lib.hid (sg_contains a cap l w hr hok)
  have HOK := Lib.hid hok
  have HR := Lib.hid hr
  clear hr hok
  obtain ⟨R, hR0⟩ : ∃ R, R = unp n l [] := ⟨_, rfl⟩
  rw [← hR0]
  replace hR0 := Lib.hid hR0
  go_enter Try.func60, Try.ntmps60
  go_wp2_with fail
  refine HC.out.mono ?_
  rintro e w1 ⟨rfl, hb1⟩
  have HB1 := Lib.hid hb1
  clear HC hb1
  go_wp2_with fail
  go_loopw [6, 8, 9, 14] (fun s _ _ i A => ∃ k : Nat, k ≤ l.length ∧ i = .int .i64 k ∧ ∃ out b c, s = .slice b out.length c ∧ OwnN 5 .u8 A w.heap.size b c out ∧ Below w.heap.size w A ∧ out.length ≤ n ∧ R = unp n (l.drop k) out) (fun _ _ _ i _ => l.length - (intOf i).toNat)
  case atStart => exact ⟨0, by omega, rfl, [], none, 0, rfl, OwnN.nil _ _ _ _, HB1.out, by simp, hR0.out⟩
  case round =>
    clear HB1 hR0
    obtain ⟨k, hk, rfl, out, ob, oc, rfl, hown, hbel, hon, hR⟩ := hrel
    have HBEL := Lib.hid hbel
    by_cases hlt : k < l.length
    · have hrA := HR.out.below hbel
      obtain ⟨b, off, rfl, hb, hcl⟩ := hrA.at hlt
      have c0 := hcl 0 _ rfl
      have c1 := hcl 1 _ rfl
      have hs := HOK.out _ (List.getElem_mem hlt)
      have hdrop : l.drop k = l[k] :: l.drop (k + 1) := List.drop_eq_getElem_cons hlt
      rw [hdrop] at hR
      clear hrA hcl hdrop hbel
      generalize l[k] = s at *
      have HT := Lib.hid (fun A => repeat_times s hs A)
      have htb := times_bound hs
      have hx := hs.lt
      have hc18 := hs.1
      clear hs
      unfold unp at hR
      obtain ⟨c, x⟩ := s
      simp only [encSg, Nat.add_zero] at c0 c1
      rw [← Nat.add_assoc] at c1
      simp only at hR hx hc18
      have HOWN := Lib.hid hown
      clear hown
      by_cases h16 : c = 16
      · subst h16
        by_cases ho0 : out.length = 0
        · have HRR : Hid (R = none) := by
            rw [if_pos ⟨rfl, ho0⟩] at hR; exact hR
          clear hR
          have t0 : ((out.length : Int) == 0) = true := by rw [ho0]; rfl
          clear ho0
          go_wp2_with fail
          go_ret2
          rw [HRR.out]
          exact ⟨HBEL.out.trans ((box_b wr _).mono HBEL.out.size), rfl⟩
        · rw [if_neg (fun h => ho0 h.2)] at hR
          have t0 : ((out.length : Int) == 0) = false := beq_eq_false_iff_ne.2 (by omega)
          have hil : out.length - 1 < out.length := by omega
          obtain ⟨lb, rfl, hlb0, hlb, hcl, _⟩ := HOWN.out.at hil
          have hcl2 := ((box_b wr (.cells #[.int .u8 16, .int .u8 (x : Nat)] 78)).cell (p := ⟨lb, out.length - 1, none⟩) hlb).trans hcl
          have hkv : kOf 16 out = out[out.length - 1] := by unfold kOf; rw [if_pos rfl]; simp [hil]
          rw [hkv] at hR
          have q1 : (out.length : Int) - 1 = ((out.length - 1 : Nat) : Int) := by omega
          have q2 : (out.length : Int) - 1 < (out.length : Int) := by omega
          have HR2 := Lib.hid hR
          clear hR hkv ho0 hcl
          generalize out[out.length - 1] = kv at *
          generalize hix : out.length - 1 = ix at *
          generalize htm : times (16, x) = tm at *
          replace hix := Lib.hid hix
          replace htm := Lib.hid htm
          go_wp2_with fail
          obtain ⟨e0, e1⟩ := box2_cells wr (.int .u8 (16 : Nat)) (.int .u8 (x : Nat)) 78
          have HBW := Lib.hid (HBEL.out.trans ((box_b wr (.cells #[.int .u8 (16 : Nat), .int .u8 (x : Nat)] 78)).mono HBEL.out.size))
          have HOW := Lib.hid (HOWN.out.below (box_b wr (.cells #[.int .u8 (16 : Nat), .int .u8 (x : Nat)] 78)))
          have hnb : wr.heap.size < (wr.alloc (.cells #[.int .u8 (16 : Nat), .int .u8 (x : Nat)] 78)).heap.size := by simp
          clear HBEL HOWN c0 c1
          generalize wr.alloc (.cells #[.int .u8 (16 : Nat), .int .u8 (x : Nat)] 78) = W at *
          generalize wr.heap.size = nb at *
          refine (HT.out W).mono ?_
          rintro e w3 ⟨rfl, hb3⟩
          have d0 := (hb3.cell (p := ⟨nb, 0, none⟩) hnb).trans e0
          have d1 := (hb3.cell (p := ⟨nb, 1, none⟩) hnb).trans e1
          have HB3 := Lib.hid (HBW.out.trans (hb3.mono HBW.out.size))
          have HO3 := Lib.hid (HOW.out.below hb3)
          have hnb3 : nb < w3.heap.size := Nat.lt_of_lt_of_le hnb hb3.size
          clear HBW HOW hb3 e0 e1 hnb
          by_cases hfit : n < out.length + tm
          · have HRR : Hid (R = none) := by have := HR2.out; rwa [if_pos hfit] at this
            have t5 : decide ((n : Int) - (out.length : Int) < (tm : Int)) = true := by simp; omega
            clear hfit
            go_wp2
            go_ret2
            rw [HRR.out]
            exact ⟨HB3.out, rfl⟩
          · have HRR : Hid (R = unp n (l.drop (k + 1)) (out ++ List.replicate tm kv)) := by have := HR2.out; rwa [if_neg hfit] at this
            have t5 : decide ((n : Int) - (out.length : Int) < (tm : Int)) = false := by simp; omega
            have hfit2 : out.length + tm ≤ n := by omega
            clear hfit HR2
            go_wp2_with fail
            have f0 := ((box_b w3 (.cells #[.int .u8 (kv : Nat)] 5)).cell (p := ⟨nb, 0, none⟩) hnb3).trans d0
            have f1 := ((box_b w3 (.cells #[.int .u8 (kv : Nat)] 5)).cell (p := ⟨nb, 1, none⟩) hnb3).trans d1
            have g0 : (w3.alloc (.cells #[.int .u8 (kv : Nat)] 5)).cell? ⟨w3.heap.size, 0, none⟩ = some (.int .u8 (kv : Nat)) := cell_of_one (World.alloc_heap_new _ _)
            have hgs : w3.heap.size < (w3.alloc (.cells #[.int .u8 (kv : Nat)] 5)).heap.size := by simp
            have HB4 := Lib.hid (HB3.out.trans ((box_b w3 (.cells #[.int .u8 (kv : Nat)] 5)).mono HB3.out.size))
            have HO4 := Lib.hid (HO3.out.below (box_b w3 (.cells #[.int .u8 (kv : Nat)] 5)))
            clear HB3 HO3 d0 d1
            generalize w3.alloc (.cells #[.int .u8 (kv : Nat)] 5) = W4 at *
            generalize w3.heap.size = gs at *
            go_wp2_with fail
            refine (HT.out W4).mono ?_
            rintro e w5 ⟨rfl, hb5⟩
            have g5 := (hb5.cell (p := ⟨gs, 0, none⟩) hgs).trans g0
            have hgs5 := Nat.lt_of_lt_of_le hgs hb5.size
            have HB5 := Lib.hid (HB4.out.trans (hb5.mono HB4.out.size))
            have HO5 := Lib.hid (HO4.out.below hb5)
            have HREP := Lib.hid (slices_repeat tm kv gs htb.1 (by omega) w5 g5 hgs5)
            clear HB4 HO4 hb5 f0 f1 g0 g5
            go_wp2_with fail
            refine HREP.out.mono ?_
            rintro e w6 ⟨g, rfl, hr6, hb6⟩
            have HB6 := Lib.hid (HB5.out.trans (hb6.mono HB5.out.size))
            have HO6 := Lib.hid (HO5.out.below hb6)
            have hl6 : tm = (List.replicate tm kv).length := by simp
            have HW6 := Lib.hid (HB6.out.size)
            have HR6 := Lib.hid hr6
            have hbd : out.length + tm ≤ 1000 := by omega
            have HL6 := Lib.hid hl6
            clear hb6 HB5 HO5 HREP hr6 hl6
            go_wp2_with (at_builtin; refine appAnyN et_u8 rfl (.tmp 47) (.tmp 52) rfl rfl HO6.out HL6.out rfl HR6.out (by omega) (by omega) HW6.out ?_; intro a7 cap7 w7 hown7 hg7 hb7; replace hown7 := Lib.hid hown7; replace hb7 := Lib.hid (HB6.out.trans hb7); clear hg7)
            go_wp2
            go_roundw
            case rel => exact ⟨k + 1, by omega, by go_num, _, a7, cap7, by rw [List.length_append, List.length_replicate], hown7.out, hb7.out, by rw [List.length_append, List.length_replicate]; omega, HRR.out⟩
            case measure => simp [intOf]; omega
      · rw [if_neg (fun h => h16 h.1)] at hR
        have t0 : ((c : Int) == 16) = false := beq_eq_false_iff_ne.2 (by omega)
        by_cases hgt : 16 < c
        · have hkv : kOf c out = 0 := by unfold kOf; rw [if_neg h16, if_pos hgt]
          have t1 : decide ((16 : Int) < (c : Int)) = true := by simp; omega
          rw [hkv] at hR
          have HR2 := Lib.hid hR
          obtain ⟨kv, hkv0⟩ : ∃ kv, kv = 0 := ⟨0, rfl⟩
          clear hR hkv h16 hgt
          generalize htm : times (c, x) = tm at *
          replace htm := Lib.hid htm
          rw [← hkv0] at HR2
          subst hkv0
          go_wp2_with fail
          obtain ⟨e0, e1⟩ := box2_cells wr (.int .u8 (c : Nat)) (.int .u8 (x : Nat)) 78
          have HBW := Lib.hid (HBEL.out.trans ((box_b wr (.cells #[.int .u8 (c : Nat), .int .u8 (x : Nat)] 78)).mono HBEL.out.size))
          have HOW := Lib.hid (HOWN.out.below (box_b wr (.cells #[.int .u8 (c : Nat), .int .u8 (x : Nat)] 78)))
          have hnb : wr.heap.size < (wr.alloc (.cells #[.int .u8 (c : Nat), .int .u8 (x : Nat)] 78)).heap.size := by simp
          clear HBEL HOWN c0 c1
          generalize wr.alloc (.cells #[.int .u8 (c : Nat), .int .u8 (x : Nat)] 78) = W at *
          generalize wr.heap.size = nb at *
          refine (HT.out W).mono ?_
          rintro e w3 ⟨rfl, hb3⟩
          have d0 := (hb3.cell (p := ⟨nb, 0, none⟩) hnb).trans e0
          have d1 := (hb3.cell (p := ⟨nb, 1, none⟩) hnb).trans e1
          have HB3 := Lib.hid (HBW.out.trans (hb3.mono HBW.out.size))
          have HO3 := Lib.hid (HOW.out.below hb3)
          have hnb3 : nb < w3.heap.size := Nat.lt_of_lt_of_le hnb hb3.size
          clear HBW HOW hb3 e0 e1 hnb
          by_cases hfit : n < out.length + tm
          · have HRR : Hid (R = none) := by have := HR2.out; rwa [if_pos hfit] at this
            have t5 : decide ((n : Int) - (out.length : Int) < (tm : Int)) = true := by simp; omega
            clear hfit
            go_wp2
            go_ret2
            rw [HRR.out]
            exact ⟨HB3.out, rfl⟩
          · have HRR : Hid (R = unp n (l.drop (k + 1)) (out ++ List.replicate tm 0)) := by have := HR2.out; rwa [if_neg hfit] at this
            have t5 : decide ((n : Int) - (out.length : Int) < (tm : Int)) = false := by simp; omega
            have hfit2 : out.length + tm ≤ n := by omega
            clear hfit HR2
            go_wp2_with fail
            have f0 := ((box_b w3 (.cells #[.int .u8 (0 : Nat)] 5)).cell (p := ⟨nb, 0, none⟩) hnb3).trans d0
            have f1 := ((box_b w3 (.cells #[.int .u8 (0 : Nat)] 5)).cell (p := ⟨nb, 1, none⟩) hnb3).trans d1
            have g0 : (w3.alloc (.cells #[.int .u8 (0 : Nat)] 5)).cell? ⟨w3.heap.size, 0, none⟩ = some (.int .u8 (0 : Nat)) := cell_of_one (World.alloc_heap_new _ _)
            have hgs : w3.heap.size < (w3.alloc (.cells #[.int .u8 (0 : Nat)] 5)).heap.size := by simp
            have HB4 := Lib.hid (HB3.out.trans ((box_b w3 (.cells #[.int .u8 (0 : Nat)] 5)).mono HB3.out.size))
            have HO4 := Lib.hid (HO3.out.below (box_b w3 (.cells #[.int .u8 (0 : Nat)] 5)))
            clear HB3 HO3 d0 d1
            generalize w3.alloc (.cells #[.int .u8 (0 : Nat)] 5) = W4 at *
            generalize w3.heap.size = gs at *
            go_wp2_with fail
            refine (HT.out W4).mono ?_
            rintro e w5 ⟨rfl, hb5⟩
            have g5 := (hb5.cell (p := ⟨gs, 0, none⟩) hgs).trans g0
            have hgs5 := Nat.lt_of_lt_of_le hgs hb5.size
            have HB5 := Lib.hid (HB4.out.trans (hb5.mono HB4.out.size))
            have HO5 := Lib.hid (HO4.out.below hb5)
            have HREP := Lib.hid (slices_repeat tm 0 gs htb.1 (by omega) w5 g5 hgs5)
            clear HB4 HO4 hb5 f0 f1 g0 g5
            go_wp2_with fail
            refine HREP.out.mono ?_
            rintro e w6 ⟨g, rfl, hr6, hb6⟩
            have HB6 := Lib.hid (HB5.out.trans (hb6.mono HB5.out.size))
            have HO6 := Lib.hid (HO5.out.below hb6)
            have hl6 : tm = (List.replicate tm 0).length := by simp
            have HW6 := Lib.hid (HB6.out.size)
            have HR6 := Lib.hid hr6
            have hbd : out.length + tm ≤ 1000 := by omega
            have HL6 := Lib.hid hl6
            clear hb6 HB5 HO5 HREP hr6 hl6
            go_wp2_with (at_builtin; refine appAnyN et_u8 rfl (.tmp 47) (.tmp 52) rfl rfl HO6.out HL6.out rfl HR6.out (by omega) (by omega) HW6.out ?_; intro a7 cap7 w7 hown7 hg7 hb7; replace hown7 := Lib.hid hown7; replace hb7 := Lib.hid (HB6.out.trans hb7); clear hg7)
            go_wp2
            go_roundw
            case rel => exact ⟨k + 1, by omega, by go_num, _, a7, cap7, by rw [List.length_append, List.length_replicate], hown7.out, hb7.out, by rw [List.length_append, List.length_replicate]; omega, HRR.out⟩
            case measure => simp [intOf]; omega
        · have hkv : kOf c out = c := by unfold kOf; rw [if_neg h16, if_neg hgt]
          have t1 : decide ((16 : Int) < (c : Int)) = false := by simp; omega
          rw [hkv] at hR
          have HR2 := Lib.hid hR
          clear hR hkv h16 hgt
          generalize htm : times (c, x) = tm at *
          replace htm := Lib.hid htm
          go_wp2_with fail
          obtain ⟨e0, e1⟩ := box2_cells wr (.int .u8 (c : Nat)) (.int .u8 (x : Nat)) 78
          have HBW := Lib.hid (HBEL.out.trans ((box_b wr (.cells #[.int .u8 (c : Nat), .int .u8 (x : Nat)] 78)).mono HBEL.out.size))
          have HOW := Lib.hid (HOWN.out.below (box_b wr (.cells #[.int .u8 (c : Nat), .int .u8 (x : Nat)] 78)))
          have hnb : wr.heap.size < (wr.alloc (.cells #[.int .u8 (c : Nat), .int .u8 (x : Nat)] 78)).heap.size := by simp
          clear HBEL HOWN c0 c1
          generalize wr.alloc (.cells #[.int .u8 (c : Nat), .int .u8 (x : Nat)] 78) = W at *
          generalize wr.heap.size = nb at *
          refine (HT.out W).mono ?_
          rintro e w3 ⟨rfl, hb3⟩
          have d0 := (hb3.cell (p := ⟨nb, 0, none⟩) hnb).trans e0
          have d1 := (hb3.cell (p := ⟨nb, 1, none⟩) hnb).trans e1
          have HB3 := Lib.hid (HBW.out.trans (hb3.mono HBW.out.size))
          have HO3 := Lib.hid (HOW.out.below hb3)
          have hnb3 : nb < w3.heap.size := Nat.lt_of_lt_of_le hnb hb3.size
          clear HBW HOW hb3 e0 e1 hnb
          by_cases hfit : n < out.length + tm
          · have HRR : Hid (R = none) := by have := HR2.out; rwa [if_pos hfit] at this
            have t5 : decide ((n : Int) - (out.length : Int) < (tm : Int)) = true := by simp; omega
            clear hfit
            go_wp2
            go_ret2
            rw [HRR.out]
            exact ⟨HB3.out, rfl⟩
          · have HRR : Hid (R = unp n (l.drop (k + 1)) (out ++ List.replicate tm c)) := by have := HR2.out; rwa [if_neg hfit] at this
            have t5 : decide ((n : Int) - (out.length : Int) < (tm : Int)) = false := by simp; omega
            have hfit2 : out.length + tm ≤ n := by omega
            clear hfit HR2
            go_wp2_with fail
            have f0 := ((box_b w3 (.cells #[.int .u8 (c : Nat)] 5)).cell (p := ⟨nb, 0, none⟩) hnb3).trans d0
            have f1 := ((box_b w3 (.cells #[.int .u8 (c : Nat)] 5)).cell (p := ⟨nb, 1, none⟩) hnb3).trans d1
            have g0 : (w3.alloc (.cells #[.int .u8 (c : Nat)] 5)).cell? ⟨w3.heap.size, 0, none⟩ = some (.int .u8 (c : Nat)) := cell_of_one (World.alloc_heap_new _ _)
            have hgs : w3.heap.size < (w3.alloc (.cells #[.int .u8 (c : Nat)] 5)).heap.size := by simp
            have HB4 := Lib.hid (HB3.out.trans ((box_b w3 (.cells #[.int .u8 (c : Nat)] 5)).mono HB3.out.size))
            have HO4 := Lib.hid (HO3.out.below (box_b w3 (.cells #[.int .u8 (c : Nat)] 5)))
            clear HB3 HO3 d0 d1
            generalize w3.alloc (.cells #[.int .u8 (c : Nat)] 5) = W4 at *
            generalize w3.heap.size = gs at *
            go_wp2_with fail
            refine (HT.out W4).mono ?_
            rintro e w5 ⟨rfl, hb5⟩
            have g5 := (hb5.cell (p := ⟨gs, 0, none⟩) hgs).trans g0
            have hgs5 := Nat.lt_of_lt_of_le hgs hb5.size
            have HB5 := Lib.hid (HB4.out.trans (hb5.mono HB4.out.size))
            have HO5 := Lib.hid (HO4.out.below hb5)
            have HREP := Lib.hid (slices_repeat tm c gs htb.1 (by omega) w5 g5 hgs5)
            clear HB4 HO4 hb5 f0 f1 g0 g5
            go_wp2_with fail
            refine HREP.out.mono ?_
            rintro e w6 ⟨g, rfl, hr6, hb6⟩
            have HB6 := Lib.hid (HB5.out.trans (hb6.mono HB5.out.size))
            have HO6 := Lib.hid (HO5.out.below hb6)
            have hl6 : tm = (List.replicate tm c).length := by simp
            have HW6 := Lib.hid (HB6.out.size)
            have HR6 := Lib.hid hr6
            have hbd : out.length + tm ≤ 1000 := by omega
            have HL6 := Lib.hid hl6
            clear hb6 HB5 HO5 HREP hr6 hl6
            go_wp2_with (at_builtin; refine appAnyN et_u8 rfl (.tmp 47) (.tmp 52) rfl rfl HO6.out HL6.out rfl HR6.out (by omega) (by omega) HW6.out ?_; intro a7 cap7 w7 hown7 hg7 hb7; replace hown7 := Lib.hid hown7; replace hb7 := Lib.hid (HB6.out.trans hb7); clear hg7)
            go_wp2
            go_roundw
            case rel => exact ⟨k + 1, by omega, by go_num, _, a7, cap7, by rw [List.length_append, List.length_replicate], hown7.out, hb7.out, by rw [List.length_append, List.length_replicate]; omega, HRR.out⟩
            case measure => simp [intOf]; omega
    · obtain rfl : k = l.length := by omega
      rw [List.drop_length] at hR
      unfold unp at hR
      have HOWN := Lib.hid hown
      have HRR := Lib.hid hR
      clear hown hR hbel
      by_cases hln : out.length = n
      · have t1 : ((out.length : Int) != (n : Int)) = false := by rw [hln]; simp
        have HRS : Hid (R = some out) := by have := HRR.out; rwa [if_pos hln] at this
        clear HRR hln
        go_wp2
        go_ret2
        rw [HRS.out]
        exact ⟨HBEL.out, ob, oc, rfl, HOWN.out⟩
      · have t1 : ((out.length : Int) != (n : Int)) = true := by simp; omega
        have HRS : Hid (R = none) := by have := HRR.out; rwa [if_neg hln] at this
        clear HRR hln
        go_wp2
        go_ret2
        rw [HRS.out]
        exact ⟨HBEL.out, rfl⟩
end Go.Proofs.Ytmgoeokdlklabaa
