/- inflate: repeat, stored, none: contracts. -/
import Derived.Test.YtlofoocgiomfbaaStrm
namespace Go.Proofs.Ytlofoocgiomfbaa
open Go.RowKit Go.Shelf M01 M10
set_option linter.unusedVariables false

/-- what a block's method comes to -/
def StepOut (P : Nat → Prop) (sp rp : Nat) (bs : List Nat) (keep : Nat) (R : Option (Nat × List Nat)) (w : World) (e : Ending) (w' : World) : Prop :=
  Only P w w' ∧ match R with
  | some (at2, out2) => e = .returned (.tuple #[]) ∧ Strm P w' sp rp bs keep at2 out2
  | none => e = .panicked formP

theorem Strm.swap {P : Nat → Prop} {w : World} {sp rp keep at_ : Nat} {bs out : List Nat} {x : Nat} (y : Nat) (h : Strm P w sp rp bs keep at_ (out ++ [x])) (hk : keep ≤ out.length) : Strm P w sp rp bs keep at_ (out ++ [y]) := by
  obtain ⟨oa, oc, h1, h2, h3, h4, h5, h6, h7, h8, h9, h10⟩ := h
  have e1 : (out ++ [x]).take keep = out.take keep := List.take_append_of_le_length hk
  have e2 : (out ++ [y]).take keep = out.take keep := List.take_append_of_le_length hk
  have e3 : (out ++ [y]).length = (out ++ [x]).length := by simp
  exact ⟨oa, oc, by rw [e2, e3, ← e1]; exact h1, by rw [e2, ← e1]; exact h2, h3, h4, h5, h6, h7, h8, by rw [e3]; exact h9, h10⟩
theorem Strm.bound {P : Nat → Prop} {w : World} {sp rp keep at_ : Nat} {bs out : List Nat} (h : Strm P w sp rp bs keep at_ out) : out.length ≤ 258 * at_ ∧ at_ ≤ 8 * bs.length ∧ bs.length ≤ 100000000 := by
  obtain ⟨_, _, _, _, _, hl, ha, _⟩ := h.rd
  obtain ⟨oa, oc, h1, h2, h3, h4, h5, h6, h7, h8, h9, h10⟩ := h
  exact ⟨h9, ha, hl⟩
theorem strm_none (v : Value) (w : World) : Calls Try.prog 39 #[v] w fun e w' => e = .panicked formP ∧ w' = w := by
  go_enter Try.func39, Try.ntmps39
  go_wp2
  exact ⟨rfl, rfl, rfl⟩
theorem strm_repeat_no {P : Nat → Prop} {w : World} {sp rp keep at_ : Nat} {bs out : List Nat} (h : Strm P w sp rp bs keep at_ out) (n d : Nat) (hd : out.length < d) :
    Calls Try.prog 88 #[.pointer (some ⟨sp, 0, none⟩), .int .i64 (n : Nat), .int .i64 (d : Nat)] w fun e w' => e = .panicked formP ∧ w' = w := by
  obtain ⟨c0, c2, c3⟩ := h.cells
  have t1 : decide (out.length < d) = true := by simp; omega
  clear h
  go_enter Try.func88, Try.ntmps88
  go_wp2
  exact ⟨rfl, rfl, rfl⟩
set_option maxRecDepth 100000 in
set_option maxHeartbeats 1600000 in
theorem strm_repeat {P : Nat → Prop} {w : World} {sp rp keep at_ : Nat} {bs out : List Nat} (h : Strm P w sp rp bs keep at_ out) (n d : Nat) (hd : d ≤ out.length) (hd0 : 1 ≤ d) (hn : n ≤ 258) (hl : out.length + n ≤ 258 * at_) :
    Calls Try.prog 88 #[.pointer (some ⟨sp, 0, none⟩), .int .i64 (n : Nat), .int .i64 (d : Nat)] w fun e w' => e = .returned (.tuple #[]) ∧ Only P w w' ∧ Strm P w' sp rp bs keep at_ (repOut d out n) := by
  obtain ⟨c0, c2, c3⟩ := h.cells
  have hat : at_ ≤ 800000000 := by obtain ⟨_, _, _, _, _, hl, ha, _⟩ := h.rd; omega
  have t1 : decide (out.length < d) = false := by simp; omega
  have H := Lib.hid h
  clear h
  go_enter Try.func88, Try.ntmps88
  go_wp2_with fail
  clear c0 c2 c3 t1
  go_loopw [6, 15] (fun _ i A => ∃ j : Nat, j ≤ n ∧ i = .int .i64 j ∧ Only P w A ∧ Strm P A sp rp bs keep at_ (repOut d out j)) (fun _ i _ => n - (intOf i).toNat)
  case atStart => exact ⟨0, by omega, rfl, Only.refl _ _, H.out⟩
  case round =>
    clear H
    obtain ⟨j, hj, rfl, ho, hs⟩ := hrel
    have HO := Lib.hid ho
    clear ho
    by_cases hlt : j < n
    · have hlen := repOut_len d out j
      have HR := Lib.hid (show repOut d out (j + 1) = repOut d out j ++ [(repOut d out j).getD ((repOut d out j).length - d) 0] from rfl)
      generalize repOut d out j = o at *
      obtain ⟨c0, c2, c3⟩ := hs.cells
      by_cases hk : o.length < keep
      · have t1 : decide (o.length < keep) = true := by simp; omega
        have htk : o.take keep = o := List.take_of_length_le (by omega)
        obtain ⟨oa, oc, c1, hrow⟩ : ∃ oa oc, wr.cell? ⟨sp, 1, none⟩ = some (.slice oa o.length oc) ∧ RowN .u8 wr oa oc o := by
          obtain ⟨oa, oc, h1, h2, _⟩ := hs
          rw [htk] at h1 h2
          exact ⟨oa, oc, (four_cells h1).2.1, h2.row⟩
        have hil : o.length - d < o.length := by omega
        obtain ⟨bl, off, rfl, hbl, hck⟩ := hrow.at hil
        have hgd : o.getD (o.length - d) 0 = o[o.length - d] := by simp [hil]
        have q1 : (o.length : Int) - (d : Int) = ((o.length - d : Nat) : Int) := by omega
        have HP := Lib.hid (fun q c => strm_put (show Strm P (wr.drewN q) sp rp bs keep at_ o from hs) c (by omega))
        have HS2 := Lib.hid hs
        rw [hgd] at HR
        have HLEN := Lib.hid hlen
        have hol : o.length ≤ 300000000000 := by omega
        clear hs hgd hrow hlen hk
        generalize o[o.length - d] = c at *
        generalize hidx : o.length - d = ix at *
        go_wp2_with fail
        go_quiet (fail)
        go_wp2_with fail
        have c1' : (wr.drewN nq).cell? ⟨sp, 1, none⟩ = _ := c1
        have c3' : (wr.drewN nq).cell? ⟨sp, 3, none⟩ = _ := c3
        have hck' : (wr.drewN nq).cell? ⟨bl, off + ix, none⟩ = _ := hck
        have HS3 := Lib.hid (show Strm P (wr.drewN nq) sp rp bs keep at_ o from HS2.out)
        have HO3 := Lib.hid (HO.out.trans (only_drewN _ _ nq))
        clear HP HS2 HO c0 c1 c2 c3 hck t1
        generalize wr.drewN nq = A at *
        have HP := Lib.hid (fun q => strm_put (show Strm P (A.drewN q) sp rp bs keep at_ o from HS3.out) c (by have := HLEN.out; omega))
        go_quiet (fail)
        go_wp2_with fail
        refine (HP.out _).mono ?_
        rintro e w1 ⟨rfl, ho1, hs1⟩
        have HS1 := Lib.hid hs1
        have HO1 := Lib.hid ((HO3.out.trans (only_drewN _ _ _)).trans ho1)
        clear HP HO3 HS3 ho1 hs1
        go_wp2
        go_roundw
        case rel => exact ⟨j + 1, by omega, by go_num, HO1.out, by rw [HR.out]; exact HS1.out⟩
        case measure => simp [intOf]; omega
      · have t1 : decide (o.length < keep) = false := by simp; omega
        have HP := Lib.hid (fun q => strm_put (show Strm P (wr.drewN q) sp rp bs keep at_ o from hs) 0 (by omega))
        have HLEN := Lib.hid hlen
        have HK := Lib.hid hk
        have hol : o.length ≤ 300000000000 := by omega
        clear hs hlen hk
        go_wp2_with fail
        go_quiet (fail)
        go_wp2_with fail
        refine (HP.out _).mono ?_
        rintro e w1 ⟨rfl, ho1, hs1⟩
        have HS1 := Lib.hid (hs1.swap (o.getD (o.length - d) 0) (by have := HK.out; omega))
        have HO1 := Lib.hid ((HO.out.trans (only_drewN _ _ nq)).trans ho1)
        clear HO HP ho1 hs1
        go_wp2
        go_roundw
        case rel => exact ⟨j + 1, by omega, by go_num, HO1.out, by rw [HR.out]; exact HS1.out⟩
        case measure => simp [intOf]; omega
    · obtain rfl : j = n := by omega
      have HS := Lib.hid hs
      clear hs
      go_wp2
      go_end0
      exact ⟨rfl, HO.out, HS.out⟩

theorem xor_bits (n : Nat) (h : n < 65536) : bits .xor .i64 (n : Int) 65535 = ((65535 - n : Nat) : Int) := by
  have h1 : (BitVec.ofInt 64 (n : Int)).toNat = n := by
    rw [BitVec.ofInt_natCast, BitVec.toNat_ofNat]; exact Nat.mod_eq_of_lt (by omega)
  have h2 : (BitVec.ofInt 64 (65535 : Int)).toNat = 65535 := by decide
  have h3 : n ^^^ 65535 = 65535 - n := by
    have e : (BitVec.ofNat 16 n ^^^ BitVec.allOnes 16).toNat = 65535 - n := by
      rw [BitVec.xor_allOnes, BitVec.toNat_not, BitVec.toNat_ofNat, Nat.mod_eq_of_lt (by omega : n < 2 ^ 16)]
    rw [BitVec.toNat_xor, BitVec.toNat_ofNat, BitVec.toNat_allOnes, Nat.mod_eq_of_lt (by omega : n < 2 ^ 16)] at e
    exact e
  show IntKind.i64.wrap ((BitVec.ofInt 64 (n : Int) ^^^ BitVec.ofInt 64 (65535 : Int)).toNat : Int) = _
  rw [BitVec.toNat_xor, h1, h2, h3, IntKind.wrap_i64]
  omega
set_option maxRecDepth 100000 in
set_option maxHeartbeats 1600000 in
theorem strm_stored {P : Nat → Prop} {w : World} {sp rp keep at_ : Nat} {bs out : List Nat} (h : Strm P w sp rp bs keep at_ out) :
    Calls Try.prog 36 #[.pointer (some ⟨sp, 0, none⟩)] w fun e w' => StepOut P sp rp bs keep (stoB bs at_ out) w e w' := by
  obtain ⟨c0, c2, c3⟩ := h.cells
  have HA := Lib.hid (lsb_align w rp bs at_ h.rd)
  have H := Lib.hid h
  unfold stoB
  clear h
  have hat : at_ ≤ (at_ + 7) / 8 * 8 := by omega
  generalize (at_ + 7) / 8 * 8 = a0 at *
  obtain ⟨R, hR0⟩ : ∃ R, R = stored0 bs a0 out := ⟨_, rfl⟩
  rw [← hR0]
  replace hR0 := Lib.hid hR0
  go_enter Try.func36, Try.ntmps36
  go_wp2_with fail
  refine HA.out.mono ?_
  rintro e w1 ⟨⟨v, rfl⟩, hr1, ho1⟩
  obtain ⟨k1, k2⟩ := H.out.moved ho1 hr1 hat
  have HO1 := Lib.hid k1
  have HS1 := Lib.hid k2
  clear H HA hr1 ho1 k1 k2 c0 c2 c3 hat
  go_wp2_with fail
  by_cases h1 : a0 + 16 ≤ 8 * bs.length
  case neg =>
    have HR : Hid (R = none) := by rw [Hid, hR0.out]; unfold stored0; rw [if_neg (by omega)]
    have HB := Lib.hid (strm_bits_no HS1.out 16 (by decide) (by omega))
    clear h1
    refine HB.out.mono ?_
    rintro e w2 ⟨rfl, ho2⟩
    refine ⟨rfl, ?_⟩
    rw [HR.out]
    exact ⟨HO1.out.trans ho2, rfl⟩
  have HB := Lib.hid (strm_bits_ok HS1.out 16 (by decide) h1)
  have hn16 := num_lt bs a0 16
  have hnn : num bs a0 16 < 65536 := hn16
  have HN := Lib.hid (show R = if a0 + 32 ≤ 8 * bs.length then if num bs (a0 + 16) 16 = 65535 - num bs a0 16 then stoL bs (num bs a0 16) (a0 + 32) out else none else none from hR0.out)
  clear h1 hn16
  generalize num bs a0 16 = n at *
  refine HB.out.mono ?_
  rintro e w2 ⟨rfl, ho2, hs2⟩
  have HO2 := Lib.hid (HO1.out.trans ho2)
  have HS2 := Lib.hid hs2
  clear HB HO1 HS1 ho2 hs2
  go_wp2_with fail
  by_cases h2 : a0 + 32 ≤ 8 * bs.length
  case neg =>
    have HR : Hid (R = none) := by unfold Hid; rw [HN.out, if_neg h2]
    have HB := Lib.hid (strm_bits_no HS2.out 16 (by decide) (by omega))
    clear h2
    refine HB.out.mono ?_
    rintro e w3 ⟨rfl, ho3⟩
    refine ⟨rfl, ?_⟩
    rw [HR.out]
    exact ⟨HO2.out.trans ho3, rfl⟩
  have HB := Lib.hid (strm_bits_ok HS2.out 16 (by decide) (by omega))
  have hmm : num bs (a0 + 16) 16 < 65536 := num_lt bs (a0 + 16) 16
  have HN2 := Lib.hid (HN.out.trans (if_pos h2))
  clear h2 HN
  generalize num bs (a0 + 16) 16 = m at *
  refine HB.out.mono ?_
  rintro e w3 ⟨rfl, ho3, hs3⟩
  have HO3 := Lib.hid (HO2.out.trans ho3)
  have HS3 := Lib.hid (show Strm P w3 sp rp bs keep (a0 + 32) out from hs3)
  have hxor := xor_bits n hnn
  have hzl : 65535 - n ≤ 65535 := by omega
  clear HB HO2 HS2 ho3 hs3
  by_cases hz : m = 65535 - n
  case neg =>
    have HR : Hid (R = none) := by unfold Hid; rw [HN2.out, if_neg hz]
    have t1 : ((m : Int) != ((65535 - n : Nat) : Int)) = true := by simp; omega
    clear hz HN2
    generalize 65535 - n = z at *
    go_wp2_with fail
    refine ⟨rfl, ?_⟩
    rw [HR.out]
    exact ⟨HO3.out, rfl⟩
  have HR : Hid (R = stoL bs n (a0 + 32) out) := by unfold Hid; rw [HN2.out, if_pos hz]
  have t1 : ((m : Int) != ((65535 - n : Nat) : Int)) = false := by simp; omega
  clear hz HN2
  generalize 65535 - n = z at *
  go_wp2_with fail
  clear t1 hxor
  go_loopw [17] (fun i A => ∃ j at2 out2, j ≤ n ∧ i = .int .i64 (j : Nat) ∧ Only P w A ∧ Strm P A sp rp bs keep at2 out2 ∧ R = stoL bs (n - j) at2 out2) (fun i _ => n - (intOf i).toNat)
  case atStart => exact ⟨0, a0 + 32, out, by omega, rfl, HO3.out, HS3.out, HR.out⟩
  case round =>
    clear HO3 HS3 HR
    obtain ⟨j, at2, out2, hj, rfl, ho, hs, hr⟩ := hrel
    have HO := Lib.hid ho
    have HS := Lib.hid hs
    clear ho hs
    by_cases hlt : j < n
    · obtain ⟨k, hk⟩ : ∃ k, n - j = k + 1 := ⟨n - j - 1, by omega⟩
      have hk2 : n - (j + 1) = k := by omega
      rw [hk] at hr
      unfold stoL at hr
      by_cases h8 : at2 + 8 ≤ 8 * bs.length
      · rw [if_pos h8, ← hk2] at hr
        have HR := Lib.hid hr
        have HB := Lib.hid (strm_bits_ok HS.out 8 (by decide) h8)
        have hb := HS.out.bound
        have hv : num bs at2 8 < 256 := num_lt bs at2 8
        have hbd : out2.length + 1 ≤ 258 * (at2 + 8) := by omega
        clear hr h8 hb hk hk2
        generalize num bs at2 8 = v at *
        go_wp2_with fail
        refine HB.out.mono ?_
        rintro e w4 ⟨rfl, ho4, hs4⟩
        have HO4 := Lib.hid (HO.out.trans ho4)
        have HB2 := Lib.hid (strm_put hs4 v hbd)
        clear HB HO HS ho4 hs4
        go_wp2_with fail
        refine HB2.out.mono ?_
        rintro e w5 ⟨rfl, ho5, hs5⟩
        have HO5 := Lib.hid (HO4.out.trans ho5)
        have HS5 := Lib.hid hs5
        clear HB2 HO4 ho5 hs5
        go_wp2
        go_roundw
        case rel => exact ⟨j + 1, at2 + 8, out2 ++ [v], by omega, by go_num, HO5.out, HS5.out, HR.out⟩
        case measure => simp [intOf]; omega
      · rw [if_neg h8] at hr
        have HR := Lib.hid hr
        have HB := Lib.hid (strm_bits_no HS.out 8 (by decide) (by omega))
        clear hr h8 hk hk2
        go_wp2_with fail
        refine HB.out.mono ?_
        rintro e w4 ⟨rfl, ho4⟩
        refine ⟨rfl, ?_⟩
        rw [HR.out]
        exact ⟨HO.out.trans ho4, rfl⟩
    · obtain rfl : j = n := by omega
      rw [Nat.sub_self] at hr
      have HR := Lib.hid hr
      clear hr
      go_wp2
      go_end0
      rw [HR.out]
      exact ⟨HO.out, rfl, HS.out⟩
end Go.Proofs.Ytlofoocgiomfbaa
