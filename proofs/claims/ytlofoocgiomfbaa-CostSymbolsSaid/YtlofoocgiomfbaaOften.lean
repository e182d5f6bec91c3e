/- The reference of layer 17: Often, Symbols, Fixed: contracts. -/
import Derived.Test.YtlofoocgiomfbaaRef17
namespace Go.Proofs.Ytlofoocgiomfbaa
open Go.RowKit Go.Shelf M08 M17
set_option linter.unusedVariables false

def oftOut (w : World) (l : List Tok) (e : Ending) (w' : World) : Prop :=
  if ∀ t ∈ l, tokOk t then ∃ g1 g2, e = .returned (.tuple #[.slice (some ⟨g1, 0, none⟩) 286 286, .slice (some ⟨g2, 0, none⟩) 30 30, .bool true]) ∧ RowN .i64 w' (some ⟨g1, 0, none⟩) 286 (cntL (useU l) false 286) ∧ RowN .i64 w' (some ⟨g2, 0, none⟩) 30 (cntL (useU l) true 30) ∧ Below w.heap.size w w'
  else e = .returned (.tuple #[.slice none 0 0, .slice none 0 0, .bool false]) ∧ Below w.heap.size w w'
theorem oft_bad {w : World} {l : List Tok} {w' : World} {t : Tok} (ht : t ∈ l) (h : ¬ tokOk t) (hb : Below w.heap.size w w') : oftOut w l (.returned (.tuple #[.slice none 0 0, .slice none 0 0, .bool false])) w' := by
  unfold oftOut
  rw [if_neg (fun h2 => h (h2 t ht))]
  exact ⟨rfl, hb⟩

theorem take_ok' {l : List Tok} {k : Nat} (hk : k < l.length) (h : ∀ t ∈ l.take k, tokOk t) (h2 : tokOk l[k]) : ∀ t ∈ l.take (k + 1), tokOk t := by
  rw [List.take_succ_eq_append_getElem hk]
  intro t ht
  rcases List.mem_append.1 ht with ht | ht
  · exact h t ht
  · simp at ht; exact ht ▸ h2
theorem cnt_at {A : World} {base g n : Nat} {far : Bool} {R : List URow} (h : OwnN 3 .i64 A base (some ⟨g, 0, none⟩) n (cntL R far n)) (s : Nat) (hs : s < n) : A.cell? ⟨g, s, none⟩ = some (.int .i64 (cnt R far s : Nat)) ∧ A.frozen? ⟨g, s, none⟩ = false := by
  obtain ⟨g', he, _, _, hc, hf⟩ := h.at (i := s) (by rw [cntL_length]; exact hs)
  simp only [Option.some.injEq, Addr.mk.injEq, and_true] at he
  subst he
  refine ⟨?_, hf⟩
  rw [hc]
  have := cntL_at R far n s hs
  rw [List.getD_eq_getElem?_getD, List.getElem?_eq_getElem (by rw [cntL_length]; exact hs), Option.getD_some] at this
  rw [this]
theorem cnt_put {A : World} {base g n : Nat} {R : List URow} (r : URow) (h : OwnN 3 .i64 A base (some ⟨g, 0, none⟩) n (cntL R r.far n)) (hs : r.sym < n) : OwnN 3 .i64 (A.setCell ⟨g, r.sym, none⟩ (.int .i64 ((cnt R r.far r.sym + 1 : Nat) : Int))) base (some ⟨g, 0, none⟩) n (cntL (R ++ [r]) r.far n) := by
  rw [cntL_snoc, if_pos ⟨rfl, hs⟩]
  exact (OwnN.stored h _ _).1
theorem cnt_keep {A : World} {base g g' n s : Nat} {R : List URow} (r : URow) {far : Bool} (h : OwnN 3 .i64 A base (some ⟨g, 0, none⟩) n (cntL R far n)) (hf : r.far ≠ far) (hg : g' ≠ g) (v : Value) : OwnN 3 .i64 (A.setCell ⟨g', s, none⟩ v) base (some ⟨g, 0, none⟩) n (cntL (R ++ [r]) far n) := by
  rw [cntL_snoc, if_neg (fun h => hf h.1)]
  exact OwnN.other h (fun x hx => by cases hx; exact hg) _
theorem oft_start {w w1 w2 : World} (h1 : OwnN 3 .i64 w1 w.heap.size (some ⟨w.heap.size, 0, none⟩) 286 (List.replicate 286 0)) (g1 : w.grownBy w1 none) (h2 : OwnN 3 .i64 w2 w1.heap.size (some ⟨w1.heap.size, 0, none⟩) 30 (List.replicate 30 0)) (g2 : w1.grownBy w2 none) :
    w.heap.size < w1.heap.size ∧ w1.heap.size < w2.heap.size ∧ w2.cell? ⟨w.heap.size, 256, none⟩ = some (.int .i64 0) ∧ w2.frozen? ⟨w.heap.size, 256, none⟩ = false ∧
    Hid (OwnN 3 .i64 w2 w.heap.size (some ⟨w.heap.size, 0, none⟩) 286 (List.replicate 286 0)) ∧ Hid (OwnN 3 .i64 w2 w.heap.size (some ⟨w1.heap.size, 0, none⟩) 30 (List.replicate 30 0)) ∧ Hid (Below w.heap.size w w2) := by
  have hB1 : Below w.heap.size w w1 := Below.of_grown g1 (Nat.le_refl _) (fun k e => by cases e)
  have hB2 : Below w1.heap.size w1 w2 := Below.of_grown g2 (Nat.le_refl _) (fun k e => by cases e)
  have o1 := h1.below hB2
  have hz1 : w.heap.size < w1.heap.size := by
    obtain ⟨g, he, _, hlt⟩ := (h1.form).resolve_left (by intro h; cases h.1)
    simp only [Option.some.injEq, Addr.mk.injEq, and_true] at he
    omega
  have hz2 : w1.heap.size < w2.heap.size := by
    obtain ⟨g, he, _, hlt⟩ := (h2.form).resolve_left (by intro h; cases h.1)
    simp only [Option.some.injEq, Addr.mk.injEq, and_true] at he
    omega
  obtain ⟨g, he, _, _, hc, hf⟩ := o1.at (i := 256) (by rw [List.length_replicate]; decide)
  simp only [Option.some.injEq, Addr.mk.injEq, and_true] at he
  subst he
  exact ⟨hz1, hz2, by rw [hc, List.getElem_replicate]; rfl, hf, o1, h2.mono (by omega), hB1.trans (hB2.mono hB1.size)⟩

set_option maxRecDepth 100000 in
set_option maxHeartbeats 1600000 in
theorem ref17_often (a : Option Addr) (cap : Nat) (l : List Tok) (w : World) (hl : l.length ≤ 1000) (hby : ∀ t ∈ l, t.byte < 256) (hr : RowS encT w a cap l) :
    Calls Try.prog 29 #[.slice a l.length cap] w (oftOut w l) := by
  have HBY := Lib.hid hby
  clear hby
  go_enter Try.func29, Try.ntmps29
  go_wp2_with (first | (at_make; refine makeN (n := 286) et_int rfl _ _ rfl w.heap.size rfl rfl (by decide) (by decide) (Nat.le_refl _) ?_; intro w1 hown1 hg1) | (at_make; refine makeN (n := 30) et_int rfl _ _ rfl w1.heap.size rfl rfl (by decide) (by decide) (Nat.le_refl _) ?_; intro w2 hown2 hg2; obtain ⟨hz1, hz2, hc256, hf256, HO1, HO2, HB⟩ := oft_start hown1 hg1 hown2 hg2; clear hown1 hg1 hown2 hg2))
  obtain ⟨z1, z2⟩ := oftR_zero l
  have S1 : Hid (OwnN 3 .i64 (w2.setCell ⟨w.heap.size, 256, none⟩ (.int .i64 1)) w.heap.size (some ⟨w.heap.size, 0, none⟩) 286 (cntL (oftR l 0) false 286)) := by
    rw [z1]; exact (OwnN.stored HO1.out 256 1).1
  have S2 : Hid (OwnN 3 .i64 (w2.setCell ⟨w.heap.size, 256, none⟩ (.int .i64 1)) w.heap.size (some ⟨w1.heap.size, 0, none⟩) 30 (cntL (oftR l 0) true 30)) := by
    rw [z2]; exact OwnN.other HO2.out (fun g hg => by cases hg; show w.heap.size ≠ w1.heap.size; omega) _
  have S3 : Hid (Below w.heap.size w (w2.setCell ⟨w.heap.size, 256, none⟩ (.int .i64 1))) := HB.out.setCell (Nat.le_refl _) _
  clear z1 z2 HO1 HO2 HB hc256 hf256
  generalize w2.setCell ⟨w.heap.size, 256, none⟩ (.int .i64 1) = w3 at *
  have HZ := Lib.hid hz1
  clear hz2
  obtain ⟨g1, hg1⟩ : ∃ g1, w.heap.size = g1 := ⟨_, rfl⟩
  obtain ⟨g2, hg2⟩ : ∃ g2, w1.heap.size = g2 := ⟨_, rfl⟩
  rw [hg1, hg2] at S2
  rw [hg1] at S1
  rw [hg1, hg2] at hz1
  simp only [hg1, hg2]
  have HG1 := Lib.hid hg1
  clear hg1 hg2 HZ
  go_loopw [7, 8, 9, 10, 11, 12, 13, 14, 15] (fun i _ _ _ _ _ _ _ _ A => ∃ k : Nat, k ≤ l.length ∧ i = .int .i64 k ∧ (∀ t ∈ l.take k, tokOk t) ∧ OwnN 3 .i64 A g1 (some ⟨g1, 0, none⟩) 286 (cntL (oftR l k) false 286) ∧ OwnN 3 .i64 A g1 (some ⟨g2, 0, none⟩) 30 (cntL (oftR l k) true 30) ∧ Below w.heap.size w A) (fun i _ _ _ _ _ _ _ _ _ => l.length - (intOf i).toNat)
  case atStart => exact ⟨0, by omega, rfl, by simp, S1.out, S2.out, S3.out⟩
  case round =>
    clear S1 S2 S3
    obtain ⟨k, hk, rfl, hok, ho1, ho2, hbel⟩ := hrel
    have HOK := Lib.hid hok
    clear hok
    by_cases hlt : k < l.length
    · have hrA := hr.below hbel
      obtain ⟨b, off, rfl, hb, hcl⟩ := hrA.at hlt
      have c0 := hcl 0 _ rfl
      have c1 := hcl 1 _ rfl
      have c2 := hcl 2 _ rfl
      have hbt := HBY.out _ (List.getElem_mem hlt)
      have hmem := List.getElem_mem hlt
      have GT := Lib.hid (fun h2 => take_ok' hlt HOK.out h2)
      have GS := Lib.hid (oftR_succ l k hlt)
      have HLEN := Lib.hid (oftR_len l k)
      clear hrA hcl
      generalize l[k] = t at *
      obtain ⟨L, D, bt⟩ := t
      simp only [encT, Nat.add_zero] at c0 c1 c2 hbt
      rw [← Nat.add_assoc] at c1 c2
      by_cases hok : tokOk ⟨L, D, bt⟩
      case neg =>
        have HN := Lib.hid (fun (w' : World) (hb : Below w.heap.size w w') => oft_bad hmem hok hb)
        have hd : decide (tokOk ⟨L, D, bt⟩) = false := by simpa using hok
        have HB := Lib.hid hbel
        clear ho1 ho2 hmem hok hbel
        go_wp2_with (go_at_call 53; refine (ref08_may ⟨L, D, bt⟩ _).mono ?_; rintro e w' ⟨rfl, hbw⟩; rw [hd])
        refine bodyPost_ret (results_tmp3 rfl _ _ _) rfl ?_
        exact HN.out _ (HB.out.trans (hbw.mono HB.out.size))
      have hd : decide (tokOk ⟨L, D, bt⟩) = true := by simpa using hok
      by_cases h0 : L = 0
      · have hD : D = 0 := by have h := hok; unfold tokOk at h; rw [if_pos h0] at h; exact h
        have hu : tokU ⟨L, D, bt⟩ = [⟨false, bt, 0, 0⟩] := by unfold tokU; rw [if_pos h0, if_pos hD]
        subst h0 hD
        have HS := Lib.hid (GS.out.trans (by rw [hu]))
        have HT := Lib.hid (GT.out hok)
        have hcl := cnt_le (oftR l k) false bt
        have hcl2 := HLEN.out
        have HO1 := Lib.hid ho1
        have HO2 := Lib.hid ho2
        have HB := Lib.hid hbel
        clear ho1 ho2 hmem hbel hu
        go_wp2_with fail
        refine (ref08_may ⟨0, 0, bt⟩ _).mono ?_
        rintro e w4 ⟨rfl, hbw⟩
        rw [hd]
        have e0 := (hbw.cell (p := ⟨b, off + k * 3, none⟩) hb).trans c0
        have e2 := (hbw.cell (p := ⟨b, off + k * 3 + 2, none⟩) hb).trans c2
        have HO1' := Lib.hid (HO1.out.below hbw)
        have HO2' := Lib.hid (HO2.out.below hbw)
        have HB' := Lib.hid (HB.out.trans (hbw.mono HB.out.size))
        obtain ⟨f1, f2⟩ := cnt_at HO1'.out bt (by omega)
        clear c0 c1 c2 hbw hd hok HO1 HO2 HB
        have HO1P := fun x => cnt_put ⟨false, bt, 0, 0⟩ HO1'.out (show bt < 286 by omega)
        have H1 := Lib.hid (cnt_put ⟨false, bt, 0, 0⟩ HO1'.out (show bt < 286 by omega))
        have H2 := Lib.hid (fun v => cnt_keep (s := bt) (g' := g1) ⟨false, bt, 0, 0⟩ HO2'.out Bool.false_ne_true (by omega) v)
        clear HO1P
        simp only at H1
        generalize cnt (oftR l k) false bt = cc at *
        have hcc : cc ≤ 2001 := by omega
        clear hcl hcl2 HLEN
        go_wp2
        go_roundw
        case rel => exact ⟨k + 1, by omega, by go_num, HT.out, by rw [HS.out]; exact H1.out, by rw [HS.out]; exact H2.out _, HB'.out.setCell (by show w.heap.size ≤ g1; have := HG1.out; omega) _⟩
        case measure => simp [intOf]; omega
      · have h2 : bt = 0 ∧ 3 ≤ L ∧ L ≤ 258 ∧ 1 ≤ D ∧ D ≤ 32768 := by have h := hok; unfold tokOk at h; rw [if_neg h0] at h; exact h
        obtain ⟨rfl, hl3, hl258, hd1, hd3⟩ := h2
        have hu : tokU ⟨L, D, 0⟩ = [⟨false, 257 + lk L.toNat, lbits (257 + lk L.toNat), 0⟩, ⟨true, dk D.toNat, dbits (dk D.toNat), 0⟩] := by unfold tokU; rw [if_neg h0, if_pos hok]
        have b0 : (L == 0) = false := by simp [h0]
        have HS := Lib.hid (GS.out.trans (by rw [hu]))
        have HT := Lib.hid (GT.out hok)
        have HO1 := Lib.hid ho1
        have HO2 := Lib.hid ho2
        have HB := Lib.hid hbel
        obtain ⟨n, rfl⟩ := Int.eq_ofNat_of_zero_le (by omega : 0 ≤ L)
        obtain ⟨m, rfl⟩ := Int.eq_ofNat_of_zero_le (by omega : 0 ≤ D)
        simp only [Int.toNat_natCast] at HS hu
        have hlk : lk n < 29 := lastLe_lt n (by decide)
        have hdk := dk_lt m
        have HLN := Lib.hid (fun (w : World) => ref08_length n w (by omega) (by omega))
        have HDN := Lib.hid (fun (w : World) => ref08_distance m w (by omega) (by omega))
        clear ho1 ho2 hmem hbel hu hl3 hl258 hd1 hd3 h0
        have hs286 : 257 + lk n < 286 := by omega
        clear hlk
        generalize lensL.getD (lk n) 0 = ln at *
        generalize distL.getD (dk m) 0 = dn at *
        generalize 257 + lk n = s at *
        generalize dk m = kd at *
        generalize lbits s = bl at *
        generalize dbits kd = bd at *
        go_wp2_with fail
        refine (ref08_may ⟨(n : Int), (m : Int), 0⟩ _).mono ?_
        rintro e w4 ⟨rfl, hbw⟩
        rw [hd]
        have e0 := (hbw.cell (p := ⟨b, off + k * 3, none⟩) hb).trans c0
        have e1 := (hbw.cell (p := ⟨b, off + k * 3 + 1, none⟩) hb).trans c1
        have hb4 : b < w4.heap.size := Nat.lt_of_lt_of_le hb hbw.size
        have HO1' := Lib.hid (HO1.out.below hbw)
        have HO2' := Lib.hid (HO2.out.below hbw)
        have HB' := Lib.hid (HB.out.trans (hbw.mono HB.out.size))
        clear c0 c1 c2 hbw hd hok HO1 HO2 HB
        go_wp2_with fail
        refine (HLN.out _).mono ?_
        rintro e w5 ⟨rfl, hbw⟩
        have e1' := (hbw.cell (p := ⟨b, off + k * 3 + 1, none⟩) hb4).trans e1
        have HO1 := Lib.hid (HO1'.out.below hbw)
        have HO2 := Lib.hid (HO2'.out.below hbw)
        have HB := Lib.hid (HB'.out.trans (hbw.mono HB'.out.size))
        clear e0 e1 hbw HO1' HO2' HB' HLN
        go_wp2_with fail
        refine (HDN.out _).mono ?_
        rintro e w6 ⟨rfl, hbw⟩
        have HO1' := Lib.hid (HO1.out.below hbw)
        have HO2' := Lib.hid (HO2.out.below hbw)
        have HB' := Lib.hid (HB.out.trans (hbw.mono HB.out.size))
        obtain ⟨f1, f2⟩ := cnt_at HO1'.out s (by omega)
        obtain ⟨f3, f4⟩ := cnt_at HO2'.out kd (by omega)
        have hcl := cnt_le (oftR l k) false s
        have hcl2 := cnt_le (oftR l k) true kd
        have hcl3 := HLEN.out
        clear e1' hbw HO1 HO2 HB HDN hb4
        have H1 := Lib.hid (fun v (x : Nat) => cnt_keep (s := kd) (g' := g2) ⟨true, kd, bd, 0⟩ (cnt_put ⟨false, s, bl, 0⟩ HO1'.out hs286) (fun h => Bool.false_ne_true h.symm) (by omega) v)
        have H2 := Lib.hid (fun v => cnt_keep (s := s) (g' := g1) ⟨false, s, bl, 0⟩ HO2'.out Bool.false_ne_true (by omega) v)
        have H3 := Lib.hid (show ∀ v, OwnN 3 .i64 (w6.setCell ⟨g1, s, none⟩ v |>.setCell ⟨g2, kd, none⟩ (.int .i64 ((cnt (oftR l k) true kd + 1 : Nat) : Int))) g1 (some ⟨g2, 0, none⟩) 30 (cntL ((oftR l k ++ [⟨false, s, bl, 0⟩]) ++ [⟨true, kd, bd, 0⟩]) true 30) from fun v => by
          have h := cnt_put ⟨true, kd, bd, 0⟩ (H2.out v) hdk
          have hc : cnt (oftR l k ++ [⟨false, s, bl, 0⟩]) true kd = cnt (oftR l k) true kd := by rw [cnt_snoc, if_neg (by intro h; cases h.1)]; rfl
          simp only [hc] at h
          exact h)
        simp only at H1
        have HS2 : Hid (oftR l (k + 1) = (oftR l k ++ [⟨false, s, bl, 0⟩]) ++ [⟨true, kd, bd, 0⟩]) := HS.out.trans (by simp)
        generalize cnt (oftR l k) false s = cc at *
        generalize cnt (oftR l k) true kd = cd at *
        have hcc : cc ≤ 2001 := by omega
        have hcd : cd ≤ 2001 := by omega
        clear hcl hcl2 hcl3 HLEN H2 HS
        go_wp2
        go_roundw
        case rel => exact ⟨k + 1, by omega, by go_num, HT.out, by rw [HS2.out]; exact H1.out _ 0, by rw [HS2.out]; exact H3.out _, (HB'.out.setCell (by show w.heap.size ≤ g1; have := HG1.out; omega) _).setCell (by show w.heap.size ≤ g2; have := HG1.out; omega) _⟩
        case measure => simp [intOf]; omega
    · obtain rfl : k = l.length := by omega
      have hall : ∀ t ∈ l, tokOk t := by have := HOK.out; rwa [List.take_length] at this
      rw [oftR_cnt l hall] at ho1 ho2
      have HO1 := Lib.hid ho1.row
      have HO2 := Lib.hid ho2.row
      have HB := Lib.hid hbel
      have HALL := Lib.hid hall
      clear ho1 ho2 hbel hall
      go_wp2
      refine bodyPost_ret (results_tmp3 rfl _ _ _) rfl ?_
      unfold oftOut
      rw [if_pos HALL.out]
      exact ⟨g1, g2, rfl, HO1.out, HO2.out, HB.out⟩
end Go.Proofs.Ytlofoocgiomfbaa
