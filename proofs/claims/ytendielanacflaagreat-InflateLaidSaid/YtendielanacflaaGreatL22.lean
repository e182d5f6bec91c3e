/- layer 10's laws: best: contract. After the walk of Often. Plain mathematics of layer 10: a stream of blocks that were laid is read back, whatever stands behind. Layer 17: how often each symbol comes, the best codes for tokens, and that their symbols have words (plain). Layer 17: the best codes cost no more than any other codes that have the symbols (plain). token.LengthOf, DistanceOf: contracts. inflate: a stream; must, bits, put, repeat: contracts. inflate: repeat, stored, none: contracts. -/
import Derived.Test.YtendielanacflaaGreatL05
import Derived.Test.YtendielanacflaaGreatL10
import Derived.Test.YtendielanacflaaGreatL21
import Derived.Test.YtendielanacflaaGreatL04
import Derived.Test.YtendielanacflaaGreatL06
import Derived.Test.YtendielanacflaaGreatL18
import Derived.Maps.AppendAt
import Derived.WalkLawsBesides
namespace Go.Proofs.YtendielanacflaaGreat
open Go.RowKit Go.Shelf M05 M08 M17
set_option linter.unusedVariables false
set_option linter.unusedSimpArgs false
set_option maxRecDepth 100000 in
set_option maxHeartbeats 1600000 in
theorem law10_best (a : Option Addr) (cap : Nat) (l : List Tok) (w : World) (hl : l.length ≤ 1000) (hby : ∀ t ∈ l, t.byte < 256) (hall : ∀ t ∈ l, tokOk t) (hr : RowS encT w a cap l) :
    Calls Tryz.prog 22 #[.slice a l.length cap] w fun e w' => ∃ a1 c1 a2 c2, e = .returned (.tuple #[.slice a1 286 c1, .slice a2 30 c2]) ∧ OwnN 5 .u8 w' w.heap.size a1 c1 (limL (cntL (useU l) false 286) 15) ∧ OwnN 5 .u8 w' w.heap.size a2 c2 (limL (cntL (useU l) true 30) 15) ∧ Below w.heap.size w w' := by
  have HALL := Lib.hid hall
  clear hall
  have HBY := Lib.hid hby
  clear hby
  go_enter Tryz.func22, Tryz.ntmps22
  go_wp2_with (first | (at_make; refine makeN (n := 286) et_int rfl _ _ rfl w.heap.size rfl rfl (by decide) (by decide) (Nat.le_refl _) ?_; intro w1 hown1 hg1) | (at_make; refine makeN (n := 30) et_int rfl _ _ rfl w1.heap.size rfl rfl (by decide) (by decide) (Nat.le_refl _) ?_; intro w2 hown2 hg2; obtain ⟨hz1, hz2, hc256, hf256, HO1, HO2, HB⟩ := oft_start hown1 hg1 hown2 hg2; clear hown1 hg1 hown2 hg2))
  obtain ⟨z1, z2⟩ := oftR_zero l
  have S1 : Hid (OwnN 3 .i64 (w2.setCell ⟨w.heap.size, 256, none⟩ (.int .i64 1)) w.heap.size (some ⟨w.heap.size, 0, none⟩) 286 (cntL (oftR l 0) false 286)) := by
    rw [z1]; exact (OwnN.stored HO1.out 256 1).1
  have S2 : Hid (OwnN 3 .i64 (w2.setCell ⟨w.heap.size, 256, none⟩ (.int .i64 1)) w.heap.size (some ⟨w1.heap.size, 0, none⟩) 30 (cntL (oftR l 0) true 30)) := by
    rw [z2]; exact OwnN.other HO2.out (fun g hg => by cases hg; show w.heap.size ≠ w1.heap.size; omega) _
  have S3 : Hid (Below w.heap.size w (w2.setCell ⟨w.heap.size, 256, none⟩ (.int .i64 1))) := HB.out.setCell (Nat.le_refl _) _
  clear z1 z2 HO1 HO2 HB hc256 hf256
  generalize w2.setCell ⟨w.heap.size, 256, none⟩ (.int .i64 1) = w3 at *
  have HZ := Lib.hid hz1
  clear hz2
  obtain ⟨g1, hg1⟩ : ∃ g1, w.heap.size = g1 := ⟨_, rfl⟩
  obtain ⟨g2, hg2⟩ : ∃ g2, w1.heap.size = g2 := ⟨_, rfl⟩
  rw [hg1, hg2] at S2
  rw [hg1] at S1
  rw [hg1, hg2] at hz1
  simp only [hg1, hg2]
  have HG1 := Lib.hid hg1
  clear hg1 hg2 HZ
  go_loopw [6, 7, 8, 9, 10, 11, 12, 13, 14] (fun i _ _ _ _ _ _ _ _ A => ∃ k : Nat, k ≤ l.length ∧ i = .int .i64 k ∧ (∀ t ∈ l.take k, tokOk t) ∧ OwnN 3 .i64 A g1 (some ⟨g1, 0, none⟩) 286 (cntL (oftR l k) false 286) ∧ OwnN 3 .i64 A g1 (some ⟨g2, 0, none⟩) 30 (cntL (oftR l k) true 30) ∧ Below w.heap.size w A) (fun i _ _ _ _ _ _ _ _ _ => l.length - (intOf i).toNat)
  case atStart => exact ⟨0, by omega, rfl, by simp, S1.out, S2.out, S3.out⟩
  case round =>
    clear S1 S2 S3
    obtain ⟨k, hk, rfl, hok, ho1, ho2, hbel⟩ := hrel
    have HOK := Lib.hid hok
    clear hok
    by_cases hlt : k < l.length
    · have hrA := hr.below hbel
      obtain ⟨b, off, rfl, hb, hcl⟩ := hrA.at hlt
      have c0 := hcl 0 _ rfl
      have c1 := hcl 1 _ rfl
      have c2 := hcl 2 _ rfl
      have hbt := HBY.out _ (List.getElem_mem hlt)
      have hmem := List.getElem_mem hlt
      have GT := Lib.hid (fun h2 => take_ok' hlt HOK.out h2)
      have GS := Lib.hid (oftR_succ l k hlt)
      have HLEN := Lib.hid (oftR_len l k)
      clear hrA hcl
      generalize l[k] = t at *
      obtain ⟨L, D, bt⟩ := t
      simp only [encT, Nat.add_zero] at c0 c1 c2 hbt
      rw [← Nat.add_assoc] at c1 c2
      have hok : tokOk ⟨L, D, bt⟩ := HALL.out _ hmem
      by_cases h0 : L = 0
      · have hD : D = 0 := by have h := hok; unfold tokOk at h; rw [if_pos h0] at h; exact h
        have hu : tokU ⟨L, D, bt⟩ = [⟨false, bt, 0, 0⟩] := by unfold tokU; rw [if_pos h0, if_pos hD]
        subst h0 hD
        have HS := Lib.hid (GS.out.trans (by rw [hu]))
        have HT := Lib.hid (GT.out hok)
        have hcl := cnt_le (oftR l k) false bt
        have hcl2 := HLEN.out
        have HO1 := Lib.hid ho1
        have HO2 := Lib.hid ho2
        have HB := Lib.hid hbel
        clear ho1 ho2 hmem hbel hu
        have HO1' := HO1
        have HO2' := HO2
        have HB' := HB
        obtain ⟨f1, f2⟩ := cnt_at HO1'.out bt (by omega)
        clear hok HO1 HO2 HB
        have HO1P := fun x => cnt_put ⟨false, bt, 0, 0⟩ HO1'.out (show bt < 286 by omega)
        have H1 := Lib.hid (cnt_put ⟨false, bt, 0, 0⟩ HO1'.out (show bt < 286 by omega))
        have H2 := Lib.hid (fun v => cnt_keep (s := bt) (g' := g1) ⟨false, bt, 0, 0⟩ HO2'.out Bool.false_ne_true (by omega) v)
        clear HO1P
        simp only at H1
        generalize cnt (oftR l k) false bt = cc at *
        have hcc : cc ≤ 2001 := by omega
        clear hcl hcl2 HLEN
        go_wp2
        go_roundw
        case rel => exact ⟨k + 1, by omega, by go_num, HT.out, by rw [HS.out]; exact H1.out, by rw [HS.out]; exact H2.out _, HB'.out.setCell (by show w.heap.size ≤ g1; have := HG1.out; omega) _⟩
        case measure => simp [intOf]; omega
      · have h2 : bt = 0 ∧ 3 ≤ L ∧ L ≤ 258 ∧ 1 ≤ D ∧ D ≤ 32768 := by have h := hok; unfold tokOk at h; rw [if_neg h0] at h; exact h
        obtain ⟨rfl, hl3, hl258, hd1, hd3⟩ := h2
        have hu : tokU ⟨L, D, 0⟩ = [⟨false, 257 + lk L.toNat, lbits (257 + lk L.toNat), 0⟩, ⟨true, dk D.toNat, dbits (dk D.toNat), 0⟩] := by unfold tokU; rw [if_neg h0, if_pos hok]
        have b0 : (L == 0) = false := by simp [h0]
        have HS := Lib.hid (GS.out.trans (by rw [hu]))
        have HT := Lib.hid (GT.out hok)
        have HO1 := Lib.hid ho1
        have HO2 := Lib.hid ho2
        have HB := Lib.hid hbel
        obtain ⟨n, rfl⟩ := Int.eq_ofNat_of_zero_le (by omega : 0 ≤ L)
        obtain ⟨m, rfl⟩ := Int.eq_ofNat_of_zero_le (by omega : 0 ≤ D)
        simp only [Int.toNat_natCast] at HS hu
        have hlk : lk n < 29 := lastLe_lt n (by decide)
        have hdk := dk_lt m
        have HLN := Lib.hid (fun (w : World) => token_length n w (by omega) (by omega))
        have HDN := Lib.hid (fun (w : World) => token_distance m w (by omega) (by omega))
        clear ho1 ho2 hmem hbel hu hl3 hl258 hd1 hd3 h0
        have hs286 : 257 + lk n < 286 := by omega
        clear hlk
        generalize lensL.getD (lk n) 0 = ln at *
        generalize distL.getD (dk m) 0 = dn at *
        generalize 257 + lk n = s at *
        generalize dk m = kd at *
        generalize lbits s = bl at *
        generalize dbits kd = bd at *
        have hb4 := hb
        have e1 := c1
        have HO1' := HO1
        have HO2' := HO2
        have HB' := HB
        clear hok HO1 HO2 HB
        go_wp2_with fail
        refine (HLN.out _).mono ?_
        rintro e w5 ⟨rfl, hbw⟩
        have e1' := (hbw.cell (p := ⟨b, off + k * 3 + 1, none⟩) hb4).trans e1
        have HO1 := Lib.hid (HO1'.out.below hbw)
        have HO2 := Lib.hid (HO2'.out.below hbw)
        have HB := Lib.hid (HB'.out.trans (hbw.mono HB'.out.size))
        clear e1 c0 c1 c2 hbw HO1' HO2' HB' HLN
        go_wp2_with fail
        refine (HDN.out _).mono ?_
        rintro e w6 ⟨rfl, hbw⟩
        have HO1' := Lib.hid (HO1.out.below hbw)
        have HO2' := Lib.hid (HO2.out.below hbw)
        have HB' := Lib.hid (HB.out.trans (hbw.mono HB.out.size))
        obtain ⟨f1, f2⟩ := cnt_at HO1'.out s (by omega)
        obtain ⟨f3, f4⟩ := cnt_at HO2'.out kd (by omega)
        have hcl := cnt_le (oftR l k) false s
        have hcl2 := cnt_le (oftR l k) true kd
        have hcl3 := HLEN.out
        clear e1' hbw HO1 HO2 HB HDN hb4
        have H1 := Lib.hid (fun v (x : Nat) => cnt_keep (s := kd) (g' := g2) ⟨true, kd, bd, 0⟩ (cnt_put ⟨false, s, bl, 0⟩ HO1'.out hs286) (fun h => Bool.false_ne_true h.symm) (by omega) v)
        have H2 := Lib.hid (fun v => cnt_keep (s := s) (g' := g1) ⟨false, s, bl, 0⟩ HO2'.out Bool.false_ne_true (by omega) v)
        have H3 := Lib.hid (show ∀ v, OwnN 3 .i64 (w6.setCell ⟨g1, s, none⟩ v |>.setCell ⟨g2, kd, none⟩ (.int .i64 ((cnt (oftR l k) true kd + 1 : Nat) : Int))) g1 (some ⟨g2, 0, none⟩) 30 (cntL ((oftR l k ++ [⟨false, s, bl, 0⟩]) ++ [⟨true, kd, bd, 0⟩]) true 30) from fun v => by
          have h := cnt_put ⟨true, kd, bd, 0⟩ (H2.out v) hdk
          have hc : cnt (oftR l k ++ [⟨false, s, bl, 0⟩]) true kd = cnt (oftR l k) true kd := by rw [cnt_snoc, if_neg (by intro h; cases h.1)]; rfl
          simp only [hc] at h
          exact h)
        simp only at H1
        have HS2 : Hid (oftR l (k + 1) = (oftR l k ++ [⟨false, s, bl, 0⟩]) ++ [⟨true, kd, bd, 0⟩]) := HS.out.trans (by simp)
        generalize cnt (oftR l k) false s = cc at *
        generalize cnt (oftR l k) true kd = cd at *
        have hcc : cc ≤ 2001 := by omega
        have hcd : cd ≤ 2001 := by omega
        clear hcl hcl2 hcl3 HLEN H2 HS
        go_wp2
        go_roundw
        case rel => exact ⟨k + 1, by omega, by go_num, HT.out, by rw [HS2.out]; exact H1.out _ 0, by rw [HS2.out]; exact H3.out _, (HB'.out.setCell (by show w.heap.size ≤ g1; have := HG1.out; omega) _).setCell (by show w.heap.size ≤ g2; have := HG1.out; omega) _⟩
        case measure => simp [intOf]; omega
    · obtain rfl : k = l.length := by omega
      have hall : ∀ t ∈ l, tokOk t := by have := HOK.out; rwa [List.take_length] at this
      rw [oftR_cnt l hall] at ho1 ho2
      have HO1 := Lib.hid ho1.row
      have HO2 := Lib.hid ho2.row
      have HB := Lib.hid hbel
      have hle : ∀ f n, ∀ x ∈ cntL (useU l) f n, x ≤ 1099511627776 := fun f n x hx => by
        obtain ⟨i, _, rfl⟩ := List.mem_map.1 hx
        have := cnt_le (useU l) f i
        have := useU_len l
        omega
      have hu0 : (used (cntL (useU l) false 286)).length ≤ 286 := by have := M09.used_le (cntL (useU l) false 286); rw [cntL_length] at this; exact this
      have hu1 : (used (cntL (useU l) true 30)).length ≤ 30 := by have := M09.used_le (cntL (useU l) true 30); rw [cntL_length] at this; exact this
      have HL0 := limit_lengthsA _ _ _ (cntL (useU l) false 286) 15 HO1.out (by rw [cntL_length]; decide) (by omega) (hle _ _) (by decide) (by decide) (pow15 _ (by rw [(rar_perm _).length_eq]; omega))
      have HL1 := fun A' (h : Below _ _ A') => limit_lengthsA A' _ _ (cntL (useU l) true 30) 15 (HO2.out.below h) (by rw [cntL_length]; decide) (by omega) (hle _ _) (by decide) (by decide) (pow15 _ (by rw [(rar_perm _).length_eq]; omega))
      rw [cntL_length] at HL0 HL1
      have HL0 := Lib.hid HL0
      have HL1 := Lib.hid HL1
      clear ho1 ho2 hbel hall hle hu0 hu1
      obtain ⟨F, hF⟩ : ∃ F, limL (cntL (useU l) false 286) 15 = F := ⟨_, rfl⟩
      obtain ⟨O, hO⟩ : ∃ O, limL (cntL (useU l) true 30) 15 = O := ⟨_, rfl⟩
      rw [hF] at HL0
      rw [hO] at HL1
      have HFO := Lib.hid (And.intro hF hO)
      clear hF hO
      go_wp2_with fail
      refine HL0.out.mono ?_
      rintro e x1 ⟨p1, d1, rfl, q1, hbx1⟩
      have HX1 := Lib.hid hbx1
      have HQ1 := Lib.hid (q1.mono HB.out.size)
      clear q1 hbx1 HL0
      go_wp2_with fail
      refine (HL1.out _ HX1.out).mono ?_
      rintro e x2 ⟨p2, d2, rfl, q2, hbx2⟩
      have HQ := Lib.hid (And.intro (HQ1.out.below hbx2) (q2.mono (Nat.le_trans HB.out.size HX1.out.size)))
      have HX2 := Lib.hid (HB.out.trans ((HX1.out.trans (hbx2.mono HX1.out.size)).mono HB.out.size))
      clear q2 hbx2 HL1 HX1 HQ1
      go_wp2
      go_ret2
      exact ⟨p1, d1, p2, d2, rfl, by rw [HFO.out.1]; exact HQ.out.1, by rw [HFO.out.2]; exact HQ.out.2, HX2.out⟩
end Go.Proofs.YtendielanacflaaGreat

namespace Go.Proofs.YtendielanacflaaGreat.M10
open Go.RowKit Go.Shelf M01 M04 M06 M08 M09 M17
set_option linter.unusedVariables false
set_option linter.unusedSimpArgs false
def tailW (s : Wst) (x : List Nat) : Wst := (s.1 ++ x, 8 * (s.1 ++ x).length)
theorem tailW_g {s : Wst} (h : WG s) (x : List Nat) (hx : ∀ c ∈ x, c < 256) : WG (tailW s x) ∧ ExtW s (tailW s x) := by
  have h1 := h.1.1
  refine ⟨⟨⟨?_, ?_⟩, fun i hi => bit_out _ i hi⟩, ?_, ?_⟩
  · show (s.1 ++ x).length = (8 * (s.1 ++ x).length + 7) / 8; omega
  · intro c hc
    rcases List.mem_append.1 hc with hc | hc
    · exact h.1.2 c hc
    · exact hx c hc
  · show s.2 ≤ 8 * (s.1 ++ x).length
    rw [List.length_append]; omega
  · intro i hi
    show bit (s.1 ++ x) i = bit s.1 i
    unfold bit
    rw [List.getD_eq_getElem?_getD, List.getElem?_append_left (by omega), ← List.getD_eq_getElem?_getD]
theorem used_bytes {s : Wst} (h : WG s) : (s.2 + 7) / 8 = s.1.length := h.1.1.symm
def HasW (l1 l2 : List Nat) (l : List Tok) : Prop := (∀ t ∈ l, tokOk t) ∧ (∀ t ∈ l, t.byte < 256) ∧ ∀ r ∈ useU l, lensOf l1 l2 r ≠ 0
theorem HasW.toks {l1 l2 : List Nat} {l : List Tok} (h : HasW l1 l2 l) : l1.getD 256 0 ≠ 0 ∧ ∀ x ∈ l, tokOk x ∧ x.byte < 256 ∧ ∀ r ∈ tokU x, lensOf l1 l2 r ≠ 0 := by
  obtain ⟨h1, h2, h3⟩ := h
  rw [useU_ok l h1] at h3
  refine ⟨h3 endU (List.mem_append_right _ (List.mem_singleton_self _)), fun x hx => ⟨h1 x hx, h2 x hx, fun r hr => h3 r (List.mem_append_left _ (List.mem_flatMap.2 ⟨x, hx, hr⟩))⟩⟩
theorem layBlk_g {s : Wst} (h : WG s) (l1 l2 : List Nat) (l : List Tok) : WG (layBlk l1 l2 s l) ∧ ExtW s (layBlk l1 l2 s l) := by
  have h1 := layTo_g l1 l2 l h
  have h2 := addSymE_g h1.1 l1 256
  exact ⟨h2.1, h1.2.trans h2.2⟩
theorem fix_block {s t : Wst} (h : WG s) (hk : WG t) (last : Bool) (l : List Tok) (hc : Cod fixF fixD) (hw : HasW fixF fixD l) (ht : ExtW (layBlk fixF fixD (begW s last 1) l) t) (out out' : List Nat) (he : expL out l = some out') (g : Nat → List Nat → Option (Nat × List Nat)) :
    inflStep t.1 g s.2 out = if last = true then some ((layBlk fixF fixD (begW s last 1) l).2, out') else g (layBlk fixF fixD (begW s last 1) l).2 out' := by
  have hb := begW_g h last 1
  have hg := layBlk_g hb.1 fixF fixD l
  rw [beg_laid h hk last 1 (by decide) (hg.2.trans ht) g out]
  have : blkK 1 t.1 (begW s last 1).2 out = some ((layBlk fixF fixD (begW s last 1) l).2, out') := by
    unfold blkK
    rw [if_neg (by decide), if_pos rfl]
    exact syms_laid hc hb.1 hk hw.toks.1 l hw.toks.2 out out' ht he
  rw [this]
theorem dyn_block {s t : Wst} (h : WG s) (hk : WG t) (last : Bool) (l : List Tok) (F O : List Nat) (hm : mayH F O = true) (hc : Cod F O) (hw : HasW F O l) (ht : ExtW (layBlk F O (hputW (begW s last 2) F O) l) t) (out out' : List Nat) (he : expL out l = some out') (g : Nat → List Nat → Option (Nat × List Nat)) :
    inflStep t.1 g s.2 out = if last = true then some ((layBlk F O (hputW (begW s last 2) F O) l).2, out') else g (layBlk F O (hputW (begW s last 2) F O) l).2 out' := by
  have hb := begW_g h last 2
  have hh := hputW_g hb.1 F O
  have hg := layBlk_g hh.1 F O l
  rw [beg_laid h hk last 2 (by decide) (hh.2.trans (hg.2.trans ht)) g out]
  have : blkK 2 t.1 (begW s last 2).2 out = some ((layBlk F O (hputW (begW s last 2) F O) l).2, out') := by
    unfold blkK
    rw [if_neg (by decide), if_neg (by decide), if_pos rfl]
    unfold dynB
    rw [hdr_laid hb.1 hk F O hm (hg.2.trans ht)]
    exact syms_laid hc hh.1 hk hw.toks.1 l hw.toks.2 out out' ht he
  rw [this]
theorem sto_block {s t : Wst} (h : WG s) (hk : WG t) (last : Bool) (b : List Nat) (hn : b.length ≤ 65535) (hb : ∀ x ∈ b, x < 256) (ht : ExtW (stoBlk (begW s last 0) b) t) (out : List Nat) (g : Nat → List Nat → Option (Nat × List Nat)) :
    inflStep t.1 g s.2 out = if last = true then some ((stoBlk (begW s last 0) b).2, out ++ b) else g (stoBlk (begW s last 0) b).2 (out ++ b) := by
  have hbg := begW_g h last 0
  have hg := stoBlk_g hbg.1 b
  rw [beg_laid h hk last 0 (by decide) (hg.2.1.trans ht) g out]
  have : blkK 0 t.1 (begW s last 0).2 out = some ((stoBlk (begW s last 0) b).2, out ++ b) := by
    unfold blkK
    rw [if_pos rfl]
    exact sto_laid hbg.1 hk b hn hb ht out
  rw [this]
theorem expL_bytes (b : List Nat) : ∀ out, expL out (b.map fun c => (⟨0, 0, c⟩ : Tok)) = some (out ++ b) := by
  induction b with
  | nil => intro out; simp [expL]
  | cons c b ih =>
    intro out
    simp only [List.map_cons, expL]
    have : expT out ⟨0, 0, c⟩ = some (out ++ [c]) := by unfold expT; rw [if_pos rfl]
    rw [this]
    simp only [Option.bind_some]
    rw [ih, List.append_assoc]; rfl
def laid3 (b : List Nat) (l : List Tok) (F O : List Nat) : Wst :=
  layBlk F O (hputW (begW (layBlk fixF fixD (begW (stoBlk (begW ([], 0) false 0) b) false 1) l) true 2) F O) l
theorem laid3_g (b : List Nat) (l : List Tok) (F O : List Nat) : WG (laid3 b l F O) := by
  have h1 := (begW_g empty_g false 0).1
  have h2 := (stoBlk_g h1 b).1
  have h3 := (begW_g h2 false 1).1
  have h4 := (layBlk_g h3 fixF fixD l).1
  have h5 := (begW_g h4 true 2).1
  have h6 := (hputW_g h5 F O).1
  exact (layBlk_g h6 F O l).1
theorem laid3_read (b : List Nat) (l : List Tok) (F O x want : List Nat) (hn : b.length ≤ 65535) (hb : ∀ c ∈ b, c < 256) (hx : ∀ c ∈ x, c < 256) (hf : Cod fixF fixD) (hfw : HasW fixF fixD l) (hm : mayH F O = true) (hc : Cod F O) (hw : HasW F O l) (he : expL [] ((b.map fun c => (⟨0, 0, c⟩ : Tok)) ++ l ++ l) = some want) :
    inflB ((laid3 b l F O).1 ++ x) = some ((laid3 b l F O).2, want) := by
  have h1 := begW_g empty_g false 0
  have h2 := stoBlk_g h1.1 b
  have h3 := begW_g h2.1 false 1
  have h4 := layBlk_g h3.1 fixF fixD l
  have h5 := begW_g h4.1 true 2
  have h6 := hputW_g h5.1 F O
  have h7 := layBlk_g h6.1 F O l
  have ht := tailW_g (laid3_g b l F O) x hx
  rw [expL_app, expL_app, expL_bytes] at he
  simp only [Option.bind_some, List.nil_append] at he
  cases e1 : expL b l with
  | none => rw [e1] at he; cases he
  | some o1 =>
    rw [e1] at he
    simp only [Option.bind_some] at he
    have t7 : ExtW (laid3 b l F O) (tailW (laid3 b l F O) x) := ht.2
    have t4 := (h5.2.1.trans (h6.2.trans h7.2)).trans t7
    have t2 := (h3.2.1.trans h4.2).trans t4
    have hlen : 6 ≤ 8 * ((laid3 b l F O).1 ++ x).length := by
      have a1 := h1.2.2
      have a2 := h2.2.1.1
      have a3 := h3.2.2
      have a4 := ht.1.1.1
      have a5 := t2.1
      have a6 := ((h4.2).trans t4).1
      have a7 : (tailW (laid3 b l F O) x).2 = 8 * ((laid3 b l F O).1 ++ x).length := rfl
      have a8 : (([], 0) : Wst).2 = 0 := rfl
      omega
    unfold inflB
    obtain ⟨f, hf'⟩ : ∃ f, 8 * ((laid3 b l F O).1 ++ x).length + 1 = f + 1 + 1 + 1 := ⟨8 * ((laid3 b l F O).1 ++ x).length - 2, by omega⟩
    rw [hf', inflL_succ]
    have s1 := sto_block empty_g ht.1 false b hn hb t2 [] (inflL (tailW (laid3 b l F O) x).1 (f + 1 + 1))
    have s2 := fix_block h2.1 ht.1 false l hf hfw t4 b o1 e1 (inflL (tailW (laid3 b l F O) x).1 (f + 1))
    have s3 := dyn_block h4.1 ht.1 true l F O hm hc hw t7 o1 want he (inflL (tailW (laid3 b l F O) x).1 f)
    simp only [Bool.false_eq_true, if_false, List.nil_append] at s1 s2
    simp only [if_true] at s3
    rw [show (laid3 b l F O).1 ++ x = (tailW (laid3 b l F O) x).1 from rfl]
    rw [show (0 : Nat) = (([], 0) : Wst).2 from rfl, s1, inflL_succ, s2, inflL_succ, s3]
    rfl
theorem codFix : Cod fixF fixD := ⟨by decide +kernel, by decide +kernel, by decide +kernel, by decide +kernel, by decide +kernel, by decide +kernel⟩
theorem fixHas {l : List Tok} (h : ∀ t ∈ l, tokOk t) (hb : ∀ t ∈ l, t.byte < 256) : HasW fixF fixD l := by
  have p1 : ∀ s, s < 286 → fixF.getD s 0 ≠ 0 := by decide +kernel
  have p2 : ∀ s, s < 30 → fixD.getD s 0 ≠ 0 := by decide +kernel
  refine ⟨h, hb, fun r hr => ?_⟩
  obtain ⟨h1, h2, h3⟩ := M17.useU_rows l h hb r hr
  unfold lensOf
  cases hf : r.far with
  | false => rw [hf] at h3; simp only [Bool.false_eq_true, if_false] at h3 ⊢; exact p1 _ h3
  | true => rw [hf] at h3; simp only [if_true] at h3 ⊢; exact p2 _ h3
end Go.Proofs.YtendielanacflaaGreat.M10

namespace Go.Proofs.YtendielanacflaaGreat
open Go.RowKit Go.Shelf M01 M04 M05 M06 M07 M08 M09 M10 M17
set_option linter.unusedVariables false
set_option linter.unusedSimpArgs false
theorem useU_last (l : List Tok) (h : ∀ t ∈ l, tokOk t) : endU ∈ useU l := by rw [useU_ok l h]; simp
theorem useU_rows (l : List Tok) (hb : ∀ t ∈ l, t.byte < 256) (h : ∀ t ∈ l, tokOk t) : ∀ r ∈ useU l, rowOk r := by
  intro r hr
  rw [useU_ok l h] at hr
  rcases List.mem_append.1 hr with h1 | h1
  · obtain ⟨t, ht, hrt⟩ := List.mem_flatMap.1 h1
    exact tokU_ok t (h t ht) (hb t ht) r hrt
  · rw [List.mem_singleton] at h1
    subst h1
    exact ⟨rfl, by decide, by decide⟩
theorem lim_pos (f : List Nat) (s : Nat) (hl : f.length ≤ 300) (hs : s < f.length) (h : 0 < f.getD s 0) : (limL f 15).getD s 0 ≠ 0 := by
  have hr1 := (rar_perm f).length_eq
  have hr2 := used_le f
  rw [limL_get f 15 s hs]
  have := (limS_bound f 15 s (by decide) (pow15 _ (by omega)) hs).2
  omega
end Go.Proofs.YtendielanacflaaGreat

namespace Go.Proofs.YtendielanacflaaGreat
open Go.RowKit Go.Shelf M01 M04 M05 M06 M07 M08 M09 M10 M17
set_option linter.unusedVariables false
set_option linter.unusedSimpArgs false
theorem lim_weight (f : List Nat) (hl : f.length ≤ 286) : weight (limL f 15) ≤ 2 ^ 20 := by
  obtain ⟨h15, h⟩ := lim_kind f hl
  have hm : May (limL f 15) := ⟨fun x hx => Nat.le_trans (h15 x hx) (by decide), by rw [limL_len]; omega⟩
  have hc : (clsE (limL f 15)).1 = cls (limL f 15) := by unfold clsE; rw [if_pos hm]
  rw [hc] at h
  rcases h with (h | h) | ⟨h, _⟩
  · unfold cls at h
    split at h
    · omega
    · split at h
      · omega
      · split at h
        · omega
        · omega
  · unfold singleB at h
    simp only [decide_eq_true_eq] at h
    obtain ⟨h1, h2⟩ := h
    generalize limL f 15 = l at *
    have : weight l ≤ 2 ^ 19 * l.sum := by
      clear h2 hm hc h15
      induction l with
      | nil => exact Nat.zero_le _
      | cons x l ih =>
        have ih := ih (fun y hy => h1 y (by simp [hy]))
        have hx := h1 x (by simp)
        unfold weight at ih ⊢
        rw [List.map_cons, List.sum_cons, List.sum_cons, Nat.mul_add]
        have : wt x ≤ 2 ^ 19 * x := by
          rcases (show x = 0 ∨ x = 1 by omega) with rfl | rfl
          · simp [wt]
          · simp [wt]
        omega
    rw [h2] at this
    exact Nat.le_trans this (by decide)
  · unfold cls at h
    split at h
    · omega
    · split at h
      · omega
      · split at h <;> omega
end Go.Proofs.YtendielanacflaaGreat

namespace Go.Proofs.YtendielanacflaaGreat
open Go.RowKit Go.Shelf M08
set_option linter.unusedVariables false
set_option maxRecDepth 100000 in
set_option maxHeartbeats 1600000 in
theorem token_lengthOf (s : Int) (w : World) :
    Calls Tryz.prog 132 #[.int .i64 s] w fun e w' => e = .returned (.tuple #[.int .i64 ((loS s).1 : Nat), .int .i64 ((loS s).2.1 : Nat), .int .i64 ((loS s).2.2 : Nat)]) ∧ Below w.heap.size w w' := by
  by_cases h1 : 257 ≤ s
  case neg =>
    have H : Hid (loS s = (0, 0, 5)) := by unfold Hid loS; rw [if_neg (by omega)]
    have t1 : decide (s < 257) = true := by simp; omega
    clear h1
    go_enter Tryz.func132, Tryz.ntmps132
    go_wp2
    refine bodyPost_ret (results_tmp3' rfl _ _ _) rfl ?_
    exact ⟨by rw [H.out]; rfl, Below.refl _ _⟩
  by_cases h2 : s ≤ 285
  case neg =>
    have H : Hid (loS s = (0, 0, 5)) := by unfold Hid loS; rw [if_neg (by omega)]
    have t1 : decide (s < 257) = false := by simp; omega
    have t2 : decide (285 < s) = true := by simp; omega
    clear h1 h2
    go_enter Tryz.func132, Tryz.ntmps132
    go_wp2
    refine bodyPost_ret (results_tmp3' rfl _ _ _) rfl ?_
    exact ⟨by rw [H.out]; rfl, Below.refl _ _⟩
  by_cases h3 : s = 285
  · subst h3
    go_enter Tryz.func132, Tryz.ntmps132
    go_wp2_with fail
    refine bodyPost_ret (results_tmp3' rfl _ _ _) rfl ?_
    have H : loS 285 = (258, 0, 0) := by decide +kernel
    exact ⟨by rw [H]; rfl, Below.refl _ _⟩
  obtain ⟨k, hk, rfl⟩ : ∃ k : Nat, k < 28 ∧ s = 257 + (k : Int) := ⟨(s - 257).toNat, by omega, by omega⟩
  obtain ⟨g1, g2⟩ := bits28 k hk
  have H : Hid (loS (257 + (k : Int)) = ((leasts 28 8 4 3).getD k 0, (bitss 28 8 4).getD k 0, 0)) := by
    unfold Hid loS
    have e : ((257 : Int) + (k : Int)).toNat = 257 + k := by omega
    rw [if_pos (by omega), e, g1, g2, Nat.add_sub_cancel_left]
  have t1 : decide ((257 : Int) + (k : Int) < 257) = false := by simp; omega
  have t2 : decide (285 < (257 : Int) + (k : Int)) = false := by simp; omega
  have t3 : (((257 : Int) + (k : Int)) == 285) = false := by simp; omega
  have hS := Lib.hid (scale_collect 28 8 4 3 w ok_len)
  clear h1 h2 h3 g1 g2
  go_enter Tryz.func132, Tryz.ntmps132
  go_wp2_with (first | (go_at_call 80; refine (token_scale 28 8 4 3 _).mono ?_; rintro e w' ⟨rfl, rfl⟩) | (go_at_call 79; refine hS.out.mono ?_; rintro e w1 ⟨a1, c1, a2, c2, rfl, r1, r2, hbw⟩))
  obtain ⟨b1, b2⟩ := box2_cells w1 (.slice a1 28 c1) (.slice a2 28 c2) 133
  have hbw2 : Below w.heap.size w (w1.alloc (.cells #[.slice a1 28 c1, .slice a2 28 c2] 133)) := hbw.alloc hbw.size _
  have r1' := r1.below (box_b w1 (.cells #[.slice a1 28 c1, .slice a2 28 c2] 133))
  have r2' := r2.below (box_b w1 (.cells #[.slice a1 28 c1, .slice a2 28 c2] 133))
  generalize hB : w1.heap.size = B at *
  generalize w1.alloc (.cells #[.slice a1 28 c1, .slice a2 28 c2] 133) = W at *
  obtain ⟨x1, o1, rfl, _, d1⟩ := r1'.at (i := k) (by rw [leasts_len]; exact hk)
  obtain ⟨x2, o2, rfl, _, d2⟩ := r2'.at (i := k) (by simpa [bitss] using hk)
  have e1 : (leasts 28 8 4 3)[k]'(by rw [leasts_len]; exact hk) = (leasts 28 8 4 3).getD k 0 := by rw [List.getD_eq_getElem?_getD, List.getElem?_eq_getElem (by rw [leasts_len]; exact hk)]; rfl
  have e2 : (bitss 28 8 4)[k]'(by simpa [bitss] using hk) = (bitss 28 8 4).getD k 0 := by rw [List.getD_eq_getElem?_getD, List.getElem?_eq_getElem (by simpa [bitss] using hk)]; rfl
  rw [e1] at d1
  rw [e2] at d2
  have HBW := Lib.hid hbw2
  clear hS r1 r2 r1' r2' e1 e2 hbw hbw2 hB
  generalize (leasts 28 8 4 3).getD k 0 = x at *
  generalize (bitss 28 8 4).getD k 0 = y at *
  have q1 : (257 : Int) + (k : Int) - 257 = (k : Int) := by omega
  have q2 : (k : Int) < 28 := by omega
  go_wp2_with fail
  go_quiet (fail)
  go_wp2
  refine bodyPost_ret (results_tmp3' rfl _ _ _) rfl ?_
  exact ⟨by rw [H.out]; rfl, belDN HBW.out _⟩
set_option maxRecDepth 100000 in
set_option maxHeartbeats 1600000 in
theorem token_distanceOf (s : Int) (w : World) :
    Calls Tryz.prog 133 #[.int .i64 s] w fun e w' => e = .returned (.tuple #[.int .i64 ((doS s).1 : Nat), .int .i64 ((doS s).2.1 : Nat), .int .i64 ((doS s).2.2 : Nat)]) ∧ Below w.heap.size w w' := by
  by_cases h1 : 0 ≤ s
  case neg =>
    have H : Hid (doS s = (0, 0, 5)) := by unfold Hid doS; rw [if_neg (by omega)]
    have t1 : decide (s < 0) = true := by simp; omega
    clear h1
    go_enter Tryz.func133, Tryz.ntmps133
    go_wp2
    refine bodyPost_ret (results_tmp3' rfl _ _ _) rfl ?_
    exact ⟨by rw [H.out]; rfl, Below.refl _ _⟩
  by_cases h2 : s < 30
  case neg =>
    have H : Hid (doS s = (0, 0, 5)) := by unfold Hid doS; rw [if_neg (by omega)]
    have t1 : decide (s < 0) = false := by simp; omega
    have t2 : decide (30 ≤ s) = true := by simp; omega
    clear h1 h2
    go_enter Tryz.func133, Tryz.ntmps133
    go_wp2
    refine bodyPost_ret (results_tmp3' rfl _ _ _) rfl ?_
    exact ⟨by rw [H.out]; rfl, Below.refl _ _⟩
  obtain ⟨k, rfl⟩ := Int.eq_ofNat_of_zero_le h1
  have hk : k < 30 := by omega
  obtain ⟨g1, g2⟩ := bits30 k hk
  have H : Hid (doS (k : Int) = ((leasts 30 4 2 1).getD k 0, (bitss 30 4 2).getD k 0, 0)) := by
    unfold Hid doS
    rw [if_pos ⟨h1, h2⟩, Int.toNat_natCast, g1, g2]
  have t1 : decide ((k : Int) < 0) = false := by simp
  have t2 : decide (30 ≤ (k : Int)) = false := by simp; omega
  have hS := Lib.hid (scale_collect 30 4 2 1 w ok_dist)
  clear h1 h2 g1 g2
  go_enter Tryz.func133, Tryz.ntmps133
  go_wp2_with (first | (go_at_call 80; refine (token_scale 30 4 2 1 _).mono ?_; rintro e w' ⟨rfl, rfl⟩) | (go_at_call 79; refine hS.out.mono ?_; rintro e w1 ⟨a1, c1, a2, c2, rfl, r1, r2, hbw⟩))
  obtain ⟨b1, b2⟩ := box2_cells w1 (.slice a1 30 c1) (.slice a2 30 c2) 133
  have hbw2 : Below w.heap.size w (w1.alloc (.cells #[.slice a1 30 c1, .slice a2 30 c2] 133)) := hbw.alloc hbw.size _
  have r1' := r1.below (box_b w1 (.cells #[.slice a1 30 c1, .slice a2 30 c2] 133))
  have r2' := r2.below (box_b w1 (.cells #[.slice a1 30 c1, .slice a2 30 c2] 133))
  generalize hB : w1.heap.size = B at *
  generalize w1.alloc (.cells #[.slice a1 30 c1, .slice a2 30 c2] 133) = W at *
  obtain ⟨x1, o1, rfl, _, d1⟩ := r1'.at (i := k) (by rw [leasts_len]; exact hk)
  obtain ⟨x2, o2, rfl, _, d2⟩ := r2'.at (i := k) (by simpa [bitss] using hk)
  have e1 : (leasts 30 4 2 1)[k]'(by rw [leasts_len]; exact hk) = (leasts 30 4 2 1).getD k 0 := by rw [List.getD_eq_getElem?_getD, List.getElem?_eq_getElem (by rw [leasts_len]; exact hk)]; rfl
  have e2 : (bitss 30 4 2)[k]'(by simpa [bitss] using hk) = (bitss 30 4 2).getD k 0 := by rw [List.getD_eq_getElem?_getD, List.getElem?_eq_getElem (by simpa [bitss] using hk)]; rfl
  rw [e1] at d1
  rw [e2] at d2
  have HBW := Lib.hid hbw2
  clear hS r1 r2 r1' r2' e1 e2 hbw hbw2 hB
  generalize (leasts 30 4 2 1).getD k 0 = x at *
  generalize (bitss 30 4 2).getD k 0 = y at *
  have q2 : (k : Int) < 30 := by omega
  go_wp2_with fail
  go_quiet (fail)
  go_wp2
  refine bodyPost_ret (results_tmp3' rfl _ _ _) rfl ?_
  exact ⟨by rw [H.out]; rfl, belDN HBW.out _⟩
end Go.Proofs.YtendielanacflaaGreat

namespace Go.Proofs.YtendielanacflaaGreat
open Go.RowKit Go.Shelf M01 M10
set_option linter.unusedVariables false
def Strm (P : Nat → Prop) (w : World) (sp rp : Nat) (bs : List Nat) (keep at_ : Nat) (out : List Nat) : Prop :=
  ∃ oa oc, w.heap[sp]? = some (.cells #[.pointer (some ⟨rp, 0, none⟩), .slice oa (out.take keep).length oc, .int .i64 (keep : Nat), .int .i64 (out.length : Nat)] 101 (0, 0)) ∧
    OwnN 5 .u8 w 0 oa oc (out.take keep) ∧ Rd w rp bs at_ ∧ P sp ∧ P rp ∧ rp < sp ∧ (∀ g, oa = some ⟨g, 0, none⟩ → P g ∧ sp < g) ∧ (∀ b, w.heap.size ≤ b → P b) ∧ out.length ≤ 258 * at_ ∧ keep ≤ 1000000000
theorem must_int_ok (v : Value) (w : World) : Calls Tryz.prog 102 #[v, .int .i64 0] w fun e w' => e = .returned v ∧ w' = w := by
  go_enter Tryz.func102, Tryz.ntmps102
  go_wp2
  go_ret
  exact ⟨rfl, rfl⟩
theorem must_int_no (v : Value) (c : Nat) (hc : 0 < c) (w : World) : Calls Tryz.prog 102 #[v, .int .i64 (c : Nat)] w fun e w' => e = .panicked formP ∧ w' = w := by
  have t1 : ((c : Int) == 0) = false := by simp; omega
  go_enter Tryz.func102, Tryz.ntmps102
  go_wp2
  exact ⟨rfl, rfl, rfl⟩
theorem must_u32_ok (v : Value) (w : World) : Calls Tryz.prog 103 #[v, .int .i64 0] w fun e w' => e = .returned v ∧ w' = w := by
  go_enter Tryz.func103, Tryz.ntmps103
  go_wp2
  go_ret
  exact ⟨rfl, rfl⟩
theorem must_u32_no (v : Value) (c : Nat) (hc : 0 < c) (w : World) : Calls Tryz.prog 103 #[v, .int .i64 (c : Nat)] w fun e w' => e = .panicked formP ∧ w' = w := by
  have t1 : ((c : Int) == 0) = false := by simp; omega
  go_enter Tryz.func103, Tryz.ntmps103
  go_wp2
  exact ⟨rfl, rfl, rfl⟩
theorem must_tab_ok (v : Value) (w : World) : Calls Tryz.prog 130 #[v, .int .i64 0] w fun e w' => e = .returned v ∧ w' = w := by
  go_enter Tryz.func130, Tryz.ntmps130
  go_wp2
  go_ret
  exact ⟨rfl, rfl⟩
theorem must_tab_no (v : Value) (c : Nat) (hc : 0 < c) (w : World) : Calls Tryz.prog 130 #[v, .int .i64 (c : Nat)] w fun e w' => e = .panicked formP ∧ w' = w := by
  have t1 : ((c : Int) == 0) = false := by simp; omega
  go_enter Tryz.func130, Tryz.ntmps130
  go_wp2
  exact ⟨rfl, rfl, rfl⟩
theorem Strm.lt {P : Nat → Prop} {w : World} {sp rp keep at_ : Nat} {bs out : List Nat} (h : Strm P w sp rp bs keep at_ out) : sp < w.heap.size := by
  obtain ⟨oa, oc, h1, _⟩ := h
  exact (Array.getElem?_eq_some_iff.1 h1).1
theorem Strm.moved {P : Nat → Prop} {w w' : World} {sp rp keep at_ at2 : Nat} {bs out : List Nat} (h : Strm P w sp rp bs keep at_ out) (ho : Only (fun b => b = rp) w w') (hr : Rd w' rp bs at2) (ha : at_ ≤ at2) : Only P w w' ∧ Strm P w' sp rp bs keep at2 out := by
  obtain ⟨oa, oc, h1, h2, h3, h4, h5, h6, h7, h8, h9, h10⟩ := h
  exact ⟨ho.mono (fun k _ e => by subst e; exact h5), oa, oc, box_only h1 ho (by show sp ≠ rp; omega), h2.kept (row := some rp) ⟨ho.os, ho.tape, ho.output, ho.size, fun k hk he => ho.block k hk (fun e => he (by rw [e]))⟩ (fun g hg e => by cases e; have := (h7 _ hg).2; omega), hr, h4, h5, h6, h7, fun b hb => h8 b (Nat.le_trans ho.size hb), by omega, h10⟩
theorem Strm.rd {P : Nat → Prop} {w : World} {sp rp keep at_ : Nat} {bs out : List Nat} (h : Strm P w sp rp bs keep at_ out) : Rd w rp bs at_ := by
  obtain ⟨oa, oc, h1, h2, h3, _⟩ := h
  exact h3
theorem Strm.cells {P : Nat → Prop} {w : World} {sp rp keep at_ : Nat} {bs out : List Nat} (h : Strm P w sp rp bs keep at_ out) : w.cell? ⟨sp, 0, none⟩ = some (.pointer (some ⟨rp, 0, none⟩)) ∧ w.cell? ⟨sp, 2, none⟩ = some (.int .i64 (keep : Nat)) ∧ w.cell? ⟨sp, 3, none⟩ = some (.int .i64 (out.length : Nat)) := by
  obtain ⟨oa, oc, h1, _⟩ := h
  obtain ⟨c0, c1, c2, c3, _, _⟩ := four_cells h1
  exact ⟨c0, c2, c3⟩
set_option maxRecDepth 100000 in
theorem strm_bits_ok {P : Nat → Prop} {w : World} {sp rp keep at_ : Nat} {bs out : List Nat} (h : Strm P w sp rp bs keep at_ out) (n : Nat) (hn : n ≤ 32) (hle : at_ + n ≤ 8 * bs.length) :
    Calls Tryz.prog 56 #[.pointer (some ⟨sp, 0, none⟩), .int .i64 (n : Nat)] w fun e w' => e = .returned (.int .i64 (num bs at_ n : Nat)) ∧ Only P w w' ∧ Strm P w' sp rp bs keep (at_ + n) out := by
  obtain ⟨c0, c2, c3⟩ := h.cells
  have HG := Lib.hid (lsb_get w rp bs at_ n hn h.rd hle)
  have H := Lib.hid h
  have hnl := num_lt bs at_ n
  have hnl2 : num bs at_ n < 4294967296 := Nat.lt_of_lt_of_le hnl (Nat.le_trans (Nat.pow_le_pow_right (by decide) hn) (by decide))
  clear h hle hnl
  generalize num bs at_ n = v at *
  go_enter Tryz.func56, Tryz.ntmps56
  go_wp2_with fail
  refine HG.out.mono ?_
  rintro e w1 ⟨rfl, hr, ho⟩
  have K := Lib.hid (H.out.moved ho hr (by omega))
  clear H HG hr ho
  go_wp2_with fail
  refine (must_u32_ok (.int .u32 (v : Nat)) w1).mono ?_
  rintro e w2 ⟨rfl, rfl⟩
  go_wp2
  go_ret
  exact ⟨rfl, K.out⟩
set_option maxRecDepth 100000 in
theorem strm_bits_no {P : Nat → Prop} {w : World} {sp rp keep at_ : Nat} {bs out : List Nat} (h : Strm P w sp rp bs keep at_ out) (n : Nat) (hn : n ≤ 32) (hle : 8 * bs.length < at_ + n) :
    Calls Tryz.prog 56 #[.pointer (some ⟨sp, 0, none⟩), .int .i64 (n : Nat)] w fun e w' => e = .panicked formP ∧ Only P w w' := by
  obtain ⟨c0, c2, c3⟩ := h.cells
  have HG := Lib.hid (lsb_get_no w rp bs at_ n hn h.rd hle)
  clear h hle
  go_enter Tryz.func56, Tryz.ntmps56
  go_wp2_with fail
  refine HG.out.mono ?_
  rintro e w1 ⟨rfl, q, rfl⟩
  clear HG
  go_wp2_with fail
  refine (must_u32_no (.int .u32 0) 2 (by decide) _).mono ?_
  rintro e w2 ⟨rfl, rfl⟩
  exact ⟨rfl, rfl, only_drewN _ _ _⟩
theorem put_end {P : Nat → Prop} {w w2 : World} {sp rp keep at_ : Nat} {bs out : List Nat} {oa a' : Option Addr} {oc c' : Nat} (c : Nat)
    (h1 : w.heap[sp]? = some (.cells #[.pointer (some ⟨rp, 0, none⟩), .slice oa out.length oc, .int .i64 (keep : Nat), .int .i64 (out.length : Nat)] 101 (0, 0)))
    (h2 : OwnN 5 .u8 w 0 oa oc out) (h3 : Rd w rp bs at_) (h4 : P sp ∧ P rp ∧ rp < sp) (h7 : ∀ g, oa = some ⟨g, 0, none⟩ → P g ∧ sp < g) (h8 : ∀ b, w.heap.size ≤ b → P b)
    (hk : out.length < keep) (hl : out.length + 1 ≤ 258 * at_) (h10 : keep ≤ 1000000000) (hown : OwnN 5 .u8 w2 0 a' c' (out ++ [c])) (hg : w.grownBy w2 (Value.slice oa out.length oc).ownBlock)
    (hnew : ∀ g, a' = some ⟨g, 0, none⟩ → oa = some ⟨g, 0, none⟩ ∨ w.heap.size ≤ g) :
    Only P w ((w2.setCell ⟨sp, 1, none⟩ (.slice a' (out.length + 1) c')).setCell ⟨sp, 3, none⟩ (.int .i64 ((out.length : Int) + 1))) ∧ Strm P ((w2.setCell ⟨sp, 1, none⟩ (.slice a' (out.length + 1) c')).setCell ⟨sp, 3, none⟩ (.int .i64 ((out.length : Int) + 1))) sp rp bs keep at_ (out ++ [c]) := by
  have hlt : sp < w.heap.size := (Array.getElem?_eq_some_iff.1 h1).1
  have hX : w2.heap[sp]? = _ := (hg.block sp hlt (own_ne h2 (fun g e => (h7 g e).2) sp (Nat.le_refl _))).trans h1
  have ho2 : Only P w w2 := (Only.refl P w).grown hg (fun r hr => by
    rcases h2.form with ⟨rfl, _, _⟩ | ⟨g, rfl, _⟩
    · simp [Value.ownBlock] at hr
    · simp [Value.ownBlock] at hr
      subst hr
      exact .inl (h7 _ rfl).1)
  have hO : Only P w ((w2.setCell ⟨sp, 1, none⟩ (.slice a' (out.length + 1) c')).setCell ⟨sp, 3, none⟩ (.int .i64 ((out.length : Int) + 1))) := (ho2.setCell (.inl h4.1) _).setCell (.inl h4.1) _
  refine ⟨hO, a', c', ?_, ?_, ?_, h4.1, h4.2.1, h4.2.2, fun g e => ?_, fun b hb => h8 b (Nat.le_trans hO.size hb), by simpa using hl, h10⟩
  · rw [(four_set (four_set hX).1).2, List.take_of_length_le (by simp; omega)]
    simp
  · rw [List.take_of_length_le (by simp; omega)]
    have hne : ∀ g, a' = some ⟨g, 0, none⟩ → sp ≠ g := fun g e => by
      rcases hnew g e with h | h
      · have := (h7 g h).2; omega
      · omega
    exact (hown.other hne _).other hne _
  · have hrd2 : Rd w2 rp bs at_ := by
      obtain ⟨a, cap, g1, g2, g3, g4, g5, g6⟩ := h3
      have hb : ∀ b, b < w.heap.size → b ≤ sp → w2.heap[b]? = w.heap[b]? := fun b hb hs => hg.block b hb (own_ne h2 (fun g e => (h7 g e).2) b hs)
      exact ⟨a, cap, (hb rp (by omega) (by omega)).trans g1, g2.same hg.size (fun x _ hx => hb _ (by have := g6 x hx; omega) (by have := g6 x hx; omega)), g3, g4, g5, g6⟩
    exact hrd2.only (((Only.refl (fun b => b = sp) w2).setCell (p := ⟨sp, 1, none⟩) (.inl rfl) _).setCell (p := ⟨sp, 3, none⟩) (.inl rfl) _) (fun b hb e => by omega)
  · rcases hnew g e with h | h
    · exact h7 g h
    · exact ⟨h8 g h, by omega⟩
theorem put_end2 {P : Nat → Prop} {w : World} {sp rp keep at_ : Nat} {bs out : List Nat} (c : Nat) (h : Strm P w sp rp bs keep at_ out) (hk : ¬ out.length < keep) (hl : out.length + 1 ≤ 258 * at_) :
    Only P w (w.setCell ⟨sp, 3, none⟩ (.int .i64 ((out.length : Int) + 1))) ∧ Strm P (w.setCell ⟨sp, 3, none⟩ (.int .i64 ((out.length : Int) + 1))) sp rp bs keep at_ (out ++ [c]) := by
  have hlt := h.lt
  obtain ⟨oa, oc, h1, h2, h3, h4, h5, h6, h7, h8, h9, h10⟩ := h
  have hO : Only P w (w.setCell ⟨sp, 3, none⟩ (.int .i64 ((out.length : Int) + 1))) := (Only.refl P w).setCell (.inl h4) _
  have htk : (out ++ [c]).take keep = out.take keep := List.take_append_of_le_length (by omega)
  refine ⟨hO, oa, oc, ?_, ?_, ?_, h4, h5, h6, h7, fun b hb => h8 b (Nat.le_trans hO.size hb), by simpa using hl, h10⟩
  · rw [(four_set h1).2, htk]
    simp
  · rw [htk]
    exact h2.other (fun g e => by have := (h7 g e).2; show sp ≠ g; omega) _
  · exact h3.only ((Only.refl (fun b => b = sp) w).setCell (p := ⟨sp, 3, none⟩) (.inl rfl) _) (fun b hb e => by omega)
set_option maxRecDepth 100000 in
theorem strm_put {P : Nat → Prop} {w : World} {sp rp keep at_ : Nat} {bs out : List Nat} (h : Strm P w sp rp bs keep at_ out) (c : Nat) (hl : out.length + 1 ≤ 258 * at_) :
    Calls Tryz.prog 97 #[.pointer (some ⟨sp, 0, none⟩), .int .u8 (c : Nat)] w fun e w' => e = .returned (.tuple #[]) ∧ Only P w w' ∧ Strm P w' sp rp bs keep at_ (out ++ [c]) := by
  obtain ⟨oa, oc, h1, h2, h3, h4, h5, h6, h7, h8, h9, h10⟩ := h
  obtain ⟨c0, c1, c2, c3, d1, d3⟩ := four_cells h1
  have hat : at_ ≤ 800000000 := by obtain ⟨_, _, _, _, _, hl, ha, _⟩ := h3; omega
  have hsz : out.length ≤ 300000000000 := by omega
  by_cases hk : out.length < keep
  · have t1 : decide ((out.length : Int) < (keep : Int)) = true := by simp; omega
    have htk : out.take keep = out := List.take_of_length_le (by omega)
    rw [htk] at h1 h2 c1
    have hb2 : out.length < (8 : Nat) * 100000000000 := by omega
    have H1 := Lib.hid h1
    have H2 := Lib.hid h2
    have H3 := Lib.hid h3
    have H4 := Lib.hid (show P sp ∧ P rp ∧ rp < sp from ⟨h4, h5, h6⟩)
    have H7 := Lib.hid h7
    have H8 := Lib.hid h8
    have hlt : sp < w.heap.size := (Array.getElem?_eq_some_iff.1 h1).1
    clear h1 h2 h3 h4 h5 h6 h7 h8 h9
    go_enter Tryz.func97, Tryz.ntmps97
    go_wp2_with fail
    go_quiet (fail)
    go_wp2_with (at_builtin; refine app1AtN et_u8 rfl (.tmp 17) (.tmp 19) rfl (base := 0) rfl (show OwnN _ _ (w.drewN nq) 0 oa oc out from H2.out) rfl (Nat.le_refl _) (by omega) (by omega) (by omega) (Nat.zero_le _) ?_; intro a' c' w2 hown hg hnew; have hX := four_cells ((hg.block sp hlt (own_ne H2.out (fun g e => (H7.out g e).2) sp (Nat.le_refl _))).trans H1.out); obtain ⟨_, _, _, e3, k1, k3⟩ := hX; replace hown := Lib.hid hown; replace hg := Lib.hid hg; replace hnew := Lib.hid hnew)
    go_end0
    exact ⟨rfl, put_end c H1.out H2.out H3.out H4.out H7.out H8.out hk hl h10 hown.out ⟨hg.out.os, hg.out.tape, hg.out.output, hg.out.size, hg.out.block⟩ hnew.out⟩
  · have t1 : decide ((out.length : Int) < (keep : Int)) = false := by simp; omega
    have H := Lib.hid (fun q => put_end2 c (show Strm P (w.drewN q) sp rp bs keep at_ out from ⟨oa, oc, h1, h2, h3, h4, h5, h6, h7, h8, h9, h10⟩) hk hl)
    clear h1 h2 h3 h4 h5 h6 h7 h8 h9
    go_enter Tryz.func97, Tryz.ntmps97
    go_wp2_with fail
    go_quiet (fail)
    go_wp2_with fail
    go_end0
    exact ⟨rfl, (only_drewN _ _ _).trans (H.out _).1, (H.out _).2⟩
end Go.Proofs.YtendielanacflaaGreat

namespace Go.Proofs.YtendielanacflaaGreat
open Go.RowKit Go.Shelf M01 M10
set_option linter.unusedVariables false
theorem lsb_align (w : World) (p : Nat) (bs : List Nat) (at_ : Nat) (h : Rd w p bs at_) :
    Calls Tryz.prog 96 #[.pointer (some ⟨p, 0, none⟩)] w fun e w' => (∃ v, e = .returned v) ∧ Rd w' p bs ((at_ + 7) / 8 * 8) ∧ Only (fun b => b = p) w w' := by
  obtain ⟨a, cap, hc, hr, hb, hl, ha, hne⟩ := h
  obtain ⟨c0, c1, d0, d1⟩ := two_cell hc
  have K := rd_step hc hr hb hl hne ((at_ + 7) / 8 * 8) (by omega) 0
  have hk : Hid ((((at_ : Int) + 7) / 8 * 8) = (((at_ + 7) / 8 * 8 : Nat) : Int)) := by unfold Hid; omega
  have HK := Lib.hid K
  clear K hc hr hb hne
  go_enter Tryz.func96, Tryz.ntmps96
  go_wp2
  go_end0
  rw [hk.out]
  exact ⟨⟨_, rfl⟩, HK.out⟩
def StepOut (P : Nat → Prop) (sp rp : Nat) (bs : List Nat) (keep : Nat) (R : Option (Nat × List Nat)) (w : World) (e : Ending) (w' : World) : Prop :=
  Only P w w' ∧ match R with
  | some (at2, out2) => e = .returned (.tuple #[]) ∧ Strm P w' sp rp bs keep at2 out2
  | none => e = .panicked formP
theorem Strm.swap {P : Nat → Prop} {w : World} {sp rp keep at_ : Nat} {bs out : List Nat} {x : Nat} (y : Nat) (h : Strm P w sp rp bs keep at_ (out ++ [x])) (hk : keep ≤ out.length) : Strm P w sp rp bs keep at_ (out ++ [y]) := by
  obtain ⟨oa, oc, h1, h2, h3, h4, h5, h6, h7, h8, h9, h10⟩ := h
  have e1 : (out ++ [x]).take keep = out.take keep := List.take_append_of_le_length hk
  have e2 : (out ++ [y]).take keep = out.take keep := List.take_append_of_le_length hk
  have e3 : (out ++ [y]).length = (out ++ [x]).length := by simp
  exact ⟨oa, oc, by rw [e2, e3, ← e1]; exact h1, by rw [e2, ← e1]; exact h2, h3, h4, h5, h6, h7, h8, by rw [e3]; exact h9, h10⟩
theorem Strm.bound {P : Nat → Prop} {w : World} {sp rp keep at_ : Nat} {bs out : List Nat} (h : Strm P w sp rp bs keep at_ out) : out.length ≤ 258 * at_ ∧ at_ ≤ 8 * bs.length ∧ bs.length ≤ 100000000 := by
  obtain ⟨_, _, _, _, _, hl, ha, _⟩ := h.rd
  obtain ⟨oa, oc, h1, h2, h3, h4, h5, h6, h7, h8, h9, h10⟩ := h
  exact ⟨h9, ha, hl⟩
theorem strm_none (v : Value) (w : World) : Calls Tryz.prog 55 #[v] w fun e w' => e = .panicked formP ∧ w' = w := by
  go_enter Tryz.func55, Tryz.ntmps55
  go_wp2
  exact ⟨rfl, rfl, rfl⟩
theorem strm_repeat_no {P : Nat → Prop} {w : World} {sp rp keep at_ : Nat} {bs out : List Nat} (h : Strm P w sp rp bs keep at_ out) (n d : Nat) (hd : out.length < d) :
    Calls Tryz.prog 134 #[.pointer (some ⟨sp, 0, none⟩), .int .i64 (n : Nat), .int .i64 (d : Nat)] w fun e w' => e = .panicked formP ∧ w' = w := by
  obtain ⟨c0, c2, c3⟩ := h.cells
  have t1 : decide (out.length < d) = true := by simp; omega
  clear h
  go_enter Tryz.func134, Tryz.ntmps134
  go_wp2
  exact ⟨rfl, rfl, rfl⟩
set_option maxRecDepth 100000 in
set_option maxHeartbeats 1600000 in
theorem strm_repeat {P : Nat → Prop} {w : World} {sp rp keep at_ : Nat} {bs out : List Nat} (h : Strm P w sp rp bs keep at_ out) (n d : Nat) (hd : d ≤ out.length) (hd0 : 1 ≤ d) (hn : n ≤ 258) (hl : out.length + n ≤ 258 * at_) :
    Calls Tryz.prog 134 #[.pointer (some ⟨sp, 0, none⟩), .int .i64 (n : Nat), .int .i64 (d : Nat)] w fun e w' => e = .returned (.tuple #[]) ∧ Only P w w' ∧ Strm P w' sp rp bs keep at_ (repOut d out n) := by
  obtain ⟨c0, c2, c3⟩ := h.cells
  have hat : at_ ≤ 800000000 := by obtain ⟨_, _, _, _, _, hl, ha, _⟩ := h.rd; omega
  have t1 : decide (out.length < d) = false := by simp; omega
  have H := Lib.hid h
  clear h
  go_enter Tryz.func134, Tryz.ntmps134
  go_wp2_with fail
  clear c0 c2 c3 t1
  go_loopw [6, 15] (fun _ i A => ∃ j : Nat, j ≤ n ∧ i = .int .i64 j ∧ Only P w A ∧ Strm P A sp rp bs keep at_ (repOut d out j)) (fun _ i _ => n - (intOf i).toNat)
  case atStart => exact ⟨0, by omega, rfl, Only.refl _ _, H.out⟩
  case round =>
    clear H
    obtain ⟨j, hj, rfl, ho, hs⟩ := hrel
    have HO := Lib.hid ho
    clear ho
    by_cases hlt : j < n
    · have hlen := repOut_len d out j
      have HR := Lib.hid (show repOut d out (j + 1) = repOut d out j ++ [(repOut d out j).getD ((repOut d out j).length - d) 0] from rfl)
      generalize repOut d out j = o at *
      obtain ⟨c0, c2, c3⟩ := hs.cells
      by_cases hk : o.length < keep
      · have t1 : decide (o.length < keep) = true := by simp; omega
        have htk : o.take keep = o := List.take_of_length_le (by omega)
        obtain ⟨oa, oc, c1, hrow⟩ : ∃ oa oc, wr.cell? ⟨sp, 1, none⟩ = some (.slice oa o.length oc) ∧ RowN .u8 wr oa oc o := by
          obtain ⟨oa, oc, h1, h2, _⟩ := hs
          rw [htk] at h1 h2
          exact ⟨oa, oc, (four_cells h1).2.1, h2.row⟩
        have hil : o.length - d < o.length := by omega
        obtain ⟨bl, off, rfl, hbl, hck⟩ := hrow.at hil
        have hgd : o.getD (o.length - d) 0 = o[o.length - d] := by simp [hil]
        have q1 : (o.length : Int) - (d : Int) = ((o.length - d : Nat) : Int) := by omega
        have HP := Lib.hid (fun q c => strm_put (show Strm P (wr.drewN q) sp rp bs keep at_ o from hs) c (by omega))
        have HS2 := Lib.hid hs
        rw [hgd] at HR
        have HLEN := Lib.hid hlen
        have hol : o.length ≤ 300000000000 := by omega
        clear hs hgd hrow hlen hk
        generalize o[o.length - d] = c at *
        generalize hidx : o.length - d = ix at *
        go_wp2_with fail
        go_quiet (fail)
        go_wp2_with fail
        have c1' : (wr.drewN nq).cell? ⟨sp, 1, none⟩ = _ := c1
        have c3' : (wr.drewN nq).cell? ⟨sp, 3, none⟩ = _ := c3
        have hck' : (wr.drewN nq).cell? ⟨bl, off + ix, none⟩ = _ := hck
        have HS3 := Lib.hid (show Strm P (wr.drewN nq) sp rp bs keep at_ o from HS2.out)
        have HO3 := Lib.hid (HO.out.trans (only_drewN _ _ nq))
        clear HP HS2 HO c0 c1 c2 c3 hck t1
        generalize wr.drewN nq = A at *
        have HP := Lib.hid (fun q => strm_put (show Strm P (A.drewN q) sp rp bs keep at_ o from HS3.out) c (by have := HLEN.out; omega))
        go_quiet (fail)
        go_wp2_with fail
        refine (HP.out _).mono ?_
        rintro e w1 ⟨rfl, ho1, hs1⟩
        have HS1 := Lib.hid hs1
        have HO1 := Lib.hid ((HO3.out.trans (only_drewN _ _ _)).trans ho1)
        clear HP HO3 HS3 ho1 hs1
        go_wp2
        go_roundw
        case rel => exact ⟨j + 1, by omega, by go_num, HO1.out, by rw [HR.out]; exact HS1.out⟩
        case measure => simp [intOf]; omega
      · have t1 : decide (o.length < keep) = false := by simp; omega
        have HP := Lib.hid (fun q => strm_put (show Strm P (wr.drewN q) sp rp bs keep at_ o from hs) 0 (by omega))
        have HLEN := Lib.hid hlen
        have HK := Lib.hid hk
        have hol : o.length ≤ 300000000000 := by omega
        clear hs hlen hk
        go_wp2_with fail
        go_quiet (fail)
        go_wp2_with fail
        refine (HP.out _).mono ?_
        rintro e w1 ⟨rfl, ho1, hs1⟩
        have HS1 := Lib.hid (hs1.swap (o.getD (o.length - d) 0) (by have := HK.out; omega))
        have HO1 := Lib.hid ((HO.out.trans (only_drewN _ _ nq)).trans ho1)
        clear HO HP ho1 hs1
        go_wp2
        go_roundw
        case rel => exact ⟨j + 1, by omega, by go_num, HO1.out, by rw [HR.out]; exact HS1.out⟩
        case measure => simp [intOf]; omega
    · obtain rfl : j = n := by omega
      have HS := Lib.hid hs
      clear hs
      go_wp2
      go_end0
      exact ⟨rfl, HO.out, HS.out⟩
set_option maxRecDepth 100000 in
set_option maxHeartbeats 1600000 in
theorem strm_stored {P : Nat → Prop} {w : World} {sp rp keep at_ : Nat} {bs out : List Nat} (h : Strm P w sp rp bs keep at_ out) :
    Calls Tryz.prog 52 #[.pointer (some ⟨sp, 0, none⟩)] w fun e w' => StepOut P sp rp bs keep (stoB bs at_ out) w e w' := by
  obtain ⟨c0, c2, c3⟩ := h.cells
  have HA := Lib.hid (lsb_align w rp bs at_ h.rd)
  have H := Lib.hid h
  unfold stoB
  clear h
  have hat : at_ ≤ (at_ + 7) / 8 * 8 := by omega
  generalize (at_ + 7) / 8 * 8 = a0 at *
  obtain ⟨R, hR0⟩ : ∃ R, R = stored0 bs a0 out := ⟨_, rfl⟩
  rw [← hR0]
  replace hR0 := Lib.hid hR0
  go_enter Tryz.func52, Tryz.ntmps52
  go_wp2_with fail
  refine HA.out.mono ?_
  rintro e w1 ⟨⟨v, rfl⟩, hr1, ho1⟩
  obtain ⟨k1, k2⟩ := H.out.moved ho1 hr1 hat
  have HO1 := Lib.hid k1
  have HS1 := Lib.hid k2
  clear H HA hr1 ho1 k1 k2 c0 c2 c3 hat
  go_wp2_with fail
  by_cases h1 : a0 + 16 ≤ 8 * bs.length
  case neg =>
    have HR : Hid (R = none) := by rw [Hid, hR0.out]; unfold stored0; rw [if_neg (by omega)]
    have HB := Lib.hid (strm_bits_no HS1.out 16 (by decide) (by omega))
    clear h1
    refine HB.out.mono ?_
    rintro e w2 ⟨rfl, ho2⟩
    refine ⟨rfl, ?_⟩
    rw [HR.out]
    exact ⟨HO1.out.trans ho2, rfl⟩
  have HB := Lib.hid (strm_bits_ok HS1.out 16 (by decide) h1)
  have hn16 := num_lt bs a0 16
  have hnn : num bs a0 16 < 65536 := hn16
  have HN := Lib.hid (show R = if a0 + 32 ≤ 8 * bs.length then if num bs (a0 + 16) 16 = 65535 - num bs a0 16 then stoL bs (num bs a0 16) (a0 + 32) out else none else none from hR0.out)
  clear h1 hn16
  generalize num bs a0 16 = n at *
  refine HB.out.mono ?_
  rintro e w2 ⟨rfl, ho2, hs2⟩
  have HO2 := Lib.hid (HO1.out.trans ho2)
  have HS2 := Lib.hid hs2
  clear HB HO1 HS1 ho2 hs2
  go_wp2_with fail
  by_cases h2 : a0 + 32 ≤ 8 * bs.length
  case neg =>
    have HR : Hid (R = none) := by unfold Hid; rw [HN.out, if_neg h2]
    have HB := Lib.hid (strm_bits_no HS2.out 16 (by decide) (by omega))
    clear h2
    refine HB.out.mono ?_
    rintro e w3 ⟨rfl, ho3⟩
    refine ⟨rfl, ?_⟩
    rw [HR.out]
    exact ⟨HO2.out.trans ho3, rfl⟩
  have HB := Lib.hid (strm_bits_ok HS2.out 16 (by decide) (by omega))
  have hmm : num bs (a0 + 16) 16 < 65536 := num_lt bs (a0 + 16) 16
  have HN2 := Lib.hid (HN.out.trans (if_pos h2))
  clear h2 HN
  generalize num bs (a0 + 16) 16 = m at *
  refine HB.out.mono ?_
  rintro e w3 ⟨rfl, ho3, hs3⟩
  have HO3 := Lib.hid (HO2.out.trans ho3)
  have HS3 := Lib.hid (show Strm P w3 sp rp bs keep (a0 + 32) out from hs3)
  have hxor := xor_bits n hnn
  have hzl : 65535 - n ≤ 65535 := by omega
  clear HB HO2 HS2 ho3 hs3
  by_cases hz : m = 65535 - n
  case neg =>
    have HR : Hid (R = none) := by unfold Hid; rw [HN2.out, if_neg hz]
    have t1 : ((m : Int) != ((65535 - n : Nat) : Int)) = true := by simp; omega
    clear hz HN2
    generalize 65535 - n = z at *
    go_wp2_with fail
    refine ⟨rfl, ?_⟩
    rw [HR.out]
    exact ⟨HO3.out, rfl⟩
  have HR : Hid (R = stoL bs n (a0 + 32) out) := by unfold Hid; rw [HN2.out, if_pos hz]
  have t1 : ((m : Int) != ((65535 - n : Nat) : Int)) = false := by simp; omega
  clear hz HN2
  generalize 65535 - n = z at *
  go_wp2_with fail
  clear t1 hxor
  go_loopw [17] (fun i A => ∃ j at2 out2, j ≤ n ∧ i = .int .i64 (j : Nat) ∧ Only P w A ∧ Strm P A sp rp bs keep at2 out2 ∧ R = stoL bs (n - j) at2 out2) (fun i _ => n - (intOf i).toNat)
  case atStart => exact ⟨0, a0 + 32, out, by omega, rfl, HO3.out, HS3.out, HR.out⟩
  case round =>
    clear HO3 HS3 HR
    obtain ⟨j, at2, out2, hj, rfl, ho, hs, hr⟩ := hrel
    have HO := Lib.hid ho
    have HS := Lib.hid hs
    clear ho hs
    by_cases hlt : j < n
    · obtain ⟨k, hk⟩ : ∃ k, n - j = k + 1 := ⟨n - j - 1, by omega⟩
      have hk2 : n - (j + 1) = k := by omega
      rw [hk] at hr
      unfold stoL at hr
      by_cases h8 : at2 + 8 ≤ 8 * bs.length
      · rw [if_pos h8, ← hk2] at hr
        have HR := Lib.hid hr
        have HB := Lib.hid (strm_bits_ok HS.out 8 (by decide) h8)
        have hb := HS.out.bound
        have hv : num bs at2 8 < 256 := num_lt bs at2 8
        have hbd : out2.length + 1 ≤ 258 * (at2 + 8) := by omega
        clear hr h8 hb hk hk2
        generalize num bs at2 8 = v at *
        go_wp2_with fail
        refine HB.out.mono ?_
        rintro e w4 ⟨rfl, ho4, hs4⟩
        have HO4 := Lib.hid (HO.out.trans ho4)
        have HB2 := Lib.hid (strm_put hs4 v hbd)
        clear HB HO HS ho4 hs4
        go_wp2_with fail
        refine HB2.out.mono ?_
        rintro e w5 ⟨rfl, ho5, hs5⟩
        have HO5 := Lib.hid (HO4.out.trans ho5)
        have HS5 := Lib.hid hs5
        clear HB2 HO4 ho5 hs5
        go_wp2
        go_roundw
        case rel => exact ⟨j + 1, at2 + 8, out2 ++ [v], by omega, by go_num, HO5.out, HS5.out, HR.out⟩
        case measure => simp [intOf]; omega
      · rw [if_neg h8] at hr
        have HR := Lib.hid hr
        have HB := Lib.hid (strm_bits_no HS.out 8 (by decide) (by omega))
        clear hr h8 hk hk2
        go_wp2_with fail
        refine HB.out.mono ?_
        rintro e w4 ⟨rfl, ho4⟩
        refine ⟨rfl, ?_⟩
        rw [HR.out]
        exact ⟨HO.out.trans ho4, rfl⟩
    · obtain rfl : j = n := by omega
      rw [Nat.sub_self] at hr
      have HR := Lib.hid hr
      clear hr
      go_wp2
      go_end0
      rw [HR.out]
      exact ⟨HO.out, rfl, HS.out⟩
end Go.Proofs.YtendielanacflaaGreat
