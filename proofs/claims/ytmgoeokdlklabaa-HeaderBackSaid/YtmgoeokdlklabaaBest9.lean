/- layer 5: the library's stable sort, up to 600 elements: contract. layer 5: limit.rarest and limit.Lengths for up to 600 used symbols: contracts. Printed by gen/lena.py out of Len. Layer 9: the statements' own lens: the best lengths for frequencies that are spread; they may be. HeaderCut: the law's walk. HeaderBack: the law's walk. -/
import Derived.Test.YtmgoeokdlklabaaMrg2
import Derived.Test.YtmgoeokdlklabaaLen
import Derived.Test.YtmgoeokdlklabaaPutH
import Derived.Test.YtmgoeokdlklabaaOpen
import Derived.Test.YtmgoeokdlklabaaLoc
namespace Go.Proofs.Ytmgoeokdlklabaa
open Go.RowKit Go.Shelf M04 M05
attribute [local go_sem] Oper.semAt_some
set_option linter.unusedVariables false
set_option linter.unusedSimpArgs false

theorem SrtI.self {A0 A : World} {g base cap p fc n : Nat} {fa : Option Addr} {f D : List Nat} (h : SrtI A0 g base cap p fa fc f n D A) : SrtI A g base cap p fa fc f n D A := ⟨h.own, h.len, h.mem, .refl _ _, h.cell, h.row⟩
set_option maxRecDepth 100000 in
set_option maxHeartbeats 6400000 in
theorem stable_any (A : World) (g base cap p n : Nat) (fa : Option Addr) (fc : Nat) (f : List Nat) (hI : SrtI A g base cap p fa fc f n (used f) A) (hp : p < base) (hfa : ∀ x, 0 < f.length → fa = some x → x.block < base) (hn : n ≤ 600) :
    Calls Try.prog 126 #[.slice (some ⟨g, 0, none⟩) n cap, .int .i64 (n : Nat), .func (.func 115) #[] #[.pointer (some ⟨p, 0, none⟩)]] A fun e w' => e = .returned (.tuple #[]) ∧ SrtI A g base cap p fa fc f n (rar f) w' := by
  have HI := Lib.hid hI
  have hl0 : (used f).length = n := hI.len
  have hd := used_rises f
  have HINS := Lib.hid (fun D A' a b (h : SrtI A g base cap p fa fc f n D A') (hab : a ≤ b) (hb : b ≤ n) => (by
    have hD := h.len
    have := ins_sort A' g base cap p a b fa fc f D (by rw [hD]; exact h.self) hp hfa hab (by omega) (by omega)
    rw [hD] at this
    exact this.mono (fun e w' hh => ⟨hh.1, h.after hh.2⟩) : Calls Try.prog 133 #[.slice (some ⟨g, 0, none⟩) n cap, .int .i64 (a : Nat), .int .i64 (b : Nat), .func (.func 115) #[] #[.pointer (some ⟨p, 0, none⟩)]] A' fun e w' => e = .returned (.tuple #[]) ∧ SrtI A g base cap p fa fc f n (insS f a b D) w'))
  have HA1 := Lib.hid (fun k D (h : RelA f (used f) k D) hb => relA_step f (used f) hd k D h hb)
  have HA2 := Lib.hid (fun k D (h : RelA f (used f) k D) h1 hb => relA_end f (used f) hd k D h h1 hb)
  have HA0 := Lib.hid (relA_start f (used f))
  have HMS := Lib.hid (fun s k b D A' (h : RelM f (used f) s k D) (hi : SrtI A g base cap p fa fc f n D A') (hs : 0 < s) (hm : 2 * s * k + s < b) (hb : b ≤ n) (hb2 : b = 2 * s * k + 2 * s ∨ b < 2 * s * k + 2 * s ∧ b = n) => (by
    have hD := hi.len
    obtain ⟨P, L, R, Q, e1, e2, e3, e4, e5, e6, e7, e8⟩ := relM_step f (used f) hd s k b D h hm (by omega) (by rw [hD]; exact hb2)
    subst e1
    have := sym_merge A g base cap p n fa fc f hp hfa hn (L.length + R.length) A' P L R Q (Nat.le_refl _) (by omega) (by omega) hi e5 e6 e7
    rw [e4, e2, e3] at this
    refine this.mono ?_
    rintro e w' ⟨h1, M, h2, h3, h4⟩
    exact ⟨h1, _, e8 M h2 h3, h4⟩ : Calls Try.prog 134 #[.slice (some ⟨g, 0, none⟩) n cap, .int .i64 ((2 * s * k : Nat) : Int), .int .i64 ((2 * s * k + s : Nat) : Int), .int .i64 (b : Nat), .func (.func 115) #[] #[.pointer (some ⟨p, 0, none⟩)]] A' fun e w' => e = .returned (.tuple #[]) ∧ ∃ D', RelM f (used f) s (k + 1) D' ∧ SrtI A g base cap p fa fc f n D' w'))
  have HM0 := Lib.hid (fun s D (h : D.length = (used f).length) hb => relM_start f (used f) s D h hb)
  have HME := Lib.hid (fun s k D (h : RelM f (used f) s k D) hb hl => relM_end f (used f) s k D h hb hl)
  have HMD := Lib.hid (fun s k D (h : RelM f (used f) s k D) hl => relM_done f (used f) s k D h hl)
  have HALL := Lib.hid (fun s D (hl : D.length = (used f).length) hs h => blk_all f s D hl hs h)
  have HL0 := Lib.hid hl0
  clear hI hd hl0
  generalize used f = d0 at *
  go_enter Try.func126, Try.ntmps126
  go_wp2
  go_loopw [7, 8] (fun x y A' => ∃ a b k D, x = .int .i64 (a : Nat) ∧ y = .int .i64 (b : Nat) ∧ a = 20 * k ∧ b = a + 20 ∧ a ≤ n ∧ RelA f d0 k D ∧ SrtI A g base cap p fa fc f n D A') (fun x y _ => 1000 - (intOf x).toNat)
  case atStart => exact ⟨0, 20, 0, d0, rfl, rfl, rfl, rfl, Nat.zero_le _, HA0.out, HI.out⟩
  case round =>
    clear HI HA0
    obtain ⟨a, b, k, D, rfl, rfl, ha, hb, han, hrA, hs⟩ := hrel
    have HS := Lib.hid hs
    have HR := Lib.hid hrA
    have HA := Lib.hid ha
    have HB := Lib.hid hb
    have hab : a ≤ b := by omega
    have hb9 : b ≤ 1000 := by omega
    clear hs hrA ha hb
    by_cases hbn : b ≤ n
    · have b1 : decide (b ≤ n) = true := by simp; omega
      obtain ⟨b2, hb2⟩ : ∃ b2, b + 20 = b2 := ⟨_, rfl⟩
      have qb2 : (b : Int) + 20 = (b2 : Int) := by omega
      have HB2 := Lib.hid hb2
      have HC := Lib.hid (HINS.out D wr a b HS.out hab hbn)
      clear hb2
      go_wp2_with (go_at_call 133; refine HC.out.mono ?_; rintro e w' ⟨rfl, hs⟩; have HS2 := Lib.hid hs; clear hs)
      go_roundw
      case rel => exact ⟨b, b2, k + 1, _, rfl, rfl, by have := HA.out; have := HB.out; omega, HB2.out.symm, hbn, HA1.out k D HR.out (by have := HA.out; have := HB.out; have := HS.out.len; omega), by have h := HS2.out; rw [HB.out, HA.out] at h; exact h⟩
      case measure => simp [intOf]; have := HB.out; omega
    · have b1 : decide (b ≤ n) = false := by simp; omega
      have HC := Lib.hid (HINS.out D wr a n HS.out han (Nat.le_refl _))
      have hend := HA2.out k D HR.out (by have := HA.out; have := HS.out.len; omega) (by have := HA.out; have := HB.out; have := HS.out.len; omega)
      rw [HS.out.len, ← HA.out] at hend
      have HE := Lib.hid hend
      clear hend hbn
      go_wp2_with (go_at_call 133; refine HC.out.mono ?_; rintro e w' ⟨rfl, hs⟩; have HS2 := Lib.hid hs; clear hs)
      go_loopw [6, 7, 8, 9] (fun x _ _ _ A' => ∃ s D, x = .int .i64 (s : Nat) ∧ 20 ≤ s ∧ s ≤ 1200 ∧ D.length = d0.length ∧ (∀ j, Blk f d0 s D j) ∧ SrtI A g base cap p fa fc f n D A') (fun x _ _ _ _ => 2000 - (intOf x).toNat)
      case atStart => exact ⟨20, _, rfl, Nat.le_refl _, by decide, HE.out.1, HE.out.2, HS2.out⟩
      case round =>
        clear HS2 HE HS HR HC
        obtain ⟨s, D, rfl, hs20, hs12, hDl, hblk, hs⟩ := hrel
        have HS := Lib.hid hs
        have HBK := Lib.hid hblk
        have HDL := Lib.hid hDl
        clear hs hblk hDl
        by_cases hsn : s < n
        · have b2 : decide (s < n) = true := by simp; omega
          obtain ⟨s2, hs2⟩ : ∃ s2, 2 * s = s2 := ⟨_, rfl⟩
          have qs2 : 2 * (s : Int) = (s2 : Int) := by omega
          have qs2' : (s : Int) * 2 = (s2 : Int) := by omega
          have HS2 := Lib.hid hs2
          have hs2b : s2 ≤ 1200 := by omega
          have hs2c : s < s2 := by omega
          clear hs2
          go_wp2
          go_loopw [7, 8] (fun x y A' => ∃ a b k D, x = .int .i64 (a : Nat) ∧ y = .int .i64 (b : Nat) ∧ a = 2 * s * k ∧ b = a + s2 ∧ a ≤ n ∧ RelM f d0 s k D ∧ SrtI A g base cap p fa fc f n D A') (fun x y _ => 1000 - (intOf x).toNat)
          case atStart => exact ⟨0, s2, 0, D, rfl, rfl, by simp, by omega, Nat.zero_le _, HM0.out s D HDL.out HBK.out, HS.out⟩
          case round =>
            clear HS HBK HDL
            obtain ⟨a, b, k, D, rfl, rfl, ha, hb, han, hrM, hs⟩ := hrel
            have HS := Lib.hid hs
            have HR := Lib.hid hrM
            have HA := Lib.hid ha
            have HB := Lib.hid hb
            have hab : a ≤ b := by omega
            have hb9 : b ≤ 2000 := by omega
            have hDn := hs.len
            obtain ⟨m, hm⟩ : ∃ m, a + s = m := ⟨_, rfl⟩
            have qm : (a : Int) + (s : Int) = (m : Int) := by omega
            have hmb : m < b := by omega
            have HM := Lib.hid hm
            clear hs hrM ha hb hm
            by_cases hbn : b ≤ n
            · have b3 : decide (b ≤ n) = true := by simp; omega
              obtain ⟨b2, hb2⟩ : ∃ b2, b + s2 = b2 := ⟨_, rfl⟩
              have qb2 : (b : Int) + (s2 : Int) = (b2 : Int) := by omega
              have HB2 := Lib.hid hb2
              have hc := HMS.out s k b D wr HR.out HS.out (by omega) (by rw [← HA.out]; have := HM.out; omega) hbn (.inl (by rw [← HA.out, HS2.out]; exact HB.out))
              rw [← HA.out, HM.out] at hc
              have HC := Lib.hid hc
              clear hc hb2
              go_wp2_with (go_at_call 134; refine HC.out.mono ?_; rintro e w' ⟨rfl, D2, hr2, hs⟩; have HS3 := Lib.hid hs; have HR3 := Lib.hid hr2; clear hs hr2)
              go_roundw
              case rel => exact ⟨b, b2, k + 1, D2, rfl, rfl, by rw [HB.out, HA.out, Nat.mul_succ, HS2.out], HB2.out.symm, hbn, HR3.out, HS3.out⟩
              case measure => simp [intOf]; have := HB.out; omega
            · have b3 : decide (b ≤ n) = false := by simp; omega
              by_cases hmn : m < n
              · have b4 : decide (m < n) = true := by simp; omega
                have hc := HMS.out s k n D wr HR.out HS.out (by omega) (by rw [← HA.out]; have := HM.out; omega) (Nat.le_refl _) (.inr ⟨by rw [← HA.out, HS2.out]; have := HB.out; omega, rfl⟩)
                rw [← HA.out, HM.out] at hc
                have HC := Lib.hid hc
                have hdone : n ≤ 2 * s * (k + 1) := by rw [Nat.mul_succ, ← HA.out, HS2.out]; have := HB.out; omega
                clear hc
                have HDN := Lib.hid hdone
                clear hdone
                go_wp2_with (go_at_call 134; refine HC.out.mono ?_; rintro e w' ⟨rfl, D2, hr2, hs⟩; have HS3 := Lib.hid hs; have HR3 := Lib.hid hr2; clear hs hr2)
                go_roundw
                case rel => exact ⟨s2, D2, rfl, by omega, hs2b, HR3.out.1, by rw [← HS2.out]; exact HMD.out s (k + 1) D2 HR3.out (by rw [HS3.out.len]; exact HDN.out), HS3.out⟩
                case measure => simp [intOf]; omega
              · have b4 : decide (m < n) = false := by simp; omega
                have hbe := HME.out s k D HR.out (by rw [hDn, ← HA.out, HS2.out]; have := HB.out; omega) (by rw [hDn, ← HA.out]; have := HM.out; omega)
                rw [HS2.out] at hbe
                have HBE := Lib.hid hbe
                clear hbe
                go_wp2
                go_roundw
                case rel => exact ⟨s2, D, rfl, by omega, hs2b, HR.out.1, HBE.out, HS.out⟩
                case measure => simp [intOf]; omega
        · have b2 : decide (s < n) = false := by simp; omega
          have hfin := HALL.out s D HDL.out (by rw [HS.out.len]; omega) (HBK.out 0)
          have HFIN := Lib.hid (by rw [← hfin]; exact HS.out : SrtI A g base cap p fa fc f n (rar f) wr)
          clear hfin
          go_wp2
          go_end0
          exact ⟨rfl, HFIN.out⟩
set_option maxRecDepth 100000 in
theorem sort_any (A : World) (g base cap p n : Nat) (fa : Option Addr) (fc : Nat) (f : List Nat) (hI : SrtI A g base cap p fa fc f n (used f) A) (hp : p < base) (hfa : ∀ x, 0 < f.length → fa = some x → x.block < base) (hn : n ≤ 600) :
    Calls Try.prog 114 #[.slice (some ⟨g, 0, none⟩) n cap, .func (.func 115) #[] #[.pointer (some ⟨p, 0, none⟩)]] A fun e w' => e = .returned (.tuple #[]) ∧ SrtI A g base cap p fa fc f n (rar f) w' := by
  have HST := Lib.hid (stable_any A g base cap p n fa fc f hI hp hfa hn)
  clear hI
  go_enter Try.func114, Try.ntmps114
  go_wp2_with (go_at_call 126; refine HST.out.mono ?_; rintro e w' ⟨rfl, hs⟩)
  go_end0
  exact ⟨rfl, hs⟩
end Go.Proofs.Ytmgoeokdlklabaa

namespace Go.Proofs.Ytmgoeokdlklabaa
open Go.RowKit Go.Shelf M04 M05
attribute [local go_sem] Oper.semAt_some
set_option linter.unusedVariables false
set_option linter.unusedSimpArgs false

set_option maxRecDepth 100000 in
set_option maxHeartbeats 3200000 in
theorem limit_rarestA (w : World) (a : Option Addr) (cap : Nat) (f : List Nat) (hr : RowN .i64 w a cap f) (hl : f.length ≤ 600) (hu : (used f).length ≤ 600) :
    Calls Try.prog 86 #[.slice a f.length cap] w fun e w' => ∃ a' c', e = .returned (.slice a' (rar f).length c') ∧ OwnN 3 .i64 w' w.heap.size a' c' (rar f) ∧ Below w.heap.size w w' := by
  have hrl : (rar f).length = (used f).length := (rar_perm f).length_eq
  have HB0 := Lib.hid (box_b w (.cells #[.slice a f.length cap] 59))
  have hz : (w.alloc (.cells #[.slice a f.length cap] 59)).heap.size = w.heap.size + 1 := by simp
  have hc := cell_of_one (World.alloc_heap_new w (.cells #[.slice a f.length cap] 59))
  have HR := Lib.hid (hr.below HB0.out)
  have HA := Lib.hid (fun x (h0 : 0 < f.length) (hx : a = some x) => (show x.block < w.heap.size from by obtain ⟨b', off, he, hlt, _⟩ := hr.at h0; rw [hx] at he; cases he; exact hlt))
  have HO0 := Lib.hid (fun W => OwnN.nil 3 .i64 W (w.heap.size + 1))
  clear hr
  go_enter Try.func86, Try.ntmps86
  go_wp2
  generalize w.alloc (.cells #[.slice a f.length cap] 59) = W0 at *
  go_loopw [3, 4, 5, 8] (fun o _ _ i A' => ∃ k a' c', i = .int .i64 (k : Nat) ∧ k ≤ f.length ∧ o = .slice a' (usedT f k).length c' ∧ OwnN 3 .i64 A' (w.heap.size + 1) a' c' (usedT f k) ∧ Below (w.heap.size + 1) W0 A') (fun _ _ _ i _ => f.length - (intOf i).toNat)
  case atStart => exact ⟨0, none, 0, rfl, Nat.zero_le _, rfl, HO0.out _, .refl _ _⟩
  case round =>
    obtain ⟨k, a', c', rfl, hk, rfl, ho, hb⟩ := hrel
    have HO := Lib.hid ho
    have HB := Lib.hid hb
    have hul := usedT_len f k
    have hszr : w.heap.size + 1 ≤ wr.heap.size := by have := hb.size; omega
    clear ho hb
    by_cases hkf : k < f.length
    · have b1 : decide (k < f.length) = true := by simp; omega
      have hrow := HR.out.same HB.out.size (fun x h0 hx => HB.out.block _ (by have := HA.out x h0 hx; omega))
      obtain ⟨b, off, hae, hbb, hck⟩ := hrow.at hkf
      have hv : f.getD k 0 = f[k] := by rw [List.getD_eq_getElem?_getD, List.getElem?_eq_getElem hkf]; rfl
      have HU := Lib.hid (usedT_succ f k)
      rw [hv] at HU
      subst hae
      have qk : (k : Int) < (f.length : Int) := by omega
      clear hv hrow
      generalize f[k] = v at *
      by_cases h0 : 0 < v
      · have b2 : decide (0 < v) = true := by simp; omega
        rw [if_pos h0] at HU
        clear h0
        go_wp2_with (at_builtin; refine app1AtN et_int rfl (.tmp 15) (.tmp 17) rfl (base := w.heap.size + 1) (y := k) rfl HO.out rfl (Nat.le_refl _) (by decide) (by omega) (by omega) hszr ?_; intro a7 c7 w7 hown7 hg7 hat7; have HO7 := Lib.hid hown7; have HB7 := Lib.hid (HB.out.trans (Below.of_grown hg7 (by omega) (fun g hg => by rcases HO.out.form with ⟨rfl, _⟩ | ⟨g', rfl, hb, _⟩ <;> simp [Value.ownBlock] at hg; omega))); clear hown7 hg7 hat7)
        go_roundw
        case rel => exact ⟨k + 1, a7, c7, by go_num, by omega, by rw [HU.out, List.length_append]; rfl, by rw [HU.out]; exact HO7.out, HB7.out⟩
        case measure => simp [intOf]; omega
      · have b2 : decide (0 < v) = false := by simp; omega
        rw [if_neg h0] at HU
        clear h0
        go_wp2
        go_roundw
        case rel => exact ⟨k + 1, a', c', by go_num, by omega, by rw [HU.out], by rw [HU.out]; exact HO.out, HB.out⟩
        case measure => simp [intOf]; omega
    · have b1 : decide (k < f.length) = false := by simp; omega
      obtain rfl : k = f.length := by omega
      rw [usedT_all] at *
      have hb2 := HB0.out.trans (HB.out.mono (by omega))
      rcases HO.out.form with ⟨rfl, rfl, hnil⟩ | ⟨g, rfl, hg1, hg2⟩
      · have HS := Lib.hid (fun fv => sort_nil wr fv)
        have HN := Lib.hid (show rar f = [] from by have := rar_perm f; rw [hnil] at this; exact this.eq_nil)
        have hn0 : (used f).length = 0 := by rw [hnil]; rfl
        rw [hn0]
        go_wp2_with (go_at_call 114; refine (HS.out _).mono ?_; rintro e w' ⟨rfl, rfl⟩)
        go_ret
        exact ⟨none, 0, by rw [HN.out]; rfl, by rw [HN.out]; exact OwnN.nil _ _ _ _, hb2⟩
      · have hcw : wr.cell? ⟨w.heap.size, 0, none⟩ = some (.slice a f.length cap) := (World.cell?_of_block (a := ⟨w.heap.size, 0, none⟩) (HB.out.block w.heap.size (by omega))).trans hc
        have hrow := HR.out.same HB.out.size (fun x h0 hx => HB.out.block _ (by have := HA.out x h0 hx; omega))
        have HS := Lib.hid (sort_any wr g (w.heap.size + 1) c' w.heap.size (used f).length a cap f ⟨HO.out, rfl, fun x hx => by have := List.mem_filter.1 hx; exact List.mem_range.1 this.1, .refl _ _, hcw, hrow⟩ (by omega) (fun x h0 hx => by have := HA.out x h0 hx; omega) hu)
        clear hcw hrow
        go_wp2_with (go_at_call 114; refine HS.out.mono ?_; rintro e w' ⟨rfl, hs⟩)
        go_ret
        refine ⟨some ⟨g, 0, none⟩, c', by rw [hrl]; rfl, hs.own.mono (by omega), ?_⟩
        exact Below.only hb2 hs.only (Nat.le_refl _) (fun b hb => by omega)

set_option maxRecDepth 100000 in
set_option maxHeartbeats 6400000 in
theorem limit_lengthsA (w : World) (a : Option Addr) (cap : Nat) (f : List Nat) (lim : Nat) (hr : RowN .i64 w a cap f) (hl : f.length ≤ 512) (hu : (used f).length ≤ 600) (hx : ∀ x ∈ f, x ≤ 1099511627776) (h1 : 1 ≤ lim) (h17 : lim ≤ 17) (hm : (rar f).length ≤ 2 ^ lim) :
    Calls Try.prog 53 #[.slice a f.length cap, .int .i64 (lim : Nat)] w fun e w' => ∃ a' c', e = .returned (.tuple #[.slice a' f.length c', .int .i64 0]) ∧ OwnN 5 .u8 w' w.heap.size a' c' (limL f lim) ∧ Below w.heap.size w w' := by
  have HCF := Lib.hid (int_contains a cap f w hr hx)
  have HRA := Lib.hid (fun w' (h : Below w.heap.size w w') => limit_rarestA w' a cap f (hr.below h) (by omega) hu)
  have HR := Lib.hid hr
  have hru : (rar f).length ≤ 600 := by have := (rar_perm f).length_eq; omega
  have HX := Lib.hid hx
  have HM := Lib.hid hm
  clear hr hx hu hm
  have b1 : decide (lim < 1) = false := by simp; omega
  have b1' : decide ((lim : Int) < 1) = false := by simp; omega
  have b2 : decide (17 < lim) = false := by simp; omega
  have b3 : decide (512 < f.length) = false := by simp; omega
  have b2' : decide ((17 : Int) < (lim : Int)) = false := by simp; omega
  have b3' : decide ((512 : Int) < (f.length : Int)) = false := by simp; omega
  obtain ⟨P, hP⟩ : ∃ P, 2 ^ lim = P := ⟨_, rfl⟩
  have HP := Lib.hid hP
  have qP := pow_wrap lim P h17 hP
  rw [hP] at HM
  have b4 : decide (P < (rar f).length) = false := by have := HM.out; simp; omega
  have b4' : decide ((P : Int) < ((rar f).length : Int)) = false := by have := HM.out; simp; omega
  clear hP
  rcases (show (rar f).length = 0 ∨ (rar f).length = 1 ∨ 2 ≤ (rar f).length by omega) with hn | hn | hn
  · have HL := Lib.hid (limL_none f lim hn)
    have b5 : (((rar f).length : Int) == 1) = false := beq_eq_false_iff_ne.2 (by omega)
    have b6 : decide ((rar f).length < 2) = true := by simp; omega
    have b6' : decide (((rar f).length : Int) < 2) = true := by simp; omega
    clear hn
    go_enter Try.func53, Try.ntmps53
    go_wp2_with (first | (go_at_call 85; refine HCF.out.mono ?_; rintro e w' ⟨rfl, rfl⟩) | (go_at_call 86; refine (HRA.out _ (.refl _ _)).mono ?_; rintro e w1 ⟨oa, oc, rfl, ho, hb⟩; have HO := Lib.hid ho; have HB := Lib.hid hb; clear ho hb) | (at_make; refine makeN (n := f.length) et_u8 rfl _ _ rfl w1.heap.size rfl rfl (by omega) (by omega) (Nat.le_refl _) ?_; intro w2 hown2 hg2; have HU := Lib.hid hown2; have HG2 := Lib.hid hg2; clear hown2 hg2))
    go_ret2
    exact ⟨_, _, rfl, by rw [HL.out]; exact HU.out.mono HB.out.size, HB.out.trans (Below.of_grown HG2.out HB.out.size (fun g hg => by cases hg))⟩
  · have b5 : (((rar f).length : Int) == 1) = true := by rw [hn]; rfl
    have b6 : decide ((rar f).length < 2) = true := by simp; omega
    obtain ⟨s0, hs0⟩ : ∃ s0, rar f = [s0] := List.length_eq_one_iff.1 hn
    have HS0 := Lib.hid hs0
    clear hs0
    have hs0f : s0 < f.length := ((mem_rar f s0).1 (by rw [HS0.out]; exact List.mem_singleton_self _)).1
    have qs0 : (s0 : Int) < (f.length : Int) := by omega
    have hn1 : 1 ≤ (rar f).length := by omega
    have hn2 : (rar f).length ≤ 1 := by omega
    have HN1 := Lib.hid hn
    clear hn
    go_enter Try.func53, Try.ntmps53
    go_wp2_with (first | (go_at_call 85; refine HCF.out.mono ?_; rintro e w' ⟨rfl, rfl⟩) | (go_at_call 86; refine (HRA.out _ (.refl _ _)).mono ?_; rintro e w1 ⟨oa, oc, rfl, ho, hb⟩; have HO := Lib.hid ho; have HB := Lib.hid hb; obtain ⟨bo, oo, rfl, hbo, hoc⟩ := ho.row.at (show 0 < (rar f).length by omega); simp only [HS0.out, List.getElem_cons_zero, Nat.add_zero] at hoc; clear ho hb) | (at_make; refine makeN (n := f.length) et_u8 rfl _ _ rfl w1.heap.size rfl rfl (by omega) (by omega) (Nat.le_refl _) ?_; intro w2 hown2 hg2; have HU := Lib.hid hown2; have HG2 := Lib.hid hg2; have hoc2 := (World.cell?_of_block (a := ⟨bo, oo, none⟩) (hg2.block bo hbo (fun e => by cases e))).trans hoc; obtain ⟨g9, hg9, _, _, huc, huf⟩ := hown2.at (show s0 < (List.replicate f.length 0).length by rw [List.length_replicate]; exact hs0f); simp only [Option.some.injEq, Addr.mk.injEq, and_true] at hg9; subst hg9; clear hown2 hg2))
    clear qP
    have HUL0 := Lib.hid (show OwnN 5 .u8 (w2.setCell ⟨w1.heap.size, s0, none⟩ (.int .u8 1)) w1.heap.size (some ⟨w1.heap.size, 0, none⟩) f.length (len0 f) from by
      unfold len0
      rw [if_pos HN1.out, HS0.out]
      have := (HU.out.stored s0 1).1
      exact this)
    have hg22 : w2.grownBy (w2.setCell ⟨w1.heap.size, s0, none⟩ (.int .u8 1)) (some w1.heap.size) := (HU.out.stored s0 1).2
    have hlt2 : bo < w1.heap.size := hbo
    have HG22 := Lib.hid hg22
    clear hg22
    generalize w2.setCell ⟨w1.heap.size, s0, none⟩ (.int .u8 1) = w22 at *
    have HRO := Lib.hid (HO.out.row)
    have HRO2 := Lib.hid (fun A' (h : Below w22.heap.size w22 A') => (HO.out.row.same (Nat.le_trans (Nat.le_trans HG2.out.size HG22.out.size) h.size) (fun x h0 hx => by
      simp only [Option.some.injEq] at hx
      subst hx
      have z1 := HG2.out.size
      have z2 := HG22.out.size
      exact ((h.block bo (by omega)).trans (HG22.out.block bo (by omega) (fun e => by cases e; omega))).trans (HG2.out.block bo hlt2 (fun e => by cases e))) : RowN .i64 A' (some ⟨bo, oo, none⟩) oc (rar f)))
    have HB2 := Lib.hid ((HB.out.trans (Below.of_grown HG2.out HB.out.size (fun g hg => by cases hg))).trans (Below.of_grown HG22.out (by have := HB.out.size; have := HG2.out.size; omega) (fun g hg => by cases hg; exact HB.out.size)))
    clear hoc2 huc huf hoc HU HG2 HG22
    have HUL := Lib.hid HUL0.out
    clear HUL0
    generalize hoo : (some ⟨bo, oo, none⟩ : Option Addr) = oa at *
    clear hoo hbo hlt2
    have HF2 := Lib.hid (fun A' (h : Below w22.heap.size w22 A') => (HR.out.below (HB2.out.trans (h.mono HB2.out.size)) : RowN .i64 A' a cap f))
    -- one begins
    go_loopw [10, 12, 62] (fun o _ i A' => ∃ k a' c', i = .int .i64 (k : Nat) ∧ k ≤ (rar f).length ∧ o = .slice a' ((symW f).take k).length c' ∧ OwnN 3 .i64 A' w22.heap.size a' c' ((symW f).take k) ∧ Below w22.heap.size w22 A') (fun _ _ i _ => (rar f).length - (intOf i).toNat)
    case atStart => exact ⟨0, none, 0, rfl, Nat.zero_le _, rfl, OwnN.nil _ _ _ _, .refl _ _⟩
    case round =>
      obtain ⟨k, a', c', rfl, hk, rfl, ho, hb⟩ := hrel
      have HO3 := Lib.hid ho
      have HB3 := Lib.hid hb
      have hszr := hb.size
      have hsl := symW_len f
      have htl : ((symW f).take k).length = k := by rw [List.length_take]; omega
      clear ho hb
      by_cases hkn : k < (rar f).length
      · have b7 : decide (k < (rar f).length) = true := by simp; omega
        obtain ⟨bo, oo, hoe, hob, hoc⟩ := (HRO2.out wr HB3.out).at hkn
        have hs1 : (rar f)[k] < f.length := ((mem_rar f _).1 (List.getElem_mem hkn)).1
        obtain ⟨bf, of, hfe, hfb, hfc⟩ := (HF2.out wr HB3.out).at hs1
        have HW := Lib.hid (take_snoc (symW f) k (by omega))
        have hwk : (symW f)[k] = f[(rar f)[k]] := by
          unfold symW
          rw [List.getElem_map, List.getD_eq_getElem?_getD, List.getElem?_eq_getElem hs1]; rfl
        rw [hwk] at HW
        subst hoe
        subst hfe
        have qk : (k : Int) < ((rar f).length : Int) := by omega
        clear hwk
        generalize f[(rar f)[k]] = v at *
        generalize (rar f)[k] = s at *
        have qs : (s : Int) < (f.length : Int) := by omega
        have htl2 : ((symW f).take k).length ≤ 600 := by omega
        clear htl hsl
        generalize (symW f).take k = tk at *
        go_wp2_with (at_builtin; refine app1AtN et_int rfl (.tmp 66) (.tmp 71) rfl (base := w22.heap.size) (y := v) rfl HO3.out rfl (Nat.le_refl _) (by decide) (by omega) (by omega) hszr ?_; intro a7 c7 w7 hown7 hg7 hat7; have HO7 := Lib.hid hown7; have HB7 := Lib.hid (HB3.out.trans (Below.of_grown hg7 hszr (fun g hg => by rcases HO3.out.form with ⟨rfl, _⟩ | ⟨g', rfl, hb, _⟩ <;> simp [Value.ownBlock] at hg; omega))); clear hown7 hg7 hat7)
        go_roundw
        case rel => exact ⟨k + 1, a7, c7, by go_num, by omega, by rw [HW.out, List.length_append]; rfl, by rw [HW.out]; exact HO7.out, HB7.out⟩
        case measure => simp [intOf]; omega
      · have b7 : decide (k < (rar f).length) = false := by simp; omega
        obtain rfl : k = (rar f).length := by omega
        rw [List.take_of_length_le (by omega)] at *
        have hsy := symW_le f _ HX.out
        have HSW := Lib.hid (rowS_weight (symW f) 1099511627776 hsy)
        have HSY := Lib.hid hsy
        have HRL := Lib.hid (rowS_le (symW f) (by omega))
        have hn20 : (symW f).length ≤ 600 := by omega
        clear hsy htl
        generalize hsy0 : symW f = sy at *
        have HSE := Lib.hid hsy0
        clear hsy0
        have HTF := Lib.hid (tkn_fits1 sy lim (by omega) (by rw [hsl]; have := HM.out; have := HP.out; omega) h1)
        have HCN := Lib.hid (cnt_le1 sy lim (by omega) (by rw [hsl]; have := HM.out; have := HP.out; omega) h1)
        go_wp2_with (at_make; refine makeRw (n := lim) rw_elems rfl _ _ rfl wr.heap.size rfl rfl (by omega) (by omega) (Nat.le_refl _) ?_; intro w4 hown4 hg4; have HR4 := Lib.hid hown4; have HG4 := Lib.hid hg4; clear hown4 hg4)
        generalize hw3 : wr = w3 at *
        clear hw3
        have HWT := Lib.hid (fun A' (h : Only (fun b => b = w3.heap.size) w4 A') => (HO3.out.row.same (Nat.le_trans HG4.out.size h.size) (fun x h0 hx => by
          obtain ⟨b', off, he, hlt, _⟩ := HO3.out.row.at h0
          rw [hx] at he; cases he
          exact (h.block _ (Nat.lt_of_lt_of_le hlt HG4.out.size) (by show ¬ b' = _; omega)).trans (HG4.out.block _ hlt (fun e => by cases e))) : RowN .i64 A' a' c' sy))
        have HNX := Lib.hid (fun A' (h : Only (fun b => b = w3.heap.size) w4 A') la la2 lc lm lc2 last h2 hl hll => limit_next A' a' la la2 c' lc lm lc2 sy last (HWT.out A' h) h2 (fun x hx => by have := HSY.out x hx; omega) hl (by omega) hll)
        rw [hsl] at HNX
        have hsz4 : w3.heap.size < w4.heap.size := by
          rcases HR4.out.form with ⟨h, _⟩ | ⟨g', h, _, h5⟩
          · cases h
          · simp only [Option.some.injEq, Addr.mk.injEq, and_true] at h; omega
        go_loopw [14, 77] (fun _ i A' => ∃ k L, i = .int .i64 (k : Nat) ∧ k ≤ lim ∧ OwnS encRw 146 A' w3.heap.size (some ⟨w3.heap.size, 0, none⟩) lim L ∧ L.length = lim ∧ (∀ j (h : j < L.length), j < k → RwAt A' (w3.heap.size + 1) L[j] (rowS sy j)) ∧ Only (fun b => b = w3.heap.size) w4 A') (fun _ i _ => lim - (intOf i).toNat)
        case atStart => exact ⟨0, List.replicate lim row0, rfl, Nat.zero_le _, HR4.out, by simp, fun j _ h => absurd h (by omega), .refl _ _⟩
        case round =>
          obtain ⟨k, L, rfl, hk, hro, hLl, hok, hon⟩ := hrel
          have HRW := Lib.hid hro
          have HOK := Lib.hid hok
          have HON := Lib.hid hon
          clear hro hok hon
          by_cases hkl : k < lim
          · have b8 : decide (k < lim) = true := by simp; omega
            by_cases hk0 : k = 0
            · have b9 : decide (0 < k) = false := by simp; omega
              have b9' : decide ((0 : Int) < (k : Int)) = false := by simp; omega
              have qkl : (k : Int) < (lim : Int) := by omega
              have HK0 := Lib.hid hk0
              clear hk0
              have HNX0 := Lib.hid (HNX.out wr HON.out none none 0 0 0 [] ⟨by simp, by simp, .inl rfl⟩ (by simp) (by simp))
              have hgw : w3.heap.size < wr.heap.size := Nat.lt_of_lt_of_le hsz4 HON.out.size
              go_wp2_with fail
              refine HNX0.out.mono ?_
              rintro e w5 ⟨na, nc, na2, nc2, rfl, ho1, ho2, hb5⟩
              have HN1 := Lib.hid ho1
              have HN2 := Lib.hid ho2
              have HB5 := Lib.hid hb5
              have HRW5 := Lib.hid (HRW.out.below hb5)
              obtain ⟨c0, c1, f0, f1⟩ := HRW5.out.atRw (show k < L.length by omega)
              have HST := Lib.hid (HRW5.out.storedRw k ((na, (nextR sy []).length, nc), (na2, (nextR sy []).length, nc2)) (show k < L.length by omega))
              have HOW := Lib.hid (show Only (fun b => b = w3.heap.size) wr ((w5.setCell ⟨w3.heap.size, 2 * k, none⟩ (.slice na (nextR sy []).length nc)).setCell ⟨w3.heap.size, 2 * k + 1, none⟩ (.slice na2 (nextR sy []).length nc2)) from
                (Only.ofBelow HB5.out).trans (Only.trans ⟨HST.out.2.1.os, HST.out.2.1.tape, HST.out.2.1.output, HST.out.2.1.size, fun b hb hne => HST.out.2.1.block b hb (fun e => by cases e; exact hne rfl)⟩ ⟨HST.out.2.2.os, HST.out.2.2.tape, HST.out.2.2.output, HST.out.2.2.size, fun b hb hne => HST.out.2.2.block b hb (fun e => by cases e; exact hne rfl)⟩))
              have HOW5 := Lib.hid (show Only (fun b => b = w3.heap.size) w5 ((w5.setCell ⟨w3.heap.size, 2 * k, none⟩ (.slice na (nextR sy []).length nc)).setCell ⟨w3.heap.size, 2 * k + 1, none⟩ (.slice na2 (nextR sy []).length nc2)) from
                Only.trans ⟨HST.out.2.1.os, HST.out.2.1.tape, HST.out.2.1.output, HST.out.2.1.size, fun b hb hne => HST.out.2.1.block b hb (fun e => by cases e; exact hne rfl)⟩ ⟨HST.out.2.2.os, HST.out.2.2.tape, HST.out.2.2.output, HST.out.2.2.size, fun b hb hne => HST.out.2.2.block b hb (fun e => by cases e; exact hne rfl)⟩)
              have HNEW := Lib.hid (show RwAt w5 (w3.heap.size + 1) ((na, (nextR sy []).length, nc), (na2, (nextR sy []).length, nc2)) (rowS sy k) from by
                rw [HK0.out]
                refine ⟨rfl, rfl, HN1.out.row, HN2.out.row, fun b hb => ?_, fun b hb => ?_⟩
                · rcases HN1.out.form with ⟨h, _⟩ | ⟨g', h, h2, h3⟩
                  · rw [show na = some b from hb] at h; cases h
                  · rw [show na = some b from hb] at h; cases h; exact ⟨by show _ ≤ g'; omega, h3⟩
                · rcases HN2.out.form with ⟨h, _⟩ | ⟨g', h, h2, h3⟩
                  · rw [show na2 = some b from hb] at h; cases h
                  · rw [show na2 = some b from hb] at h; cases h; exact ⟨by show _ ≤ g'; omega, h3⟩)
              rw [Nat.mul_comm 2 k] at c0 c1 f0 f1 HST HOW HOW5
              clear ho1 ho2 hb5
              go_wp2_with fail
              go_roundw
              case rel =>
                refine ⟨k + 1, L.set k ((na, (nextR sy []).length, nc), (na2, (nextR sy []).length, nc2)), by go_num, by omega, HST.out.1, by rw [List.length_set]; exact hLl, fun j hj hjk => ?_, HON.out.trans HOW.out⟩
                rw [List.length_set] at hj
                by_cases hjk2 : j = k
                · subst hjk2
                  rw [List.getElem_set_self]
                  exact HNEW.out.only HOW5.out (fun b h1 _ h => by omega)
                · rw [List.getElem_set_ne (fun e => hjk2 e.symm)]
                  exact (HOK.out j hj (by omega)).only HOW.out (fun b h1 _ h => by omega)
              case measure => simp [intOf]; omega
            · have b9 : decide (0 < k) = true := by simp; omega
              have b9' : decide ((0 : Int) < (k : Int)) = true := by simp; omega
              have qkl : (k : Int) < (lim : Int) := by omega
              obtain ⟨k1, hk1⟩ : ∃ k1, k = k1 + 1 := ⟨k - 1, by omega⟩
              have HK0 := Lib.hid hk1
              have qk1 : (k : Int) - 1 = (k1 : Int) := by omega
              have qk1l : (k1 : Int) < (lim : Int) := by omega
              have qk1w : IntKind.i64.wrap (k1 : Int) = (k1 : Int) := IntWalk.i64_in _ (by omega)
              have hat := HOK.out k1 (by omega) (by omega)
              obtain ⟨p0, p1, _, _⟩ := HRW.out.atRw (show k1 < L.length by omega)
              generalize L[k1]'(by omega) = X at *
              obtain ⟨⟨xa, xn, xc⟩, ⟨ya, yn, yc⟩⟩ := X
              obtain ⟨e1, e2, e3, e4, _, _⟩ := hat
              simp only at e1 e2 e3 p0 p1
              have hwl : (wts (rowS sy k1)).length = xn := by rw [wts_len, e1]
              have hrle := HRL.out k1
              have hpw : 1099511627776 * 2 ^ (k1 + 1) ≤ 288230376151711744 := by
                have : 2 ^ (k1 + 1) ≤ 2 ^ 18 := Nat.pow_le_pow_right (by decide) (by omega)
                omega
              have HNX0 := Lib.hid (HNX.out wr HON.out xa ya xc yn yc (wts (rowS sy k1)) e3 (fun x hx => Nat.le_trans (HSW.out k1 x hx) hpw) (by rw [wts_len]; omega))
              rw [hwl] at HNX0
              have HRE := Lib.hid (show rowS sy k = nextR sy (wts (rowS sy k1)) from by rw [hk1]; rfl)
              rw [Nat.mul_comm 2 k1] at p0 p1
              clear hk1 hk0 e1 e2 e3 e4 hwl hrle hpw
              obtain ⟨lst, hlst⟩ : ∃ lst, wts (rowS sy k1) = lst := ⟨_, rfl⟩
              rw [hlst] at HNX0 HRE
              clear hlst
              have hgw : w3.heap.size < wr.heap.size := Nat.lt_of_lt_of_le hsz4 HON.out.size
              go_wp2_with fail
              refine HNX0.out.mono ?_
              rintro e w5 ⟨na, nc, na2, nc2, rfl, ho1, ho2, hb5⟩
              have HN1 := Lib.hid ho1
              have HN2 := Lib.hid ho2
              have HB5 := Lib.hid hb5
              have HRW5 := Lib.hid (HRW.out.below hb5)
              obtain ⟨c0, c1, f0, f1⟩ := HRW5.out.atRw (show k < L.length by omega)
              have HST := Lib.hid (HRW5.out.storedRw k ((na, (nextR sy lst).length, nc), (na2, (nextR sy lst).length, nc2)) (show k < L.length by omega))
              have HOW := Lib.hid (show Only (fun b => b = w3.heap.size) wr ((w5.setCell ⟨w3.heap.size, 2 * k, none⟩ (.slice na (nextR sy lst).length nc)).setCell ⟨w3.heap.size, 2 * k + 1, none⟩ (.slice na2 (nextR sy lst).length nc2)) from
                (Only.ofBelow HB5.out).trans (Only.trans ⟨HST.out.2.1.os, HST.out.2.1.tape, HST.out.2.1.output, HST.out.2.1.size, fun b hb hne => HST.out.2.1.block b hb (fun e => by cases e; exact hne rfl)⟩ ⟨HST.out.2.2.os, HST.out.2.2.tape, HST.out.2.2.output, HST.out.2.2.size, fun b hb hne => HST.out.2.2.block b hb (fun e => by cases e; exact hne rfl)⟩))
              have HOW5 := Lib.hid (show Only (fun b => b = w3.heap.size) w5 ((w5.setCell ⟨w3.heap.size, 2 * k, none⟩ (.slice na (nextR sy lst).length nc)).setCell ⟨w3.heap.size, 2 * k + 1, none⟩ (.slice na2 (nextR sy lst).length nc2)) from
                Only.trans ⟨HST.out.2.1.os, HST.out.2.1.tape, HST.out.2.1.output, HST.out.2.1.size, fun b hb hne => HST.out.2.1.block b hb (fun e => by cases e; exact hne rfl)⟩ ⟨HST.out.2.2.os, HST.out.2.2.tape, HST.out.2.2.output, HST.out.2.2.size, fun b hb hne => HST.out.2.2.block b hb (fun e => by cases e; exact hne rfl)⟩)
              have HNEW := Lib.hid (show RwAt w5 (w3.heap.size + 1) ((na, (nextR sy lst).length, nc), (na2, (nextR sy lst).length, nc2)) (rowS sy k) from by
                rw [HRE.out]
                refine ⟨rfl, rfl, HN1.out.row, HN2.out.row, fun b hb => ?_, fun b hb => ?_⟩
                · rcases HN1.out.form with ⟨h, _⟩ | ⟨g', h, h2, h3⟩
                  · rw [show na = some b from hb] at h; cases h
                  · rw [show na = some b from hb] at h; cases h; exact ⟨by show _ ≤ g'; omega, h3⟩
                · rcases HN2.out.form with ⟨h, _⟩ | ⟨g', h, h2, h3⟩
                  · rw [show na2 = some b from hb] at h; cases h
                  · rw [show na2 = some b from hb] at h; cases h; exact ⟨by show _ ≤ g'; omega, h3⟩)
              rw [Nat.mul_comm 2 k] at c0 c1 f0 f1 HST HOW HOW5
              clear ho1 ho2 hb5
              go_wp2_with fail
              go_roundw
              case rel =>
                refine ⟨k + 1, L.set k ((na, (nextR sy lst).length, nc), (na2, (nextR sy lst).length, nc2)), by go_num, by omega, HST.out.1, by rw [List.length_set]; exact hLl, fun j hj hjk => ?_, HON.out.trans HOW.out⟩
                rw [List.length_set] at hj
                by_cases hjk2 : j = k
                · subst hjk2
                  rw [List.getElem_set_self]
                  exact HNEW.out.only HOW5.out (fun b h1 _ h => by omega)
                · rw [List.getElem_set_ne (fun e => hjk2 e.symm)]
                  exact (HOK.out j hj (by omega)).only HOW.out (fun b h1 _ h => by omega)
              case measure => simp [intOf]; omega
          · have b8 : decide (k < lim) = false := by simp; omega
            obtain rfl : lim = k := by omega
            have HB5 := Lib.hid (show Below w22.heap.size w22 wr from Below.only (HB3.out.trans (Below.of_grown HG4.out (HB3.out.size) (fun g hg => by cases hg))) HON.out (Nat.le_refl _) (fun b hb => by omega))
            have HU5 := Lib.hid (HUL.out.below HB5.out)
            obtain ⟨bo, oo, hoe, hbo, _⟩ := HRO.out.at (show 0 < (rar f).length by omega)
            subst hoe
            have hcapo := HRO.out.1
            have hw12 : w1.heap.size < w22.heap.size := by
              rcases HUL.out.form with ⟨h, _⟩ | ⟨g', h, _, h5⟩
              · cases h
              · simp only [Option.some.injEq, Addr.mk.injEq, and_true] at h; omega
            have hgw3 : w3.heap.size < wr.heap.size := Nat.lt_of_lt_of_le hsz4 HON.out.size
            have HRO5 := Lib.hid (fun A' (h : Only (fun b => b = w1.heap.size) wr A') => ((HRO2.out wr HB5.out).same h.size (fun x h0 hx => by
              simp only [Option.some.injEq] at hx
              subst hx
              exact h.block bo (by have := HB5.out.size; omega) (by show ¬ bo = _; omega)) : RowN .i64 A' (some ⟨bo, oo, none⟩) oc (rar f)))
            go_wp2_with fail
            generalize hw5 : wr = w5 at *
            clear hw5
            go_loopw [15, 16, 17, 104] (fun t _ _ i A' => ∃ k tk, i = .int .i64 (k : Nat) ∧ k ≤ lim ∧ t = .int .i64 (tk : Nat) ∧ tk = tkn sy lim k ∧ OwnN 5 .u8 A' w1.heap.size (some ⟨w1.heap.size, 0, none⟩) f.length (lenInL f lim k 0) ∧ Only (fun b => b = w1.heap.size) w5 A') (fun _ _ _ i _ => lim - (intOf i).toNat)
            case atStart => exact ⟨0, tkn sy lim 0, rfl, Nat.zero_le _, congrArg (Value.int IntKind.i64) (by show _ = ((2 * sy.length - 2 : Nat) : Int); omega), rfl, by rw [lenInL_zero]; exact HU5.out, .refl _ _⟩
            case round =>
              obtain ⟨k, tk, rfl, hk, rfl, htk, ho, hon5⟩ := hrel
              have HO5 := Lib.hid ho
              have HN5 := Lib.hid hon5
              clear ho hon5
              by_cases hkl2 : k < lim
              · have b10 : decide (k < lim) = true := by simp; omega
                obtain ⟨l1, hl1⟩ : ∃ l1, lim - 1 = l1 := ⟨_, rfl⟩
                obtain ⟨j, hj⟩ : ∃ j, l1 - k = j := ⟨_, rfl⟩
                have ql1 : (lim : Int) - 1 = (l1 : Int) := by omega
                have qj : (l1 : Int) - (k : Int) = (j : Int) := by omega
                have qjl : (j : Int) < (lim : Int) := by omega
                have hjL : j < L.length := by omega
                have hat := (HOK.out j hjL (by omega)).only HN5.out (fun b h1 _ h => by omega)
                obtain ⟨_, p1, _, _⟩ := HRW.out.atRw hjL
                have p1' := (World.cell?_of_block (a := ⟨w3.heap.size, 2 * j + 1, none⟩) (HN5.out.block w3.heap.size (by omega) (by show ¬ w3.heap.size = _; omega))).trans p1
                generalize L[j]'hjL = X at *
                obtain ⟨⟨xa, xn, xc⟩, ⟨ya, yn, yc⟩⟩ := X
                obtain ⟨_, e2, _, e4, _, _⟩ := hat
                simp only at e2 e4 p1'
                rw [e2] at p1'
                have hfit := HTF.out k hkl2
                have hcn := HCN.out k hkl2
                have hnx := lenInL_next f lim k
                rw [HSE.out] at hnx
                have hjj : lim - 1 - k = j := by omega
                have hcd : symN (rowS sy j) tk = cnt sy lim k := by rw [htk, ← hjj]; rfl
                rw [hjj, ← htk] at hfit
                have htd : tkn sy lim (k + 1) = 2 * (tk - cnt sy lim k) := by rw [htk]; rfl
                have hle := cnt_le sy lim k
                rw [← htk] at hle
                have hrle := HRL.out j
                rw [Nat.mul_comm 2 j] at p1'
                have HFI := Lib.hid (row_first wr w3.heap.size (j * 2) ya yc (rowS sy j) tk p1' e4 hfit (by omega))
                rw [hcd] at HFI
                clear hcd e2 e4 p1' p1
                generalize cnt sy lim k = n at *
                generalize htk2 : tkn sy lim (k + 1) = d2 at *
                obtain ⟨d, hd⟩ : ∃ d, tk - n = d := ⟨_, rfl⟩
                rw [hd] at htd
                have qd : (tk : Int) - (n : Int) = (d : Int) := by omega
                have qd2 : 2 * (d : Int) = (d2 : Int) := by omega
                have hcut := cutInts bo oo n (rar f).length oc (by omega)
                have HNX5 := Lib.hid hnx
                have HTK2 := Lib.hid htk2
                have hd2 : d2 ≤ 3000 := by omega
                have hn20 : n ≤ 600 := by omega
                clear hnx htk2 htk hd htd hj hl1 hjj
                go_wp2_with (go_at_call 88; refine HFI.out.mono ?_; rintro e w' ⟨rfl, rfl⟩)
                go_loopw [19, 119] (fun _ i A' => ∃ t, i = .int .i64 (t : Nat) ∧ t ≤ n ∧ OwnN 5 .u8 A' w1.heap.size (some ⟨w1.heap.size, 0, none⟩) f.length (lenInL f lim k t) ∧ Only (fun b => b = w1.heap.size) w5 A') (fun _ i _ => n - (intOf i).toNat)
                case atStart => exact ⟨0, rfl, Nat.zero_le _, HO5.out, HN5.out⟩
                case round =>
                  obtain ⟨t, rfl, ht, ho, hon5⟩ := hrel
                  have HO6 := Lib.hid ho
                  have HN6 := Lib.hid hon5
                  clear ho hon5 HO5 HN5
                  by_cases htn : t < n
                  · have b11 : decide (t < n) = true := by simp; omega
                    have htr : t < (rar f).length := by omega
                    obtain ⟨bo2, oo2, hoe2, _, hoc⟩ := (HRO5.out wr HN6.out).at htr
                    simp only [Option.some.injEq, Addr.mk.injEq, and_true] at hoe2
                    obtain ⟨rfl, rfl⟩ := hoe2
                    have hs1 : (rar f)[t] < f.length := ((mem_rar f _).1 (List.getElem_mem htr)).1
                    have hst := lenInL_step f lim k t htr
                    have hll := lenInL_len f lim k t
                    have hsL : (rar f)[t] < (lenInL f lim k t).length := by rw [hll]; exact hs1
                    have hv0 : (lenInL f lim k t).getD (rar f)[t] 0 = (lenInL f lim k t)[(rar f)[t]]'hsL := by rw [List.getD_eq_getElem?_getD, List.getElem?_eq_getElem hsL]; rfl
                    have hv1 := lenInL_le f lim k t _ (List.getElem_mem hsL)
                    obtain ⟨g9, hg9, _, _, hoc2, hof2⟩ := HO6.out.at hsL
                    simp only [Option.some.injEq, Addr.mk.injEq, and_true] at hg9
                    subst hg9
                    rw [hv0] at hst
                    generalize (lenInL f lim k t)[(rar f)[t]]'hsL = v at *
                    generalize (rar f)[t] = s at *
                    obtain ⟨v1, hv1e⟩ : ∃ v1, v + 1 = v1 := ⟨_, rfl⟩
                    have qv : (v : Int) + 1 = (v1 : Int) := by omega
                    have qvw : IntKind.u8.wrap (v1 : Int) = (v1 : Int) := IntWalk.u8_in _ (by omega)
                    rw [hv1e] at hst
                    have HST := Lib.hid (HO6.out.stored s v1)
                    rw [← hst] at HST
                    have qt : (t : Int) < (n : Int) := by omega
                    have qs : (s : Int) < (f.length : Int) := by omega
                    clear hst hv0 hv1e
                    go_wp2_with fail
                    go_roundw
                    case rel => exact ⟨t + 1, by go_num, by omega, HST.out.1, HN6.out.trans ⟨HST.out.2.os, HST.out.2.tape, HST.out.2.output, HST.out.2.size, fun b hb hne => HST.out.2.block b hb (fun e => by cases e; exact hne rfl)⟩⟩
                    case measure => simp [intOf]; omega
                  · have b11 : decide (t < n) = false := by simp; omega
                    obtain rfl : n = t := by omega
                    go_wp2_with fail
                    go_roundw
                    case rel => exact ⟨k + 1, d2, by go_num, by omega, rfl, HTK2.out.symm, by rw [← HNX5.out]; exact HO6.out, HN6.out⟩
                    case measure => simp [intOf]; omega
              · have b10 : decide (k < lim) = false := by simp; omega
                obtain rfl : lim = k := by omega
                have HAL := Lib.hid (lenInL_all f lim)
                go_wp2
                go_ret2
                exact ⟨_, _, rfl, by rw [← HAL.out]; exact HO5.out.mono HB.out.size, Below.only (HB2.out.trans (HB5.out.mono HB2.out.size)) HN5.out (Nat.le_refl _) (fun b hb => by have := HB.out.size; omega)⟩
    -- one ends
  · have b5 : (((rar f).length : Int) == 1) = false := beq_eq_false_iff_ne.2 (by omega)
    have b6 : decide ((rar f).length < 2) = false := by simp; omega
    have b6' : decide (((rar f).length : Int) < 2) = false := by simp; omega
    go_enter Try.func53, Try.ntmps53
    go_wp2_with (first | (go_at_call 85; refine HCF.out.mono ?_; rintro e w' ⟨rfl, rfl⟩) | (go_at_call 86; refine (HRA.out _ (.refl _ _)).mono ?_; rintro e w1 ⟨oa, oc, rfl, ho, hb⟩; have HO := Lib.hid ho; have HB := Lib.hid hb; clear ho hb) | (at_make; refine makeN (n := f.length) et_u8 rfl _ _ rfl w1.heap.size rfl rfl (by omega) (by omega) (Nat.le_refl _) ?_; intro w2 hown2 hg2; have HU := Lib.hid hown2; have HG2 := Lib.hid hg2; clear hown2 hg2))
    have HUL := Lib.hid (show OwnN 5 .u8 w2 w1.heap.size (some ⟨w1.heap.size, 0, none⟩) f.length (len0 f) from by unfold len0; rw [if_neg (by omega)]; exact HU.out)
    clear qP
    have HRO := Lib.hid (HO.out.row)
    have HRO2 := Lib.hid (fun A' (h : Below w2.heap.size w2 A') => (HO.out.row.same (Nat.le_trans HG2.out.size h.size) (fun x h0 hx => (h.block _ (by have := HG2.out.size; obtain ⟨b', off, he, hlt, _⟩ := HRO.out.at h0; rw [hx] at he; cases he; exact Nat.lt_of_lt_of_le hlt this)).trans (HG2.out.block _ (by obtain ⟨b', off, he, hlt, _⟩ := HRO.out.at h0; rw [hx] at he; cases he; exact hlt) (fun e => by cases e))) : RowN .i64 A' oa oc (rar f)))
    have HB2 := Lib.hid (HB.out.trans (Below.of_grown HG2.out HB.out.size (fun g hg => by cases hg)))
    have HF2 := Lib.hid (fun A' (h : Below w2.heap.size w2 A') => (HR.out.below (HB2.out.trans (h.mono HB2.out.size)) : RowN .i64 A' a cap f))
    -- two begins
    go_loopw [10, 12, 62] (fun o _ i A' => ∃ k a' c', i = .int .i64 (k : Nat) ∧ k ≤ (rar f).length ∧ o = .slice a' ((symW f).take k).length c' ∧ OwnN 3 .i64 A' w2.heap.size a' c' ((symW f).take k) ∧ Below w2.heap.size w2 A') (fun _ _ i _ => (rar f).length - (intOf i).toNat)
    case atStart => exact ⟨0, none, 0, rfl, Nat.zero_le _, rfl, OwnN.nil _ _ _ _, .refl _ _⟩
    case round =>
      obtain ⟨k, a', c', rfl, hk, rfl, ho, hb⟩ := hrel
      have HO3 := Lib.hid ho
      have HB3 := Lib.hid hb
      have hszr := hb.size
      have hsl := symW_len f
      have htl : ((symW f).take k).length = k := by rw [List.length_take]; omega
      clear ho hb
      by_cases hkn : k < (rar f).length
      · have b7 : decide (k < (rar f).length) = true := by simp; omega
        obtain ⟨bo, oo, hoe, hob, hoc⟩ := (HRO2.out wr HB3.out).at hkn
        have hs1 : (rar f)[k] < f.length := ((mem_rar f _).1 (List.getElem_mem hkn)).1
        obtain ⟨bf, of, hfe, hfb, hfc⟩ := (HF2.out wr HB3.out).at hs1
        have HW := Lib.hid (take_snoc (symW f) k (by omega))
        have hwk : (symW f)[k] = f[(rar f)[k]] := by
          unfold symW
          rw [List.getElem_map, List.getD_eq_getElem?_getD, List.getElem?_eq_getElem hs1]; rfl
        rw [hwk] at HW
        subst hoe
        subst hfe
        have qk : (k : Int) < ((rar f).length : Int) := by omega
        clear hwk
        generalize f[(rar f)[k]] = v at *
        generalize (rar f)[k] = s at *
        have qs : (s : Int) < (f.length : Int) := by omega
        have htl2 : ((symW f).take k).length ≤ 600 := by omega
        clear htl hsl
        generalize (symW f).take k = tk at *
        go_wp2_with (at_builtin; refine app1AtN et_int rfl (.tmp 66) (.tmp 71) rfl (base := w2.heap.size) (y := v) rfl HO3.out rfl (Nat.le_refl _) (by decide) (by omega) (by omega) hszr ?_; intro a7 c7 w7 hown7 hg7 hat7; have HO7 := Lib.hid hown7; have HB7 := Lib.hid (HB3.out.trans (Below.of_grown hg7 hszr (fun g hg => by rcases HO3.out.form with ⟨rfl, _⟩ | ⟨g', rfl, hb, _⟩ <;> simp [Value.ownBlock] at hg; omega))); clear hown7 hg7 hat7)
        go_roundw
        case rel => exact ⟨k + 1, a7, c7, by go_num, by omega, by rw [HW.out, List.length_append]; rfl, by rw [HW.out]; exact HO7.out, HB7.out⟩
        case measure => simp [intOf]; omega
      · have b7 : decide (k < (rar f).length) = false := by simp; omega
        obtain rfl : k = (rar f).length := by omega
        rw [List.take_of_length_le (by omega)] at *
        have hsy := symW_le f _ HX.out
        have HSW := Lib.hid (rowS_weight (symW f) 1099511627776 hsy)
        have HSY := Lib.hid hsy
        have HRL := Lib.hid (rowS_le (symW f) (by omega))
        have hn20 : (symW f).length ≤ 600 := by omega
        clear hsy htl
        generalize hsy0 : symW f = sy at *
        have HSE := Lib.hid hsy0
        clear hsy0
        have HTF := Lib.hid (tkn_fits1 sy lim (by omega) (by rw [hsl]; have := HM.out; have := HP.out; omega) h1)
        have HCN := Lib.hid (cnt_le1 sy lim (by omega) (by rw [hsl]; have := HM.out; have := HP.out; omega) h1)
        go_wp2_with (at_make; refine makeRw (n := lim) rw_elems rfl _ _ rfl wr.heap.size rfl rfl (by omega) (by omega) (Nat.le_refl _) ?_; intro w4 hown4 hg4; have HR4 := Lib.hid hown4; have HG4 := Lib.hid hg4; clear hown4 hg4)
        generalize hw3 : wr = w3 at *
        clear hw3
        have HWT := Lib.hid (fun A' (h : Only (fun b => b = w3.heap.size) w4 A') => (HO3.out.row.same (Nat.le_trans HG4.out.size h.size) (fun x h0 hx => by
          obtain ⟨b', off, he, hlt, _⟩ := HO3.out.row.at h0
          rw [hx] at he; cases he
          exact (h.block _ (Nat.lt_of_lt_of_le hlt HG4.out.size) (by show ¬ b' = _; omega)).trans (HG4.out.block _ hlt (fun e => by cases e))) : RowN .i64 A' a' c' sy))
        have HNX := Lib.hid (fun A' (h : Only (fun b => b = w3.heap.size) w4 A') la la2 lc lm lc2 last h2 hl hll => limit_next A' a' la la2 c' lc lm lc2 sy last (HWT.out A' h) h2 (fun x hx => by have := HSY.out x hx; omega) hl (by omega) hll)
        rw [hsl] at HNX
        have hsz4 : w3.heap.size < w4.heap.size := by
          rcases HR4.out.form with ⟨h, _⟩ | ⟨g', h, _, h5⟩
          · cases h
          · simp only [Option.some.injEq, Addr.mk.injEq, and_true] at h; omega
        go_loopw [14, 77] (fun _ i A' => ∃ k L, i = .int .i64 (k : Nat) ∧ k ≤ lim ∧ OwnS encRw 146 A' w3.heap.size (some ⟨w3.heap.size, 0, none⟩) lim L ∧ L.length = lim ∧ (∀ j (h : j < L.length), j < k → RwAt A' (w3.heap.size + 1) L[j] (rowS sy j)) ∧ Only (fun b => b = w3.heap.size) w4 A') (fun _ i _ => lim - (intOf i).toNat)
        case atStart => exact ⟨0, List.replicate lim row0, rfl, Nat.zero_le _, HR4.out, by simp, fun j _ h => absurd h (by omega), .refl _ _⟩
        case round =>
          obtain ⟨k, L, rfl, hk, hro, hLl, hok, hon⟩ := hrel
          have HRW := Lib.hid hro
          have HOK := Lib.hid hok
          have HON := Lib.hid hon
          clear hro hok hon
          by_cases hkl : k < lim
          · have b8 : decide (k < lim) = true := by simp; omega
            by_cases hk0 : k = 0
            · have b9 : decide (0 < k) = false := by simp; omega
              have b9' : decide ((0 : Int) < (k : Int)) = false := by simp; omega
              have qkl : (k : Int) < (lim : Int) := by omega
              have HK0 := Lib.hid hk0
              clear hk0
              have HNX0 := Lib.hid (HNX.out wr HON.out none none 0 0 0 [] ⟨by simp, by simp, .inl rfl⟩ (by simp) (by simp))
              have hgw : w3.heap.size < wr.heap.size := Nat.lt_of_lt_of_le hsz4 HON.out.size
              go_wp2_with fail
              refine HNX0.out.mono ?_
              rintro e w5 ⟨na, nc, na2, nc2, rfl, ho1, ho2, hb5⟩
              have HN1 := Lib.hid ho1
              have HN2 := Lib.hid ho2
              have HB5 := Lib.hid hb5
              have HRW5 := Lib.hid (HRW.out.below hb5)
              obtain ⟨c0, c1, f0, f1⟩ := HRW5.out.atRw (show k < L.length by omega)
              have HST := Lib.hid (HRW5.out.storedRw k ((na, (nextR sy []).length, nc), (na2, (nextR sy []).length, nc2)) (show k < L.length by omega))
              have HOW := Lib.hid (show Only (fun b => b = w3.heap.size) wr ((w5.setCell ⟨w3.heap.size, 2 * k, none⟩ (.slice na (nextR sy []).length nc)).setCell ⟨w3.heap.size, 2 * k + 1, none⟩ (.slice na2 (nextR sy []).length nc2)) from
                (Only.ofBelow HB5.out).trans (Only.trans ⟨HST.out.2.1.os, HST.out.2.1.tape, HST.out.2.1.output, HST.out.2.1.size, fun b hb hne => HST.out.2.1.block b hb (fun e => by cases e; exact hne rfl)⟩ ⟨HST.out.2.2.os, HST.out.2.2.tape, HST.out.2.2.output, HST.out.2.2.size, fun b hb hne => HST.out.2.2.block b hb (fun e => by cases e; exact hne rfl)⟩))
              have HOW5 := Lib.hid (show Only (fun b => b = w3.heap.size) w5 ((w5.setCell ⟨w3.heap.size, 2 * k, none⟩ (.slice na (nextR sy []).length nc)).setCell ⟨w3.heap.size, 2 * k + 1, none⟩ (.slice na2 (nextR sy []).length nc2)) from
                Only.trans ⟨HST.out.2.1.os, HST.out.2.1.tape, HST.out.2.1.output, HST.out.2.1.size, fun b hb hne => HST.out.2.1.block b hb (fun e => by cases e; exact hne rfl)⟩ ⟨HST.out.2.2.os, HST.out.2.2.tape, HST.out.2.2.output, HST.out.2.2.size, fun b hb hne => HST.out.2.2.block b hb (fun e => by cases e; exact hne rfl)⟩)
              have HNEW := Lib.hid (show RwAt w5 (w3.heap.size + 1) ((na, (nextR sy []).length, nc), (na2, (nextR sy []).length, nc2)) (rowS sy k) from by
                rw [HK0.out]
                refine ⟨rfl, rfl, HN1.out.row, HN2.out.row, fun b hb => ?_, fun b hb => ?_⟩
                · rcases HN1.out.form with ⟨h, _⟩ | ⟨g', h, h2, h3⟩
                  · rw [show na = some b from hb] at h; cases h
                  · rw [show na = some b from hb] at h; cases h; exact ⟨by show _ ≤ g'; omega, h3⟩
                · rcases HN2.out.form with ⟨h, _⟩ | ⟨g', h, h2, h3⟩
                  · rw [show na2 = some b from hb] at h; cases h
                  · rw [show na2 = some b from hb] at h; cases h; exact ⟨by show _ ≤ g'; omega, h3⟩)
              rw [Nat.mul_comm 2 k] at c0 c1 f0 f1 HST HOW HOW5
              clear ho1 ho2 hb5
              go_wp2_with fail
              go_roundw
              case rel =>
                refine ⟨k + 1, L.set k ((na, (nextR sy []).length, nc), (na2, (nextR sy []).length, nc2)), by go_num, by omega, HST.out.1, by rw [List.length_set]; exact hLl, fun j hj hjk => ?_, HON.out.trans HOW.out⟩
                rw [List.length_set] at hj
                by_cases hjk2 : j = k
                · subst hjk2
                  rw [List.getElem_set_self]
                  exact HNEW.out.only HOW5.out (fun b h1 _ h => by omega)
                · rw [List.getElem_set_ne (fun e => hjk2 e.symm)]
                  exact (HOK.out j hj (by omega)).only HOW.out (fun b h1 _ h => by omega)
              case measure => simp [intOf]; omega
            · have b9 : decide (0 < k) = true := by simp; omega
              have b9' : decide ((0 : Int) < (k : Int)) = true := by simp; omega
              have qkl : (k : Int) < (lim : Int) := by omega
              obtain ⟨k1, hk1⟩ : ∃ k1, k = k1 + 1 := ⟨k - 1, by omega⟩
              have HK0 := Lib.hid hk1
              have qk1 : (k : Int) - 1 = (k1 : Int) := by omega
              have qk1l : (k1 : Int) < (lim : Int) := by omega
              have qk1w : IntKind.i64.wrap (k1 : Int) = (k1 : Int) := IntWalk.i64_in _ (by omega)
              have hat := HOK.out k1 (by omega) (by omega)
              obtain ⟨p0, p1, _, _⟩ := HRW.out.atRw (show k1 < L.length by omega)
              generalize L[k1]'(by omega) = X at *
              obtain ⟨⟨xa, xn, xc⟩, ⟨ya, yn, yc⟩⟩ := X
              obtain ⟨e1, e2, e3, e4, _, _⟩ := hat
              simp only at e1 e2 e3 p0 p1
              have hwl : (wts (rowS sy k1)).length = xn := by rw [wts_len, e1]
              have hrle := HRL.out k1
              have hpw : 1099511627776 * 2 ^ (k1 + 1) ≤ 288230376151711744 := by
                have : 2 ^ (k1 + 1) ≤ 2 ^ 18 := Nat.pow_le_pow_right (by decide) (by omega)
                omega
              have HNX0 := Lib.hid (HNX.out wr HON.out xa ya xc yn yc (wts (rowS sy k1)) e3 (fun x hx => Nat.le_trans (HSW.out k1 x hx) hpw) (by rw [wts_len]; omega))
              rw [hwl] at HNX0
              have HRE := Lib.hid (show rowS sy k = nextR sy (wts (rowS sy k1)) from by rw [hk1]; rfl)
              rw [Nat.mul_comm 2 k1] at p0 p1
              clear hk1 hk0 e1 e2 e3 e4 hwl hrle hpw
              obtain ⟨lst, hlst⟩ : ∃ lst, wts (rowS sy k1) = lst := ⟨_, rfl⟩
              rw [hlst] at HNX0 HRE
              clear hlst
              have hgw : w3.heap.size < wr.heap.size := Nat.lt_of_lt_of_le hsz4 HON.out.size
              go_wp2_with fail
              refine HNX0.out.mono ?_
              rintro e w5 ⟨na, nc, na2, nc2, rfl, ho1, ho2, hb5⟩
              have HN1 := Lib.hid ho1
              have HN2 := Lib.hid ho2
              have HB5 := Lib.hid hb5
              have HRW5 := Lib.hid (HRW.out.below hb5)
              obtain ⟨c0, c1, f0, f1⟩ := HRW5.out.atRw (show k < L.length by omega)
              have HST := Lib.hid (HRW5.out.storedRw k ((na, (nextR sy lst).length, nc), (na2, (nextR sy lst).length, nc2)) (show k < L.length by omega))
              have HOW := Lib.hid (show Only (fun b => b = w3.heap.size) wr ((w5.setCell ⟨w3.heap.size, 2 * k, none⟩ (.slice na (nextR sy lst).length nc)).setCell ⟨w3.heap.size, 2 * k + 1, none⟩ (.slice na2 (nextR sy lst).length nc2)) from
                (Only.ofBelow HB5.out).trans (Only.trans ⟨HST.out.2.1.os, HST.out.2.1.tape, HST.out.2.1.output, HST.out.2.1.size, fun b hb hne => HST.out.2.1.block b hb (fun e => by cases e; exact hne rfl)⟩ ⟨HST.out.2.2.os, HST.out.2.2.tape, HST.out.2.2.output, HST.out.2.2.size, fun b hb hne => HST.out.2.2.block b hb (fun e => by cases e; exact hne rfl)⟩))
              have HOW5 := Lib.hid (show Only (fun b => b = w3.heap.size) w5 ((w5.setCell ⟨w3.heap.size, 2 * k, none⟩ (.slice na (nextR sy lst).length nc)).setCell ⟨w3.heap.size, 2 * k + 1, none⟩ (.slice na2 (nextR sy lst).length nc2)) from
                Only.trans ⟨HST.out.2.1.os, HST.out.2.1.tape, HST.out.2.1.output, HST.out.2.1.size, fun b hb hne => HST.out.2.1.block b hb (fun e => by cases e; exact hne rfl)⟩ ⟨HST.out.2.2.os, HST.out.2.2.tape, HST.out.2.2.output, HST.out.2.2.size, fun b hb hne => HST.out.2.2.block b hb (fun e => by cases e; exact hne rfl)⟩)
              have HNEW := Lib.hid (show RwAt w5 (w3.heap.size + 1) ((na, (nextR sy lst).length, nc), (na2, (nextR sy lst).length, nc2)) (rowS sy k) from by
                rw [HRE.out]
                refine ⟨rfl, rfl, HN1.out.row, HN2.out.row, fun b hb => ?_, fun b hb => ?_⟩
                · rcases HN1.out.form with ⟨h, _⟩ | ⟨g', h, h2, h3⟩
                  · rw [show na = some b from hb] at h; cases h
                  · rw [show na = some b from hb] at h; cases h; exact ⟨by show _ ≤ g'; omega, h3⟩
                · rcases HN2.out.form with ⟨h, _⟩ | ⟨g', h, h2, h3⟩
                  · rw [show na2 = some b from hb] at h; cases h
                  · rw [show na2 = some b from hb] at h; cases h; exact ⟨by show _ ≤ g'; omega, h3⟩)
              rw [Nat.mul_comm 2 k] at c0 c1 f0 f1 HST HOW HOW5
              clear ho1 ho2 hb5
              go_wp2_with fail
              go_roundw
              case rel =>
                refine ⟨k + 1, L.set k ((na, (nextR sy lst).length, nc), (na2, (nextR sy lst).length, nc2)), by go_num, by omega, HST.out.1, by rw [List.length_set]; exact hLl, fun j hj hjk => ?_, HON.out.trans HOW.out⟩
                rw [List.length_set] at hj
                by_cases hjk2 : j = k
                · subst hjk2
                  rw [List.getElem_set_self]
                  exact HNEW.out.only HOW5.out (fun b h1 _ h => by omega)
                · rw [List.getElem_set_ne (fun e => hjk2 e.symm)]
                  exact (HOK.out j hj (by omega)).only HOW.out (fun b h1 _ h => by omega)
              case measure => simp [intOf]; omega
          · have b8 : decide (k < lim) = false := by simp; omega
            obtain rfl : lim = k := by omega
            have HB5 := Lib.hid (show Below w2.heap.size w2 wr from Below.only (HB3.out.trans (Below.of_grown HG4.out (HB3.out.size) (fun g hg => by cases hg))) HON.out (Nat.le_refl _) (fun b hb => by omega))
            have HU5 := Lib.hid (HUL.out.below HB5.out)
            obtain ⟨bo, oo, hoe, hbo, _⟩ := HRO.out.at (show 0 < (rar f).length by omega)
            subst hoe
            have hcapo := HRO.out.1
            have hw12 : w1.heap.size < w2.heap.size := by
              rcases HUL.out.form with ⟨h, _⟩ | ⟨g', h, _, h5⟩
              · cases h
              · simp only [Option.some.injEq, Addr.mk.injEq, and_true] at h; omega
            have hgw3 : w3.heap.size < wr.heap.size := Nat.lt_of_lt_of_le hsz4 HON.out.size
            have HRO5 := Lib.hid (fun A' (h : Only (fun b => b = w1.heap.size) wr A') => ((HRO2.out wr HB5.out).same h.size (fun x h0 hx => by
              simp only [Option.some.injEq] at hx
              subst hx
              exact h.block bo (by have := HB5.out.size; omega) (by show ¬ bo = _; omega)) : RowN .i64 A' (some ⟨bo, oo, none⟩) oc (rar f)))
            go_wp2_with fail
            generalize hw5 : wr = w5 at *
            clear hw5
            go_loopw [15, 16, 17, 104] (fun t _ _ i A' => ∃ k tk, i = .int .i64 (k : Nat) ∧ k ≤ lim ∧ t = .int .i64 (tk : Nat) ∧ tk = tkn sy lim k ∧ OwnN 5 .u8 A' w1.heap.size (some ⟨w1.heap.size, 0, none⟩) f.length (lenInL f lim k 0) ∧ Only (fun b => b = w1.heap.size) w5 A') (fun _ _ _ i _ => lim - (intOf i).toNat)
            case atStart => exact ⟨0, tkn sy lim 0, rfl, Nat.zero_le _, congrArg (Value.int IntKind.i64) (by show _ = ((2 * sy.length - 2 : Nat) : Int); omega), rfl, by rw [lenInL_zero]; exact HU5.out, .refl _ _⟩
            case round =>
              obtain ⟨k, tk, rfl, hk, rfl, htk, ho, hon5⟩ := hrel
              have HO5 := Lib.hid ho
              have HN5 := Lib.hid hon5
              clear ho hon5
              by_cases hkl2 : k < lim
              · have b10 : decide (k < lim) = true := by simp; omega
                obtain ⟨l1, hl1⟩ : ∃ l1, lim - 1 = l1 := ⟨_, rfl⟩
                obtain ⟨j, hj⟩ : ∃ j, l1 - k = j := ⟨_, rfl⟩
                have ql1 : (lim : Int) - 1 = (l1 : Int) := by omega
                have qj : (l1 : Int) - (k : Int) = (j : Int) := by omega
                have qjl : (j : Int) < (lim : Int) := by omega
                have hjL : j < L.length := by omega
                have hat := (HOK.out j hjL (by omega)).only HN5.out (fun b h1 _ h => by omega)
                obtain ⟨_, p1, _, _⟩ := HRW.out.atRw hjL
                have p1' := (World.cell?_of_block (a := ⟨w3.heap.size, 2 * j + 1, none⟩) (HN5.out.block w3.heap.size (by omega) (by show ¬ w3.heap.size = _; omega))).trans p1
                generalize L[j]'hjL = X at *
                obtain ⟨⟨xa, xn, xc⟩, ⟨ya, yn, yc⟩⟩ := X
                obtain ⟨_, e2, _, e4, _, _⟩ := hat
                simp only at e2 e4 p1'
                rw [e2] at p1'
                have hfit := HTF.out k hkl2
                have hcn := HCN.out k hkl2
                have hnx := lenInL_next f lim k
                rw [HSE.out] at hnx
                have hjj : lim - 1 - k = j := by omega
                have hcd : symN (rowS sy j) tk = cnt sy lim k := by rw [htk, ← hjj]; rfl
                rw [hjj, ← htk] at hfit
                have htd : tkn sy lim (k + 1) = 2 * (tk - cnt sy lim k) := by rw [htk]; rfl
                have hle := cnt_le sy lim k
                rw [← htk] at hle
                have hrle := HRL.out j
                rw [Nat.mul_comm 2 j] at p1'
                have HFI := Lib.hid (row_first wr w3.heap.size (j * 2) ya yc (rowS sy j) tk p1' e4 hfit (by omega))
                rw [hcd] at HFI
                clear hcd e2 e4 p1' p1
                generalize cnt sy lim k = n at *
                generalize htk2 : tkn sy lim (k + 1) = d2 at *
                obtain ⟨d, hd⟩ : ∃ d, tk - n = d := ⟨_, rfl⟩
                rw [hd] at htd
                have qd : (tk : Int) - (n : Int) = (d : Int) := by omega
                have qd2 : 2 * (d : Int) = (d2 : Int) := by omega
                have hcut := cutInts bo oo n (rar f).length oc (by omega)
                have HNX5 := Lib.hid hnx
                have HTK2 := Lib.hid htk2
                have hd2 : d2 ≤ 3000 := by omega
                have hn20 : n ≤ 600 := by omega
                clear hnx htk2 htk hd htd hj hl1 hjj
                go_wp2_with (go_at_call 88; refine HFI.out.mono ?_; rintro e w' ⟨rfl, rfl⟩)
                go_loopw [19, 119] (fun _ i A' => ∃ t, i = .int .i64 (t : Nat) ∧ t ≤ n ∧ OwnN 5 .u8 A' w1.heap.size (some ⟨w1.heap.size, 0, none⟩) f.length (lenInL f lim k t) ∧ Only (fun b => b = w1.heap.size) w5 A') (fun _ i _ => n - (intOf i).toNat)
                case atStart => exact ⟨0, rfl, Nat.zero_le _, HO5.out, HN5.out⟩
                case round =>
                  obtain ⟨t, rfl, ht, ho, hon5⟩ := hrel
                  have HO6 := Lib.hid ho
                  have HN6 := Lib.hid hon5
                  clear ho hon5 HO5 HN5
                  by_cases htn : t < n
                  · have b11 : decide (t < n) = true := by simp; omega
                    have htr : t < (rar f).length := by omega
                    obtain ⟨bo2, oo2, hoe2, _, hoc⟩ := (HRO5.out wr HN6.out).at htr
                    simp only [Option.some.injEq, Addr.mk.injEq, and_true] at hoe2
                    obtain ⟨rfl, rfl⟩ := hoe2
                    have hs1 : (rar f)[t] < f.length := ((mem_rar f _).1 (List.getElem_mem htr)).1
                    have hst := lenInL_step f lim k t htr
                    have hll := lenInL_len f lim k t
                    have hsL : (rar f)[t] < (lenInL f lim k t).length := by rw [hll]; exact hs1
                    have hv0 : (lenInL f lim k t).getD (rar f)[t] 0 = (lenInL f lim k t)[(rar f)[t]]'hsL := by rw [List.getD_eq_getElem?_getD, List.getElem?_eq_getElem hsL]; rfl
                    have hv1 := lenInL_le f lim k t _ (List.getElem_mem hsL)
                    obtain ⟨g9, hg9, _, _, hoc2, hof2⟩ := HO6.out.at hsL
                    simp only [Option.some.injEq, Addr.mk.injEq, and_true] at hg9
                    subst hg9
                    rw [hv0] at hst
                    generalize (lenInL f lim k t)[(rar f)[t]]'hsL = v at *
                    generalize (rar f)[t] = s at *
                    obtain ⟨v1, hv1e⟩ : ∃ v1, v + 1 = v1 := ⟨_, rfl⟩
                    have qv : (v : Int) + 1 = (v1 : Int) := by omega
                    have qvw : IntKind.u8.wrap (v1 : Int) = (v1 : Int) := IntWalk.u8_in _ (by omega)
                    rw [hv1e] at hst
                    have HST := Lib.hid (HO6.out.stored s v1)
                    rw [← hst] at HST
                    have qt : (t : Int) < (n : Int) := by omega
                    have qs : (s : Int) < (f.length : Int) := by omega
                    clear hst hv0 hv1e
                    go_wp2_with fail
                    go_roundw
                    case rel => exact ⟨t + 1, by go_num, by omega, HST.out.1, HN6.out.trans ⟨HST.out.2.os, HST.out.2.tape, HST.out.2.output, HST.out.2.size, fun b hb hne => HST.out.2.block b hb (fun e => by cases e; exact hne rfl)⟩⟩
                    case measure => simp [intOf]; omega
                  · have b11 : decide (t < n) = false := by simp; omega
                    obtain rfl : n = t := by omega
                    go_wp2_with fail
                    go_roundw
                    case rel => exact ⟨k + 1, d2, by go_num, by omega, rfl, HTK2.out.symm, by rw [← HNX5.out]; exact HO6.out, HN6.out⟩
                    case measure => simp [intOf]; omega
              · have b10 : decide (k < lim) = false := by simp; omega
                obtain rfl : lim = k := by omega
                have HAL := Lib.hid (lenInL_all f lim)
                go_wp2
                go_ret2
                exact ⟨_, _, rfl, by rw [← HAL.out]; exact HO5.out.mono HB.out.size, Below.only (HB2.out.trans (HB5.out.mono HB2.out.size)) HN5.out (Nat.le_refl _) (fun b hb => by have := HB.out.size; omega)⟩
    -- two ends
end Go.Proofs.Ytmgoeokdlklabaa

namespace Go.Proofs.Ytmgoeokdlklabaa
open Go.RowKit Go.Shelf M01 M04 M05 M06 M07 M09
attribute [local go_sem] Oper.semAt_some
set_option linter.unusedVariables false
set_option linter.unusedSimpArgs false

/-- the frequencies behind i rounds -/
def frq (fr : List Nat) (n : Nat) : Nat → List Nat
  | 0 => List.replicate n 0
  | i + 1 => (frq fr n i).set (i * 7 % n) ((frq fr n i).getD (i * 7 % n) 0 + fr.getD i 0)
def frqF (fr : List Nat) (n : Nat) : List Nat := if 256 < n then (frq fr n fr.length).set 256 ((frq fr n fr.length).getD 256 0 + 1) else frq fr n fr.length
theorem frq_len (fr : List Nat) (n i : Nat) : (frq fr n i).length = n := by
  induction i with
  | zero => simp [frq]
  | succ i ih => simp [frq, ih]
theorem frqF_len (fr : List Nat) (n : Nat) : (frqF fr n).length = n := by
  unfold frqF
  split
  · rw [List.length_set, frq_len]
  · exact frq_len _ _ _
theorem frq_le (fr : List Nat) (n M : Nat) (hb : ∀ x ∈ fr, x ≤ M) (i : Nat) : ∀ x ∈ frq fr n i, x ≤ i * M := by
  induction i with
  | zero => intro x hx; have := List.eq_of_mem_replicate hx; omega
  | succ i ih =>
    intro x hx
    have h1 := M04.getD_le ih (i * 7 % n)
    have h2 := M04.getD_le hb i
    rw [Nat.succ_mul]
    rcases List.mem_or_eq_of_mem_set hx with h | rfl
    · have := ih x h; omega
    · omega
theorem frqF_le (fr : List Nat) (n M : Nat) (hb : ∀ x ∈ fr, x ≤ M) : ∀ x ∈ frqF fr n, x ≤ fr.length * M + 1 := by
  intro x hx
  have h0 := frq_le fr n M hb fr.length
  unfold frqF at hx
  split at hx
  · have h1 := M04.getD_le h0 256
    rcases List.mem_or_eq_of_mem_set hx with h | rfl
    · have := h0 x h; omega
    · omega
  · have := h0 x hx; omega
theorem frq_small (l M x i : Nat) (hl : l ≤ 286) (hM : M = 65535) (hi : i ≤ l) (h : x ≤ i * M + 1) : x ≤ 1099511627776 := by
  have h1 : i * M ≤ 286 * M := Nat.mul_le_mul_right _ (Nat.le_trans hi hl)
  rw [hM] at h1 h
  have h2 : 286 * 65535 + 1 ≤ 1099511627776 := by decide
  exact Nat.le_trans h (Nat.le_trans (Nat.add_le_add_right h1 1) h2)
theorem pow15 (n : Nat) (h : n ≤ 300) : n ≤ 2 ^ 15 := Nat.le_trans h (by decide)
theorem frqF_256 (fr : List Nat) (n : Nat) (hn : 256 < n) : 0 < (frqF fr n).getD 256 0 := by
  unfold frqF
  rw [if_pos hn, List.getD_eq_getElem?_getD, List.getElem?_set_self (by rw [frq_len]; exact hn)]
  simp

/-! ### the best lengths may be -/
theorem limL_one (f : List Nat) (lim : Nat) (h : (rar f).length = 1) : limL f lim = len0 f := by
  have hk : ∀ i, lenInL f lim i 0 = lenInL f lim 0 0 := by
    intro i
    induction i with
    | zero => rfl
    | succ i ih =>
      rw [← ih, ← lenInL_next]
      have hc : cnt (symW f) lim i = 0 := by
        have := cnt_le (symW f) lim i
        rw [tkn_one (symW f) lim (by rw [symW_len]; exact h)] at this; omega
      rw [hc]
  rw [← lenInL_all, hk, lenInL_zero]
theorem sum_set (n s : Nat) (hs : s < n) : ((List.replicate n 0).set s 1).sum = 1 := by
  induction n generalizing s with
  | zero => omega
  | succ n ih =>
    rw [List.replicate_succ]
    cases s with
    | zero => simp
    | succ s => rw [List.set_cons_succ, List.sum_cons, ih s (by omega)]
theorem lim_kind (f : List Nat) (hl : f.length ≤ 286) : (∀ x ∈ limL f 15, x ≤ 15) ∧ (((clsE (limL f 15)).1 = 2 ∨ singleB (limL f 15) = true) ∨ ((clsE (limL f 15)).1 = 0 ∧ (rar f).length = 0)) := by
  have hr1 := (rar_perm f).length_eq
  have hr2 := used_le f
  have h15 : ∀ x ∈ limL f 15, x ≤ 15 := by
    intro x hx
    obtain ⟨c, hc, rfl⟩ := List.getElem_of_mem hx
    have hc' := hc
    rw [limL_len] at hc'
    have h1 := limL_get f 15 c hc'
    rw [List.getD_eq_getElem?_getD, List.getElem?_eq_getElem hc] at h1
    simp only [Option.getD_some] at h1
    rw [h1]
    exact (limS_bound f 15 c (by decide) (pow15 _ (by omega)) hc').1
  have hmay : May (limL f 15) := ⟨fun x hx => Nat.le_trans (h15 x hx) (by decide), by rw [limL_len]; omega⟩
  refine ⟨h15, ?_⟩
  rcases (show (rar f).length = 0 ∨ (rar f).length = 1 ∨ 2 ≤ (rar f).length by omega) with h | h | h
  · right
    refine ⟨?_, h⟩
    have hw : weight (limL f 15) = 0 := by
      rw [limL_none f 15 h]
      unfold weight
      rw [List.map_replicate]
      generalize f.length = n
      induction n with
      | zero => rfl
      | succ n ih => rw [List.replicate_succ, List.sum_cons, ih]; rfl
    unfold clsE
    rw [if_pos hmay]
    show cls (limL f 15) = 0
    unfold cls
    rw [if_pos hw]
  · left; right
    rw [limL_one f 15 h]
    unfold len0
    rw [if_pos h]
    obtain ⟨s0, hs0⟩ := List.length_eq_one_iff.1 h
    have hm := (mem_rar f s0).1 (by rw [hs0]; exact List.mem_singleton_self _)
    rw [hs0]
    show singleB ((List.replicate f.length 0).set s0 1) = true
    unfold singleB
    rw [sum_set f.length s0 hm.1]
    simp only [and_true, decide_eq_true_eq]
    intro x hx
    rcases List.mem_or_eq_of_mem_set hx with h' | rfl
    · have := List.eq_of_mem_replicate h'; omega
    · exact Nat.le_refl _
  · left; left
    have hw := limL_full f 15 (by decide) (by decide) h (pow15 _ (by omega))
    unfold clsE
    rw [if_pos hmay]
    show cls (limL f 15) = 2
    unfold cls
    rw [hw]
    decide
theorem best_may (f o : List Nat) (h1 : 257 ≤ f.length) (h2 : f.length ≤ 286) (h3 : 1 ≤ o.length) (h4 : o.length ≤ 30) (h5 : 0 < f.getD 256 0) : mayH (limL f 15) (limL o 15) = true := by
  obtain ⟨f1, f2⟩ := lim_kind f h2
  obtain ⟨o1, o2⟩ := lim_kind o (by omega)
  have hr1 := (rar_perm f).length_eq
  have hr2 := used_le f
  have hz : (limL f 15).getD 256 0 ≠ 0 := by
    rw [limL_get f 15 256 (by omega)]
    have := (limS_bound f 15 256 (by decide) (pow15 _ (by omega)) (by omega)).2
    omega
  have hf : (clsE (limL f 15)).1 = 2 ∨ singleB (limL f 15) = true := by
    rcases f2 with h | ⟨_, h⟩
    · exact h
    · have : (256 : Nat) ∈ rar f := (mem_rar f 256).2 ⟨by omega, h5⟩
      rw [List.length_eq_zero_iff.1 h] at this; cases this
  have hlf : long (limL f 15) = false := by
    unfold long; simp; intro x hx; exact f1 x hx
  have hlo : long (limL o 15) = false := by
    unfold long; simp; intro x hx; exact o1 x hx
  unfold mayH
  simp only [limL_len, hlf, hlo, Bool.not_false, Bool.and_true, Bool.and_eq_true, decide_eq_true_eq, Bool.or_eq_true]
  refine ⟨⟨⟨⟨⟨⟨h1, h2⟩, h3⟩, h4⟩, hz⟩, hf⟩, ?_⟩
  rcases o2 with h | ⟨h, _⟩
  · rcases h with h | h
    · exact .inl (.inl h)
    · exact .inr h
  · exact .inl (.inr h)

theorem rowU16_open {w : World} {a : Option Addr} {len cap : Nat} {zs : List Int}
    (h : (a = none ∧ len = 0 ∧ cap = 0 ∧ zs = []) ∨ ∃ x, a = some x ∧ len ≤ cap ∧ cap ≤ maxLen ∧ zs.length = cap ∧ (∀ i, i < zs.length → w.cell? (x.add i) = some (.int .u16 (zs.getD i 0))) ∧ ∀ n ∈ zs, (Lit.int .u16 n).wf = true) :
    ∃ l : List Nat, l.length = len ∧ RowN .u16 w a cap l ∧ ∀ n ∈ l, n ≤ 65535 := by
  obtain ⟨l, h1, h2, h3⟩ := rowI_open h
  refine ⟨natOf l, by simpa [natOf] using h1, rowN_of_I h2 fun n hn => (bd_u16 (h3 n hn)).1, fun n hn => ?_⟩
  simp only [natOf, List.mem_map] at hn
  obtain ⟨m, hm, rfl⟩ := hn
  have := bd_u16 (h3 m hm)
  omega

set_option maxRecDepth 100000 in
set_option maxHeartbeats 3200000 in
theorem law09_lens (w : World) (a : Option Addr) (cap : Nat) (fr : List Nat) (n : Nat) (hr : RowN .u16 w a cap fr) (M : Nat) (hM : M = 65535) (hb : ∀ x ∈ fr, x ≤ M) (hl : fr.length ≤ 286) (h1 : 1 ≤ n) (h2 : n ≤ 300) :
    Calls Try.prog 21 #[.slice a fr.length cap, .int .i64 (n : Nat)] w fun e w' => ∃ a' c', e = .returned (.slice a' n c') ∧ OwnN 5 .u8 w' w.heap.size a' c' (limL (frqF fr n) 15) ∧ Below w.heap.size w w' := by
  have hfl := frqF_len fr n
  have hru : (used (frqF fr n)).length ≤ 300 := by have := used_le (frqF fr n); omega
  have hrr := (rar_perm (frqF fr n)).length_eq
  have HLI := Lib.hid (fun A a' c' (h : RowN .i64 A a' c' (frqF fr n)) => (by
    have := limit_lengthsA A a' c' (frqF fr n) 15 h (by omega) (by omega) (fun x hx => frq_small fr.length M x fr.length hl hM (Nat.le_refl _) (frqF_le fr n M hb x hx)) (by decide) (by decide) (pow15 _ (by omega))
    rw [hfl] at this
    exact this : _))
  have HR := Lib.hid hr
  have HB := Lib.hid hb
  have HMM := Lib.hid hM
  have HFF := Lib.hid (show frqF fr n = if 256 < n then (frq fr n fr.length).set 256 ((frq fr n fr.length).getD 256 0 + 1) else frq fr n fr.length from rfl)
  obtain ⟨T, hT⟩ : ∃ T, limL (frqF fr n) 15 = T := ⟨_, rfl⟩
  rw [hT] at HLI ⊢
  clear hr hb hfl hru hrr hT hM
  have pn0 : ¬ ((n : Int) = 0) := by omega
  have pn1 : ¬ (n = 0) := by omega
  go_enter Try.func21, Try.ntmps21
  go_wp2_with (at_make; refine makeN (n := n) et_int rfl _ _ rfl w.heap.size rfl rfl (by omega) (by omega) (Nat.le_refl _) ?_; intro w1 hown1 hg1; have HU := Lib.hid hown1; have HB1 := Lib.hid (Below.of_grown hg1 (Nat.le_refl _) (fun g hg => by cases hg)); clear hown1 hg1)
  go_loopw [6] (fun x A => ∃ i, x = .int .i64 (i : Nat) ∧ i ≤ fr.length ∧ OwnN 3 .i64 A w.heap.size (some ⟨w.heap.size, 0, none⟩) n (frq fr n i) ∧ Below w.heap.size w A) (fun x _ => fr.length - (intOf x).toNat)
  case atStart => exact ⟨0, rfl, Nat.zero_le _, HU.out, HB1.out⟩
  case round =>
    clear HU HB1
    obtain ⟨i, rfl, hi, hown, hbel⟩ := hrel
    have HO := Lib.hid hown
    have HBE := Lib.hid hbel
    by_cases hlt : i < fr.length
    · have b1 : decide (i < fr.length) = true := by simp; omega
      have hrA := HR.out.below hbel
      obtain ⟨bb, off, rfl, _, hci⟩ := hrA.at hlt
      have hx : fr[i] ≤ 100000 := Nat.le_trans (HB.out _ (List.getElem_mem hlt)) (by rw [HMM.out]; decide)
      have hfg : fr.getD i 0 = fr[i] := by rw [List.getD_eq_getElem?_getD, List.getElem?_eq_getElem hlt]; rfl
      obtain ⟨i7, hi7⟩ : ∃ i7, i * 7 = i7 := ⟨_, rfl⟩
      obtain ⟨j, hj⟩ : ∃ j, i7 % n = j := ⟨_, rfl⟩
      have hjn : j < n := by rw [← hj]; exact Nat.mod_lt _ (by omega)
      have hjl : j < (frq fr n i).length := by rw [frq_len]; exact hjn
      have hgd : (frq fr n i).getD j 0 = (frq fr n i)[j]'hjl := by rw [List.getD_eq_getElem?_getD, List.getElem?_eq_getElem hjl]; rfl
      have hv := frq_small fr.length M _ i hl HMM.out (by omega) (Nat.le_succ_of_le (frq_le fr n M HB.out i _ (List.getElem_mem hjl)))
      have hsn : frq fr n (i + 1) = (frq fr n i).set j ((frq fr n i)[j]'hjl + fr[i]) := by rw [← hgd, ← hfg, ← hj, ← hi7]; rfl
      obtain ⟨g9, hg9, _, _, hcj, hfj⟩ := hown.at hjl
      simp only [Option.some.injEq, Addr.mk.injEq, and_true] at hg9
      subst hg9
      have q7 : (i : Int) * 7 = (i7 : Int) := by omega
      have q7w : IntKind.i64.wrap (i7 : Int) = (i7 : Int) := IntWalk.i64_in _ (by omega)
      have qj : Int.tmod (i7 : Int) (n : Int) = (j : Int) := by rw [Int.tmod_eq_emod_of_nonneg (by omega), ← hj]; simp
      have qjw : IntKind.i64.wrap (j : Int) = (j : Int) := IntWalk.i64_in _ (by omega)
      have qjn : (j : Int) < (n : Int) := by omega
      have qi : (i : Int) < (fr.length : Int) := by omega
      generalize (frq fr n i)[j]'hjl = v at *
      generalize fr[i] = x at *
      obtain ⟨v1, hv1⟩ : ∃ v1, v + x = v1 := ⟨_, rfl⟩
      have qv : (v : Int) + (x : Int) = (v1 : Int) := by omega
      have qvw : IntKind.i64.wrap (v1 : Int) = (v1 : Int) := IntWalk.i64_in _ (by omega)
      have qxw : IntKind.i64.wrap (x : Int) = (x : Int) := IntWalk.i64_in _ (by omega)
      rw [hv1] at hsn
      have hst := hown.stored j v1
      rw [← hsn] at hst
      have HST := Lib.hid hst
      clear hst hsn hgd hfg hi7 hj hv1 hown hbel hrA
      go_wp2_with fail
      go_still_tail 19, (by kernel_rfl)
      go_wp2
      go_roundw
      case rel => exact ⟨i + 1, by go_num, by omega, HST.out.1, below_drewN (HBE.out.trans (Below.of_grown HST.out.2 HBE.out.size (fun g hg => by cases hg; exact Nat.le_refl _))) 1⟩
      case measure => simp [intOf]; omega
    · have b1 : decide (i < fr.length) = false := by simp; omega
      obtain rfl : i = fr.length := by omega
      clear hbel
      by_cases hbig : 256 < n
      · have b2 : decide (256 < n) = true := by simp; omega
        have b2' : decide ((256 : Int) < (n : Int)) = true := by simp; omega
        have hjl : 256 < (frq fr n fr.length).length := by rw [frq_len]; exact hbig
        have hgd : (frq fr n fr.length).getD 256 0 = (frq fr n fr.length)[256]'hjl := by rw [List.getD_eq_getElem?_getD, List.getElem?_eq_getElem hjl]; rfl
        have hv := frq_small fr.length M _ fr.length hl HMM.out (Nat.le_refl _) (Nat.le_succ_of_le (frq_le fr n M HB.out fr.length _ (List.getElem_mem hjl)))
        have hff := HFF.out
        rw [if_pos hbig, hgd] at hff
        obtain ⟨g9, hg9, _, _, hcj, hfj⟩ := hown.at hjl
        simp only [Option.some.injEq, Addr.mk.injEq, and_true] at hg9
        subst hg9
        generalize (frq fr n fr.length)[256]'hjl = v at *
        obtain ⟨v1, hv1⟩ : ∃ v1, v + 1 = v1 := ⟨_, rfl⟩
        have qv : (v : Int) + 1 = (v1 : Int) := by omega
        rw [hv1] at hff
        have hst := hown.stored 256 v1
        rw [← hff] at hst
        have HST := Lib.hid hst
        have HBE2 := Lib.hid (HBE.out.trans (Below.of_grown hst.2 HBE.out.size (fun g hg => by cases hg; exact Nat.le_refl _)))
        have q256 : (256 : Int) < (n : Int) := by omega
        clear hst hff hgd hv1 hown hbig
        go_wp2_with (go_at_call 53; refine (HLI.out _ _ _ HST.out.1.row).mono ?_; rintro e w2 ⟨a2, c2, rfl, ho2, hb2⟩; have HO2 := Lib.hid ho2; have HB2 := Lib.hid hb2; clear ho2 hb2)
        go_ret
        exact ⟨_, _, rfl, HO2.out.mono HBE2.out.size, HBE2.out.trans (HB2.out.mono HBE2.out.size)⟩
      · have b2 : decide (256 < n) = false := by simp; omega
        have b2' : decide ((256 : Int) < (n : Int)) = false := by simp; omega
        have hff := HFF.out
        rw [if_neg hbig] at hff
        rw [← hff] at hown
        have HST := Lib.hid hown
        clear hff hown hbig
        go_wp2_with (go_at_call 53; refine (HLI.out _ _ _ HST.out.row).mono ?_; rintro e w2 ⟨a2, c2, rfl, ho2, hb2⟩; have HO2 := Lib.hid ho2; have HB2 := Lib.hid hb2; clear ho2 hb2)
        go_ret
        exact ⟨_, _, rfl, HO2.out.mono HBE.out.size, HBE.out.trans (HB2.out.mono HBE.out.size)⟩
end Go.Proofs.Ytmgoeokdlklabaa

namespace Go.Proofs.Ytmgoeokdlklabaa
open Go.RowKit Go.Shelf M01 M04 M05 M06 M07 M09 M10
attribute [local go_sem] Oper.semAt_some
set_option linter.unusedVariables false
set_option linter.unusedSimpArgs false

theorem cutU8 (b off m n c : Nat) (h : m ≤ c) (w : World) : (Instr.sliceAt 22 (.slice (some ⟨b, off, none⟩) n c) none (some (.int .i64 (m : Nat))) none).run Try.prog w = .ok (.slice (some ⟨b, off, none⟩) m c) w := by
  have hz : (Try.prog.info? 5).map (·.size) = some 1 := by kernel_rfl
  cases h5 : Try.prog.info? 5 with
  | none => rw [h5] at hz; cases hz
  | some ie =>
    simp [Instr.sliceAt, Instr.slice, Instr.sliceBounds, Instr.sliceBound, run_underlying Try.underlying22, asIntOf, sizeOf, typeInfo, h5, go_sem, h, Addr.add]
theorem hputW_ge {s : Wst} (h : WG s) (f o : List Nat) : s.2 + 14 ≤ (hputW s f o).2 := by
  unfold hputW hputL
  obtain ⟨p1, _, p3⟩ := put14_g h f.length o.length (cutN (sgLens (pack (f ++ o))) 19)
  obtain ⟨q1, q2, _⟩ := put3_g p1 (sgLens (pack (f ++ o))) (cutN (sgLens (pack (f ++ o))) 19)
  have r2 := (putsS_g (sgLens (pack (f ++ o))) (pack (f ++ o)) q1).2
  have := q2.1
  have := r2.1
  omega
theorem bit_take0 (l : List Nat) (k i : Nat) (h : i < 8 * k) : bit (l.take k) i = bit l i := by
  unfold bit
  congr 2
  rw [List.getD_eq_getElem?_getD, List.getD_eq_getElem?_getD, List.getElem?_take_of_lt (by omega)]
/-- a head that is cut is none -/
theorem hdr_cut {T : List Nat} {r : List Nat × List Nat} {at2 k : Nat} (h : hdr T 0 = some (r, at2)) (hk : 8 * k < at2) : hdr (T.take k) 0 = none := by
  cases hc : hdr (T.take k) 0 with
  | none => rfl
  | some x =>
    obtain ⟨r', a'⟩ := x
    obtain ⟨_, h2, h3⟩ := hdr_loc (d := 0) (bs' := T) hc
    have hl : (T.take k).length ≤ k := by rw [List.length_take]; omega
    have hlt : (T.take k).length ≤ T.length := by rw [List.length_take]; omega
    have h4 := h3 ⟨fun i _ hi => by rw [Nat.add_zero]; exact (bit_take0 T k i (by omega)).symm, by omega⟩
    rw [Nat.add_zero, h] at h4
    cases h4
    omega

set_option maxRecDepth 100000 in
set_option maxHeartbeats 3200000 in
theorem law_cut9 (w : World) (a b : Option Addr) (ca cb : Nat) (fa fb : List Nat) (ct M : Nat) (hM : M = 65535) (h1 : RowN .u16 w a ca fa) (h2 : RowN .u16 w b cb fb) (hb1 : ∀ x ∈ fa, x ≤ M) (hb2 : ∀ x ∈ fb, x ≤ M) (hct : ct ≤ 100000) :
    Calls Try.prog 4 #[.slice a fa.length ca, .slice b fb.length cb, .int .u16 (ct : Nat)] w fun e w' => e = .returned (.bool true) ∧ Below w.heap.size w w' := by
  by_cases h300 : 286 < fa.length
  · have t1 : decide ((286 : Int) < (fa.length : Int)) = true := by simp; omega
    clear h1 h2
    go_enter Try.func4, Try.ntmps4
    go_wp2
    go_ret
    exact ⟨rfl, Below.refl _ _⟩
  have t1 : decide ((286 : Int) < (fa.length : Int)) = false := by simp; omega
  by_cases h40 : 30 < fb.length
  · have t2 : decide ((30 : Int) < (fb.length : Int)) = true := by simp; omega
    clear h1 h2
    go_enter Try.func4, Try.ntmps4
    go_wp2
    go_ret
    exact ⟨rfl, Below.refl _ _⟩
  have t2 : decide ((30 : Int) < (fb.length : Int)) = false := by simp; omega
  have HLE1 := Lib.hid (law09_lens w a ca fa 270 h1 M hM hb1 (by omega) (by decide) (by decide))
  have HLE2 := Lib.hid (fun A (h : Below w.heap.size w A) => law09_lens A b cb fb 30 (h2.below h) M hM hb2 (by omega) (by decide) (by decide))
  have hmay := best_may (frqF fa 270) (frqF fb 30) (by rw [frqF_len]; decide) (by rw [frqF_len]; decide) (by rw [frqF_len]; decide) (by rw [frqF_len]; decide) (frqF_256 fa 270 (by decide))
  have hF : (limL (frqF fa 270) 15).length = 270 := by rw [limL_len, frqF_len]
  have hO : (limL (frqF fb 30) 15).length = 30 := by rw [limL_len, frqF_len]
  generalize limL (frqF fa 270) 15 = F at *
  generalize limL (frqF fb 30) 15 = O at *
  obtain ⟨T, hT⟩ : ∃ T, hputW ([], 0) F O = T := ⟨_, rfl⟩
  have hwg : WG T := by rw [← hT]; exact (hputW_g empty_g F O).1
  have hTb : T.2 ≤ 6000 := by
    obtain ⟨_, _, _, _, m5, m6⟩ := mayH_facts hmay
    have := hputW_len empty_g F O (by
      intro x hx
      rcases List.mem_append.1 hx with h | h
      · exact m5 x h
      · exact m6 x h)
    rw [hT, hF, hO] at this
    exact Nat.le_trans this (by decide)
  have hge : 14 ≤ T.2 := by have := hputW_ge empty_g F O; rw [hT] at this; exact this
  have hh := hdr_laid (s := ([], 0)) (t := T) empty_g hwg F O hmay (by rw [hT]; exact .refl _)
  rw [hT] at hh
  have hlen := hwg.1.1
  have htb := hwg.1.2
  obtain ⟨n, hn⟩ : ∃ n, T.1.length = n := ⟨_, rfl⟩
  rw [hn] at hlen
  have hn0 : 0 < n := by omega
  obtain ⟨k, hk⟩ : ∃ k, ct % n = k := ⟨_, rfl⟩
  have hkn : k < n := by rw [← hk]; exact Nat.mod_lt _ hn0
  have hkT : 8 * k < T.2 := by omega
  have HCUT := Lib.hid (hdr_cut hh hkT)
  have qk : Int.tmod (ct : Int) (n : Int) = (k : Int) := by rw [Int.tmod_eq_emod_of_nonneg (by omega), ← hk]; simp
  have pn0 : ¬ ((n : Int) = 0) := by omega
  have pn1 : ¬ (n = 0) := by omega
  have qcw : IntKind.i64.wrap (ct : Int) = (ct : Int) := IntWalk.i64_in _ (by omega)
  have qkw : IntKind.i64.wrap (k : Int) = (k : Int) := IntWalk.i64_in _ (by omega)
  have hnz : ((n : Int) == 0) = false := beq_eq_false_iff_ne.2 (by omega)
  have HPU := Lib.hid (fun A a1 a2 c1 c2 (h1 : RowN .u8 A a1 c1 F) (h2 : RowN .u8 A a2 c2 O) => (by
    have hbx := box_b A (.cells #[.slice none 0 0, .int .i64 0] 24)
    have := header_put (wrE_new A) a1 a2 c1 c2 F O (h1.below hbx) (h2.below hbx) (by omega) (by omega) (by show 0 + 6000 ≤ 100000000; decide)
    rw [hmay, hT, hF, hO] at this
    exact this : _))
  have HN := Lib.hid hn
  have HTL := Lib.hid hlen
  clear h1 h2 hb1 hb2 h300 h40 hmay hT hwg hh hk hn hlen
  go_enter Try.func4, Try.ntmps4
  go_wp2_with fail
  refine HLE1.out.mono ?_
  rintro e w1 ⟨a1, c1, rfl, ho1, hb1⟩
  have HR1 := Lib.hid ho1.row
  have HB1 := Lib.hid hb1
  clear ho1 hb1 HLE1
  go_wp2_with fail
  refine (HLE2.out w1 HB1.out).mono ?_
  rintro e w2 ⟨a2, c2, rfl, ho2, hb2⟩
  have HP2 := Lib.hid (HPU.out w2 a1 a2 c1 c2 (HR1.out.below hb2) ho2.row)
  have HB2 := Lib.hid (HB1.out.trans (hb2.mono HB1.out.size))
  have hbx := box_b w2 (.cells #[.slice none 0 0, .int .i64 0] 24)
  have HB3 := Lib.hid (HB2.out.trans (hbx.mono HB2.out.size))
  have hwz := HB2.out.size
  clear ho2 hb2 hbx HLE2 HPU HR1 HB1
  go_wp2_with fail
  generalize w2.alloc (.cells #[.slice none 0 0, .int .i64 0] 24) = w3 at *
  refine HP2.out.mono ?_
  rintro e w4 ⟨ho4, rfl, hw4⟩
  have HB4 := Lib.hid (Below.only HB3.out ho4 (Nat.le_refl _) (fun b hb => Nat.le_trans hwz hb))
  have HW4 := Lib.hid hw4
  clear ho4 hw4 HP2 HB3 HB2
  go_wp2_with fail
  refine (lsb_bytes HW4.out).mono ?_
  rintro e w5 ⟨a5, c5, rfl, ho5, hb5⟩
  have HB5 := Lib.hid (HB4.out.trans (hb5.mono HB4.out.size))
  have HW5 := Lib.hid (HW4.out.below hb5)
  have hr5 := ho5.row
  obtain ⟨bb, off, rfl, hz1, hz2⟩ := hr5.at (show 0 < T.1.length by rw [HN.out]; exact hn0)
  clear hz1 hz2
  have hcap := hr5.1
  rw [HN.out] at hcap
  have hcut := cutU8 bb off k n c5 (by omega)
  have hlk : (T.1.take k).length = k := by rw [List.length_take, HN.out]; omega
  have hnw := lsb_new w5 (some ⟨bb, off, none⟩) c5 (T.1.take k) (rowN_take hr5 k) (fun x hx => htb x (List.mem_of_mem_take hx)) (by rw [hlk]; omega)
  rw [hlk] at hnw
  have HNW := Lib.hid hnw
  have hlen5 := HN.out
  clear ho5 hb5 hr5 hnw HB4 HW4 hlk
  rw [hlen5]
  clear hlen5
  go_wp2_with fail
  refine HNW.out.mono ?_
  rintro e w6 ⟨rp, rfl, hrd, hb6, hrp⟩
  have hrl := hrd.lt
  have hg := hdr_get w6 rp (T.1.take k) 0 hrd
  rw [HCUT.out] at hg
  have HG := Lib.hid hg
  have HB6 := Lib.hid hb6
  clear hg hrd hb6 HNW hcut
  go_wp2_with fail
  refine HG.out.mono ?_
  rintro e w7 ⟨ho7, rfl⟩
  have HLN := Lib.hid (lsb_len (HW5.out.skip HB6.out ho7 hrp hrl))
  have HB7 := Lib.hid (HB5.out.trans ((Below.skip HB6.out ho7 hrp (Nat.le_refl _)).mono HB5.out.size))
  have HHD := Lib.hid (law09_heads w7)
  obtain ⟨k8, hk8⟩ : ∃ k8, 8 * k = k8 := ⟨_, rfl⟩
  have qk8 : 8 * (k : Int) = (k8 : Int) := by omega
  have qk8w : IntKind.i64.wrap (k8 : Int) = (k8 : Int) := IntWalk.i64_in _ (by omega)
  rw [hk8] at hkT
  obtain ⟨tn, htn⟩ : ∃ tn, T.2 = tn := ⟨_, rfl⟩
  rw [htn] at hkT HLN
  have b3 : decide (k8 < tn) = true := by simp; exact hkT
  have b3' : decide ((k8 : Int) < (tn : Int)) = true := by simp; omega
  clear ho7 hrp hrl HG HB6 HW5 hk8 hkT htn hge hTb hn0 hkn hwz hct hcap htb hF hO qk pn0 pn1 qcw qkw hnz t1 t2
  go_wp2_with (first | (go_at_call 16; refine HLN.out.mono ?_; rintro e w' ⟨rfl, hww⟩; replace hww := hww.symm; subst hww) | (go_at_call 17; refine HHD.out.mono ?_; rintro e w8 ⟨rfl, hb8⟩; have HB8 := Lib.hid (HB7.out.trans (hb8.mono HB7.out.size)); clear hb8))
  go_ret
  exact ⟨rfl, HB8.out⟩
end Go.Proofs.Ytmgoeokdlklabaa

namespace Go.Proofs.Ytmgoeokdlklabaa
open Go.RowKit Go.Shelf M01 M04 M05 M06 M07 M09 M10
attribute [local go_sem] Oper.semAt_some
set_option linter.unusedVariables false
set_option linter.unusedSimpArgs false

/-- bytes that stand behind -/
theorem back_ext {T : Wst} (h : WG T) (bh : List Nat) (hb : ∀ x ∈ bh, x < 256) : WG (T.1 ++ bh, 8 * (T.1 ++ bh).length) ∧ ExtW T (T.1 ++ bh, 8 * (T.1 ++ bh).length) := by
  have hl := h.1.1
  refine ⟨⟨⟨by show (T.1 ++ bh).length = (8 * (T.1 ++ bh).length + 7) / 8; omega, fun x hx => ?_⟩, fun i hi => bit_out _ i hi⟩, ⟨by show T.2 ≤ 8 * _; rw [List.length_append]; omega, fun i hi => ?_⟩⟩
  · rcases List.mem_append.1 hx with h1 | h1
    · exact h.1.2 x h1
    · exact hb x h1
  · unfold bit
    congr 2
    show (T.1 ++ bh).getD (i / 8) 0 = T.1.getD (i / 8) 0
    rw [List.getD_eq_getElem?_getD, List.getD_eq_getElem?_getD, List.getElem?_append_left (by omega)]

set_option maxRecDepth 100000 in
set_option maxHeartbeats 3200000 in
theorem law_back9 (w : World) (a b d : Option Addr) (ca cb cd : Nat) (fa fb bh : List Nat) (un um M : Nat) (hM : M = 65535) (h1 : RowN .u16 w a ca fa) (h2 : RowN .u16 w b cb fb) (h3 : RowN .u8 w d cd bh) (hb1 : ∀ x ∈ fa, x ≤ M) (hb2 : ∀ x ∈ fb, x ≤ M) (hb3 : ∀ x ∈ bh, x < 256) (hun : un < 256) (hum : um < 256) :
    Calls Try.prog 8 #[.slice a fa.length ca, .slice b fb.length cb, .int .u8 (un : Nat), .int .u8 (um : Nat), .slice d bh.length cd] w fun e w' => e = .returned (.bool true) ∧ Below w.heap.size w w' := by
  by_cases h300 : 286 < fa.length
  · have t1 : decide ((286 : Int) < (fa.length : Int)) = true := by simp; omega
    clear h1 h2 h3
    go_enter Try.func8, Try.ntmps8
    go_wp2
    go_ret
    exact ⟨rfl, Below.refl _ _⟩
  have t1 : decide ((286 : Int) < (fa.length : Int)) = false := by simp; omega
  by_cases h40 : 30 < fb.length
  · have t2 : decide ((30 : Int) < (fb.length : Int)) = true := by simp; omega
    clear h1 h2 h3
    go_enter Try.func8, Try.ntmps8
    go_wp2
    go_ret
    exact ⟨rfl, Below.refl _ _⟩
  have t2 : decide ((30 : Int) < (fb.length : Int)) = false := by simp; omega
  by_cases h50 : 40 < bh.length
  · have t3 : decide ((40 : Int) < (bh.length : Int)) = true := by simp; omega
    clear h1 h2 h3
    go_enter Try.func8, Try.ntmps8
    go_wp2
    go_ret
    exact ⟨rfl, Below.refl _ _⟩
  have t3 : decide ((40 : Int) < (bh.length : Int)) = false := by simp; omega
  obtain ⟨r1, hr1⟩ : ∃ r1, un % 30 = r1 := ⟨_, rfl⟩
  obtain ⟨r2, hr2⟩ : ∃ r2, um % 30 = r2 := ⟨_, rfl⟩
  obtain ⟨n1, hn1⟩ : ∃ n1, 257 + r1 = n1 := ⟨_, rfl⟩
  obtain ⟨n2, hn2⟩ : ∃ n2, 1 + r2 = n2 := ⟨_, rfl⟩
  have hr1b : r1 < 30 := by omega
  have hr2b : r2 < 30 := by omega
  have q1 : Int.tmod (un : Int) 30 = (r1 : Int) := by rw [Int.tmod_eq_emod_of_nonneg (by omega)]; omega
  have q2 : Int.tmod (um : Int) 30 = (r2 : Int) := by rw [Int.tmod_eq_emod_of_nonneg (by omega)]; omega
  have q3 : (257 : Int) + (r1 : Int) = (n1 : Int) := by omega
  have q4 : (1 : Int) + (r2 : Int) = (n2 : Int) := by omega
  have hn1b : 257 ≤ n1 ∧ n1 ≤ 286 := by omega
  have hn2b : 1 ≤ n2 ∧ n2 ≤ 30 := by omega
  have HLE1 := Lib.hid (law09_lens w a ca fa n1 h1 M hM hb1 (by omega) (by omega) (by omega))
  have HLE2 := Lib.hid (fun A (h : Below w.heap.size w A) => law09_lens A b cb fb n2 (h2.below h) M hM hb2 (by omega) (by omega) (by omega))
  have hmay := best_may (frqF fa n1) (frqF fb n2) (by rw [frqF_len]; omega) (by rw [frqF_len]; omega) (by rw [frqF_len]; omega) (by rw [frqF_len]; omega) (frqF_256 fa n1 (by omega))
  have hF : (limL (frqF fa n1) 15).length = n1 := by rw [limL_len, frqF_len]
  have hO : (limL (frqF fb n2) 15).length = n2 := by rw [limL_len, frqF_len]
  generalize limL (frqF fa n1) 15 = F at *
  generalize limL (frqF fb n2) 15 = O at *
  obtain ⟨T, hT⟩ : ∃ T, hputW ([], 0) F O = T := ⟨_, rfl⟩
  have hwg : WG T := by rw [← hT]; exact (hputW_g empty_g F O).1
  have hTb : T.2 ≤ 71 + 15 * (n1 + n2) := by
    obtain ⟨_, _, _, _, m5, m6⟩ := mayH_facts hmay
    have := hputW_len empty_g F O (by
      intro x hx
      rcases List.mem_append.1 hx with h | h
      · exact m5 x h
      · exact m6 x h)
    rw [hT, hF, hO] at this
    have h0 : (([], 0) : Wst).2 = 0 := rfl
    omega
  obtain ⟨x1, x2⟩ := back_ext hwg bh hb3
  have hh := hdr_laid (s := ([], 0)) (t := (T.1 ++ bh, 8 * (T.1 ++ bh).length)) empty_g x1 F O hmay (by rw [hT]; exact x2)
  rw [hT] at hh
  have HH := Lib.hid (show hdr (T.1 ++ bh) 0 = some ((F, O), T.2) from hh)
  have HTB := Lib.hid (x1.1.2)
  have hlen := hwg.1.1
  have HPU := Lib.hid (fun A a1 a2 c1 c2 (h1 : RowN .u8 A a1 c1 F) (h2 : RowN .u8 A a2 c2 O) => (by
    have hbx := box_b A (.cells #[.slice none 0 0, .int .i64 0] 24)
    have := header_put (wrE_new A) a1 a2 c1 c2 F O (h1.below hbx) (h2.below hbx) (by omega) (by omega) (by show 0 + 6000 ≤ 100000000; decide)
    rw [hmay, hT, hF, hO] at this
    exact this : _))
  have HD := Lib.hid h3
  have HFL := Lib.hid hF
  have HOL := Lib.hid hO
  obtain ⟨tn, htn⟩ : ∃ tn, T.2 = tn := ⟨_, rfl⟩
  obtain ⟨s12, hs12⟩ : ∃ s12, n1 + n2 = s12 := ⟨_, rfl⟩
  obtain ⟨p12, hp12⟩ : ∃ p12, 15 * s12 = p12 := ⟨_, rfl⟩
  obtain ⟨bd, hbd⟩ : ∃ bd, 71 + p12 = bd := ⟨_, rfl⟩
  have qwu : IntKind.i64.wrap (un : Int) = (un : Int) := IntWalk.i64_in _ (by omega)
  have qwm : IntKind.i64.wrap (um : Int) = (um : Int) := IntWalk.i64_in _ (by omega)
  have qw1 : IntKind.i64.wrap (n1 : Int) = (n1 : Int) := IntWalk.i64_in _ (by omega)
  have qw2 : IntKind.i64.wrap (n2 : Int) = (n2 : Int) := IntWalk.i64_in _ (by omega)
  have q5 : (n1 : Int) + (n2 : Int) = (s12 : Int) := by omega
  have q6 : 15 * (s12 : Int) = (p12 : Int) := by omega
  have q7 : 71 + (p12 : Int) = (bd : Int) := by omega
  have b5 : decide (bd < tn) = false := by simp; omega
  have b5' : decide ((bd : Int) < (tn : Int)) = false := by simp; omega
  have hbd2 : bd ≤ 10000 := by omega
  have hp2 : p12 ≤ 10000 := by omega
  have hs2 : s12 ≤ 10000 := by omega
  have htl : T.1.length ≤ 10000 := by omega
  have hbl : bh.length ≤ 40 := by omega
  have HTN := Lib.hid htn
  clear h1 h2 h3 hb1 hb2 hb3 h300 h40 h50 hmay hT hwg hh x1 x2 hF hO hTb hlen hr1 hr2 hn1 hn2 hs12 hp12 hbd htn
  go_enter Try.func8, Try.ntmps8
  go_wp2_with fail
  refine HLE1.out.mono ?_
  rintro e w1 ⟨a1, c1, rfl, ho1, hb1⟩
  have HR1 := Lib.hid ho1.row
  have HB1 := Lib.hid hb1
  clear ho1 hb1 HLE1
  go_wp2_with fail
  refine (HLE2.out w1 HB1.out).mono ?_
  rintro e w2 ⟨a2, c2, rfl, ho2, hb2⟩
  have HR2 := Lib.hid (HR1.out.below hb2)
  have HS2 := Lib.hid ho2.row
  have HP2 := Lib.hid (HPU.out w2 a1 a2 c1 c2 HR2.out HS2.out)
  have HB2 := Lib.hid (HB1.out.trans (hb2.mono HB1.out.size))
  have hbx := box_b w2 (.cells #[.slice none 0 0, .int .i64 0] 24)
  have HBX := Lib.hid hbx
  clear ho2 hb2 hbx HLE2 HPU HR1 HB1
  go_wp2_with fail
  generalize w2.alloc (.cells #[.slice none 0 0, .int .i64 0] 24) = w3 at *
  refine HP2.out.mono ?_
  rintro e w4 ⟨ho4, rfl, hw4⟩
  have HB4 := Lib.hid (Below.only HBX.out ho4 (Nat.le_refl _) (fun b hb => hb) : Below w2.heap.size w2 w4)
  have HW4 := Lib.hid hw4
  have hln := lsb_len hw4
  rw [HTN.out] at hln
  have HLN4 := Lib.hid hln
  clear ho4 hw4 hln HP2 HBX
  go_wp2_with (go_at_call 16; refine HLN4.out.mono ?_; rintro e w' ⟨rfl, hww⟩; replace hww := hww.symm; subst hww)
  refine (lsb_bytes HW4.out).mono ?_
  rintro e w5 ⟨a5, c5, rfl, ho5, hb5⟩
  have HO5 := Lib.hid ho5
  have HB5 := Lib.hid hb5
  have HD5 := Lib.hid (HD.out.below (HB2.out.trans ((HB4.out.trans (hb5.mono HB4.out.size)).mono HB2.out.size)))
  clear ho5 hb5 HD HLN4
  go_wp2_with (at_builtin; refine (fun h => Hid.out h) ?_)
  unfold Hid
  have hsz5 := HB5.out.size
  refine appAnyN et_u8 rfl (.tmp 58) (.tmp 59) rfl (base := w4.heap.size) (l := T.1) (ys := bh) rfl HO5.out rfl rfl HD5.out (by omega) (by omega) hsz5 ?_
  intro a6 c6 w6 hown6 hg6 hb6
  have HR6 := Lib.hid hown6.row
  have HB6 := Lib.hid (HB5.out.trans hb6)
  have hnw := lsb_new w6 a6 c6 (T.1 ++ bh) hown6.row HTB.out (by rw [List.length_append]; omega)
  rw [List.length_append] at hnw
  have HNW := Lib.hid hnw
  clear hown6 hg6 hb6 hnw HO5 HD5 HB5 hsz5
  go_wp2_with fail
  refine HNW.out.mono ?_
  rintro e w7 ⟨rp, rfl, hrd, hb7, hrp⟩
  have hrl := hrd.lt
  have hg := hdr_get w7 rp (T.1 ++ bh) 0 hrd
  rw [HH.out] at hg
  have HG := Lib.hid hg
  have HB7 := Lib.hid hb7
  clear hg hrd hb7 HNW
  go_wp2_with fail
  refine HG.out.mono ?_
  rintro e w8 ⟨ho8, pa, pc, qa, qc, rfl, hp8, hq8, hrd8⟩
  have HB68 := Lib.hid (Below.skip HB7.out ho8 hrp (Nat.le_refl _))
  have hrow1 := ((HR2.out.below HB4.out).below HB6.out).skip HB7.out ho8 hrp
  have hrow2 := ((HS2.out.below HB4.out).below HB6.out).skip HB7.out ho8 hrp
  have hcv1 := conv_row Try.underlying22 Try.underlying5 Try.underlying9 rfl hp8
  have hcv2 := conv_row Try.underlying22 Try.underlying5 Try.underlying9 rfl hq8
  have hcv3 := conv_row Try.underlying22 Try.underlying5 Try.underlying9 rfl hrow1
  have hcv4 := conv_row Try.underlying22 Try.underlying5 Try.underlying9 rfl hrow2
  rw [HFL.out] at hcv1 hcv3
  rw [HOL.out] at hcv2 hcv4
  have hat := lsb_at w8 rp (T.1 ++ bh) T.2 hrd8
  have hln := lsb_len ((HW4.out.below HB6.out).skip HB7.out ho8 hrp hrl)
  rw [HTN.out] at hat hln
  have HAT := Lib.hid hat
  have HLN := Lib.hid hln
  have HBE := Lib.hid (HB2.out.trans (((HB4.out.trans (HB6.out.mono HB4.out.size)).trans (HB68.out.mono (HB4.out.trans (HB6.out.mono HB4.out.size)).size)).mono HB2.out.size))
  have HHD := Lib.hid (law09_heads w8)
  have tl1 : ((strOf F).toList == (strOf F).toList) = true := by simp
  have tl2 : ((strOf O).toList == (strOf O).toList) = true := by simp
  have tl3 : ((tn : Int) == (tn : Int)) = true := by simp
  rw [HFL.out, HOL.out]
  clear hp8 hq8 hrd8 ho8 hat hln hrow1 hrow2 HG HB68 HB7 HB6 HW4 HR2 HS2 HR6 HB4 HB2 hrp hrl
  generalize strOf F = z1 at *
  generalize strOf O = z2 at *
  go_wp2_with (first | (go_at_call 26; refine HAT.out.mono ?_; rintro e w' ⟨rfl, hww⟩; replace hww := hww.symm; subst hww) | (go_at_call 16; refine HLN.out.mono ?_; rintro e w' ⟨rfl, hww⟩; replace hww := hww.symm; subst hww) | (go_at_call 17; refine HHD.out.mono ?_; rintro e w9 ⟨rfl, hb9⟩; have HB9 := Lib.hid (HBE.out.trans (hb9.mono HBE.out.size)); clear hb9))
  go_ret
  exact ⟨rfl, HB9.out⟩
end Go.Proofs.Ytmgoeokdlklabaa
