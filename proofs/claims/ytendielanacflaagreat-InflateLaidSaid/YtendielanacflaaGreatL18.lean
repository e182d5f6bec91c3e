/- header.may: contract. prefix.get, GetLow: contracts. -/
import Derived.Test.YtendielanacflaaGreatL04
import Derived.Test.YtendielanacflaaGreatL08
import Derived.Test.YtendielanacflaaGreatL06
namespace Go.Proofs.YtendielanacflaaGreat
open Go.RowKit Go.Shelf M04
set_option linter.unusedVariables false
set_option maxRecDepth 100000 in
set_option maxHeartbeats 3200000 in
theorem hdr_may (a b : Option Addr) (ca cb : Nat) (f o : List Nat) (w : World) (h1 : RowN .u8 w a ca f) (h2 : RowN .u8 w b cb o) (hf : f.length ≤ 1000) (ho : o.length ≤ 1000) :
    Calls Tryz.prog 46 #[.slice a f.length ca, .slice b o.length cb] w fun e w' => e = .returned (.bool (mayH f o)) ∧ w' = w := by
  have HC1 := Lib.hid (u8_contains a ca f w h1)
  have HC2 := Lib.hid (u8_contains b cb o w h2)
  have HK1 := Lib.hid (kraft_classify a ca f w h1)
  have HK2 := Lib.hid (kraft_classify b cb o w h2)
  have HS1 := Lib.hid (kraft_single a ca f w h1)
  have HS2 := Lib.hid (kraft_single b cb o w h2)
  have H1 := Lib.hid h1
  clear h1 h2
  by_cases c1 : f.length < 257
  · have HR : Hid (mayH f o = false) := by unfold Hid mayH; simp; omega
    have t1 : decide ((f.length : Int) < 257) = true := by simp; omega
    clear c1 hf ho
    go_enter Tryz.func46, Tryz.ntmps46
    go_wp2
    go_ret
    exact ⟨by rw [HR.out]; rfl, rfl⟩
  have t1 : decide ((f.length : Int) < 257) = false := by simp; omega
  by_cases c2 : 286 < f.length
  · have HR : Hid (mayH f o = false) := by unfold Hid mayH; simp; omega
    have t2 : decide ((286 : Int) < (f.length : Int)) = true := by simp; omega
    clear c1 c2 hf ho
    go_enter Tryz.func46, Tryz.ntmps46
    go_wp2
    go_ret
    exact ⟨by rw [HR.out]; rfl, rfl⟩
  have t2 : decide ((286 : Int) < (f.length : Int)) = false := by simp; omega
  by_cases c3 : o.length < 1
  · have HR : Hid (mayH f o = false) := by unfold Hid mayH; simp; omega
    have t3 : decide ((o.length : Int) < 1) = true := by simp; omega
    clear c1 c2 c3 hf ho
    go_enter Tryz.func46, Tryz.ntmps46
    go_wp2
    go_ret
    exact ⟨by rw [HR.out]; rfl, rfl⟩
  have t3 : decide ((o.length : Int) < 1) = false := by simp; omega
  by_cases c4 : 30 < o.length
  · have HR : Hid (mayH f o = false) := by unfold Hid mayH; simp; omega
    have t4 : decide ((30 : Int) < (o.length : Int)) = true := by simp; omega
    clear c1 c2 c3 c4 hf ho
    go_enter Tryz.func46, Tryz.ntmps46
    go_wp2
    go_ret
    exact ⟨by rw [HR.out]; rfl, rfl⟩
  have t4 : decide ((30 : Int) < (o.length : Int)) = false := by simp; omega
  have hil : 256 < f.length := by omega
  obtain ⟨bl, off, rfl, hbl, hck⟩ := H1.out.at hil
  have hgd : f.getD 256 0 = f[256] := by simp [hil]
  have hq : (256 : Int) < (f.length : Int) := by omega
  have HM : Hid (mayH f o = (decide (f[256] ≠ 0) && !(long f) && !(long o) && (decide ((clsE f).1 = 2) || singleB f) && (decide ((clsE o).1 = 2) || decide ((clsE o).1 = 0) || singleB o))) := by
    have e1 : 257 ≤ f.length := by omega
    have e2 : f.length ≤ 286 := by omega
    have e3 : 1 ≤ o.length := by omega
    have e4 : o.length ≤ 30 := by omega
    unfold Hid mayH
    rw [hgd]
    simp only [e1, e2, e3, e4, decide_true, Bool.true_and]
  clear c1 c2 c3 c4 hf ho hgd H1
  generalize f[256] = x at *
  by_cases c5 : x = 0
  · have HR : Hid (mayH f o = false) := by unfold Hid; rw [HM.out]; simp [c5]
    subst c5
    clear HM
    go_enter Tryz.func46, Tryz.ntmps46
    go_wp2
    go_ret
    exact ⟨by rw [HR.out]; rfl, rfl⟩
  have t5 : ((x : Int) == 0) = false := beq_eq_false_iff_ne.2 (by omega)
  have HM2 : Hid (mayH f o = (!(long f) && !(long o) && (decide ((clsE f).1 = 2) || singleB f) && (decide ((clsE o).1 = 2) || decide ((clsE o).1 = 0) || singleB o))) := by
    unfold Hid; rw [HM.out]; simp [c5]
  clear c5 HM
  generalize mayH f o = R at *
  generalize long f = lf at *
  cases lf
  case true =>
    have HR : Hid (R = false) := by unfold Hid; rw [HM2.out]; simp
    clear HM2
    go_enter Tryz.func46, Tryz.ntmps46
    go_wp2_with (first | (go_at_call 88; refine HC1.out.mono ?_; rintro e w' ⟨rfl, rfl⟩))
    go_ret
    exact ⟨by rw [HR.out]; rfl, rfl⟩
  generalize long o = lo at *
  cases lo
  case true =>
    have HR : Hid (R = false) := by unfold Hid; rw [HM2.out]; simp
    clear HM2
    go_enter Tryz.func46, Tryz.ntmps46
    go_wp2_with (first | (go_at_call 88; refine HC1.out.mono ?_; rintro e w' ⟨rfl, rfl⟩; clear HC1) | (go_at_call 88; refine HC2.out.mono ?_; rintro e w' ⟨rfl, rfl⟩))
    go_ret
    exact ⟨by rw [HR.out]; rfl, rfl⟩
  -- classes
  generalize clsE f = kf at *
  generalize clsE o = ko at *
  generalize singleB f = sf at *
  generalize singleB o = so at *
  obtain ⟨cf, ef⟩ := kf
  obtain ⟨co, eo⟩ := ko
  simp only [] at HM2 HK1 HK2
  by_cases d1 : cf = 2
  · have u1 : ((cf : Int) == 2) = true := by rw [d1]; rfl
    by_cases d2 : co = 2
    · have u3 : ((co : Int) == 2) = true := by rw [d2]; rfl
      have HR : Hid (R = true) := by unfold Hid; rw [HM2.out]; simp_all
      clear HM2
      go_enter Tryz.func46, Tryz.ntmps46
      go_wp2_with (first | (go_at_call 88; refine HC1.out.mono ?_; rintro e w' ⟨rfl, rfl⟩; clear HC1) | (go_at_call 88; refine HC2.out.mono ?_; rintro e w' ⟨rfl, rfl⟩; clear HC2) | (go_at_call 89; refine HK1.out.mono ?_; rintro e w' ⟨rfl, rfl⟩; clear HK1) | (go_at_call 89; refine HK2.out.mono ?_; rintro e w' ⟨rfl, rfl⟩; clear HK2) | (go_at_call 90; refine HSF.out.mono ?_; rintro e w' ⟨rfl, rfl⟩; clear HSF) | (go_at_call 90; refine HSO.out.mono ?_; rintro e w' ⟨rfl, rfl⟩; clear HSO))
      go_ret
      exact ⟨by rw [HR.out]; rfl, rfl⟩
    have u3 : ((co : Int) == 2) = false := beq_eq_false_iff_ne.2 (by omega)
    by_cases d0 : co = 0
    · have u4 : ((co : Int) == 0) = true := by rw [d0]; rfl
      have HR : Hid (R = true) := by unfold Hid; rw [HM2.out]; simp_all
      clear HM2
      go_enter Tryz.func46, Tryz.ntmps46
      go_wp2_with (first | (go_at_call 88; refine HC1.out.mono ?_; rintro e w' ⟨rfl, rfl⟩; clear HC1) | (go_at_call 88; refine HC2.out.mono ?_; rintro e w' ⟨rfl, rfl⟩; clear HC2) | (go_at_call 89; refine HK1.out.mono ?_; rintro e w' ⟨rfl, rfl⟩; clear HK1) | (go_at_call 89; refine HK2.out.mono ?_; rintro e w' ⟨rfl, rfl⟩; clear HK2) | (go_at_call 90; refine HSF.out.mono ?_; rintro e w' ⟨rfl, rfl⟩; clear HSF) | (go_at_call 90; refine HSO.out.mono ?_; rintro e w' ⟨rfl, rfl⟩; clear HSO))
      go_ret
      exact ⟨by rw [HR.out]; rfl, rfl⟩
    have u4 : ((co : Int) == 0) = false := beq_eq_false_iff_ne.2 (by omega)
    have HSO := HS2
    clear HS2
    have HR : Hid (R = so) := by unfold Hid; rw [HM2.out]; simp_all
    clear HM2
    go_enter Tryz.func46, Tryz.ntmps46
    go_wp2_with (first | (go_at_call 88; refine HC1.out.mono ?_; rintro e w' ⟨rfl, rfl⟩; clear HC1) | (go_at_call 88; refine HC2.out.mono ?_; rintro e w' ⟨rfl, rfl⟩; clear HC2) | (go_at_call 89; refine HK1.out.mono ?_; rintro e w' ⟨rfl, rfl⟩; clear HK1) | (go_at_call 89; refine HK2.out.mono ?_; rintro e w' ⟨rfl, rfl⟩; clear HK2) | (go_at_call 90; refine HSF.out.mono ?_; rintro e w' ⟨rfl, rfl⟩; clear HSF) | (go_at_call 90; refine HSO.out.mono ?_; rintro e w' ⟨rfl, rfl⟩; clear HSO))
    go_ret
    exact ⟨by rw [HR.out]; rfl, rfl⟩
  have u1 : ((cf : Int) == 2) = false := beq_eq_false_iff_ne.2 (by omega)
  cases sf
  case false =>
    have HSF := HS1
    clear HS1 HS2
    have HR : Hid (R = false) := by unfold Hid; rw [HM2.out]; simp_all
    clear HM2
    go_enter Tryz.func46, Tryz.ntmps46
    go_wp2_with (first | (go_at_call 88; refine HC1.out.mono ?_; rintro e w' ⟨rfl, rfl⟩; clear HC1) | (go_at_call 88; refine HC2.out.mono ?_; rintro e w' ⟨rfl, rfl⟩; clear HC2) | (go_at_call 89; refine HK1.out.mono ?_; rintro e w' ⟨rfl, rfl⟩; clear HK1) | (go_at_call 89; refine HK2.out.mono ?_; rintro e w' ⟨rfl, rfl⟩; clear HK2) | (go_at_call 90; refine HSF.out.mono ?_; rintro e w' ⟨rfl, rfl⟩; clear HSF) | (go_at_call 90; refine HSO.out.mono ?_; rintro e w' ⟨rfl, rfl⟩; clear HSO))
    go_ret
    exact ⟨by rw [HR.out]; rfl, rfl⟩
  have HSF := HS1
  clear HS1
  by_cases d2 : co = 2
  · have u3 : ((co : Int) == 2) = true := by rw [d2]; rfl
    have HR : Hid (R = true) := by unfold Hid; rw [HM2.out]; simp_all
    clear HM2
    go_enter Tryz.func46, Tryz.ntmps46
    go_wp2_with (first | (go_at_call 88; refine HC1.out.mono ?_; rintro e w' ⟨rfl, rfl⟩; clear HC1) | (go_at_call 88; refine HC2.out.mono ?_; rintro e w' ⟨rfl, rfl⟩; clear HC2) | (go_at_call 89; refine HK1.out.mono ?_; rintro e w' ⟨rfl, rfl⟩; clear HK1) | (go_at_call 89; refine HK2.out.mono ?_; rintro e w' ⟨rfl, rfl⟩; clear HK2) | (go_at_call 90; refine HSF.out.mono ?_; rintro e w' ⟨rfl, rfl⟩; clear HSF) | (go_at_call 90; refine HSO.out.mono ?_; rintro e w' ⟨rfl, rfl⟩; clear HSO))
    go_ret
    exact ⟨by rw [HR.out]; rfl, rfl⟩
  have u3 : ((co : Int) == 2) = false := beq_eq_false_iff_ne.2 (by omega)
  by_cases d0 : co = 0
  · have u4 : ((co : Int) == 0) = true := by rw [d0]; rfl
    have HR : Hid (R = true) := by unfold Hid; rw [HM2.out]; simp_all
    clear HM2
    go_enter Tryz.func46, Tryz.ntmps46
    go_wp2_with (first | (go_at_call 88; refine HC1.out.mono ?_; rintro e w' ⟨rfl, rfl⟩; clear HC1) | (go_at_call 88; refine HC2.out.mono ?_; rintro e w' ⟨rfl, rfl⟩; clear HC2) | (go_at_call 89; refine HK1.out.mono ?_; rintro e w' ⟨rfl, rfl⟩; clear HK1) | (go_at_call 89; refine HK2.out.mono ?_; rintro e w' ⟨rfl, rfl⟩; clear HK2) | (go_at_call 90; refine HSF.out.mono ?_; rintro e w' ⟨rfl, rfl⟩; clear HSF) | (go_at_call 90; refine HSO.out.mono ?_; rintro e w' ⟨rfl, rfl⟩; clear HSO))
    go_ret
    exact ⟨by rw [HR.out]; rfl, rfl⟩
  have u4 : ((co : Int) == 0) = false := beq_eq_false_iff_ne.2 (by omega)
  have HSO := HS2
  clear HS2
  have HR : Hid (R = so) := by unfold Hid; rw [HM2.out]; simp_all
  clear HM2
  go_enter Tryz.func46, Tryz.ntmps46
  go_wp2_with (first | (go_at_call 88; refine HC1.out.mono ?_; rintro e w' ⟨rfl, rfl⟩; clear HC1) | (go_at_call 88; refine HC2.out.mono ?_; rintro e w' ⟨rfl, rfl⟩; clear HC2) | (go_at_call 89; refine HK1.out.mono ?_; rintro e w' ⟨rfl, rfl⟩; clear HK1) | (go_at_call 89; refine HK2.out.mono ?_; rintro e w' ⟨rfl, rfl⟩; clear HK2) | (go_at_call 90; refine HSF.out.mono ?_; rintro e w' ⟨rfl, rfl⟩; clear HSF) | (go_at_call 90; refine HSO.out.mono ?_; rintro e w' ⟨rfl, rfl⟩; clear HSO))
  go_ret
  exact ⟨by rw [HR.out]; rfl, rfl⟩
end Go.Proofs.YtendielanacflaaGreat

namespace Go.Proofs.YtendielanacflaaGreat
open Go.RowKit Go.Shelf M01 M04 M06 M10
set_option linter.unusedVariables false
theorem Rd.below {w w' : World} {p at_ : Nat} {bs : List Nat} (h : Rd w p bs at_) (hb : Below w.heap.size w w') : Rd w' p bs at_ := by
  obtain ⟨a, cap, h1, h2, h3⟩ := h
  refine ⟨a, cap, ?_, h2.below hb, h3⟩
  have hlt : p < w.heap.size := (Array.getElem?_eq_some_iff.1 h1).1
  exact (hb.block p hlt).trans h1
theorem Rd.belowAt {w w' : World} {p at_ n : Nat} {bs : List Nat} (h : Rd w p bs at_) (hb : Below n w w') (hp : p < n) : Rd w' p bs at_ := by
  obtain ⟨a, cap, h1, h2, h3, h4, h5, h6⟩ := h
  exact ⟨a, cap, (hb.block p hp).trans h1, h2.same hb.size (fun x _ hx => hb.block _ (by have := h6 x hx; omega)), h3, h4, h5, h6⟩
theorem cell_next (w1 : World) (nb : Nat) (u v : Value) (t : TypeId) :
    (((w1.setCell ⟨nb, 0, none⟩ u).setCell ⟨nb, 1, none⟩ v).alloc (.cells #[u, v] t)).heap[w1.heap.size]? = some (.cells #[u, v] t (0, 0)) ∧ Only (fun b => b = nb) w1 (((w1.setCell ⟨nb, 0, none⟩ u).setCell ⟨nb, 1, none⟩ v).alloc (.cells #[u, v] t)) := by
  refine ⟨?_, (((Only.refl (fun b => b = nb) w1).setCell (p := ⟨nb, 0, none⟩) (.inl rfl) u).setCell (p := ⟨nb, 1, none⟩) (.inl rfl) v).alloc _⟩
  have := World.alloc_heap_new ((w1.setCell ⟨nb, 0, none⟩ u).setCell ⟨nb, 1, none⟩ v) (.cells #[u, v] t)
  simpa [World.setCell] using this
theorem or_word (x b k : Nat) (hx : x < 2 ^ k) (hb : b < 2) (hk : k ≤ 20) : bits .or .u32 ((x : Int) * 2 % 4294967296) (b : Int) = ((2 * x + b : Nat) : Int) := by
  have hp : 2 ^ k ≤ 2 ^ 20 := Nat.pow_le_pow_right (by decide) hk
  have h1 : ((x : Int) * 2 % 4294967296) = ((2 * x : Nat) : Int) := by omega
  rw [h1, bits_or_u32 (2 * x) b (by omega) (by omega)]
  have h2 := or_add b x 1 (by omega)
  rw [Nat.or_comm, Nat.mul_comm 2 x]
  have h3 : x * 2 ^ 1 = x * 2 := rfl
  rw [h3] at h2
  rw [h2, Nat.add_comm]
theorem Rd.drewN {w : World} {p at_ : Nat} {bs : List Nat} (h : Rd w p bs at_) (q : Nat) : Rd (w.drewN q) p bs at_ := h
theorem World.cell?_lt {w : World} {a : Addr} {v : Value} (h : w.cell? a = some v) : a.block < w.heap.size := by
  unfold World.cell? at h
  rcases Nat.lt_or_ge a.block w.heap.size with h1 | h1
  · exact h1
  · rw [Array.getElem?_eq_none h1] at h
    simp at h
def SymOut (rp : Nat) (bs : List Nat) (R : Option (Nat × Nat)) (e : Ending) (w' : World) : Prop :=
  match R with
  | some (s, at2) => e = .returned (.tuple #[.int .i64 (s : Nat), .int .i64 0]) ∧ Rd w' rp bs at2
  | none => e = .returned (.tuple #[.int .i64 0, .int .i64 2])
def wordK (A : World) (c : Value) : Nat :=
  match c with
  | .pointer (some a) => match A.cell? ⟨a.block, 1, none⟩ with
    | some v => (intOf v).toNat
    | none => 0
  | _ => 0
theorem wordK_eq {A : World} {nb x k : Nat} (h : A.heap[nb]? = some (.cells #[.int .u32 (x : Nat), .int .u8 (k : Nat)] 129 (0, 0))) : wordK A (.pointer (some ⟨nb, 0, none⟩)) = k := by
  unfold wordK
  simp only [(two_cells h).2]
  simp [intOf]
set_option maxRecDepth 100000 in
set_option maxHeartbeats 1600000 in
theorem prefix_get (w : World) (lo hi p rp : Nat) (l bs : List Nat) (at_ : Nat) (h20 : ∀ x ∈ l, x ≤ 20) (hT : Tb lo hi w p l) (hR : Rd w rp bs at_) (hrp : rp < lo ∨ hi ≤ rp) :
    Calls Tryz.prog 152 #[.pointer (some ⟨p, 0, none⟩), .pointer (some ⟨rp, 0, none⟩), .func (Fn.func 104) #[.pointer (some ⟨rp, 0, none⟩)] #[]] w fun e w' =>
      Only (fun b => b = rp) w w' ∧ SymOut rp bs (sym l bs at_) e w' := by
  have HT := Lib.hid hT
  have HR := Lib.hid hR
  have HG := Lib.hid (good_tab l h20)
  have HRP := Lib.hid hrp
  clear hT hR h20 hrp
  unfold sym
  obtain ⟨R, hR0⟩ : ∃ R, R = decF (tabOf l) bs 22 0 0 at_ := ⟨_, rfl⟩
  rw [← hR0]
  have HR0 := Lib.hid hR0
  clear hR0
  go_enter Tryz.func152, Tryz.ntmps152
  go_wp2_with fail
  have HN := Lib.hid (World.alloc_heap_new w (.cells #[.int .u32 0, .int .u8 0] 129))
  go_loopw [8, 9, 10, 11, 12] (fun c _ _ _ _ A => ∃ x k at2 f nb : Nat, c = .pointer (some ⟨nb, 0, none⟩) ∧ A.heap[nb]? = some (.cells #[.int .u32 (x : Nat), .int .u8 (k : Nat)] 129 (0, 0)) ∧ w.heap.size ≤ nb ∧ Rd A rp bs at2 ∧ Only (fun b => b = rp) w A ∧ x < 2 ^ k ∧ k ≤ 21 ∧ f + k = 22 ∧ R = decF (tabOf l) bs f x k at2) (fun c _ _ _ _ A => 22 - wordK A c)
  case atStart => exact ⟨0, 0, at_, 22, w.heap.size, rfl, HN.out, Nat.le_refl _, HR.out.below (box_b w _), (Only.refl _ w).alloc _, by decide, by decide, rfl, HR0.out⟩
  case round =>
    obtain ⟨x, k, at2, f, nb, rfl, hc, hnb, hrd, hon, hx, hk, hf, he⟩ := hrel
    have HWK := Lib.hid (wordK_eq hc)
    obtain ⟨c0, c1, d0, d1⟩ := two_cell hc
    have hT := HT.out.only hon (fun b h1 h2 e => by subst e; have := HRP.out; omega)
    obtain ⟨a1, n1, a2, n2, mb, n, hp, _, _, hM, _⟩ := hT
    have hpt : wr.cell? ⟨p, 2, none⟩ = some (.map (some mb)) := cells3' hp
    have hx32 : x < 4294967296 := Nat.lt_of_lt_of_le hx (Nat.le_trans (Nat.pow_le_pow_right (by decide) hk) (by decide))
    have hL : ∀ q, (Instr.lookup 125 (.map (some mb)) (.agg #[.int .u32 (x : Nat), .int .u8 (k : Nat)]) true).run Tryz.prog (wr.drewN q) = .ok (.tuple #[.int .i64 ((tabOf l x k).getD 0), .bool (tabOf l x k).isSome]) (wr.drewN q) := fun q => (hM.same rfl : MapF (wr.drewN q) mb n (tabOf l)).look x k hx32 (by omega)
    have HE := Lib.hid he
    have HRD := Lib.hid hrd
    have HON := Lib.hid hon
    have HX := Lib.hid hx
    clear hp hM he hrd hon hx hc
    have hgd := HG.out x k
    obtain ⟨f, rfl⟩ : ∃ f', f = f' + 1 := ⟨f - 1, by omega⟩
    unfold decF at HE
    generalize tabOf l x k = r at *
    rcases r with _ | v
    · clear hgd
      simp only [Option.getD_none, Option.isSome_none] at hL
      go_wp2_with fail
      go_quiet (fail)
      go_wp2
      go_ret2
      rw [HE.out]
      exact ⟨HON.out.trans (only_drewN _ _ _), rfl⟩
    · obtain ⟨hk20, hv⟩ := hgd v rfl
      clear hgd
      simp only [Option.getD_some, Option.isSome_some] at hL
      rcases hv with rfl | ⟨s, rfl, hs⟩
      · have HRP1 := HRD.out.lt
        have hrpw : rp < w.heap.size := HR.out.lt
        by_cases hlt : at2 + 1 ≤ 8 * bs.length
        · have HGET := fun q => lsb_get (wr.drewN q) rp bs at2 1 (by decide) (HRD.out.drewN q) hlt
          have HE2 : Hid (R = decF (tabOf l) bs f (2 * x + bit bs at2) (k + 1) (at2 + 1)) := by
            unfold Hid
            have := HE.out
            simpa [hlt] using this
          have hnum : num bs at2 1 = bit bs at2 := by simp [num]
          simp only [hnum] at HGET
          have HGET := Lib.hid HGET
          have hbl := bit_lt bs at2
          have HLT := Lib.hid hlt
          clear HE hlt hnum HT HG
          generalize hbe : bit bs at2 = b at *
          clear hbe
          go_wp2_with fail
          go_quiet (fail)
          go_wp2_with fail
          refine (HGET.out _).mono ?_
          rintro e w1 ⟨rfl, hrd1, hon1⟩
          have c0' : w1.cell? ⟨nb, 0, none⟩ = some (.int .u32 (x : Nat)) := (World.cell?_of_block (a := ⟨nb, 0, none⟩) (hon1.block nb (World.cell?_lt c0) (by show nb ≠ rp; omega))).trans c0
          have c1' : w1.cell? ⟨nb, 1, none⟩ = some (.int .u8 (k : Nat)) := (World.cell?_of_block (a := ⟨nb, 1, none⟩) (hon1.block nb (World.cell?_lt c0) (by show nb ≠ rp; omega))).trans c1
          have d0' : w1.frozen? ⟨nb, 0, none⟩ = false := (World.frozen?_of_block (a := ⟨nb, 0, none⟩) (hon1.block nb (World.cell?_lt c0) (by show nb ≠ rp; omega))).trans d0
          have d1' : w1.frozen? ⟨nb, 1, none⟩ = false := (World.frozen?_of_block (a := ⟨nb, 1, none⟩) (hon1.block nb (World.cell?_lt c0) (by show nb ≠ rp; omega))).trans d1
          have hor := or_word x b k HX.out hbl hk20
          have HRD1 := Lib.hid hrd1
          have HON1 := Lib.hid ((HON.out.trans (only_drewN _ _ _)).trans hon1)
          clear hrd1 hon1 c0 c1 d0 d1 hL HON HRD
          go_wp2_with fail
          have hq1 : (2 * (x : Int) + (b : Int)) = ((2 * x + b : Nat) : Int) := by omega
          have hq2 : ((k : Int) + 1) = ((k + 1 : Nat) : Int) := by omega
          rw [hq1, hq2, HWK.out]
          obtain ⟨g1, g2⟩ := cell_next w1 nb (.int .u32 ((2 * x + b : Nat) : Int)) (.int .u8 ((k + 1 : Nat) : Int)) 129
          generalize ((w1.setCell ⟨nb, 0, none⟩ (.int .u32 ((2 * x + b : Nat) : Int))).setCell ⟨nb, 1, none⟩ (.int .u8 ((k + 1 : Nat) : Int))).alloc (.cells #[.int .u32 ((2 * x + b : Nat) : Int), .int .u8 ((k + 1 : Nat) : Int)] 129) = W at *
          have hb1 : Below w.heap.size w1 W := ⟨g2.os, g2.tape, g2.output, g2.size, fun b' hb' => g2.block b' (by have := HON1.out.size; omega) (by show b' ≠ nb; omega)⟩
          rw [wordK_eq g1]
          have hpow : 2 * x + b < 2 ^ (k + 1) := by have := HX.out; rw [Nat.pow_succ]; omega
          have hws := HON1.out.size
          exact ⟨⟨2 * x + b, k + 1, at2 + 1, f, w1.heap.size, rfl, g1, hws, HRD1.out.belowAt hb1 hrpw, ⟨hb1.os.trans HON1.out.os, hb1.tape.trans HON1.out.tape, hb1.output.trans HON1.out.output, Nat.le_trans hws hb1.size, fun b' hb' hn => (hb1.block b' hb').trans (HON1.out.block b' hb' hn)⟩, hpow, by omega, by omega, HE2.out⟩, by omega⟩
        · have HGET := fun q => lsb_get_no (wr.drewN q) rp bs at2 1 (by decide) (HRD.out.drewN q) (by omega)
          have HE2 : Hid (R = none) := by
            unfold Hid
            have := HE.out
            simpa [hlt] using this
          have HGET := Lib.hid HGET
          clear HE hlt HT HG
          go_wp2_with fail
          go_quiet (fail)
          go_wp2_with fail
          refine (HGET.out _).mono ?_
          rintro e w1 ⟨rfl, q, rfl⟩
          go_wp2
          go_ret2
          rw [HE2.out]
          exact ⟨HON.out.trans (only_drewN _ _ _), rfl⟩
      · clear hs
        have HE2 : Hid (R = some (s, at2)) := by
          unfold Hid
          have := HE.out
          simpa using this
        have t1 : decide ((0 : Int) ≤ (s : Int)) = true := by simp
        clear HE HT HG
        go_wp2_with fail
        go_quiet (fail)
        go_wp2
        go_ret2
        rw [HE2.out]
        exact ⟨HON.out.trans (only_drewN _ _ _), rfl, HRD.out.drewN _⟩
theorem prefix_getLow (w : World) (lo hi p rp : Nat) (l bs : List Nat) (at_ : Nat) (h20 : ∀ x ∈ l, x ≤ 20) (hT : Tb lo hi w p l) (hR : Rd w rp bs at_) (hrp : rp < lo ∨ hi ≤ rp) :
    Calls Tryz.prog 131 #[.pointer (some ⟨p, 0, none⟩), .pointer (some ⟨rp, 0, none⟩)] w fun e w' =>
      Only (fun b => b = rp) w w' ∧ SymOut rp bs (sym l bs at_) e w' := by
  have HP := Lib.hid (prefix_get w lo hi p rp l bs at_ h20 hT hR hrp)
  have hmf : ∀ (fn : Fn) (first cap : Array Value) (w : World), (Instr.makeFunc fn first cap).run Tryz.prog w = .ok (.func fn first cap) w := fun _ _ _ _ => rfl
  clear h20 hT hR hrp
  generalize sym l bs at_ = R at *
  go_enter Tryz.func131, Tryz.ntmps131
  go_wp2_with fail
  refine HP.out.mono ?_
  rintro e w1 ⟨hon, hs⟩
  have HON := Lib.hid hon
  clear hon HP
  rcases R with _ | ⟨s, at2⟩
  · obtain rfl : e = _ := hs
    go_wp2
    go_ret2
    exact ⟨HON.out, rfl⟩
  · obtain ⟨rfl, hrd⟩ : e = _ ∧ _ := hs
    have HRD := Lib.hid hrd
    clear hrd
    go_wp2
    go_ret2
    exact ⟨HON.out, rfl, HRD.out⟩
end Go.Proofs.YtendielanacflaaGreat
