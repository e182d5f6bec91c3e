/- InflateCuts: the walk. -/
import Derived.Test.YtlofoocgiomfbaaCuts
import Derived.Test.YtlofoocgiomfbaaOpen
import Derived.StillTailTactics
namespace Go.Proofs.Ytlofoocgiomfbaa
open Go.RowKit Go.Shelf M01 M04 M09 M10
set_option linter.unusedVariables false

theorem wrap_u8 (n : Int) : IntKind.u8.wrap n = n % 256 := by simp [IntKind.wrap, IntKind.bits, IntKind.signed]
theorem xor8 (a b : Nat) (ha : a < 256) (hb : b < 256) : bits .xor .u8 (a : Int) (b : Int) = ((a ^^^ b : Nat) : Int) := by
  have h1 : (BitVec.ofInt 8 (a : Int)).toNat = a := by
    rw [BitVec.ofInt_natCast, BitVec.toNat_ofNat]; exact Nat.mod_eq_of_lt (by omega)
  have h2 : (BitVec.ofInt 8 (b : Int)).toNat = b := by
    rw [BitVec.ofInt_natCast, BitVec.toNat_ofNat]; exact Nat.mod_eq_of_lt (by omega)
  have h3 : a ^^^ b < 256 := Nat.xor_lt_two_pow (n := 8) ha hb
  show IntKind.u8.wrap ((BitVec.ofInt 8 (a : Int) ^^^ BitVec.ofInt 8 (b : Int)).toNat : Int) = _
  rw [BitVec.toNat_xor, h1, h2, wrap_u8]
  omega
theorem turned_set (tk : List Nat) (y v : Nat) : (turned tk y).set (tk.length - 1) v = tk.set (tk.length - 1) v := by
  unfold turned
  simp

set_option maxRecDepth 100000 in
set_option maxHeartbeats 6400000 in
theorem law_cuts (w : World) (a : Option Addr) (ca : Nat) (l : List Nat) (cut fill : Nat) (ha : RowN .u8 w a ca l) (hl : ∀ x ∈ l, x < 256) (hc : cut < 65536) (hf : fill < 256) :
    Calls Try.prog 9 #[.slice a l.length ca, .int .u16 (cut : Nat), .int .u8 (fill : Nat)] w fun e w' => e = .returned (.bool true) ∧ Below w.heap.size w w' := by
  by_cases c1 : 500 < l.length
  · have t1 : decide ((500 : Int) < (l.length : Int)) = true := by simp; omega
    clear ha hl c1
    go_enter Try.func9, Try.ntmps9
    go_wp2
    go_ret
    exact ⟨rfl, Below.refl _ _⟩
  have t1 : decide ((500 : Int) < (l.length : Int)) = false := by simp; omega
  have HL := Lib.hid (show l.length ≤ 500 by omega)
  have HA := Lib.hid ha
  have HLB := Lib.hid hl
  clear ha hl c1
  cases hR : inflB l with
  | none =>
    go_enter Try.func9, Try.ntmps9
    go_wp2_with fail
    refine (inflate_none (keep := 4000) HA.out HLB.out (by have := HL.out; omega) (by decide) hR).mono ?_
    rintro e w1 ⟨hb1, rfl⟩
    have hb2 := box_b w1 (.cells #[.slice none 0 0, .int .i64 0, .int .i64 0, .bool false] 39)
    have HB2 := Lib.hid (hb1.trans (hb2.mono hb1.size))
    clear hb1 hb2
    go_wp2_with fail
    refine (law10_reads _).mono ?_
    rintro e w6 ⟨rfl, hb6⟩
    have HB6 := Lib.hid (HB2.out.trans (hb6.mono HB2.out.size))
    clear hb6 HB2
    go_wp2
    go_ret
    exact ⟨rfl, HB6.out⟩
  | some r =>
    obtain ⟨at2, o⟩ := r
    obtain ⟨hat0, hat8⟩ := inflB_bound hR
    obtain ⟨u, hu⟩ : ∃ u, (at2 + 7) / 8 = u := ⟨_, rfl⟩
    have hu1 : 1 ≤ u := by omega
    have hul : u ≤ l.length := by omega
    have HR := Lib.hid hR
    have HR2 := Lib.hid (inflB_behind (m := []) hR hu hul)
    rw [List.append_nil] at HR2
    obtain ⟨n, hn⟩ : ∃ n, cut % u = n := ⟨_, rfl⟩
    have hnu : n < u := by rw [← hn]; exact Nat.mod_lt _ hu1
    have HR3 := Lib.hid (inflB_cut (k := n) hR (by omega))
    have HTK := Lib.hid (rowN_take HA.out u)
    have hca := HA.out.1
    have hn2 : ((cut : Nat) : Int) % (u : Int) = (n : Int) := by rw [← hn]; rfl
    have hn3 : Int.tmod ((cut : Nat) : Int) (u : Int) = (n : Int) := by rw [← hn]; rfl
    clear hR
    obtain ⟨tk, htk⟩ : ∃ tk, l.take u = tk := ⟨_, rfl⟩
    have htl : tk.length = u := by rw [← htk, List.length_take]; omega
    rw [htk] at HR2 HTK
    have HTB : Hid (∀ x ∈ tk, x < 256) := fun x hx => by rw [← htk] at hx; exact HLB.out x (List.mem_of_mem_take hx)
    obtain ⟨c, hce⟩ : ∃ c, tk.getD (u - 1) 0 = c := ⟨_, rfl⟩
    have hcl : l.getD (u - 1) 0 = c := by
      rw [← hce, ← htk]
      simp only [List.getD]
      rw [List.getElem?_take_of_lt (by omega)]
    replace htk := Lib.hid htk
    replace hn := Lib.hid hn
    subst htl
    obtain ⟨fb, hfb⟩ : ∃ fb, o.take 4000 = fb := ⟨_, rfl⟩
    obtain ⟨sz, hsz⟩ : ∃ sz, o.length = sz := ⟨_, rfl⟩
    replace hfb := Lib.hid hfb
    replace hsz := Lib.hid hsz
    replace hu := Lib.hid hu
    obtain ⟨bb, off, rfl, hbb, hcb⟩ := HA.out.at (i := tk.length - 1) (by omega)
    have hce2 : l[tk.length - 1] = c := by rw [← hcl]; simp [List.getD, List.getElem?_eq_getElem (show tk.length - 1 < l.length by omega)]
    rw [hce2] at hcb
    have hc256 : c < 256 := by rw [← hce2]; exact HLB.out _ (List.getElem_mem _)
    have HBB := Lib.hid hbb
    have HCB := Lib.hid hcb
    replace hce := Lib.hid hce
    clear hce2 hcl hbb hcb
    go_enter Try.func9, Try.ntmps9
    go_wp2_with fail
    refine (inflate_some (keep := 4000) HA.out HLB.out (by have := HL.out; omega) (by decide) HR.out).mono ?_
    rintro e w1 ⟨hb1, a1, k1, rfl, hr1⟩
    rw [hfb.out, hsz.out, hu.out]
    rw [hfb.out] at hr1
    have hb2 := box_b w1 (.cells #[.slice a1 fb.length k1, .int .i64 (sz : Nat), .int .i64 (tk.length : Nat), .bool false] 39)
    have HB2 := Lib.hid (hb1.trans (hb2.mono hb1.size))
    have HF2 := Lib.hid (FlwAt.new w1 (s := sz) (u := tk.length) hr1)
    clear hb1 hb2 hr1
    have u1 : decide ((tk.length : Int) < 1) = false := by simp; omega
    have u2 : decide (l.length < tk.length) = false := by simp; omega
    have u3 : ((tk.length : Int) == 0) = false := beq_eq_false_iff_ne.2 (by omega)
    have u4 : ¬ ((tk.length : Int) = 0) := by omega
    have q2 : (0 : Int) ≤ (n : Int) := by omega
    have q3 : (n : Int) ≤ (ca : Int) := by omega
    have hvl : (l.take n).length = n := by rw [List.length_take]; omega
    obtain ⟨e0, e1, e2, e3, _, _⟩ := four_cells HF2.out.1
    have HI := Lib.hid (inflate_none (keep := 4000) (rowN_take (HA.out.below HB2.out) n) (fun x hx => HLB.out x (List.mem_of_mem_take hx)) (by rw [hvl]; have := HL.out; omega) (by decide) HR3.out)
    rw [hvl] at HI
    clear hvl HR3
    go_wp2_with fail
    obtain ⟨w2, hw2⟩ : ∃ w2, w1.alloc (.cells #[.slice a1 fb.length k1, .int .i64 (sz : Nat), .int .i64 (tk.length : Nat), .bool false] 39) = w2 := ⟨_, rfl⟩
    rw [hw2] at HF2 HB2 HI
    rw [hw2]
    clear hw2 e0 e1 e2 e3
    generalize w1.heap.size = bf at *
    refine HI.out.mono ?_
    rintro e w3 ⟨hb3, rfl⟩
    clear HI
    have hb4 := box_b w3 (.cells #[.slice none 0 0, .int .i64 0, .int .i64 0, .bool false] 39)
    have HF4 := Lib.hid ((HF2.out.below hb3).below hb4)
    have HB4 := Lib.hid ((HB2.out.trans (hb3.mono HB2.out.size)).trans (hb4.mono (HB2.out.trans (hb3.mono HB2.out.size)).size))
    have hs4 : w3.heap.size + 1 = (w3.alloc (.cells #[.slice none 0 0, .int .i64 0, .int .i64 0, .bool false] 39)).heap.size := by simp
    clear HF2 HB2 hb3 hb4
    obtain ⟨w4, hw4⟩ : ∃ w4, w3.alloc (.cells #[.slice none 0 0, .int .i64 0, .int .i64 0, .bool false] 39) = w4 := ⟨_, rfl⟩
    rw [hw4] at HF4 HB4 hs4
    obtain ⟨e0, e1, e2, e3, _, _⟩ := four_cells ((HF4.out.below (box_b w4 (.cells #[] 5))).1)
    rw [← hw4] at e0 e1 e2 e3
    replace hw4 := Lib.hid hw4
    have HS4 := Lib.hid hs4
    have HTK4 := Lib.hid (HTK.out.below HB4.out)
    clear hs4
    have p1 : (0 : Int) ≤ (tk.length : Int) := by omega
    have p2 : (tk.length : Int) ≤ (ca : Int) := by omega
    have hll : tk.length ≤ 500 := by have := HL.out; omega
    go_wp2_with (at_builtin; rw [hw4.out, HS4.out]; refine appAnyN et_u8 rfl (.tmp 53) (.tmp 57) rfl (a := some ⟨w4.heap.size, 0, none⟩) (cap := 0) (l := []) (ys := tk) (base := w4.heap.size) rfl (OwnN.lit0 _ _ _ _ (Nat.le_refl _)) rfl rfl (HTK4.out.below ((Below.refl _ _).alloc (Nat.le_refl _) _)) (by simp; omega) (by simp; omega) (by simp) ?_; intro a5 cw w6 hown6 hg6 hb6; simp only [List.nil_append] at hown6; replace hb6 := ((Below.refl w4.heap.size w4).alloc (Nat.le_refl _) _).trans hb6)
    have HBW6 := Lib.hid hb6
    obtain ⟨g, rfl, hg1, hg2⟩ : ∃ g, a5 = some ⟨g, 0, none⟩ ∧ w4.heap.size ≤ g ∧ g < w6.heap.size := by
      rcases hown6.form with ⟨_, _, h⟩ | h
      · rw [h] at hu1; simp at hu1
      · exact h
    have h44 : w.heap.size ≤ w4.heap.size ∧ bf < w4.heap.size := ⟨HB4.out.size, HF4.out.2.2⟩
    have HT0 : Hid (turned tk 0 = tk) := by
      unfold Hid turned
      rw [Nat.xor_zero]
      simp only [List.getD, List.getElem?_eq_getElem (show tk.length - 1 < tk.length by omega), Option.getD_some]
      exact List.set_getElem_self _
    have HO6 := Lib.hid (HT0.out.symm ▸ hown6)
    clear hown6 hg6 hb6 HTK4 e0 e1 e2 e3 HS4 hw4
    obtain ⟨base, hbase⟩ : ∃ base, w4.heap.size = base := ⟨_, rfl⟩
    rw [hbase] at HO6 hg1 h44 HBW6
    have HBS := Lib.hid hbase
    clear hbase
    obtain ⟨v, hv⟩ : ∃ v, tk.length - 1 = v := ⟨_, rfl⟩
    have qv : (tk.length : Int) - 1 = (v : Int) := by omega
    have qv0 : (0 : Int) ≤ (v : Int) := by omega
    have qv1 : (v : Int) < (l.length : Int) := by omega
    have qv2 : (v : Int) < (tk.length : Int) := by omega
    rw [hv] at HCB hce
    replace hv := Lib.hid hv
    have hvl : v < tk.length := by omega
    have hvl2 : v < l.length := by omega
    have hwv : IntKind.i64.wrap (v : Int) = (v : Int) := IntWalk.i64_in _ (by omega)
    go_wp2_with fail
    go_loopw [12] (fun s A => ∃ k y : Nat, s = .int .i64 (k : Nat) ∧ k ≤ 8 ∧ y < 256 ∧ Below base w4 A ∧ OwnN 5 .u8 A base (some ⟨g, 0, none⟩) cw (turned tk y) ∧ base ≤ A.heap.size ∧ (∀ j, j < k → sameR o tk.length (inflB (turned tk (2 ^ (7 - j)))) = true)) (fun s _ => 8 - (intOf s).toNat)
    case atStart => exact ⟨0, 0, rfl, by omega, by omega, HBW6.out, HO6.out, by omega, fun j hj => by omega⟩
    case round =>
      clear HBW6 HO6
      obtain ⟨k, y, rfl, hk8, hy, hbw, hoa, hbs, hga⟩ := hrel
      have HBW := Lib.hid hbw
      have HOA := Lib.hid hoa
      have HGA := Lib.hid hga
      clear hbw hoa hga
      by_cases hlt : k < 8
      · obtain ⟨sh, hsh⟩ : ∃ sh, 2 ^ (7 - k) = sh := ⟨_, rfl⟩
        have hsh1 : (128 : Int) / 2 ^ k = (sh : Int) := by
          rw [← hsh, show (128 : Int) = ((2 ^ (7 - k) * 2 ^ k : Nat) : Int) by rw [← Nat.pow_add, show 7 - k + k = 7 by omega]; rfl, Int.natCast_mul, show (2 : Int) ^ k = ((2 ^ k : Nat) : Int) by simp]
          exact Int.mul_ediv_cancel _ (by have := Nat.pow_pos (n := k) (show 0 < 2 by decide); omega)
        have hsh2 : sh < 256 := by rw [← hsh]; exact Nat.lt_of_lt_of_le (Nat.pow_lt_pow_right (by decide) (show 7 - k < 8 by omega)) (by decide)
        obtain ⟨cx, hcx⟩ : ∃ cx, c ^^^ sh = cx := ⟨_, rfl⟩
        have hx8 : bits .xor .u8 (c : Int) (sh : Int) = (cx : Int) := by rw [xor8 c sh hc256 hsh2, hcx]
        have HSET : Hid ((turned tk y).set v cx = turned tk sh) := by
          unfold Hid
          rw [← hv.out, turned_set, ← hcx, ← hce.out, ← hv.out]
          rfl
        replace hcx := Lib.hid hcx
        have HSH := Lib.hid hsh
        clear hsh
        have HFA := Lib.hid (HF4.out.below (HBS.out.symm ▸ HBW.out))
        have HBA := HB4.out.trans (HBW.out.mono h44.1)
        have hcb := (World.cell?_of_block (a := ⟨bb, off + v, none⟩) (HBA.block bb HBB.out)).trans HCB.out
        obtain ⟨e0, e1, e2, e3, _, _⟩ := four_cells HFA.out.1
        obtain ⟨g', he2, _, _, hcl, hfr⟩ := HOA.out.at (i := v) (by rw [turned_len]; omega)
        simp only [Option.some.injEq, Addr.mk.injEq, and_true] at he2
        subst he2
        obtain ⟨old, hcl⟩ : ∃ old, wr.cell? ⟨g, v, none⟩ = some old := ⟨_, hcl⟩
        clear HBA
        go_wp2_with fail
        go_still_tail 14, (by kernel_rfl)
        change wpList _ _ _ _ _ wr.drew
        have HBW2 := Lib.hid (show Below base w4 wr.drew from below_drewN HBW.out 1)
        have HOA2 := Lib.hid (show OwnN 5 .u8 wr.drew base (some ⟨g, 0, none⟩) cw (turned tk y) from HOA.out)
        have hcl2 : wr.drew.cell? ⟨g, v, none⟩ = _ := hcl
        have hfr2 : wr.drew.frozen? ⟨g, v, none⟩ = false := hfr
        have hbs2 : base ≤ wr.drew.heap.size := hbs
        clear hcb e0 e1 e2 e3 hcl hfr HBW HOA hbs HFA
        generalize wr.drew = A2 at *
        go_wp2_with fail
        have HBW3 := Lib.hid (HBW2.out.setCell (p := ⟨g, v, none⟩) hg1 (.int .u8 (cx : Nat)))
        have HOA3 := Lib.hid (HSET.out ▸ (HOA2.out.stored v cx).1)
        have hbs3 : base ≤ (A2.setCell ⟨g, v, none⟩ (.int .u8 (cx : Nat))).heap.size := by simpa using hbs2
        clear HBW2 HOA2 hbs2 hcl2 hfr2 HSET hx8
        generalize A2.setCell ⟨g, v, none⟩ (.int .u8 (cx : Nat)) = A3 at *
        have HTBY := Lib.hid (turned_bytes HTB.out (y := sh) hsh2)
        have HI := Lib.hid (inflate_inflate A3 (some ⟨g, 0, none⟩) cw (turned tk sh) 4000 HOA3.out.row HTBY.out (by rw [turned_len]; omega) (by decide))
        rw [turned_len] at HI
        have HGK : Hid (sameR o tk.length (inflB (turned tk (2 ^ (7 - k)))) = sameR o tk.length (inflB (turned tk sh))) := by unfold Hid; rw [HSH.out]
        clear HTBY
        generalize inflB (turned tk sh) = RR at *
        refine HI.out.mono ?_
        clear HI
        rcases RR with _ | ⟨at3, o3⟩
        · rintro e w10 ⟨hb10, he⟩
          obtain rfl : e = _ := he
          have HBW10 := HBW3.out.trans (hb10.mono hbs3)
          have hb11 := box_b w10 (.cells #[.slice none 0 0, .int .i64 0, .int .i64 0, .bool false] 39)
          have HBW := Lib.hid (HBW10.trans (hb11.mono (Nat.le_trans hbs3 hb10.size)))
          have HOA := Lib.hid ((HOA3.out.below hb10).below hb11)
          have hbs : base ≤ (w10.alloc (.cells #[.slice none 0 0, .int .i64 0, .int .i64 0, .bool false] 39)).heap.size := Nat.le_trans (Nat.le_trans hbs3 hb10.size) hb11.size
          clear hb10 hb11 HBW10 HBW3 HOA3 hbs3 HGK HSH
          go_wp2_with fail
          obtain ⟨A, hA⟩ : ∃ A, w10.alloc (.cells #[.slice none 0 0, .int .i64 0, .int .i64 0, .bool false] 39) = A := ⟨_, rfl⟩
          rw [hA] at HBW HOA hbs
          rw [hA]
          clear hA
          obtain ⟨y, hy2⟩ : ∃ y, sh = y := ⟨_, rfl⟩
          rw [hy2] at HOA
          clear hy2
          obtain ⟨m, hm⟩ : ∃ m, 8 - k = m := ⟨_, rfl⟩
          have qm : (8 : Int) - (k : Int) = (m : Int) := by omega
          have hm8 : m ≤ 8 := by omega
          have hwm : IntKind.i64.wrap (m : Int) = (m : Int) := IntWalk.i64_in _ (by omega)
          obtain ⟨yy, hyy⟩ : ∃ yy, fill * 2 ^ m % 256 = yy := ⟨_, rfl⟩
          have hyy2 : yy < 256 := by rw [← hyy]; exact Nat.mod_lt _ (by decide)
          have hyz : yy % 2 ^ (8 - k) = 0 := by
            rw [hm, ← hyy, Nat.mod_mod_of_dvd _ (show 2 ^ m ∣ 256 from ⟨2 ^ (8 - m), by rw [← Nat.pow_add, show m + (8 - m) = 8 by omega]⟩), Nat.mul_mod_left]
          have hw1 : IntKind.u8.wrap ((fill : Int) * 2 ^ m) = (yy : Int) := by rw [wrap_u8, ← hyy]; simp
          have hw2 : ((fill : Int) * 2 ^ m) % 256 = (yy : Int) := by rw [← hyy]; simp
          obtain ⟨cy, hcy⟩ : ∃ cy, c ^^^ yy = cy := ⟨_, rfl⟩
          have hx9 : bits .xor .u8 (c : Int) (yy : Int) = (cy : Int) := by rw [xor8 c yy hc256 hyy2, hcy]
          have HY := Lib.hid (cuts_good HR2.out hu.out rfl HTB.out k hk8 HGA.out yy hyy2 hyz)
          have HK0 : Hid (k = 0 → yy = 0) := fun h => by rw [h] at hyz; have h2 : yy % 256 = 0 := hyz; omega
          have HSY : Hid ((turned tk y).set v cy = turned tk yy) := by
            unfold Hid
            rw [← hv.out, turned_set, ← hcy, ← hce.out, ← hv.out]
            rfl
          clear hm hyy hyz hcy HGA
          have HFA := Lib.hid (HF4.out.below (HBS.out.symm ▸ HBW.out))
          have HBA := HB4.out.trans (HBW.out.mono h44.1)
          have hcb := (World.cell?_of_block (a := ⟨bb, off + v, none⟩) (HBA.block bb HBB.out)).trans HCB.out
          obtain ⟨e0, e1, e2, e3, _, _⟩ := four_cells HFA.out.1
          obtain ⟨g', he2, _, _, hcl, hfr⟩ := HOA.out.at (i := v) (by rw [turned_len]; omega)
          simp only [Option.some.injEq, Addr.mk.injEq, and_true] at he2
          subst he2
          obtain ⟨old, hcl⟩ : ∃ old, A.cell? ⟨g, v, none⟩ = some old := ⟨_, hcl⟩
          clear HBA
          go_wp2_with fail
          go_still_tail 16, (by kernel_rfl)
          change wpList _ _ _ _ _ A.drew
          have HBW2 := Lib.hid (show Below base w4 A.drew from below_drewN HBW.out 1)
          have HOA2 := Lib.hid (show OwnN 5 .u8 A.drew base (some ⟨g, 0, none⟩) cw (turned tk y) from HOA.out)
          have hcl2 : A.drew.cell? ⟨g, v, none⟩ = _ := hcl
          have hfr2 : A.drew.frozen? ⟨g, v, none⟩ = false := hfr
          have hbs2 : base ≤ A.drew.heap.size := hbs
          clear hcb e0 e1 e2 e3 hcl hfr HBW HOA hbs HFA
          generalize A.drew = B2 at *
          by_cases hk0 : k = 0
          · skip
            have HBW4 := Lib.hid (HBW2.out.setCell (p := ⟨g, v, none⟩) hg1 (.int .u8 (cy : Nat)))
            have HOA4 := Lib.hid (HSY.out ▸ (HOA2.out.stored v cy).1)
            have hbs4 : base ≤ (B2.setCell ⟨g, v, none⟩ (.int .u8 (cy : Nat))).heap.size := by simpa using hbs2
            clear HBW2 HOA2 hbs2
            have tk0 : ((k : Int) == 0) = true := beq_iff_eq.2 (by omega)
            have hyy0 := HK0.out hk0
            have HFB := Lib.hid (HF4.out.below (HBS.out.symm ▸ HBW4.out))
            have HBB4 := HB4.out.trans (HBW4.out.mono h44.1)
            have hcb := (World.cell?_of_block (a := ⟨bb, off + v, none⟩) (HBB4.block bb HBB.out)).trans HCB.out
            obtain ⟨e0, e1, e2, e3, _, _⟩ := four_cells HFB.out.1
            obtain ⟨g', he2, _, _, hcl, hfr⟩ := HOA4.out.at (i := v) (by rw [turned_len]; omega)
            simp only [Option.some.injEq, Addr.mk.injEq, and_true] at he2
            subst he2
            obtain ⟨old2, hcl⟩ : ∃ old2, (B2.setCell ⟨g, v, none⟩ (.int .u8 (cy : Nat))).cell? ⟨g, v, none⟩ = some old2 := ⟨_, hcl⟩
            clear HBB4 HFB
            go_wp2_with fail
            generalize B2.setCell ⟨g, v, none⟩ (.int .u8 (cy : Nat)) = B3 at *
            go_still_tail 11, (by kernel_rfl)
            change wpList _ _ _ _ _ B3.drew
            have HBW5 := Lib.hid (show Below base w4 B3.drew from below_drewN HBW4.out 1)
            have HOA5 := Lib.hid (show OwnN 5 .u8 B3.drew base (some ⟨g, 0, none⟩) cw (turned tk yy) from HOA4.out)
            have hcl3 : B3.drew.cell? ⟨g, v, none⟩ = _ := hcl
            have hfr3 : B3.drew.frozen? ⟨g, v, none⟩ = false := hfr
            have hbs5 : base ≤ B3.drew.heap.size := hbs4
            clear hcb e0 e1 e2 e3 hcl hfr HBW4 HOA4 hbs4 hcl2 hfr2
            generalize B3.drew = B5 at *
            have HSZ : Hid ((turned tk yy).set v c = turned tk 0) := by
              unfold Hid
              rw [← hv.out, turned_set]
              unfold turned
              rw [Nat.xor_zero, hv.out, hce.out]
            have HBW4 := Lib.hid (HBW5.out.setCell (p := ⟨g, v, none⟩) hg1 (.int .u8 (c : Nat)))
            have HOA4 := Lib.hid (HSZ.out ▸ (HOA5.out.stored v c).1)
            have hbs4 : base ≤ (B5.setCell ⟨g, v, none⟩ (.int .u8 (c : Nat))).heap.size := by simpa using hbs5
            clear HBW5 HOA5 hbs5
            go_wp2_with fail
            clear hcl3 hfr3
            generalize B5.setCell ⟨g, v, none⟩ (.int .u8 (c : Nat)) = A4 at *
            have HSAME := Lib.hid (hyy0 ▸ HY.out)
            have hyf : 0 < 256 := by decide
            clear HY
            have HTBY := Lib.hid (turned_bytes HTB.out (y := 0) hyf)
            have HIF := Lib.hid (fun at3 o3 (hRR : inflB (turned tk 0) = some (at3, o3)) => inflate_some (keep := 4000) HOA4.out.row HTBY.out (by rw [turned_len]; omega) (by decide) hRR)
            rw [turned_len] at HIF
            generalize inflB (turned tk 0) = RR at *
            rcases RR with _ | ⟨at3, o3⟩
            · exact absurd HSAME.out (by unfold sameR; simp)
            · have HIF2 := Lib.hid (HIF.out at3 o3 rfl)
              have HSAME2 := Lib.hid (show sameB (o3.take 4000) o3.length ((at3 + 7) / 8) (o.take 4000) o.length tk.length = true from HSAME.out)
              clear HIF HSAME
              rw [hfb.out, hsz.out] at HSAME2
              generalize o3.take 4000 = fx at *
              generalize o3.length = sx at *
              generalize (at3 + 7) / 8 = ux at *
              go_wp2_with fail
              refine HIF2.out.mono ?_
              rintro e w20 ⟨hb20, a20, k20, rfl, hr20⟩
              clear HIF2
              have hb21 := box_b w20 (.cells #[.slice a20 fx.length k20, .int .i64 (sx : Nat), .int .i64 (ux : Nat), .bool false] 39)
              have HBW21 := Lib.hid ((HBW4.out.trans (hb20.mono hbs4)).trans (hb21.mono (Nat.le_trans hbs4 hb20.size)))
              have HN21 := Lib.hid (FlwAt.new w20 (s := sx) (u := ux) hr20)
              have HF21 := Lib.hid (HF4.out.below (HBS.out.symm ▸ HBW21.out))
              have HBA21 := Lib.hid (HB4.out.trans (HBW21.out.mono h44.1))
              obtain ⟨e0, e1, e2, e3, _, _⟩ := four_cells HF21.out.1
              obtain ⟨d0, d1, d2, d3, _, _⟩ := four_cells HN21.out.1
              have HS := Lib.hid (same_flow _ a20 a1 k20 k1 fx fb sx ux sz tk.length HN21.out.2.1 HF21.out.2.1)
              rw [HSAME2.out] at HS
              clear hb20 hb21 hr20 HBW4 HBW21 HOA4 HF21 HN21
              go_wp2_with fail
              refine HS.out.mono ?_
              rintro e w22 ⟨rfl, hb22⟩
              have HBA22 := Lib.hid (HBA21.out.trans (hb22.mono HBA21.out.size))
              clear HS hb22 HBA21 e0 e1 e2 e3 d0 d1 d2 d3
              go_wp2_with fail
              refine (law10_reads _).mono ?_
              rintro e w23 ⟨rfl, hb23⟩
              have HBA23 := Lib.hid (HBA22.out.trans (hb23.mono HBA22.out.size))
              clear hb23 HBA22
              go_wp2
              go_ret
              exact ⟨rfl, HBA23.out⟩
          · skip
            have HBW4 := Lib.hid (HBW2.out.setCell (p := ⟨g, v, none⟩) hg1 (.int .u8 (cy : Nat)))
            have HOA4 := Lib.hid (HSY.out ▸ (HOA2.out.stored v cy).1)
            have hbs4 : base ≤ (B2.setCell ⟨g, v, none⟩ (.int .u8 (cy : Nat))).heap.size := by simpa using hbs2
            clear HBW2 HOA2 hbs2
            have tk0 : ((k : Int) == 0) = false := beq_eq_false_iff_ne.2 (by omega)
            go_wp2_with fail
            clear hcl2 hfr2
            generalize B2.setCell ⟨g, v, none⟩ (.int .u8 (cy : Nat)) = A4 at *
            have HSAME := Lib.hid HY.out
            have hyf := hyy2
            clear HY
            have HTBY := Lib.hid (turned_bytes HTB.out (y := yy) hyf)
            have HIF := Lib.hid (fun at3 o3 (hRR : inflB (turned tk yy) = some (at3, o3)) => inflate_some (keep := 4000) HOA4.out.row HTBY.out (by rw [turned_len]; omega) (by decide) hRR)
            rw [turned_len] at HIF
            generalize inflB (turned tk yy) = RR at *
            rcases RR with _ | ⟨at3, o3⟩
            · exact absurd HSAME.out (by unfold sameR; simp)
            · have HIF2 := Lib.hid (HIF.out at3 o3 rfl)
              have HSAME2 := Lib.hid (show sameB (o3.take 4000) o3.length ((at3 + 7) / 8) (o.take 4000) o.length tk.length = true from HSAME.out)
              clear HIF HSAME
              rw [hfb.out, hsz.out] at HSAME2
              generalize o3.take 4000 = fx at *
              generalize o3.length = sx at *
              generalize (at3 + 7) / 8 = ux at *
              go_wp2_with fail
              refine HIF2.out.mono ?_
              rintro e w20 ⟨hb20, a20, k20, rfl, hr20⟩
              clear HIF2
              have hb21 := box_b w20 (.cells #[.slice a20 fx.length k20, .int .i64 (sx : Nat), .int .i64 (ux : Nat), .bool false] 39)
              have HBW21 := Lib.hid ((HBW4.out.trans (hb20.mono hbs4)).trans (hb21.mono (Nat.le_trans hbs4 hb20.size)))
              have HN21 := Lib.hid (FlwAt.new w20 (s := sx) (u := ux) hr20)
              have HF21 := Lib.hid (HF4.out.below (HBS.out.symm ▸ HBW21.out))
              have HBA21 := Lib.hid (HB4.out.trans (HBW21.out.mono h44.1))
              obtain ⟨e0, e1, e2, e3, _, _⟩ := four_cells HF21.out.1
              obtain ⟨d0, d1, d2, d3, _, _⟩ := four_cells HN21.out.1
              have HS := Lib.hid (same_flow _ a20 a1 k20 k1 fx fb sx ux sz tk.length HN21.out.2.1 HF21.out.2.1)
              rw [HSAME2.out] at HS
              clear hb20 hb21 hr20 HBW4 HBW21 HOA4 HF21 HN21
              go_wp2_with fail
              refine HS.out.mono ?_
              rintro e w22 ⟨rfl, hb22⟩
              have HBA22 := Lib.hid (HBA21.out.trans (hb22.mono HBA21.out.size))
              clear HS hb22 HBA21 e0 e1 e2 e3 d0 d1 d2 d3
              go_wp2_with fail
              refine (law10_reads _).mono ?_
              rintro e w23 ⟨rfl, hb23⟩
              have HBA23 := Lib.hid (HBA22.out.trans (hb23.mono HBA22.out.size))
              clear hb23 HBA22
              go_wp2
              go_ret
              exact ⟨rfl, HBA23.out⟩
        · rintro e w10 ⟨hb10, a8, k8, he, hr8⟩
          obtain rfl : e = _ := he
          generalize hfx : o3.take 4000 = fx at *
          generalize hsx : o3.length = sx at *
          generalize hux : (at3 + 7) / 8 = ux at *
          have HBW10 := HBW3.out.trans (hb10.mono hbs3)
          have hb11 := box_b w10 (.cells #[.slice a8 fx.length k8, .int .i64 (sx : Nat), .int .i64 (ux : Nat), .bool false] 39)
          have HBW11 := Lib.hid (HBW10.trans (hb11.mono (Nat.le_trans hbs3 hb10.size)))
          have HOA11 := Lib.hid ((HOA3.out.below hb10).below hb11)
          have HN11 := Lib.hid (FlwAt.new w10 (s := sx) (u := ux) hr8)
          have hbs11 : base ≤ (w10.alloc (.cells #[.slice a8 fx.length k8, .int .i64 (sx : Nat), .int .i64 (ux : Nat), .bool false] 39)).heap.size := Nat.le_trans (Nat.le_trans hbs3 hb10.size) hb11.size
          have HGK2 : Hid (sameR o tk.length (inflB (turned tk (2 ^ (7 - k)))) = sameB fx sx ux fb sz tk.length) := by
            unfold Hid
            rw [HGK.out]
            unfold sameR
            simp only [hfx, hsx, hux, hfb.out, hsz.out]
          have HF11 := Lib.hid (HF4.out.below (HBS.out.symm ▸ HBW11.out))
          clear hb10 hb11 HBW10 HBW3 HOA3 hbs3 HGK hr8 hfx hsx hux
          obtain ⟨e0, e1, e2, e3, _, _⟩ := four_cells HF11.out.1
          obtain ⟨d0, d1, d2, d3, _, _⟩ := four_cells HN11.out.1
          have HS := Lib.hid (same_flow _ a8 a1 k8 k1 fx fb sx ux sz tk.length HN11.out.2.1 HF11.out.2.1)
          clear HN11 HF11
          go_wp2_with fail
          refine HS.out.mono ?_
          clear HS e0 e1 e2 e3 d0 d1 d2 d3
          generalize w10.alloc (.cells #[.slice a8 fx.length k8, .int .i64 (sx : Nat), .int .i64 (ux : Nat), .bool false] 39) = w11 at *
          generalize sameB fx sx ux fb sz tk.length = sb at *
          rintro e A ⟨rfl, hbA⟩
          have HBW := Lib.hid (HBW11.out.trans (hbA.mono hbs11))
          have HOA := Lib.hid (HOA11.out.below hbA)
          have hbs : base ≤ A.heap.size := Nat.le_trans hbs11 hbA.size
          clear hbA HBW11 HOA11 hbs11
          cases sb with
          | true =>
            go_wp2
            go_roundw
            case rel => exact ⟨k + 1, sh, by go_num, by omega, hsh2, HBW.out, HOA.out, hbs, fun j hj => by
              rcases Nat.lt_or_ge j k with h | h
              · exact HGA.out j h
              · obtain rfl : j = k := by omega
                exact HGK2.out⟩
            case measure => simp [intOf]; omega
          | false =>
            clear HGK2 HSH
            go_wp2_with fail
            obtain ⟨y, hy2⟩ : ∃ y, sh = y := ⟨_, rfl⟩
            rw [hy2] at HOA
            clear hy2
            obtain ⟨m, hm⟩ : ∃ m, 8 - k = m := ⟨_, rfl⟩
            have qm : (8 : Int) - (k : Int) = (m : Int) := by omega
            have hm8 : m ≤ 8 := by omega
            have hwm : IntKind.i64.wrap (m : Int) = (m : Int) := IntWalk.i64_in _ (by omega)
            obtain ⟨yy, hyy⟩ : ∃ yy, fill * 2 ^ m % 256 = yy := ⟨_, rfl⟩
            have hyy2 : yy < 256 := by rw [← hyy]; exact Nat.mod_lt _ (by decide)
            have hyz : yy % 2 ^ (8 - k) = 0 := by
              rw [hm, ← hyy, Nat.mod_mod_of_dvd _ (show 2 ^ m ∣ 256 from ⟨2 ^ (8 - m), by rw [← Nat.pow_add, show m + (8 - m) = 8 by omega]⟩), Nat.mul_mod_left]
            have hw1 : IntKind.u8.wrap ((fill : Int) * 2 ^ m) = (yy : Int) := by rw [wrap_u8, ← hyy]; simp
            have hw2 : ((fill : Int) * 2 ^ m) % 256 = (yy : Int) := by rw [← hyy]; simp
            obtain ⟨cy, hcy⟩ : ∃ cy, c ^^^ yy = cy := ⟨_, rfl⟩
            have hx9 : bits .xor .u8 (c : Int) (yy : Int) = (cy : Int) := by rw [xor8 c yy hc256 hyy2, hcy]
            have HY := Lib.hid (cuts_good HR2.out hu.out rfl HTB.out k hk8 HGA.out yy hyy2 hyz)
            have HK0 : Hid (k = 0 → yy = 0) := fun h => by rw [h] at hyz; have h2 : yy % 256 = 0 := hyz; omega
            have HSY : Hid ((turned tk y).set v cy = turned tk yy) := by
              unfold Hid
              rw [← hv.out, turned_set, ← hcy, ← hce.out, ← hv.out]
              rfl
            clear hm hyy hyz hcy HGA
            have HFA := Lib.hid (HF4.out.below (HBS.out.symm ▸ HBW.out))
            have HBA := HB4.out.trans (HBW.out.mono h44.1)
            have hcb := (World.cell?_of_block (a := ⟨bb, off + v, none⟩) (HBA.block bb HBB.out)).trans HCB.out
            obtain ⟨e0, e1, e2, e3, _, _⟩ := four_cells HFA.out.1
            obtain ⟨g', he2, _, _, hcl, hfr⟩ := HOA.out.at (i := v) (by rw [turned_len]; omega)
            simp only [Option.some.injEq, Addr.mk.injEq, and_true] at he2
            subst he2
            obtain ⟨old, hcl⟩ : ∃ old, A.cell? ⟨g, v, none⟩ = some old := ⟨_, hcl⟩
            clear HBA
            go_wp2_with fail
            go_still_tail 16, (by kernel_rfl)
            change wpList _ _ _ _ _ A.drew
            have HBW2 := Lib.hid (show Below base w4 A.drew from below_drewN HBW.out 1)
            have HOA2 := Lib.hid (show OwnN 5 .u8 A.drew base (some ⟨g, 0, none⟩) cw (turned tk y) from HOA.out)
            have hcl2 : A.drew.cell? ⟨g, v, none⟩ = _ := hcl
            have hfr2 : A.drew.frozen? ⟨g, v, none⟩ = false := hfr
            have hbs2 : base ≤ A.drew.heap.size := hbs
            clear hcb e0 e1 e2 e3 hcl hfr HBW HOA hbs HFA
            generalize A.drew = B2 at *
            by_cases hk0 : k = 0
            · skip
              have HBW4 := Lib.hid (HBW2.out.setCell (p := ⟨g, v, none⟩) hg1 (.int .u8 (cy : Nat)))
              have HOA4 := Lib.hid (HSY.out ▸ (HOA2.out.stored v cy).1)
              have hbs4 : base ≤ (B2.setCell ⟨g, v, none⟩ (.int .u8 (cy : Nat))).heap.size := by simpa using hbs2
              clear HBW2 HOA2 hbs2
              have tk0 : ((k : Int) == 0) = true := beq_iff_eq.2 (by omega)
              have hyy0 := HK0.out hk0
              have HFB := Lib.hid (HF4.out.below (HBS.out.symm ▸ HBW4.out))
              have HBB4 := HB4.out.trans (HBW4.out.mono h44.1)
              have hcb := (World.cell?_of_block (a := ⟨bb, off + v, none⟩) (HBB4.block bb HBB.out)).trans HCB.out
              obtain ⟨e0, e1, e2, e3, _, _⟩ := four_cells HFB.out.1
              obtain ⟨g', he2, _, _, hcl, hfr⟩ := HOA4.out.at (i := v) (by rw [turned_len]; omega)
              simp only [Option.some.injEq, Addr.mk.injEq, and_true] at he2
              subst he2
              obtain ⟨old2, hcl⟩ : ∃ old2, (B2.setCell ⟨g, v, none⟩ (.int .u8 (cy : Nat))).cell? ⟨g, v, none⟩ = some old2 := ⟨_, hcl⟩
              clear HBB4 HFB
              go_wp2_with fail
              generalize B2.setCell ⟨g, v, none⟩ (.int .u8 (cy : Nat)) = B3 at *
              go_still_tail 11, (by kernel_rfl)
              change wpList _ _ _ _ _ B3.drew
              have HBW5 := Lib.hid (show Below base w4 B3.drew from below_drewN HBW4.out 1)
              have HOA5 := Lib.hid (show OwnN 5 .u8 B3.drew base (some ⟨g, 0, none⟩) cw (turned tk yy) from HOA4.out)
              have hcl3 : B3.drew.cell? ⟨g, v, none⟩ = _ := hcl
              have hfr3 : B3.drew.frozen? ⟨g, v, none⟩ = false := hfr
              have hbs5 : base ≤ B3.drew.heap.size := hbs4
              clear hcb e0 e1 e2 e3 hcl hfr HBW4 HOA4 hbs4 hcl2 hfr2
              generalize B3.drew = B5 at *
              have HSZ : Hid ((turned tk yy).set v c = turned tk 0) := by
                unfold Hid
                rw [← hv.out, turned_set]
                unfold turned
                rw [Nat.xor_zero, hv.out, hce.out]
              have HBW4 := Lib.hid (HBW5.out.setCell (p := ⟨g, v, none⟩) hg1 (.int .u8 (c : Nat)))
              have HOA4 := Lib.hid (HSZ.out ▸ (HOA5.out.stored v c).1)
              have hbs4 : base ≤ (B5.setCell ⟨g, v, none⟩ (.int .u8 (c : Nat))).heap.size := by simpa using hbs5
              clear HBW5 HOA5 hbs5
              go_wp2_with fail
              clear hcl3 hfr3
              generalize B5.setCell ⟨g, v, none⟩ (.int .u8 (c : Nat)) = A4 at *
              have HSAME := Lib.hid (hyy0 ▸ HY.out)
              have hyf : 0 < 256 := by decide
              clear HY
              have HTBY := Lib.hid (turned_bytes HTB.out (y := 0) hyf)
              have HIF := Lib.hid (fun at3 o3 (hRR : inflB (turned tk 0) = some (at3, o3)) => inflate_some (keep := 4000) HOA4.out.row HTBY.out (by rw [turned_len]; omega) (by decide) hRR)
              rw [turned_len] at HIF
              generalize inflB (turned tk 0) = RR at *
              rcases RR with _ | ⟨at3, o3⟩
              · exact absurd HSAME.out (by unfold sameR; simp)
              · have HIF2 := Lib.hid (HIF.out at3 o3 rfl)
                have HSAME2 := Lib.hid (show sameB (o3.take 4000) o3.length ((at3 + 7) / 8) (o.take 4000) o.length tk.length = true from HSAME.out)
                clear HIF HSAME
                rw [hfb.out, hsz.out] at HSAME2
                generalize o3.take 4000 = fx at *
                generalize o3.length = sx at *
                generalize (at3 + 7) / 8 = ux at *
                go_wp2_with fail
                refine HIF2.out.mono ?_
                rintro e w20 ⟨hb20, a20, k20, rfl, hr20⟩
                clear HIF2
                have hb21 := box_b w20 (.cells #[.slice a20 fx.length k20, .int .i64 (sx : Nat), .int .i64 (ux : Nat), .bool false] 39)
                have HBW21 := Lib.hid ((HBW4.out.trans (hb20.mono hbs4)).trans (hb21.mono (Nat.le_trans hbs4 hb20.size)))
                have HN21 := Lib.hid (FlwAt.new w20 (s := sx) (u := ux) hr20)
                have HF21 := Lib.hid (HF4.out.below (HBS.out.symm ▸ HBW21.out))
                have HBA21 := Lib.hid (HB4.out.trans (HBW21.out.mono h44.1))
                obtain ⟨e0, e1, e2, e3, _, _⟩ := four_cells HF21.out.1
                obtain ⟨d0, d1, d2, d3, _, _⟩ := four_cells HN21.out.1
                have HS := Lib.hid (same_flow _ a20 a1 k20 k1 fx fb sx ux sz tk.length HN21.out.2.1 HF21.out.2.1)
                rw [HSAME2.out] at HS
                clear hb20 hb21 hr20 HBW4 HBW21 HOA4 HF21 HN21
                go_wp2_with fail
                refine HS.out.mono ?_
                rintro e w22 ⟨rfl, hb22⟩
                have HBA22 := Lib.hid (HBA21.out.trans (hb22.mono HBA21.out.size))
                clear HS hb22 HBA21 e0 e1 e2 e3 d0 d1 d2 d3
                go_wp2_with fail
                refine (law10_reads _).mono ?_
                rintro e w23 ⟨rfl, hb23⟩
                have HBA23 := Lib.hid (HBA22.out.trans (hb23.mono HBA22.out.size))
                clear hb23 HBA22
                go_wp2
                go_ret
                exact ⟨rfl, HBA23.out⟩
            · skip
              have HBW4 := Lib.hid (HBW2.out.setCell (p := ⟨g, v, none⟩) hg1 (.int .u8 (cy : Nat)))
              have HOA4 := Lib.hid (HSY.out ▸ (HOA2.out.stored v cy).1)
              have hbs4 : base ≤ (B2.setCell ⟨g, v, none⟩ (.int .u8 (cy : Nat))).heap.size := by simpa using hbs2
              clear HBW2 HOA2 hbs2
              have tk0 : ((k : Int) == 0) = false := beq_eq_false_iff_ne.2 (by omega)
              go_wp2_with fail
              clear hcl2 hfr2
              generalize B2.setCell ⟨g, v, none⟩ (.int .u8 (cy : Nat)) = A4 at *
              have HSAME := Lib.hid HY.out
              have hyf := hyy2
              clear HY
              have HTBY := Lib.hid (turned_bytes HTB.out (y := yy) hyf)
              have HIF := Lib.hid (fun at3 o3 (hRR : inflB (turned tk yy) = some (at3, o3)) => inflate_some (keep := 4000) HOA4.out.row HTBY.out (by rw [turned_len]; omega) (by decide) hRR)
              rw [turned_len] at HIF
              generalize inflB (turned tk yy) = RR at *
              rcases RR with _ | ⟨at3, o3⟩
              · exact absurd HSAME.out (by unfold sameR; simp)
              · have HIF2 := Lib.hid (HIF.out at3 o3 rfl)
                have HSAME2 := Lib.hid (show sameB (o3.take 4000) o3.length ((at3 + 7) / 8) (o.take 4000) o.length tk.length = true from HSAME.out)
                clear HIF HSAME
                rw [hfb.out, hsz.out] at HSAME2
                generalize o3.take 4000 = fx at *
                generalize o3.length = sx at *
                generalize (at3 + 7) / 8 = ux at *
                go_wp2_with fail
                refine HIF2.out.mono ?_
                rintro e w20 ⟨hb20, a20, k20, rfl, hr20⟩
                clear HIF2
                have hb21 := box_b w20 (.cells #[.slice a20 fx.length k20, .int .i64 (sx : Nat), .int .i64 (ux : Nat), .bool false] 39)
                have HBW21 := Lib.hid ((HBW4.out.trans (hb20.mono hbs4)).trans (hb21.mono (Nat.le_trans hbs4 hb20.size)))
                have HN21 := Lib.hid (FlwAt.new w20 (s := sx) (u := ux) hr20)
                have HF21 := Lib.hid (HF4.out.below (HBS.out.symm ▸ HBW21.out))
                have HBA21 := Lib.hid (HB4.out.trans (HBW21.out.mono h44.1))
                obtain ⟨e0, e1, e2, e3, _, _⟩ := four_cells HF21.out.1
                obtain ⟨d0, d1, d2, d3, _, _⟩ := four_cells HN21.out.1
                have HS := Lib.hid (same_flow _ a20 a1 k20 k1 fx fb sx ux sz tk.length HN21.out.2.1 HF21.out.2.1)
                rw [HSAME2.out] at HS
                clear hb20 hb21 hr20 HBW4 HBW21 HOA4 HF21 HN21
                go_wp2_with fail
                refine HS.out.mono ?_
                rintro e w22 ⟨rfl, hb22⟩
                have HBA22 := Lib.hid (HBA21.out.trans (hb22.mono HBA21.out.size))
                clear HS hb22 HBA21 e0 e1 e2 e3 d0 d1 d2 d3
                go_wp2_with fail
                refine (law10_reads _).mono ?_
                rintro e w23 ⟨rfl, hb23⟩
                have HBA23 := Lib.hid (HBA22.out.trans (hb23.mono HBA22.out.size))
                clear hb23 HBA22
                go_wp2
                go_ret
                exact ⟨rfl, HBA23.out⟩
      · obtain rfl : k = 8 := by omega
        go_wp2_with fail
        obtain ⟨m, hm⟩ : ∃ m, 8 - 8 = m := ⟨_, rfl⟩
        have qm : (8 : Int) - 8 = (m : Int) := by omega
        have hm8 : m ≤ 8 := by omega
        have hwm : IntKind.i64.wrap (m : Int) = (m : Int) := IntWalk.i64_in _ (by omega)
        obtain ⟨yy, hyy⟩ : ∃ yy, fill * 2 ^ m % 256 = yy := ⟨_, rfl⟩
        have hyy2 : yy < 256 := by rw [← hyy]; exact Nat.mod_lt _ (by decide)
        have hyz : yy % 2 ^ (8 - 8) = 0 := by
          rw [hm, ← hyy, Nat.mod_mod_of_dvd _ (show 2 ^ m ∣ 256 from ⟨2 ^ (8 - m), by rw [← Nat.pow_add, show m + (8 - m) = 8 by omega]⟩), Nat.mul_mod_left]
        have hw1 : IntKind.u8.wrap ((fill : Int) * 2 ^ m) = (yy : Int) := by rw [wrap_u8, ← hyy]; simp
        have hw2 : ((fill : Int) * 2 ^ m) % 256 = (yy : Int) := by rw [← hyy]; simp
        obtain ⟨cy, hcy⟩ : ∃ cy, c ^^^ yy = cy := ⟨_, rfl⟩
        have hx9 : bits .xor .u8 (c : Int) (yy : Int) = (cy : Int) := by rw [xor8 c yy hc256 hyy2, hcy]
        have HY := Lib.hid (cuts_good HR2.out hu.out rfl HTB.out 8 hk8 HGA.out yy hyy2 hyz)
        have HSY : Hid ((turned tk y).set v cy = turned tk yy) := by
          unfold Hid
          rw [← hv.out, turned_set, ← hcy, ← hce.out, ← hv.out]
          rfl
        clear hm hyy hyz hcy HGA
        have HFA := Lib.hid (HF4.out.below (HBS.out.symm ▸ HBW.out))
        have HBA := HB4.out.trans (HBW.out.mono h44.1)
        have hcb := (World.cell?_of_block (a := ⟨bb, off + v, none⟩) (HBA.block bb HBB.out)).trans HCB.out
        obtain ⟨e0, e1, e2, e3, _, _⟩ := four_cells HFA.out.1
        obtain ⟨g', he2, _, _, hcl, hfr⟩ := HOA.out.at (i := v) (by rw [turned_len]; omega)
        simp only [Option.some.injEq, Addr.mk.injEq, and_true] at he2
        subst he2
        obtain ⟨old, hcl⟩ : ∃ old, wr.cell? ⟨g, v, none⟩ = some old := ⟨_, hcl⟩
        clear HBA
        go_wp2_with fail
        go_still_tail 16, (by kernel_rfl)
        change wpList _ _ _ _ _ wr.drew
        have HBW2 := Lib.hid (show Below base w4 wr.drew from below_drewN HBW.out 1)
        have HOA2 := Lib.hid (show OwnN 5 .u8 wr.drew base (some ⟨g, 0, none⟩) cw (turned tk y) from HOA.out)
        have hcl2 : wr.drew.cell? ⟨g, v, none⟩ = _ := hcl
        have hfr2 : wr.drew.frozen? ⟨g, v, none⟩ = false := hfr
        have hbs2 : base ≤ wr.drew.heap.size := hbs
        clear hcb e0 e1 e2 e3 hcl hfr HBW HOA hbs HFA
        generalize wr.drew = B2 at *
        have HBW4 := Lib.hid (HBW2.out.setCell (p := ⟨g, v, none⟩) hg1 (.int .u8 (cy : Nat)))
        have HOA4 := Lib.hid (HSY.out ▸ (HOA2.out.stored v cy).1)
        have hbs4 : base ≤ (B2.setCell ⟨g, v, none⟩ (.int .u8 (cy : Nat))).heap.size := by simpa using hbs2
        clear HBW2 HOA2 hbs2
        have tk0 : ((8 : Int) == 0) = false := rfl
        go_wp2_with fail
        clear hcl2 hfr2
        generalize B2.setCell ⟨g, v, none⟩ (.int .u8 (cy : Nat)) = A4 at *
        have HSAME := Lib.hid HY.out
        have hyf := hyy2
        clear HY
        have HTBY := Lib.hid (turned_bytes HTB.out (y := yy) hyf)
        have HIF := Lib.hid (fun at3 o3 (hRR : inflB (turned tk yy) = some (at3, o3)) => inflate_some (keep := 4000) HOA4.out.row HTBY.out (by rw [turned_len]; omega) (by decide) hRR)
        rw [turned_len] at HIF
        generalize inflB (turned tk yy) = RR at *
        rcases RR with _ | ⟨at3, o3⟩
        · exact absurd HSAME.out (by unfold sameR; simp)
        · have HIF2 := Lib.hid (HIF.out at3 o3 rfl)
          have HSAME2 := Lib.hid (show sameB (o3.take 4000) o3.length ((at3 + 7) / 8) (o.take 4000) o.length tk.length = true from HSAME.out)
          clear HIF HSAME
          rw [hfb.out, hsz.out] at HSAME2
          generalize o3.take 4000 = fx at *
          generalize o3.length = sx at *
          generalize (at3 + 7) / 8 = ux at *
          go_wp2_with fail
          refine HIF2.out.mono ?_
          rintro e w20 ⟨hb20, a20, k20, rfl, hr20⟩
          clear HIF2
          have hb21 := box_b w20 (.cells #[.slice a20 fx.length k20, .int .i64 (sx : Nat), .int .i64 (ux : Nat), .bool false] 39)
          have HBW21 := Lib.hid ((HBW4.out.trans (hb20.mono hbs4)).trans (hb21.mono (Nat.le_trans hbs4 hb20.size)))
          have HN21 := Lib.hid (FlwAt.new w20 (s := sx) (u := ux) hr20)
          have HF21 := Lib.hid (HF4.out.below (HBS.out.symm ▸ HBW21.out))
          have HBA21 := Lib.hid (HB4.out.trans (HBW21.out.mono h44.1))
          obtain ⟨e0, e1, e2, e3, _, _⟩ := four_cells HF21.out.1
          obtain ⟨d0, d1, d2, d3, _, _⟩ := four_cells HN21.out.1
          have HS := Lib.hid (same_flow _ a20 a1 k20 k1 fx fb sx ux sz tk.length HN21.out.2.1 HF21.out.2.1)
          rw [HSAME2.out] at HS
          clear hb20 hb21 hr20 HBW4 HBW21 HOA4 HF21 HN21
          go_wp2_with fail
          refine HS.out.mono ?_
          rintro e w22 ⟨rfl, hb22⟩
          have HBA22 := Lib.hid (HBA21.out.trans (hb22.mono HBA21.out.size))
          clear HS hb22 HBA21 e0 e1 e2 e3 d0 d1 d2 d3
          go_wp2_with fail
          refine (law10_reads _).mono ?_
          rintro e w23 ⟨rfl, hb23⟩
          have HBA23 := Lib.hid (HBA22.out.trans (hb23.mono HBA22.out.size))
          clear hb23 HBA22
          go_wp2
          go_ret
          exact ⟨rfl, HBA23.out⟩
end Go.Proofs.Ytlofoocgiomfbaa
