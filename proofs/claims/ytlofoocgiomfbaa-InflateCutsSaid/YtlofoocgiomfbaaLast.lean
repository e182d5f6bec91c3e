/- Plain mathematics of layer 10: the last bit that is read plays a part. -/
import Derived.Test.YtlofoocgiomfbaaAhead
namespace Go.Proofs.Ytlofoocgiomfbaa.M10
open M01 M04 M06 M07 M08 M09
set_option linter.unusedVariables false

/-- a word's bits, read from a place on -/
def pth (bs : List Nat) (at_ x : Nat) : Nat → Nat
  | 0 => x
  | n + 1 => 2 * pth bs at_ x n + bit bs (at_ + n)
theorem pth_shift (bs : List Nat) (at_ x : Nat) : ∀ n, pth bs (at_ + 1) (2 * x + bit bs at_) n = pth bs at_ x (n + 1) := by
  intro n
  induction n with
  | zero => rfl
  | succ n ih =>
    show 2 * pth bs (at_ + 1) (2 * x + bit bs at_) n + bit bs (at_ + 1 + n) = 2 * pth bs at_ x (n + 1) + bit bs (at_ + (n + 1))
    rw [ih, show at_ + 1 + n = at_ + (n + 1) by omega]
theorem decF_pth {l bs : List Nat} {F : TF} {i : Nat} (hg : Good l F i) : ∀ f x k at_ s at2, decF F bs f x k at_ = some (s, at2) → ∃ n, at2 = at_ + n ∧ l.getD s 0 = k + n ∧ (words l).getD s 0 = pth bs at_ x n := by
  intro f
  induction f with
  | zero => intro x k at_ s at2 h; simp [decF] at h
  | succ f ih =>
    intro x k at_ s at2 h
    unfold decF at h
    split at h
    · simp at h
    · next v hv =>
      obtain ⟨_, h2⟩ := hg x k v hv
      split at h
      · next h0 =>
        rcases h2 with rfl | ⟨s', rfl, h3, h4, h5, h6⟩
        · omega
        · simp only [Option.some.injEq, Prod.mk.injEq, Int.toNat_natCast] at h
          obtain ⟨rfl, rfl⟩ := h
          exact ⟨0, rfl, by omega, h4.symm⟩
      · split at h
        · obtain ⟨n, n1, n2, n3⟩ := ih _ _ _ _ _ h
          exact ⟨n + 1, by omega, by omega, by rw [n3, pth_shift]⟩
        · simp at h
theorem sym_flip {l bs bs' : List Nat} {at_ s a1 a2 : Nat} (h20 : ∀ x ∈ l, x ≤ 20) (h : sym l bs at_ = some (s, a1)) (h' : sym l bs' at_ = some (s, a2)) : bit bs' (a1 - 1) = bit bs (a1 - 1) := by
  obtain ⟨-, -, hlt⟩ := sym_some h20 h
  obtain ⟨n, n1, n2, n3⟩ := decF_pth (good_tab l h20) _ _ _ _ _ _ h
  obtain ⟨m, m1, m2, m3⟩ := decF_pth (good_tab l h20) _ _ _ _ _ _ h'
  obtain rfl : m = n := by omega
  obtain ⟨k, rfl⟩ : ∃ k, m = k + 1 := ⟨m - 1, by omega⟩
  rw [n3] at m3
  simp only [pth] at m3
  have b1 := bit_lt bs (at_ + k)
  have b2 := bit_lt bs' (at_ + k)
  rw [show a1 - 1 = at_ + k by omega]
  omega
theorem loS_pos (c : Nat) (h : (loS c).2.2 = 0) : 1 ≤ (loS c).1 := by
  by_cases hc : 257 ≤ c ∧ c ≤ 285
  · obtain ⟨k, rfl⟩ : ∃ k, c = 257 + k := ⟨c - 257, by omega⟩
    have hk : k < 29 := by omega
    have hall : ∀ k : Fin 29, 1 ≤ (loS (257 + k.val : Nat)).1 := by decide +kernel
    exact hall ⟨k, hk⟩
  · unfold loS at h
    rw [if_neg (by omega)] at h
    simp at h
theorem symsL_last {l1 l2 bs bs' : List Nat} (h20 : ∀ x ∈ l1, x ≤ 20) : ∀ f at_ out at2 o, symsL l1 l2 bs f at_ out = some (at2, o) → Agr 0 bs bs' at_ (at2 - 1) → bit bs' (at2 - 1) ≠ bit bs (at2 - 1) →
    ∀ f' r, symsL l1 l2 bs' f' at_ out = some r → o.length < r.2.length := by
  intro f
  induction f with
  | zero => intro at_ out at2 o h; simp [symsL] at h
  | succ f ih =>
    intro at_ out at2 o h ha hne f' r hr
    cases f' with
    | zero => simp [symsL] at hr
    | succ f' =>
      rw [symsL_succ] at h hr
      unfold symsStep at h hr
      split at h
      · simp at h
      · next c a1 hs =>
        obtain ⟨-, -, s1⟩ := sym_some h20 hs
        have s3 := fun ha => (sym_loc (d := 0) (bs' := bs') hs).2.2 ha
        split at h
        · next hc =>
          have i1 := (symsL_loc (d := 0) (bs' := bs) (pre := []) h20 _ _ _ _ _ h).1
          have e1 : sym l1 bs' at_ = some (c, a1) := s3 (ha.sub (Nat.le_refl _) (by omega))
          rw [e1] at hr
          simp only [hc, if_true] at hr
          exact ih _ _ _ _ h (ha.sub (by omega) (Nat.le_refl _)) hne _ _ hr
        · next hc =>
          split at h
          · next hc2 =>
            simp only [Option.some.injEq, Prod.mk.injEq] at h
            obtain ⟨rfl, rfl⟩ := h
            split at hr
            · simp at hr
            · next c' a1' hs' =>
              have hcc : c' ≠ 256 := fun e => by
                subst hc2
                subst e
                exact hne (sym_flip h20 hs hs')
              split at hr
              · have := (symsL_loc (d := 0) (bs' := bs') (pre := []) h20 _ _ _ _ _ hr).2.2.1
                simp at this
                omega
              · split at hr
                · simp at hr
                · next hl =>
                  have hp := loS_pos c' (by omega)
                  split at hr
                  · simp at hr
                  · split at hr
                    · simp at hr
                    · split at hr
                      · simp at hr
                      · split at hr
                        · simp at hr
                        · split at hr
                          · simp at hr
                          · have := (symsL_loc (d := 0) (bs' := bs') (pre := []) h20 _ _ _ _ _ hr).2.2.1
                            rw [repOut_len] at this
                            omega
          · next hc2 =>
            split at h
            · simp at h
            · next hc3 =>
              split at h
              · simp at h
              · next x a2 hx =>
                obtain ⟨x1, x2, -⟩ := rdN_loc (d := 0) (bs' := bs) hx
                have x3 := fun ha => (rdN_loc (d := 0) (bs' := bs') hx).2.2 ha
                split at h
                · simp at h
                · next dd a3 hd =>
                  obtain ⟨d1, d2, -⟩ := sym_loc (d := 0) (bs' := bs) hd
                  have d3 := fun ha => (sym_loc (d := 0) (bs' := bs') hd).2.2 ha
                  split at h
                  · simp at h
                  · next hd3 =>
                    split at h
                    · simp at h
                    · next y a4 hy =>
                      obtain ⟨y1, y2, -⟩ := rdN_loc (d := 0) (bs' := bs) hy
                      have y3 := fun ha => (rdN_loc (d := 0) (bs' := bs') hy).2.2 ha
                      split at h
                      · simp at h
                      · next hfar =>
                        have i1 := (symsL_loc (d := 0) (bs' := bs) (pre := []) h20 _ _ _ _ _ h).1
                        have e1 : sym l1 bs' at_ = some (c, a1) := s3 (ha.sub (Nat.le_refl _) (by omega))
                        have e2 : rdN bs' (loS c).2.1 a1 = some (x, a2) := x3 (ha.sub (by omega) (by omega))
                        have e3 : sym l2 bs' a2 = some (dd, a3) := d3 (ha.sub (by omega) (by omega))
                        have e4 : rdN bs' (doS dd).2.1 a3 = some (y, a4) := y3 (ha.sub (by omega) (by omega))
                        rw [e1] at hr
                        simp only [hc, hc2, hc3, if_false] at hr
                        rw [e2] at hr
                        simp only [] at hr
                        rw [e3] at hr
                        simp only [hd3, if_false] at hr
                        rw [e4] at hr
                        simp only [hfar, if_false] at hr
                        exact ih _ _ _ _ h (ha.sub (by omega) (Nat.le_refl _)) hne _ _ hr
theorem symsB_last {l1 l2 bs bs' out o : List Nat} {at_ at2 : Nat} (h : symsB l1 l2 bs at_ out = some (at2, o)) (ha : Agr 0 bs bs' at_ (at2 - 1)) (hne : bit bs' (at2 - 1) ≠ bit bs (at2 - 1)) (r : Nat × List Nat)
    (hr : symsB l1 l2 bs' at_ out = some r) : o.length < r.2.length := by
  unfold symsB at h hr
  split at h
  · next h1 =>
    rw [if_pos h1] at hr
    split at h
    · next h2 =>
      rw [if_pos h2] at hr
      exact symsL_last (wordsE_le20 h1) _ _ _ _ _ h ha hne _ _ hr
    · simp at h
  · simp at h
theorem stoL_last {bs : List Nat} : ∀ n at_ out at2 o, stoL bs (n + 1) at_ out = some (at2, o) → ∃ o0, o = o0 ++ [num bs (at2 - 8) 8] ∧ ∀ bs', Agr 0 bs bs' at_ (at2 - 8) → at2 ≤ 8 * bs'.length → stoL bs' (n + 1) at_ out = some (at2, o0 ++ [num bs' (at2 - 8) 8]) := by
  intro n
  induction n with
  | zero =>
    intro at_ out at2 o h
    simp only [stoL] at h
    split at h
    · next h1 =>
      simp only [Option.some.injEq, Prod.mk.injEq] at h
      obtain ⟨rfl, rfl⟩ := h
      refine ⟨out, by rw [Nat.add_sub_cancel], fun bs' _ hl => ?_⟩
      simp only [stoL]
      rw [if_pos hl, Nat.add_sub_cancel]
    · simp at h
  | succ n ih =>
    intro at_ out at2 o h
    have hat := (stoL_loc (d := 0) (bs' := bs) (pre := []) _ _ _ _ _ h).1
    rw [stoL] at h
    split at h
    · next h1 =>
      obtain ⟨o0, e, hall⟩ := ih _ _ _ _ h
      refine ⟨o0, e, fun bs' ha hl => ?_⟩
      rw [stoL, if_pos (by omega)]
      have := (ha.sub (a' := at_) (b' := at_ + 8) (Nat.le_refl _) (by omega)).num
      rw [Nat.add_zero] at this
      rw [this]
      exact hall bs' (ha.sub (by omega) (Nat.le_refl _)) hl
    · simp at h
/-- the last bit plays a part, or the last byte is one that is put as it is -/
def LastS (p : List Nat → Option (Nat × List Nat)) (bs : List Nat) (at_ at2 : Nat) (o : List Nat) : Prop := ∀ bs', Agr 0 bs bs' at_ (at2 - 1) → at2 ≤ 8 * bs'.length → bit bs' (at2 - 1) ≠ bit bs (at2 - 1) → ∀ r, p bs' = some r → o.length < r.2.length
def LastT (p : List Nat → Option (Nat × List Nat)) (bs : List Nat) (at_ at2 : Nat) (o : List Nat) : Prop := at2 % 8 = 0 ∧ at_ + 8 ≤ at2 ∧ ∃ o0, o = o0 ++ [num bs (at2 - 8) 8] ∧ ∀ bs', Agr 0 bs bs' at_ (at2 - 8) → at2 ≤ 8 * bs'.length → p bs' = some (at2, o0 ++ [num bs' (at2 - 8) 8])
theorem stoB_last {bs out o : List Nat} {at_ at2 : Nat} (h : stoB bs at_ out = some (at2, o)) : LastS (fun b => stoB b at_ out) bs at_ at2 o ∨ LastT (fun b => stoB b at_ out) bs at_ at2 o := by
  unfold stoB stored0 at h
  split at h
  · next h1 =>
    split at h
    · next h2 =>
      obtain ⟨p, hp⟩ : ∃ p, (at_ + 7) / 8 * 8 = p := ⟨_, rfl⟩
      rw [hp] at h h1 h2
      have hpa : at_ ≤ p ∧ p % 8 = 0 := by omega
      cases hn : num bs p 16 with
      | zero =>
        rw [hn] at h h2
        simp only [stoL, Option.some.injEq, Prod.mk.injEq] at h
        obtain ⟨rfl, rfl⟩ := h
        refine .inl fun bs' ha hl hne r hr => ?_
        exfalso
        unfold stoB stored0 at hr
        simp only [hp] at hr
        rw [if_pos hl] at hr
        have g1 := (ha.sub (a' := p) (b' := p + 16) (by omega) (by omega)).num
        rw [Nat.add_zero, hn] at g1
        have g2 := (ha.sub (a' := p + 16) (b' := p + 16 + 15) (by omega) (by omega)).num
        rw [Nat.add_zero] at g2
        have k1 : num bs (p + 16) 16 = num bs (p + 16) 15 + bit bs (p + 16 + 15) * 2 ^ 15 := rfl
        have k2 : num bs' (p + 16) 16 = num bs' (p + 16) 15 + bit bs' (p + 16 + 15) * 2 ^ 15 := rfl
        rw [show p + 32 - 1 = p + 16 + 15 by omega] at hne
        rw [g1, if_neg (by omega)] at hr
        simp at hr
      | succ n =>
        rw [hn] at h h2
        have hat := (stoL_loc (d := 0) (bs' := bs) (pre := []) _ _ _ _ _ h).1
        obtain ⟨o0, e, hall⟩ := stoL_last _ _ _ _ _ h
        refine .inr ⟨by omega, by omega, o0, e, fun bs' ha hl => ?_⟩
        unfold stoB stored0
        simp only [hp]
        have g1 := (ha.sub (a' := p) (b' := p + 16) (by omega) (by omega)).num
        have g2 := (ha.sub (a' := p + 16) (b' := p + 16 + 16) (by omega) (by omega)).num
        rw [Nat.add_zero] at g1 g2
        rw [if_pos (by omega), g1, g2, hn, if_pos h2]
        exact hall bs' (ha.sub (by omega) (Nat.le_refl _)) hl
    · simp at h
  · simp at h
theorem blkK_last {k : Nat} {bs out o : List Nat} {at_ at2 : Nat} (h : blkK k bs at_ out = some (at2, o)) : LastS (fun b => blkK k b at_ out) bs at_ at2 o ∨ LastT (fun b => blkK k b at_ out) bs at_ at2 o := by
  by_cases k0 : k = 0
  · have e : ∀ b, blkK k b at_ out = stoB b at_ out := fun b => by unfold blkK; rw [if_pos k0]
    simp only [e] at h ⊢
    exact stoB_last h
  · by_cases k1 : k = 1
    · have e : ∀ b, blkK k b at_ out = symsB fixF fixD b at_ out := fun b => by unfold blkK; rw [if_neg k0, if_pos k1]
      simp only [e] at h ⊢
      exact .inl fun bs' ha hl hne r hr => symsB_last h ha hne r hr
    · by_cases k2 : k = 2
      · have e : ∀ b, blkK k b at_ out = dynB b at_ out := fun b => by unfold blkK; rw [if_neg k0, if_neg k1, if_pos k2]
        simp only [e] at h ⊢
        refine .inl fun bs' ha hl hne r hr => ?_
        replace hr : dynB bs' at_ out = some r := hr
        unfold dynB at h hr
        split at h
        · simp at h
        · next fo a2 hh =>
          obtain ⟨h1, h2, -⟩ := hdr_loc (d := 0) (bs' := bs) hh
          have h3 := fun ha => (hdr_loc (d := 0) (bs' := bs') hh).2.2 ha
          have i1 := (symsB_loc (d := 0) (bs' := bs) (pre := []) h).1
          have e1 : hdr bs' at_ = some (fo, a2) := h3 (ha.sub (Nat.le_refl _) (by omega))
          rw [e1] at hr
          exact symsB_last h (ha.sub (by omega) (Nat.le_refl _)) hne r hr
      · unfold blkK at h
        rw [if_neg k0, if_neg k1, if_neg k2] at h
        simp at h
theorem inflL_last {bs : List Nat} : ∀ f at_ out at2 o, inflL bs f at_ out = some (at2, o) → (∀ f', LastS (fun b => inflL b f' at_ out) bs at_ at2 o) ∨ (∀ f', at2 ≤ at_ + f' → LastT (fun b => inflL b f' at_ out) bs at_ at2 o) := by
  intro f
  induction f with
  | zero => intro at_ out at2 o h; simp [inflL] at h
  | succ f ih =>
    intro at_ out at2 o h
    rw [inflL_succ] at h
    unfold inflStep at h
    split at h
    · next h1 =>
      split at h
      · next h2 =>
        split at h
        · simp at h
        · next a2 o2 hb =>
          obtain ⟨b1, b2, b3, -⟩ := blkK_loc (d := 0) (bs' := bs) (pre := []) rfl h2 hb
          have b4 := fun {bs'} ha => (blkK_loc (d := 0) (bs' := bs') (pre := []) rfl h2 hb).2.2.2 ha
          have n1 : ∀ {bs' e}, Agr 0 bs bs' at_ e → at_ + 1 + 2 ≤ e → num bs' at_ 1 = num bs at_ 1 ∧ num bs' (at_ + 1) 2 = num bs (at_ + 1) 2 := fun ha he => by
            have g1 := (ha.sub (a' := at_) (b' := at_ + 1) (Nat.le_refl _) (by omega)).num
            have g2 := (ha.sub (a' := at_ + 1) (b' := at_ + 1 + 2) (by omega) (by omega)).num
            exact ⟨g1, g2⟩
          split at h
          · next hz =>
            obtain ⟨i1, i2, i3, -⟩ := inflL_loc (d := 0) (bs' := bs) (pre := []) rfl _ _ _ _ _ h
            have go : ∀ {bs' e} f', Agr 0 bs bs' at_ e → a2 ≤ e → at2 ≤ 8 * bs'.length → inflL bs' (f' + 1) at_ out = inflL bs' f' a2 o2 := fun f' ha he hl => by
              obtain ⟨g1, g2⟩ := n1 ha (by omega)
              have g3 := b4 (ha.sub (by omega) he)
              rw [inflL_succ]
              unfold inflStep
              rw [if_pos (by omega), if_pos (by omega), g2, show blkK (num bs (at_ + 1) 2) _ (at_ + 1 + 2) out = some (a2, o2) from g3, g1]
              simp only [hz, if_true]
            rcases ih _ _ _ _ h with hS | hT
            · refine .inl fun f' bs' ha hl hne r hr => ?_
              cases f' with
              | zero => simp [inflL] at hr
              | succ f' =>
                simp only [go f' ha (by omega) hl] at hr
                exact hS f' bs' (ha.sub (by omega) (Nat.le_refl _)) hl hne r hr
            · refine .inr fun f' hf => ?_
              obtain ⟨f', rfl⟩ : ∃ g, f' = g + 1 := ⟨f' - 1, by omega⟩
              obtain ⟨t1, t2, o0, t3, t4⟩ := hT f' (by omega)
              refine ⟨t1, by omega, o0, t3, fun bs' ha hl => ?_⟩
              simp only [go f' ha (by omega) hl]
              exact t4 bs' (ha.sub (by omega) (Nat.le_refl _)) hl
          · next hz =>
            simp only [Option.some.injEq, Prod.mk.injEq] at h
            obtain ⟨rfl, rfl⟩ := h
            rcases blkK_last hb with hS | ⟨t1, t2, o0, t3, t4⟩
            · refine .inl fun f' bs' ha hl hne r hr => ?_
              cases f' with
              | zero => simp [inflL] at hr
              | succ f' =>
                obtain ⟨g1, g2⟩ := n1 ha (by omega)
                simp only [inflL_succ] at hr
                unfold inflStep at hr
                rw [if_pos (by omega), if_pos (by omega), g2, g1] at hr
                split at hr
                · simp at hr
                · next a3 o3 hb3 =>
                  rw [if_neg hz] at hr
                  simp only [Option.some.injEq] at hr
                  subst hr
                  exact hS bs' (ha.sub (by omega) (Nat.le_refl _)) hl hne _ hb3
            · refine .inr fun f' hf => ⟨t1, by omega, o0, t3, fun bs' ha hl => ?_⟩
              obtain ⟨f', rfl⟩ : ∃ g, f' = g + 1 := ⟨f' - 1, by omega⟩
              obtain ⟨g1, g2⟩ := n1 ha (by omega)
              have g3 := t4 bs' (ha.sub (by omega) (Nat.le_refl _)) hl
              simp only [inflL_succ]
              unfold inflStep
              rw [if_pos (by omega), if_pos (by omega), g2, g1]
              simp only at g3
              rw [g3]
              simp only [hz, if_false]
      · simp at h
    · simp at h
end Go.Proofs.Ytlofoocgiomfbaa.M10
