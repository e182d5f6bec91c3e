/- kraft.order hands out the symbols in order; kraft.Words answers the words. cost.may, cost.uses: contracts. Plain mathematics of layer 5: lengths that cost least: rows of packages, what is taken of each, the lengths; they make a full code. -/
import Derived.Test.YtendielanacflaaGreatL01
import Derived.Test.YtendielanacflaaGreatL04
import Derived.Test.YtendielanacflaaGreatChecked
namespace Go.Proofs.YtendielanacflaaGreat
open Go.RowKit Go.Shelf M04
attribute [local go_sem] Oper.semAt_some
set_option linter.unusedVariables false
theorem RowN.same {k : IntKind} {w W : World} {a : Option Addr} {cap : Nat} {l : List Nat} (h : RowN k w a cap l) (hs : w.heap.size ≤ W.heap.size) (hb : ∀ x, 0 < l.length → a = some x → W.heap[x.block]? = w.heap[x.block]?) : RowN k W a cap l := by
  obtain ⟨h1, h2, h3⟩ := h
  refine ⟨h1, h2, ?_⟩
  rcases h3 with h3 | ⟨b, off, rfl, hb', hc⟩
  · exact .inl h3
  · exact .inr ⟨b, off, rfl, by omega, fun i hi => (World.cell?_of_block (a := ⟨b, off + i, none⟩) (hb ⟨b, off, none⟩ (by omega) rfl)).trans (hc i hi)⟩
def orderS (a : Option Addr) (B : Nat) (l : List Nat) (b : Nat) : Prop := b = B ∨ (0 < l.length ∧ ∃ x, a = some x ∧ b = x.block)
def orderRow (l : List Nat) (i : Nat) : Array Value := #[.int .i64 (((ord l).getD i (0, 0)).1 : Nat), .int .u8 (((ord l).getD i (0, 0)).2 : Nat)]
theorem kraft_order (a : Option Addr) (cap : Nat) (l : List Nat) (w : World) :
    Calls Tryz.prog 113 #[.slice a l.length cap] w fun e w' => e = .returned (.func (.func 145) #[] #[.pointer (some ⟨w.heap.size, 0, none⟩)]) ∧ w' = w.alloc (.cells #[.slice a l.length cap] 24) := by
  have hmf : ∀ (fn : Fn) (first cap : Array Value) (w : World), (Instr.makeFunc fn first cap).run Tryz.prog w = .ok (.func fn first cap) w := fun _ _ _ _ => rfl
  go_enter Tryz.func113, Tryz.ntmps113
  go_wp2
  go_ret
  exact ⟨rfl, rfl⟩
theorem round_wide {n m : Nat} {P : Program} {l : Nat} {f : FuncId} {tmps : Array Value} {assign body : Code} {w : World} {R : Ending → World → Prop} (h : RoundIn Fence.wide n P l f tmps assign body w R) : RoundIn Fence.wide m P l f tmps assign body w R := ⟨h.1, fun c cs _ => h.2 c cs (room_wide _)⟩
theorem orderRow_at (l : List Nat) (i k n : Nat) (h : (ord l)[i]? = some (k, n)) : i < (ord l).length ∧ orderRow l i = #[.int .i64 (k : Nat), .int .u8 (n : Nat)] := by
  refine ⟨(List.getElem?_eq_some_iff.1 h).1, ?_⟩
  simp [orderRow, List.getD, h]
set_option maxHeartbeats 800000 in
theorem order_yields (a : Option Addr) (cap : Nat) (l : List Nat) (w : World) (B : Nat) (hr : RowN .u8 w a cap l) (hB : w.heap[B]? = some (.cells #[.slice a l.length cap] 24 (0, 0))) :
    Yields Tryz.prog 145 #[.pointer (some ⟨B, 0, none⟩)] (ord l).length (orderRow l) (orderS a B l) (fun _ => False) w := by
  intro y J Jx W hsame hJ hJx hY h0
  have hlen := hr.len
  have HY := Lib.hid hY
  clear hJ hJx hY
  refine callsIn_of_wp Tryz.func145 rfl trivial ?_ rfl
  simp only [Tryz.ntmps145, List.size_toArray, List.length_cons, List.length_nil, Nat.reduceAdd, Nat.reduceSub, Array.replicate_succ, Array.replicate_zero, List.push_toArray, List.append_toArray, List.nil_append, List.cons_append]
  gi_wp2
  gi_loopw [3] (fun n A => ∃ k : Nat, 1 ≤ k ∧ k ≤ 21 ∧ n = .int .u8 k ∧ SameOn (orderS a B l) w A ∧ J (if k = 21 then (ord l).length else (ordB l k 0).length) A) (fun n _ => 21 - (intOf n).toNat)
  case atStart => exact ⟨1, by omega, by omega, rfl, hsame, by simpa [ordB_one] using h0⟩
  case round =>
    obtain ⟨n, h1, h21, rfl, hsameA, hJA⟩ := hrel
    by_cases hn : n ≤ 20
    · rw [if_neg (by omega)] at hJA
      have hbn : decide ((n : Int) ≤ 20) = true := by simp; omega
      have hbox : wr.cell? ⟨B, 0, none⟩ = some (.slice a l.length cap) := cell_of_one ((hsameA.same B (.inl rfl)).trans hB)
      gi_wp2
      gi_loopw [12] (fun i A => ∃ k : Nat, k ≤ l.length ∧ i = .int .i64 k ∧ SameOn (orderS a B l) w A ∧ J (ordB l n k).length A) (fun i _ => l.length - (intOf i).toNat)
      case atStart => exact ⟨0, by omega, rfl, hsameA, hJA⟩
      case round =>
        clear hJA hsameA hbox
        obtain ⟨k, hk, rfl, hsameA, hJA⟩ := hrel
        by_cases hlt : k < l.length
        · have hrA := hr.same hsameA.size (fun x h0 hx => hsameA.same _ (.inr ⟨h0, x, hx, rfl⟩))
          obtain ⟨b, off, rfl, hb, hck⟩ := hrA.at hlt
          have hg : l.getD k 0 = l[k] := by simp [hlt]
          by_cases hx : l[k] = n
          · obtain ⟨hi, hrow⟩ := orderRow_at l _ k n (ord_at l n k hn (by omega) hlt (by omega))
            have hyy := HY.out _ _ hi hJA
            rw [hrow] at hyy
            obtain ⟨fn, tmps, assign, body, hy, hR⟩ := hyy
            have H := Lib.hid (ordB_hit l n k (by omega))
            have hbx : ((l[k] : Int) == (n : Int)) = true := by simp; omega
            clear hx hg hrow
            have HJ := Lib.hid hJA
            have HR := Lib.hid hR
            have HI := Lib.hid hi
            clear hJA hR hi
            generalize l[k] = x at *
            gi_wp2
            refine (round_wide HR.out).mono ?_
            rintro e W' (⟨rfl, hJ', hk'⟩ | ⟨rfl, hJx'⟩)
            · gi_wp2
              go_roundw
              case rel => exact ⟨k + 1, by omega, by go_num, hsameA.trans hk', by rw [H.out]; simpa using hJ'⟩
              case measure => simp [intOf]; omega
            · gi_wp2
              refine bodyPost_ret (results_none rfl _ _ _) rfl ?_
              exact ⟨⟨_, rfl⟩, .inr ⟨_, HI.out, hJx'⟩⟩
          · have H := Lib.hid (ordB_miss l n k (by omega))
            have hbx : ((l[k] : Int) == (n : Int)) = false := by simp; omega
            have HJ := Lib.hid hJA
            clear hx hg hJA
            generalize l[k] = x at *
            gi_wp2
            refine ⟨fun _ h => (by cases h), ?_⟩
            gi_wp2
            go_roundw
            case rel => exact ⟨k + 1, by omega, by go_num, hsameA, by rw [H.out]; exact HJ.out⟩
            case measure => simp [intOf]; omega
        · obtain rfl : k = l.length := by omega
          have HJ := Lib.hid hJA
          have H : Hid (ordB l n l.length = if n + 1 = 21 then ord l else ordB l (n + 1) 0) := by
            unfold Hid; split
            · obtain rfl : n = 20 := by omega
              rfl
            · exact (ordB_row l n (by omega)).symm
          clear hJA
          gi_wp2
          go_roundw
          case rel =>
            refine ⟨n + 1, by omega, by omega, by go_num, hsameA, ?_⟩
            have h3 := HJ.out
            rw [H.out] at h3
            split <;> simp_all
          case measure => simp [intOf]; omega
    · obtain rfl : n = 21 := by omega
      rw [if_pos rfl] at hJA
      have HJ := Lib.hid hJA
      clear hJA
      gi_wp2
      go_end0
      exact ⟨⟨_, rfl⟩, .inl HJ.out⟩
theorem four (w : World) (o1 o2 o3 o4 : Obj) : ((((w.alloc o1).alloc o2).alloc o3).alloc o4).heap.size = w.heap.size + 4 ∧ ((((w.alloc o1).alloc o2).alloc o3).alloc o4).heap[w.heap.size]? = some o1 ∧ ((((w.alloc o1).alloc o2).alloc o3).alloc o4).heap[w.heap.size + 1]? = some o2 ∧
    ((((w.alloc o1).alloc o2).alloc o3).alloc o4).heap[w.heap.size + 2]? = some o3 ∧ ((((w.alloc o1).alloc o2).alloc o3).alloc o4).heap[w.heap.size + 3]? = some o4 ∧ Below w.heap.size w ((((w.alloc o1).alloc o2).alloc o3).alloc o4) := by
  have h1 := World.alloc_heap_new w o1
  have h2 := World.alloc_heap_new (w.alloc o1) o2
  have h3 := World.alloc_heap_new ((w.alloc o1).alloc o2) o3
  have h4 := World.alloc_heap_new (((w.alloc o1).alloc o2).alloc o3) o4
  simp only [World.size_alloc] at h2 h3 h4
  refine ⟨by simp, ?_, ?_, ?_, h4, (((((Below.refl _ w).alloc (Nat.le_refl _) _).alloc (by simp) _).alloc (by simp; omega) _).alloc (by simp; omega) _)⟩
  · rw [Below.heap_alloc _ _ _ (by simp only [World.size_alloc]; omega), Below.heap_alloc _ _ _ (by simp only [World.size_alloc]; omega), Below.heap_alloc _ _ _ (by simp)]; exact h1
  · rw [Below.heap_alloc _ _ _ (by simp only [World.size_alloc]; omega), Below.heap_alloc _ _ _ (by simp)]; exact h2
  · rw [Below.heap_alloc _ _ _ (by simp)]; exact h3
theorem words_after (l : List Nat) (w : World) (B1 : Nat) (a : Option Addr) (N k n m : Nat) (o : List Nat) (A : World) {v1 v2 v3 : Value}
    (h1 : A.heap[B1 + 1]? = some (.cells #[v1] 44)) (h3 : A.heap[B1 + 2]? = some (.cells #[v2] 5)) (h4 : A.heap[B1]? = some (.cells #[v3] 122))
    (h5 : OwnN 44 .u32 A w.heap.size (some ⟨w.heap.size, 0, none⟩) l.length o) (h6 : Below w.heap.size w A) (hbl : ∀ x, 0 < l.length → a = some x → x.block < w.heap.size) (hlt : w.heap.size < B1) (hA : B1 + 4 ≤ A.heap.size) :
    let B := (((A.setCell ⟨B1 + 1, 0, none⟩ (.int .u32 m)).setCell ⟨w.heap.size, k, none⟩ (.int .u32 m)).setCell ⟨B1 + 1, 0, none⟩ (.int .u32 ((m + 1 : Nat) : Int))).setCell ⟨B1 + 1 + 1, 0, none⟩ (.int .u8 n)
    KeepsFrom N A B ∧ SameOn (orderS a (B1 + 3) l) A B ∧ B.heap[B1 + 1]? = some (.cells #[.int .u32 ((m + 1 : Nat) : Int)] 44) ∧ B.heap[B1 + 2]? = some (.cells #[.int .u8 n] 5) ∧ B.heap[B1]? = some (.cells #[v3] 122) ∧
      OwnN 44 .u32 B w.heap.size (some ⟨w.heap.size, 0, none⟩) l.length (o.set k m) ∧ Below w.heap.size w B := by
  intro B
  have s1 := one_setCell (u := .int .u32 m) h1
  have s2 := (Below.heap_setCell (A.setCell ⟨B1 + 1, 0, none⟩ (.int .u32 m)) ⟨w.heap.size, k, none⟩ (.int .u32 m) (B1 + 1) (by show B1 + 1 ≠ w.heap.size; omega)).trans s1
  have s3 := one_setCell (u := .int .u32 ((m + 1 : Nat) : Int)) s2
  have t1 := (Below.heap_setCell A ⟨B1 + 1, 0, none⟩ (.int .u32 m) (B1 + 2) (by show B1 + 2 ≠ B1 + 1; omega)).trans h3
  have t2 := (Below.heap_setCell (A.setCell ⟨B1 + 1, 0, none⟩ (.int .u32 m)) ⟨w.heap.size, k, none⟩ (.int .u32 m) (B1 + 2) (by show B1 + 2 ≠ w.heap.size; omega)).trans t1
  have t3 := (Below.heap_setCell ((A.setCell ⟨B1 + 1, 0, none⟩ (.int .u32 m)).setCell ⟨w.heap.size, k, none⟩ (.int .u32 m)) ⟨B1 + 1, 0, none⟩ (.int .u32 ((m + 1 : Nat) : Int)) (B1 + 2) (by show B1 + 2 ≠ B1 + 1; omega)).trans t2
  have u1 := (Below.heap_setCell A ⟨B1 + 1, 0, none⟩ (.int .u32 m) B1 (by show B1 ≠ B1 + 1; omega)).trans h4
  have u2 := (Below.heap_setCell (A.setCell ⟨B1 + 1, 0, none⟩ (.int .u32 m)) ⟨w.heap.size, k, none⟩ (.int .u32 m) B1 (by show B1 ≠ w.heap.size; omega)).trans u1
  have u3 := (Below.heap_setCell ((A.setCell ⟨B1 + 1, 0, none⟩ (.int .u32 m)).setCell ⟨w.heap.size, k, none⟩ (.int .u32 m)) ⟨B1 + 1, 0, none⟩ (.int .u32 ((m + 1 : Nat) : Int)) B1 (by show B1 ≠ B1 + 1; omega)).trans u2
  have ne : ∀ p : Addr, p.block ≠ w.heap.size → ∀ g, some (⟨w.heap.size, 0, none⟩ : Addr) = some ⟨g, 0, none⟩ → p.block ≠ g := fun p hp g hg => by
    simp only [Option.some.injEq, Addr.mk.injEq, and_true] at hg; rw [← hg]; exact hp
  refine ⟨((((KeepsOthers.setCell _ _ _).trans (KeepsOthers.setCell _ _ _)).trans (KeepsOthers.setCell _ _ _)).trans (KeepsOthers.setCell _ _ _)).from _, ?_, ?_, one_setCell t3, ?_, ?_, ?_⟩
  · refine (((((Only.refl (fun b => b = w.heap.size ∨ b = B1 + 1 ∨ b = B1 + 2) A).setCell (.inl (.inr (.inl rfl))) _).setCell (.inl (.inl rfl)) _).setCell (.inl (.inr (.inl rfl))) _).setCell (.inl (.inr (.inr rfl))) _).sameOn ?_
    rintro b (rfl | ⟨h0, x, hx, rfl⟩)
    · exact ⟨by omega, by omega⟩
    · have := hbl x h0 hx
      exact ⟨by omega, by omega⟩
  · exact (Below.heap_setCell _ _ _ _ (by show B1 + 1 ≠ B1 + 1 + 1; omega)).trans s3
  · exact (Below.heap_setCell _ _ _ _ (by show B1 ≠ B1 + 1 + 1; omega)).trans u3
  · exact OwnN.other (OwnN.other (OwnN.stored (OwnN.other h5 (ne _ (by show B1 + 1 ≠ _; omega)) _) k m).1 (ne _ (by show B1 + 1 ≠ _; omega)) _) (ne _ (by show B1 + 1 + 1 ≠ _; omega)) _
  · exact (((h6.setCell (by show w.heap.size ≤ B1 + 1; omega) _).setCell (Nat.le_refl _) _).setCell (by show w.heap.size ≤ B1 + 1; omega) _).setCell (by show w.heap.size ≤ B1 + 1 + 1; omega) _
theorem cls_over (l : List Nat) : cls l = 3 ↔ 2 ^ 20 < weight l := by
  unfold cls
  split
  · omega
  · split
    · omega
    · split <;> omega
set_option maxHeartbeats 800000 in
theorem kraft_words (a : Option Addr) (cap : Nat) (l : List Nat) (w : World) (hr : RowN .u8 w a cap l) :
    Calls Tryz.prog 77 #[.slice a l.length cap] w (WordsOut w l) := by
  have hlen := hr.len
  by_cases hm : May l
  case neg =>
    have H : Hid (wordsE l = ([], 5)) := by simp [Hid, wordsE, hm]
    have HC : clsE l = (0, 5) := by simp [clsE, hm]
    clear hm
    go_enter Tryz.func77, Tryz.ntmps77
    go_wp2_with (go_at_call 89; refine (kraft_classify _ _ _ _ hr).mono ?_; rintro e w' ⟨rfl, rfl⟩; rw [HC])
    go_ret2
    unfold WordsOut
    rw [H.out]
    exact ⟨none, 0, rfl, OwnN.nil _ _ _ _, Below.refl _ _⟩
  have HC : clsE l = (cls l, 0) := by simp [clsE, hm]
  by_cases ho : 2 ^ 20 < weight l
  · have H : Hid (wordsE l = ([], 2)) := by simp only [Hid, wordsE, hm, ho, not_true, if_false, if_true]
    have H3 := (cls_over l).2 ho
    rw [H3] at HC
    clear hm ho H3
    go_enter Tryz.func77, Tryz.ntmps77
    go_wp2_with (go_at_call 89; refine (kraft_classify _ _ _ _ hr).mono ?_; rintro e w' ⟨rfl, rfl⟩; rw [HC])
    go_ret2
    unfold WordsOut
    rw [H.out]
    exact ⟨none, 0, rfl, OwnN.nil _ _ _ _, Below.refl _ _⟩
  have H : Hid (wordsE l = (words l, 0)) := by simp only [Hid, wordsE, hm, ho, not_true, if_false]
  have h3 : ((cls l : Int) == 3) = false := by have := cls_over l; simp; omega
  have h512 : l.length ≤ 512 := hm.2
  have HM := Lib.hid hm
  have HO : weight l ≤ 2 ^ 20 := by omega
  have HCC := Lib.hid HC
  clear hm ho HC
  refine (callsIn_wide (n := 9)).1 ?_
  refine callsIn_of_wp_marks Tryz.func77 rfl trivial ?_ rfl
  simp only [Tryz.ntmps77, List.size_toArray, List.length_cons, List.length_nil, Nat.reduceAdd, Nat.reduceSub, Array.replicate_succ, Array.replicate_zero, List.push_toArray, List.append_toArray, List.nil_append, List.cons_append]
  gi_wp2_with (first | (refine ⟨trivial, ?_⟩; gi_at_call 89; refine (callsIn_wide.2 (kraft_classify _ _ _ _ hr)).mono ?_; rintro e w' ⟨rfl, rfl⟩; rw [HCC.out]) | (gi_at_make; refine makeNIn et_u32 rfl _ _ rfl w.heap.size rfl rfl (by omega) (by omega) (Nat.le_refl _) ?_; intro w1 hown hg) | (refine ⟨trivial, ?_⟩; gi_at_call 113; refine (callsIn_wide.2 (kraft_order _ _ _ _)).mono ?_; rintro e w' ⟨rfl, rfl⟩))
  obtain ⟨hz, hb0, hb1, hb2, hb3, hbel⟩ := four w1 (.cells #[.slice (some ⟨w.heap.size, 0, none⟩) l.length l.length] 122) (.cells #[.int .u32 0] 44) (.cells #[.int .u8 0] 5) (.cells #[.slice a l.length cap] 24)
  have h01 : w.heap.size < w1.heap.size := by
    obtain ⟨g, he, _, hlt⟩ := (hown.form).resolve_left (by simp)
    simp only [Option.some.injEq, Addr.mk.injEq, and_true] at he
    omega
  have hB1 : Below w.heap.size w w1 := Below.of_grown hg (Nat.le_refl _) (fun k e => by cases e)
  have hB4 := hB1.trans (hbel.mono hB1.size)
  have hown4 := hown.below hbel
  clear hbel hown hg
  generalize (((w1.alloc (Obj.cells #[Value.slice (some ⟨w.heap.size, 0, none⟩) l.length l.length] 122)).alloc (Obj.cells #[Value.int .u32 0] 44)).alloc (Obj.cells #[Value.int .u8 0] 5)).alloc (Obj.cells #[Value.slice a l.length cap] 24) = W0 at *
  have hr4 : RowN .u8 W0 a cap l := hr.below hB4
  refine range_law (g := .tmp 27) (gf := 145) (lb := #[.pointer (some ⟨w1.heap.size + 3, 0, none⟩)]) rfl (enters_of Tryz.func145 (by kernel_rfl) rfl)
    (order_yields a cap l W0 (w1.heap.size + 3) hr4 hb3) (SameOn.refl _ _) ?hS (fun _ h => h.elim) (fun _ => rfl)
    (fun i A => (∃ nx : Nat, A.heap[w1.heap.size + 1]? = some (.cells #[.int .u32 nx] 44) ∧ nx * 2 ^ (20 - bitsI l i) = accI l i) ∧ A.heap[w1.heap.size + 2]? = some (.cells #[.int .u8 (bitsI l i : Nat)] 5) ∧
      A.heap[w1.heap.size]? = some (.cells #[.slice (some ⟨w.heap.size, 0, none⟩) l.length l.length] 122) ∧ OwnN 44 .u32 A w.heap.size (some ⟨w.heap.size, 0, none⟩) l.length (outsI l i) ∧ Below w.heap.size w A)
    (fun _ _ _ => False) ?hI ?hIp (fun _ _ _ _ h _ => h) (fun _ _ _ _ _ _ h _ _ _ => h) ?h0 ?a1 ?assign ?body ?done (fun _ _ _ _ h _ => h.elim)
  case hS =>
    rintro b (rfl | ⟨h0, x, hx, rfl⟩)
    · omega
    · obtain ⟨b', off, he, hlt, _⟩ := hr4.at h0
      rw [hx] at he
      cases he
      exact hlt
  case hI =>
    rintro i A B ⟨⟨nx, h1, h2⟩, h3, h4, h5, h6⟩ ho
    exact ⟨⟨nx, box_only h1 ho id, h2⟩, box_only h3 ho id, box_only h4 ho id, h5.only ho (fun _ _ => id), Below.only h6 ho (Nat.le_refl _) (fun _ h => h.elim)⟩
  case hIp =>
    rintro i A r o o' ⟨⟨nx, h1, h2⟩, h3, h4, h5, h6⟩ hr0 hro hoc
    exact ⟨⟨nx, box_put h1 hro hoc, h2⟩, box_put h3 hro hoc, box_put h4 hro hoc, h5.put hro hoc _, Below.put h6 (Nat.le_refl _) hro (by omega) _⟩
  case h0 => exact ⟨⟨0, hb1, by simp [accI]⟩, hb2, hb0, by simpa [outsI] using hown4, hB4⟩
  case assign =>
    intro y i W K hK
    simp only [orderRow]
    gi_wp2
    exact hK
  case body =>
    rintro y i hi A hz2 ⟨⟨nx, h1, h2⟩, h3, h4, h5, h6⟩
    obtain ⟨k, n, hrow, hk, hn0, hn20, hbn, hbn1, hwd, hnx, hac⟩ := words_step l i nx hi HO h2
    have hp : (ord l).getD i (0, 0) = (k, n) := by simp [List.getD, hrow]
    have hp' : (ord l)[i]?.getD (0, 0) = (k, n) := by simp [hrow]
    simp only [hp']
    obtain ⟨g, he, _, hg2, hcell, hfree⟩ := h5.at (i := k) (by rw [outsI_length]; exact hk)
    simp only [Option.some.injEq, Addr.mk.injEq, and_true] at he
    subst he
    have c1 := cell_of_one h1
    have f1 := free_of_one h1
    have c2 := cell_of_one h3
    have f2 := free_of_one h3
    have c3 := cell_of_one h4
    have HX := Lib.hid hwd
    have HY := Lib.hid hac
    have HZ := Lib.hid hbn1
    have HR := Lib.hid hrow
    have H1 := Lib.hid h1
    have H3 := Lib.hid h3
    have H4 := Lib.hid h4
    clear hrow hp hp' hwd hac hbn1 hb0 hb1 hb2 hb3 h1 h3 h4 h2
    generalize bitsI l i = bt at *
    have hlt1 : w.heap.size < w1.heap.size := h01
    gi_wp2
    have hm : ((nx : Int) * 2 ^ (n - bt)) % 4294967296 = ((nx * 2 ^ (n - bt) : Nat) : Int) := by
      have h2 : (2 : Int) ^ (n - bt) = ((2 ^ (n - bt) : Nat) : Int) := by simp
      rw [h2, ← Int.natCast_mul]
      generalize nx * 2 ^ (n - bt) = m at *
      omega
    have hm1 : ((nx : Int) * 2 ^ (n - bt) + 1) % 4294967296 = ((nx * 2 ^ (n - bt) + 1 : Nat) : Int) := by
      have h2 : (2 : Int) ^ (n - bt) = ((2 ^ (n - bt) : Nat) : Int) := by simp
      rw [h2, ← Int.natCast_mul]
      generalize nx * 2 ^ (n - bt) = m at *
      omega
    simp only [hm, hm1]
    have hbl : ∀ x, 0 < l.length → a = some x → x.block < w.heap.size := fun x h0 hx => by
      obtain ⟨b', off, he, hlt, _⟩ := hr.at h0
      rw [hx] at he
      cases he
      exact hlt
    obtain ⟨q1, q2, q3, q4, q5, q6, q7⟩ := words_after l w w1.heap.size a W0.heap.size k n (nx * 2 ^ (n - bt)) (outsI l i) A H1.out H3.out H4.out h5 h6 hbl hlt1 (by omega)
    refine ⟨q1, q2, ⟨nx * 2 ^ (n - bt) + 1, q3, by rw [HZ.out]; exact HY.out⟩, by rw [HZ.out]; exact q4, q5, ?_, q7⟩
    rw [outsI_succ l i k n HR.out, HX.out]
    exact q6
  case done =>
    rintro A ⟨⟨nx, h1, h2⟩, h3, h4, h5, h6⟩ hD
    have c3 := cell_of_one h4
    clear h1 h2 h3 h4
    gi_wp2
    refine ⟨by simp, .inl ⟨_, _, rfl, run_takeDeferred hD, ?_⟩⟩
    refine ⟨_, results_tmp2 rfl _ _ _, ?_⟩
    unfold WordsOut
    rw [H.out]
    rw [outsI_end l HM.out.1] at h5
    refine ⟨some ⟨w.heap.size, 0, none⟩, l.length, ?_, h5.put hD rfl _, Below.put h6 (Nat.le_refl _) hD (by omega) _⟩
    simp [words_length]
end Go.Proofs.YtendielanacflaaGreat

namespace Go.Proofs.YtendielanacflaaGreat
open Go.RowKit Go.Shelf M08 M17
attribute [local go_sem] Oper.semAt_some
set_option linter.unusedVariables false
theorem box_below (w : World) (o : Obj) : Below w.heap.size w (w.alloc o) := (Below.refl _ _).alloc (Nat.le_refl _) _
def lenS (n : Int) : Nat := if 3 ≤ n ∧ n ≤ 258 then 257 + lk n.toNat else 0
def lenB (n : Int) : Nat := if 3 ≤ n ∧ n ≤ 258 then lbits (257 + lk n.toNat) else 0
def lenX (n : Int) : Nat := if 3 ≤ n ∧ n ≤ 258 then n.toNat - lensL.getD (lk n.toNat) 0 else 0
def lenE (n : Int) : Nat := if 3 ≤ n ∧ n ≤ 258 then 0 else 5
def dstS (n : Int) : Nat := if 1 ≤ n ∧ n ≤ 32768 then dk n.toNat else 0
def dstB (n : Int) : Nat := if 1 ≤ n ∧ n ≤ 32768 then dbits (dk n.toNat) else 0
def dstX (n : Int) : Nat := if 1 ≤ n ∧ n ≤ 32768 then n.toNat - distL.getD (dk n.toNat) 0 else 0
def dstE (n : Int) : Nat := if 1 ≤ n ∧ n ≤ 32768 then 0 else 5
theorem token_length_all (n : Int) (w : World) :
    Calls Tryz.prog 43 #[.int .i64 n] w fun e w' => e = .returned (.tuple #[.int .i64 (lenS n : Nat), .int .i64 (lenB n : Nat), .int .i64 (lenX n : Nat), .int .i64 (lenE n : Nat)]) ∧ Below w.heap.size w w' := by
  unfold lenS lenB lenX lenE
  by_cases h : 3 ≤ n ∧ n ≤ 258
  · obtain ⟨m, rfl⟩ := Int.eq_ofNat_of_zero_le (by omega : 0 ≤ n)
    simp only [if_pos h, Int.toNat_natCast]
    exact token_length m w (by omega) (by omega)
  · simp only [if_neg h]
    exact (token_length_no n w (by omega)).mono fun e w' ⟨h1, h2⟩ => ⟨h1, h2 ▸ Below.refl _ _⟩
theorem token_distance_all (n : Int) (w : World) :
    Calls Tryz.prog 44 #[.int .i64 n] w fun e w' => e = .returned (.tuple #[.int .i64 (dstS n : Nat), .int .i64 (dstB n : Nat), .int .i64 (dstX n : Nat), .int .i64 (dstE n : Nat)]) ∧ Below w.heap.size w w' := by
  unfold dstS dstB dstX dstE
  by_cases h : 1 ≤ n ∧ n ≤ 32768
  · obtain ⟨m, rfl⟩ := Int.eq_ofNat_of_zero_le (by omega : 0 ≤ n)
    simp only [if_pos h, Int.toNat_natCast]
    exact token_distance m w (by omega) (by omega)
  · simp only [if_neg h]
    exact (token_distance_no n w (by omega)).mono fun e w' ⟨h1, h2⟩ => ⟨h1, h2 ▸ Below.refl _ _⟩
theorem take_ok {l : List Tok} {k : Nat} (hk : k < l.length) (h : ∀ t ∈ l.take k, tokOk t) (h2 : tokOk l[k]) : ∀ t ∈ l.take (k + 1), tokOk t := by
  rw [List.take_succ_eq_append_getElem hk]
  intro t ht
  rcases List.mem_append.1 ht with ht | ht
  · exact h t ht
  · simp at ht; exact ht ▸ h2
theorem cells3 {w : World} {b : Nat} {x y z : Value} {t : TypeId} (h : w.heap[b]? = some (.cells #[x, y, z] t)) : w.cell? ⟨b, 0, none⟩ = some x ∧ w.cell? ⟨b, 1, none⟩ = some y ∧ w.cell? ⟨b, 2, none⟩ = some z := by
  simp [World.cell?, h]
end Go.Proofs.YtendielanacflaaGreat

namespace Go.Proofs.YtendielanacflaaGreat.M05
set_option linter.unusedVariables false
def ltF (f : List Nat) (a b : Nat) : Bool := decide (f.getD a 0 < f.getD b 0) || (decide (f.getD a 0 = f.getD b 0) && decide (a < b))
def insF (f : List Nat) (x : Nat) : List Nat → List Nat
  | [] => [x]
  | y :: l => if ltF f x y then x :: y :: l else y :: insF f x l
def used (f : List Nat) : List Nat := (List.range f.length).filter fun s => decide (0 < f.getD s 0)
def rar (f : List Nat) : List Nat := (used f).foldr (insF f) []
abbrev Item := Nat × Nat
def nextF : Nat → List Nat → List Nat → List Item
  | 0, _, _ => []
  | f + 1, s :: sy, a :: b :: t => if s ≤ a + b then (s, 1) :: nextF f sy (a :: b :: t) else (a + b, 0) :: nextF f (s :: sy) t
  | f + 1, s :: sy, l => (s, 1) :: nextF f sy l
  | f + 1, [], a :: b :: t => (a + b, 0) :: nextF f [] t
  | _ + 1, [], _ => []
def nextR (sy last : List Nat) : List Item := nextF (sy.length + last.length + 1) sy last
def wts (r : List Item) : List Nat := r.map fun x => x.1
def symN (r : List Item) (t : Nat) : Nat := ((r.take t).map fun x => x.2).sum
def rowS (sy : List Nat) : Nat → List Item
  | 0 => nextR sy []
  | i + 1 => nextR sy (wts (rowS sy i))
def tkn (sy : List Nat) (lim : Nat) : Nat → Nat
  | 0 => 2 * sy.length - 2
  | i + 1 => 2 * (tkn sy lim i - symN (rowS sy (lim - 1 - i)) (tkn sy lim i))
def cnt (sy : List Nat) (lim i : Nat) : Nat := symN (rowS sy (lim - 1 - i)) (tkn sy lim i)
def lenJ (sy : List Nat) (lim j : Nat) : Nat := ((List.range lim).filter fun i => decide (j < cnt sy lim i)).length
theorem nextF_more : ∀ (f g : Nat) (sy last : List Nat), sy.length + last.length + 1 ≤ f → sy.length + last.length + 1 ≤ g → nextF f sy last = nextF g sy last := by
  intro f
  induction f with
  | zero => intro g sy last h; omega
  | succ f ih =>
    intro g sy last h1 h2
    obtain ⟨g, rfl⟩ : ∃ k, g = k + 1 := ⟨g - 1, by omega⟩
    match sy, last with
    | s :: sy, a :: b :: t =>
      simp only [List.length_cons] at h1 h2
      simp only [nextF]
      rw [ih g sy (a :: b :: t) (by simp; omega) (by simp; omega), ih g (s :: sy) t (by simp; omega) (by simp; omega)]
    | s :: sy, [a] =>
      simp only [List.length_cons, List.length_nil] at h1 h2
      simp only [nextF]
      rw [ih g sy [a] (by simp; omega) (by simp; omega)]
    | s :: sy, [] =>
      simp only [List.length_cons, List.length_nil] at h1 h2
      simp only [nextF]
      rw [ih g sy [] (by simp; omega) (by simp; omega)]
    | [], a :: b :: t =>
      simp only [List.length_cons, List.length_nil] at h1 h2
      simp only [nextF]
      rw [ih g [] t (by simp; omega) (by simp; omega)]
    | [], [a] => simp [nextF]
    | [], [] => simp [nextF]
theorem nextR_two (s a b : Nat) (sy t : List Nat) : nextR (s :: sy) (a :: b :: t) = if s ≤ a + b then (s, 1) :: nextR sy (a :: b :: t) else (a + b, 0) :: nextR (s :: sy) t := by
  unfold nextR
  rw [nextF]
  rw [nextF_more _ (sy.length + (a :: b :: t).length + 1) sy (a :: b :: t) (by simp; omega) (by omega), nextF_more _ ((s :: sy).length + t.length + 1) (s :: sy) t (by simp; omega) (by omega)]
theorem nextR_sym (s : Nat) (sy l : List Nat) (hl : l.length < 2) : nextR (s :: sy) l = (s, 1) :: nextR sy l := by
  unfold nextR
  match l, hl with
  | [a], _ => rw [nextF]; rw [nextF_more _ (sy.length + [a].length + 1) sy [a] (by simp) (by omega)]; intro a' b' t h; cases h
  | [], _ => rw [nextF]; rw [nextF_more _ (sy.length + ([] : List Nat).length + 1) sy [] (by simp) (by omega)]; intro a' b' t h; cases h
theorem nextR_pkg (a b : Nat) (t : List Nat) : nextR [] (a :: b :: t) = (a + b, 0) :: nextR [] t := by
  unfold nextR
  rw [nextF]
  rw [nextF_more _ (([] : List Nat).length + t.length + 1) [] t (by simp) (by omega)]
theorem nextR_nil (l : List Nat) (hl : l.length < 2) : nextR [] l = [] := by
  unfold nextR
  match l, hl with
  | [a], _ => rfl
  | [], _ => rfl
theorem nextR_len : ∀ (n : Nat) (sy last : List Nat), sy.length + last.length ≤ n → (nextR sy last).length = sy.length + last.length / 2 := by
  intro n
  induction n with
  | zero =>
    intro sy last h
    have h1 : sy = [] := List.eq_nil_of_length_eq_zero (by omega)
    have h2 : last = [] := List.eq_nil_of_length_eq_zero (by omega)
    subst h1 h2; rfl
  | succ n ih =>
    intro sy last h
    match sy, last with
    | s :: sy, a :: b :: t =>
      simp only [List.length_cons] at h
      rw [nextR_two]
      split
      · rw [List.length_cons, ih _ _ (by simp; omega)]; simp; omega
      · rw [List.length_cons, ih _ _ (by simp; omega)]; simp; omega
    | s :: sy, [a] => rw [nextR_sym _ _ _ (by simp), List.length_cons, ih _ _ (by simp at h ⊢; omega)]; simp
    | s :: sy, [] => rw [nextR_sym _ _ _ (by simp), List.length_cons, ih _ _ (by simp at h ⊢; omega)]; simp
    | [], a :: b :: t =>
      simp only [List.length_cons, List.length_nil] at h
      rw [nextR_pkg, List.length_cons, ih _ _ (by simp; omega)]; simp; omega
    | [], [a] => rw [nextR_nil _ (by simp)]; simp
    | [], [] => rfl
theorem nextR_length (sy last : List Nat) : (nextR sy last).length = sy.length + last.length / 2 := nextR_len _ sy last (Nat.le_refl _)
theorem symN_succ (r : List Item) (t : Nat) (h : t < r.length) : symN r (t + 1) = symN r t + r[t].2 := by
  unfold symN
  rw [List.take_succ_eq_append_getElem h, List.map_append, List.sum_append]
  simp
theorem symN_cons (x : Item) (r : List Item) (t : Nat) : symN (x :: r) (t + 1) = x.2 + symN r t := by simp [symN]
theorem symN_zero (r : List Item) : symN r 0 = 0 := by simp [symN]
def isSym (r : List Item) : Prop := ∀ x ∈ r, x.2 ≤ 1
theorem symN_le (r : List Item) (h : isSym r) (t : Nat) : symN r t ≤ t := by
  induction t generalizing r with
  | zero => simp [symN]
  | succ t ih =>
    cases r with
    | nil => simp [symN]
    | cons x r =>
      rw [symN_cons]
      have := h x (by simp)
      have := ih r (fun y hy => h y (by simp [hy]))
      omega
def pkg (last : List Nat) (p : Nat) : Nat := last.getD (2 * p) 0 + last.getD (2 * p + 1) 0
theorem head_case (sy last : List Nat) (x : Item) (r : List Item) (h : nextR sy last = x :: r) :
    (x = (sy.getD 0 0, 1) ∧ 0 < sy.length ∧ r = nextR (sy.drop 1) last ∧ (2 ≤ last.length → sy.getD 0 0 ≤ pkg last 0)) ∨
    (x = (pkg last 0, 0) ∧ 2 ≤ last.length ∧ r = nextR sy (last.drop 2) ∧ (0 < sy.length → pkg last 0 < sy.getD 0 0)) := by
  match sy, last with
  | s :: sy, a :: b :: t =>
    rw [nextR_two] at h
    split at h
    · next hle =>
      simp only [List.cons.injEq] at h
      obtain ⟨rfl, rfl⟩ := h
      exact .inl ⟨rfl, by simp, rfl, fun _ => hle⟩
    · next hle =>
      simp only [List.cons.injEq] at h
      obtain ⟨rfl, rfl⟩ := h
      exact .inr ⟨rfl, by simp, rfl, fun _ => by show a + b < s; omega⟩
  | s :: sy, [a] =>
    rw [nextR_sym _ _ _ (by simp)] at h
    simp only [List.cons.injEq] at h
    obtain ⟨rfl, rfl⟩ := h
    exact .inl ⟨rfl, by simp, rfl, fun h => by simp at h⟩
  | s :: sy, [] =>
    rw [nextR_sym _ _ _ (by simp)] at h
    simp only [List.cons.injEq] at h
    obtain ⟨rfl, rfl⟩ := h
    exact .inl ⟨rfl, by simp, rfl, fun h => by simp at h⟩
  | [], a :: b :: t =>
    rw [nextR_pkg] at h
    simp only [List.cons.injEq] at h
    obtain ⟨rfl, rfl⟩ := h
    exact .inr ⟨rfl, by simp, rfl, fun h => by simp at h⟩
  | [], [a] => rw [nextR_nil _ (by simp)] at h; cases h
  | [], [] => rw [nextR_nil _ (by simp)] at h; cases h
theorem getD_drop (l : List Nat) (i j : Nat) : (l.drop i).getD j 0 = l.getD (i + j) 0 := by
  simp [List.getD_eq_getElem?_getD, List.getElem?_drop]
theorem pkg_drop (last : List Nat) (p q : Nat) : pkg (last.drop (2 * p)) q = pkg last (p + q) := by
  unfold pkg
  rw [getD_drop, getD_drop, show 2 * p + 2 * q = 2 * (p + q) by omega, show 2 * p + (2 * q + 1) = 2 * (p + q) + 1 by omega]
theorem nextR_state (sy last : List Nat) : ∀ t, t ≤ (nextR sy last).length →
    (nextR sy last).drop t = nextR (sy.drop (symN (nextR sy last) t)) (last.drop (2 * (t - symN (nextR sy last) t))) ∧ symN (nextR sy last) t ≤ t ∧ symN (nextR sy last) t ≤ sy.length ∧ 2 * (t - symN (nextR sy last) t) ≤ last.length := by
  intro t
  induction t with
  | zero => intro _; simp [symN]
  | succ t ih =>
    intro ht
    obtain ⟨h1, h2, h3, h4⟩ := ih (by omega)
    rw [List.drop_eq_getElem_cons (by omega)] at h1
    rw [symN_succ _ t (by omega)]
    generalize (nextR sy last)[t] = x at *
    generalize symN (nextR sy last) t = S at *
    rcases head_case _ _ _ _ h1.symm with ⟨rfl, h5, h6, _⟩ | ⟨rfl, h5, h6, _⟩
    · simp only [List.length_drop] at h5
      rw [h6, List.drop_drop, show t + 1 - (S + 1) = t - S by omega]
      exact ⟨rfl, by omega, by omega, h4⟩
    · simp only [List.length_drop] at h5
      rw [h6, List.drop_drop, Nat.add_zero, show 2 * (t - S) + 2 = 2 * (t + 1 - S) by omega]
      exact ⟨rfl, by omega, h3, by omega⟩
theorem nextR_item (sy last : List Nat) (t : Nat) (ht : t < (nextR sy last).length) :
    ((nextR sy last)[t] = (sy.getD (symN (nextR sy last) t) 0, 1) ∧ symN (nextR sy last) t < sy.length ∧ (2 * (t - symN (nextR sy last) t) + 2 ≤ last.length → sy.getD (symN (nextR sy last) t) 0 ≤ pkg last (t - symN (nextR sy last) t))) ∨
    ((nextR sy last)[t] = (pkg last (t - symN (nextR sy last) t), 0) ∧ 2 * (t - symN (nextR sy last) t) + 2 ≤ last.length ∧ (symN (nextR sy last) t < sy.length → pkg last (t - symN (nextR sy last) t) < sy.getD (symN (nextR sy last) t) 0)) := by
  obtain ⟨h1, h2, h3, h4⟩ := nextR_state sy last t (by omega)
  rw [List.drop_eq_getElem_cons ht] at h1
  generalize (nextR sy last)[t] = x at *
  generalize symN (nextR sy last) t = S at *
  rcases head_case _ _ _ _ h1.symm with ⟨rfl, h5, _, h6⟩ | ⟨rfl, h5, _, h6⟩
  · left
    simp only [List.length_drop] at h5 h6
    rw [getD_drop, pkg_drop] at h6
    rw [getD_drop]
    exact ⟨rfl, by omega, fun h => h6 (by omega)⟩
  · right
    simp only [List.length_drop] at h5 h6
    rw [getD_drop, pkg_drop] at h6
    rw [pkg_drop]
    exact ⟨rfl, by omega, fun h => h6 (by omega)⟩
theorem nextR_isSym (sy last : List Nat) : isSym (nextR sy last) := by
  intro x hx
  obtain ⟨t, ht, rfl⟩ := List.getElem_of_mem hx
  rcases nextR_item sy last t ht with ⟨h, _⟩ | ⟨h, _⟩ <;> rw [h] <;> simp
theorem symN_all (sy last : List Nat) : symN (nextR sy last) (nextR sy last).length = sy.length := by
  obtain ⟨h1, h2, h3, h4⟩ := nextR_state sy last _ (Nat.le_refl _)
  have hl := nextR_length sy last
  rw [List.drop_length] at h1
  have h5 := congrArg List.length h1
  rw [nextR_length, List.length_drop, List.length_drop] at h5
  simp at h5
  omega
def Rises (l : List Nat) : Prop := ∀ i j, i ≤ j → j < l.length → l.getD i 0 ≤ l.getD j 0
theorem sym_first (sy last : List Nat) (hs : Rises sy) : ∀ t, t ≤ (nextR sy last).length → ∀ p, p < t - symN (nextR sy last) t → ∀ j, j < sy.length → sy.getD j 0 ≤ pkg last p → j < symN (nextR sy last) t := by
  intro t
  induction t with
  | zero => intro _ p hp; omega
  | succ t ih =>
    intro ht p hp j hj hle
    have hst := (nextR_state sy last t (by omega)).2.1
    rw [symN_succ _ t (by omega)] at hp ⊢
    rcases nextR_item sy last t (by omega) with ⟨h1, h2, _⟩ | ⟨h1, h2, h3⟩
    · rw [h1] at hp ⊢
      simp only at hp ⊢
      have := ih (by omega) p (by omega) j hj hle
      omega
    · rw [h1] at hp ⊢
      simp only at hp ⊢
      by_cases hpt : p < t - symN (nextR sy last) t
      · exact ih (by omega) p hpt j hj hle
      · obtain rfl : p = t - symN (nextR sy last) t := by omega
        rcases Nat.lt_or_ge j (symN (nextR sy last) t) with h | h
        · exact h
        · have h4 := h3 (by omega)
          have := hs _ _ h hj
          omega
theorem sym_at (sy last : List Nat) : ∀ t, t ≤ (nextR sy last).length → ∀ c, c < symN (nextR sy last) t → ∃ q, q < t ∧ (wts (nextR sy last)).getD q 0 = sy.getD c 0 := by
  intro t
  induction t with
  | zero => intro _ c hc; rw [symN_zero] at hc; omega
  | succ t ih =>
    intro ht c hc
    rw [symN_succ _ t (by omega)] at hc
    by_cases h : c < symN (nextR sy last) t
    · obtain ⟨q, hq, h2⟩ := ih (by omega) c h
      exact ⟨q, by omega, h2⟩
    · rcases nextR_item sy last t (by omega) with ⟨h1, h2, _⟩ | ⟨h1, h2, _⟩
      · rw [h1] at hc
        simp only at hc
        obtain rfl : c = symN (nextR sy last) t := by omega
        refine ⟨t, by omega, ?_⟩
        unfold wts
        rw [List.getD_eq_getElem?_getD, List.getElem?_map, List.getElem?_eq_getElem (by omega), h1]
        rfl
      · rw [h1] at hc
        simp only at hc
        omega
def lastOf (sy : List Nat) : Nat → List Nat
  | 0 => []
  | k + 1 => wts (rowS sy k)
theorem rowS_eq (sy : List Nat) (k : Nat) : rowS sy k = nextR sy (lastOf sy k) := by cases k <;> rfl
theorem rowS_len (sy : List Nat) (k : Nat) : (rowS sy k).length = sy.length + (lastOf sy k).length / 2 := by rw [rowS_eq, nextR_length]
theorem lastOf_len (sy : List Nat) (k : Nat) : (lastOf sy (k + 1)).length = (rowS sy k).length := by simp [lastOf, wts]
theorem rowS_le (sy : List Nat) (h : 1 ≤ sy.length) (k : Nat) : (rowS sy k).length ≤ 2 * sy.length - 1 := by
  induction k with
  | zero => rw [rowS_len]; simp [lastOf]; omega
  | succ k ih => rw [rowS_len, lastOf_len]; omega
theorem rowS_ge (sy : List Nat) (k : Nat) : 2 * sy.length * 2 ^ k ≤ (rowS sy k).length * 2 ^ k + sy.length + 2 ^ k - 1 := by
  induction k with
  | zero => rw [rowS_len]; simp [lastOf]; omega
  | succ k ih =>
    rw [rowS_len, lastOf_len]
    have hp : 0 < 2 ^ k := Nat.pos_of_ne_zero (by simp)
    generalize (rowS sy k).length = r at *
    generalize sy.length = m at *
    rw [Nat.pow_succ]
    have h2 : r ≤ 2 * (r / 2) + 1 := by omega
    have h3 : r * 2 ^ k ≤ 2 * (r / 2) * 2 ^ k + 2 ^ k := by
      calc r * 2 ^ k ≤ (2 * (r / 2) + 1) * 2 ^ k := Nat.mul_le_mul_right _ h2
        _ = _ := by rw [Nat.add_mul, Nat.one_mul]
    have h4 : 2 * m * (2 ^ k * 2) = 2 * m * 2 ^ k + 2 * m * 2 ^ k := by rw [← Nat.mul_assoc]; omega
    have h5 : (m + r / 2) * (2 ^ k * 2) = 2 * m * 2 ^ k + 2 * (r / 2) * 2 ^ k := by
      rw [← Nat.mul_assoc, Nat.add_mul, Nat.add_mul, Nat.mul_comm 2 m, Nat.mul_right_comm m 2, Nat.mul_comm 2 (r / 2), Nat.mul_right_comm (r / 2) 2]
    rw [h4, h5]
    generalize 2 * m * 2 ^ k = A at *
    generalize 2 * (r / 2) * 2 ^ k = B at *
    omega
theorem rowS_enough (sy : List Nat) (k : Nat) (h1 : 1 ≤ sy.length) (h : sy.length ≤ 2 ^ (k + 1)) : 2 * sy.length - 2 ≤ (rowS sy k).length := by
  have h2 := rowS_ge sy k
  have hp : 0 < 2 ^ k := Nat.pos_of_ne_zero (by simp)
  rw [Nat.pow_succ] at h
  rcases Nat.lt_or_ge (rowS sy k).length (2 * sy.length - 2) with h3 | h3
  · exfalso
    have h4 : (rowS sy k).length + 3 ≤ 2 * sy.length := by omega
    have h5 : ((rowS sy k).length + 3) * 2 ^ k ≤ 2 * sy.length * 2 ^ k := Nat.mul_le_mul_right _ h4
    rw [Nat.add_mul] at h5
    omega
  · exact h3
theorem all_first (sy : List Nat) (hs : Rises sy) (h2 : 2 ≤ sy.length) : ∀ k, symN (rowS sy k) (min (rowS sy k).length (2 * sy.length - 2)) = sy.length := by
  intro k
  induction k with
  | zero =>
    have hl : (rowS sy 0).length = sy.length := by rw [rowS_len]; simp [lastOf]
    rw [hl, Nat.min_eq_left (by omega)]
    have := symN_all sy []
    have hl2 : (nextR sy []).length = sy.length := hl
    rw [hl2] at this
    exact this
  | succ k ih =>
    have hle := rowS_le sy (by omega) (k + 1)
    have hall := symN_all sy (lastOf sy (k + 1))
    rw [← rowS_eq] at hall
    by_cases hc : (rowS sy (k + 1)).length ≤ 2 * sy.length - 2
    · rw [Nat.min_eq_left hc, hall]
    · have hl : (rowS sy (k + 1)).length = 2 * sy.length - 1 := by omega
      rw [Nat.min_eq_right (by omega)]
      have hlen := rowS_len sy (k + 1)
      rw [lastOf_len] at hlen
      have hk2 : 2 * sy.length - 2 ≤ (rowS sy k).length := by omega
      rw [Nat.min_eq_right hk2] at ih
      have hst := nextR_state sy (lastOf sy (k + 1)) (2 * sy.length - 2) (by rw [← rowS_eq]; omega)
      rw [← rowS_eq] at hst
      have hsucc := symN_succ (rowS sy (k + 1)) (2 * sy.length - 2) (by omega)
      rw [show 2 * sy.length - 2 + 1 = (rowS sy (k + 1)).length by omega, hall] at hsucc
      have hone := nextR_isSym sy (lastOf sy (k + 1))
      rw [← rowS_eq] at hone
      have h1 := hone _ (List.getElem_mem (show 2 * sy.length - 2 < (rowS sy (k + 1)).length by omega))
      by_cases hS : symN (rowS sy (k + 1)) (2 * sy.length - 2) = sy.length
      · exact hS
      · exfalso
        have hS1 : symN (rowS sy (k + 1)) (2 * sy.length - 2) = sy.length - 1 := by omega
        -- the heaviest symbol lies in a package that came
        obtain ⟨q, hq, hqw⟩ := sym_at sy (lastOf sy k) (2 * sy.length - 2) (by rw [← rowS_eq]; exact hk2) (sy.length - 1) (by rw [← rowS_eq, ih]; omega)
        rw [← rowS_eq] at hqw
        have hpk : sy.getD (sy.length - 1) 0 ≤ pkg (lastOf sy (k + 1)) (q / 2) := by
          rw [← hqw]
          unfold pkg
          show (wts (rowS sy k)).getD q 0 ≤ (wts (rowS sy k)).getD _ 0 + (wts (rowS sy k)).getD _ 0
          rcases Nat.mod_two_eq_zero_or_one q with h | h
          · rw [show 2 * (q / 2) = q by omega]; omega
          · rw [show 2 * (q / 2) + 1 = q by omega]; omega
        have := sym_first sy (lastOf sy (k + 1)) hs (2 * sy.length - 2) (by rw [← rowS_eq]; omega) (q / 2) (by rw [← rowS_eq, hS1]; omega) (sy.length - 1) (by omega) hpk
        rw [← rowS_eq, hS1] at this
        omega
theorem cnt_le (sy : List Nat) (lim i : Nat) : cnt sy lim i ≤ tkn sy lim i := by
  unfold cnt
  rw [rowS_eq]
  exact symN_le _ (nextR_isSym _ _) _
theorem tkn_fits (sy : List Nat) (lim : Nat) (h2 : 2 ≤ sy.length) (hl : sy.length ≤ 2 ^ lim) (h0 : 1 ≤ lim) : ∀ i, i < lim → tkn sy lim i ≤ (rowS sy (lim - 1 - i)).length := by
  intro i
  induction i with
  | zero =>
    intro _
    exact rowS_enough sy (lim - 1 - 0) (by omega) (by rw [show lim - 1 - 0 + 1 = lim by omega]; exact hl)
  | succ i ih =>
    intro hi
    have h1 := ih (by omega)
    have h3 := nextR_state sy (lastOf sy (lim - 1 - i)) (tkn sy lim i) (by rw [← rowS_eq]; exact h1)
    rw [← rowS_eq] at h3
    have h4 : lim - 1 - i = (lim - 1 - (i + 1)) + 1 := by omega
    have h5 := h3.2.2.2
    rw [h4, lastOf_len, ← h4] at h5
    exact h5
theorem cnt_first (sy : List Nat) (lim : Nat) (hs : Rises sy) (h2 : 2 ≤ sy.length) (hl : sy.length ≤ 2 ^ lim) (h0 : 1 ≤ lim) : cnt sy lim 0 = sy.length := by
  have h := all_first sy hs h2 (lim - 1 - 0)
  rw [Nat.min_eq_right (rowS_enough sy (lim - 1 - 0) (by omega) (by rw [show lim - 1 - 0 + 1 = lim by omega]; exact hl))] at h
  exact h
theorem cnt_falls (sy : List Nat) (lim : Nat) (hs : Rises sy) (h2 : 2 ≤ sy.length) (hl : sy.length ≤ 2 ^ lim) (h0 : 1 ≤ lim) (i : Nat) (hi : i + 1 < lim) : cnt sy lim (i + 1) ≤ cnt sy lim i := by
  have h1 := tkn_fits sy lim h2 hl h0 i (by omega)
  have h1' := tkn_fits sy lim h2 hl h0 (i + 1) hi
  have h4 : lim - 1 - i = (lim - 1 - (i + 1)) + 1 := by omega
  rcases Nat.eq_zero_or_pos (cnt sy lim (i + 1)) with hz | hz
  · omega
  · have hc : cnt sy lim (i + 1) ≤ sy.length := by
      unfold cnt
      rw [rowS_eq]
      exact (nextR_state sy _ _ (by rw [← rowS_eq]; exact h1')).2.2.1
    obtain ⟨q, hq, hqw⟩ := sym_at sy (lastOf sy (lim - 1 - (i + 1))) (tkn sy lim (i + 1)) (by rw [← rowS_eq]; exact h1') (cnt sy lim (i + 1) - 1) (by rw [← rowS_eq]; unfold cnt at hz ⊢; omega)
    rw [← rowS_eq] at hqw
    have hpk : sy.getD (cnt sy lim (i + 1) - 1) 0 ≤ pkg (lastOf sy (lim - 1 - i)) (q / 2) := by
      rw [← hqw, h4]
      unfold pkg
      show (wts (rowS sy (lim - 1 - (i + 1)))).getD q 0 ≤ (wts (rowS sy (lim - 1 - (i + 1)))).getD _ 0 + (wts (rowS sy (lim - 1 - (i + 1)))).getD _ 0
      rcases Nat.mod_two_eq_zero_or_one q with h | h
      · rw [show 2 * (q / 2) = q by omega]; omega
      · rw [show 2 * (q / 2) + 1 = q by omega]; omega
    have hq2 : q / 2 < tkn sy lim i - symN (rowS sy (lim - 1 - i)) (tkn sy lim i) := by
      have : tkn sy lim (i + 1) = 2 * (tkn sy lim i - symN (rowS sy (lim - 1 - i)) (tkn sy lim i)) := rfl
      omega
    rw [rowS_eq] at hq2 h1
    have := sym_first sy (lastOf sy (lim - 1 - i)) hs (tkn sy lim i) h1 (q / 2) hq2 (cnt sy lim (i + 1) - 1) (by omega) hpk
    rw [← rowS_eq] at this
    unfold cnt at *
    omega
theorem tkn_end (sy : List Nat) (lim : Nat) (h2 : 2 ≤ sy.length) (hl : sy.length ≤ 2 ^ lim) (h0 : 1 ≤ lim) : tkn sy lim lim = 0 := by
  obtain ⟨k, rfl⟩ : ∃ k, lim = k + 1 := ⟨lim - 1, by omega⟩
  have h1 := tkn_fits sy (k + 1) h2 hl h0 k (by omega)
  rw [show k + 1 - 1 - k = 0 by omega] at h1
  have h3 := nextR_state sy (lastOf sy 0) (tkn sy (k + 1) k) (by rw [← rowS_eq]; exact h1)
  rw [← rowS_eq] at h3
  have h4 := h3.2.2.2
  simp [lastOf] at h4
  show 2 * (tkn sy (k + 1) k - symN (rowS sy (k + 1 - 1 - k)) (tkn sy (k + 1) k)) = 0
  rw [show k + 1 - 1 - k = 0 by omega]
  omega
def sumN (f : Nat → Nat) : Nat → Nat
  | 0 => 0
  | n + 1 => sumN f n + f n
theorem sumN_congr {f g : Nat → Nat} {n : Nat} (h : ∀ i, i < n → f i = g i) : sumN f n = sumN g n := by
  induction n with
  | zero => rfl
  | succ n ih => simp only [sumN]; rw [ih (fun i hi => h i (by omega)), h n (by omega)]
theorem sumN_add (f g : Nat → Nat) (n : Nat) : sumN (fun i => f i + g i) n = sumN f n + sumN g n := by
  induction n with
  | zero => rfl
  | succ n ih => simp only [sumN, ih]; omega
theorem sumN_const (c n : Nat) : sumN (fun _ => c) n = n * c := by
  induction n with
  | zero => simp [sumN]
  | succ n ih => simp only [sumN, ih, Nat.add_mul, Nat.one_mul]
theorem sumN_zero (n : Nat) : sumN (fun _ => 0) n = 0 := by rw [sumN_const, Nat.mul_zero]
theorem sumN_swap (g : Nat → Nat → Nat) (n m : Nat) : sumN (fun j => sumN (fun i => g i j) n) m = sumN (fun i => sumN (fun j => g i j) m) n := by
  induction n with
  | zero => simp only [sumN, sumN_zero]
  | succ n ih =>
    simp only [sumN]
    rw [sumN_add, ih]
theorem sumN_if (c n m : Nat) (h : c ≤ m) : sumN (fun j => if j < c then n else 0) m = c * n := by
  induction m with
  | zero => obtain rfl : c = 0 := by omega
            simp [sumN]
  | succ m ih =>
    simp only [sumN]
    rcases Nat.lt_or_ge m c with h1 | h1
    · obtain rfl : c = m + 1 := by omega
      rw [if_pos h1, sumN_congr (g := fun _ => n) (fun i hi => if_pos (by omega)), sumN_const, Nat.add_mul, Nat.one_mul]
    · rw [if_neg (by omega), ih h1, Nat.add_zero]
theorem sum_map_range (f : Nat → Nat) (n : Nat) : ((List.range n).map f).sum = sumN f n := by
  induction n with
  | zero => rfl
  | succ n ih => rw [List.range_succ, List.map_append, List.sum_append, ih]; simp [sumN]
theorem cnt_le_len (sy : List Nat) (lim : Nat) (h2 : 2 ≤ sy.length) (hl : sy.length ≤ 2 ^ lim) (h0 : 1 ≤ lim) (i : Nat) (hi : i < lim) : cnt sy lim i ≤ sy.length := by
  have h1 := tkn_fits sy lim h2 hl h0 i hi
  unfold cnt
  rw [rowS_eq] at h1 ⊢
  exact (nextR_state sy _ _ h1).2.2.1
theorem tkn_sum (sy : List Nat) (lim L : Nat) (hL : lim ≤ L) : ∀ i, i ≤ lim → tkn sy lim 0 * 2 ^ L = sumN (fun j => cnt sy lim j * 2 ^ (L - j)) i + tkn sy lim i * 2 ^ (L - i) := by
  intro i
  induction i with
  | zero => intro _; simp [sumN]
  | succ i ih =>
    intro hi
    rw [ih (by omega)]
    simp only [sumN]
    have h1 := cnt_le sy lim i
    have h2 : tkn sy lim (i + 1) = 2 * (tkn sy lim i - cnt sy lim i) := rfl
    have h3 : 2 ^ (L - i) = 2 * 2 ^ (L - (i + 1)) := by rw [show L - i = L - (i + 1) + 1 by omega, Nat.pow_succ, Nat.mul_comm]
    rw [h2]
    have h4 : 2 * (tkn sy lim i - cnt sy lim i) * 2 ^ (L - (i + 1)) = (tkn sy lim i - cnt sy lim i) * 2 ^ (L - i) := by
      rw [h3, Nat.mul_comm 2, Nat.mul_assoc]
    rw [h4, Nat.sub_mul]
    have h5 : cnt sy lim i * 2 ^ (L - i) ≤ tkn sy lim i * 2 ^ (L - i) := Nat.mul_le_mul_right _ h1
    omega
theorem cnt_anti (sy : List Nat) (lim : Nat) (hs : Rises sy) (h2 : 2 ≤ sy.length) (hl : sy.length ≤ 2 ^ lim) (h0 : 1 ≤ lim) {i j : Nat} (hij : i ≤ j) (hj : j < lim) : cnt sy lim j ≤ cnt sy lim i := by
  induction j with
  | zero => obtain rfl : i = 0 := by omega
            exact Nat.le_refl _
  | succ j ih =>
    rcases Nat.lt_or_ge j i with h | h
    · obtain rfl : i = j + 1 := by omega
      exact Nat.le_refl _
    · exact Nat.le_trans (cnt_falls sy lim hs h2 hl h0 j hj) (ih h (by omega))
theorem filter_range_down (p : Nat → Bool) (n : Nat) (h : ∀ i j, i ≤ j → j < n → p j = true → p i = true) : ∀ i, i < n → (p i = true ↔ i < ((List.range n).filter p).length) := by
  induction n with
  | zero => intro i hi; omega
  | succ n ih =>
    intro i hi
    have ih' := ih (fun i j hij hj => h i j hij (by omega))
    rw [List.range_succ, List.filter_append, List.length_append]
    by_cases hp : p n = true
    · have hall : ((List.range n).filter p) = List.range n := by
        rw [List.filter_eq_self]
        intro x hx
        exact h x n (by have := List.mem_range.1 hx; omega) (by omega) hp
      rw [hall, List.length_range]
      simp only [List.filter_cons, hp, if_true, List.filter_nil, List.length_singleton]
      exact ⟨fun _ => hi, fun _ => h i n (by omega) (by omega) hp⟩
    · simp only [List.filter_cons, hp, List.filter_nil]
      by_cases hin : i < n
      · simpa using ih' i hin
      · obtain rfl : i = n := by omega
        have hle : ((List.range i).filter p).length ≤ i := by have := List.length_filter_le p (List.range i); simpa using this
        simp [hp]; omega
theorem lenJ_iff (sy : List Nat) (lim : Nat) (hs : Rises sy) (h2 : 2 ≤ sy.length) (hl : sy.length ≤ 2 ^ lim) (h0 : 1 ≤ lim) (j i : Nat) (hi : i < lim) : j < cnt sy lim i ↔ i < lenJ sy lim j := by
  have := filter_range_down (fun i => decide (j < cnt sy lim i)) lim (fun a b hab hb h => by
    simp only [decide_eq_true_eq] at h ⊢
    exact Nat.lt_of_lt_of_le h (cnt_anti sy lim hs h2 hl h0 hab hb)) i hi
  simpa [lenJ] using this
theorem lenJ_le (sy : List Nat) (lim j : Nat) : lenJ sy lim j ≤ lim := by
  unfold lenJ
  have := List.length_filter_le (fun i => decide (j < cnt sy lim i)) (List.range lim)
  simpa using this
theorem lenJ_pos (sy : List Nat) (lim : Nat) (hs : Rises sy) (h2 : 2 ≤ sy.length) (hl : sy.length ≤ 2 ^ lim) (h0 : 1 ≤ lim) (j : Nat) (hj : j < sy.length) : 1 ≤ lenJ sy lim j := by
  have := (lenJ_iff sy lim hs h2 hl h0 j 0 (by omega)).1 (by rw [cnt_first sy lim hs h2 hl h0]; exact hj)
  omega
theorem pow_sum (l : Nat) (hl : l ≤ 20) : 2 ^ (20 - l) + sumN (fun i => 2 ^ (19 - i)) l = 2 ^ 20 := by
  induction l with
  | zero => rfl
  | succ l ih =>
    simp only [sumN]
    have h1 := ih (by omega)
    have h2 : 2 ^ (20 - l) = 2 * 2 ^ (19 - l) := by rw [show 20 - l = 19 - l + 1 by omega, Nat.pow_succ, Nat.mul_comm]
    rw [show 20 - (l + 1) = 19 - l by omega]
    omega
theorem sumN_below (f : Nat → Nat) (l n : Nat) (h : l ≤ n) : sumN (fun i => if i < l then f i else 0) n = sumN f l := by
  induction n with
  | zero => obtain rfl : l = 0 := by omega
            rfl
  | succ n ih =>
    simp only [sumN]
    rcases Nat.lt_or_ge n l with h1 | h1
    · obtain rfl : l = n + 1 := by omega
      rw [if_pos h1]
      simp only [sumN]
      rw [sumN_congr (g := f) (fun i hi => if_pos (by omega))]
    · rw [if_neg (by omega), ih h1, Nat.add_zero]
theorem lenJ_full (sy : List Nat) (lim : Nat) (hs : Rises sy) (h2 : 2 ≤ sy.length) (hl : sy.length ≤ 2 ^ lim) (h0 : 1 ≤ lim) (h17 : lim ≤ 17) : sumN (fun j => 2 ^ (20 - lenJ sy lim j)) sy.length = 2 ^ 20 := by
  have h1 : sumN (fun j => 2 ^ (20 - lenJ sy lim j) + sumN (fun i => 2 ^ (19 - i)) (lenJ sy lim j)) sy.length = sy.length * 2 ^ 20 := by
    rw [← sumN_const]
    exact sumN_congr (fun j _ => pow_sum _ (by have := lenJ_le sy lim j; omega))
  rw [sumN_add] at h1
  have h3 : sumN (fun j => sumN (fun i => 2 ^ (19 - i)) (lenJ sy lim j)) sy.length = sumN (fun i => cnt sy lim i * 2 ^ (19 - i)) lim := by
    have e1 : sumN (fun j => sumN (fun i => 2 ^ (19 - i)) (lenJ sy lim j)) sy.length = sumN (fun j => sumN (fun i => if j < cnt sy lim i then 2 ^ (19 - i) else 0) lim) sy.length := by
      refine sumN_congr (fun j _ => ?_)
      rw [← sumN_below (fun i => 2 ^ (19 - i)) (lenJ sy lim j) lim (lenJ_le _ _ _)]
      refine sumN_congr (fun i hi => ?_)
      by_cases h : j < cnt sy lim i
      · rw [if_pos h, if_pos ((lenJ_iff sy lim hs h2 hl h0 j i hi).1 h)]
      · rw [if_neg h, if_neg (fun hc => h ((lenJ_iff sy lim hs h2 hl h0 j i hi).2 hc))]
    rw [e1, sumN_swap]
    exact sumN_congr (fun i hi => sumN_if _ _ _ (cnt_le_len sy lim h2 hl h0 i hi))
  have h4 := tkn_sum sy lim 19 (by omega) lim (Nat.le_refl _)
  rw [tkn_end sy lim h2 hl h0, Nat.zero_mul, Nat.add_zero] at h4
  have h5 : tkn sy lim 0 = 2 * sy.length - 2 := rfl
  rw [h3, ← h4, h5] at h1
  have h6 : (2 * sy.length - 2) * 2 ^ 19 = sy.length * 2 ^ 20 - 2 ^ 20 := by
    rw [Nat.sub_mul]; omega
  have h7 : 2 ^ 20 ≤ sy.length * 2 ^ 20 := by omega
  omega
def symW (f : List Nat) : List Nat := (rar f).map fun s => f.getD s 0
def limS (f : List Nat) (lim s : Nat) : Nat := if f.getD s 0 = 0 then 0 else (if (rar f).length = 1 then 1 else 0) + lenJ (symW f) lim ((rar f).idxOf s)
def limL (f : List Nat) (lim : Nat) : List Nat := (List.range f.length).map (limS f lim)
theorem limL_len (f : List Nat) (lim : Nat) : (limL f lim).length = f.length := by simp [limL]
theorem limL_get (f : List Nat) (lim s : Nat) (hs : s < f.length) : (limL f lim).getD s 0 = limS f lim s := by
  unfold limL
  rw [List.getD_eq_getElem?_getD, List.getElem?_map, List.getElem?_range hs]
  rfl
theorem insF_perm (f : List Nat) (x : Nat) (l : List Nat) : (insF f x l).Perm (x :: l) := by
  induction l with
  | nil => exact .refl _
  | cons y l ih =>
    unfold insF
    split
    · exact .refl _
    · exact (List.Perm.cons y ih).trans (List.Perm.swap x y l)
theorem rar_perm (f : List Nat) : (rar f).Perm (used f) := by
  unfold rar
  generalize used f = l
  induction l with
  | nil => exact .refl _
  | cons x l ih => exact (insF_perm f x _).trans (List.Perm.cons x ih)
theorem used_nodup (f : List Nat) : (used f).Nodup := List.Pairwise.filter _ List.nodup_range
theorem rar_nodup (f : List Nat) : (rar f).Nodup := (rar_perm f).nodup_iff.2 (used_nodup f)
theorem mem_rar (f : List Nat) (s : Nat) : s ∈ rar f ↔ s < f.length ∧ 0 < f.getD s 0 := by
  rw [(rar_perm f).mem_iff]
  simp [used]
def Lex (f : List Nat) (l : List Nat) : Prop := l.Pairwise fun a b => ltF f a b = true
theorem ltF_or (f : List Nat) (a b : Nat) (h : a ≠ b) : ltF f a b = true ∨ ltF f b a = true := by
  unfold ltF
  simp only [Bool.or_eq_true, Bool.and_eq_true, decide_eq_true_eq]
  omega
theorem ltF_trans (f : List Nat) (a b c : Nat) (h : ltF f a b = true) (h' : ltF f b c = true) : ltF f a c = true := by
  unfold ltF at *
  simp only [Bool.or_eq_true, Bool.and_eq_true, decide_eq_true_eq] at *
  omega
theorem insF_lex (f : List Nat) (x : Nat) (l : List Nat) (h : Lex f l) (hx : x ∉ l) : Lex f (insF f x l) := by
  induction l with
  | nil => simp [insF, Lex]
  | cons y l ih =>
    unfold Lex at *
    rw [List.pairwise_cons] at h
    unfold insF
    split
    · next hlt =>
      refine List.pairwise_cons.2 ⟨fun z hz => ?_, List.pairwise_cons.2 h⟩
      rcases List.mem_cons.1 hz with rfl | hz
      · exact hlt
      · exact ltF_trans f _ _ _ hlt (h.1 z hz)
    · next hlt =>
      refine List.pairwise_cons.2 ⟨fun z hz => ?_, ih h.2 (fun hc => hx (by simp [hc]))⟩
      rcases List.mem_cons.1 ((insF_perm f x l).mem_iff.1 hz) with rfl | hz
      · rcases ltF_or f y z (fun e => hx (by simp [e])) with h1 | h1
        · exact h1
        · exact absurd h1 hlt
      · exact h.1 z hz
theorem rar_lex (f : List Nat) : Lex f (rar f) := by
  unfold rar
  have hn := used_nodup f
  revert hn
  generalize used f = l
  intro hn
  induction l with
  | nil => simp [Lex]
  | cons x l ih =>
    rw [List.nodup_cons] at hn
    refine insF_lex f x _ (ih hn.2) (fun hc => hn.1 ?_)
    have : (l.foldr (insF f) []).Perm l := by
      clear ih hn hc
      induction l with
      | nil => exact .refl _
      | cons x l ih => exact (insF_perm f x _).trans (List.Perm.cons x ih)
    exact this.mem_iff.1 hc
theorem lex_unique (f : List Nat) : ∀ (l m : List Nat), l.Perm m → Lex f l → Lex f m → l = m := by
  intro l
  induction l with
  | nil => intro m hp _ _; exact hp.symm.eq_nil.symm
  | cons x l ih =>
    intro m hp h1 h2
    cases m with
    | nil => exact absurd hp.length_eq (by simp)
    | cons y m =>
      unfold Lex at h1 h2
      rw [List.pairwise_cons] at h1 h2
      have hxy : x = y := by
        rcases List.mem_cons.1 (hp.mem_iff.1 (List.mem_cons_self (a := x) (l := l))) with h | h
        · exact h
        · rcases List.mem_cons.1 (hp.mem_iff.2 (List.mem_cons_self (a := y) (l := m))) with h' | h'
          · exact h'.symm
          · exfalso
            have a := h2.1 x h
            have b := h1.1 y h'
            have c := ltF_trans f _ _ _ a b
            unfold ltF at c
            simp at c
      subst hxy
      rw [ih m (List.Perm.cons_inv hp) h1.2 h2.2]
theorem symW_rises (f : List Nat) : Rises (symW f) := by
  intro i j hij hj
  unfold symW at hj ⊢
  rw [List.length_map] at hj
  rw [List.getD_eq_getElem?_getD, List.getD_eq_getElem?_getD, List.getElem?_map, List.getElem?_map, List.getElem?_eq_getElem (by omega), List.getElem?_eq_getElem hj]
  simp only [Option.map_some, Option.getD_some]
  rcases Nat.lt_or_ge i j with h | h
  · have := List.pairwise_iff_getElem.1 (rar_lex f) i j (by omega) hj h
    unfold ltF at this
    simp only [Bool.or_eq_true, Bool.and_eq_true, decide_eq_true_eq] at this
    omega
  · obtain rfl : i = j := by omega
    exact Nat.le_refl _
theorem symW_len (f : List Nat) : (symW f).length = (rar f).length := by simp [symW]
theorem limS_bound (f : List Nat) (lim s : Nat) (h0 : 1 ≤ lim) (hm : (rar f).length ≤ 2 ^ lim) (hs : s < f.length) : limS f lim s ≤ lim ∧ (limS f lim s = 0 ↔ f.getD s 0 = 0) := by
  unfold limS
  by_cases hf : f.getD s 0 = 0
  · rw [if_pos hf]; exact ⟨Nat.zero_le _, ⟨fun _ => hf, fun _ => rfl⟩⟩
  · rw [if_neg hf]
    have hmem := (mem_rar f s).2 ⟨hs, by omega⟩
    have hidx := List.idxOf_lt_length_of_mem hmem
    by_cases h1 : (rar f).length = 1
    · rw [if_pos h1]
      have hz : lenJ (symW f) lim ((rar f).idxOf s) = 0 := by
        unfold lenJ
        rw [List.length_eq_zero_iff, List.filter_eq_nil_iff]
        intro i hi
        have hc : cnt (symW f) lim i = 0 := by
          have ht : ∀ i, tkn (symW f) lim i = 0 := by
            intro i
            induction i with
            | zero => show 2 * (symW f).length - 2 = 0; rw [symW_len, h1]
            | succ i ih => show 2 * (tkn (symW f) lim i - _) = 0; rw [ih]; simp
          have := cnt_le (symW f) lim i
          rw [ht] at this
          omega
        rw [hc]; simp
      rw [hz]
      exact ⟨by omega, ⟨fun h => by omega, fun h => absurd h hf⟩⟩
    · rw [if_neg h1, Nat.zero_add]
      have h2 : 2 ≤ (symW f).length := by rw [symW_len]; omega
      have h3 := lenJ_pos (symW f) lim (symW_rises f) h2 (by rw [symW_len]; exact hm) h0 _ (by rw [symW_len]; exact hidx)
      exact ⟨lenJ_le _ _ _, by omega⟩
theorem sum_map_perm {l m : List Nat} (h : l.Perm m) (g : Nat → Nat) : (l.map g).sum = (m.map g).sum := by
  induction h with
  | nil => rfl
  | cons x _ ih => simp [ih]
  | swap x y l => simp; omega
  | trans _ _ ih1 ih2 => exact ih1.trans ih2
theorem limL_full (f : List Nat) (lim : Nat) (h0 : 1 ≤ lim) (h17 : lim ≤ 17) (h2 : 2 ≤ (rar f).length) (hm : (rar f).length ≤ 2 ^ lim) : M04.weight (limL f lim) = 2 ^ 20 := by
  have hf := lenJ_full (symW f) lim (symW_rises f) (by rw [symW_len]; exact h2) (by rw [symW_len]; exact hm) h0 h17
  have e1 : M04.weight (limL f lim) = ((used f).map fun s => M04.wt (limS f lim s)).sum := by
    unfold M04.weight limL used
    rw [List.map_map]
    generalize List.range f.length = l
    induction l with
    | nil => rfl
    | cons s l ih =>
      rw [List.map_cons, List.sum_cons, ih, List.filter_cons]
      by_cases hz : f.getD s 0 = 0
      · have h3 : limS f lim s = 0 := by unfold limS; rw [if_pos hz]
        have hd : decide (0 < f.getD s 0) = false := by rw [decide_eq_false_iff_not]; omega
        rw [hd, if_neg (by decide)]
        show M04.wt (limS f lim s) + _ = _
        rw [h3]
        simp [M04.wt]
      · have hd : decide (0 < f.getD s 0) = true := by rw [decide_eq_true_eq]; omega
        rw [hd, if_pos rfl, List.map_cons, List.sum_cons]
        rfl
  rw [e1, ← sum_map_perm (rar_perm f)]
  have e2 : ((rar f).map fun s => M04.wt (limS f lim s)) = (List.range (rar f).length).map fun j => 2 ^ (20 - lenJ (symW f) lim j) := by
    apply List.ext_getElem
    · simp
    · intro j h1 h3
      simp only [List.length_map] at h1
      simp only [List.getElem_map, List.getElem_range]
      have hmem := (mem_rar f (rar f)[j]).1 (List.getElem_mem h1)
      have hidx : (rar f).idxOf (rar f)[j] = j := (rar_nodup f).idxOf_getElem j h1
      have hl : limS f lim (rar f)[j] = lenJ (symW f) lim j := by
        unfold limS
        rw [if_neg (by omega), if_neg (by omega), hidx, Nat.zero_add]
      have hp := lenJ_pos (symW f) lim (symW_rises f) (by rw [symW_len]; exact h2) (by rw [symW_len]; exact hm) h0 j (by rw [symW_len]; exact h1)
      rw [hl]
      unfold M04.wt
      rw [if_neg (by omega)]
  rw [e2, sum_map_range, ← symW_len f]
  exact hf
end Go.Proofs.YtendielanacflaaGreat.M05
