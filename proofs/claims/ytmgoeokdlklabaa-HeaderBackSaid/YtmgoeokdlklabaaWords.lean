/- kraft.order hands out the symbols in order; kraft.Words answers the words. -/
import Derived.Test.YtmgoeokdlklabaaChecked
import Derived.Test.YtmgoeokdlklabaaRange
import Derived.Test.YtmgoeokdlklabaaKraft
import Derived.Test.YtmgoeokdlklabaaRef04
namespace Go.Proofs.Ytmgoeokdlklabaa
open Go.RowKit Go.Shelf M04
attribute [local go_sem] Oper.semAt_some
set_option linter.unusedVariables false

theorem RowN.same {k : IntKind} {w W : World} {a : Option Addr} {cap : Nat} {l : List Nat} (h : RowN k w a cap l) (hs : w.heap.size ≤ W.heap.size) (hb : ∀ x, 0 < l.length → a = some x → W.heap[x.block]? = w.heap[x.block]?) : RowN k W a cap l := by
  obtain ⟨h1, h2, h3⟩ := h
  refine ⟨h1, h2, ?_⟩
  rcases h3 with h3 | ⟨b, off, rfl, hb', hc⟩
  · exact .inl h3
  · exact .inr ⟨b, off, rfl, by omega, fun i hi => (World.cell?_of_block (a := ⟨b, off + i, none⟩) (hb ⟨b, off, none⟩ (by omega) rfl)).trans (hc i hi)⟩

def orderS (a : Option Addr) (B : Nat) (l : List Nat) (b : Nat) : Prop := b = B ∨ (0 < l.length ∧ ∃ x, a = some x ∧ b = x.block)
def orderRow (l : List Nat) (i : Nat) : Array Value := #[.int .i64 (((ord l).getD i (0, 0)).1 : Nat), .int .u8 (((ord l).getD i (0, 0)).2 : Nat)]

theorem kraft_order (a : Option Addr) (cap : Nat) (l : List Nat) (w : World) :
    Calls Try.prog 110 #[.slice a l.length cap] w fun e w' => e = .returned (.func (.func 125) #[] #[.pointer (some ⟨w.heap.size, 0, none⟩)]) ∧ w' = w.alloc (.cells #[.slice a l.length cap] 22) := by
  have hmf : ∀ (fn : Fn) (first cap : Array Value) (w : World), (Instr.makeFunc fn first cap).run Try.prog w = .ok (.func fn first cap) w := fun _ _ _ _ => rfl
  go_enter Try.func110, Try.ntmps110
  go_wp2
  go_ret
  exact ⟨rfl, rfl⟩

theorem round_wide {n m : Nat} {P : Program} {l : Nat} {f : FuncId} {tmps : Array Value} {assign body : Code} {w : World} {R : Ending → World → Prop} (h : RoundIn Fence.wide n P l f tmps assign body w R) : RoundIn Fence.wide m P l f tmps assign body w R := ⟨h.1, fun c cs _ => h.2 c cs (room_wide _)⟩
theorem orderRow_at (l : List Nat) (i k n : Nat) (h : (ord l)[i]? = some (k, n)) : i < (ord l).length ∧ orderRow l i = #[.int .i64 (k : Nat), .int .u8 (n : Nat)] := by
  refine ⟨(List.getElem?_eq_some_iff.1 h).1, ?_⟩
  simp [orderRow, List.getD, h]

set_option maxHeartbeats 800000 in
theorem order_yields (a : Option Addr) (cap : Nat) (l : List Nat) (w : World) (B : Nat) (hr : RowN .u8 w a cap l) (hB : w.heap[B]? = some (.cells #[.slice a l.length cap] 22 (0, 0))) :
    Yields Try.prog 125 #[.pointer (some ⟨B, 0, none⟩)] (ord l).length (orderRow l) (orderS a B l) (fun _ => False) w := by
  intro y J Jx W hsame hJ hJx hY h0
  have hlen := hr.len
  have HY := Lib.hid hY
  clear hJ hJx hY
  refine callsIn_of_wp Try.func125 rfl trivial ?_ rfl
  simp only [Try.ntmps125, List.size_toArray, List.length_cons, List.length_nil, Nat.reduceAdd, Nat.reduceSub, Array.replicate_succ, Array.replicate_zero, List.push_toArray, List.append_toArray, List.nil_append, List.cons_append]
  gi_wp2
  gi_loopw [3] (fun n A => ∃ k : Nat, 1 ≤ k ∧ k ≤ 21 ∧ n = .int .u8 k ∧ SameOn (orderS a B l) w A ∧ J (if k = 21 then (ord l).length else (ordB l k 0).length) A) (fun n _ => 21 - (intOf n).toNat)
  case atStart => exact ⟨1, by omega, by omega, rfl, hsame, by simpa [ordB_one] using h0⟩
  case round =>
    obtain ⟨n, h1, h21, rfl, hsameA, hJA⟩ := hrel
    by_cases hn : n ≤ 20
    · rw [if_neg (by omega)] at hJA
      have hbn : decide ((n : Int) ≤ 20) = true := by simp; omega
      have hbox : wr.cell? ⟨B, 0, none⟩ = some (.slice a l.length cap) := cell_of_one ((hsameA.same B (.inl rfl)).trans hB)
      gi_wp2
      gi_loopw [12] (fun i A => ∃ k : Nat, k ≤ l.length ∧ i = .int .i64 k ∧ SameOn (orderS a B l) w A ∧ J (ordB l n k).length A) (fun i _ => l.length - (intOf i).toNat)
      case atStart => exact ⟨0, by omega, rfl, hsameA, hJA⟩
      case round =>
        clear hJA hsameA hbox
        obtain ⟨k, hk, rfl, hsameA, hJA⟩ := hrel
        by_cases hlt : k < l.length
        · have hrA := hr.same hsameA.size (fun x h0 hx => hsameA.same _ (.inr ⟨h0, x, hx, rfl⟩))
          obtain ⟨b, off, rfl, hb, hck⟩ := hrA.at hlt
          have hg : l.getD k 0 = l[k] := by simp [hlt]
          by_cases hx : l[k] = n
          · obtain ⟨hi, hrow⟩ := orderRow_at l _ k n (ord_at l n k hn (by omega) hlt (by omega))
            have hyy := HY.out _ _ hi hJA
            rw [hrow] at hyy
            obtain ⟨fn, tmps, assign, body, hy, hR⟩ := hyy
            have H := Lib.hid (ordB_hit l n k (by omega))
            have hbx : ((l[k] : Int) == (n : Int)) = true := by simp; omega
            clear hx hg hrow
            have HJ := Lib.hid hJA
            have HR := Lib.hid hR
            have HI := Lib.hid hi
            clear hJA hR hi
            generalize l[k] = x at *
            gi_wp2
            refine (round_wide HR.out).mono ?_
            rintro e W' (⟨rfl, hJ', hk'⟩ | ⟨rfl, hJx'⟩)
            · gi_wp2
              go_roundw
              case rel => exact ⟨k + 1, by omega, by go_num, hsameA.trans hk', by rw [H.out]; simpa using hJ'⟩
              case measure => simp [intOf]; omega
            · gi_wp2
              refine bodyPost_ret (results_none rfl _ _ _) rfl ?_
              exact ⟨⟨_, rfl⟩, .inr ⟨_, HI.out, hJx'⟩⟩
          · have H := Lib.hid (ordB_miss l n k (by omega))
            have hbx : ((l[k] : Int) == (n : Int)) = false := by simp; omega
            have HJ := Lib.hid hJA
            clear hx hg hJA
            generalize l[k] = x at *
            gi_wp2
            refine ⟨fun _ h => (by cases h), ?_⟩
            gi_wp2
            go_roundw
            case rel => exact ⟨k + 1, by omega, by go_num, hsameA, by rw [H.out]; exact HJ.out⟩
            case measure => simp [intOf]; omega
        · obtain rfl : k = l.length := by omega
          have HJ := Lib.hid hJA
          have H : Hid (ordB l n l.length = if n + 1 = 21 then ord l else ordB l (n + 1) 0) := by
            unfold Hid; split
            · obtain rfl : n = 20 := by omega
              rfl
            · exact (ordB_row l n (by omega)).symm
          clear hJA
          gi_wp2
          go_roundw
          case rel =>
            refine ⟨n + 1, by omega, by omega, by go_num, hsameA, ?_⟩
            have h3 := HJ.out
            rw [H.out] at h3
            split <;> simp_all
          case measure => simp [intOf]; omega
    · obtain rfl : n = 21 := by omega
      rw [if_pos rfl] at hJA
      have HJ := Lib.hid hJA
      clear hJA
      gi_wp2
      go_end0
      exact ⟨⟨_, rfl⟩, .inl HJ.out⟩

theorem four (w : World) (o1 o2 o3 o4 : Obj) : ((((w.alloc o1).alloc o2).alloc o3).alloc o4).heap.size = w.heap.size + 4 ∧ ((((w.alloc o1).alloc o2).alloc o3).alloc o4).heap[w.heap.size]? = some o1 ∧ ((((w.alloc o1).alloc o2).alloc o3).alloc o4).heap[w.heap.size + 1]? = some o2 ∧
    ((((w.alloc o1).alloc o2).alloc o3).alloc o4).heap[w.heap.size + 2]? = some o3 ∧ ((((w.alloc o1).alloc o2).alloc o3).alloc o4).heap[w.heap.size + 3]? = some o4 ∧ Below w.heap.size w ((((w.alloc o1).alloc o2).alloc o3).alloc o4) := by
  have h1 := World.alloc_heap_new w o1
  have h2 := World.alloc_heap_new (w.alloc o1) o2
  have h3 := World.alloc_heap_new ((w.alloc o1).alloc o2) o3
  have h4 := World.alloc_heap_new (((w.alloc o1).alloc o2).alloc o3) o4
  simp only [World.size_alloc] at h2 h3 h4
  refine ⟨by simp, ?_, ?_, ?_, h4, (((((Below.refl _ w).alloc (Nat.le_refl _) _).alloc (by simp) _).alloc (by simp; omega) _).alloc (by simp; omega) _)⟩
  · rw [Below.heap_alloc _ _ _ (by simp only [World.size_alloc]; omega), Below.heap_alloc _ _ _ (by simp only [World.size_alloc]; omega), Below.heap_alloc _ _ _ (by simp)]; exact h1
  · rw [Below.heap_alloc _ _ _ (by simp only [World.size_alloc]; omega), Below.heap_alloc _ _ _ (by simp)]; exact h2
  · rw [Below.heap_alloc _ _ _ (by simp)]; exact h3

theorem words_after (l : List Nat) (w : World) (B1 : Nat) (a : Option Addr) (N k n m : Nat) (o : List Nat) (A : World) {v1 v2 v3 : Value}
    (h1 : A.heap[B1 + 1]? = some (.cells #[v1] 27)) (h3 : A.heap[B1 + 2]? = some (.cells #[v2] 5)) (h4 : A.heap[B1]? = some (.cells #[v3] 129))
    (h5 : OwnN 27 .u32 A w.heap.size (some ⟨w.heap.size, 0, none⟩) l.length o) (h6 : Below w.heap.size w A) (hbl : ∀ x, 0 < l.length → a = some x → x.block < w.heap.size) (hlt : w.heap.size < B1) (hA : B1 + 4 ≤ A.heap.size) :
    let B := (((A.setCell ⟨B1 + 1, 0, none⟩ (.int .u32 m)).setCell ⟨w.heap.size, k, none⟩ (.int .u32 m)).setCell ⟨B1 + 1, 0, none⟩ (.int .u32 ((m + 1 : Nat) : Int))).setCell ⟨B1 + 1 + 1, 0, none⟩ (.int .u8 n)
    KeepsFrom N A B ∧ SameOn (orderS a (B1 + 3) l) A B ∧ B.heap[B1 + 1]? = some (.cells #[.int .u32 ((m + 1 : Nat) : Int)] 27) ∧ B.heap[B1 + 2]? = some (.cells #[.int .u8 n] 5) ∧ B.heap[B1]? = some (.cells #[v3] 129) ∧
      OwnN 27 .u32 B w.heap.size (some ⟨w.heap.size, 0, none⟩) l.length (o.set k m) ∧ Below w.heap.size w B := by
  intro B
  have s1 := one_setCell (u := .int .u32 m) h1
  have s2 := (Below.heap_setCell (A.setCell ⟨B1 + 1, 0, none⟩ (.int .u32 m)) ⟨w.heap.size, k, none⟩ (.int .u32 m) (B1 + 1) (by show B1 + 1 ≠ w.heap.size; omega)).trans s1
  have s3 := one_setCell (u := .int .u32 ((m + 1 : Nat) : Int)) s2
  have t1 := (Below.heap_setCell A ⟨B1 + 1, 0, none⟩ (.int .u32 m) (B1 + 2) (by show B1 + 2 ≠ B1 + 1; omega)).trans h3
  have t2 := (Below.heap_setCell (A.setCell ⟨B1 + 1, 0, none⟩ (.int .u32 m)) ⟨w.heap.size, k, none⟩ (.int .u32 m) (B1 + 2) (by show B1 + 2 ≠ w.heap.size; omega)).trans t1
  have t3 := (Below.heap_setCell ((A.setCell ⟨B1 + 1, 0, none⟩ (.int .u32 m)).setCell ⟨w.heap.size, k, none⟩ (.int .u32 m)) ⟨B1 + 1, 0, none⟩ (.int .u32 ((m + 1 : Nat) : Int)) (B1 + 2) (by show B1 + 2 ≠ B1 + 1; omega)).trans t2
  have u1 := (Below.heap_setCell A ⟨B1 + 1, 0, none⟩ (.int .u32 m) B1 (by show B1 ≠ B1 + 1; omega)).trans h4
  have u2 := (Below.heap_setCell (A.setCell ⟨B1 + 1, 0, none⟩ (.int .u32 m)) ⟨w.heap.size, k, none⟩ (.int .u32 m) B1 (by show B1 ≠ w.heap.size; omega)).trans u1
  have u3 := (Below.heap_setCell ((A.setCell ⟨B1 + 1, 0, none⟩ (.int .u32 m)).setCell ⟨w.heap.size, k, none⟩ (.int .u32 m)) ⟨B1 + 1, 0, none⟩ (.int .u32 ((m + 1 : Nat) : Int)) B1 (by show B1 ≠ B1 + 1; omega)).trans u2
  have ne : ∀ p : Addr, p.block ≠ w.heap.size → ∀ g, some (⟨w.heap.size, 0, none⟩ : Addr) = some ⟨g, 0, none⟩ → p.block ≠ g := fun p hp g hg => by
    simp only [Option.some.injEq, Addr.mk.injEq, and_true] at hg; rw [← hg]; exact hp
  refine ⟨((((KeepsOthers.setCell _ _ _).trans (KeepsOthers.setCell _ _ _)).trans (KeepsOthers.setCell _ _ _)).trans (KeepsOthers.setCell _ _ _)).from _, ?_, ?_, one_setCell t3, ?_, ?_, ?_⟩
  · refine (((((Only.refl (fun b => b = w.heap.size ∨ b = B1 + 1 ∨ b = B1 + 2) A).setCell (.inl (.inr (.inl rfl))) _).setCell (.inl (.inl rfl)) _).setCell (.inl (.inr (.inl rfl))) _).setCell (.inl (.inr (.inr rfl))) _).sameOn ?_
    rintro b (rfl | ⟨h0, x, hx, rfl⟩)
    · exact ⟨by omega, by omega⟩
    · have := hbl x h0 hx
      exact ⟨by omega, by omega⟩
  · exact (Below.heap_setCell _ _ _ _ (by show B1 + 1 ≠ B1 + 1 + 1; omega)).trans s3
  · exact (Below.heap_setCell _ _ _ _ (by show B1 ≠ B1 + 1 + 1; omega)).trans u3
  · exact OwnN.other (OwnN.other (OwnN.stored (OwnN.other h5 (ne _ (by show B1 + 1 ≠ _; omega)) _) k m).1 (ne _ (by show B1 + 1 ≠ _; omega)) _) (ne _ (by show B1 + 1 + 1 ≠ _; omega)) _
  · exact (((h6.setCell (by show w.heap.size ≤ B1 + 1; omega) _).setCell (Nat.le_refl _) _).setCell (by show w.heap.size ≤ B1 + 1; omega) _).setCell (by show w.heap.size ≤ B1 + 1 + 1; omega) _

theorem cls_over (l : List Nat) : cls l = 3 ↔ 2 ^ 20 < weight l := by
  unfold cls
  split
  · omega
  · split
    · omega
    · split <;> omega
theorem cls_le (l : List Nat) : cls l ≤ 3 := by
  unfold cls; split
  · omega
  · split
    · omega
    · split <;> omega

set_option maxHeartbeats 800000 in
theorem kraft_words (a : Option Addr) (cap : Nat) (l : List Nat) (w : World) (hr : RowN .u8 w a cap l) :
    Calls Try.prog 77 #[.slice a l.length cap] w (WordsOut w l) := by
  have hlen := hr.len
  by_cases hm : May l
  case neg =>
    have H : Hid (wordsE l = ([], 5)) := by simp [Hid, wordsE, hm]
    have HC : clsE l = (0, 5) := by simp [clsE, hm]
    clear hm
    go_enter Try.func77, Try.ntmps77
    go_wp2_with (go_at_call 56; refine (kraft_classify _ _ _ _ hr).mono ?_; rintro e w' ⟨rfl, rfl⟩; rw [HC])
    go_ret2
    unfold WordsOut
    rw [H.out]
    exact ⟨none, 0, rfl, OwnN.nil _ _ _ _, Below.refl _ _⟩
  have HC : clsE l = (cls l, 0) := by simp [clsE, hm]
  by_cases ho : 2 ^ 20 < weight l
  · have H : Hid (wordsE l = ([], 2)) := by simp only [Hid, wordsE, hm, ho, not_true, if_false, if_true]
    have H3 := (cls_over l).2 ho
    rw [H3] at HC
    clear hm ho H3
    go_enter Try.func77, Try.ntmps77
    go_wp2_with (go_at_call 56; refine (kraft_classify _ _ _ _ hr).mono ?_; rintro e w' ⟨rfl, rfl⟩; rw [HC])
    go_ret2
    unfold WordsOut
    rw [H.out]
    exact ⟨none, 0, rfl, OwnN.nil _ _ _ _, Below.refl _ _⟩
  have H : Hid (wordsE l = (words l, 0)) := by simp only [Hid, wordsE, hm, ho, not_true, if_false]
  have h3 : ((cls l : Int) == 3) = false := by have := cls_over l; simp; omega
  have h512 : l.length ≤ 512 := hm.2
  have HM := Lib.hid hm
  have HO : weight l ≤ 2 ^ 20 := by omega
  have HCC := Lib.hid HC
  clear hm ho HC
  refine (callsIn_wide (n := 9)).1 ?_
  refine callsIn_of_wp_marks Try.func77 rfl trivial ?_ rfl
  simp only [Try.ntmps77, List.size_toArray, List.length_cons, List.length_nil, Nat.reduceAdd, Nat.reduceSub, Array.replicate_succ, Array.replicate_zero, List.push_toArray, List.append_toArray, List.nil_append, List.cons_append]
  gi_wp2_with (first | (refine ⟨trivial, ?_⟩; gi_at_call 56; refine (callsIn_wide.2 (kraft_classify _ _ _ _ hr)).mono ?_; rintro e w' ⟨rfl, rfl⟩; rw [HCC.out]) | (gi_at_make; refine makeNIn et_u32 rfl _ _ rfl w.heap.size rfl rfl (by omega) (by omega) (Nat.le_refl _) ?_; intro w1 hown hg) | (refine ⟨trivial, ?_⟩; gi_at_call 110; refine (callsIn_wide.2 (kraft_order _ _ _ _)).mono ?_; rintro e w' ⟨rfl, rfl⟩))
  obtain ⟨hz, hb0, hb1, hb2, hb3, hbel⟩ := four w1 (.cells #[.slice (some ⟨w.heap.size, 0, none⟩) l.length l.length] 129) (.cells #[.int .u32 0] 27) (.cells #[.int .u8 0] 5) (.cells #[.slice a l.length cap] 22)
  have h01 : w.heap.size < w1.heap.size := by
    obtain ⟨g, he, _, hlt⟩ := (hown.form).resolve_left (by simp)
    simp only [Option.some.injEq, Addr.mk.injEq, and_true] at he
    omega
  have hB1 : Below w.heap.size w w1 := Below.of_grown hg (Nat.le_refl _) (fun k e => by cases e)
  have hB4 := hB1.trans (hbel.mono hB1.size)
  have hown4 := hown.below hbel
  clear hbel hown hg
  generalize (((w1.alloc (Obj.cells #[Value.slice (some ⟨w.heap.size, 0, none⟩) l.length l.length] 129)).alloc (Obj.cells #[Value.int .u32 0] 27)).alloc (Obj.cells #[Value.int .u8 0] 5)).alloc (Obj.cells #[Value.slice a l.length cap] 22) = W0 at *
  have hr4 : RowN .u8 W0 a cap l := hr.below hB4
  refine range_law (g := .tmp 27) (gf := 125) (lb := #[.pointer (some ⟨w1.heap.size + 3, 0, none⟩)]) rfl (enters_of Try.func125 (by kernel_rfl) rfl)
    (order_yields a cap l W0 (w1.heap.size + 3) hr4 hb3) (SameOn.refl _ _) ?hS (fun _ h => h.elim) (fun _ => rfl)
    (fun i A => (∃ nx : Nat, A.heap[w1.heap.size + 1]? = some (.cells #[.int .u32 nx] 27) ∧ nx * 2 ^ (20 - bitsI l i) = accI l i) ∧ A.heap[w1.heap.size + 2]? = some (.cells #[.int .u8 (bitsI l i : Nat)] 5) ∧
      A.heap[w1.heap.size]? = some (.cells #[.slice (some ⟨w.heap.size, 0, none⟩) l.length l.length] 129) ∧ OwnN 27 .u32 A w.heap.size (some ⟨w.heap.size, 0, none⟩) l.length (outsI l i) ∧ Below w.heap.size w A)
    (fun _ _ _ => False) ?hI ?hIp (fun _ _ _ _ h _ => h) (fun _ _ _ _ _ _ h _ _ _ => h) ?h0 ?a1 ?assign ?body ?done (fun _ _ _ _ h _ => h.elim)
  case hS =>
    rintro b (rfl | ⟨h0, x, hx, rfl⟩)
    · omega
    · obtain ⟨b', off, he, hlt, _⟩ := hr4.at h0
      rw [hx] at he
      cases he
      exact hlt
  case hI =>
    rintro i A B ⟨⟨nx, h1, h2⟩, h3, h4, h5, h6⟩ ho
    exact ⟨⟨nx, box_only h1 ho id, h2⟩, box_only h3 ho id, box_only h4 ho id, h5.only ho (fun _ _ => id), Below.only h6 ho (Nat.le_refl _) (fun _ h => h.elim)⟩
  case hIp =>
    rintro i A r o o' ⟨⟨nx, h1, h2⟩, h3, h4, h5, h6⟩ hr0 hro hoc
    exact ⟨⟨nx, box_put h1 hro hoc, h2⟩, box_put h3 hro hoc, box_put h4 hro hoc, h5.put hro hoc _, Below.put h6 (Nat.le_refl _) hro (by omega) _⟩
  case h0 => exact ⟨⟨0, hb1, by simp [accI]⟩, hb2, hb0, by simpa [outsI] using hown4, hB4⟩
  case assign =>
    intro y i W K hK
    simp only [orderRow]
    gi_wp2
    exact hK
  case body =>
    rintro y i hi A hz2 ⟨⟨nx, h1, h2⟩, h3, h4, h5, h6⟩
    obtain ⟨k, n, hrow, hk, hn0, hn20, hbn, hbn1, hwd, hnx, hac⟩ := words_step l i nx hi HO h2
    have hp : (ord l).getD i (0, 0) = (k, n) := by simp [List.getD, hrow]
    have hp' : (ord l)[i]?.getD (0, 0) = (k, n) := by simp [hrow]
    simp only [hp']
    obtain ⟨g, he, _, hg2, hcell, hfree⟩ := h5.at (i := k) (by rw [outsI_length]; exact hk)
    simp only [Option.some.injEq, Addr.mk.injEq, and_true] at he
    subst he
    have c1 := cell_of_one h1
    have f1 := free_of_one h1
    have c2 := cell_of_one h3
    have f2 := free_of_one h3
    have c3 := cell_of_one h4
    have HX := Lib.hid hwd
    have HY := Lib.hid hac
    have HZ := Lib.hid hbn1
    have HR := Lib.hid hrow
    have H1 := Lib.hid h1
    have H3 := Lib.hid h3
    have H4 := Lib.hid h4
    clear hrow hp hp' hwd hac hbn1 hb0 hb1 hb2 hb3 h1 h3 h4 h2
    generalize bitsI l i = bt at *
    have hlt1 : w.heap.size < w1.heap.size := h01
    gi_wp2
    have hm : ((nx : Int) * 2 ^ (n - bt)) % 4294967296 = ((nx * 2 ^ (n - bt) : Nat) : Int) := by
      have h2 : (2 : Int) ^ (n - bt) = ((2 ^ (n - bt) : Nat) : Int) := by simp
      rw [h2, ← Int.natCast_mul]
      generalize nx * 2 ^ (n - bt) = m at *
      omega
    have hm1 : ((nx : Int) * 2 ^ (n - bt) + 1) % 4294967296 = ((nx * 2 ^ (n - bt) + 1 : Nat) : Int) := by
      have h2 : (2 : Int) ^ (n - bt) = ((2 ^ (n - bt) : Nat) : Int) := by simp
      rw [h2, ← Int.natCast_mul]
      generalize nx * 2 ^ (n - bt) = m at *
      omega
    simp only [hm, hm1]
    have hbl : ∀ x, 0 < l.length → a = some x → x.block < w.heap.size := fun x h0 hx => by
      obtain ⟨b', off, he, hlt, _⟩ := hr.at h0
      rw [hx] at he
      cases he
      exact hlt
    obtain ⟨q1, q2, q3, q4, q5, q6, q7⟩ := words_after l w w1.heap.size a W0.heap.size k n (nx * 2 ^ (n - bt)) (outsI l i) A H1.out H3.out H4.out h5 h6 hbl hlt1 (by omega)
    refine ⟨q1, q2, ⟨nx * 2 ^ (n - bt) + 1, q3, by rw [HZ.out]; exact HY.out⟩, by rw [HZ.out]; exact q4, q5, ?_, q7⟩
    rw [outsI_succ l i k n HR.out, HX.out]
    exact q6
  case done =>
    rintro A ⟨⟨nx, h1, h2⟩, h3, h4, h5, h6⟩ hD
    have c3 := cell_of_one h4
    clear h1 h2 h3 h4
    gi_wp2
    refine ⟨by simp, .inl ⟨_, _, rfl, run_takeDeferred hD, ?_⟩⟩
    refine ⟨_, results_tmp2 rfl _ _ _, ?_⟩
    unfold WordsOut
    rw [H.out]
    rw [outsI_end l HM.out.1] at h5
    refine ⟨some ⟨w.heap.size, 0, none⟩, l.length, ?_, h5.put hD rfl _, Below.put h6 (Nat.le_refl _) hD (by omega) _⟩
    simp [words_length]
end Go.Proofs.Ytmgoeokdlklabaa
