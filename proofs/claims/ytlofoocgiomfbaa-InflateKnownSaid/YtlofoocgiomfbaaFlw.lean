/- layer 10's laws: a flow in its cell; what Inflate answers, in two contracts. -/
import Derived.Test.YtlofoocgiomfbaaReads2
namespace Go.Proofs.Ytlofoocgiomfbaa
open Go.RowKit Go.Shelf M01 M04 M09 M10
set_option linter.unusedVariables false

/-- a flow in its cell -/
def FlwAt (w : World) (b : Nat) (a : Option Addr) (c : Nat) (l : List Nat) (s u : Nat) : Prop := w.heap[b]? = some (.cells #[.slice a l.length c, .int .i64 (s : Nat), .int .i64 (u : Nat), .bool false] 39 (0, 0)) ∧ RowN .u8 w a c l ∧ b < w.heap.size
theorem FlwAt.below {w w' : World} {b c s u : Nat} {a : Option Addr} {l : List Nat} (h : FlwAt w b a c l s u) (hb : Below w.heap.size w w') : FlwAt w' b a c l s u :=
  ⟨(hb.block b h.2.2).trans h.1, h.2.1.below hb, Nat.lt_of_lt_of_le h.2.2 hb.size⟩
theorem FlwAt.drewN {w : World} {b c s u : Nat} {a : Option Addr} {l : List Nat} (h : FlwAt w b a c l s u) (q : Nat) : FlwAt (w.drewN q) b a c l s u := h
theorem FlwAt.new (w : World) {a : Option Addr} {c s u : Nat} {l : List Nat} (h : RowN .u8 w a c l) : FlwAt (w.alloc (.cells #[.slice a l.length c, .int .i64 (s : Nat), .int .i64 (u : Nat), .bool false] 39)) w.heap.size a c l s u :=
  ⟨World.alloc_heap_new _ _, h.below (box_b _ _), by simp⟩
theorem inflate_some {w : World} {a : Option Addr} {cap : Nat} {bs : List Nat} {keep at2 : Nat} {o : List Nat} (hr : RowN .u8 w a cap bs) (hb : ∀ x ∈ bs, x < 256) (hl : bs.length ≤ 100000) (hk : keep ≤ 1000000000) (hR : inflB bs = some (at2, o)) :
    Calls Try.prog 18 #[.slice a bs.length cap, .int .i64 (keep : Nat)] w fun e w' => Below w.heap.size w w' ∧ ∃ a2 c2, e = .returned (.tuple #[.agg #[.slice a2 (o.take keep).length c2, .int .i64 (o.length : Nat), .int .i64 ((at2 + 7) / 8 : Nat), .bool false], .int .i64 0]) ∧ RowN .u8 w' a2 c2 (o.take keep) := by
  have h := inflate_inflate w a cap bs keep hr hb hl hk
  rw [hR] at h
  exact h.mono fun e w' hp => ⟨hp.1, hp.2⟩
theorem inflate_none {w : World} {a : Option Addr} {cap : Nat} {bs : List Nat} {keep : Nat} (hr : RowN .u8 w a cap bs) (hb : ∀ x ∈ bs, x < 256) (hl : bs.length ≤ 100000) (hk : keep ≤ 1000000000) (hR : inflB bs = none) :
    Calls Try.prog 18 #[.slice a bs.length cap, .int .i64 (keep : Nat)] w fun e w' => Below w.heap.size w w' ∧ e = .returned (.tuple #[.agg #[.slice none 0 0, .int .i64 0, .int .i64 0, .bool false], .int .i64 2]) := by
  have h := inflate_inflate w a cap bs keep hr hb hl hk
  rw [hR] at h
  exact h.mono fun e w' hp => ⟨hp.1, hp.2⟩

theorem same_zero (w : World) : Calls Try.prog 20 #[.agg #[.slice none 0 0, .int .i64 0, .int .i64 0, .bool false], .agg #[.slice none 0 0, .int .i64 0, .int .i64 0, .bool false]] w fun e w' => e = .returned (.bool true) ∧ Below w.heap.size w w' := by
  have h0 : RowN .u8 w none 0 [] := ⟨by simp, ⟨by omega, fun _ => rfl⟩, .inl rfl⟩
  exact (same_flow w none none 0 0 [] [] 0 0 0 0 h0 h0).mono fun e w' h => ⟨h.1.trans (by rw [show sameB [] 0 0 [] 0 0 = true from by unfold sameB; rw [ba_beq]; simp]), h.2⟩
theorem sameB_refl (l : List Nat) (s u : Nat) : sameB l s u l s u = true := by unfold sameB; rw [ba_beq]; simp
theorem min2I (x y z : Int) (hz : min x y = z) (w : World) : (Builtin.min2 (.int .i64 x) (.int .i64 y) : Sem Value).run Try.prog w = .ok (.int .i64 z) w := by
  subst hz
  by_cases h : y < x
  · rw [Int.min_eq_right (by omega)]
    simp [Builtin.min2, h, go_sem]
  · rw [Int.min_eq_left (by omega)]
    simp [Builtin.min2, h, go_sem]
theorem bit_take (l m : List Nat) (u i : Nat) (h : i < 8 * u) (hu : u ≤ l.length) : bit (l.take u ++ m) i = bit l i := by
  unfold bit
  congr 2
  have h1 : i / 8 < u := by omega
  simp only [List.getD]
  rw [List.getElem?_append_left (by simp; omega), List.getElem?_take_of_lt h1]
theorem inflB_behind {l m o : List Nat} {at2 u : Nat} (h : inflB l = some (at2, o)) (hu : (at2 + 7) / 8 = u) (hul : u ≤ l.length) : inflB (l.take u ++ m) = some (at2, o) :=
  inflB_same h ⟨fun i _ hi => bit_take l m u i (by omega) hul, by simp; omega⟩
theorem OwnN.lit {k : IntKind} (E : TypeId) (w : World) (base : Nat) (l : List Nat) (vs : Array Value) (B : Nat) (hB : B = w.heap.size) (hv : vs = (l.map fun (n : Nat) => Value.int k n).toArray) (hb : base ≤ w.heap.size) (hl : l.length ≤ maxLen) :
    OwnN E k (w.alloc (.cells vs E)) base (some ⟨B, 0, none⟩) l.length l := by
  subst hB hv
  exact ⟨by simp, .inr ⟨w.heap.size, l.length, (l.map fun (n : Nat) => Value.int k n).toArray, rfl, hb, World.alloc_heap_new w _, Nat.le_refl _, hl, by simp, by simp [List.take_of_length_le]⟩⟩
theorem strOf_push (l : List Nat) : ∀ r : ByteArray, ((l.map fun (n : Nat) => (n : Int)).foldl (fun r n => r.push (UInt8.ofNat n.toNat)) r) = r ++ ByteArray.mk (l.map UInt8.ofNat).toArray := by
  induction l with
  | nil => intro r; simp [ByteArray.ext_iff]
  | cons x t ih =>
    intro r
    simp only [List.map_cons, List.foldl_cons, Int.toNat_natCast]
    rw [ih]
    simp [ByteArray.ext_iff]
theorem strOf_eq (l : List Nat) : strOf l = ByteArray.mk (l.map UInt8.ofNat).toArray := by
  unfold strOf
  rw [strOf_push]
  simp
theorem strOf_append (l m : List Nat) : strOf (l ++ m) = strOf l ++ strOf m := by
  rw [strOf_eq, strOf_eq, strOf_eq]
  simp [ByteArray.ext_iff]
theorem strOf_size (l : List Nat) : (strOf l).size = l.length := by
  rw [strOf_eq]
  simp [ByteArray.size]
theorem strOf_inj {l m : List Nat} (hl : ∀ x ∈ l, x < 256) (hm : ∀ x ∈ m, x < 256) (h : strOf l = strOf m) : l = m := by
  rw [strOf_eq, strOf_eq] at h
  have h1 : l.map UInt8.ofNat = m.map UInt8.ofNat := by simpa [ByteArray.ext_iff] using h
  have h2 := congrArg (List.map UInt8.toNat) h1
  simp only [List.map_map] at h2
  have f : ∀ l : List Nat, (∀ x ∈ l, x < 256) → l.map (UInt8.toNat ∘ UInt8.ofNat) = l := fun l hl => by
    conv => rhs; rw [← List.map_id l]
    refine List.map_congr_left fun x hx => ?_
    have := hl x hx
    simp
    omega
  rwa [f l hl, f m hm] at h2
end Go.Proofs.Ytlofoocgiomfbaa
