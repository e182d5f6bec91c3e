/- Plain words that all walks of this seat use: a slice that is read as a list of numbers. Owned slices of numbers: what a call makes itself, as a list; laws for make, append, load and store. A range over a function, over a plain list of rows: what an iterator promises, what its caller owes. The iterator may keep state of its own in cells. After the kit's laws for ranges over functions. Plain mathematics of layer 4: the weight of a code, and its words. Contracts of package kraft and of its reference: may, weight, Classify, Single. Elements of rows; what Words answers. kraft.order hands out the symbols in order; kraft.Words answers the words. Owned slices of elements of several cells (structs), as lists: what a call makes itself; laws for append, load. Plain mathematics of layer 1: bits of bytes, the least first. -/
import Derived.WalkKit
import Derived.WalkLawsBesides
import Derived.WalkSpells
import Derived.Lib.Hide
import Derived.Below
import Derived.OneCell
import Derived.OwnWalkIn
import Derived.Laws.BytesString
import Derived.RangeFuncNested
import Derived.RangeFuncBound
import Derived.RangeFuncCalls
import Derived.RangeFuncLeaves
import Derived.RangeFuncWrites
import Derived.Shelf.Abstract
import Derived.Shelf.RegionOpen
import Derived.TacticsInMore
import Derived.LoopNIn
import Derived.LoopIn
import Derived.Test.YtnkpnjnfddjfpaaChecked
import Derived.BigQuiet
import Derived.Deep.QuietTactic
set_option linter.unusedVariables false
set_option linter.unusedSimpArgs false
namespace Go.Proofs.Ytnkpnjnfddjfpaa
theorem Zh {p : Prop} (h : p) : RowKit.Hid p := h
end Go.Proofs.Ytnkpnjnfddjfpaa
namespace Go.Proofs.Ytnkpnjnfddjfpaa.M01
end Go.Proofs.Ytnkpnjnfddjfpaa.M01
namespace Go.Proofs.Ytnkpnjnfddjfpaa.M02
end Go.Proofs.Ytnkpnjnfddjfpaa.M02
namespace Go.Proofs.Ytnkpnjnfddjfpaa.M04
end Go.Proofs.Ytnkpnjnfddjfpaa.M04
namespace Go.Proofs.Ytnkpnjnfddjfpaa.M06
end Go.Proofs.Ytnkpnjnfddjfpaa.M06
namespace Go.Proofs.Ytnkpnjnfddjfpaa.M10
end Go.Proofs.Ytnkpnjnfddjfpaa.M10
namespace Go.Proofs.Ytnkpnjnfddjfpaa.M27
end Go.Proofs.Ytnkpnjnfddjfpaa.M27
namespace Go.Proofs.Ytnkpnjnfddjfpaa
open Go.RowKit
def RowN (k:IntKind) (w:World) (a:Option Addr) (cap:Nat) (l:List Nat):Prop :=
 l.length <= cap /\ (cap <= 9223372036854775807 /\ (a = none -> cap = 0)) /\ (l = [] \/ ∃ b off,a = some ⟨b,off,none⟩ /\ b < w.heap.size /\ ∀ i (h:i < l.length),w.cell? ⟨b,off + i,none⟩ = some (.int k (l[i]:Nat)))
def RowI (k:IntKind) (w:World) (a:Option Addr) (cap:Nat) (l:List Int):Prop :=
 l.length <= cap /\ (cap <= 9223372036854775807 /\ (a = none -> cap = 0)) /\ (l = [] \/ ∃ b off,a = some ⟨b,off,none⟩ /\ b < w.heap.size /\ ∀ i (h:i < l.length),w.cell? ⟨b,off + i,none⟩ = some (.int k l[i]))
theorem RowN.at {k:IntKind} {w:World} {a:Option Addr} {cap:Nat} {l:List Nat} (h:RowN k w a cap l) {i:Nat} (hi:i < l.length) :
 ∃ b off,a = some ⟨b,off,none⟩ /\ b < w.heap.size /\ w.cell? ⟨b,off + i,none⟩ = some (.int k (l[i]:Nat)):=by
 obtain ⟨_,_,rfl | ⟨b,off,rfl,hb,hc⟩⟩:=h
 ·simp at hi
 ·exact ⟨b,off,rfl,hb,hc i hi⟩
theorem RowN.len {k:IntKind} {w:World} {a:Option Addr} {cap:Nat} {l:List Nat} (h:RowN k w a cap l):l.length <= 9223372036854775807:=by have:=h.1;have:=h.2.1.1;omega
theorem RowI.at {k:IntKind} {w:World} {a:Option Addr} {cap:Nat} {l:List Int} (h:RowI k w a cap l) {i:Nat} (hi:i < l.length) :
 ∃ b off,a = some ⟨b,off,none⟩ /\ b < w.heap.size /\ w.cell? ⟨b,off + i,none⟩ = some (.int k l[i]):=by
 obtain ⟨_,_,rfl | ⟨b,off,rfl,hb,hc⟩⟩:=h
 ·simp at hi
 ·exact ⟨b,off,rfl,hb,hc i hi⟩
theorem RowI.len {k:IntKind} {w:World} {a:Option Addr} {cap:Nat} {l:List Int} (h:RowI k w a cap l):l.length <= 9223372036854775807:=by have:=h.1;have:=h.2.1.1;omega
theorem RowN.below {k:IntKind} {w w':World} {a:Option Addr} {cap:Nat} {l:List Nat} (h:RowN k w a cap l) (hb:Below w.heap.size w w'):RowN k w' a cap l:=by
 obtain ⟨h1,h2,h3⟩:=h
 refine ⟨h1,h2,?_⟩
 rcases h3 with h3 | ⟨b,off,ha,hb',hc⟩
 ·exact .inl h3
 ·exact .inr ⟨b,off,ha,Nat.lt_of_lt_of_le hb' hb.size,fun i hi=>(hb.cell (p:=⟨b,off + i,none⟩) hb').trans (hc i hi)⟩
theorem RowI.below {k:IntKind} {w w':World} {a:Option Addr} {cap:Nat} {l:List Int} (h:RowI k w a cap l) (hb:Below w.heap.size w w'):RowI k w' a cap l:=by
 obtain ⟨h1,h2,h3⟩:=h
 refine ⟨h1,h2,?_⟩
 rcases h3 with h3 | ⟨b,off,ha,hb',hc⟩
 ·exact .inl h3
 ·exact .inr ⟨b,off,ha,Nat.lt_of_lt_of_le hb' hb.size,fun i hi=>(hb.cell (p:=⟨b,off + i,none⟩) hb').trans (hc i hi)⟩
theorem RowN.nil (k:IntKind) (w:World):RowN k w none 0 []:=⟨by simp,by simp,.inl rfl⟩
theorem RowI.nil (k:IntKind) (w:World):RowI k w none 0 []:=⟨by simp,by simp,.inl rfl⟩
theorem Zkl {k:IntKind} {a b:Int} (h:a = b):Ending.returned (.int k a) = .returned (.int k b):=by rw [h]
theorem Zow {a b:Bool} (h:a = b):Ending.returned (.bool a) = .returned (.bool b):=by rw [h]
theorem Zcw {k:IntKind} {a b:Int} (h:a = b):(Value.int k a) = .int k b:=by rw [h]
end Go.Proofs.Ytnkpnjnfddjfpaa

namespace Go.Proofs.Ytnkpnjnfddjfpaa
open Go.RowKit
structure ElemTy (P:Program) (T E:TypeId) (k:IntKind) (bytes:Nat):Prop where
 und:P.underlying T = some (.slice E)
 info:(P.info? E).map (fun i=>(i.zero,i.size,i.bytes)) = some (some (.int k 0),1,bytes)
theorem Below.of_grown {B:Nat} {w w':World} {row:Option Nat} (hg:w.grownBy w' row) (hB:B <= w.heap.size) (hr:∀ k,row = some k -> B <= k):Below B w w' :=
 (Below.refl B w).grown hg hB hr
def OwnN (E:TypeId) (k:IntKind) (w:World) (base:Nat) (a:Option Addr) (cap:Nat) (l:List Nat):Prop :=
 w.ownsRow base E 1 (.slice a l.length cap) l.length (l.map fun (n:Nat)=>Value.int k n)
section
variable {P : Program} {E : TypeId} {k : IntKind} {w w' : World} {base cap : Nat} {a : Option Addr} {l : List Nat}
theorem OwnN.nil (E:TypeId) (k:IntKind) (w:World) (base:Nat):OwnN E k w base none 0 []:=World.ownsRow_nil w base E 1
theorem OwnN.lit0 (E:TypeId) (k:IntKind) (w:World) (base:Nat) (hb:base <= w.heap.size):OwnN E k (w.alloc (.cells #[] E)) base (some ⟨w.heap.size,0,none⟩) 0 [] :=
 World.ownsRow_made w #[] 0 hb (by decide) rfl
theorem OwnN.form (h:OwnN E k w base a cap l):(a = none /\ cap = 0 /\ l = []) \/ ∃ g,a = some ⟨g,0,none⟩ /\ base <= g /\ g < w.heap.size:=by
 rcases h.2 with ⟨h1,h2⟩ | ⟨g,c,cur,h1,h2,h3,_⟩
 ·simp only [Value.slice.injEq] at h1
  exact .inl ⟨h1.1,h1.2.2,List.eq_nil_of_length_eq_zero h2⟩
 ·simp only [Value.slice.injEq] at h1
  exact .inr ⟨g,h1.1,h2,(Array.getElem?_eq_some_iff.1 h3).1⟩
theorem OwnN.caps (h:OwnN E k w base a cap l):l.length <= cap /\ cap <= 9223372036854775807:=by
 rcases h.2 with ⟨h1,h2⟩ | ⟨g,c,cur,h1,h2,h3,h4,h5,_⟩
 ·simp only [Value.slice.injEq] at h1
  omega
 ·simp only [Value.slice.injEq] at h1
  obtain ⟨_,_,rfl⟩:=h1
  exact ⟨h4,by simpa [maxLen] using h5⟩
theorem OwnN.at (h:OwnN E k w base a cap l) {i:Nat} (hi:i < l.length) :
  ∃ g,a = some ⟨g,0,none⟩ /\ base <= g /\ g < w.heap.size /\ w.cell? ⟨g,i,none⟩ = some (.int k l[i]) /\ w.frozen? ⟨g,i,none⟩ = false:=by
 rcases h.form with ⟨_,_,rfl⟩ | ⟨g,rfl,hb,hg⟩
 ·simp at hi
 ·refine ⟨g,rfl,hb,hg,?_,World.ownsRow.frozenAt h i⟩
  rw [World.ownsRow.cellAt h i (by omega)]
  simp [hi]
theorem OwnN.row (h:OwnN E k w base a cap l):RowN k w a cap l:=by
 refine ⟨h.caps.1,⟨h.caps.2,fun hn=>by rcases h.form with ⟨_,h1,_⟩ | ⟨g,h1,_⟩ <;> simp_all⟩,?_⟩
 rcases h.form with ⟨_,_,rfl⟩ | ⟨g,rfl,hb,hg⟩
 ·exact .inl rfl
 ·refine .inr ⟨g,0,rfl,hg,fun i hi=>?_⟩
  obtain ⟨g',he,_,_,hc,_⟩:=h.at hi
  simp only [Option.some.injEq,Addr.mk.injEq,and_true] at he
  subst he
  simpa using hc
theorem OwnN.kept {row:Option Nat} (h:OwnN E k w base a cap l) (hg:w.grownBy w' row) (hr:∀ g,a = some ⟨g,0,none⟩ -> row ≠ some g):OwnN E k w' base a cap l:=by
 refine World.ownsRow.kept h hg ?_
 rcases h.form with ⟨rfl,_,_⟩ | ⟨g,rfl,hb,hgg⟩
 ·exact .inl rfl
 ·exact .inr fun e=>hr g rfl e.symm
theorem OwnN.below (h:OwnN E k w base a cap l) (hb:Below w.heap.size w w'):OwnN E k w' base a cap l :=
 h.kept (row:=none) ⟨hb.os,hb.tape,hb.output,hb.size,fun k hk _=>hb.block k hk⟩ (fun _ _ e=>by cases e)
theorem OwnN.drew (h:OwnN E k w base a cap l):OwnN E k w.drew base a cap l:=h
theorem OwnN.alloc (h:OwnN E k w base a cap l) (o:Obj):OwnN E k (w.alloc o) base a cap l:=World.ownsRow.alloc h o
theorem OwnN.other (h:OwnN E k w base a cap l) {p:Addr} (hp:∀ g,a = some ⟨g,0,none⟩ -> p.block ≠ g) (u:Value):OwnN E k (w.setCell p u) base a cap l:=by
 refine ownsRow_setCell_other h ?_ u
 rcases h.form with ⟨rfl,_,_⟩ | ⟨g,rfl,hb,hgg⟩
 ·simp [Value.ownBlock]
 ·simp only [Value.ownBlock,ne_eq,Option.some.injEq]
  exact fun e=>hp g rfl e.symm
theorem OwnN.mono (h:OwnN E k w base a cap l) {b:Nat} (hb:b <= base):OwnN E k w b a cap l:=by
 refine ⟨h.1,?_⟩
 rcases h.2 with h2 | ⟨g,c,cur,h1,h2,h3⟩
 ·exact .inl h2
 ·exact .inr ⟨g,c,cur,h1,by omega,h3⟩
theorem OwnN.stored {g:Nat} (h:OwnN E k w base (some ⟨g,0,none⟩) cap l) (i:Nat) (x:Nat) :
  OwnN E k (w.setCell ⟨g,i,none⟩ (.int k x)) base (some ⟨g,0,none⟩) cap (l.set i x) /\ w.grownBy (w.setCell ⟨g,i,none⟩ (.int k x)) (some g):=by
 obtain ⟨h1,h2⟩:=World.ownsRow.stored h i (.int k x)
 refine ⟨?_,h2⟩
 unfold OwnN
 rw [List.map_set,List.length_set]
 exact h1
theorem Zbi {a:Option Addr} {cap:Nat} (h:RowN k w a cap l):∀ ad,a = some ad -> ∀ j u,(l.map fun (n:Nat)=>Value.int k n)[j]? = some u -> w.cell? (ad.add j) = some u:=by
 intro ad had j u hu
 have hj:j < l.length:=by
  have:=(List.getElem?_eq_some_iff.1 hu).1
  simpa using this
 obtain ⟨b,off,he,_,hc⟩:=h.at hj
 rw [had] at he
 cases he
 simp only [List.getElem?_map,List.getElem?_eq_getElem hj,Option.map_some,Option.some.injEq] at hu
 rw [<- hu,<- hc]
 unfold Addr.add
 split
 ·simp_all
 ·rfl
end
section
variable {P : Program} {T E : TypeId} {k : IntKind} {bytes : Nat}
theorem makeN (et:ElemTy P T E k bytes) {w:World} {ops:Array Oper} {rest:List Oper} {o:Oper} {a:Act} {Q:Exit -> Act -> World -> Prop}
  (hg:o.guard = none) (lo c:Operand) (hop:o.op = Op.makeSlice T lo c) (base:Nat) {kl kc:IntKind} {n:Nat} (hl:a.eval lo = .int kl n) (hc:a.eval c = .int kc n)
  (hb:bytes * n <= 281474976710656) (hn:n <= 9223372036854775807) (hbase:base <= w.heap.size)
  (hK:∀ w',OwnN E k w' base (some ⟨w.heap.size,0,none⟩) n (List.replicate n 0) -> w.grownBy w' none -> wpList P ops Q rest (a.put o.dst (.slice (some ⟨w.heap.size,0,none⟩) n n)) w') :
  wpList P ops Q (o :: rest) a w:=by
 obtain ⟨i,h2,h3,h4,h5⟩:=info_parts et.info
 refine wpList_plain (by assumption) fun K hK'=>?_
 obtain ⟨w',hrun,r1,r2⟩:=run_make_full (P:=P) w base T E i (.int k 0) 1 et.und h2 h3 h4 kl kc n (by rw [h5];exact hb) (by simpa [maxLen] using hn) hbase
 unfold Oper.wp
 simp [execOp,hop,hl,hc,hrun,Result.andThen]
 refine hK' _ _ (hK w' ?_ r2)
 unfold OwnN
 have hm:(madeCells (Value.int k 0).cells (n * 1)).toList = (List.replicate n (0:Nat)).map fun (n:Nat)=>Value.int k n:=by
  rw [Nat.mul_one];show (madeCells #[.int k 0] n).toList = _;rw [toList_madeCells_one];simp
 rw [List.length_replicate,<- hm]
 exact r1
theorem appN (et:ElemTy P T E k bytes) {w:World} {ops:Array Oper} {rest:List Oper} {o:Oper} {ac:Act} {Q:Exit -> Act -> World -> Prop} (hgd:o.guard = none) (s x:Operand)
  (ho:o.op = .call { callee:=.builtin .append,args:=#[s,x],argTypes:=#[T,T] }) {base:Nat} {a:Option Addr} {cap m c:Nat} {l ys:List Nat}
  (hs:ac.eval s = .slice a l.length cap) (hown:OwnN E k w base a cap l) {b:Option Addr} (hm:m = ys.length) (hx:ac.eval x = .slice b m c) (hy:RowN k w b c ys)
  (hb0:0 < ys.length) (hn:l.length + m <= 9223372036854775807) (hbytes:(l.length + m) * bytes <= 140737488355328) (hbase:base <= w.heap.size)
  (h:∀ a' cap' w',OwnN E k w' base a' cap' (l ++ ys) -> w.grownBy w' (Value.slice a l.length cap).ownBlock -> Below base w w' -> wpList P ops Q rest (ac.put o.dst (.slice a' (l.length + m) cap')) w') :
  wpList P ops Q (o :: rest) ac w:=by
 subst hm
 obtain ⟨i,h2,h3,h4,h5⟩:=info_parts et.info
 obtain ⟨bb,off,rfl,_⟩:=hy.at hb0
 refine wpList_plain (by assumption) fun K hK'=>?_
 obtain ⟨v',w',hr,h6,h7,h8⟩:=run_append_own (P:=P) w base T o.type E i (.int k 0) 1 bytes et.und h2 h3 h4 h5 rfl (by decide) _ l.length _ hown ⟨bb,off,none⟩ ys.length c (ys.map fun (n:Nat)=>Value.int k n) (by simp)
  (Zbi hy _ rfl) (by intro u hu;simp only [List.mem_map] at hu;obtain ⟨n,_,rfl⟩:=hu;rfl) (by simpa [maxLen] using hn) hbytes hbase
 have hv:∃ a' cap',v' = .slice a' (l.length + ys.length) cap':=by
  rcases h6.2 with ⟨h9,h10⟩ | ⟨g,c',cur,h9,_⟩
  ·exact ⟨none,0,by rw [h9,h10]⟩
  ·exact ⟨_,_,h9⟩
 obtain ⟨a',cap',rfl⟩:=hv
 have hown':OwnN E k w' base a' cap' (l ++ ys):=by
  unfold OwnN;rw [List.length_append,List.map_append];exact h6
 have hbel:Below base w w':=Below.of_grown h7 hbase (by
  intro g hg
  exact (World.ownsRow.lt hown g hg).1)
 unfold Oper.wp
 simp [execOp,ho,resolve,invoke,builtin,hs,hx,hr,Result.andThen]
 exact hK' _ _ (h a' cap' w' hown' h7 hbel)
theorem appAnyN (et:ElemTy P T E k bytes) {w:World} {ops:Array Oper} {rest:List Oper} {o:Oper} {ac:Act} {Q:Exit -> Act -> World -> Prop} (hgd:o.guard = none) (s x:Operand)
  (ho:o.op = .call { callee:=.builtin .append,args:=#[s,x],argTypes:=#[T,T] }) {base:Nat} {a:Option Addr} {cap m c:Nat} {l ys:List Nat}
  (hs:ac.eval s = .slice a l.length cap) (hown:OwnN E k w base a cap l) {b:Option Addr} (hm:m = ys.length) (hx:ac.eval x = .slice b m c) (hy:RowN k w b c ys)
  (hn:l.length + m <= 9223372036854775807) (hbytes:(l.length + m) * bytes <= 140737488355328) (hbase:base <= w.heap.size)
  (h:∀ a' cap' w',OwnN E k w' base a' cap' (l ++ ys) -> w.grownBy w' (Value.slice a l.length cap).ownBlock -> Below base w w' -> wpList P ops Q rest (ac.put o.dst (.slice a' (l.length + m) cap')) w') :
  wpList P ops Q (o :: rest) ac w:=by
 by_cases hy0:0 < ys.length
 ·exact appN et hgd s x ho hs hown hm hx hy hy0 hn hbytes hbase h
 subst hm
 obtain rfl:ys = []:=List.eq_nil_of_length_eq_zero (by omega)
 obtain ⟨i,h2,h3,h4,h5⟩:=info_parts et.info
 have h':∀ a' cap' w',OwnN E k w' base a' cap' l -> w.grownBy w' (Value.slice a l.length cap).ownBlock -> Below base w w' -> wpList P ops Q rest (ac.put o.dst (.slice a' l.length cap')) w':=by
  intro a' cap' w' h6
  have:=h a' cap' w' (by simpa using h6)
  simpa using this
 refine wpList_plain (by assumption) fun K hK'=>?_
 cases b with
 | none =>
  obtain rfl:c = 0:=hy.2.1.2 rfl
  have hr:=run_append_owned_none (P:=P) w base T o.type E i 1 et.und h2 _ l.length _ hown
  unfold Oper.wp
  simp [execOp,ho,resolve,invoke,builtin,hs,hx,hr,Result.andThen]
  exact hK' _ _ (h' a cap w hown (World.grownBy.refl _ _) (Below.refl _ _))
 | some ad =>
  obtain ⟨v',w',hr,h6,h7,h8⟩:=run_append_own (P:=P) w base T o.type E i (.int k 0) 1 bytes et.und h2 h3 h4 h5 rfl (by decide) _ l.length _ hown ad 0 c [] (by simp)
   (by simp) (by simp) (by simpa [maxLen] using hn) (by simpa using hbytes) hbase
  have hv:∃ a' cap',v' = .slice a' l.length cap':=by
   rcases h6.2 with ⟨h9,h10⟩ | ⟨g,c',cur,h9,_⟩
   ·exact ⟨none,0,by rw [h9];simp at h10;rw [h10];rfl⟩
   ·exact ⟨_,_,h9⟩
  obtain ⟨a',cap',rfl⟩:=hv
  have hown':OwnN E k w' base a' cap' l:=by
   unfold OwnN;simpa using h6
  have hbel:Below base w w':=Below.of_grown h7 hbase (by
   intro g hg
   exact (World.ownsRow.lt hown g hg).1)
  unfold Oper.wp
  simp only [List.length_nil] at hx
  simp [execOp,ho,resolve,invoke,builtin,hs,hx,hr,Result.andThen]
  exact hK' _ _ (h' a' cap' w' hown' h7 hbel)
theorem app1N (et:ElemTy P T E k bytes) {w:World} {ops:Array Oper} {rest:List Oper} {o:Oper} {ac:Act} {Q:Exit -> Act -> World -> Prop} (hgd:o.guard = none) (s x:Operand)
  (ho:o.op = .call { callee:=.builtin .append,args:=#[s,x],argTypes:=#[T,T] }) {base:Nat} {a:Option Addr} {cap:Nat} {l:List Nat} {y:Nat} {c E':Nat}
  (hs:ac.eval s = .slice a l.length cap) (hown:OwnN E k w base a cap l) (hx:ac.eval x = .slice (some ⟨w.heap.size,0,none⟩) 1 c) (hc:1 <= c) (hc':c <= 9223372036854775807)
  (hn:l.length + 1 <= 9223372036854775807) (hbytes:(l.length + 1) * bytes <= 140737488355328) (hbase:base <= w.heap.size)
  (h:∀ a' cap' w',OwnN E k w' base a' cap' (l ++ [y]) -> w.grownBy w' (Value.slice a l.length cap).ownBlock -> Below base w w' -> wpList P ops Q rest (ac.put o.dst (.slice a' (l.length + 1) cap')) w') :
  wpList P ops Q (o :: rest) ac (w.alloc (.cells #[.int k y] E')):=by
 refine appN et hgd s x ho hs (hown.alloc _) (ys:=[y]) rfl hx ?_ (by simp) hn hbytes (by simp;omega) ?_
 ·refine ⟨by simpa using hc,⟨hc',fun hn=>by cases hn⟩,.inr ⟨w.heap.size,0,rfl,by simp,fun i hi=>?_⟩⟩
  obtain rfl:i = 0:=by simp at hi;omega
  simp [World.cell?_alloc_at]
 ·intro a' cap' w' h1 h2 h3
  refine h a' cap' w' h1 ⟨h2.os,h2.tape,h2.output,Nat.le_trans (by simp) h2.size,fun q hq hr=>(h2.block q (by simp;omega) hr).trans (Below.heap_alloc _ _ _ hq)⟩ (((Below.refl base w).alloc hbase _).trans h3)
end
section
variable {P : Program} {T E : TypeId} {k : IntKind} {bytes : Nat} {F : Fence} {dep : Nat}
theorem makeNIn (et:ElemTy P T E k bytes) {w:World} {ops:Array Oper} {rest:List Oper} {o:Oper} {a:Act} {Q:Exit -> Act -> World -> Prop}
  (hg:o.guard = none) (lo c:Operand) (hop:o.op = Op.makeSlice T lo c) (base:Nat) {kl kc:IntKind} {n:Nat} (hl:a.eval lo = .int kl n) (hc:a.eval c = .int kc n)
  (hb:bytes * n <= 281474976710656) (hn:n <= 9223372036854775807) (hbase:base <= w.heap.size)
  (hK:∀ w',OwnN E k w' base (some ⟨w.heap.size,0,none⟩) n (List.replicate n 0) -> w.grownBy w' none -> wpListIn F dep P ops Q rest (a.put o.dst (.slice (some ⟨w.heap.size,0,none⟩) n n)) w') :
  wpListIn F dep P ops Q (o :: rest) a w:=by
 obtain ⟨i,h2,h3,h4,h5⟩:=info_parts et.info
 refine wpListIn_plain (by assumption) fun K hK'=>?_
 obtain ⟨w',hrun,r1,r2⟩:=run_make_full (P:=P) w base T E i (.int k 0) 1 et.und h2 h3 h4 kl kc n (by rw [h5];exact hb) (by simpa [maxLen] using hn) hbase
 unfold Oper.wpIn
 refine ⟨by simp [Oper.about,hop],?_⟩
 rw [Oper.semAt_plain F _ _ (by rw [hop];intro c hc';cases hc')]
 simp [execOp,hop,hl,hc,hrun,Result.andThen]
 refine hK' _ _ (hK w' ?_ r2)
 unfold OwnN
 have hm:(madeCells (Value.int k 0).cells (n * 1)).toList = (List.replicate n (0:Nat)).map fun (n:Nat)=>Value.int k n:=by
  rw [Nat.mul_one];show (madeCells #[.int k 0] n).toList = _;rw [toList_madeCells_one];simp
 rw [List.length_replicate,<- hm]
 exact r1
end
section
variable {P : Program} {E : TypeId} {k : IntKind} {w w' : World} {base cap : Nat} {a : Option Addr} {l : List Int}
end
section
variable {P : Program} {T E : TypeId} {k : IntKind} {bytes : Nat}
end
section
variable {P : Program} {T E : TypeId} {k : IntKind} {bytes : Nat} {F : Fence} {dep : Nat}
end
def strOf (l:List Nat):ByteArray:=(l.map fun (n:Nat)=>(n:Int)).foldl (fun r n=>r.push (UInt8.ofNat n.toNat)) ByteArray.empty
theorem Zey {P:Program} {src dst e:TypeId} {w:World} {a:Option Addr} {cap n:Nat} {l:List Nat} (hs:P.underlying src = some (.slice e)) (he:P.underlying e = some (.int .u8)) (hd:P.underlying dst = some .string) (hn:n = l.length) (h:RowN .u8 w a cap l) :
  (convert src dst (.slice a n cap)).run P w = .ok (.string (strOf l)) w:=by
 subst hn
 rw [run_convert_bytes_string w src dst e a _ _ hs he hd]
 cases a with
 | none =>
  obtain ⟨h1,h2,rfl | ⟨b,off,h3,_⟩⟩:=h
  ·rfl
  ·cases h3
 | some ad =>
  refine run_bytesToString w ad _ _ _ ?_
  have hr:=run_loadCells_list (P:=P) (w:=w) ad (l.map fun (n:Nat)=>Value.int .u8 n) (Zbi h ad rfl)
  simp only [List.length_map] at hr
  rw [hr]
  simp [Function.comp_def]
end Go.Proofs.Ytnkpnjnfddjfpaa

namespace Go.Proofs.Ytnkpnjnfddjfpaa
open Go.RowKit
structure Only (T:Nat -> Prop) (A B:World):Prop where
 os:B.os = A.os
 tape:B.tape = A.tape
 output:B.output = A.output
 size:A.heap.size <= B.heap.size
 block:∀ k,k < A.heap.size -> ¬ T k -> B.heap[k]? = A.heap[k]?
theorem Only.refl (T:Nat -> Prop) (A:World):Only T A A:=⟨rfl,rfl,rfl,Nat.le_refl _,fun _ _ _=>rfl⟩
theorem Only.trans {T:Nat -> Prop} {A B C:World} (h:Only T A B) (k:Only T B C):Only T A C :=
 ⟨k.os.trans h.os,k.tape.trans h.tape,k.output.trans h.output,Nat.le_trans h.size k.size,fun i hi hT=>(k.block i (Nat.lt_of_lt_of_le hi h.size) hT).trans (h.block i hi hT)⟩
theorem Only.mono {T T':Nat -> Prop} {A B:World} (h:Only T A B) (hT:∀ k,k < A.heap.size -> T k -> T' k):Only T' A B :=
 ⟨h.os,h.tape,h.output,h.size,fun i hi hn=>h.block i hi fun ht=>hn (hT i hi ht)⟩
theorem Only.alloc {T:Nat -> Prop} {A B:World} (h:Only T A B) (o:Obj):Only T A (B.alloc o) :=
 h.trans ⟨rfl,rfl,rfl,by simp,fun k hk _=>Below.heap_alloc _ _ _ hk⟩
theorem Only.drew {T:Nat -> Prop} {A B:World} (h:Only T A B):Only T A B.drew:=⟨h.os,h.tape,h.output,h.size,h.block⟩
theorem Only.setCell {T:Nat -> Prop} {A B:World} (h:Only T A B) {p:Addr} (hp:T p.block \/ A.heap.size <= p.block) (u:Value):Only T A (B.setCell p u):=by
 refine ⟨h.os,h.tape,h.output,by simpa [World.setCell] using h.size,fun k hk hT=>?_⟩
 rw [Below.heap_setCell _ _ _ _ (by rcases hp with hp | hp <;> first | omega | exact fun e=>hT (e ▸ hp))]
 exact h.block k hk hT
theorem Only.below {T:Nat -> Prop} {A B C:World} (h:Only T A B) (k:Below B.heap.size B C):Only T A C :=
 h.trans ⟨k.os,k.tape,k.output,k.size,fun i hi _=>k.block i hi⟩
theorem Only.grown {T:Nat -> Prop} {A B C:World} {row:Option Nat} (h:Only T A B) (k:B.grownBy C row) (hr:∀ r,row = some r -> T r \/ A.heap.size <= r):Only T A C:=by
 refine ⟨k.os.trans h.os,k.tape.trans h.tape,k.output.trans h.output,Nat.le_trans h.size k.size,fun i hi hT=>?_⟩
 rw [k.block i (Nat.lt_of_lt_of_le hi h.size) (fun e=>by rcases hr i e.symm with h' | h' <;> first | omega | exact hT h')]
 exact h.block i hi hT
theorem Below.only {n:Nat} {T:Nat -> Prop} {w A B:World} (h:Below n w A) (k:Only T A B) (hn:n <= w.heap.size) (hT:∀ b,T b -> n <= b):Below n w B :=
 h.trans ⟨k.os,k.tape,k.output,k.size,fun i hi=>k.block i (by have:=h.size;omega) (fun t=>by have:=hT i t;omega)⟩
theorem Below.put {n:Nat} {w A:World} (h:Below n w A) (hn:n <= w.heap.size) {l:Nat} {o:Obj} (hl:A.heap[l]? = some o) (hN:n <= l) (o':Obj):Below n w (A.putObj l o') :=
 h.grown (grownBy_putObj' A l o') (by have:=h.size;omega) (fun k e=>by cases e;exact hN)
theorem Zfx {A:World} {b l:Nat} {o o':Obj} {c:Array Value} {e:TypeId} {z:Nat × Nat} (h:A.heap[b]? = some (.cells c e z)) (hl:A.heap[l]? = some o) (ho:o.isCells = false):(A.putObj l o').heap[b]? = some (.cells c e z) :=
 (World.putObj_heap_other (by intro e';subst e';rw [h] at hl;cases hl;cases ho)).trans h
theorem Zac {T:Nat -> Prop} {A B:World} {b:Nat} {o:Obj} (h:A.heap[b]? = some o) (k:Only T A B) (hT:¬ T b):B.heap[b]? = some o :=
 (k.block b (lt_of_block h) hT).trans h
theorem OwnN.only {T:Nat -> Prop} {E:TypeId} {k:IntKind} {A B:World} {base cap:Nat} {a:Option Addr} {l:List Nat} (h:OwnN E k A base a cap l) (ho:Only T A B) (hT:∀ b,base <= b -> ¬ T b):OwnN E k B base a cap l:=by
 refine ⟨h.1,?_⟩
 rcases h.2 with h2 | ⟨g,c,cur,h1,h2,h3,h4⟩
 ·exact .inl h2
 ·exact .inr ⟨g,c,cur,h1,h2,Zac h3 ho (hT g h2),h4⟩
theorem OwnN.put {E:TypeId} {k:IntKind} {A:World} {base cap:Nat} {a:Option Addr} {l:List Nat} (h:OwnN E k A base a cap l) {r:Nat} {o:Obj} (hl:A.heap[r]? = some o) (ho:o.isCells = false) (o':Obj):OwnN E k (A.putObj r o') base a cap l:=by
 refine ⟨h.1,?_⟩
 rcases h.2 with h2 | ⟨g,c,cur,h1,h2,h3,h4⟩
 ·exact .inl h2
 ·exact .inr ⟨g,c,cur,h1,h2,Zfx h3 hl ho,h4⟩
structure SameOn (S:Nat -> Prop) (A B:World):Prop where
 size:A.heap.size <= B.heap.size
 same:∀ b,S b -> B.heap[b]? = A.heap[b]?
theorem SameOn.refl (S:Nat -> Prop) (A:World):SameOn S A A:=⟨Nat.le_refl _,fun _ _=>rfl⟩
theorem SameOn.trans {S:Nat -> Prop} {A B C:World} (h:SameOn S A B) (k:SameOn S B C):SameOn S A C:=⟨Nat.le_trans h.size k.size,fun b hb=>(k.same b hb).trans (h.same b hb)⟩
theorem Only.sameOn {S T:Nat -> Prop} {A B:World} (h:Only T A B) (hS:∀ b,S b -> b < A.heap.size /\ ¬ T b):SameOn S A B:=⟨h.size,fun b hb=>h.block b (hS b hb).1 (hS b hb).2⟩
def Yields (P:Program) (gf:Nat) (lb:Array Value) (n:Nat) (row:Nat -> Array Value) (S T:Nat -> Prop) (w:World):Prop :=
 ∀ (l:Nat) (J Jx:Nat -> World -> Prop) (W:World),SameOn S w W →
  (∀ i A B,J i A -> Only T A B -> J i B) -> (∀ i A B,Jx i A -> Only T A B -> Jx i B) →
  (∀ i A,i < n -> J i A -> YieldAt Fence.wide 9 P l (row i) A fun e B =>
   (e = .returned (.bool true) /\ J (i + 1) B /\ SameOn S A B) \/ (e = .returned (.bool false) /\ Jx (i + 1) B)) →
  J 0 W →
  CallsIn Fence.wide 9 P gf (#[.func (.yield l) #[] #[]] ++ lb) W fun e B=>(∃ v,e = .returned v) /\ (J n B \/ ∃ i,i < n /\ Jx (i + 1) B)
def roundEnds (N:Nat) (S:Nat -> Prop) (I:Nat -> World -> Prop) (Ix:Code -> Nat -> World -> Prop) (i:Nat) (A:World):Exit -> Act -> World -> Prop
 | .normal,_,B=>KeepsFrom N A B /\ SameOn S A B /\ I (i + 1) B
 | .ret,_,B=>KeepsFrom N A B /\ Ix .ret (i + 1) B
 | .exit id,_,B=>KeepsFrom N A B /\ Ix (.exit id) (i + 1) B
 | .goto t,_,B=>KeepsFrom N A B /\ Ix (.goto t) (i + 1) B
 | .panic _,_,_=>False
 | .outgrown,_,_=>False
theorem Zgn {n m:Nat} {P:Program} {l:Nat} {args:Array Value} {W:World} {R:Ending -> World -> Prop} (h:YieldAt Fence.wide n P l args W R):YieldAt Fence.wide m P l args W R:=by
 obtain ⟨fn,tmps,assign,body,hy,hF,hR⟩:=h
 exact ⟨fn,tmps,assign,body,hy,hF,fun c cs _=>hR c cs (room_wide _)⟩
theorem Zlw {P:Program} {g:Operand} {ps:Array Tmp} {assign body:Code} {Q:Exit -> Act -> World -> Prop} {a:Act} {w:World}
  {gf:Nat} {lb:Array Value} (hg:a.eval g = .func (.func gf) #[] lb) (eg:∀ args w,(callFunc gf args).run P w = .ok (.enter gf args) w)
  {n:Nat} {row:Nat -> Array Value} {S T:Nat -> Prop} {w0:World} (hy:Yields P gf lb n row S T w0) (hsame:SameOn S w0 w) (hS:∀ b,S b -> b < w.heap.size) (hT:∀ b,T b -> b < w.heap.size)
  (hps:∀ i,(row i).size = ps.size)
  (I:Nat -> World -> Prop) (Ix:Code -> Nat -> World -> Prop)
  (hI:∀ i A B,I i A -> Only T A B -> I i B) (hIp:∀ i A l o o',I i A -> w.heap.size <= l -> A.heap[l]? = some o -> o.isCells = false -> I i (A.putObj l o'))
  (hX:∀ c i A B,Ix c i A -> Only T A B -> Ix c i B) (hXp:∀ c i A l o o',Ix c i A -> w.heap.size <= l -> A.heap[l]? = some o -> o.isCells = false -> Ix c i (A.putObj l o'))
  (h0:I 0 w) (a₁:Nat -> Act)
  (hassign:∀ (l i:Nat) (W:World) (K:Act -> World -> Prop),K (a₁ i) W →
   assign.wpIn (Fence.wide.inRound l) 9 P (Exit.then K (fun _ _ _=>False)) { tmps:=(ps.zip (row i)).foldl (fun t (p,v)=>t.setIfInBounds p v) a.tmps,defers:=[] } W)
  (hbody:∀ (l i:Nat) (hi:i < n) (A:World),w.heap.size + 2 <= A.heap.size -> I i A -> body.wpIn (Fence.wide.inRound l) 9 P (roundEnds w.heap.size S I Ix i A) (a₁ i) A)
  (hdone:∀ (A:World),I n A -> A.heap[w.heap.size]? = some (.deferred (some [])) -> Q .normal { a with defers:={ target:=.collected w.heap.size,args:=#[] } :: a.defers } A)
  (hstop:∀ (c:Code) (i:Nat) (A:World),i < n -> Ix c (i + 1) A -> A.heap[w.heap.size]? = some (.deferred (some [])) -> c.wpIn Fence.wide 9 P Q { a with defers:={ target:=.collected w.heap.size,args:=#[] } :: a.defers } A) :
  (Code.rangeFunc g ps assign body).wpIn Fence.wide 9 P Q a w:=by
 refine wpIn_rangeFunc ?_
 intro fn hfn
 obtain ⟨rec,hrec⟩:∃ rec:LoopState -> Option Code -> Loop,rec = fun st pe=>{ state:=st,pending:=pe,fn,tmps:=a.tmps,params:=ps,assign,body,defers:=w.heap.size }:=⟨_,rfl⟩
 obtain ⟨W1,hW1⟩:∃ W1,(w.alloc (.deferred (some []))).alloc (.loop (rec .ready none)) = W1:=⟨_,rfl⟩
 have hs1:W1.heap.size = w.heap.size + 2:=by rw [<- hW1];simp
 have hL1:W1.heap[w.heap.size + 1]? = some (.loop (rec .ready none)):=by
  rw [<- hW1];have:=World.alloc_heap_new (w.alloc (.deferred (some []))) (.loop (rec .ready none));rwa [World.size_alloc] at this
 have hK1:W1.heap[w.heap.size]? = some (.deferred (some [])):=by
  rw [<- hW1];exact (Below.heap_alloc _ _ _ (by simp)).trans (World.alloc_heap_new w _)
 have hI1:I 0 W1:=hI 0 w W1 h0 (by rw [<- hW1];exact ((Only.refl T w).alloc _).alloc _)
 have hsame1:SameOn S w0 W1:=⟨by have:=hsame.size;omega,fun b hb=>by
  rw [<- hW1,Below.heap_alloc _ _ _ (by have:=hS b hb;simp;omega),Below.heap_alloc _ _ _ (hS b hb)]
  exact hsame.same b hb⟩
 refine ⟨w.heap.size + 1,[{ target:=.collected w.heap.size,args:=#[] }],W1,{ target:=.fn (.func gf) lb,args:=#[.func (.yield (w.heap.size + 1)) #[] #[]] },W1,gf,
  #[.func (.yield (w.heap.size + 1)) #[] #[]] ++ lb,W1,?_,?_,?_,?_,fun h=>by simp [Fence.wide] at h,?_⟩
 ·rw [<- hW1,hrec];exact run_enterLoop_outer _ _ _ _ _
 ·simp only [resolve,hg]
  simp [go_sem]
 ·intro f' hf';trivial
 ·simp [invoke,go_sem,eg]
 ·have hyy:=hy (w.heap.size + 1)
   (fun i A=>I i A /\ w.heap.size + 2 <= A.heap.size /\ A.heap[w.heap.size + 1]? = some (.loop (rec .ready none)) /\ A.heap[w.heap.size]? = some (.deferred (some [])))
   (fun i A=>∃ c,Ix c i A /\ A.heap[w.heap.size + 1]? = some (.loop (rec .done (some c))) /\ A.heap[w.heap.size]? = some (.deferred (some [])))
   W1 hsame1
   (fun i A B h ho=>⟨hI i A B h.1 ho,Nat.le_trans h.2.1 ho.size,Zac h.2.2.1 ho (fun t=>by have:=hT _ t;omega),Zac h.2.2.2 ho (fun t=>by have:=hT _ t;omega)⟩)
   (fun i A B h ho=>by
    obtain ⟨c,hc,hl,hk⟩:=h
    exact ⟨c,hX c i A B hc ho,Zac hl ho (fun t=>by have:=hT _ t;omega),Zac hk ho (fun t=>by have:=hT _ t;omega)⟩)
   ?_ ⟨hI1,by omega,hL1,hK1⟩
  ·refine (callsIn_wide.2 (callsIn_wide.1 hyy)).mono ?_
   rintro e W2 ⟨⟨v,rfl⟩,(⟨hi,_,hl,hk⟩ | ⟨i,hlt,c,hi,hl,hk⟩)⟩
   ·exact ⟨none,_,by have:=run_endLoop (P:=P) hl (by rw [hrec];simp);rw [hrec] at this;exact this,hdone _ (hIp _ _ _ _ _ hi (by omega) hl rfl) ((World.putObj_heap_other (by omega)).trans hk)⟩
   ·exact ⟨some c,_,by have:=run_endLoop (P:=P) hl (by rw [hrec];simp);rw [hrec] at this;exact this,hstop c i _ hlt (hXp _ _ _ _ _ _ hi (by omega) hl rfl) ((World.putObj_heap_other (by omega)).trans hk)⟩
  ·rintro i W hi ⟨hii,hsz,hl,hk⟩
   have hy':=run_yield (P:=P) (args:=row i) hl (by rw [hrec];exact hps _)
   rw [hrec] at hy'
   refine Zgn (n:=9) ⟨fn,_,assign,body,hy',roundIn_of_wpIn hfn (hassign _ i W _ ⟨_,run_beginRound hl (by rw [hrec]),?_⟩)⟩
   have hlt:w.heap.size + 1 < W.heap.size:=by omega
   have hl2:(W.putObj (w.heap.size + 1) (.loop { rec .ready none with state:=.busy })).heap[w.heap.size + 1]? = some (.loop { rec .ready none with state:=.busy }):=World.putObj_heap_same hlt
   have hk2:(W.putObj (w.heap.size + 1) (.loop { rec .ready none with state:=.busy })).heap[w.heap.size]? = some (.deferred (some [])):=(World.putObj_heap_other (by omega)).trans hk
   have hS2:∀ (A:World) (o:Obj),SameOn S A (A.putObj (w.heap.size + 1) o):=fun A o=>⟨by rw [World.putObj_size];exact Nat.le_refl _,fun b hb=>World.putObj_heap_other (by have:=hS b hb;omega)⟩
   refine wpIn_mono (hbody _ i hi _ (by rw [World.putObj_size];exact hsz) (hIp _ _ _ _ _ hii (by omega) hl rfl)) ?_
   have fin:∀ (jump:Option Code) (W3:World),KeepsFrom w.heap.size (W.putObj (w.heap.size + 1) (.loop { rec .ready none with state:=.busy })) W3 →
     (Instr.endRound (w.heap.size + 1) jump).run P W3 = .ok (.bool jump.isNone) (W3.putObj (w.heap.size + 1) (.loop (rec (if jump.isNone then .ready else .done) jump))) ∧
     W3.heap[w.heap.size + 1]? = some (.loop { rec .ready none with state:=.busy }) ∧
     (W3.putObj (w.heap.size + 1) (.loop (rec (if jump.isNone then .ready else .done) jump))).heap[w.heap.size + 1]? = some (.loop (rec (if jump.isNone then .ready else .done) jump)) ∧
     (W3.putObj (w.heap.size + 1) (.loop (rec (if jump.isNone then .ready else .done) jump))).heap[w.heap.size]? = some (.deferred (some [])) /\ w.heap.size + 2 <= (W3.putObj (w.heap.size + 1) (.loop (rec (if jump.isNone then .ready else .done) jump))).heap.size:=fun jump W3 hk3=>by
    have hl3:=hk3.same _ _ (by omega) hl2 rfl
    have:=run_endRound (P:=P) jump hl3
    rw [hrec] at this ⊢
    exact ⟨this,by rw [hrec] at hl3;exact hl3,World.putObj_heap_same (Array.getElem?_eq_some_iff.1 hl3).1,(World.putObj_heap_other (by omega)).trans (hk3.same _ _ (by omega) hk2 rfl),by rw [World.putObj_size];have:=(Array.getElem?_eq_some_iff.1 hl3).1;omega⟩
   rintro e a3 W3 hp
   cases e with
   | normal =>
    obtain ⟨hk3,hkp3,hi3⟩:=hp
    obtain ⟨hr,hl3,hl4,hk4,hz4⟩:=fin none W3 hk3
    exact ⟨_,_,hr,.inl ⟨rfl,⟨hIp _ _ _ _ _ hi3 (by omega) hl3 rfl,hz4,hl4,hk4⟩,((hS2 _ _).trans hkp3).trans (hS2 _ _)⟩⟩
   | ret =>
    obtain ⟨hk3,hi3⟩:=hp
    obtain ⟨hr,hl3,hl4,hk4,_⟩:=fin (some .ret) W3 hk3
    exact ⟨_,_,hr,.inr ⟨rfl,.ret,hXp _ _ _ _ _ _ hi3 (by omega) hl3 rfl,hl4,hk4⟩⟩
   | exit id =>
    obtain ⟨hk3,hi3⟩:=hp
    obtain ⟨hr,hl3,hl4,hk4,_⟩:=fin (some (.exit id)) W3 hk3
    exact ⟨_,_,hr,.inr ⟨rfl,.exit id,hXp _ _ _ _ _ _ hi3 (by omega) hl3 rfl,hl4,hk4⟩⟩
   | goto t =>
    obtain ⟨hk3,hi3⟩:=hp
    obtain ⟨hr,hl3,hl4,hk4,_⟩:=fin (some (.goto t)) W3 hk3
    exact ⟨_,_,hr,.inr ⟨rfl,.goto t,hXp _ _ _ _ _ _ hi3 (by omega) hl3 rfl,hl4,hk4⟩⟩
   | panic ch=>exact hp.elim
   | outgrown=>exact hp.elim
end Go.Proofs.Ytnkpnjnfddjfpaa

namespace Go.Proofs.Ytnkpnjnfddjfpaa.M04
def wt (n:Nat):Nat:=if n = 0 then 0 else 2 ^ (20 - n)
def weight (l:List Nat):Nat:=(l.map wt).sum
theorem Zaal (n:Nat):wt n <= 2 ^ 20:=by
 unfold wt;split
 ·simp
 ·exact Nat.pow_le_pow_right (by simp) (by omega)
theorem Zuk (l:List Nat):weight l <= l.length * 2 ^ 20:=by
 induction l with
 | nil=>simp [weight]
 | cons a l ih=>have:=Zaal a;simp only [weight,List.map_cons,List.sum_cons,List.length_cons] at *;omega
theorem Zbx {α:Type} (l:List α) (k:Nat) (h:k < l.length):l.take (k + 1) = l.take k ++ [l[k]]:=List.take_succ_eq_append_getElem h
theorem Znu (l:List Nat) (k:Nat) (h:k < l.length):weight (l.take (k + 1)) = weight (l.take k) + wt l[k]:=by
 rw [Zbx l k h];simp only [weight,List.map_append,List.map_cons,List.map_nil,List.sum_append,List.sum_cons,List.sum_nil];omega
theorem Zeo (l:List Nat) (k:Nat) (h:l.length <= 512):weight (l.take k) <= 512 * 2 ^ 20 :=
 Nat.le_trans (Zuk _) (by simp;omega)
def May (l:List Nat):Prop:=(∀ x ∈ l,x <= 20) /\ l.length <= 512
instance (l:List Nat):Decidable (May l):=by unfold May;infer_instance
def top (l:List Nat):Nat:=l.foldl max 0
theorem Zpa (l:List Nat) (k:Nat) (h:k < l.length):top (l.take (k + 1)) = max (top (l.take k)) l[k]:=by
 rw [Zbx l k h];simp only [top,List.foldl_append,List.foldl_cons,List.foldl_nil]
theorem Zlh (l:List Nat) (a n:Nat):l.foldl max a <= n ↔ a <= n /\ ∀ x ∈ l,x <= n:=by
 induction l generalizing a with
 | nil=>simp
 | cons b l ih =>
  simp only [List.foldl_cons,ih,List.mem_cons,forall_eq_or_imp,<- and_assoc]
  refine and_congr_left fun _=>?_
  omega
theorem Zaac (l:List Nat) (n:Nat):top l <= n ↔ ∀ x ∈ l,x <= n:=by
 unfold top;rw [Zlh];simp
def mayB (l:List Nat):Bool:=decide (May l)
def cls (l:List Nat):Nat:=if weight l = 0 then 0 else if weight l < 2 ^ 20 then 1 else if weight l = 2 ^ 20 then 2 else 3
def clsE (l:List Nat):Nat × Nat:=if May l then (cls l,0) else (0,5)
def S (f:Nat -> Nat):Nat -> Nat
 | 0=>0
 | m + 1=>S f m + f m
theorem Zmt {f g:Nat -> Nat} {m:Nat} (h:∀ j,j < m -> f j = g j):S f m = S g m:=by
 induction m with
 | zero=>rfl
 | succ m ih=>simp only [S];rw [ih fun j hj=>h j (by omega),h m (by omega)]
theorem S_le {f g:Nat -> Nat} {m:Nat} (h:∀ j,j < m -> f j <= g j):S f m <= S g m:=by
 induction m with
 | zero=>simp [S]
 | succ m ih=>simp only [S];have:=ih fun j hj=>h j (by omega);have:=h m (by omega);omega
theorem Zxd {f:Nat -> Nat} {m:Nat} (h:∀ j,j < m -> f j = 0):S f m = 0:=by
 induction m with
 | zero=>rfl
 | succ m ih=>simp only [S];rw [ih fun j hj=>h j (by omega),h m (by omega)]
theorem Zaaf {f g:Nat -> Nat} {m k:Nat} (hk:k < m) (h:∀ j,j < m -> j ≠ k -> f j = g j):S f m + g k = S g m + f k:=by
 induction m with
 | zero=>omega
 | succ m ih =>
  simp only [S]
  by_cases e:k = m
  ·subst e
   rw [Zmt (fun j hj=>h j (by omega) (by omega))];omega
  ·have:=ih (by omega) (fun j hj hne=>h j (by omega) hne)
   have:=h m (by omega) (by omega)
   omega
theorem Zaae {f:Nat -> Nat} {m d:Nat} (h:∀ j,j < m -> d ∣ f j):d ∣ S f m:=by
 induction m with
 | zero=>exact ⟨0,rfl⟩
 | succ m ih=>exact Nat.dvd_add (ih fun j hj=>h j (by omega)) (h m (by omega))
theorem Zzo (f:Nat -> Nat) (m:Nat):S f (m + 1) = f 0 + S (fun j=>f (j + 1)) m:=by
 induction m with
 | zero=>simp [S]
 | succ m ih=>rw [S,ih,S];omega
theorem Zxa (l:List Nat):weight l = S (fun j=>wt (l.getD j 0)) l.length:=by
 induction l with
 | nil=>rfl
 | cons a l ih =>
  rw [List.length_cons,Zzo]
  simp only [weight,List.map_cons,List.sum_cons] at *
  rw [ih];simp
def pre (l:List Nat) (n k j:Nat):Prop:=l.getD j 0 ≠ 0 /\ (l.getD j 0 < n \/ l.getD j 0 = n /\ j < k)
instance (l:List Nat) (n k j:Nat):Decidable (pre l n k j):=by unfold pre;infer_instance
def acc (l:List Nat) (n k:Nat):Nat:=S (fun j=>if pre l n k j then wt (l.getD j 0) else 0) l.length
def word (l:List Nat) (i:Nat):Nat:=if l.getD i 0 = 0 then 0 else acc l (l.getD i 0) i / 2 ^ (20 - l.getD i 0)
def words (l:List Nat):List Nat:=(List.range l.length).map (word l)
def outs (l:List Nat) (n k:Nat):List Nat:=(List.range l.length).map fun i=>if pre l n k i then word l i else 0
theorem Zcp (l:List Nat):(words l).length = l.length:=by simp [words]
theorem Zxq (l:List Nat):acc l 1 0 = 0:=Zxd fun j _=>by
 rw [if_neg];unfold pre;omega
theorem Zxr (l:List Nat) (n:Nat):acc l n l.length = acc l (n + 1) 0:=Zmt fun j hj=>by
 have:pre l n l.length j ↔ pre l (n + 1) 0 j:=by unfold pre;omega
 simp only [this]
theorem Zxe (l:List Nat) (n k:Nat):acc l n k <= weight l:=by
 rw [Zxa]
 exact S_le fun j _=>by split <;> omega
theorem Zmu (l:List Nat) (n k:Nat) (hn:n ≠ 0) (hk:k < l.length) (h:l[k] = n):acc l n (k + 1) = acc l n k + 2 ^ (20 - n):=by
 have hg:l.getD k 0 = n:=by simp [hk,h]
 have:=Zaaf (f:=fun j=>if pre l n (k + 1) j then wt (l.getD j 0) else 0) (g:=fun j=>if pre l n k j then wt (l.getD j 0) else 0) hk (fun j hj hne=>by
  have:pre l n (k + 1) j ↔ pre l n k j:=by unfold pre;omega
  simp only [this])
 rw [if_neg (by unfold pre;omega),if_pos (by unfold pre;omega),hg,wt,if_neg hn] at this
 unfold acc
 omega
theorem Zur (l:List Nat) (n k:Nat) (hk:k < l.length) (h:l[k] ≠ n):acc l n (k + 1) = acc l n k:=Zmt fun j hj=>by
 have hg:l.getD k 0 = l[k]:=by simp [hk]
 have:pre l n (k + 1) j ↔ pre l n k j:=by
  unfold pre
  constructor
  ·rintro ⟨h1,h2 | ⟨h2,h3⟩⟩
   ·exact ⟨h1,.inl h2⟩
   ·refine ⟨h1,.inr ⟨h2,?_⟩⟩
    by_cases e:j = k
    ·subst e;omega
    ·omega
  ·rintro ⟨h1,h2⟩;exact ⟨h1,by omega⟩
 simp only [this]
theorem Zxp (l:List Nat) (n k:Nat):2 ^ (20 - n) ∣ acc l n k:=Zaae fun j _=>by
 split
 ·rename_i h
  have h0:l.getD j 0 ≠ 0:=h.1
  have hle:l.getD j 0 <= n:=by have:=h.2;omega
  rw [wt,if_neg h0]
  exact Nat.pow_dvd_pow 2 (by omega)
 ·exact Nat.dvd_zero _
theorem Zwf (l:List Nat):outs l 1 0 = List.replicate l.length 0:=by
 apply List.ext_getElem (by simp [outs])
 intro i h1 h2
 simp only [outs,List.getElem_map,List.getElem_range,List.getElem_replicate]
 rw [if_neg];unfold pre;omega
theorem Zoq (l:List Nat) (n:Nat):outs l n l.length = outs l (n + 1) 0:=by
 apply List.ext_getElem (by simp [outs])
 intro i h1 h2
 simp only [outs,List.length_map,List.length_range] at h1
 simp only [outs,List.getElem_map,List.getElem_range]
 have:pre l n l.length i ↔ pre l (n + 1) 0 i:=by unfold pre;omega
 simp only [this]
theorem Zwe (l:List Nat) (n k:Nat) (hn:n ≠ 0) (hk:k < l.length) (h:l[k] = n):outs l n (k + 1) = (outs l n k).set k (acc l n k / 2 ^ (20 - n)):=by
 have hg:l.getD k 0 = n:=by simp [hk,h]
 apply List.ext_getElem (by simp [outs])
 intro i h1 h2
 simp only [outs,List.length_map,List.length_range] at h1
 rw [List.getElem_set]
 simp only [outs,List.getElem_map,List.getElem_range]
 by_cases e:k = i
 ·subst e
  rw [if_pos (by unfold pre;omega),if_pos rfl,word,if_neg (by omega),hg]
 ·rw [if_neg e]
  have:pre l n (k + 1) i ↔ pre l n k i:=by unfold pre;omega
  simp only [this]
theorem Zsz (l:List Nat) (n k:Nat) (hk:k < l.length) (h:l[k] ≠ n):outs l n (k + 1) = outs l n k:=by
 apply List.ext_getElem (by simp [outs])
 intro i h1 h2
 simp only [outs,List.getElem_map,List.getElem_range]
 have hg:l.getD k 0 = l[k]:=by simp [hk]
 have:pre l n (k + 1) i ↔ pre l n k i:=by
  unfold pre
  constructor
  ·rintro ⟨h1,h2 | ⟨h2,h3⟩⟩
   ·exact ⟨h1,.inl h2⟩
   ·refine ⟨h1,.inr ⟨h2,?_⟩⟩
    by_cases e:i = k
    ·subst e;omega
    ·omega
  ·rintro ⟨h1,h2⟩;exact ⟨h1,by omega⟩
 simp only [this]
theorem Zfz {l:List Nat} {n:Nat} (h:∀ x ∈ l,x <= n) (i:Nat):l.getD i 0 <= n:=by
 by_cases hi:i < l.length
 ·simp only [List.getD_eq_getElem?_getD,List.getElem?_eq_getElem hi,Option.getD_some];exact h _ (List.getElem_mem hi)
 ·simp only [List.getD_eq_getElem?_getD,List.getElem?_eq_none (by omega:l.length <= i),Option.getD_none];omega
theorem Zwd (l:List Nat) (h:∀ x ∈ l,x <= 20):outs l 21 0 = words l:=by
 apply List.ext_getElem (by simp [outs,words])
 intro i h1 h2
 simp only [outs,words,List.getElem_map,List.getElem_range]
 have:=Zfz h i
 by_cases e:l.getD i 0 = 0
 ·rw [if_neg (by unfold pre;omega),word,if_pos e]
 ·rw [if_pos (by unfold pre;omega)]
def wordsE (l:List Nat):List Nat × Nat:=if ¬ May l then ([],5) else if 2 ^ 20 < weight l then ([],2) else (words l,0)
def rowOf (l:List Nat) (n k:Nat):List (Nat × Nat):=(List.range k).filterMap fun i=>if l.getD i 0 = n then some (i,n) else none
def ordB (l:List Nat):Nat -> Nat -> List (Nat × Nat)
 | 0,k=>rowOf l 0 k
 | n + 1,k=>(if n = 0 then [] else ordB l n l.length) ++ rowOf l (n + 1) k
def ord (l:List Nat):List (Nat × Nat):=ordB l 20 l.length
theorem Zmg (l:List Nat) (n k:Nat) (h:l.getD k 0 = n):rowOf l n (k + 1) = rowOf l n k ++ [(k,n)]:=by
 simp only [rowOf,List.range_succ,List.filterMap_append,List.filterMap_cons,List.filterMap_nil,h,if_true]
theorem Zjv (l:List Nat) (n k:Nat) (h:l.getD k 0 ≠ n):rowOf l n (k + 1) = rowOf l n k:=by
 simp only [rowOf,List.range_succ,List.filterMap_append,List.filterMap_cons,List.filterMap_nil,h,if_false,List.append_nil]
theorem Zfh (l:List Nat) (n k:Nat) (h:l.getD k 0 = n):ordB l n (k + 1) = ordB l n k ++ [(k,n)]:=by
 cases n with
 | zero=>exact Zmg l 0 k h
 | succ n=>simp only [ordB];rw [Zmg l _ k h,List.append_assoc]
theorem Zfi (l:List Nat) (n k:Nat) (h:l.getD k 0 ≠ n):ordB l n (k + 1) = ordB l n k:=by
 cases n with
 | zero=>exact Zjv l 0 k h
 | succ n=>simp only [ordB];rw [Zjv l _ k h]
theorem Zhf (l:List Nat) (n:Nat) (hn:n ≠ 0):ordB l (n + 1) 0 = ordB l n l.length:=by
 simp [ordB,rowOf,hn]
theorem Zkg (l:List Nat):ordB l 1 0 = []:=by simp [ordB,rowOf]
theorem Zsu (l:List Nat) (n k m:Nat):ordB l n k <+: ordB l n (k + m):=by
 induction m with
 | zero=>exact List.prefix_refl _
 | succ m ih =>
  by_cases h:l.getD (k + m) 0 = n
  ·rw [<- Nat.add_assoc,Zfh l n _ h];exact ih.trans (List.prefix_append _ _)
  ·rw [<- Nat.add_assoc,Zfi l n _ h];exact ih
theorem Zsv (l:List Nat) (d n k:Nat) (hn:n + d = 20) (h0:n ≠ 0) (hk:k <= l.length):ordB l n k <+: ord l:=by
 induction d generalizing n k with
 | zero =>
  obtain rfl:n = 20:=by omega
  have:=Zsu l 20 k (l.length - k)
  rwa [show k + (l.length - k) = l.length by omega] at this
 | succ d ih =>
  have h1:=Zsu l n k (l.length - k)
  rw [show k + (l.length - k) = l.length by omega,<- Zhf l n h0] at h1
  exact h1.trans (ih (n + 1) 0 (by omega) (by omega) (by omega))
theorem Zop (l:List Nat) (n k:Nat) (hn:n <= 20) (h0:n ≠ 0) (hk:k <= l.length):ordB l n k <+: ord l:=Zsv l (20 - n) n k (by omega) h0 hk
theorem Zsw (l:List Nat) (n k:Nat) (hn:n <= 20) (h0:n ≠ 0) (hk:k < l.length) (h:l.getD k 0 = n):(ord l)[(ordB l n k).length]? = some (k,n):=by
 obtain ⟨t,ht⟩:=Zop l n (k + 1) hn h0 (by omega)
 rw [<- ht,Zfh l n k h]
 simp
theorem Zwb (l:List Nat) (n k:Nat) (hn:n ≠ 0):∀ p ∈ ordB l n k,p.2 <= n:=by
 induction n generalizing k with
 | zero=>omega
 | succ n ih =>
  intro p hp
  simp only [ordB,List.mem_append] at hp
  rcases hp with hp | hp
  ·by_cases h:n = 0
   ·simp [h] at hp
   ·simp only [h,if_false] at hp
    have:=ih l.length h p hp
    omega
  ·simp only [rowOf,List.mem_filterMap,List.mem_range,Option.ite_none_right_eq_some,Option.some.injEq] at hp
   obtain ⟨i,_,_,rfl⟩:=hp
   exact Nat.le_refl _
theorem Zwc (l:List Nat) (n k:Nat) (hn:n <= 20) (h0:n ≠ 0) (hk:k <= l.length) (j:Nat) (hj:j < (ordB l n k).length) :
  ∃ n' k',n' ≠ 0 /\ n' <= 20 /\ k' < l.length /\ l.getD k' 0 = n' /\ (ordB l n' k').length = j:=by
 induction n generalizing k j with
 | zero=>omega
 | succ n ih =>
  induction k generalizing j with
  | zero =>
   by_cases h:n = 0
   ·subst h;rw [Zkg] at hj;simp at hj
   ·rw [Zhf l n h] at hj
    exact ih l.length (by omega) h (Nat.le_refl _) j hj
  | succ k ihk =>
   by_cases h:l.getD k 0 = n + 1
   ·rw [Zfh l _ k h,List.length_append] at hj
    simp only [List.length_cons,List.length_nil] at hj
    by_cases e:j < (ordB l (n + 1) k).length
    ·exact ihk (by omega) j e
    ·exact ⟨n + 1,k,by omega,hn,by omega,h,by omega⟩
   ·rw [Zfi l _ k h] at hj
    exact ihk (by omega) j hj
theorem Zsx (l:List Nat) (j:Nat) (hj:j < (ord l).length) :
  ∃ n k,n ≠ 0 /\ n <= 20 /\ k < l.length /\ l.getD k 0 = n /\ (ordB l n k).length = j /\ (ord l)[j]? = some (k,n):=by
 obtain ⟨n,k,h1,h2,h3,h4,h5⟩:=Zwc l 20 l.length (by omega) (by omega) (Nat.le_refl _) j hj
 exact ⟨n,k,h1,h2,h3,h4,h5,by rw [<- h5];exact Zsw l n k h2 h1 h3 h4⟩
def accI (l:List Nat) (j:Nat):Nat:=(((ord l).take j).map fun p=>2 ^ (20 - p.2)).sum
def outsI (l:List Nat) (j:Nat):List Nat:=((ord l).take j).foldl (fun o p=>o.set p.1 (word l p.1)) (List.replicate l.length 0)
theorem Zku (l:List Nat) (j k n:Nat) (h:(ord l)[j]? = some (k,n)):accI l (j + 1) = accI l j + 2 ^ (20 - n):=by
 unfold accI
 rw [List.take_add_one,h]
 simp
theorem Zjk (l:List Nat) (j k n:Nat) (h:(ord l)[j]? = some (k,n)):outsI l (j + 1) = (outsI l j).set k (word l k):=by
 unfold outsI
 rw [List.take_add_one,h]
 simp
theorem Zqt (l:List Nat) (n k:Nat) (hn:n <= 20) (h0:n ≠ 0) (hk:k <= l.length) :
  acc l n k = accI l (ordB l n k).length /\ outs l n k = outsI l (ordB l n k).length:=by
 induction n generalizing k with
 | zero=>omega
 | succ n ih =>
  induction k with
  | zero =>
   by_cases h:n = 0
   ·subst h
    rw [Zkg,Zxq,Zwf]
    simp [accI,outsI]
   ·rw [Zhf l n h,<- Zxr,<- Zoq]
    exact ih l.length (by omega) h (Nat.le_refl _)
  | succ k ihk =>
   obtain ⟨ih1,ih2⟩:=ihk (by omega)
   have hg:l.getD k 0 = l[k]:=by simp [show k < l.length by omega]
   by_cases h:l.getD k 0 = n + 1
   ·have ha:=Zsw l (n + 1) k hn h0 (by omega) h
    rw [Zfh l _ k h,List.length_append]
    simp only [List.length_cons,List.length_nil]
    rw [Zku l _ k _ ha,Zjk l _ k _ ha,<- ih1,<- ih2,Zmu l (n + 1) k (by omega) (by omega) (by omega),Zwe l (n + 1) k (by omega) (by omega) (by omega)]
    refine ⟨rfl,?_⟩
    rw [word,if_neg (by omega),h]
   ·rw [Zfi l _ k h,Zur l (n + 1) k (by omega) (by omega),Zsz l (n + 1) k (by omega) (by omega)]
    exact ⟨ih1,ih2⟩
theorem Zsy (l:List Nat) (h:∀ x ∈ l,x <= 20):outsI l (ord l).length = words l:=by
 rw [<- Zwd l h,<- Zoq]
 exact (Zqt l 20 l.length (by omega) (by omega) (Nat.le_refl _)).2.symm
theorem Zgx (t:List (Nat × Nat)) (f:Nat × Nat -> Nat) (o:List Nat):(t.foldl (fun o p=>o.set p.1 (f p)) o).length = o.length:=by
 induction t generalizing o with
 | nil=>rfl
 | cons a t ih=>simp [ih]
theorem Zlt (l:List Nat) (j:Nat):(outsI l j).length = l.length:=by
 unfold outsI;rw [Zgx _ (fun p=>word l p.1)];simp
theorem Zxo (l:List Nat) (j:Nat) (h:j < (ord l).length):accI l j <= weight l:=by
 obtain ⟨n,k,h1,h2,h3,h4,h5,h6⟩:=Zsx l j h
 rw [<- h5,<- (Zqt l n k h2 h1 (by omega)).1]
 exact Zxe _ _ _
def bitsI (l:List Nat) (j:Nat):Nat:=if j = 0 then 0 else ((ord l).getD (j - 1) (0,0)).2
theorem Zqs (l:List Nat) (j nx:Nat) (hj:j < (ord l).length) (hw:weight l <= 2 ^ 20) (hx:nx * 2 ^ (20 - bitsI l j) = accI l j) :
  ∃ k n,(ord l)[j]? = some (k,n) /\ k < l.length /\ n ≠ 0 /\ n <= 20 /\ bitsI l j <= n /\ bitsI l (j + 1) = n /\ word l k = nx * 2 ^ (n - bitsI l j) /\ nx * 2 ^ (n - bitsI l j) <= 2 ^ 20 ∧
   (nx * 2 ^ (n - bitsI l j) + 1) * 2 ^ (20 - n) = accI l (j + 1):=by
 obtain ⟨n,k,h1,h2,h3,h4,h5,h6⟩:=Zsx l j hj
 have hb:bitsI l j <= n:=by
  unfold bitsI
  split
  ·omega
  ·rename_i h
   have hp:=Zop l n k h2 h1 (by omega)
   have hl:j - 1 < (ordB l n k).length:=by omega
   obtain ⟨t,ht⟩:=hp
   have:(ord l).getD (j - 1) (0,0) = (ordB l n k)[j - 1]:=by
    rw [<- ht];simp [List.getD,List.getElem?_append_left hl,List.getElem?_eq_getElem hl]
   rw [this]
   exact Zwb l n k h1 _ (List.getElem_mem hl)
 have hbn:bitsI l (j + 1) = n:=by simp [bitsI,List.getD,h6]
 have he:20 - bitsI l j = (n - bitsI l j) + (20 - n):=by omega
 have hpow:2 ^ (20 - bitsI l j) = 2 ^ (n - bitsI l j) * 2 ^ (20 - n):=by rw [he,Nat.pow_add]
 have hacc:accI l j = nx * 2 ^ (n - bitsI l j) * 2 ^ (20 - n):=by rw [<- hx,hpow,Nat.mul_assoc]
 have hpos:0 < 2 ^ (20 - n):=Nat.pow_pos (by decide)
 have hal:=Zxo l j hj
 rw [hacc] at hal
 have hm:=Nat.le_mul_of_pos_right (nx * 2 ^ (n - bitsI l j)) hpos
 clear he hpow
 refine ⟨k,n,h6,h3,h1,h2,hb,hbn,?_,?_,?_⟩
 ·rw [word,if_neg (by omega),h4,(Zqt l n k h2 h1 (by omega)).1,h5,hacc,Nat.mul_div_cancel _ hpos]
 ·exact Nat.le_trans hm (Nat.le_trans hal hw)
 ·rw [Zku l j k n h6,hacc,Nat.add_mul,Nat.one_mul]
end Go.Proofs.Ytnkpnjnfddjfpaa.M04

namespace Go.Proofs.Ytnkpnjnfddjfpaa
open Go.RowKit M04
set_option maxHeartbeats 400000 in
theorem Zcm (a:Option Addr) (cap:Nat) (l:List Nat) (w:World) (hr:RowN .u8 w a cap l) (hm:May l) :
  Calls Try.prog 140 #[.slice a l.length cap] w fun e w'=>e = .returned (.int .i64 (weight l)) /\ w = w':=by
 have hlen:=hr.len
 obtain ⟨hl,hn⟩:=hm
 go_enter Try.func140,Try.ntmps140
 go_wp2
 go_loop [3,8] (fun t i=>∃ k:Nat,k <= l.length /\ i = .int .i64 k /\ t = .int .i64 (weight (l.take k))) (fun _ i=>l.length - (intOf i).toNat)
 case atStart=>exact ⟨0,Nat.zero_le _,rfl,rfl⟩
 case round =>
  obtain ⟨k,hk,rfl,rfl⟩:=hrel
  by_cases hlt:k < l.length
  ·obtain ⟨b,off,rfl,hb,hck⟩:=hr.at hlt
   clear hr
   have hx:=hl _ (List.getElem_mem hlt)
   have H:=Zh (Znu l k hlt)
   have hw:weight (l.take k) <= 512 * 2 ^ 20:=Zeo l k hn
   clear hl
   generalize l[k] = x at *
   generalize weight (l.take k) = s at *
   go_wp2
   ·go_round
    case rel =>
     refine ⟨k + 1,by omega,by go_num,Zcw ?_⟩
     have h0:x ≠ 0:=by omega
     have h2:(2:Int) ^ (20 - x) = ((2 ^ (20 - x):Nat):Int):=by simp
     have h3:2 ^ (20 - x) <= 2 ^ 20:=Nat.pow_le_pow_right (by simp) (by omega)
     rw [H.out,h2,wt,if_neg h0]
     generalize 2 ^ (20 - x) = p at *
     rw [IntWalk.wrap64_in p (by omega),IntWalk.wrap64_in _ (by omega)];simp
    case measure=>simp [intOf];omega
   ·go_round
    case rel =>
     refine ⟨k + 1,by omega,by go_num,Zcw ?_⟩
     have h0:x = 0:=by omega
     rw [H.out,wt,if_pos h0];simp
    case measure=>simp [intOf];omega
  ·go_wp2
   go_ret
   exact ⟨Zkl (by rw [List.take_of_length_le (by omega)]),rfl⟩
set_option maxHeartbeats 400000 in
theorem Zqk (a:Option Addr) (cap:Nat) (l:List Nat) (w:World) (hr:RowN .u8 w a cap l) (h0:0 < l.length) :
  Calls Try.prog 166 #[.slice a l.length cap] w fun e w'=>e = .returned (.int .u8 (top l)) /\ w = w':=by
 have hlen:=hr.len
 obtain ⟨b,off,rfl,hb,hc0⟩:=hr.at h0
 simp only [Nat.add_zero] at hc0
 have H0:Hid (top (l.take 1) = l[0]):=by have:=Zpa l 0 h0;simpa [Hid,top] using this
 go_enter Try.func166,Try.ntmps166
 go_wp2
 go_loop [3,4] (fun t i=>∃ k:Nat,1 <= k /\ k <= l.length /\ i = .int .i64 k /\ t = .int .u8 (top (l.take k))) (fun _ i=>l.length - (intOf i).toNat)
 case atStart=>exact ⟨1,by omega,by omega,rfl,by rw [H0.out]⟩
 case round =>
  obtain ⟨k,hk1,hk,rfl,rfl⟩:=hrel
  by_cases hlt:k < l.length
  ·obtain ⟨b',off',he,hb',hck⟩:=hr.at hlt
   simp only [Option.some.injEq,Addr.mk.injEq,and_true] at he
   obtain ⟨rfl,rfl⟩:=he
   clear hr hc0 H0
   have H:=Zh (Zpa l k hlt)
   generalize l[k] = x at *
   generalize top (l.take k) = s at *
   go_wp2
   go_round
   case rel=>exact ⟨k + 1,by omega,by omega,by go_num,Zcw (by rw [H.out];split <;> omega)⟩
   case measure=>simp [intOf];omega
  ·go_wp2
   go_ret
   exact ⟨Zkl (by rw [List.take_of_length_le (by omega)]),rfl⟩
set_option maxHeartbeats 400000 in
theorem Zdl (a:Option Addr) (cap:Nat) (l:List Nat) (w:World) (hr:RowN .u8 w a cap l) :
  Calls Try.prog 139 #[.slice a l.length cap] w fun e w'=>e = .returned (.bool (mayB l)) /\ w = w':=by
 have hlen:=hr.len
 by_cases h5:l.length <= 512
 ·by_cases h0:l = []
  ·subst h0
   go_enter Try.func139,Try.ntmps139
   go_wp2
   go_ret
   exact ⟨rfl,rfl⟩
  ·have hp:0 < l.length:=List.length_pos_iff.2 h0
   have hb:((l.length:Int) == 0) = false:=by simp;omega
   have H:Hid (mayB l = decide ((top l:Int) <= 20)):=by
    have:=Zaac l 20
    show decide (May l) = _
    rw [decide_eq_decide,May]
    constructor
    ·intro h;have:=this.2 h.1;omega
    ·intro h;exact ⟨this.1 (by omega),h5⟩
   clear h0
   go_enter Try.func139,Try.ntmps139
   go_wp2_with (go_at_call 166;refine (Zqk _ _ _ _ hr hp).mono ?_;rintro e w' ⟨rfl,rfl⟩)
   go_ret
   exact ⟨Zow H.out.symm,rfl⟩
 ·have H:Hid (mayB l = false):=by unfold Hid mayB May;simp [h5]
  go_enter Try.func139,Try.ntmps139
  go_wp2
  go_ret
  exact ⟨Zow H.out.symm,rfl⟩
set_option maxHeartbeats 400000 in
theorem Zcr (a:Option Addr) (cap:Nat) (l:List Nat) (w:World) (hr:RowN .u8 w a cap l) :
  Calls Try.prog 89 #[.slice a l.length cap] w fun e w'=>e = .returned (.tuple #[.int .u8 (clsE l).1,.int .i64 (clsE l).2]) /\ w = w':=by
 have hlen:=hr.len
 by_cases hm:May l
 ·have hB:mayB l = true:=by simp [mayB,hm]
  have H:Hid (clsE l = (cls l,0)):=by simp [Hid,clsE,hm]
  have H2:Hid (cls l = if weight l = 0 then 0 else if weight l < 2 ^ 20 then 1 else if weight l = 2 ^ 20 then 2 else 3):=rfl
  have hw:weight l <= 512 * 2 ^ 20:=by have:=Zeo l l.length hm.2;simpa using this
  have HM:=Zh hm
  clear hm
  rcases (by omega:weight l = 0 \/ (weight l ≠ 0 /\ weight l < 2 ^ 20) \/ weight l = 2 ^ 20 \/ 2 ^ 20 < weight l) with c | ⟨c,d⟩ | c | c
  ·have b0:((weight l:Int) == 0) = true:=by simp [c]
   have H3:Hid (cls l = 0):=by rw [Hid,H2.out,if_pos c]
   clear c
   go_enter Try.func89,Try.ntmps89
   go_wp2_with (first | (go_at_call 139;refine (Zdl _ _ _ _ hr).mono ?_;rintro e w' ⟨rfl,rfl⟩) | (go_at_call 140;refine (Zcm _ _ _ _ hr HM.out).mono ?_;rintro e w' ⟨rfl,rfl⟩))
   go_ret2
   exact ⟨by rw [H.out,H3.out];rfl,rfl⟩
  ·have b0:((weight l:Int) == 0) = false:=by simp [c]
   have b1:decide ((weight l:Int) < 1048576) = true:=by simp;omega
   have H3:Hid (cls l = 1):=by rw [Hid,H2.out,if_neg c,if_pos d]
   clear c
   go_enter Try.func89,Try.ntmps89
   go_wp2_with (first | (go_at_call 139;refine (Zdl _ _ _ _ hr).mono ?_;rintro e w' ⟨rfl,rfl⟩) | (go_at_call 140;refine (Zcm _ _ _ _ hr HM.out).mono ?_;rintro e w' ⟨rfl,rfl⟩))
   go_ret2
   exact ⟨by rw [H.out,H3.out];rfl,rfl⟩
  ·have b0:((weight l:Int) == 0) = false:=by simp [c]
   have H3:Hid (cls l = 2):=by rw [Hid,H2.out,if_neg (by omega),if_neg (by omega),if_pos c]
   have b1:decide ((weight l:Int) < 1048576) = false:=by simp;omega
   have b2:((weight l:Int) == 1048576) = true:=by simp [c]
   clear c
   go_enter Try.func89,Try.ntmps89
   go_wp2_with (first | (go_at_call 139;refine (Zdl _ _ _ _ hr).mono ?_;rintro e w' ⟨rfl,rfl⟩) | (go_at_call 140;refine (Zcm _ _ _ _ hr HM.out).mono ?_;rintro e w' ⟨rfl,rfl⟩))
   go_ret2
   exact ⟨by rw [H.out,H3.out];rfl,rfl⟩
  ·have b0:((weight l:Int) == 0) = false:=by simp;omega
   have H3:Hid (cls l = 3):=by rw [Hid,H2.out,if_neg (by omega),if_neg (by omega),if_neg (by omega)]
   have b1:decide ((weight l:Int) < 1048576) = false:=by simp;omega
   have b2:((weight l:Int) == 1048576) = false:=by simp;omega
   clear c
   go_enter Try.func89,Try.ntmps89
   go_wp2_with (first | (go_at_call 139;refine (Zdl _ _ _ _ hr).mono ?_;rintro e w' ⟨rfl,rfl⟩) | (go_at_call 140;refine (Zcm _ _ _ _ hr HM.out).mono ?_;rintro e w' ⟨rfl,rfl⟩))
   go_ret2
   exact ⟨by rw [H.out,H3.out];rfl,rfl⟩
 ·have hB:mayB l = false:=by simp [mayB,hm]
  have H:Hid (clsE l = (0,5)):=by simp [Hid,clsE,hm]
  clear hm
  go_enter Try.func89,Try.ntmps89
  go_wp2_with (go_at_call 139;refine (Zdl _ _ _ _ hr).mono ?_;rintro e w' ⟨rfl,rfl⟩)
  go_ret2
  exact ⟨by rw [H.out];rfl,rfl⟩
end Go.Proofs.Ytnkpnjnfddjfpaa

namespace Go.Proofs.Ytnkpnjnfddjfpaa
open Go.RowKit M04
theorem Zzv:ElemTy Try.prog 165 54 .u32 4:=⟨Try.underlying165,by kernel_rfl⟩
theorem Zbl:ElemTy Try.prog 22 5 .u8 1:=⟨Try.underlying22,by kernel_rfl⟩
def WordsOut (w:World) (l:List Nat) (e:Ending) (w':World):Prop :=
 ∃ a cap,e = .returned (.tuple #[.slice a (wordsE l).1.length cap,.int .i64 (wordsE l).2]) /\ OwnN 54 .u32 w' w.heap.size a cap (wordsE l).1 /\ Below w.heap.size w w'
end Go.Proofs.Ytnkpnjnfddjfpaa

namespace Go.Proofs.Ytnkpnjnfddjfpaa
open Go.RowKit Go.Shelf M04
attribute [local go_sem] Oper.semAt_some
theorem RowN.same {k:IntKind} {w W:World} {a:Option Addr} {cap:Nat} {l:List Nat} (h:RowN k w a cap l) (hs:w.heap.size <= W.heap.size) (hb:∀ x,0 < l.length -> a = some x -> W.heap[x.block]? = w.heap[x.block]?):RowN k W a cap l:=by
 obtain ⟨h1,h2,h3⟩:=h
 refine ⟨h1,h2,?_⟩
 rcases h3 with h3 | ⟨b,off,rfl,hb',hc⟩
 ·exact .inl h3
 ·exact .inr ⟨b,off,rfl,by omega,fun i hi=>(World.cell?_of_block (a:=⟨b,off + i,none⟩) (hb ⟨b,off,none⟩ (by omega) rfl)).trans (hc i hi)⟩
def orderS (a:Option Addr) (B:Nat) (l:List Nat) (b:Nat):Prop:=b = B \/ (0 < l.length /\ ∃ x,a = some x /\ b = x.block)
def orderRow (l:List Nat) (i:Nat):Array Value:=#[.int .i64 (((ord l).getD i (0,0)).1:Nat),.int .u8 (((ord l).getD i (0,0)).2:Nat)]
theorem Znb (a:Option Addr) (cap:Nat) (l:List Nat) (w:World) :
  Calls Try.prog 164 #[.slice a l.length cap] w fun e w'=>e = .returned (.func (.func 180) #[] #[.pointer (some ⟨w.heap.size,0,none⟩)]) /\ w' = w.alloc (.cells #[.slice a l.length cap] 22):=by
 have hmf:∀ (fn:Fn) (first cap:Array Value) (w:World),(Instr.makeFunc fn first cap).run Try.prog w = .ok (.func fn first cap) w:=fun _ _ _ _=>rfl
 go_enter Try.func164,Try.ntmps164
 go_wp2
 go_ret
 exact ⟨rfl,rfl⟩
theorem Zej {n m:Nat} {P:Program} {l:Nat} {f:FuncId} {tmps:Array Value} {assign body:Code} {w:World} {R:Ending -> World -> Prop} (h:RoundIn Fence.wide n P l f tmps assign body w R):RoundIn Fence.wide m P l f tmps assign body w R:=⟨h.1,fun c cs _=>h.2 c cs (room_wide _)⟩
theorem Znh (l:List Nat) (i k n:Nat) (h:(ord l)[i]? = some (k,n)):i < (ord l).length /\ orderRow l i = #[.int .i64 (k:Nat),.int .u8 (n:Nat)]:=by
 refine ⟨(List.getElem?_eq_some_iff.1 h).1,?_⟩
 simp [orderRow,List.getD,h]
set_option maxHeartbeats 800000 in
theorem Zls (a:Option Addr) (cap:Nat) (l:List Nat) (w:World) (B:Nat) (hr:RowN .u8 w a cap l) (hB:w.heap[B]? = some (.cells #[.slice a l.length cap] 22 (0,0))) :
  Yields Try.prog 180 #[.pointer (some ⟨B,0,none⟩)] (ord l).length (orderRow l) (orderS a B l) (fun _=>False) w:=by
 intro y J Jx W hsame hJ hJx hY h0
 have hlen:=hr.len
 have HY:=Zh hY
 clear hJ hJx hY
 refine callsIn_of_wp Try.func180 rfl trivial ?_ rfl
 simp only [Try.ntmps180,List.size_toArray,List.length_cons,List.length_nil,Nat.reduceAdd,Nat.reduceSub,Array.replicate_succ,Array.replicate_zero,List.push_toArray,List.append_toArray,List.nil_append,List.cons_append]
 gi_wp2
 gi_loopw [3] (fun n A=>∃ k:Nat,1 <= k /\ k <= 21 /\ n = .int .u8 k /\ SameOn (orderS a B l) w A /\ J (if k = 21 then (ord l).length else (ordB l k 0).length) A) (fun n _=>21 - (intOf n).toNat)
 case atStart=>exact ⟨1,by omega,by omega,rfl,hsame,by simpa [Zkg] using h0⟩
 case round =>
  obtain ⟨n,h1,h21,rfl,hsameA,hJA⟩:=hrel
  by_cases hn:n <= 20
  ·rw [if_neg (by omega)] at hJA
   have hbn:decide ((n:Int) <= 20) = true:=by simp;omega
   have hbox:wr.cell? ⟨B,0,none⟩ = some (.slice a l.length cap):=cell_of_one ((hsameA.same B (.inl rfl)).trans hB)
   gi_wp2
   gi_loopw [12] (fun i A=>∃ k:Nat,k <= l.length /\ i = .int .i64 k /\ SameOn (orderS a B l) w A /\ J (ordB l n k).length A) (fun i _=>l.length - (intOf i).toNat)
   case atStart=>exact ⟨0,by omega,rfl,hsameA,hJA⟩
   case round =>
    clear hJA hsameA hbox
    obtain ⟨k,hk,rfl,hsameA,hJA⟩:=hrel
    by_cases hlt:k < l.length
    ·have hrA:=hr.same hsameA.size (fun x h0 hx=>hsameA.same _ (.inr ⟨h0,x,hx,rfl⟩))
     obtain ⟨b,off,rfl,hb,hck⟩:=hrA.at hlt
     have hg:l.getD k 0 = l[k]:=by simp [hlt]
     by_cases hx:l[k] = n
     ·obtain ⟨hi,hrow⟩:=Znh l _ k n (Zsw l n k hn (by omega) hlt (by omega))
      have hyy:=HY.out _ _ hi hJA
      rw [hrow] at hyy
      obtain ⟨fn,tmps,assign,body,hy,hR⟩:=hyy
      have H:=Zh (Zfh l n k (by omega))
      have hbx:((l[k]:Int) == (n:Int)) = true:=by simp;omega
      clear hx hg hrow
      have HJ:=Zh hJA
      have HR:=Zh hR
      have HI:=Zh hi
      clear hJA hR hi
      generalize l[k] = x at *
      gi_wp2
      refine (Zej HR.out).mono ?_
      rintro e W' (⟨rfl,hJ',hk'⟩ | ⟨rfl,hJx'⟩)
      ·gi_wp2
       go_roundw
       case rel=>exact ⟨k + 1,by omega,by go_num,hsameA.trans hk',by rw [H.out];simpa using hJ'⟩
       case measure=>simp [intOf];omega
      ·gi_wp2
       refine bodyPost_ret (results_none rfl _ _ _) rfl ?_
       exact ⟨⟨_,rfl⟩,.inr ⟨_,HI.out,hJx'⟩⟩
     ·have H:=Zh (Zfi l n k (by omega))
      have hbx:((l[k]:Int) == (n:Int)) = false:=by simp;omega
      have HJ:=Zh hJA
      clear hx hg hJA
      generalize l[k] = x at *
      gi_wp2
      refine ⟨fun _ h=>(by cases h),?_⟩
      gi_wp2
      go_roundw
      case rel=>exact ⟨k + 1,by omega,by go_num,hsameA,by rw [H.out];exact HJ.out⟩
      case measure=>simp [intOf];omega
    ·obtain rfl:k = l.length:=by omega
     have HJ:=Zh hJA
     have H:Hid (ordB l n l.length = if n + 1 = 21 then ord l else ordB l (n + 1) 0):=by
      unfold Hid;split
      ·obtain rfl:n = 20:=by omega
       rfl
      ·exact (Zhf l n (by omega)).symm
     clear hJA
     gi_wp2
     go_roundw
     case rel =>
      refine ⟨n + 1,by omega,by omega,by go_num,hsameA,?_⟩
      have h3:=HJ.out
      rw [H.out] at h3
      split <;> simp_all
     case measure=>simp [intOf];omega
  ·obtain rfl:n = 21:=by omega
   rw [if_pos rfl] at hJA
   have HJ:=Zh hJA
   clear hJA
   gi_wp2
   go_end0
   exact ⟨⟨_,rfl⟩,.inl HJ.out⟩
theorem four (w:World) (o1 o2 o3 o4:Obj):((((w.alloc o1).alloc o2).alloc o3).alloc o4).heap.size = w.heap.size + 4 /\ ((((w.alloc o1).alloc o2).alloc o3).alloc o4).heap[w.heap.size]? = some o1 /\ ((((w.alloc o1).alloc o2).alloc o3).alloc o4).heap[w.heap.size + 1]? = some o2 ∧
  ((((w.alloc o1).alloc o2).alloc o3).alloc o4).heap[w.heap.size + 2]? = some o3 /\ ((((w.alloc o1).alloc o2).alloc o3).alloc o4).heap[w.heap.size + 3]? = some o4 /\ Below w.heap.size w ((((w.alloc o1).alloc o2).alloc o3).alloc o4):=by
 have h1:=World.alloc_heap_new w o1
 have h2:=World.alloc_heap_new (w.alloc o1) o2
 have h3:=World.alloc_heap_new ((w.alloc o1).alloc o2) o3
 have h4:=World.alloc_heap_new (((w.alloc o1).alloc o2).alloc o3) o4
 simp only [World.size_alloc] at h2 h3 h4
 refine ⟨by simp,?_,?_,?_,h4,(((((Below.refl _ w).alloc (Nat.le_refl _) _).alloc (by simp) _).alloc (by simp;omega) _).alloc (by simp;omega) _)⟩
 ·rw [Below.heap_alloc _ _ _ (by simp only [World.size_alloc];omega),Below.heap_alloc _ _ _ (by simp only [World.size_alloc];omega),Below.heap_alloc _ _ _ (by simp)];exact h1
 ·rw [Below.heap_alloc _ _ _ (by simp only [World.size_alloc];omega),Below.heap_alloc _ _ _ (by simp)];exact h2
 ·rw [Below.heap_alloc _ _ _ (by simp)];exact h3
theorem Znv (l:List Nat) (w:World) (B1:Nat) (a:Option Addr) (N k n m:Nat) (o:List Nat) (A:World) {v1 v2 v3:Value}
  (h1:A.heap[B1 + 1]? = some (.cells #[v1] 54)) (h3:A.heap[B1 + 2]? = some (.cells #[v2] 5)) (h4:A.heap[B1]? = some (.cells #[v3] 165))
  (h5:OwnN 54 .u32 A w.heap.size (some ⟨w.heap.size,0,none⟩) l.length o) (h6:Below w.heap.size w A) (hbl:∀ x,0 < l.length -> a = some x -> x.block < w.heap.size) (hlt:w.heap.size < B1) (hA:B1 + 4 <= A.heap.size) :
  let B:=(((A.setCell ⟨B1 + 1,0,none⟩ (.int .u32 m)).setCell ⟨w.heap.size,k,none⟩ (.int .u32 m)).setCell ⟨B1 + 1,0,none⟩ (.int .u32 ((m + 1:Nat):Int))).setCell ⟨B1 + 1 + 1,0,none⟩ (.int .u8 n)
  KeepsFrom N A B /\ SameOn (orderS a (B1 + 3) l) A B /\ B.heap[B1 + 1]? = some (.cells #[.int .u32 ((m + 1:Nat):Int)] 54) /\ B.heap[B1 + 2]? = some (.cells #[.int .u8 n] 5) /\ B.heap[B1]? = some (.cells #[v3] 165) ∧
   OwnN 54 .u32 B w.heap.size (some ⟨w.heap.size,0,none⟩) l.length (o.set k m) /\ Below w.heap.size w B:=by
 intro B
 have s1:=one_setCell (u:=.int .u32 m) h1
 have s2:=(Below.heap_setCell (A.setCell ⟨B1 + 1,0,none⟩ (.int .u32 m)) ⟨w.heap.size,k,none⟩ (.int .u32 m) (B1 + 1) (by show B1 + 1 ≠ w.heap.size;omega)).trans s1
 have s3:=one_setCell (u:=.int .u32 ((m + 1:Nat):Int)) s2
 have t1:=(Below.heap_setCell A ⟨B1 + 1,0,none⟩ (.int .u32 m) (B1 + 2) (by show B1 + 2 ≠ B1 + 1;omega)).trans h3
 have t2:=(Below.heap_setCell (A.setCell ⟨B1 + 1,0,none⟩ (.int .u32 m)) ⟨w.heap.size,k,none⟩ (.int .u32 m) (B1 + 2) (by show B1 + 2 ≠ w.heap.size;omega)).trans t1
 have t3:=(Below.heap_setCell ((A.setCell ⟨B1 + 1,0,none⟩ (.int .u32 m)).setCell ⟨w.heap.size,k,none⟩ (.int .u32 m)) ⟨B1 + 1,0,none⟩ (.int .u32 ((m + 1:Nat):Int)) (B1 + 2) (by show B1 + 2 ≠ B1 + 1;omega)).trans t2
 have u1:=(Below.heap_setCell A ⟨B1 + 1,0,none⟩ (.int .u32 m) B1 (by show B1 ≠ B1 + 1;omega)).trans h4
 have u2:=(Below.heap_setCell (A.setCell ⟨B1 + 1,0,none⟩ (.int .u32 m)) ⟨w.heap.size,k,none⟩ (.int .u32 m) B1 (by show B1 ≠ w.heap.size;omega)).trans u1
 have u3:=(Below.heap_setCell ((A.setCell ⟨B1 + 1,0,none⟩ (.int .u32 m)).setCell ⟨w.heap.size,k,none⟩ (.int .u32 m)) ⟨B1 + 1,0,none⟩ (.int .u32 ((m + 1:Nat):Int)) B1 (by show B1 ≠ B1 + 1;omega)).trans u2
 have ne:∀ p:Addr,p.block ≠ w.heap.size -> ∀ g,some (⟨w.heap.size,0,none⟩:Addr) = some ⟨g,0,none⟩ -> p.block ≠ g:=fun p hp g hg=>by
  simp only [Option.some.injEq,Addr.mk.injEq,and_true] at hg;rw [<- hg];exact hp
 refine ⟨((((KeepsOthers.setCell _ _ _).trans (KeepsOthers.setCell _ _ _)).trans (KeepsOthers.setCell _ _ _)).trans (KeepsOthers.setCell _ _ _)).from _,?_,?_,one_setCell t3,?_,?_,?_⟩
 ·refine (((((Only.refl (fun b=>b = w.heap.size \/ b = B1 + 1 \/ b = B1 + 2) A).setCell (.inl (.inr (.inl rfl))) _).setCell (.inl (.inl rfl)) _).setCell (.inl (.inr (.inl rfl))) _).setCell (.inl (.inr (.inr rfl))) _).sameOn ?_
  rintro b (rfl | ⟨h0,x,hx,rfl⟩)
  ·exact ⟨by omega,by omega⟩
  ·have:=hbl x h0 hx
   exact ⟨by omega,by omega⟩
 ·exact (Below.heap_setCell _ _ _ _ (by show B1 + 1 ≠ B1 + 1 + 1;omega)).trans s3
 ·exact (Below.heap_setCell _ _ _ _ (by show B1 ≠ B1 + 1 + 1;omega)).trans u3
 ·exact OwnN.other (OwnN.other (OwnN.stored (OwnN.other h5 (ne _ (by show B1 + 1 ≠ _;omega)) _) k m).1 (ne _ (by show B1 + 1 ≠ _;omega)) _) (ne _ (by show B1 + 1 + 1 ≠ _;omega)) _
 ·exact (((h6.setCell (by show w.heap.size <= B1 + 1;omega) _).setCell (Nat.le_refl _) _).setCell (by show w.heap.size <= B1 + 1;omega) _).setCell (by show w.heap.size <= B1 + 1 + 1;omega) _
theorem Zoc (l:List Nat):cls l = 3 ↔ 2 ^ 20 < weight l:=by
 unfold cls
 split
 ·omega
 ·split
  ·omega
  ·split <;> omega
set_option maxHeartbeats 800000 in
theorem Zhv (a:Option Addr) (cap:Nat) (l:List Nat) (w:World) (hr:RowN .u8 w a cap l) :
  Calls Try.prog 135 #[.slice a l.length cap] w (WordsOut w l):=by
 have hlen:=hr.len
 by_cases hm:May l
 case neg =>
  have H:Hid (wordsE l = ([],5)):=by simp [Hid,wordsE,hm]
  have HC:clsE l = (0,5):=by simp [clsE,hm]
  clear hm
  go_enter Try.func135,Try.ntmps135
  go_wp2_with (go_at_call 89;refine (Zcr _ _ _ _ hr).mono ?_;rintro e w' ⟨rfl,rfl⟩;rw [HC])
  go_ret2
  unfold WordsOut
  rw [H.out]
  exact ⟨none,0,rfl,OwnN.nil _ _ _ _,Below.refl _ _⟩
 have HC:clsE l = (cls l,0):=by simp [clsE,hm]
 by_cases ho:2 ^ 20 < weight l
 ·have H:Hid (wordsE l = ([],2)):=by simp only [Hid,wordsE,hm,ho,not_true,if_false,if_true]
  have H3:=(Zoc l).2 ho
  rw [H3] at HC
  clear hm ho H3
  go_enter Try.func135,Try.ntmps135
  go_wp2_with (go_at_call 89;refine (Zcr _ _ _ _ hr).mono ?_;rintro e w' ⟨rfl,rfl⟩;rw [HC])
  go_ret2
  unfold WordsOut
  rw [H.out]
  exact ⟨none,0,rfl,OwnN.nil _ _ _ _,Below.refl _ _⟩
 have H:Hid (wordsE l = (words l,0)):=by simp only [Hid,wordsE,hm,ho,not_true,if_false]
 have h3:((cls l:Int) == 3) = false:=by have:=Zoc l;simp;omega
 have h512:l.length <= 512:=hm.2
 have HM:=Zh hm
 have HO:weight l <= 2 ^ 20:=by omega
 have HCC:=Zh HC
 clear hm ho HC
 refine (callsIn_wide (n:=9)).1 ?_
 refine callsIn_of_wp_marks Try.func135 rfl trivial ?_ rfl
 simp only [Try.ntmps135,List.size_toArray,List.length_cons,List.length_nil,Nat.reduceAdd,Nat.reduceSub,Array.replicate_succ,Array.replicate_zero,List.push_toArray,List.append_toArray,List.nil_append,List.cons_append]
 gi_wp2_with (first | (refine ⟨trivial,?_⟩;gi_at_call 89;refine (callsIn_wide.2 (Zcr _ _ _ _ hr)).mono ?_;rintro e w' ⟨rfl,rfl⟩;rw [HCC.out]) | (gi_at_make;refine makeNIn Zzv rfl _ _ rfl w.heap.size rfl rfl (by omega) (by omega) (Nat.le_refl _) ?_;intro w1 hown hg) | (refine ⟨trivial,?_⟩;gi_at_call 164;refine (callsIn_wide.2 (Znb _ _ _ _)).mono ?_;rintro e w' ⟨rfl,rfl⟩))
 obtain ⟨hz,hb0,hb1,hb2,hb3,hbel⟩:=four w1 (.cells #[.slice (some ⟨w.heap.size,0,none⟩) l.length l.length] 165) (.cells #[.int .u32 0] 54) (.cells #[.int .u8 0] 5) (.cells #[.slice a l.length cap] 22)
 have h01:w.heap.size < w1.heap.size:=by
  obtain ⟨g,he,_,hlt⟩:=(hown.form).resolve_left (by simp)
  simp only [Option.some.injEq,Addr.mk.injEq,and_true] at he
  omega
 have hB1:Below w.heap.size w w1:=Below.of_grown hg (Nat.le_refl _) (fun k e=>by cases e)
 have hB4:=hB1.trans (hbel.mono hB1.size)
 have hown4:=hown.below hbel
 clear hbel hown hg
 generalize (((w1.alloc (Obj.cells #[Value.slice (some ⟨w.heap.size,0,none⟩) l.length l.length] 165)).alloc (Obj.cells #[Value.int .u32 0] 54)).alloc (Obj.cells #[Value.int .u8 0] 5)).alloc (Obj.cells #[Value.slice a l.length cap] 22) = W0 at *
 have hr4:RowN .u8 W0 a cap l:=hr.below hB4
 refine Zlw (g:=.tmp 27) (gf:=180) (lb:=#[.pointer (some ⟨w1.heap.size + 3,0,none⟩)]) rfl (enters_of Try.func180 (by kernel_rfl) rfl)
  (Zls a cap l W0 (w1.heap.size + 3) hr4 hb3) (SameOn.refl _ _) ?hS (fun _ h=>h.elim) (fun _=>rfl)
  (fun i A=>(∃ nx:Nat,A.heap[w1.heap.size + 1]? = some (.cells #[.int .u32 nx] 54) /\ nx * 2 ^ (20 - bitsI l i) = accI l i) /\ A.heap[w1.heap.size + 2]? = some (.cells #[.int .u8 (bitsI l i:Nat)] 5) ∧
   A.heap[w1.heap.size]? = some (.cells #[.slice (some ⟨w.heap.size,0,none⟩) l.length l.length] 165) /\ OwnN 54 .u32 A w.heap.size (some ⟨w.heap.size,0,none⟩) l.length (outsI l i) /\ Below w.heap.size w A)
  (fun _ _ _=>False) ?hI ?hIp (fun _ _ _ _ h _=>h) (fun _ _ _ _ _ _ h _ _ _=>h) ?h0 ?a1 ?assign ?body ?done (fun _ _ _ _ h _=>h.elim)
 case hS =>
  rintro b (rfl | ⟨h0,x,hx,rfl⟩)
  ·omega
  ·obtain ⟨b',off,he,hlt,_⟩:=hr4.at h0
   rw [hx] at he
   cases he
   exact hlt
 case hI =>
  rintro i A B ⟨⟨nx,h1,h2⟩,h3,h4,h5,h6⟩ ho
  exact ⟨⟨nx,Zac h1 ho id,h2⟩,Zac h3 ho id,Zac h4 ho id,h5.only ho (fun _ _=>id),Below.only h6 ho (Nat.le_refl _) (fun _ h=>h.elim)⟩
 case hIp =>
  rintro i A r o o' ⟨⟨nx,h1,h2⟩,h3,h4,h5,h6⟩ hr0 hro hoc
  exact ⟨⟨nx,Zfx h1 hro hoc,h2⟩,Zfx h3 hro hoc,Zfx h4 hro hoc,h5.put hro hoc _,Below.put h6 (Nat.le_refl _) hro (by omega) _⟩
 case h0=>exact ⟨⟨0,hb1,by simp [accI]⟩,hb2,hb0,by simpa [outsI] using hown4,hB4⟩
 case assign =>
  intro y i W K hK
  simp only [orderRow]
  gi_wp2
  exact hK
 case body =>
  rintro y i hi A hz2 ⟨⟨nx,h1,h2⟩,h3,h4,h5,h6⟩
  obtain ⟨k,n,hrow,hk,hn0,hn20,hbn,hbn1,hwd,hnx,hac⟩:=Zqs l i nx hi HO h2
  have hp:(ord l).getD i (0,0) = (k,n):=by simp [List.getD,hrow]
  have hp':(ord l)[i]?.getD (0,0) = (k,n):=by simp [hrow]
  simp only [hp']
  obtain ⟨g,he,_,hg2,hcell,hfree⟩:=h5.at (i:=k) (by rw [Zlt];exact hk)
  simp only [Option.some.injEq,Addr.mk.injEq,and_true] at he
  subst he
  have c1:=cell_of_one h1
  have f1:=free_of_one h1
  have c2:=cell_of_one h3
  have f2:=free_of_one h3
  have c3:=cell_of_one h4
  have HX:=Zh hwd
  have HY:=Zh hac
  have HZ:=Zh hbn1
  have HR:=Zh hrow
  have H1:=Zh h1
  have H3:=Zh h3
  have H4:=Zh h4
  clear hrow hp hp' hwd hac hbn1 hb0 hb1 hb2 hb3 h1 h3 h4 h2
  generalize bitsI l i = bt at *
  have hlt1:w.heap.size < w1.heap.size:=h01
  gi_wp2
  have hm:((nx:Int) * 2 ^ (n - bt)) % 4294967296 = ((nx * 2 ^ (n - bt):Nat):Int):=by
   have h2:(2:Int) ^ (n - bt) = ((2 ^ (n - bt):Nat):Int):=by simp
   rw [h2,<- Int.natCast_mul]
   generalize nx * 2 ^ (n - bt) = m at *
   omega
  have hm1:((nx:Int) * 2 ^ (n - bt) + 1) % 4294967296 = ((nx * 2 ^ (n - bt) + 1:Nat):Int):=by
   have h2:(2:Int) ^ (n - bt) = ((2 ^ (n - bt):Nat):Int):=by simp
   rw [h2,<- Int.natCast_mul]
   generalize nx * 2 ^ (n - bt) = m at *
   omega
  simp only [hm,hm1]
  have hbl:∀ x,0 < l.length -> a = some x -> x.block < w.heap.size:=fun x h0 hx=>by
   obtain ⟨b',off,he,hlt,_⟩:=hr.at h0
   rw [hx] at he
   cases he
   exact hlt
  obtain ⟨q1,q2,q3,q4,q5,q6,q7⟩:=Znv l w w1.heap.size a W0.heap.size k n (nx * 2 ^ (n - bt)) (outsI l i) A H1.out H3.out H4.out h5 h6 hbl hlt1 (by omega)
  refine ⟨q1,q2,⟨nx * 2 ^ (n - bt) + 1,q3,by rw [HZ.out];exact HY.out⟩,by rw [HZ.out];exact q4,q5,?_,q7⟩
  rw [Zjk l i k n HR.out,HX.out]
  exact q6
 case done =>
  rintro A ⟨⟨nx,h1,h2⟩,h3,h4,h5,h6⟩ hD
  have c3:=cell_of_one h4
  clear h1 h2 h3 h4
  gi_wp2
  refine ⟨by simp,.inl ⟨_,_,rfl,run_takeDeferred hD,?_⟩⟩
  refine ⟨_,results_tmp2 rfl _ _ _,?_⟩
  unfold WordsOut
  rw [H.out]
  rw [Zsy l HM.out.1] at h5
  refine ⟨some ⟨w.heap.size,0,none⟩,l.length,?_,h5.put hD rfl _,Below.put h6 (Nat.le_refl _) hD (by omega) _⟩
  simp [Zcp]
end Go.Proofs.Ytnkpnjnfddjfpaa

namespace Go.Proofs.Ytnkpnjnfddjfpaa
open Go.RowKit
structure Enc (α:Type) where
 sz:Nat
 cells:α -> List Value
 len:∀ x,(cells x).length = sz
 one:∀ x,∀ u ∈ cells x,u.oneCell' = true
 pos:0 < sz
structure ElemS (P:Program) (T E:TypeId) {α:Type} (c:Enc α) (z:Value) (bytes:Nat):Prop where
 und:P.underlying T = some (.slice E)
 info:(P.info? E).map (fun i=>(i.zero,i.size,i.bytes)) = some (some z,c.sz,bytes)
 zs:z.cells.size = c.sz
def flat {α:Type} (c:Enc α) (l:List α):List Value:=l.flatMap c.cells
section
variable {α : Type} {c : Enc α}
theorem Zbt (l:List α):(flat c l).length = l.length * c.sz:=by
 induction l with
 | nil=>simp [flat]
 | cons a l ih=>simp only [flat,List.flatMap_cons,List.length_append,List.length_cons,c.len] at *;rw [ih,Nat.add_mul,Nat.one_mul,Nat.add_comm]
theorem Zdc (l m:List α):flat c (l ++ m) = flat c l ++ flat c m:=by simp [flat]
theorem Zha (l:List α):∀ u ∈ flat c l,u.oneCell' = true:=by
 intro u hu
 simp only [flat,List.mem_flatMap] at hu
 obtain ⟨x,_,hx⟩:=hu
 exact c.one x u hx
theorem Zry (l:List α) (i j:Nat) (hi:i < l.length) (hj:j < c.sz):(flat c l)[i * c.sz + j]? = (c.cells l[i])[j]?:=by
 induction l generalizing i with
 | nil=>simp at hi
 | cons a l ih =>
  simp only [flat,List.flatMap_cons] at *
  cases i with
  | zero=>simp only [Nat.zero_mul,Nat.zero_add,List.getElem_cons_zero];rw [List.getElem?_append_left (by rw [c.len];exact hj)]
  | succ i =>
   simp only [List.length_cons] at hi
   rw [List.getElem?_append_right (by rw [c.len,Nat.add_mul];omega),c.len]
   have:(i + 1) * c.sz + j - c.sz = i * c.sz + j:=by rw [Nat.add_mul];omega
   rw [this,ih i (by omega)]
   simp
end
def RowS {α:Type} (c:Enc α) (w:World) (a:Option Addr) (cap:Nat) (l:List α):Prop :=
 l.length <= cap /\ (cap <= 9223372036854775807 /\ (a = none -> cap = 0)) /\ (l = [] \/ ∃ b off,a = some ⟨b,off,none⟩ /\ b < w.heap.size /\ ∀ i v,(flat c l)[i]? = some v -> w.cell? ⟨b,off + i,none⟩ = some v)
section
variable {α : Type} {c : Enc α} {w w' : World} {a : Option Addr} {cap : Nat} {l : List α}
theorem RowS.len (h:RowS c w a cap l):l.length <= 9223372036854775807:=by have:=h.1;have:=h.2.1.1;omega
theorem RowS.at (h:RowS c w a cap l) {i:Nat} (hi:i < l.length) :
  ∃ b off,a = some ⟨b,off,none⟩ /\ b < w.heap.size /\ ∀ j v,(c.cells l[i])[j]? = some v -> w.cell? ⟨b,off + (i * c.sz + j),none⟩ = some v:=by
 obtain ⟨_,_,rfl | ⟨b,off,rfl,hb,hc⟩⟩:=h
 ·simp at hi
 ·refine ⟨b,off,rfl,hb,fun j v hv=>hc _ v ?_⟩
  have hj:j < c.sz:=by have:=(List.getElem?_eq_some_iff.1 hv).1;rw [c.len] at this;exact this
  rw [Zry l i j hi hj];exact hv
theorem RowS.same (h:RowS c w a cap l) (hs:w.heap.size <= w'.heap.size) (hb:∀ x,0 < l.length -> a = some x -> w'.heap[x.block]? = w.heap[x.block]?):RowS c w' a cap l:=by
 obtain ⟨h1,h2,h3⟩:=h
 refine ⟨h1,h2,?_⟩
 rcases h3 with h3 | ⟨b,off,rfl,hb',hc⟩
 ·exact .inl h3
 ·by_cases h0:l = []
  ·exact .inl h0
  ·exact .inr ⟨b,off,rfl,by omega,fun i v hv=>(World.cell?_of_block (a:=⟨b,off + i,none⟩) (hb ⟨b,off,none⟩ (List.length_pos_iff.2 h0) rfl)).trans (hc i v hv)⟩
theorem RowS.below (h:RowS c w a cap l) (hb:Below w.heap.size w w'):RowS c w' a cap l:=by
 obtain ⟨h1,h2,h3⟩:=h
 refine ⟨h1,h2,?_⟩
 rcases h3 with h3 | ⟨b,off,ha,hb',hc⟩
 ·exact .inl h3
 ·exact .inr ⟨b,off,ha,Nat.lt_of_lt_of_le hb' hb.size,fun i v hv=>(hb.cell (p:=⟨b,off + i,none⟩) hb').trans (hc i v hv)⟩
theorem RowS.drewN (h:RowS c w a cap l) (n:Nat):RowS c (w.drewN n) a cap l:=h
theorem RowS.nil (c:Enc α) (w:World):RowS c w none 0 []:=⟨by simp,by simp,.inl rfl⟩
theorem RowS.lit (c:Enc α) (w:World) (l:List α) (E:TypeId) (cs:Array Value) (B:Nat) (hB:B = w.heap.size) (hc:cs = (flat c l).toArray) (hl:l.length <= 9223372036854775807) :
  RowS c (w.alloc (.cells cs E)) (some ⟨B,0,none⟩) l.length l:=by
 subst hc hB
 refine ⟨Nat.le_refl _,⟨hl,fun hn=>by cases hn⟩,.inr ⟨w.heap.size,0,rfl,by simp,fun i v hv=>?_⟩⟩
 rw [Nat.zero_add,World.cell?_alloc_at _ _ _ _ rfl]
 simpa using hv
end
def OwnS {α:Type} (c:Enc α) (E:TypeId) (w:World) (base:Nat) (a:Option Addr) (cap:Nat) (l:List α):Prop :=
 w.ownsRow base E c.sz (.slice a l.length cap) l.length (flat c l)
section
variable {α : Type} {c : Enc α} {E : TypeId} {w w' : World} {base cap : Nat} {a : Option Addr} {l : List α}
theorem OwnS.nil (c:Enc α) (E:TypeId) (w:World) (base:Nat):OwnS c E w base none 0 []:=World.ownsRow_nil w base E c.sz
theorem OwnS.lit0 (c:Enc α) (E:TypeId) (w:World) (base:Nat) (hb:base <= w.heap.size):OwnS c E (w.alloc (.cells #[] E)) base (some ⟨w.heap.size,0,none⟩) 0 [] :=
 World.ownsRow_made w #[] 0 hb (by decide) (by simp)
theorem OwnS.form (h:OwnS c E w base a cap l):(a = none /\ cap = 0 /\ l = []) \/ ∃ g,a = some ⟨g,0,none⟩ /\ base <= g /\ g < w.heap.size:=by
 rcases h.2 with ⟨h1,h2⟩ | ⟨g,cc,cur,h1,h2,h3,_⟩
 ·simp only [Value.slice.injEq] at h1
  exact .inl ⟨h1.1,h1.2.2,List.eq_nil_of_length_eq_zero h2⟩
 ·simp only [Value.slice.injEq] at h1
  exact .inr ⟨g,h1.1,h2,(Array.getElem?_eq_some_iff.1 h3).1⟩
theorem OwnS.caps (h:OwnS c E w base a cap l):l.length <= cap /\ cap <= 9223372036854775807:=by
 rcases h.2 with ⟨h1,h2⟩ | ⟨g,cc,cur,h1,h2,h3,h4,h5,_⟩
 ·simp only [Value.slice.injEq] at h1
  omega
 ·simp only [Value.slice.injEq] at h1
  obtain ⟨_,_,rfl⟩:=h1
  exact ⟨h4,by simpa [maxLen] using h5⟩
theorem OwnS.row (h:OwnS c E w base a cap l):RowS c w a cap l:=by
 refine ⟨h.caps.1,⟨h.caps.2,fun hn=>by rcases h.form with ⟨_,h1,_⟩ | ⟨g,h1,_⟩ <;> simp_all⟩,?_⟩
 rcases h.form with ⟨_,_,rfl⟩ | ⟨g,rfl,hb,hg⟩
 ·exact .inl rfl
 ·refine .inr ⟨g,0,rfl,hg,fun i v hv=>?_⟩
  have hi:i < l.length * c.sz:=by have:=(List.getElem?_eq_some_iff.1 hv).1;rwa [Zbt] at this
  rw [Nat.zero_add,World.ownsRow.cellAt h i hi];exact hv
theorem OwnS.kept {row:Option Nat} (h:OwnS c E w base a cap l) (hg:w.grownBy w' row) (hr:∀ g,a = some ⟨g,0,none⟩ -> row ≠ some g):OwnS c E w' base a cap l:=by
 refine World.ownsRow.kept h hg ?_
 rcases h.form with ⟨rfl,_,_⟩ | ⟨g,rfl,hb,hgg⟩
 ·exact .inl rfl
 ·exact .inr fun e=>hr g rfl e.symm
theorem OwnS.below (h:OwnS c E w base a cap l) (hb:Below w.heap.size w w'):OwnS c E w' base a cap l :=
 h.kept (row:=none) ⟨hb.os,hb.tape,hb.output,hb.size,fun k hk _=>hb.block k hk⟩ (fun _ _ e=>by cases e)
theorem OwnS.alloc (h:OwnS c E w base a cap l) (o:Obj):OwnS c E (w.alloc o) base a cap l:=World.ownsRow.alloc h o
theorem OwnS.other (h:OwnS c E w base a cap l) {p:Addr} (hp:∀ g,a = some ⟨g,0,none⟩ -> p.block ≠ g) (u:Value):OwnS c E (w.setCell p u) base a cap l:=by
 refine ownsRow_setCell_other h ?_ u
 rcases h.form with ⟨rfl,_,_⟩ | ⟨g,rfl,hb,hgg⟩
 ·simp [Value.ownBlock]
 ·simp only [Value.ownBlock,ne_eq,Option.some.injEq]
  exact fun e=>hp g rfl e.symm
theorem OwnS.mono (h:OwnS c E w base a cap l) {b:Nat} (hb:b <= base):OwnS c E w b a cap l:=by
 refine ⟨h.1,?_⟩
 rcases h.2 with h2 | ⟨g,cc,cur,h1,h2,h3⟩
 ·exact .inl h2
 ·exact .inr ⟨g,cc,cur,h1,by omega,h3⟩
end
section
variable {P : Program} {T E : TypeId} {α : Type} {cc : Enc α} {z : Value} {bytes : Nat}
theorem appAnyS (et:ElemS P T E cc z bytes) {w:World} {ops:Array Oper} {rest:List Oper} {o:Oper} {ac:Act} {Q:Exit -> Act -> World -> Prop} (hgd:o.guard = none) (s x:Operand)
  (ho:o.op = .call { callee:=.builtin .append,args:=#[s,x],argTypes:=#[T,T] }) {base:Nat} {a:Option Addr} {cap m c:Nat} {l ys:List α}
  (hs:ac.eval s = .slice a l.length cap) (hown:OwnS cc E w base a cap l) {b:Option Addr} (hm:m = ys.length) (hx:ac.eval x = .slice b m c) (hy:RowS cc w b c ys)
  (hn:l.length + m <= 9223372036854775807) (hbytes:(l.length + m) * bytes <= 140737488355328) (hbase:base <= w.heap.size)
  (h:∀ a' cap' w',OwnS cc E w' base a' cap' (l ++ ys) -> w.grownBy w' (Value.slice a l.length cap).ownBlock -> Below base w w' -> wpList P ops Q rest (ac.put o.dst (.slice a' (l.length + m) cap')) w') :
  wpList P ops Q (o :: rest) ac w:=by
 subst hm
 obtain ⟨i,h2,h3,h4,h5⟩:=info_parts et.info
 refine wpList_plain (by assumption) fun K hK'=>?_
 by_cases hb:b = none
 ·subst hb
  obtain rfl:c = 0:=hy.2.1.2 rfl
  obtain rfl:ys = []:=List.eq_nil_of_length_eq_zero (by have:=hy.1;omega)
  have hr:=run_append_owned_none (P:=P) w base T o.type E i cc.sz et.und h2 _ l.length _ hown
  unfold Oper.wp
  simp [execOp,ho,resolve,invoke,builtin,hs,hx,hr,Result.andThen]
  exact hK' _ _ (by simpa using h a cap w (by simpa using hown) (World.grownBy.refl _ _) (Below.refl _ _))
 ·obtain ⟨ad,rfl⟩:=Option.ne_none_iff_exists'.1 hb
  have hcl:∀ j u,(flat cc ys)[j]? = some u -> w.cell? (ad.add j) = some u:=by
   intro j u hu
   obtain ⟨_,_,rfl | ⟨b',off,he,_,hc⟩⟩:=hy
   ·simp [flat] at hu
   ·cases he
    have:=hc j u hu
    unfold Addr.add
    split
    ·simp_all
    ·exact this
  obtain ⟨v',w',hr,h6,h7,h8⟩:=run_append_own (P:=P) w base T o.type E i z cc.sz bytes et.und h2 h3 h4 h5 et.zs cc.pos _ l.length _ hown ad ys.length c (flat cc ys) (Zbt _)
   hcl (Zha _) (by simpa [maxLen] using hn) hbytes hbase
  have hv:∃ a' cap',v' = .slice a' (l.length + ys.length) cap':=by
   rcases h6.2 with ⟨h9,h10⟩ | ⟨g,c',cur,h9,_⟩
   ·exact ⟨none,0,by rw [h9,h10]⟩
   ·exact ⟨_,_,h9⟩
  obtain ⟨a',cap',rfl⟩:=hv
  have hown':OwnS cc E w' base a' cap' (l ++ ys):=by
   unfold OwnS;rw [List.length_append,Zdc];exact h6
  have hbel:Below base w w':=Below.of_grown h7 hbase (by
   intro g hg
   exact (World.ownsRow.lt hown g hg).1)
  unfold Oper.wp
  simp [execOp,ho,resolve,invoke,builtin,hs,hx,hr,Result.andThen]
  exact hK' _ _ (h a' cap' w' hown' h7 hbel)
theorem app1S (et:ElemS P T E cc z bytes) {w:World} {ops:Array Oper} {rest:List Oper} {o:Oper} {ac:Act} {Q:Exit -> Act -> World -> Prop} (hgd:o.guard = none) (s x:Operand)
  (ho:o.op = .call { callee:=.builtin .append,args:=#[s,x],argTypes:=#[T,T] }) {base:Nat} {a:Option Addr} {cap:Nat} {l:List α} (y:α) {cs:Array Value} {c E':Nat}
  (hs:ac.eval s = .slice a l.length cap) (hown:OwnS cc E w base a cap l) (hx:ac.eval x = .slice (some ⟨w.heap.size,0,none⟩) 1 c) (hcs:cs = (cc.cells y).toArray) (hc:1 <= c) (hc':c <= 9223372036854775807)
  (hn:l.length + 1 <= 9223372036854775807) (hbytes:(l.length + 1) * bytes <= 140737488355328) (hbase:base <= w.heap.size)
  (h:∀ a' cap' w',OwnS cc E w' base a' cap' (l ++ [y]) -> w.grownBy w' (Value.slice a l.length cap).ownBlock -> Below base w w' -> wpList P ops Q rest (ac.put o.dst (.slice a' (l.length + 1) cap')) w') :
  wpList P ops Q (o :: rest) ac (w.alloc (.cells cs E')):=by
 refine appAnyS et hgd s x ho hs (hown.alloc _) (ys:=[y]) rfl hx ?_ hn hbytes (by simp;omega) ?_
 ·subst hcs
  have:=RowS.lit cc w [y] E' ((cc.cells y).toArray) w.heap.size rfl (by simp [flat]) (by simp)
  exact ⟨by simpa using hc,⟨hc',fun hn=>by cases hn⟩,this.2.2⟩
 ·intro a' cap' w' h1 h2 h3
  refine h a' cap' w' h1 ⟨h2.os,h2.tape,h2.output,Nat.le_trans (by simp) h2.size,fun q hq hr=>(h2.block q (by simp;omega) hr).trans (Below.heap_alloc _ _ _ hq)⟩ (((Below.refl base w).alloc hbase _).trans h3)
end
end Go.Proofs.Ytnkpnjnfddjfpaa

namespace Go.Proofs.Ytnkpnjnfddjfpaa.M01
def bit (bs:List Nat) (i:Nat):Nat:=bs.getD (i / 8) 0 / 2 ^ (i % 8) % 2
theorem Zgq (bs:List Nat) (i:Nat):bit bs i < 2:=Nat.mod_lt _ (by decide)
def num (bs:List Nat) (at_:Nat):Nat -> Nat
 | 0=>0
 | n + 1=>num bs at_ n + bit bs (at_ + n) * 2 ^ n
theorem Zxk (v b k:Nat) (hv:v < 2 ^ k):v ||| b * 2 ^ k = v + b * 2 ^ k:=by
 rw [Nat.or_comm,Nat.mul_comm,<- Nat.two_pow_add_eq_or_of_lt hv]
 omega
end Go.Proofs.Ytnkpnjnfddjfpaa.M01
