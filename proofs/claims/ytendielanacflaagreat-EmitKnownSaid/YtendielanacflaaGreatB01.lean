/- Plain words that all walks of this seat use: a slice that is read as a list of numbers. Owned slices of numbers: what a call makes itself, as a list; laws for make, append, load and store. A range over a function, over a plain list of rows: what an iterator promises, what its caller owes. The iterator may keep state of its own in cells. After the kit's laws for ranges over functions. A region whose order is drawn, by an invariant over what has come up: each operation leaves its own value, whatever else has come up (plain, and in a fence). Plain mathematics of layer 8: the symbols of lengths and distances. Contracts of package token: the scales, their search, the symbols of lengths and distances. -/
import Derived.WalkKit
import Derived.WalkLawsBesides
import Derived.WalkSpells
import Derived.Lib.Hide
import Derived.Below
import Derived.OneCell
import Derived.OwnWalkIn
import Derived.Laws.BytesString
import Derived.RangeFuncNested
import Derived.RangeFuncBound
import Derived.RangeFuncCalls
import Derived.RangeFuncLeaves
import Derived.RangeFuncWrites
import Derived.Shelf.Abstract
import Derived.Shelf.RegionOpen
import Derived.TacticsInMore
import Derived.LoopNIn
import Derived.LoopIn
import Derived.Orders
import Derived.OrdersIn
import Derived.Tactics
import Derived.TacticsIn
import Derived.Test.YtendielanacflaaGreatChecked
import Derived.BigQuiet
import Derived.Deep.QuietTactic
set_option linter.unusedVariables false
set_option linter.unusedSimpArgs false
namespace Go.Proofs.YtendielanacflaaGreat
theorem Zh {p : Prop} (h : p) : RowKit.Hid p := h
end Go.Proofs.YtendielanacflaaGreat
namespace Go.Proofs.YtendielanacflaaGreat
open Go.RowKit
def RowN (k:IntKind) (w:World) (a:Option Addr) (cap:Nat) (l:List Nat):Prop :=
 l.length <= cap /\ (cap <= 9223372036854775807 /\ (a = none -> cap = 0)) /\ (l = [] \/ ∃ b off,a = some ⟨b,off,none⟩ /\ b < w.heap.size /\ ∀ i (h:i < l.length),w.cell? ⟨b,off + i,none⟩ = some (.int k (l[i]:Nat)))
def RowI (k:IntKind) (w:World) (a:Option Addr) (cap:Nat) (l:List Int):Prop :=
 l.length <= cap /\ (cap <= 9223372036854775807 /\ (a = none -> cap = 0)) /\ (l = [] \/ ∃ b off,a = some ⟨b,off,none⟩ /\ b < w.heap.size /\ ∀ i (h:i < l.length),w.cell? ⟨b,off + i,none⟩ = some (.int k l[i]))
theorem RowN.at {k:IntKind} {w:World} {a:Option Addr} {cap:Nat} {l:List Nat} (h:RowN k w a cap l) {i:Nat} (hi:i < l.length) :
 ∃ b off,a = some ⟨b,off,none⟩ /\ b < w.heap.size /\ w.cell? ⟨b,off + i,none⟩ = some (.int k (l[i]:Nat)):=by
 obtain ⟨_,_,rfl | ⟨b,off,rfl,hb,hc⟩⟩:=h
 ·simp at hi
 ·exact ⟨b,off,rfl,hb,hc i hi⟩
theorem RowN.len {k:IntKind} {w:World} {a:Option Addr} {cap:Nat} {l:List Nat} (h:RowN k w a cap l):l.length <= 9223372036854775807:=by have:=h.1;have:=h.2.1.1;omega
theorem RowI.at {k:IntKind} {w:World} {a:Option Addr} {cap:Nat} {l:List Int} (h:RowI k w a cap l) {i:Nat} (hi:i < l.length) :
 ∃ b off,a = some ⟨b,off,none⟩ /\ b < w.heap.size /\ w.cell? ⟨b,off + i,none⟩ = some (.int k l[i]):=by
 obtain ⟨_,_,rfl | ⟨b,off,rfl,hb,hc⟩⟩:=h
 ·simp at hi
 ·exact ⟨b,off,rfl,hb,hc i hi⟩
theorem RowI.len {k:IntKind} {w:World} {a:Option Addr} {cap:Nat} {l:List Int} (h:RowI k w a cap l):l.length <= 9223372036854775807:=by have:=h.1;have:=h.2.1.1;omega
theorem RowN.below {k:IntKind} {w w':World} {a:Option Addr} {cap:Nat} {l:List Nat} (h:RowN k w a cap l) (hb:Below w.heap.size w w'):RowN k w' a cap l:=by
 obtain ⟨h1,h2,h3⟩:=h
 refine ⟨h1,h2,?_⟩
 rcases h3 with h3 | ⟨b,off,ha,hb',hc⟩
 ·exact .inl h3
 ·exact .inr ⟨b,off,ha,Nat.lt_of_lt_of_le hb' hb.size,fun i hi=>(hb.cell (p:=⟨b,off + i,none⟩) hb').trans (hc i hi)⟩
theorem RowI.below {k:IntKind} {w w':World} {a:Option Addr} {cap:Nat} {l:List Int} (h:RowI k w a cap l) (hb:Below w.heap.size w w'):RowI k w' a cap l:=by
 obtain ⟨h1,h2,h3⟩:=h
 refine ⟨h1,h2,?_⟩
 rcases h3 with h3 | ⟨b,off,ha,hb',hc⟩
 ·exact .inl h3
 ·exact .inr ⟨b,off,ha,Nat.lt_of_lt_of_le hb' hb.size,fun i hi=>(hb.cell (p:=⟨b,off + i,none⟩) hb').trans (hc i hi)⟩
theorem RowN.nil (k:IntKind) (w:World):RowN k w none 0 []:=⟨by simp,by simp,.inl rfl⟩
theorem RowI.nil (k:IntKind) (w:World):RowI k w none 0 []:=⟨by simp,by simp,.inl rfl⟩
theorem Zdm {k:IntKind} {a b:Int} (h:a = b):Ending.returned (.int k a) = .returned (.int k b):=by rw [h]
theorem Zbs {a b:Bool} (h:a = b):Ending.returned (.bool a) = .returned (.bool b):=by rw [h]
theorem Zix {k:IntKind} {a b:Int} (h:a = b):(Value.int k a) = .int k b:=by rw [h]
end Go.Proofs.YtendielanacflaaGreat

namespace Go.Proofs.YtendielanacflaaGreat
open Go.RowKit
structure ElemTy (P:Program) (T E:TypeId) (k:IntKind) (bytes:Nat):Prop where
 und:P.underlying T = some (.slice E)
 info:(P.info? E).map (fun i=>(i.zero,i.size,i.bytes)) = some (some (.int k 0),1,bytes)
theorem Below.of_grown {B:Nat} {w w':World} {row:Option Nat} (hg:w.grownBy w' row) (hB:B <= w.heap.size) (hr:∀ k,row = some k -> B <= k):Below B w w' :=
 (Below.refl B w).grown hg hB hr
def OwnN (E:TypeId) (k:IntKind) (w:World) (base:Nat) (a:Option Addr) (cap:Nat) (l:List Nat):Prop :=
 w.ownsRow base E 1 (.slice a l.length cap) l.length (l.map fun (n:Nat)=>Value.int k n)
section
variable {P : Program} {E : TypeId} {k : IntKind} {w w' : World} {base cap : Nat} {a : Option Addr} {l : List Nat}
theorem OwnN.nil (E:TypeId) (k:IntKind) (w:World) (base:Nat):OwnN E k w base none 0 []:=World.ownsRow_nil w base E 1
theorem OwnN.lit0 (E:TypeId) (k:IntKind) (w:World) (base:Nat) (hb:base <= w.heap.size):OwnN E k (w.alloc (.cells #[] E)) base (some ⟨w.heap.size,0,none⟩) 0 [] :=
 World.ownsRow_made w #[] 0 hb (by decide) rfl
theorem OwnN.form (h:OwnN E k w base a cap l):(a = none /\ cap = 0 /\ l = []) \/ ∃ g,a = some ⟨g,0,none⟩ /\ base <= g /\ g < w.heap.size:=by
 rcases h.2 with ⟨h1,h2⟩ | ⟨g,c,cur,h1,h2,h3,_⟩
 ·simp only [Value.slice.injEq] at h1
  exact .inl ⟨h1.1,h1.2.2,List.eq_nil_of_length_eq_zero h2⟩
 ·simp only [Value.slice.injEq] at h1
  exact .inr ⟨g,h1.1,h2,(Array.getElem?_eq_some_iff.1 h3).1⟩
theorem OwnN.caps (h:OwnN E k w base a cap l):l.length <= cap /\ cap <= 9223372036854775807:=by
 rcases h.2 with ⟨h1,h2⟩ | ⟨g,c,cur,h1,h2,h3,h4,h5,_⟩
 ·simp only [Value.slice.injEq] at h1
  omega
 ·simp only [Value.slice.injEq] at h1
  obtain ⟨_,_,rfl⟩:=h1
  exact ⟨h4,by simpa [maxLen] using h5⟩
theorem OwnN.at (h:OwnN E k w base a cap l) {i:Nat} (hi:i < l.length) :
  ∃ g,a = some ⟨g,0,none⟩ /\ base <= g /\ g < w.heap.size /\ w.cell? ⟨g,i,none⟩ = some (.int k l[i]) /\ w.frozen? ⟨g,i,none⟩ = false:=by
 rcases h.form with ⟨_,_,rfl⟩ | ⟨g,rfl,hb,hg⟩
 ·simp at hi
 ·refine ⟨g,rfl,hb,hg,?_,World.ownsRow.frozenAt h i⟩
  rw [World.ownsRow.cellAt h i (by omega)]
  simp [hi]
theorem OwnN.row (h:OwnN E k w base a cap l):RowN k w a cap l:=by
 refine ⟨h.caps.1,⟨h.caps.2,fun hn=>by rcases h.form with ⟨_,h1,_⟩ | ⟨g,h1,_⟩ <;> simp_all⟩,?_⟩
 rcases h.form with ⟨_,_,rfl⟩ | ⟨g,rfl,hb,hg⟩
 ·exact .inl rfl
 ·refine .inr ⟨g,0,rfl,hg,fun i hi=>?_⟩
  obtain ⟨g',he,_,_,hc,_⟩:=h.at hi
  simp only [Option.some.injEq,Addr.mk.injEq,and_true] at he
  subst he
  simpa using hc
theorem OwnN.kept {row:Option Nat} (h:OwnN E k w base a cap l) (hg:w.grownBy w' row) (hr:∀ g,a = some ⟨g,0,none⟩ -> row ≠ some g):OwnN E k w' base a cap l:=by
 refine World.ownsRow.kept h hg ?_
 rcases h.form with ⟨rfl,_,_⟩ | ⟨g,rfl,hb,hgg⟩
 ·exact .inl rfl
 ·exact .inr fun e=>hr g rfl e.symm
theorem OwnN.below (h:OwnN E k w base a cap l) (hb:Below w.heap.size w w'):OwnN E k w' base a cap l :=
 h.kept (row:=none) ⟨hb.os,hb.tape,hb.output,hb.size,fun k hk _=>hb.block k hk⟩ (fun _ _ e=>by cases e)
theorem OwnN.drew (h:OwnN E k w base a cap l):OwnN E k w.drew base a cap l:=h
theorem OwnN.alloc (h:OwnN E k w base a cap l) (o:Obj):OwnN E k (w.alloc o) base a cap l:=World.ownsRow.alloc h o
theorem OwnN.other (h:OwnN E k w base a cap l) {p:Addr} (hp:∀ g,a = some ⟨g,0,none⟩ -> p.block ≠ g) (u:Value):OwnN E k (w.setCell p u) base a cap l:=by
 refine ownsRow_setCell_other h ?_ u
 rcases h.form with ⟨rfl,_,_⟩ | ⟨g,rfl,hb,hgg⟩
 ·simp [Value.ownBlock]
 ·simp only [Value.ownBlock,ne_eq,Option.some.injEq]
  exact fun e=>hp g rfl e.symm
theorem OwnN.mono (h:OwnN E k w base a cap l) {b:Nat} (hb:b <= base):OwnN E k w b a cap l:=by
 refine ⟨h.1,?_⟩
 rcases h.2 with h2 | ⟨g,c,cur,h1,h2,h3⟩
 ·exact .inl h2
 ·exact .inr ⟨g,c,cur,h1,by omega,h3⟩
theorem OwnN.stored {g:Nat} (h:OwnN E k w base (some ⟨g,0,none⟩) cap l) (i:Nat) (x:Nat) :
  OwnN E k (w.setCell ⟨g,i,none⟩ (.int k x)) base (some ⟨g,0,none⟩) cap (l.set i x) /\ w.grownBy (w.setCell ⟨g,i,none⟩ (.int k x)) (some g):=by
 obtain ⟨h1,h2⟩:=World.ownsRow.stored h i (.int k x)
 refine ⟨?_,h2⟩
 unfold OwnN
 rw [List.map_set,List.length_set]
 exact h1
theorem Zbr {a:Option Addr} {cap:Nat} (h:RowN k w a cap l):∀ ad,a = some ad -> ∀ j u,(l.map fun (n:Nat)=>Value.int k n)[j]? = some u -> w.cell? (ad.add j) = some u:=by
 intro ad had j u hu
 have hj:j < l.length:=by
  have:=(List.getElem?_eq_some_iff.1 hu).1
  simpa using this
 obtain ⟨b,off,he,_,hc⟩:=h.at hj
 rw [had] at he
 cases he
 simp only [List.getElem?_map,List.getElem?_eq_getElem hj,Option.map_some,Option.some.injEq] at hu
 rw [<- hu,<- hc]
 unfold Addr.add
 split
 ·simp_all
 ·rfl
end
section
variable {P : Program} {T E : TypeId} {k : IntKind} {bytes : Nat}
theorem makeN (et:ElemTy P T E k bytes) {w:World} {ops:Array Oper} {rest:List Oper} {o:Oper} {a:Act} {Q:Exit -> Act -> World -> Prop}
  (hg:o.guard = none) (lo c:Operand) (hop:o.op = Op.makeSlice T lo c) (base:Nat) {kl kc:IntKind} {n:Nat} (hl:a.eval lo = .int kl n) (hc:a.eval c = .int kc n)
  (hb:bytes * n <= 281474976710656) (hn:n <= 9223372036854775807) (hbase:base <= w.heap.size)
  (hK:∀ w',OwnN E k w' base (some ⟨w.heap.size,0,none⟩) n (List.replicate n 0) -> w.grownBy w' none -> wpList P ops Q rest (a.put o.dst (.slice (some ⟨w.heap.size,0,none⟩) n n)) w') :
  wpList P ops Q (o :: rest) a w:=by
 obtain ⟨i,h2,h3,h4,h5⟩:=info_parts et.info
 refine wpList_plain (by assumption) fun K hK'=>?_
 obtain ⟨w',hrun,r1,r2⟩:=run_make_full (P:=P) w base T E i (.int k 0) 1 et.und h2 h3 h4 kl kc n (by rw [h5];exact hb) (by simpa [maxLen] using hn) hbase
 unfold Oper.wp
 simp [execOp,hop,hl,hc,hrun,Result.andThen]
 refine hK' _ _ (hK w' ?_ r2)
 unfold OwnN
 have hm:(madeCells (Value.int k 0).cells (n * 1)).toList = (List.replicate n (0:Nat)).map fun (n:Nat)=>Value.int k n:=by
  rw [Nat.mul_one];show (madeCells #[.int k 0] n).toList = _;rw [toList_madeCells_one];simp
 rw [List.length_replicate,<- hm]
 exact r1
theorem appN (et:ElemTy P T E k bytes) {w:World} {ops:Array Oper} {rest:List Oper} {o:Oper} {ac:Act} {Q:Exit -> Act -> World -> Prop} (hgd:o.guard = none) (s x:Operand)
  (ho:o.op = .call { callee:=.builtin .append,args:=#[s,x],argTypes:=#[T,T] }) {base:Nat} {a:Option Addr} {cap m c:Nat} {l ys:List Nat}
  (hs:ac.eval s = .slice a l.length cap) (hown:OwnN E k w base a cap l) {b:Option Addr} (hm:m = ys.length) (hx:ac.eval x = .slice b m c) (hy:RowN k w b c ys)
  (hb0:0 < ys.length) (hn:l.length + m <= 9223372036854775807) (hbytes:(l.length + m) * bytes <= 140737488355328) (hbase:base <= w.heap.size)
  (h:∀ a' cap' w',OwnN E k w' base a' cap' (l ++ ys) -> w.grownBy w' (Value.slice a l.length cap).ownBlock -> Below base w w' -> wpList P ops Q rest (ac.put o.dst (.slice a' (l.length + m) cap')) w') :
  wpList P ops Q (o :: rest) ac w:=by
 subst hm
 obtain ⟨i,h2,h3,h4,h5⟩:=info_parts et.info
 obtain ⟨bb,off,rfl,_⟩:=hy.at hb0
 refine wpList_plain (by assumption) fun K hK'=>?_
 obtain ⟨v',w',hr,h6,h7,h8⟩:=run_append_own (P:=P) w base T o.type E i (.int k 0) 1 bytes et.und h2 h3 h4 h5 rfl (by decide) _ l.length _ hown ⟨bb,off,none⟩ ys.length c (ys.map fun (n:Nat)=>Value.int k n) (by simp)
  (Zbr hy _ rfl) (by intro u hu;simp only [List.mem_map] at hu;obtain ⟨n,_,rfl⟩:=hu;rfl) (by simpa [maxLen] using hn) hbytes hbase
 have hv:∃ a' cap',v' = .slice a' (l.length + ys.length) cap':=by
  rcases h6.2 with ⟨h9,h10⟩ | ⟨g,c',cur,h9,_⟩
  ·exact ⟨none,0,by rw [h9,h10]⟩
  ·exact ⟨_,_,h9⟩
 obtain ⟨a',cap',rfl⟩:=hv
 have hown':OwnN E k w' base a' cap' (l ++ ys):=by
  unfold OwnN;rw [List.length_append,List.map_append];exact h6
 have hbel:Below base w w':=Below.of_grown h7 hbase (by
  intro g hg
  exact (World.ownsRow.lt hown g hg).1)
 unfold Oper.wp
 simp [execOp,ho,resolve,invoke,builtin,hs,hx,hr,Result.andThen]
 exact hK' _ _ (h a' cap' w' hown' h7 hbel)
theorem appAnyN (et:ElemTy P T E k bytes) {w:World} {ops:Array Oper} {rest:List Oper} {o:Oper} {ac:Act} {Q:Exit -> Act -> World -> Prop} (hgd:o.guard = none) (s x:Operand)
  (ho:o.op = .call { callee:=.builtin .append,args:=#[s,x],argTypes:=#[T,T] }) {base:Nat} {a:Option Addr} {cap m c:Nat} {l ys:List Nat}
  (hs:ac.eval s = .slice a l.length cap) (hown:OwnN E k w base a cap l) {b:Option Addr} (hm:m = ys.length) (hx:ac.eval x = .slice b m c) (hy:RowN k w b c ys)
  (hn:l.length + m <= 9223372036854775807) (hbytes:(l.length + m) * bytes <= 140737488355328) (hbase:base <= w.heap.size)
  (h:∀ a' cap' w',OwnN E k w' base a' cap' (l ++ ys) -> w.grownBy w' (Value.slice a l.length cap).ownBlock -> Below base w w' -> wpList P ops Q rest (ac.put o.dst (.slice a' (l.length + m) cap')) w') :
  wpList P ops Q (o :: rest) ac w:=by
 by_cases hy0:0 < ys.length
 ·exact appN et hgd s x ho hs hown hm hx hy hy0 hn hbytes hbase h
 subst hm
 obtain rfl:ys = []:=List.eq_nil_of_length_eq_zero (by omega)
 obtain ⟨i,h2,h3,h4,h5⟩:=info_parts et.info
 have h':∀ a' cap' w',OwnN E k w' base a' cap' l -> w.grownBy w' (Value.slice a l.length cap).ownBlock -> Below base w w' -> wpList P ops Q rest (ac.put o.dst (.slice a' l.length cap')) w':=by
  intro a' cap' w' h6
  have:=h a' cap' w' (by simpa using h6)
  simpa using this
 refine wpList_plain (by assumption) fun K hK'=>?_
 cases b with
 | none =>
  obtain rfl:c = 0:=hy.2.1.2 rfl
  have hr:=run_append_owned_none (P:=P) w base T o.type E i 1 et.und h2 _ l.length _ hown
  unfold Oper.wp
  simp [execOp,ho,resolve,invoke,builtin,hs,hx,hr,Result.andThen]
  exact hK' _ _ (h' a cap w hown (World.grownBy.refl _ _) (Below.refl _ _))
 | some ad =>
  obtain ⟨v',w',hr,h6,h7,h8⟩:=run_append_own (P:=P) w base T o.type E i (.int k 0) 1 bytes et.und h2 h3 h4 h5 rfl (by decide) _ l.length _ hown ad 0 c [] (by simp)
   (by simp) (by simp) (by simpa [maxLen] using hn) (by simpa using hbytes) hbase
  have hv:∃ a' cap',v' = .slice a' l.length cap':=by
   rcases h6.2 with ⟨h9,h10⟩ | ⟨g,c',cur,h9,_⟩
   ·exact ⟨none,0,by rw [h9];simp at h10;rw [h10];rfl⟩
   ·exact ⟨_,_,h9⟩
  obtain ⟨a',cap',rfl⟩:=hv
  have hown':OwnN E k w' base a' cap' l:=by
   unfold OwnN;simpa using h6
  have hbel:Below base w w':=Below.of_grown h7 hbase (by
   intro g hg
   exact (World.ownsRow.lt hown g hg).1)
  unfold Oper.wp
  simp only [List.length_nil] at hx
  simp [execOp,ho,resolve,invoke,builtin,hs,hx,hr,Result.andThen]
  exact hK' _ _ (h' a' cap' w' hown' h7 hbel)
theorem app1N (et:ElemTy P T E k bytes) {w:World} {ops:Array Oper} {rest:List Oper} {o:Oper} {ac:Act} {Q:Exit -> Act -> World -> Prop} (hgd:o.guard = none) (s x:Operand)
  (ho:o.op = .call { callee:=.builtin .append,args:=#[s,x],argTypes:=#[T,T] }) {base:Nat} {a:Option Addr} {cap:Nat} {l:List Nat} {y:Nat} {c E':Nat}
  (hs:ac.eval s = .slice a l.length cap) (hown:OwnN E k w base a cap l) (hx:ac.eval x = .slice (some ⟨w.heap.size,0,none⟩) 1 c) (hc:1 <= c) (hc':c <= 9223372036854775807)
  (hn:l.length + 1 <= 9223372036854775807) (hbytes:(l.length + 1) * bytes <= 140737488355328) (hbase:base <= w.heap.size)
  (h:∀ a' cap' w',OwnN E k w' base a' cap' (l ++ [y]) -> w.grownBy w' (Value.slice a l.length cap).ownBlock -> Below base w w' -> wpList P ops Q rest (ac.put o.dst (.slice a' (l.length + 1) cap')) w') :
  wpList P ops Q (o :: rest) ac (w.alloc (.cells #[.int k y] E')):=by
 refine appN et hgd s x ho hs (hown.alloc _) (ys:=[y]) rfl hx ?_ (by simp) hn hbytes (by simp;omega) ?_
 ·refine ⟨by simpa using hc,⟨hc',fun hn=>by cases hn⟩,.inr ⟨w.heap.size,0,rfl,by simp,fun i hi=>?_⟩⟩
  obtain rfl:i = 0:=by simp at hi;omega
  simp [World.cell?_alloc_at]
 ·intro a' cap' w' h1 h2 h3
  refine h a' cap' w' h1 ⟨h2.os,h2.tape,h2.output,Nat.le_trans (by simp) h2.size,fun q hq hr=>(h2.block q (by simp;omega) hr).trans (Below.heap_alloc _ _ _ hq)⟩ (((Below.refl base w).alloc hbase _).trans h3)
end
section
variable {P : Program} {T E : TypeId} {k : IntKind} {bytes : Nat} {F : Fence} {dep : Nat}
theorem makeNIn (et:ElemTy P T E k bytes) {w:World} {ops:Array Oper} {rest:List Oper} {o:Oper} {a:Act} {Q:Exit -> Act -> World -> Prop}
  (hg:o.guard = none) (lo c:Operand) (hop:o.op = Op.makeSlice T lo c) (base:Nat) {kl kc:IntKind} {n:Nat} (hl:a.eval lo = .int kl n) (hc:a.eval c = .int kc n)
  (hb:bytes * n <= 281474976710656) (hn:n <= 9223372036854775807) (hbase:base <= w.heap.size)
  (hK:∀ w',OwnN E k w' base (some ⟨w.heap.size,0,none⟩) n (List.replicate n 0) -> w.grownBy w' none -> wpListIn F dep P ops Q rest (a.put o.dst (.slice (some ⟨w.heap.size,0,none⟩) n n)) w') :
  wpListIn F dep P ops Q (o :: rest) a w:=by
 obtain ⟨i,h2,h3,h4,h5⟩:=info_parts et.info
 refine wpListIn_plain (by assumption) fun K hK'=>?_
 obtain ⟨w',hrun,r1,r2⟩:=run_make_full (P:=P) w base T E i (.int k 0) 1 et.und h2 h3 h4 kl kc n (by rw [h5];exact hb) (by simpa [maxLen] using hn) hbase
 unfold Oper.wpIn
 refine ⟨by simp [Oper.about,hop],?_⟩
 rw [Oper.semAt_plain F _ _ (by rw [hop];intro c hc';cases hc')]
 simp [execOp,hop,hl,hc,hrun,Result.andThen]
 refine hK' _ _ (hK w' ?_ r2)
 unfold OwnN
 have hm:(madeCells (Value.int k 0).cells (n * 1)).toList = (List.replicate n (0:Nat)).map fun (n:Nat)=>Value.int k n:=by
  rw [Nat.mul_one];show (madeCells #[.int k 0] n).toList = _;rw [toList_madeCells_one];simp
 rw [List.length_replicate,<- hm]
 exact r1
end
section
variable {P : Program} {E : TypeId} {k : IntKind} {w w' : World} {base cap : Nat} {a : Option Addr} {l : List Int}
end
section
variable {P : Program} {T E : TypeId} {k : IntKind} {bytes : Nat}
end
section
variable {P : Program} {T E : TypeId} {k : IntKind} {bytes : Nat} {F : Fence} {dep : Nat}
end
def strOf (l:List Nat):ByteArray:=(l.map fun (n:Nat)=>(n:Int)).foldl (fun r n=>r.push (UInt8.ofNat n.toNat)) ByteArray.empty
theorem Zhw {P:Program} {src dst e:TypeId} {w:World} {a:Option Addr} {cap n:Nat} {l:List Nat} (hs:P.underlying src = some (.slice e)) (he:P.underlying e = some (.int .u8)) (hd:P.underlying dst = some .string) (hn:n = l.length) (h:RowN .u8 w a cap l) :
  (convert src dst (.slice a n cap)).run P w = .ok (.string (strOf l)) w:=by
 subst hn
 rw [run_convert_bytes_string w src dst e a _ _ hs he hd]
 cases a with
 | none =>
  obtain ⟨h1,h2,rfl | ⟨b,off,h3,_⟩⟩:=h
  ·rfl
  ·cases h3
 | some ad =>
  refine run_bytesToString w ad _ _ _ ?_
  have hr:=run_loadCells_list (P:=P) (w:=w) ad (l.map fun (n:Nat)=>Value.int .u8 n) (Zbr h ad rfl)
  simp only [List.length_map] at hr
  rw [hr]
  simp [Function.comp_def]
end Go.Proofs.YtendielanacflaaGreat

namespace Go.Proofs.YtendielanacflaaGreat
open Go.RowKit
structure Only (T:Nat -> Prop) (A B:World):Prop where
 os:B.os = A.os
 tape:B.tape = A.tape
 output:B.output = A.output
 size:A.heap.size <= B.heap.size
 block:∀ k,k < A.heap.size -> ¬ T k -> B.heap[k]? = A.heap[k]?
theorem Only.refl (T:Nat -> Prop) (A:World):Only T A A:=⟨rfl,rfl,rfl,Nat.le_refl _,fun _ _ _=>rfl⟩
theorem Only.trans {T:Nat -> Prop} {A B C:World} (h:Only T A B) (k:Only T B C):Only T A C :=
 ⟨k.os.trans h.os,k.tape.trans h.tape,k.output.trans h.output,Nat.le_trans h.size k.size,fun i hi hT=>(k.block i (Nat.lt_of_lt_of_le hi h.size) hT).trans (h.block i hi hT)⟩
theorem Only.mono {T T':Nat -> Prop} {A B:World} (h:Only T A B) (hT:∀ k,k < A.heap.size -> T k -> T' k):Only T' A B :=
 ⟨h.os,h.tape,h.output,h.size,fun i hi hn=>h.block i hi fun ht=>hn (hT i hi ht)⟩
theorem Only.alloc {T:Nat -> Prop} {A B:World} (h:Only T A B) (o:Obj):Only T A (B.alloc o) :=
 h.trans ⟨rfl,rfl,rfl,by simp,fun k hk _=>Below.heap_alloc _ _ _ hk⟩
theorem Only.drew {T:Nat -> Prop} {A B:World} (h:Only T A B):Only T A B.drew:=⟨h.os,h.tape,h.output,h.size,h.block⟩
theorem Only.setCell {T:Nat -> Prop} {A B:World} (h:Only T A B) {p:Addr} (hp:T p.block \/ A.heap.size <= p.block) (u:Value):Only T A (B.setCell p u):=by
 refine ⟨h.os,h.tape,h.output,by simpa [World.setCell] using h.size,fun k hk hT=>?_⟩
 rw [Below.heap_setCell _ _ _ _ (by rcases hp with hp | hp <;> first | omega | exact fun e=>hT (e ▸ hp))]
 exact h.block k hk hT
theorem Only.below {T:Nat -> Prop} {A B C:World} (h:Only T A B) (k:Below B.heap.size B C):Only T A C :=
 h.trans ⟨k.os,k.tape,k.output,k.size,fun i hi _=>k.block i hi⟩
theorem Only.grown {T:Nat -> Prop} {A B C:World} {row:Option Nat} (h:Only T A B) (k:B.grownBy C row) (hr:∀ r,row = some r -> T r \/ A.heap.size <= r):Only T A C:=by
 refine ⟨k.os.trans h.os,k.tape.trans h.tape,k.output.trans h.output,Nat.le_trans h.size k.size,fun i hi hT=>?_⟩
 rw [k.block i (Nat.lt_of_lt_of_le hi h.size) (fun e=>by rcases hr i e.symm with h' | h' <;> first | omega | exact hT h')]
 exact h.block i hi hT
theorem Below.only {n:Nat} {T:Nat -> Prop} {w A B:World} (h:Below n w A) (k:Only T A B) (hn:n <= w.heap.size) (hT:∀ b,T b -> n <= b):Below n w B :=
 h.trans ⟨k.os,k.tape,k.output,k.size,fun i hi=>k.block i (by have:=h.size;omega) (fun t=>by have:=hT i t;omega)⟩
theorem Below.put {n:Nat} {w A:World} (h:Below n w A) (hn:n <= w.heap.size) {l:Nat} {o:Obj} (hl:A.heap[l]? = some o) (hN:n <= l) (o':Obj):Below n w (A.putObj l o') :=
 h.grown (grownBy_putObj' A l o') (by have:=h.size;omega) (fun k e=>by cases e;exact hN)
theorem Zap {A:World} {b l:Nat} {o o':Obj} {c:Array Value} {e:TypeId} {z:Nat × Nat} (h:A.heap[b]? = some (.cells c e z)) (hl:A.heap[l]? = some o) (ho:o.isCells = false):(A.putObj l o').heap[b]? = some (.cells c e z) :=
 (World.putObj_heap_other (by intro e';subst e';rw [h] at hl;cases hl;cases ho)).trans h
theorem Zah {T:Nat -> Prop} {A B:World} {b:Nat} {o:Obj} (h:A.heap[b]? = some o) (k:Only T A B) (hT:¬ T b):B.heap[b]? = some o :=
 (k.block b (lt_of_block h) hT).trans h
theorem OwnN.only {T:Nat -> Prop} {E:TypeId} {k:IntKind} {A B:World} {base cap:Nat} {a:Option Addr} {l:List Nat} (h:OwnN E k A base a cap l) (ho:Only T A B) (hT:∀ b,base <= b -> ¬ T b):OwnN E k B base a cap l:=by
 refine ⟨h.1,?_⟩
 rcases h.2 with h2 | ⟨g,c,cur,h1,h2,h3,h4⟩
 ·exact .inl h2
 ·exact .inr ⟨g,c,cur,h1,h2,Zah h3 ho (hT g h2),h4⟩
theorem OwnN.put {E:TypeId} {k:IntKind} {A:World} {base cap:Nat} {a:Option Addr} {l:List Nat} (h:OwnN E k A base a cap l) {r:Nat} {o:Obj} (hl:A.heap[r]? = some o) (ho:o.isCells = false) (o':Obj):OwnN E k (A.putObj r o') base a cap l:=by
 refine ⟨h.1,?_⟩
 rcases h.2 with h2 | ⟨g,c,cur,h1,h2,h3,h4⟩
 ·exact .inl h2
 ·exact .inr ⟨g,c,cur,h1,h2,Zap h3 hl ho,h4⟩
structure SameOn (S:Nat -> Prop) (A B:World):Prop where
 size:A.heap.size <= B.heap.size
 same:∀ b,S b -> B.heap[b]? = A.heap[b]?
theorem SameOn.refl (S:Nat -> Prop) (A:World):SameOn S A A:=⟨Nat.le_refl _,fun _ _=>rfl⟩
theorem SameOn.trans {S:Nat -> Prop} {A B C:World} (h:SameOn S A B) (k:SameOn S B C):SameOn S A C:=⟨Nat.le_trans h.size k.size,fun b hb=>(k.same b hb).trans (h.same b hb)⟩
theorem Only.sameOn {S T:Nat -> Prop} {A B:World} (h:Only T A B) (hS:∀ b,S b -> b < A.heap.size /\ ¬ T b):SameOn S A B:=⟨h.size,fun b hb=>h.block b (hS b hb).1 (hS b hb).2⟩
def Yields (P:Program) (gf:Nat) (lb:Array Value) (n:Nat) (row:Nat -> Array Value) (S T:Nat -> Prop) (w:World):Prop :=
 ∀ (l:Nat) (J Jx:Nat -> World -> Prop) (W:World),SameOn S w W →
  (∀ i A B,J i A -> Only T A B -> J i B) -> (∀ i A B,Jx i A -> Only T A B -> Jx i B) →
  (∀ i A,i < n -> J i A -> YieldAt Fence.wide 9 P l (row i) A fun e B =>
   (e = .returned (.bool true) /\ J (i + 1) B /\ SameOn S A B) \/ (e = .returned (.bool false) /\ Jx (i + 1) B)) →
  J 0 W →
  CallsIn Fence.wide 9 P gf (#[.func (.yield l) #[] #[]] ++ lb) W fun e B=>(∃ v,e = .returned v) /\ (J n B \/ ∃ i,i < n /\ Jx (i + 1) B)
def roundEnds (N:Nat) (S:Nat -> Prop) (I:Nat -> World -> Prop) (Ix:Code -> Nat -> World -> Prop) (i:Nat) (A:World):Exit -> Act -> World -> Prop
 | .normal,_,B=>KeepsFrom N A B /\ SameOn S A B /\ I (i + 1) B
 | .ret,_,B=>KeepsFrom N A B /\ Ix .ret (i + 1) B
 | .exit id,_,B=>KeepsFrom N A B /\ Ix (.exit id) (i + 1) B
 | .goto t,_,B=>KeepsFrom N A B /\ Ix (.goto t) (i + 1) B
 | .panic _,_,_=>False
 | .outgrown,_,_=>False
theorem Zhg {n m:Nat} {P:Program} {l:Nat} {args:Array Value} {W:World} {R:Ending -> World -> Prop} (h:YieldAt Fence.wide n P l args W R):YieldAt Fence.wide m P l args W R:=by
 obtain ⟨fn,tmps,assign,body,hy,hF,hR⟩:=h
 exact ⟨fn,tmps,assign,body,hy,hF,fun c cs _=>hR c cs (room_wide _)⟩
theorem Zjk {P:Program} {g:Operand} {ps:Array Tmp} {assign body:Code} {Q:Exit -> Act -> World -> Prop} {a:Act} {w:World}
  {gf:Nat} {lb:Array Value} (hg:a.eval g = .func (.func gf) #[] lb) (eg:∀ args w,(callFunc gf args).run P w = .ok (.enter gf args) w)
  {n:Nat} {row:Nat -> Array Value} {S T:Nat -> Prop} {w0:World} (hy:Yields P gf lb n row S T w0) (hsame:SameOn S w0 w) (hS:∀ b,S b -> b < w.heap.size) (hT:∀ b,T b -> b < w.heap.size)
  (hps:∀ i,(row i).size = ps.size)
  (I:Nat -> World -> Prop) (Ix:Code -> Nat -> World -> Prop)
  (hI:∀ i A B,I i A -> Only T A B -> I i B) (hIp:∀ i A l o o',I i A -> w.heap.size <= l -> A.heap[l]? = some o -> o.isCells = false -> I i (A.putObj l o'))
  (hX:∀ c i A B,Ix c i A -> Only T A B -> Ix c i B) (hXp:∀ c i A l o o',Ix c i A -> w.heap.size <= l -> A.heap[l]? = some o -> o.isCells = false -> Ix c i (A.putObj l o'))
  (h0:I 0 w) (a₁:Nat -> Act)
  (hassign:∀ (l i:Nat) (W:World) (K:Act -> World -> Prop),K (a₁ i) W →
   assign.wpIn (Fence.wide.inRound l) 9 P (Exit.then K (fun _ _ _=>False)) { tmps:=(ps.zip (row i)).foldl (fun t (p,v)=>t.setIfInBounds p v) a.tmps,defers:=[] } W)
  (hbody:∀ (l i:Nat) (hi:i < n) (A:World),w.heap.size + 2 <= A.heap.size -> I i A -> body.wpIn (Fence.wide.inRound l) 9 P (roundEnds w.heap.size S I Ix i A) (a₁ i) A)
  (hdone:∀ (A:World),I n A -> A.heap[w.heap.size]? = some (.deferred (some [])) -> Q .normal { a with defers:={ target:=.collected w.heap.size,args:=#[] } :: a.defers } A)
  (hstop:∀ (c:Code) (i:Nat) (A:World),i < n -> Ix c (i + 1) A -> A.heap[w.heap.size]? = some (.deferred (some [])) -> c.wpIn Fence.wide 9 P Q { a with defers:={ target:=.collected w.heap.size,args:=#[] } :: a.defers } A) :
  (Code.rangeFunc g ps assign body).wpIn Fence.wide 9 P Q a w:=by
 refine wpIn_rangeFunc ?_
 intro fn hfn
 obtain ⟨rec,hrec⟩:∃ rec:LoopState -> Option Code -> Loop,rec = fun st pe=>{ state:=st,pending:=pe,fn,tmps:=a.tmps,params:=ps,assign,body,defers:=w.heap.size }:=⟨_,rfl⟩
 obtain ⟨W1,hW1⟩:∃ W1,(w.alloc (.deferred (some []))).alloc (.loop (rec .ready none)) = W1:=⟨_,rfl⟩
 have hs1:W1.heap.size = w.heap.size + 2:=by rw [<- hW1];simp
 have hL1:W1.heap[w.heap.size + 1]? = some (.loop (rec .ready none)):=by
  rw [<- hW1];have:=World.alloc_heap_new (w.alloc (.deferred (some []))) (.loop (rec .ready none));rwa [World.size_alloc] at this
 have hK1:W1.heap[w.heap.size]? = some (.deferred (some [])):=by
  rw [<- hW1];exact (Below.heap_alloc _ _ _ (by simp)).trans (World.alloc_heap_new w _)
 have hI1:I 0 W1:=hI 0 w W1 h0 (by rw [<- hW1];exact ((Only.refl T w).alloc _).alloc _)
 have hsame1:SameOn S w0 W1:=⟨by have:=hsame.size;omega,fun b hb=>by
  rw [<- hW1,Below.heap_alloc _ _ _ (by have:=hS b hb;simp;omega),Below.heap_alloc _ _ _ (hS b hb)]
  exact hsame.same b hb⟩
 refine ⟨w.heap.size + 1,[{ target:=.collected w.heap.size,args:=#[] }],W1,{ target:=.fn (.func gf) lb,args:=#[.func (.yield (w.heap.size + 1)) #[] #[]] },W1,gf,
  #[.func (.yield (w.heap.size + 1)) #[] #[]] ++ lb,W1,?_,?_,?_,?_,fun h=>by simp [Fence.wide] at h,?_⟩
 ·rw [<- hW1,hrec];exact run_enterLoop_outer _ _ _ _ _
 ·simp only [resolve,hg]
  simp [go_sem]
 ·intro f' hf';trivial
 ·simp [invoke,go_sem,eg]
 ·have hyy:=hy (w.heap.size + 1)
   (fun i A=>I i A /\ w.heap.size + 2 <= A.heap.size /\ A.heap[w.heap.size + 1]? = some (.loop (rec .ready none)) /\ A.heap[w.heap.size]? = some (.deferred (some [])))
   (fun i A=>∃ c,Ix c i A /\ A.heap[w.heap.size + 1]? = some (.loop (rec .done (some c))) /\ A.heap[w.heap.size]? = some (.deferred (some [])))
   W1 hsame1
   (fun i A B h ho=>⟨hI i A B h.1 ho,Nat.le_trans h.2.1 ho.size,Zah h.2.2.1 ho (fun t=>by have:=hT _ t;omega),Zah h.2.2.2 ho (fun t=>by have:=hT _ t;omega)⟩)
   (fun i A B h ho=>by
    obtain ⟨c,hc,hl,hk⟩:=h
    exact ⟨c,hX c i A B hc ho,Zah hl ho (fun t=>by have:=hT _ t;omega),Zah hk ho (fun t=>by have:=hT _ t;omega)⟩)
   ?_ ⟨hI1,by omega,hL1,hK1⟩
  ·refine (callsIn_wide.2 (callsIn_wide.1 hyy)).mono ?_
   rintro e W2 ⟨⟨v,rfl⟩,(⟨hi,_,hl,hk⟩ | ⟨i,hlt,c,hi,hl,hk⟩)⟩
   ·exact ⟨none,_,by have:=run_endLoop (P:=P) hl (by rw [hrec];simp);rw [hrec] at this;exact this,hdone _ (hIp _ _ _ _ _ hi (by omega) hl rfl) ((World.putObj_heap_other (by omega)).trans hk)⟩
   ·exact ⟨some c,_,by have:=run_endLoop (P:=P) hl (by rw [hrec];simp);rw [hrec] at this;exact this,hstop c i _ hlt (hXp _ _ _ _ _ _ hi (by omega) hl rfl) ((World.putObj_heap_other (by omega)).trans hk)⟩
  ·rintro i W hi ⟨hii,hsz,hl,hk⟩
   have hy':=run_yield (P:=P) (args:=row i) hl (by rw [hrec];exact hps _)
   rw [hrec] at hy'
   refine Zhg (n:=9) ⟨fn,_,assign,body,hy',roundIn_of_wpIn hfn (hassign _ i W _ ⟨_,run_beginRound hl (by rw [hrec]),?_⟩)⟩
   have hlt:w.heap.size + 1 < W.heap.size:=by omega
   have hl2:(W.putObj (w.heap.size + 1) (.loop { rec .ready none with state:=.busy })).heap[w.heap.size + 1]? = some (.loop { rec .ready none with state:=.busy }):=World.putObj_heap_same hlt
   have hk2:(W.putObj (w.heap.size + 1) (.loop { rec .ready none with state:=.busy })).heap[w.heap.size]? = some (.deferred (some [])):=(World.putObj_heap_other (by omega)).trans hk
   have hS2:∀ (A:World) (o:Obj),SameOn S A (A.putObj (w.heap.size + 1) o):=fun A o=>⟨by rw [World.putObj_size];exact Nat.le_refl _,fun b hb=>World.putObj_heap_other (by have:=hS b hb;omega)⟩
   refine wpIn_mono (hbody _ i hi _ (by rw [World.putObj_size];exact hsz) (hIp _ _ _ _ _ hii (by omega) hl rfl)) ?_
   have fin:∀ (jump:Option Code) (W3:World),KeepsFrom w.heap.size (W.putObj (w.heap.size + 1) (.loop { rec .ready none with state:=.busy })) W3 →
     (Instr.endRound (w.heap.size + 1) jump).run P W3 = .ok (.bool jump.isNone) (W3.putObj (w.heap.size + 1) (.loop (rec (if jump.isNone then .ready else .done) jump))) ∧
     W3.heap[w.heap.size + 1]? = some (.loop { rec .ready none with state:=.busy }) ∧
     (W3.putObj (w.heap.size + 1) (.loop (rec (if jump.isNone then .ready else .done) jump))).heap[w.heap.size + 1]? = some (.loop (rec (if jump.isNone then .ready else .done) jump)) ∧
     (W3.putObj (w.heap.size + 1) (.loop (rec (if jump.isNone then .ready else .done) jump))).heap[w.heap.size]? = some (.deferred (some [])) /\ w.heap.size + 2 <= (W3.putObj (w.heap.size + 1) (.loop (rec (if jump.isNone then .ready else .done) jump))).heap.size:=fun jump W3 hk3=>by
    have hl3:=hk3.same _ _ (by omega) hl2 rfl
    have:=run_endRound (P:=P) jump hl3
    rw [hrec] at this ⊢
    exact ⟨this,by rw [hrec] at hl3;exact hl3,World.putObj_heap_same (Array.getElem?_eq_some_iff.1 hl3).1,(World.putObj_heap_other (by omega)).trans (hk3.same _ _ (by omega) hk2 rfl),by rw [World.putObj_size];have:=(Array.getElem?_eq_some_iff.1 hl3).1;omega⟩
   rintro e a3 W3 hp
   cases e with
   | normal =>
    obtain ⟨hk3,hkp3,hi3⟩:=hp
    obtain ⟨hr,hl3,hl4,hk4,hz4⟩:=fin none W3 hk3
    exact ⟨_,_,hr,.inl ⟨rfl,⟨hIp _ _ _ _ _ hi3 (by omega) hl3 rfl,hz4,hl4,hk4⟩,((hS2 _ _).trans hkp3).trans (hS2 _ _)⟩⟩
   | ret =>
    obtain ⟨hk3,hi3⟩:=hp
    obtain ⟨hr,hl3,hl4,hk4,_⟩:=fin (some .ret) W3 hk3
    exact ⟨_,_,hr,.inr ⟨rfl,.ret,hXp _ _ _ _ _ _ hi3 (by omega) hl3 rfl,hl4,hk4⟩⟩
   | exit id =>
    obtain ⟨hk3,hi3⟩:=hp
    obtain ⟨hr,hl3,hl4,hk4,_⟩:=fin (some (.exit id)) W3 hk3
    exact ⟨_,_,hr,.inr ⟨rfl,.exit id,hXp _ _ _ _ _ _ hi3 (by omega) hl3 rfl,hl4,hk4⟩⟩
   | goto t =>
    obtain ⟨hk3,hi3⟩:=hp
    obtain ⟨hr,hl3,hl4,hk4,_⟩:=fin (some (.goto t)) W3 hk3
    exact ⟨_,_,hr,.inr ⟨rfl,.goto t,hXp _ _ _ _ _ _ hi3 (by omega) hl3 rfl,hl4,hk4⟩⟩
   | panic ch=>exact hp.elim
   | outgrown=>exact hp.elim
end Go.Proofs.YtendielanacflaaGreat

namespace Go.Proofs.YtendielanacflaaGreat
open Go
section
variable {P : Program} {ops : Array Oper} {Q : Exit → Act → World → Prop} {md : Region.Mode}
def leftOf (ops:Array Oper) (listed:Array Bool):Nat:=((List.range ops.size).filter fun i=>!listed.getD i true).length
theorem Zjc {listed:Array Bool} (h:leftOf ops listed = 0):Region.ready md ops listed = []:=by
 have h1:((List.range ops.size).filter fun i=>!listed.getD i true) = []:=List.eq_nil_of_length_eq_zero h
 rw [List.filter_eq_nil_iff] at h1
 unfold Region.ready
 rw [List.filter_eq_nil_iff]
 intro i hi hc
 rw [Bool.and_eq_true] at hc
 exact h1 i hi hc.1
theorem Zxj {α:Type _} (p q:α -> Bool):∀ (l:List α),(∀ x ∈ l,q x = true -> p x = true) -> (∃ x ∈ l,p x = true /\ q x = false) -> (l.filter q).length < (l.filter p).length:=by
 intro l
 induction l with
 | nil=>rintro - ⟨x,hx,-⟩;cases hx
 | cons y t ih =>
  intro h hex
  have hle:(t.filter q).length <= (t.filter p).length:=by
   clear ih hex
   have h':∀ x ∈ t,q x = true -> p x = true:=fun x hx=>h x (by simp [hx])
   clear h
   induction t with
   | nil=>simp
   | cons z t ih =>
    have h1:=h' z (by simp)
    have h2:=ih (fun x hx=>h' x (by simp [hx]))
    simp only [List.filter_cons]
    cases hq:q z <;> cases hp:p z <;> simp_all <;> omega
  have hy:=h y (by simp)
  by_cases hc:p y = true /\ q y = false
  ·simp only [List.filter_cons,hc.1,hc.2];simp;omega
  ·obtain ⟨x,hx,hpx⟩:=hex
   have hxt:x ∈ t:=by
    rcases List.mem_cons.1 hx with rfl | hx
    ·exact absurd hpx hc
    ·exact hx
   have:=ih (fun x hx=>h x (by simp [hx])) ⟨x,hxt,hpx⟩
   simp only [List.filter_cons]
   cases hq:q y <;> cases hp:p y <;> simp_all
theorem Zkp {listed:Array Bool} {i:Nat} (hi:i ∈ Region.ready md ops listed):leftOf ops (listed.setIfInBounds i true) < leftOf ops listed:=by
 have hm:=hi
 unfold Region.ready at hm
 rw [List.mem_filter,Bool.and_eq_true] at hm
 have h0:listed.getD i true = false:=by simpa using hm.2.1
 refine Zxj _ _ _ (fun x hx hq=>?_) ⟨i,hm.1,by rw [h0];rfl,?_⟩
 ·by_cases hxi:i = x
  ·subst hxi;rw [h0];rfl
  ·rw [getD_set_ne true hxi] at hq;exact hq
 ·have hlt:i < listed.size:=by
   rcases Nat.lt_or_ge i listed.size with h' | h'
   ·exact h'
   ·simp [Array.getElem?_eq_none h'] at h0
  simp [hlt]
theorem Zaaw (I:Array Bool -> Act -> World -> Prop)
  (step:∀ listed a w i,I listed a w -> i ∈ Region.ready md ops listed -> wpOp P ops Q i (I (listed.setIfInBounds i true)) a w)
  (done:∀ listed a w,I listed a w -> Region.ready md ops listed = [] -> Q .normal a w) :
  ∀ fuel listed a w,leftOf ops listed <= fuel -> I listed a w -> wpAny P md ops Q fuel listed a w:=by
 intro fuel
 induction fuel with
 | zero=>intro listed a w hl hI;have:=Zjc (md:=md) (ops:=ops) (listed:=listed) (by omega);exact ⟨this,done _ _ _ hI this⟩
 | succ fuel ih =>
  intro listed a w hl hI
  refine ⟨fun h=>done _ _ _ hI h,fun i hi=>?_⟩
  have:=Zkp hi
  exact wpOp_mono (fun a' w' h=>ih _ _ _ (by omega) h) (step _ _ _ _ hI hi)
theorem Zsg {F:Fence} {n:Nat} (I:Array Bool -> Act -> World -> Prop)
  (step:∀ listed a w i,I listed a w -> i ∈ Region.ready md ops listed -> wpOpIn F n P ops Q i (I (listed.setIfInBounds i true)) a w)
  (done:∀ listed a w,I listed a w -> Region.ready md ops listed = [] -> Q .normal a w) :
  ∀ fuel listed a w,leftOf ops listed <= fuel -> I listed a w -> wpAnyIn F n P md ops Q fuel listed a w:=by
 intro fuel
 induction fuel with
 | zero=>intro listed a w hl hI;have:=Zjc (md:=md) (ops:=ops) (listed:=listed) (by omega);exact ⟨this,done _ _ _ hI this⟩
 | succ fuel ih =>
  intro listed a w hl hI
  refine ⟨fun h=>done _ _ _ hI h,fun i hi=>?_⟩
  have:=Zkp hi
  exact wpOpIn_mono (fun a' w' h=>ih _ _ _ (by omega) h) (step _ _ _ _ hI hi)
theorem Zhl (ops:Array Oper):leftOf ops (Array.replicate ops.size false) <= ops.size:=by
 unfold leftOf
 exact Nat.le_trans (List.length_filter_le _ _) (by simp)
def backB (md:Region.Mode) (ops:Array Oper):Bool:=(List.range ops.size).all fun i=>((ops[i]?).map fun o=>o.after.all fun e=>!Region.binds md e || decide (e.on < i)).getD true
theorem Zkh {listed:Array Bool} (hs:listed.size = ops.size) (hb:∀ (i:Nat) (o:Oper),ops[i]? = some o -> ∀ e ∈ o.after,Region.binds md e = true -> e.on < i)
  (hr:Region.ready md ops listed = []):∀ i,i < ops.size -> listed.getD i false = true:=by
 intro i
 induction i using Nat.strongRecOn with
 | ind i ih =>
  intro hi
  cases h:listed.getD i false with
  | true=>rfl
  | false =>
   exfalso
   have h1:i ∈ Region.ready md ops listed:=by
    rw [mem_ready]
    have hlt:i < listed.size:=by omega
    refine ⟨by simpa [hlt] using h,_,Array.getElem?_eq_getElem hi,fun e he hbe=>?_⟩
    have:=hb i _ (Array.getElem?_eq_getElem hi) e he hbe
    exact ih _ this (by omega)
   rw [hr] at h1;cases h1
def dstsL (ops:Array Oper):List Tmp:=ops.toList.filterMap (·.dst)
def spread (ds:List Nat) (f:Nat -> Value):Nat -> List Value -> List Value
 | _,[]=>[]
 | n,x :: t=>(bif ds.contains n then f n else x) :: spread ds f (n + 1) t
theorem Zfd? (ds:List Nat) (f:Nat -> Value):∀ (l:List Value) (n t:Nat),(spread ds f n l)[t]? = (l[t]?).map fun x=>bif ds.contains (n + t) then f (n + t) else x
 | [],_,_=>by simp [spread]
 | x :: l,n,0=>by simp [spread]
 | x :: l,n,t + 1=>by
  simp only [spread,List.getElem?_cons_succ,Zfd? ds f l (n + 1) t]
  rw [show n + 1 + t = n + (t + 1) from by omega]
def anc (md:Region.Mode) (ops:Array Oper) (i:Nat):Nat -> Nat -> Bool
 | 0,_=>false
 | fuel + 1,j=>((ops[j]?).map fun o=>o.after.any fun e=>Region.binds md e && (e.on == i || anc md ops i fuel e.on)).getD false
def Shut (md:Region.Mode) (ops:Array Oper) (listed:Array Bool):Prop :=
 ∀ (j:Nat) (o:Oper),ops[j]? = some o -> listed.getD j false = true -> ∀ e ∈ o.after,Region.binds md e = true -> listed.getD e.on false = true
theorem Shut.anc {listed:Array Bool} (h:Shut md ops listed) (i:Nat):∀ fuel j,anc md ops i fuel j = true -> listed.getD j false = true -> listed.getD i false = true:=by
 intro fuel
 induction fuel with
 | zero=>intro j hj;cases hj
 | succ fuel ih =>
  intro j hj hl
  unfold Go.Proofs.YtendielanacflaaGreat.anc at hj
  cases ho:ops[j]? with
  | none=>simp [ho] at hj
  | some o =>
   simp only [ho,Option.map_some,Option.getD_some] at hj
   obtain ⟨e,he,hb⟩:=Array.any_eq_true'.1 hj
   rw [Bool.and_eq_true,Bool.or_eq_true] at hb
   have h1:=h j o ho hl e he hb.1
   rcases hb.2 with h2 | h2
   ·rw [beq_iff_eq] at h2;rw [<- h2];exact h1
   ·exact ih _ h2 h1
theorem Shut.ready {listed:Array Bool} (h:Shut md ops listed) {i k:Nat} {o:Oper} (hi:ops[i]? = some o) (hw:∀ e ∈ o.after,Region.binds md e = true -> listed.getD e.on false = true) :
  ∀ fuel,Go.Proofs.YtendielanacflaaGreat.anc md ops k fuel i = true -> listed.getD k false = true:=by
 intro fuel hf
 cases fuel with
 | zero=>cases hf
 | succ fuel =>
  unfold Go.Proofs.YtendielanacflaaGreat.anc at hf
  simp only [hi,Option.map_some,Option.getD_some] at hf
  obtain ⟨e,he,hb⟩:=Array.any_eq_true'.1 hf
  rw [Bool.and_eq_true,Bool.or_eq_true] at hb
  have h1:=hw e he hb.1
  rcases hb.2 with h2 | h2
  ·rw [beq_iff_eq] at h2;rw [<- h2];exact h1
  ·exact h.anc k _ _ h2 h1
def wantE (md:Region.Mode) (e:Edge):Bool:=Region.binds md e && (match e.ground with | .data=>true | _=>false)
theorem Zdf {e:Edge} (h:wantE md e = true):Region.binds md e = true:=by unfold wantE at h;rw [Bool.and_eq_true] at h;exact h.1
def usedB (md:Region.Mode) (ops:Array Oper) (fin:Nat -> Bool) (i j:Nat):Bool :=
 !(i == j) && !(anc md ops i ops.size j) && (fin j || (List.range ops.size).any fun k=>!(k == i) && !(anc md ops k ops.size i) && ((ops[k]?).map fun o=>o.after.any fun e=>wantE md e && e.on == j).getD false)
def Wants (md:Region.Mode) (ops:Array Oper) (fin:Nat -> Bool) (listed:Array Bool) (j:Nat):Prop :=
 fin j = true \/ ∃ (k:Nat) (o:Oper) (e:Edge),ops[k]? = some o /\ listed.getD k true = false /\ e ∈ o.after /\ wantE md e = true /\ e.on = j
theorem Wants.used {fin:Nat -> Bool} {listed:Array Bool} {i j:Nat} {oi:Oper} (hij:i ≠ j) (hoi:ops[i]? = some oi) (hwi:∀ e ∈ oi.after,Region.binds md e = true -> listed.getD e.on false = true) (hi:i < listed.size) (hsh:Shut md ops listed) (hun:listed.getD i true = false) (hlj:listed.getD j false = true) (h:Wants md ops fin (listed.setIfInBounds i true) j):Wants md ops fin listed j /\ usedB md ops fin i j = true:=by
 have hna:anc md ops i ops.size j = false:=by
  cases hc:anc md ops i ops.size j with
  | false=>rfl
  | true =>
   have:=hsh.anc i _ _ hc hlj
   simp [hi] at this hun
   rw [hun] at this;cases this
 have hij':(i == j) = false:=by simpa using hij
 unfold usedB
 rw [hna,hij',Bool.not_false,Bool.true_and,Bool.true_and]
 rcases h with h | ⟨k,o,e,hk,hl,he,hb,hj⟩
 ·exact ⟨.inl h,by simp [h]⟩
 ·have hki:k ≠ i:=fun hc=>by
   subst hc;simp [hi] at hl
  rw [getD_set_ne true (Ne.symm hki)] at hl
  have hnk:anc md ops k ops.size i = false:=by
   cases hc:anc md ops k ops.size i with
   | false=>rfl
   | true =>
    have h1:=hsh.ready hoi hwi _ hc
    have hk2:k < listed.size:=by
     rcases Nat.lt_or_ge k listed.size with h' | h'
     ·exact h'
     ·simp [Array.getElem?_eq_none h'] at h1
    simp [hk2] at h1 hl
    rw [h1] at hl;cases hl
  refine ⟨.inr ⟨k,o,e,hk,hl,he,hb,hj⟩,?_⟩
  rw [Bool.or_eq_true];right
  rw [List.any_eq_true]
  refine ⟨k,by simpa using (Array.getElem?_eq_some_iff.1 hk).1,?_⟩
  simp only [hk,Option.map_some,Option.getD_some,Bool.and_eq_true,Bool.not_eq_true',beq_eq_false_iff_ne]
  refine ⟨⟨hki,hnk⟩,?_⟩
  rw [Array.any_eq_true']
  exact ⟨e,he,by simp [hb,hj]⟩
def leftBy (a:Act) (o:Oper):Value:=match o.dst with | some d=>a.tmps.getD d undef | none=>undef
structure FlowAt (md:Region.Mode) (ops:Array Oper) (fin:Nat -> Bool) (R:Array Bool -> World -> Prop) (V:Nat -> Value -> World -> Prop) (D:Nat -> Nat -> Value -> Value -> Prop) (a0:Act) (listed:Array Bool) (a:Act) (w:World):Prop where
 rel:R listed w
 size:a.tmps.size = a0.tmps.size
 defers:a.defers = a0.defers
 out:∀ t,t ∉ dstsL ops -> a.tmps.getD t undef = a0.tmps.getD t undef
 old:∀ (j:Nat) (oj:Oper) (d:Tmp),ops[j]? = some oj -> oj.dst = some d -> listed.getD j false = false -> a.tmps.getD d undef = a0.tmps.getD d undef
 len:listed.size = ops.size
 shut:Shut md ops listed
 val:∀ (i:Nat) (o:Oper),ops[i]? = some o -> listed.getD i false = true -> Wants md ops fin listed i -> V i (leftBy a o) w
 apart:∀ (i j:Nat) (o o':Oper),ops[i]? = some o -> ops[j]? = some o' -> listed.getD i false = true -> listed.getD j false = true -> Wants md ops fin listed i -> Wants md ops fin listed j -> i ≠ j -> D i j (leftBy a o) (leftBy a o')
theorem Zoo {i:Nat} {o:Oper} {d:Tmp} (h:ops[i]? = some o) (hd:o.dst = some d):d ∈ dstsL ops:=by
 unfold dstsL
 rw [List.mem_filterMap]
 exact ⟨o,by simpa using Array.mem_of_getElem? h,hd⟩
structure OneEach (ops:Array Oper) (n:Nat):Prop where
 one:∀ (i j:Nat) (oi oj:Oper) (d:Tmp),ops[i]? = some oi -> ops[j]? = some oj -> oi.dst = some d -> oj.dst = some d -> i = j
 fits:∀ d ∈ dstsL ops,d < n
theorem OneEach.mk' {n:Nat} (h:((List.range ops.size).all fun i=>(List.range ops.size).all fun j=>i == j || (match (ops[i]?).bind (·.dst),(ops[j]?).bind (·.dst) with | some d,some e=>!(d == e) | _,_=>true)) = true)
  (hf:((dstsL ops).all fun d=>d < n) = true):OneEach ops n where
 one i j oi oj d hi hj di dj:=by
  rw [List.all_eq_true] at h
  have h1:=h i (by simpa using (Array.getElem?_eq_some_iff.1 hi).1)
  rw [List.all_eq_true] at h1
  have h2:=h1 j (by simpa using (Array.getElem?_eq_some_iff.1 hj).1)
  simpa [hi,hj,di,dj] using h2
 fits d hd:=by
  rw [List.all_eq_true] at hf
  simpa using hf d hd
theorem Zco {n:Nat} {a:Act} {i j:Nat} {o oj:Oper} {v:Value} (h1:OneEach ops n) (hi:ops[i]? = some o) (hj:ops[j]? = some oj) (hij:i ≠ j):leftBy (a.put o.dst v) oj = leftBy a oj:=by
 unfold leftBy
 cases hdj:oj.dst with
 | none=>rfl
 | some dj =>
  cases hd:o.dst with
  | none=>rfl
  | some d =>
   have:d ≠ dj:=fun e=>hij (h1.one i j o oj d hi hj hd (e ▸ hdj))
   simp [Act.put,Array.getElem?_setIfInBounds_ne this]
theorem Zgu {a:Act} {i:Nat} {o:Oper} {v:Value} (h1:OneEach ops a.tmps.size) (hi:ops[i]? = some o):leftBy (a.put o.dst v) o = (match o.dst with | some _=>v | none=>undef):=by
 unfold leftBy
 cases hd:o.dst with
 | none=>rfl
 | some d =>
  have hlt:d < a.tmps.size:=h1.fits d (Zoo hi hd)
  simp [Act.put,hlt]
theorem Zjz {listed:Array Bool} {i:Nat} (hi:i < listed.size):(listed.setIfInBounds i true).getD i false = true:=by simp [hi]
theorem FlowAt.next {fin:Nat -> Bool} {R:Array Bool -> World -> Prop} {V:Nat -> Value -> World -> Prop} {D:Nat -> Nat -> Value -> Value -> Prop} {a0 a:Act} {listed:Array Bool} {w w':World} {i:Nat} {o:Oper} {v:Value}
  (h1:OneEach ops a0.tmps.size) (h:FlowAt md ops fin R V D a0 listed a w) (hi:ops[i]? = some o) (hun:listed.getD i true = false)
  (hw:∀ e ∈ o.after,Region.binds md e = true -> listed.getD e.on false = true)
  (hR:R (listed.setIfInBounds i true) w')
  (hmono:∀ j u,usedB md ops fin i j = true -> V j u w -> (∀ e ∈ o.after,wantE md e = true -> e.on ≠ j -> ∀ oe,ops[e.on]? = some oe -> D e.on j (leftBy a oe) u /\ D j e.on u (leftBy a oe)) →
   V j u w' /\ D i j (match o.dst with | some _=>v | none=>undef) u /\ D j i u (match o.dst with | some _=>v | none=>undef))
  (hv:V i (match o.dst with | some _=>v | none=>undef) w'):FlowAt md ops fin R V D a0 (listed.setIfInBounds i true) (a.put o.dst v) w':=by
 have hil:i < listed.size:=by rw [h.len];exact (Array.getElem?_eq_some_iff.1 hi).1
 have h1a:OneEach ops a.tmps.size:=h.size ▸ h1
 have wi:∀ e ∈ o.after,wantE md e = true -> Wants md ops fin listed e.on:=fun e he hb=>.inr ⟨i,o,e,hi,hun,he,hb,rfl⟩
 have key:∀ (j:Nat) (oj:Oper),i ≠ j -> ops[j]? = some oj -> (listed.setIfInBounds i true).getD j false = true -> Wants md ops fin (listed.setIfInBounds i true) j →
   V j (leftBy a oj) w' /\ D i j (match o.dst with | some _=>v | none=>undef) (leftBy a oj) /\ D j i (leftBy a oj) (match o.dst with | some _=>v | none=>undef):=by
  intro j oj hij hj hl hn
  rw [getD_set_ne false hij] at hl
  obtain ⟨hn',hu⟩:=hn.used hij hi hw hil h.shut hun hl
  refine hmono j _ hu (h.val j oj hj hl hn') fun e he hb hne oe hoe=>?_
  exact ⟨h.apart _ _ _ _ hoe hj (hw e he (Zdf hb)) hl (wi e he hb) hn' hne,h.apart _ _ _ _ hj hoe hl (hw e he (Zdf hb)) hn' (wi e he hb) (Ne.symm hne)⟩
 refine ⟨hR,?_,?_,?_,?_,?_,?_,?_,?_⟩
 ·rw [<- h.size];cases o.dst <;> simp [Act.put]
 ·rw [<- h.defers];cases o.dst <;> simp [Act.put]
 ·intro t ht
  rw [<- h.out t ht]
  cases hd:o.dst with
  | none=>rfl
  | some d =>
   have:d ≠ t:=fun e=>ht (e ▸ Zoo hi hd)
   simp [Act.put,Array.getElem?_setIfInBounds_ne this]
 ·intro j oj d hj hd hl
  by_cases hij:i = j
  ·subst hij
   rw [Zjz hil] at hl;cases hl
  ·rw [getD_set_ne false hij] at hl
   rw [<- h.old j oj d hj hd hl]
   cases hd':o.dst with
   | none=>rfl
   | some d' =>
    have:d' ≠ d:=fun e=>hij (h1.one i j o oj d hi hj (e ▸ hd') hd)
    simp [Act.put,Array.getElem?_setIfInBounds_ne this]
 ·rw [<- h.len];simp
 ·intro j oj hj hl e he hb
  by_cases hij:i = j
  ·subst hij
   rw [hi] at hj;cases hj
   exact getD_set_true (hw e he hb)
  ·rw [getD_set_ne false hij] at hl
   exact getD_set_true (h.shut j oj hj hl e he hb)
 ·intro j oj hj hl hn
  by_cases hij:i = j
  ·subst hij
   rw [hi] at hj;cases hj
   rw [Zgu h1a hi];exact hv
  ·rw [Zco h1a hi hj hij]
   exact (key j oj hij hj hl hn).1
 ·intro j k oj ok hj hk hlj hlk hnj hnk hjk
  by_cases hij:i = j
  ·subst hij
   rw [hi] at hj;cases hj
   rw [Zgu h1a hi,Zco h1a hi hk hjk]
   exact (key k ok hjk hk hlk hnk).2.1
  ·rw [Zco h1a hi hj hij]
   by_cases hik:i = k
   ·subst hik
    rw [hi] at hk;cases hk
    rw [Zgu h1a hi]
    exact (key j oj hij hj hlj hnj).2.2
   ·rw [Zco h1a hi hk hik]
    rw [getD_set_ne false hij] at hlj
    rw [getD_set_ne false hik] at hlk
    exact h.apart _ _ _ _ hj hk hlj hlk (hnj.used hij hi hw hil h.shut hun hlj).1 (hnk.used hik hi hw hil h.shut hun hlk).1 hjk
theorem FlowAt.start {fin:Nat -> Bool} {R:Array Bool -> World -> Prop} {V:Nat -> Value -> World -> Prop} {D:Nat -> Nat -> Value -> Value -> Prop} {a0:Act} {w:World} (h:R (Array.replicate ops.size false) w):FlowAt md ops fin R V D a0 (Array.replicate ops.size false) a0 w where
 rel:=h
 size:=rfl
 defers:=rfl
 out _ _:=rfl
 old _ _ _ _ _ _:=rfl
 len:=by simp
 shut i o hi hl:=by
  exfalso
  have:=(Array.getElem?_eq_some_iff.1 hi).1
  simp [this] at hl
 val i o hi hl _:=by
  exfalso
  have:=(Array.getElem?_eq_some_iff.1 hi).1
  simp [this] at hl
 apart i j o o' hi hj hl _ _ _ _:=by
  exfalso
  have:=(Array.getElem?_eq_some_iff.1 hi).1
  simp [this] at hl
theorem FlowAt.end {fin:Nat -> Bool} {R:Array Bool -> World -> Prop} {V:Nat -> Value -> World -> Prop} {D:Nat -> Nat -> Value -> Value -> Prop} {l:List Value} {d:List Deferred} {listed:Array Bool} {a:Act} {w:World}
  (hb:∀ (i:Nat) (o:Oper),ops[i]? = some o -> ∀ e ∈ o.after,Region.binds md e = true -> e.on < i)
  (h:FlowAt md ops fin R V D ⟨l.toArray,d⟩ listed a w) (hr:Region.ready md ops listed = []) :
  R listed w /\ (∀ i,i < ops.size -> listed.getD i false = true) /\ (∀ (i:Nat) (o:Oper),ops[i]? = some o -> fin i = true -> V i (leftBy a o) w) ∧
  a = ⟨(spread (dstsL ops) (fun t=>a.tmps.getD t undef) 0 l).toArray,d⟩:=by
 refine ⟨h.rel,Zkh h.len hb hr,fun i o hi hf=>h.val i o hi (Zkh h.len hb hr i (Array.getElem?_eq_some_iff.1 hi).1) (.inl hf),?_⟩
 have h1:=h.size
 have h2:=h.defers
 have h3:=h.out
 cases a with
 | mk tm df =>
  simp only at h1 h2 h3 ⊢
  subst h2
  congr 1
  apply Array.ext_getElem?
  intro t
  have e2:(spread (dstsL ops) (fun t=>tm.getD t undef) 0 l).toArray[t]? = (spread (dstsL ops) (fun t=>tm.getD t undef) 0 l)[t]?:=by simp
  rw [e2,Zfd?]
  simp only [Nat.zero_add]
  have hs:tm.size = l.length:=by simpa using h1
  by_cases ht:t < l.length
  ·have e1:tm[t]? = some (tm.getD t undef):=by simp [hs,ht]
   rw [e1,List.getElem?_eq_getElem ht]
   simp only [Option.map_some,Option.some.injEq]
   cases hc:(dstsL ops).contains t with
   | true=>rfl
   | false =>
    have:t ∉ dstsL ops:=fun hm=>by rw [List.contains_iff_mem.2 hm] at hc;cases hc
    have h4:=h3 t this
    rw [h4];simp [ht]
  ·rw [Array.getElem?_eq_none (by omega),List.getElem?_eq_none (by omega)];rfl
def StepTo (P:Program) (Q:Exit -> Act -> World -> Prop) (o:Oper) (a:Act) (w:World) (K:Act -> World -> Prop):Prop:=o.wp P a w K Q \/ (o.asks P a w /\ LetsOut Q)
theorem Oper.wp_then {P:Program} {Q:Exit -> Act -> World -> Prop} {o:Oper} {a:Act} {w:World} {K:Act -> World -> Prop} (h:o.wp P a w K (Exit.then K Q)):o.wp P a w K Q:=by
 unfold Oper.wp at *
 generalize (execOp a.eval o).run P w = r at *
 cases r with
 | ok n w' =>
  cases n <;> simp only [Oper.upon] at h ⊢ <;>
   first
    | exact h
    | exact Calls.mono h (fun e w'' he=>by cases e <;> exact he)
 | halt x w'=>cases x <;> simp only [Oper.upon] at h ⊢ <;> exact h
theorem Zpj {P:Program} {ops:Array Oper} {Q:Exit -> Act -> World -> Prop} {o:Oper} {a:Act} {w:World} {K:Act -> World -> Prop} (hg:o.guard = none)
  (h:wpList P ops (Exit.then K Q) [o] a w):StepTo P Q o a w K:=by
 have hw:Region.wanted o (yielded ops a.tmps) = true:=by simp [Region.wanted,hg]
 simp only [wpList,hw,if_true] at h
 rcases h with h | h
 ·exact .inl (Oper.wp_then h)
 ·exact .inr h
theorem Zab {Q:Exit -> Act -> World -> Prop} {o:Oper} {a:Act} {w w':World} {K:Act -> World -> Prop} {v:Value} (hr:(execOp a.eval o).run P w = .ok (.value v) w') (h:K (a.put o.dst v) w'):StepTo P Q o a w K:=by
 left;unfold Oper.wp;rw [hr];exact h
theorem Zan {Q:Exit -> Act -> World -> Prop} {o:Oper} {a:Act} {w w':World} {K:Act -> World -> Prop} (hr:(execOp a.eval o).run P w = .ok .skip w') (h:K (a.put o.dst undef) w'):StepTo P Q o a w K:=by
 left;unfold Oper.wp;rw [hr];exact h
theorem Zam {Q:Exit -> Act -> World -> Prop} {o:Oper} {a:Act} {w:World} {K:Act -> World -> Prop} {f:FuncId} {args:Array Value} (hr:(execOp a.eval o).run P w = .ok (.enter f args) w)
  (hc:Calls P f args w fun e w'=>∃ v,e = .returned v /\ K (a.put o.dst v) w'):StepTo P Q o a w K:=by
 left;unfold Oper.wp;rw [hr,Oper.upon_enter]
 refine hc.mono ?_
 rintro e w' ⟨v,rfl,h⟩
 exact h
theorem Zcr {fin:Nat -> Bool} {i j:Nat} (hb:backB md ops = true)
  (hf:∀ j,fin j = true -> j < ops.size) (h:usedB md ops fin i j = true) (L:List Nat) (hL:(List.range ops.size).filter (usedB md ops fin i) = L):j ∈ L:=by
 rw [<- hL,List.mem_filter]
 refine ⟨?_,h⟩
 rw [List.mem_range]
 unfold usedB at h
 rw [Bool.and_eq_true,Bool.or_eq_true] at h
 rcases h.2 with h2 | h2
 ·exact hf j h2
 ·rw [List.any_eq_true] at h2
  obtain ⟨k,hk,h3⟩:=h2
  rw [Bool.and_eq_true] at h3
  cases ho:ops[k]? with
  | none=>rw [ho] at h3;simp at h3
  | some o =>
   rw [ho] at h3
   simp only [Option.map_some,Option.getD_some] at h3
   obtain ⟨e,he,h4⟩:=Array.any_eq_true'.1 h3.2
   rw [Bool.and_eq_true,beq_iff_eq] at h4
   unfold backB at hb
   rw [List.all_eq_true] at hb
   have h5:=hb k hk
   rw [ho] at h5
   simp only [Option.map_some,Option.getD_some] at h5
   rw [Array.all_eq_true_iff_forall_mem] at h5
   have h6:=h5 e he
   rw [Zdf h4.1] at h6
   have:=List.mem_range.1 hk
   rw [<- h4.2]
   simp at h6
   omega
theorem Oper.wpIn_then {F:Fence} {n:Nat} {Q:Exit -> Act -> World -> Prop} {o:Oper} {a:Act} {w:World} {K:Act -> World -> Prop} (h:o.wpIn F n P a w K (Exit.then K Q)):o.wpIn F n P a w K Q:=by
 refine ⟨h.1,?_⟩
 have h2:=h.2
 generalize (o.semAt F.round a.eval).run P w = r at *
 cases r with
 | ok nx w' =>
  cases nx <;> simp only [Oper.uponIn] at h2 ⊢ <;>
   first
    | exact h2
    | exact ⟨h2.1,CallsIn.mono h2.2 (fun e w'' he=>by cases e <;> exact he)⟩
    | exact CallsIn.mono h2 (fun e w'' he=>by cases e <;> exact he)
 | halt x w'=>cases x <;> simp only [Oper.uponIn] at h2 ⊢ <;> exact h2
theorem Zfe {F:Fence} {n:Nat} {ops0:Array Oper} {Q:Exit -> Act -> World -> Prop} {o:Oper} {a:Act} {w:World} {K:Act -> World -> Prop} (hg:o.guard = none)
  (h:wpListIn F n P ops0 (Exit.then K Q) [o] a w):Oper.wpIn F n P o a w K Q:=by
 have hw:Region.wanted o (yielded ops0 a.tmps) = true:=by simp [Region.wanted,hg]
 simp only [wpListIn,hw,if_true] at h
 exact Oper.wpIn_then h
theorem Zaf {F:Fence} {n:Nat} {Q:Exit -> Act -> World -> Prop} {o:Oper} {a:Act} {w w':World} {K:Act -> World -> Prop} {v:Value} (hc:∀ c,o.op ≠ .call c) (hd:∀ c,o.op ≠ .defer c)
  (hr:(execOp a.eval o).run P w = .ok (.value v) w') (h:K (a.put o.dst v) w'):Oper.wpIn F n P o a w K Q:=by
 refine ⟨?_,?_⟩
 ·unfold Oper.about
  split
  ·rename_i c hh;exact absurd hh (hc c)
  ·intro f hf;cases hf
 ·rw [Oper.semAt_plain F _ _ hd,hr];exact h
theorem Zeg {F:Fence} {n:Nat} {Q:Exit -> Act -> World -> Prop} {o:Oper} {a:Act} {w w':World} {K:Act -> World -> Prop} (hc:∀ c,o.op ≠ .call c) (hd:∀ c,o.op ≠ .defer c)
  (hr:(execOp a.eval o).run P w = .ok .skip w') (h:K (a.put o.dst undef) w'):Oper.wpIn F n P o a w K Q:=by
 refine ⟨?_,?_⟩
 ·unfold Oper.about
  split
  ·rename_i c hh;exact absurd hh (hc c)
  ·intro f hf;cases hf
 ·rw [Oper.semAt_plain F _ _ hd,hr];exact h
theorem Zbn {id:Nat} {l:List Value} {df:List Deferred} {w0:World} (ds:List Tmp) (fin:Nat -> Bool) (R:Array Bool -> World -> Prop) (V:Nat -> Value -> World -> Prop) (D:Nat -> Nat -> Value -> Value -> Prop)
  (hm:P.follows .mixedOrders = true) (hds:dstsL ops = ds) (h1:OneEach ops l.length) (hb:backB .any ops = true)
  (hg:(ops.all fun o=>o.guard.isNone) = true)
  (h0:R (Array.replicate ops.size false) { w0 with drawn:=w0.drawn + 1 })
  (step:∀ (i:Nat) (o:Oper),ops[i]? = some o -> ∀ (listed:Array Bool) (a:Act) (w:World),R listed w -> i < listed.size -> listed.getD i false = false -> (∀ j,anc .any ops i ops.size j = true -> listed.getD j false = false) -> (∀ j,anc .any ops j ops.size i = true -> listed.getD j false = true) -> (∀ t,t ∉ ds -> a.eval (.tmp t) = l.getD t undef) →
   (∀ (j:Nat) (oj:Oper) (d:Tmp),ops[j]? = some oj -> oj.dst = some d -> listed.getD j false = false -> a.eval (.tmp d) = l.getD d undef) →
   (∀ e ∈ o.after,wantE .any e = true -> ∀ oe,ops[e.on]? = some oe -> V e.on (leftBy a oe) w) →
   StepTo P Q o a w (fun a' w'=>∃ v,a' = a.put o.dst v /\ R (listed.setIfInBounds i true) w' /\ (∀ j u,usedB .any ops fin i j = true -> V j u w -> (∀ e ∈ o.after,wantE .any e = true -> e.on ≠ j -> ∀ oe,ops[e.on]? = some oe -> D e.on j (leftBy a oe) u /\ D j e.on u (leftBy a oe)) →
    V j u w' /\ D i j (match o.dst with | some _=>v | none=>undef) u /\ D j i u (match o.dst with | some _=>v | none=>undef)) /\ V i (match o.dst with | some _=>v | none=>undef) w'))
  (done:∀ (listed:Array Bool) (f:Nat -> Value) (w:World),R listed w -> (∀ i,i < ops.size -> listed.getD i false = true) -> (∀ (i:Nat) (o:Oper),ops[i]? = some o -> fin i = true -> V i (match o.dst with | some d=>f d | none=>undef) w) →
   Q .normal ⟨(spread ds f 0 l).toArray,df⟩ w) :
  (Code.region id ops true).wp P Q ⟨l.toArray,df⟩ w0:=by
 subst hds
 have hb':∀ (i:Nat) (o:Oper),ops[i]? = some o -> ∀ e ∈ o.after,Region.binds .any e = true -> e.on < i:=fun i o hi e he hbe=>by
  unfold backB at hb
  rw [List.all_eq_true] at hb
  have h2:=hb i (by simpa using (Array.getElem?_eq_some_iff.1 hi).1)
  rw [hi] at h2
  simp only [Option.map_some,Option.getD_some] at h2
  rw [Array.all_eq_true_iff_forall_mem] at h2
  have h3:=h2 e he
  rw [hbe] at h3
  simpa using h3
 have h1':OneEach ops (Act.mk l.toArray df).tmps.size:=by simpa using h1
 refine wp_region_any hm (Zaaw (FlowAt .any ops fin R V D ⟨l.toArray,df⟩) ?_ ?_ _ _ _ _ (Zhl ops) (FlowAt.start h0))
 ·intro listed a w i hI hi
  obtain ⟨hun,o,ho,hw⟩:=mem_ready.1 hi
  have hgo:o.guard = none:=by
   rw [Array.all_eq_true_iff_forall_mem] at hg
   simpa using hg o (Array.mem_of_getElem? ho)
  have hwant:Region.wanted o (yielded ops a.tmps) = true:=by simp [Region.wanted,hgo]
  unfold wpOp
  simp only [ho,hwant,if_true]
  have hil:i < listed.size:=by rw [hI.len];exact (Array.getElem?_eq_some_iff.1 ho).1
  have hunf:listed.getD i false = false:=by simp [hil] at hun ⊢;exact hun
  have hs:=step i o ho listed a w hI.rel hil hunf (fun j hj=>by
   cases hc:listed.getD j false with
   | false=>rfl
   | true=>have:=hI.shut.anc i _ _ hj hc;rw [hunf] at this;cases this) (fun j hj=>hI.shut.ready ho hw _ hj) (fun t ht=>by have:=hI.out t ht;simpa [Act.eval] using this) (fun j oj d hj hd hl=>by have:=hI.old j oj d hj hd hl;simpa [Act.eval] using this) (fun e he hbe oe hoe=>hI.val e.on oe hoe (hw e he (Zdf hbe)) (.inr ⟨i,o,e,ho,hun,he,hbe,rfl⟩))
  exact hs.imp (Oper.wp_mono (fun a' w' h=>by
   obtain ⟨v,rfl,hR,hmono,hv⟩:=h
   exact hI.next h1' ho hun hw hR hmono hv)) (fun h=>h)
 ·intro listed a w hI hr
  obtain ⟨hR,hall,hV,ha⟩:=hI.end hb' hr
  rw [ha]
  exact done _ _ _ hR hall hV
theorem Zao {id:Nat} {l:List Value} {df:List Deferred} {w0:World} (ds:List Tmp) (fin:Nat -> Bool) (R:Array Bool -> World -> Prop) (V:Nat -> Value -> World -> Prop) (D:Nat -> Nat -> Value -> Value -> Prop)
  (hm:P.follows .mixedOrders = true) (hds:dstsL ops = ds) (h1:OneEach ops l.length) (hb:backB .any ops = true)
  (hg:(ops.all fun o=>o.guard.isNone) = true)
  (h0:R (Array.replicate ops.size false) { w0 with drawn:=w0.drawn + 1 })
  (step:∀ (i:Nat) (o:Oper),ops[i]? = some o -> ∀ (listed:Array Bool) (a:Act) (w:World),R listed w -> i < listed.size -> listed.getD i false = false -> (∀ j,anc .any ops i ops.size j = true -> listed.getD j false = false) -> (∀ j,anc .any ops j ops.size i = true -> listed.getD j false = true) -> (∀ t,t ∉ ds -> a.eval (.tmp t) = l.getD t undef) →
   (∀ e ∈ o.after,wantE .any e = true -> ∀ oe,ops[e.on]? = some oe -> V e.on (leftBy a oe) w) →
   StepTo P Q o a w (fun a' w'=>∃ v,a' = a.put o.dst v /\ R (listed.setIfInBounds i true) w' /\ (∀ j u,usedB .any ops fin i j = true -> V j u w -> (∀ e ∈ o.after,wantE .any e = true -> e.on ≠ j -> ∀ oe,ops[e.on]? = some oe -> D e.on j (leftBy a oe) u /\ D j e.on u (leftBy a oe)) →
    V j u w' /\ D i j (match o.dst with | some _=>v | none=>undef) u /\ D j i u (match o.dst with | some _=>v | none=>undef)) /\ V i (match o.dst with | some _=>v | none=>undef) w'))
  (done:∀ (listed:Array Bool) (f:Nat -> Value) (w:World),R listed w -> (∀ i,i < ops.size -> listed.getD i false = true) -> (∀ (i:Nat) (o:Oper),ops[i]? = some o -> fin i = true -> V i (match o.dst with | some d=>f d | none=>undef) w) →
   Q .normal ⟨(spread ds f 0 l).toArray,df⟩ w) :
  (Code.region id ops true).wp P Q ⟨l.toArray,df⟩ w0 :=
 Zbn ds fin R V D hm hds h1 hb hg h0 (fun i o ho listed a w hR hil hu hd ha ht _ hv=>step i o ho listed a w hR hil hu hd ha ht hv) done
theorem Zhh {F:Fence} {n:Nat} {id:Nat} {l:List Value} {df:List Deferred} {w0:World} (ds:List Tmp) (fin:Nat -> Bool) (R:Array Bool -> World -> Prop) (V:Nat -> Value -> World -> Prop) (D:Nat -> Nat -> Value -> Value -> Prop)
  (hm:P.follows .mixedOrders = true) (hds:dstsL ops = ds) (h1:OneEach ops l.length) (hb:backB .any ops = true)
  (hg:(ops.all fun o=>o.guard.isNone) = true)
  (h0:R (Array.replicate ops.size false) { w0 with drawn:=w0.drawn + 1 })
  (step:∀ (i:Nat) (o:Oper),ops[i]? = some o -> ∀ (listed:Array Bool) (a:Act) (w:World),R listed w -> i < listed.size -> listed.getD i false = false -> (∀ j,anc .any ops i ops.size j = true -> listed.getD j false = false) -> (∀ j,anc .any ops j ops.size i = true -> listed.getD j false = true) -> (∀ t,t ∉ ds -> a.eval (.tmp t) = l.getD t undef) →
   (∀ (j:Nat) (oj:Oper) (d:Tmp),ops[j]? = some oj -> oj.dst = some d -> listed.getD j false = false -> a.eval (.tmp d) = l.getD d undef) →
   (∀ e ∈ o.after,wantE .any e = true -> ∀ oe,ops[e.on]? = some oe -> V e.on (leftBy a oe) w) →
   Oper.wpIn F n P o a w (fun a' w'=>∃ v,a' = a.put o.dst v /\ R (listed.setIfInBounds i true) w' /\ (∀ j u,usedB .any ops fin i j = true -> V j u w -> (∀ e ∈ o.after,wantE .any e = true -> e.on ≠ j -> ∀ oe,ops[e.on]? = some oe -> D e.on j (leftBy a oe) u /\ D j e.on u (leftBy a oe)) →
    V j u w' /\ D i j (match o.dst with | some _=>v | none=>undef) u /\ D j i u (match o.dst with | some _=>v | none=>undef)) /\ V i (match o.dst with | some _=>v | none=>undef) w') Q)
  (done:∀ (listed:Array Bool) (f:Nat -> Value) (w:World),R listed w -> (∀ i,i < ops.size -> listed.getD i false = true) -> (∀ (i:Nat) (o:Oper),ops[i]? = some o -> fin i = true -> V i (match o.dst with | some d=>f d | none=>undef) w) →
   Q .normal ⟨(spread ds f 0 l).toArray,df⟩ w) :
  (Code.region id ops true).wpIn F n P Q ⟨l.toArray,df⟩ w0:=by
 subst hds
 have hb':∀ (i:Nat) (o:Oper),ops[i]? = some o -> ∀ e ∈ o.after,Region.binds .any e = true -> e.on < i:=fun i o hi e he hbe=>by
  unfold backB at hb
  rw [List.all_eq_true] at hb
  have h2:=hb i (by simpa using (Array.getElem?_eq_some_iff.1 hi).1)
  rw [hi] at h2
  simp only [Option.map_some,Option.getD_some] at h2
  rw [Array.all_eq_true_iff_forall_mem] at h2
  have h3:=h2 e he
  rw [hbe] at h3
  simpa using h3
 have h1':OneEach ops (Act.mk l.toArray df).tmps.size:=by simpa using h1
 refine wpIn_region_any hm (Zsg (FlowAt .any ops fin R V D ⟨l.toArray,df⟩) ?_ ?_ _ _ _ _ (Zhl ops) (FlowAt.start h0))
 ·intro listed a w i hI hi
  obtain ⟨hun,o,ho,hw⟩:=mem_ready.1 hi
  have hgo:o.guard = none:=by
   rw [Array.all_eq_true_iff_forall_mem] at hg
   simpa using hg o (Array.mem_of_getElem? ho)
  have hwant:Region.wanted o (yielded ops a.tmps) = true:=by simp [Region.wanted,hgo]
  unfold wpOpIn
  simp only [ho,hwant,if_true]
  have hil:i < listed.size:=by rw [hI.len];exact (Array.getElem?_eq_some_iff.1 ho).1
  have hunf:listed.getD i false = false:=by simp [hil] at hun ⊢;exact hun
  have hs:=step i o ho listed a w hI.rel hil hunf (fun j hj=>by
   cases hc:listed.getD j false with
   | false=>rfl
   | true=>have:=hI.shut.anc i _ _ hj hc;rw [hunf] at this;cases this) (fun j hj=>hI.shut.ready ho hw _ hj) (fun t ht=>by have:=hI.out t ht;simpa [Act.eval] using this) (fun j oj d hj hd hl=>by have:=hI.old j oj d hj hd hl;simpa [Act.eval] using this) (fun e he hbe oe hoe=>hI.val e.on oe hoe (hw e he (Zdf hbe)) (.inr ⟨i,o,e,ho,hun,he,hbe,rfl⟩))
  exact (Oper.wpIn_mono (fun a' w' h=>by
   obtain ⟨v,rfl,hR,hmono,hv⟩:=h
   exact hI.next h1' ho hun hw hR hmono hv) hs)
 ·intro listed a w hI hr
  obtain ⟨hR,hall,hV,ha⟩:=hI.end hb' hr
  rw [ha]
  exact done _ _ _ hR hall hV
theorem Zar {F:Fence} {n:Nat} {id:Nat} {l:List Value} {df:List Deferred} {w0:World} (ds:List Tmp) (fin:Nat -> Bool) (R:Array Bool -> World -> Prop) (V:Nat -> Value -> World -> Prop) (D:Nat -> Nat -> Value -> Value -> Prop)
  (hm:P.follows .mixedOrders = true) (hds:dstsL ops = ds) (h1:OneEach ops l.length) (hb:backB .any ops = true)
  (hg:(ops.all fun o=>o.guard.isNone) = true)
  (h0:R (Array.replicate ops.size false) { w0 with drawn:=w0.drawn + 1 })
  (step:∀ (i:Nat) (o:Oper),ops[i]? = some o -> ∀ (listed:Array Bool) (a:Act) (w:World),R listed w -> i < listed.size -> listed.getD i false = false -> (∀ j,anc .any ops i ops.size j = true -> listed.getD j false = false) -> (∀ j,anc .any ops j ops.size i = true -> listed.getD j false = true) -> (∀ t,t ∉ ds -> a.eval (.tmp t) = l.getD t undef) →
   (∀ e ∈ o.after,wantE .any e = true -> ∀ oe,ops[e.on]? = some oe -> V e.on (leftBy a oe) w) →
   Oper.wpIn F n P o a w (fun a' w'=>∃ v,a' = a.put o.dst v /\ R (listed.setIfInBounds i true) w' /\ (∀ j u,usedB .any ops fin i j = true -> V j u w -> (∀ e ∈ o.after,wantE .any e = true -> e.on ≠ j -> ∀ oe,ops[e.on]? = some oe -> D e.on j (leftBy a oe) u /\ D j e.on u (leftBy a oe)) →
    V j u w' /\ D i j (match o.dst with | some _=>v | none=>undef) u /\ D j i u (match o.dst with | some _=>v | none=>undef)) /\ V i (match o.dst with | some _=>v | none=>undef) w') Q)
  (done:∀ (listed:Array Bool) (f:Nat -> Value) (w:World),R listed w -> (∀ i,i < ops.size -> listed.getD i false = true) -> (∀ (i:Nat) (o:Oper),ops[i]? = some o -> fin i = true -> V i (match o.dst with | some d=>f d | none=>undef) w) →
   Q .normal ⟨(spread ds f 0 l).toArray,df⟩ w) :
  (Code.region id ops true).wpIn F n P Q ⟨l.toArray,df⟩ w0 :=
 Zhh ds fin R V D hm hds h1 hb hg h0 (fun i o ho listed a w hR hil hu hd ha ht _ hv=>step i o ho listed a w hR hil hu hd ha ht hv) done
end
end Go.Proofs.YtendielanacflaaGreat

namespace Go.Proofs.YtendielanacflaaGreat.M08
def sbits (none each i:Nat):Nat:=if none <= i then 1 + (i - none) / each else 0
def sleast (none each least:Nat):Nat -> Nat
 | 0=>least
 | i + 1=>sleast none each least i + 2 ^ sbits none each i
def leasts (n none each least:Nat):List Nat:=(List.range n).map (sleast none each least)
def bitss (n none each:Nat):List Nat:=(List.range n).map (sbits none each)
theorem Zcx (n none each least:Nat):(leasts n none each least).length = n:=by simp [leasts]
def lastLe (L:List Nat) (n:Nat):Nat:=(L.filter fun x=>x <= n).length - 1
theorem Zlx (L:List Nat) (n k:Nat) (hk:k <= L.length) (h1:∀ i,i < k -> L.getD i 0 <= n) (h2:∀ i,k <= i -> i < L.length -> n < L.getD i 0):(L.filter fun x=>x <= n).length = k:=by
 have e:L = L.take k ++ L.drop k:=(List.take_append_drop k L).symm
 rw [e,List.filter_append,List.length_append]
 have a:(L.take k).filter (fun x=>decide (x <= n)) = L.take k:=by
  rw [List.filter_eq_self]
  intro x hx
  obtain ⟨i,hi,rfl⟩:=List.mem_iff_getElem.1 hx
  simp only [List.length_take] at hi
  have:=h1 i (by omega)
  simp only [List.getElem_take,decide_eq_true_eq]
  simpa [show i < L.length by omega] using this
 have b:(L.drop k).filter (fun x=>decide (x <= n)) = []:=by
  rw [List.filter_eq_nil_iff]
  intro x hx
  obtain ⟨i,hi,rfl⟩:=List.mem_iff_getElem.1 hx
  simp only [List.length_drop] at hi
  have:=h2 (k + i) (by omega) (by omega)
  simp only [List.getElem_drop,decide_eq_true_eq]
  simp only [List.getD_eq_getElem?_getD,List.getElem?_eq_getElem (show k + i < L.length by omega),Option.getD_some] at this
  omega
 rw [a,b,List.length_take]
 simp only [List.length_nil]
 omega
theorem Zxw (L:List Nat) (n k:Nat) (hk:k < L.length) (h1:∀ i,i <= k -> L.getD i 0 <= n) (h2:∀ i,k < i -> i < L.length -> n < L.getD i 0):lastLe L n = k:=by
 unfold lastLe
 rw [Zlx L n (k + 1) (by omega) (fun i hi=>h1 i (by omega)) (fun i hi hl=>h2 i (by omega) hl)]
 omega
def Up (L:List Nat):Prop:=∀ i,i + 1 < L.length -> L.getD i 0 < L.getD (i + 1) 0
instance (L:List Nat):Decidable (Up L):=decidable_of_iff (∀ i,i < L.length -> i + 1 < L.length -> L.getD i 0 < L.getD (i + 1) 0) ⟨fun h i hi=>h i (by omega) hi,fun h i _ hi=>h i hi⟩
theorem Up.lt {L:List Nat} (h:Up L):∀ i j,i < j -> j < L.length -> L.getD i 0 < L.getD j 0:=by
 intro i j hij hj
 induction j with
 | zero=>omega
 | succ j ih =>
  have h1:=h j hj
  rcases Nat.lt_or_ge i j with h2 | h2
  ·exact Nat.lt_trans (ih h2 (by omega)) h1
  ·obtain rfl:i = j:=by omega
   exact h1
theorem Ziz {L:List Nat} (h:Up L) (n:Nat) (k:Nat) (hk:k < L.length) (h1:L.getD k 0 <= n) (h2:k + 1 < L.length -> n < L.getD (k + 1) 0):lastLe L n = k:=by
 refine Zxw L n k hk (fun i hi=>?_) (fun i hi hl=>?_)
 ·rcases Nat.lt_or_ge i k with h3 | h3
  ·have:=h.lt i k h3 hk;omega
  ·obtain rfl:i = k:=by omega
   exact h1
 ·have h3:=h2 (by omega)
  rcases Nat.lt_or_ge (k + 1) i with h4 | h4
  ·have:=h.lt (k + 1) i h4 hl;omega
  ·obtain rfl:i = k + 1:=by omega
   exact h3
theorem Zfu {L:List Nat} (n:Nat) (h:0 < L.length):lastLe L n < L.length:=by
 unfold lastLe;have:=List.length_filter_le (fun x:Nat=>decide (x <= n)) L;omega
theorem Zfi {L:List Nat} (h:Up L) (n:Nat) (h0:0 < L.length) (hn:L.getD 0 0 <= n):L.getD (lastLe L n) 0 <= n /\ (lastLe L n + 1 < L.length -> n < L.getD (lastLe L n + 1) 0):=by
 have key:∀ m,m < L.length -> L.getD m 0 <= n -> (∀ i,m < i -> i < L.length -> n < L.getD i 0) -> lastLe L n = m:=fun m hm h1 h2=>Ziz h n m hm h1 (fun hh=>h2 _ (by omega) hh)
 have ex:∀ m,m <= L.length -> (∃ k,k < L.length /\ L.getD k 0 <= n /\ ∀ i,k < i -> i < m -> n < L.getD i 0):=by
  intro m
  induction m with
  | zero=>exact fun _=>⟨0,h0,hn,fun i _ hi=>by omega⟩
  | succ m ih =>
   intro hm
   obtain ⟨k,hk,hkn,hki⟩:=ih (by omega)
   by_cases hc:L.getD m 0 <= n
   ·exact ⟨m,by omega,hc,fun i h1 h2=>by omega⟩
   ·refine ⟨k,hk,hkn,fun i h1 h2=>?_⟩
    rcases Nat.lt_or_ge i m with h3 | h3
    ·exact hki i h1 h3
    ·obtain rfl:i = m:=by omega
     omega
 obtain ⟨k,hk,hkn,hki⟩:=ex L.length (Nat.le_refl _)
 rw [key k hk hkn hki]
 exact ⟨hkn,fun hh=>hki _ (by omega) hh⟩
def lensL:List Nat:=[3,4,5,6,7,8,9,10,11,13,15,17,19,23,27,31,35,43,51,59,67,83,99,115,131,163,195,227,258]
def distL:List Nat:=[1,2,3,4,5,7,9,13,17,25,33,49,65,97,129,193,257,385,513,769,1025,1537,2049,3073,4097,6145,8193,12289,16385,24577]
def lbits (s:Nat):Nat:=if s < 265 \/ s = 285 then 0 else (s - 261) / 4
def dbits (s:Nat):Nat:=if s < 4 then 0 else (s - 2) / 2
theorem Zagl:Up lensL:=by decide
theorem Zxe:Up distL:=by decide
theorem Zqx:leasts 28 8 4 3 = lensL.take 28:=by decide
theorem Zqi:leasts 30 4 2 1 = distL:=by decide
def lk (n:Nat):Nat:=lastLe lensL n
def dk (n:Nat):Nat:=lastLe distL n
theorem Zaig:lk 258 = 28:=by decide
theorem Zais {n:Nat} (h1:3 <= n) (h2:n < 258):lk n < 28 /\ lk n = lastLe (lensL.take 28) n:=by
 have h:=Zfi Zagl n (by decide) (show lensL.getD 0 0 <= n from h1)
 have hl:lk n < 29:=Zfu n (by decide)
 have h28:lk n ≠ 28:=fun hc=>by
  have h3:=h.1
  rw [show lastLe lensL n = 28 from hc] at h3
  have:lensL.getD 28 0 = 258:=by decide
  omega
 refine ⟨by omega,Eq.symm (Ziz (L:=lensL.take 28) (by decide) n _ (by simp [lensL];omega) ?_ fun hh=>?_)⟩
 ·have h3:=h.1
  rw [show lastLe lensL n = lk n from rfl] at h3
  simpa [List.getElem?_take,show lk n < 28 by omega] using h3
 ·have h3:=h.2
  rw [show lastLe lensL n = lk n from rfl] at h3
  have hh':lk n + 1 < 28:=by simpa [lensL] using hh
  have:=h3 (by simp [lensL];omega)
  simpa [List.getElem?_take,hh'] using this
theorem Zxf (n:Nat):dk n < 30:=Zfu n (by decide)
end Go.Proofs.YtendielanacflaaGreat.M08

namespace Go.Proofs.YtendielanacflaaGreat
open Go.RowKit Go.Shelf M08
attribute [local go_sem] Oper.semAt_some
def scRow (none each least i:Nat):Array Value:=#[.int .i64 (sleast none each least i:Nat),.int .i64 (sbits none each i:Nat)]
def scS (B b:Nat):Prop:=b = B \/ b = B + 1 \/ b = B + 1 + 1 \/ b = B + 1 + 1 + 1
theorem alloc4 (w:World) (o1 o2 o3 o4:Obj):((((w.alloc o1).alloc o2).alloc o3).alloc o4).heap.size = w.heap.size + 4 /\ ((((w.alloc o1).alloc o2).alloc o3).alloc o4).heap[w.heap.size]? = some o1 /\ ((((w.alloc o1).alloc o2).alloc o3).alloc o4).heap[w.heap.size + 1]? = some o2 ∧
  ((((w.alloc o1).alloc o2).alloc o3).alloc o4).heap[w.heap.size + 1 + 1]? = some o3 /\ ((((w.alloc o1).alloc o2).alloc o3).alloc o4).heap[w.heap.size + 1 + 1 + 1]? = some o4 /\ Below w.heap.size w ((((w.alloc o1).alloc o2).alloc o3).alloc o4):=by
 have h1:=World.alloc_heap_new w o1
 have h2:=World.alloc_heap_new (w.alloc o1) o2
 have h3:=World.alloc_heap_new ((w.alloc o1).alloc o2) o3
 have h4:=World.alloc_heap_new (((w.alloc o1).alloc o2).alloc o3) o4
 simp only [World.size_alloc] at h2 h3 h4
 refine ⟨by simp,?_,?_,?_,h4,(((((Below.refl _ w).alloc (Nat.le_refl _) _).alloc (by simp) _).alloc (by simp;omega) _).alloc (by simp;omega) _)⟩
 ·rw [Below.heap_alloc _ _ _ (by simp only [World.size_alloc];omega),Below.heap_alloc _ _ _ (by simp only [World.size_alloc];omega),Below.heap_alloc _ _ _ (by simp)];exact h1
 ·rw [Below.heap_alloc _ _ _ (by simp only [World.size_alloc];omega),Below.heap_alloc _ _ _ (by simp)];exact h2
 ·rw [Below.heap_alloc _ _ _ (by simp)];exact h3
theorem Zei (n none each least:Nat) (w:World) :
  Calls Tryz.prog 80 #[.int .i64 n,.int .i64 none,.int .i64 each,.int .i64 least] w fun e w' =>
   e = .returned (.func (.func 115) #[] #[.pointer (some ⟨w.heap.size,0,.none⟩),.pointer (some ⟨w.heap.size + 1,0,.none⟩),.pointer (some ⟨w.heap.size + 1 + 1,0,.none⟩),.pointer (some ⟨w.heap.size + 1 + 1 + 1,0,.none⟩)]) ∧
   w' = (((w.alloc (.cells #[.int .i64 n] 3)).alloc (.cells #[.int .i64 none] 3)).alloc (.cells #[.int .i64 each] 3)).alloc (.cells #[.int .i64 least] 3):=by
 have hmf:∀ (fn:Fn) (first cap:Array Value) (w:World),(Instr.makeFunc fn first cap).run Tryz.prog w = .ok (.func fn first cap) w:=fun _ _ _ _=>rfl
 go_enter Tryz.func80,Tryz.ntmps80
 go_wp2
 go_ret
 exact ⟨rfl,rfl⟩
theorem Zjl {n m:Nat} {P:Program} {l:Nat} {f:FuncId} {tmps:Array Value} {assign body:Code} {w:World} {R:Ending -> World -> Prop} (h:RoundIn Fence.wide n P l f tmps assign body w R):RoundIn Fence.wide m P l f tmps assign body w R:=⟨h.1,fun c cs _=>h.2 c cs (room_wide _)⟩
theorem Zzn {none each k:Nat} (h:none <= k):(1:Int) + ((k:Int) - (none:Int)) / (each:Int) = ((sbits none each k:Nat):Int):=by
 unfold sbits
 rw [if_pos h]
 have:((k:Int) - (none:Int)) = ((k - none:Nat):Int):=by omega
 rw [this]
 simp
set_option maxHeartbeats 1600000 in
theorem Zpe (n none each least B:Nat) (w:World) (hn:n <= 100) (hno:none <= 100) (he:1 <= each) (he2:each <= 100) (hb:∀ i,i < n -> sbits none each i <= 20) (hl:∀ i,i <= n -> sleast none each least i <= 1000000)
  (h1:w.heap[B]? = some (.cells #[.int .i64 n] 3 (0,0))) (h2:w.heap[B + 1]? = some (.cells #[.int .i64 none] 3 (0,0))) (h3:w.heap[B + 1 + 1]? = some (.cells #[.int .i64 each] 3 (0,0))) (h4:w.heap[B + 1 + 1 + 1]? = some (.cells #[.int .i64 least] 3 (0,0))) :
  Yields Tryz.prog 115 #[.pointer (some ⟨B,0,.none⟩),.pointer (some ⟨B + 1,0,.none⟩),.pointer (some ⟨B + 1 + 1,0,.none⟩),.pointer (some ⟨B + 1 + 1 + 1,0,.none⟩)] n (scRow none each least) (scS B) (fun b=>b = B + 1 + 1 + 1) w:=by
 intro y J Jx W hsame hJ hJx hY h0
 have HY:=Zh hY
 have HJ:=Zh hJ
 have HB:=Zh hb
 have HL:=Zh hl
 have e1:=(hsame.same B (.inl rfl)).trans h1
 have e2:=(hsame.same (B + 1) (.inr (.inl rfl))).trans h2
 have e3:=(hsame.same (B + 1 + 1) (.inr (.inr (.inl rfl)))).trans h3
 have e4:=(hsame.same (B + 1 + 1 + 1) (.inr (.inr (.inr rfl)))).trans h4
 have c1:=cell_of_one e1
 clear hJ hJx hY hb hl h1 h2 h3 h4
 refine callsIn_of_wp Tryz.func115 rfl trivial ?_ rfl
 simp only [Tryz.ntmps115,List.size_toArray,List.length_cons,List.length_nil,Nat.reduceAdd,Nat.reduceSub,Array.replicate_succ,Array.replicate_zero,List.push_toArray,List.append_toArray,List.nil_append,List.cons_append]
 gi_wp2
 gi_loopw [9] (fun i A=>∃ k:Nat,k <= n /\ i = .int .i64 k /\ A.heap[B + 1]? = some (.cells #[.int .i64 none] 3 (0,0)) /\ A.heap[B + 1 + 1]? = some (.cells #[.int .i64 each] 3 (0,0)) /\ A.heap[B + 1 + 1 + 1]? = some (.cells #[.int .i64 (sleast none each least k:Nat)] 3 (0,0)) /\ J k A) (fun i _=>n - (intOf i).toNat)
 case atStart=>exact ⟨0,by omega,rfl,e2,e3,e4,h0⟩
 case round =>
  clear hsame e1 e2 e3 e4 c1
  obtain ⟨k,hk,rfl,e2,e3,e4,hJA⟩:=hrel
  have c2:=cell_of_one e2
  have c3:=cell_of_one e3
  have c4:=cell_of_one e4
  by_cases hlt:k < n
  ·have hbk:=HB.out k hlt
   have hlk:=HL.out k (by omega)
   have hlk2:=HL.out (k + 1) (by omega)
   obtain ⟨fn,tmps,assign,body,hy,hR⟩:=HY.out _ _ hlt hJA
   have HR:=Zh hR
   have H2:=Zh (show sleast none each least (k + 1) = sleast none each least k + 2 ^ sbits none each k from rfl)
   have HJA:=Zh hJA
   unfold scRow at hy
   clear hR hJA
   generalize sleast none each least k = x at *
   by_cases hnk:none <= k
   ·have hbi:=Zzn (each:=each) hnk
    generalize sbits none each k = bb at *
    gi_wp2
    refine (Zjl HR.out).mono ?_
    rintro e W' (⟨rfl,hJ',hk'⟩ | ⟨rfl,hJx'⟩)
    ·have f2:=(hk'.same (B + 1) (.inr (.inl rfl))).trans e2
     have f3:=(hk'.same (B + 1 + 1) (.inr (.inr (.inl rfl)))).trans e3
     have f4:=(hk'.same (B + 1 + 1 + 1) (.inr (.inr (.inr rfl)))).trans e4
     have d4:=cell_of_one f4
     have z4:=free_of_one f4
     have HJ':=Zh hJ'
     clear hJ' hk' hy
     gi_wp2
     gi_region
     gi_wp2
     go_roundw
     case rel =>
      clear hbi
      have hp:(2:Nat) ^ bb <= 2 ^ 20:=Nat.pow_le_pow_right (by simp) hbk
      have hv:Hid (wrap64 (↑x + wrap64 ((2:Int) ^ bb)) = ((sleast none each least (k + 1):Nat):Int)):=by
       unfold Hid
       rw [H2.out]
       have h2:(2:Int) ^ bb = ((2 ^ bb:Nat):Int):=by simp
       rw [h2]
       generalize (2:Nat) ^ bb = pp at *
       have i1:wrap64 (pp:Int) = pp:=IntWalk.wrap64_in _ (by omega)
       rw [i1,IntWalk.wrap64_in _ (by omega)];simp
      refine ⟨k + 1,Nat.succ_le_of_lt hlt,Zix (Int.natCast_succ k).symm,?_,?_,?_,HJ.out _ _ _ HJ'.out (Only.drew (Only.setCell (T:=fun b=>b = B + 1 + 1 + 1) (p:=⟨B + 1 + 1 + 1,0,.none⟩) (Only.refl _ _) (.inl rfl) _))⟩
      ·exact (Below.heap_setCell W' _ _ _ (by show B + 1 ≠ B + 1 + 1 + 1;omega)).trans f2
      ·exact (Below.heap_setCell W' _ _ _ (by show B + 1 + 1 ≠ B + 1 + 1 + 1;omega)).trans f3
      ·rw [<- hv.out];exact one_setCell f4
     case measure=>simp [intOf];omega
    ·gi_wp2
     refine bodyPost_ret (results_none rfl _ _ _) rfl ?_
     exact ⟨⟨_,rfl⟩,.inr ⟨_,hlt,hJx'⟩⟩
   ·have h0:sbits none each k = 0:=by unfold sbits;rw [if_neg hnk]
    rw [h0] at hy H2
    simp only [Int.natCast_zero] at hy
    gi_wp2
    refine (Zjl HR.out).mono ?_
    rintro e W' (⟨rfl,hJ',hk'⟩ | ⟨rfl,hJx'⟩)
    ·have f2:=(hk'.same (B + 1) (.inr (.inl rfl))).trans e2
     have f3:=(hk'.same (B + 1 + 1) (.inr (.inr (.inl rfl)))).trans e3
     have f4:=(hk'.same (B + 1 + 1 + 1) (.inr (.inr (.inr rfl)))).trans e4
     have d4:=cell_of_one f4
     have z4:=free_of_one f4
     have HJ':=Zh hJ'
     clear hJ' hk' hy
     gi_wp2
     gi_region
     gi_wp2
     go_roundw
     case rel =>
      have hv:Hid ((x:Int) + 1 = ((sleast none each least (k + 1):Nat):Int)):=by unfold Hid;rw [H2.out];simp
      refine ⟨k + 1,Nat.succ_le_of_lt hlt,Zix (Int.natCast_succ k).symm,?_,?_,?_,HJ.out _ _ _ HJ'.out (Only.drew (Only.setCell (T:=fun b=>b = B + 1 + 1 + 1) (p:=⟨B + 1 + 1 + 1,0,.none⟩) (Only.refl _ _) (.inl rfl) _))⟩
      ·exact (Below.heap_setCell W' _ _ _ (by show B + 1 ≠ B + 1 + 1 + 1;omega)).trans f2
      ·exact (Below.heap_setCell W' _ _ _ (by show B + 1 + 1 ≠ B + 1 + 1 + 1;omega)).trans f3
      ·rw [<- hv.out];exact one_setCell f4
     case measure=>simp [intOf];omega
    ·gi_wp2
     refine bodyPost_ret (results_none rfl _ _ _) rfl ?_
     exact ⟨⟨_,rfl⟩,.inr ⟨_,hlt,hJx'⟩⟩
  ·obtain rfl:k = n:=by omega
   gi_wp2
   go_end0
   exact ⟨⟨_,rfl⟩,.inl hJA⟩
set_option maxRecDepth 100000 in
set_option maxHeartbeats 800000 in
theorem Zrr (N:Nat) (cf:FuncId) (cap:Array Value) (p:Nat -> Bool) (w:World) (hN:N <= 1000)
  (eg:∀ args w,(callFunc cf args).run Tryz.prog w = .ok (.enter cf args) w) (hf:∀ i q,i < N -> Calls Tryz.prog cf (#[.int .i64 i] ++ cap) (w.drewN q) fun e w'=>e = .returned (.bool (p i)) /\ ∃ q',w' = w.drewN q') :
  Calls Tryz.prog 116 #[.int .i64 N,.func (.func cf) #[] cap] w fun e w'=>∃ (k q:Nat),e = .returned (.int .i64 k) /\ w' = w.drewN q /\ k <= N /\ (0 < k -> p (k - 1) = false) /\ (k < N -> p k = true):=by
 have HF:=Zh hf
 clear hf
 go_enter Tryz.func116,Tryz.ntmps116
 go_wp2
 go_loopw [5,6] (fun i j wr=>∃ a b q:Nat,a <= b /\ b <= N /\ i = .int .i64 a /\ j = .int .i64 b /\ wr = w.drewN q /\ (0 < a -> p (a - 1) = false) /\ (b < N -> p b = true)) (fun i j _=>(intOf j).toNat - (intOf i).toNat)
 case atStart=>exact ⟨0,N,0,by omega,by omega,rfl,rfl,rfl,by omega,by omega⟩
 case round =>
  obtain ⟨a,b,q,hab,hb,rfl,rfl,rfl,hpa,hpb⟩:=hrel
  have HA:=Zh hpa
  have HB:=Zh hpb
  clear hpa hpb
  by_cases hlt:a < b
  ·obtain ⟨m,hm⟩:∃ m,(a + b) / 2 = m:=⟨_,rfl⟩
   have hmi:((a:Int) + (b:Int)) / 2 = (m:Int):=by omega
   have hma:a <= m:=by omega
   have hmb:m < b:=by omega
   clear hm
   have HC:=Zh (HF.out m q (by omega))
   cases hp:p m with
   | true =>
    have HP:=Zh hp
    rw [hp] at HC
    clear hp
    go_wp2_with (first | (refine HC.out.mono ?_;rintro e w' ⟨rfl,q',rfl⟩))
    go_roundw
    case rel=>exact ⟨a,m,q',by omega,by omega,rfl,rfl,rfl,HA.out,fun _=>HP.out⟩
    case measure=>simp [intOf];omega
   | false =>
    have HP:=Zh hp
    rw [hp] at HC
    clear hp
    go_wp2_with (first | (refine HC.out.mono ?_;rintro e w' ⟨rfl,q',rfl⟩))
    go_roundw
    case rel=>exact ⟨m + 1,b,q',by omega,by omega,by go_num,rfl,rfl,fun _=>by simpa using HP.out,HB.out⟩
    case measure=>simp [intOf];omega
  ·obtain rfl:a = b:=by omega
   go_wp2_with fail
   go_ret
   exact ⟨a,q,rfl,rfl,hb,HA.out,HB.out⟩
end Go.Proofs.YtendielanacflaaGreat
