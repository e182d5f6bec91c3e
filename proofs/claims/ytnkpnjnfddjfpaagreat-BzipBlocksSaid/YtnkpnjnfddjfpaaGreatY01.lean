/- Plain mathematics of layer 20's Pack, and of the parts of layer 28: pieces, what they are packed as, how far there is room. Owned slices of numbers: what a call makes itself, as a list; laws for make, append, load and store. Owned slices of elements of several cells (structs), as lists: what a call makes itself; laws for append, load. Cuts of a slice of bytes: where they stand, what they hold (EmSto holds the same words for the seat of layer 18); rle.pieces: the iterator of pieces. Words that all seats use: lists of what has come up, adding, bits.Mul. The reference of layer 20: Pieces, Packed. The reference of layer 20: Packed, Pack. The reference of layer 28: Ends. layer 28's law BzipBlocks. -/
import Derived.Test.YtnkpnjnfddjfpaaGreatZ01
import Derived.Test.YtnkpnjnfddjfpaaGreatZ02
import Derived.Test.YtnkpnjnfddjfpaaGreatZ03
import Derived.Test.YtnkpnjnfddjfpaaGreatZ04
import Derived.Lib.Hide
import Derived.Below
import Derived.OneCell
import Derived.OwnWalkIn
import Derived.Laws.BytesString
import Derived.WalkKit
import Derived.WalkLawsBesides
import Derived.WalkSpells
import Derived.RangeFuncNested
import Derived.RangeFuncBound
import Derived.RangeFuncCalls
import Derived.RangeFuncLeaves
import Derived.RangeFuncWrites
import Derived.Shelf.Abstract
import Derived.Shelf.RegionOpen
import Derived.TacticsInMore
import Derived.LoopNIn
import Derived.LoopIn
import Derived.Test.YtnkpnjnfddjfpaaGreatChecked
import Derived.BigQuiet
import Derived.Deep.QuietTactic
import Derived.Laws.Bits64b
import Derived.Maps.AppendAt
import Derived.Lib.SlicesS
import Derived.Orders
import Derived.OrdersIn
import Derived.Tactics
import Derived.TacticsIn
import Derived.StillTail
import Derived.StillTactics
import Derived.ArgAppend
import Derived.Laws.EntriesVeiled
import Derived.StillTailTactics
import Derived.Laws.CopyRow
import Derived.Laws.IdiomCopy
import Derived.Defers
import Derived.Recover
import Derived.Laws.Pointers
import Derived.Maps.Own
import Derived.Maps.OwnOps
import Derived.Maps.OwnSet
import Derived.Maps.Views
import Derived.DeepKeys4
import Derived.WalkArith
import Derived.Lib.SlBytesConst
import Derived.Laws.Rows
import Derived.Great.BuildSlice
import Derived.Laws.CopyOwn
import Derived.Lib.MakeNoZero
import Derived.Deep.RegionLaw
import Derived.Lib.ConvBytes
set_option linter.unusedVariables false
set_option linter.unusedSimpArgs false
namespace Go.Proofs.YtnkpnjnfddjfpaaGreat.M20
def addP (ps:List (Nat × Nat)) (c:Nat):List (Nat × Nat) :=
 match ps.getLast? with
 | some p=>if p.1 = c /\ p.2 < 255 then ps.dropLast ++ [(p.1,p.2 + 1)] else ps ++ [(c,1)]
 | none=>[(c,1)]
theorem addP_snoc (ps:List (Nat × Nat)) (p:Nat × Nat) (c:Nat):addP (ps ++ [p]) c = if p.1 = c /\ p.2 < 255 then ps ++ [(p.1,p.2 + 1)] else ps ++ [p] ++ [(c,1)]:=by
 unfold addP
 rw [List.getLast?_concat,List.dropLast_concat]
theorem fold_run (c:Nat):∀ (r:List Nat) (ps:List (Nat × Nat)) (n:Nat),n <= 255 -> r.foldl addP (ps ++ [(c,n)]) = (r.drop (runN c (255 - n) r)).foldl addP (ps ++ [(c,n + runN c (255 - n) r)])
 | [],ps,n,h=>by cases h2:255 - n <;> simp [runN]
 | x :: r,ps,n,h=>by
  rw [List.foldl_cons,addP_snoc]
  by_cases hx:c = x /\ n < 255
  ·rw [if_pos hx]
   obtain ⟨rfl,hn⟩:=hx
   show r.foldl addP (ps ++ [(c,n + 1)]) = _
   rw [fold_run c r ps (n + 1) (by omega)]
   have h1:runN c (255 - n) (c :: r) = runN c (255 - (n + 1)) r + 1:=by
    rw [show 255 - n = (255 - (n + 1)) + 1 by omega]
    conv=>lhs;unfold runN
    rw [if_pos rfl]
   rw [h1,List.drop_succ_cons,show n + 1 + runN c (255 - (n + 1)) r = n + (runN c (255 - (n + 1)) r + 1) by omega]
  ·have h1:runN c (255 - n) (x :: r) = 0:=by
    cases h2:255 - n with
    | zero=>rfl
    | succ m =>
     unfold runN
     rw [if_neg (fun e=>hx ⟨e.symm,by omega⟩)]
   rw [if_neg hx,h1]
   simp only [List.drop_zero,Nat.add_zero,List.foldl_cons]
   rw [addP_snoc,if_neg hx]
theorem fold_pcs:∀ (f:Nat) (l:List Nat) (ps:List (Nat × Nat)),l.length <= f -> (∀ p,ps.getLast? = some p -> ∀ x,l.head? = some x -> ¬ (p.1 = x /\ p.2 < 255)) -> l.foldl addP ps = ps ++ pcs l
 | f,[],ps,_,_=>by simp [Zdl]
 | 0,_ :: _,_,h,_=>by simp at h
 | f + 1,c :: r,ps,h,hl=>by
  have h1:addP ps c = ps ++ [(c,1)]:=by
   unfold addP
   cases hg:ps.getLast? with
   | none=>rw [List.getLast?_eq_none_iff] at hg;subst hg;rfl
   | some p=>simp only [];rw [if_neg (hl p hg c rfl)]
  rw [List.foldl_cons,h1,fold_run c r ps 1 (by omega),Zbq (List.cons_ne_nil c r)]
  have hp:pieceN (c :: r) = 1 + runN c 254 r:=by rw [Zbb];omega
  rw [fold_pcs f (r.drop (runN c (255 - 1) r)) _ (by rw [List.length_cons] at h;rw [List.length_drop];omega)]
  ·rw [hp,show 1 + runN c 254 r = runN c 254 r + 1 by omega,List.drop_succ_cons]
   simp [Nat.add_comm]
  ·intro p hp2 x hx
   rw [List.getLast?_concat] at hp2
   simp only [Option.some.injEq] at hp2
   subst hp2
   rw [List.head?_drop] at hx
   intro ⟨e1,e2⟩
   simp only at e1 e2
   have hlt:=(List.getElem?_eq_some_iff.1 hx).1
   rcases Zdc c (255 - 1) r with h3 | h3 | h3
   ·omega
   ·omega
   ·exact h3 (by rw [List.getD_eq_getElem?_getD,hx];exact e1.symm)
theorem pcs_fold (l:List Nat):l.foldl addP [] = pcs l:=by
 rw [fold_pcs l.length l [] (Nat.le_refl _) (fun p h=>by simp at h),List.nil_append]
theorem ends_at {room:Nat} (h5:5 <= room) {l:List Nat} {i:Nat} (h:i < (ends room l).length):(ends room l)[i] = (packG room (leftE room l i)).2:=by
 have h1:=Zbs h5 l i
 rw [Zbe h5 (Zbf h5 h),List.drop_eq_getElem_cons h] at h1
 exact (List.cons.inj h1).1.symm
end Go.Proofs.YtnkpnjnfddjfpaaGreat.M20

namespace Go.Proofs.YtnkpnjnfddjfpaaGreat
open Go.RowKit
section
variable {P : Program} {E : TypeId} {k : IntKind} {w w' : World} {base cap : Nat} {a : Option Addr} {l : List Nat}
end
section
variable {P : Program} {T E : TypeId} {k : IntKind} {bytes : Nat}
theorem app1N (et:ElemTy P T E k bytes) {w:World} {ops:Array Oper} {rest:List Oper} {o:Oper} {ac:Act} {Q:Exit -> Act -> World -> Prop} (hgd:o.guard = none) (s x:Operand)
  (ho:o.op = .call { callee:=.builtin .append,args:=#[s,x],argTypes:=#[T,T] }) {base:Nat} {a:Option Addr} {cap:Nat} {l:List Nat} {y:Nat} {c E':Nat}
  (hs:ac.eval s = .slice a l.length cap) (hown:OwnN E k w base a cap l) (hx:ac.eval x = .slice (some ⟨w.heap.size,0,none⟩) 1 c) (hc:1 <= c) (hc':c <= 9223372036854775807)
  (hn:l.length + 1 <= 9223372036854775807) (hbytes:(l.length + 1) * bytes <= 140737488355328) (hbase:base <= w.heap.size)
  (h:∀ a' cap' w',OwnN E k w' base a' cap' (l ++ [y]) -> w.grownBy w' (Value.slice a l.length cap).ownBlock -> Below base w w' -> wpList P ops Q rest (ac.put o.dst (.slice a' (l.length + 1) cap')) w') :
  wpList P ops Q (o :: rest) ac (w.alloc (.cells #[.int k y] E')):=by
 refine appN et hgd s x ho hs (hown.alloc _) (ys:=[y]) rfl hx ?_ (by simp) hn hbytes (by simp;omega) ?_
 ·refine ⟨by simpa using hc,⟨hc',fun hn=>by cases hn⟩,.inr ⟨w.heap.size,0,rfl,by simp,fun i hi=>?_⟩⟩
  obtain rfl:i = 0:=by simp at hi;omega
  simp [World.cell?_alloc_at]
 ·intro a' cap' w' h1 h2 h3
  refine h a' cap' w' h1 ⟨h2.os,h2.tape,h2.output,Nat.le_trans (by simp) h2.size,fun q hq hr=>(h2.block q (by simp;omega) hr).trans (Below.heap_alloc _ _ _ hq)⟩ (((Below.refl base w).alloc hbase _).trans h3)
end
section
variable {P : Program} {T E : TypeId} {k : IntKind} {bytes : Nat} {F : Fence} {dep : Nat}
end
section
variable {P : Program} {E : TypeId} {k : IntKind} {w w' : World} {base cap : Nat} {a : Option Addr} {l : List Int}
end
section
variable {P : Program} {T E : TypeId} {k : IntKind} {bytes : Nat}
end
section
variable {P : Program} {T E : TypeId} {k : IntKind} {bytes : Nat} {F : Fence} {dep : Nat}
end
end Go.Proofs.YtnkpnjnfddjfpaaGreat

namespace Go.Proofs.YtnkpnjnfddjfpaaGreat
open Go.RowKit
section
variable {α : Type} {c : Enc α}
end
section
variable {α : Type} {c : Enc α} {w w' : World} {a : Option Addr} {cap : Nat} {l : List α}
end
section
variable {α : Type} {c : Enc α} {E : TypeId} {w w' : World} {base cap : Nat} {a : Option Addr} {l : List α}
end
section
variable {P : Program} {T E : TypeId} {α : Type} {cc : Enc α} {z : Value} {bytes : Nat}
theorem appAnyS (et:ElemS P T E cc z bytes) {w:World} {ops:Array Oper} {rest:List Oper} {o:Oper} {ac:Act} {Q:Exit -> Act -> World -> Prop} (hgd:o.guard = none) (s x:Operand)
  (ho:o.op = .call { callee:=.builtin .append,args:=#[s,x],argTypes:=#[T,T] }) {base:Nat} {a:Option Addr} {cap m c:Nat} {l ys:List α}
  (hs:ac.eval s = .slice a l.length cap) (hown:OwnS cc E w base a cap l) {b:Option Addr} (hm:m = ys.length) (hx:ac.eval x = .slice b m c) (hy:RowS cc w b c ys)
  (hn:l.length + m <= 9223372036854775807) (hbytes:(l.length + m) * bytes <= 140737488355328) (hbase:base <= w.heap.size)
  (h:∀ a' cap' w',OwnS cc E w' base a' cap' (l ++ ys) -> w.grownBy w' (Value.slice a l.length cap).ownBlock -> Below base w w' -> wpList P ops Q rest (ac.put o.dst (.slice a' (l.length + m) cap')) w') :
  wpList P ops Q (o :: rest) ac w:=by
 subst hm
 obtain ⟨i,h2,h3,h4,h5⟩:=info_parts et.info
 refine wpList_plain (by assumption) fun K hK'=>?_
 by_cases hb:b = none
 ·subst hb
  obtain rfl:c = 0:=hy.2.1.2 rfl
  obtain rfl:ys = []:=List.eq_nil_of_length_eq_zero (by have:=hy.1;omega)
  have hr:=run_append_owned_none (P:=P) w base T o.type E i cc.sz et.und h2 _ l.length _ hown
  unfold Oper.wp
  simp [execOp,ho,resolve,invoke,builtin,hs,hx,hr,Result.andThen]
  exact hK' _ _ (by simpa using h a cap w (by simpa using hown) (World.grownBy.refl _ _) (Below.refl _ _))
 ·obtain ⟨ad,rfl⟩:=Option.ne_none_iff_exists'.1 hb
  have hcl:∀ j u,(flat cc ys)[j]? = some u -> w.cell? (ad.add j) = some u:=by
   intro j u hu
   obtain ⟨_,_,rfl | ⟨b',off,he,_,hc⟩⟩:=hy
   ·simp [flat] at hu
   ·cases he
    have:=hc j u hu
    unfold Addr.add
    split
    ·simp_all
    ·exact this
  obtain ⟨v',w',hr,h6,h7,h8⟩:=run_append_own (P:=P) w base T o.type E i z cc.sz bytes et.und h2 h3 h4 h5 et.zs cc.pos _ l.length _ hown ad ys.length c (flat cc ys) (Zbu _)
   hcl (Zfj _) (by simpa [maxLen] using hn) hbytes hbase
  have hv:∃ a' cap',v' = .slice a' (l.length + ys.length) cap':=by
   rcases h6.2 with ⟨h9,h10⟩ | ⟨g,c',cur,h9,_⟩
   ·exact ⟨none,0,by rw [h9,h10]⟩
   ·exact ⟨_,_,h9⟩
  obtain ⟨a',cap',rfl⟩:=hv
  have hown':OwnS cc E w' base a' cap' (l ++ ys):=by
   unfold OwnS;rw [List.length_append,Zdg];exact h6
  have hbel:Below base w w':=Below.of_grown h7 hbase (by
   intro g hg
   exact (World.ownsRow.lt hown g hg).1)
  unfold Oper.wp
  simp [execOp,ho,resolve,invoke,builtin,hs,hx,hr,Result.andThen]
  exact hK' _ _ (h a' cap' w' hown' h7 hbel)
theorem app1S (et:ElemS P T E cc z bytes) {w:World} {ops:Array Oper} {rest:List Oper} {o:Oper} {ac:Act} {Q:Exit -> Act -> World -> Prop} (hgd:o.guard = none) (s x:Operand)
  (ho:o.op = .call { callee:=.builtin .append,args:=#[s,x],argTypes:=#[T,T] }) {base:Nat} {a:Option Addr} {cap:Nat} {l:List α} (y:α) {cs:Array Value} {c E':Nat}
  (hs:ac.eval s = .slice a l.length cap) (hown:OwnS cc E w base a cap l) (hx:ac.eval x = .slice (some ⟨w.heap.size,0,none⟩) 1 c) (hcs:cs = (cc.cells y).toArray) (hc:1 <= c) (hc':c <= 9223372036854775807)
  (hn:l.length + 1 <= 9223372036854775807) (hbytes:(l.length + 1) * bytes <= 140737488355328) (hbase:base <= w.heap.size)
  (h:∀ a' cap' w',OwnS cc E w' base a' cap' (l ++ [y]) -> w.grownBy w' (Value.slice a l.length cap).ownBlock -> Below base w w' -> wpList P ops Q rest (ac.put o.dst (.slice a' (l.length + 1) cap')) w') :
  wpList P ops Q (o :: rest) ac (w.alloc (.cells cs E')):=by
 refine appAnyS et hgd s x ho hs (hown.alloc _) (ys:=[y]) rfl hx ?_ hn hbytes (by simp;omega) ?_
 ·subst hcs
  have:=RowS.lit cc w [y] E' ((cc.cells y).toArray) w.heap.size rfl (by simp [flat]) (by simp)
  exact ⟨by simpa using hc,⟨hc',fun hn=>by cases hn⟩,this.2.2⟩
 ·intro a' cap' w' h1 h2 h3
  refine h a' cap' w' h1 ⟨h2.os,h2.tape,h2.output,Nat.le_trans (by simp) h2.size,fun q hq hr=>(h2.block q (by simp;omega) hr).trans (Below.heap_alloc _ _ _ hq)⟩ (((Below.refl base w).alloc hbase _).trans h3)
end
end Go.Proofs.YtnkpnjnfddjfpaaGreat

namespace Go.Proofs.YtnkpnjnfddjfpaaGreat
open Go.RowKit
theorem cutLoN (a:Option Addr) (len cap k:Nat) (h:k <= cap) (w:World):(Instr.sliceAt 22 (.slice a len cap) none (some (.int .i64 (k:Nat))) none).run Tryz.prog w = .ok (.slice a k cap) w:=by
 have hsz:(Tryz.prog.info? 5).map (·.size) = some 1:=by kernel_rfl
 cases h5:Tryz.prog.info? 5 with
 | none=>rw [h5] at hsz;cases hsz
 | some ie =>
  simp only [h5,Option.map_some,Option.some.injEq] at hsz
  simp [Instr.sliceAt,Instr.slice,Instr.sliceBounds,Instr.sliceBound,run_underlying Tryz.underlying22,asIntOf,sizeOf,typeInfo,h5,hsz,go_sem,h,Addr.add]
end Go.Proofs.YtnkpnjnfddjfpaaGreat

namespace Go.Proofs.YtnkpnjnfddjfpaaGreat
open Go.RowKit Go.Shelf
theorem et_int:ElemTy Tryz.prog 36 3 .i64 8:=⟨Tryz.underlying36,by kernel_rfl⟩
end Go.Proofs.YtnkpnjnfddjfpaaGreat

namespace Go.Proofs.YtnkpnjnfddjfpaaGreat
open Go.RowKit
def encPc:Enc (Nat × Nat) where
 sz:=2
 cells x:=[.int .u8 (x.1:Nat),.int .i64 (x.2:Nat)]
 len _:=rfl
 one x u hu:=by
  simp only [List.mem_cons,List.not_mem_nil,or_false] at hu
  rcases hu with rfl | rfl <;> rfl
 pos:=by decide
theorem pc_elems:ElemS Tryz.prog 107 111 encPc (.agg #[.int .u8 0,.int .i64 0]) 16:=⟨Tryz.underlying107,by kernel_rfl,by kernel_rfl⟩
theorem flat_setPc:∀ (l:List (Nat × Nat)) (k:Nat) (x:Nat × Nat) (h:k < l.length),x.1 = l[k].1 -> flat encPc (l.set k x) = (flat encPc l).set (k * 2 + 1) (.int .i64 (x.2:Nat))
 | [],k,x,h,_=>by simp at h
 | y :: l,0,x,h,hx=>by
  simp only [List.getElem_cons_zero] at hx
  show encPc.cells x ++ flat encPc l = (encPc.cells y ++ flat encPc l).set 1 _
  show Value.int .u8 (x.1:Nat) :: .int .i64 (x.2:Nat) :: flat encPc l = Value.int .u8 (y.1:Nat) :: .int .i64 (x.2:Nat) :: flat encPc l
  rw [hx]
 | y :: l,k + 1,x,h,hx=>by
  have ih:=flat_setPc l k x (by simpa using h) (by simpa using hx)
  show encPc.cells y ++ flat encPc (l.set k x) = (encPc.cells y ++ flat encPc l).set ((k + 1) * 2 + 1) _
  rw [ih,show (k + 1) * 2 + 1 = (k * 2 + 1) + 1 + 1 by omega]
  rfl
theorem OwnS.storedPc {E:TypeId} {w:World} {base g cap:Nat} {l:List (Nat × Nat)} (h:OwnS encPc E w base (some ⟨g,0,none⟩) cap l) (k:Nat) (x:Nat × Nat) (hk:k < l.length) (hx:x.1 = l[k].1) :
  OwnS encPc E (w.setCell ⟨g,k * 2 + 1,none⟩ (.int .i64 (x.2:Nat))) base (some ⟨g,0,none⟩) cap (l.set k x) /\ w.grownBy (w.setCell ⟨g,k * 2 + 1,none⟩ (.int .i64 (x.2:Nat))) (some g):=by
 obtain ⟨h1,h2⟩:=World.ownsRow.stored h (k * 2 + 1) (.int .i64 (x.2:Nat))
 refine ⟨?_,h2⟩
 unfold OwnS
 rw [flat_setPc l k x hk hx,List.length_set]
 exact h1
theorem addP_put {ps:List (Nat × Nat)} {c k:Nat} (hk:ps.length = k + 1) (h:¬ ((ps[k]'(by omega)).1 = c /\ (ps[k]'(by omega)).2 < 255)):M20.addP ps c = ps ++ [(c,1)]:=by
 unfold M20.addP
 have:ps.getLast? = some (ps[k]'(by omega)):=by
  rw [List.getLast?_eq_getElem?,show ps.length - 1 = k by omega,List.getElem?_eq_getElem (by omega)]
 rw [this]
 simp only []
 rw [if_neg h]
theorem addP_inc {ps:List (Nat × Nat)} {c k:Nat} (hk:ps.length = k + 1) (h:(ps[k]'(by omega)).1 = c /\ (ps[k]'(by omega)).2 < 255):M20.addP ps c = ps.set k ((ps[k]'(by omega)).1,(ps[k]'(by omega)).2 + 1):=by
 unfold M20.addP
 have:ps.getLast? = some (ps[k]'(by omega)):=by
  rw [List.getLast?_eq_getElem?,show ps.length - 1 = k by omega,List.getElem?_eq_getElem (by omega)]
 rw [this]
 simp only []
 rw [if_pos h]
 refine List.ext_getElem (by simp;omega) fun i h1 h2=>?_
 rw [List.getElem_set]
 by_cases e:k = i
 ·subst e
  rw [if_pos rfl,List.getElem_append_right (by simp;omega)]
  simp
 ·rw [if_neg e,List.getElem_append_left (by simp at h1 ⊢;omega),List.getElem_dropLast]
def PcOk (ps:List (Nat × Nat)):Prop:=∀ p ∈ ps,p.1 < 256 /\ p.2 <= 255
theorem PcOk.add {ps:List (Nat × Nat)} {c:Nat} (h:PcOk ps) (hc:c < 256):PcOk (ps ++ [(c,1)]):=fun p hp=>by
 rcases List.mem_append.1 hp with h1 | h1
 ·exact h p h1
 ·rw [List.mem_singleton.1 h1];exact ⟨hc,show (1:Nat) <= 255 by decide⟩
theorem PcOk.set {ps:List (Nat × Nat)} {k:Nat} {x:Nat × Nat} (h:PcOk ps) (hx:x.1 < 256 /\ x.2 <= 255):PcOk (ps.set k x):=fun p hp=>by
 rcases List.mem_or_eq_of_mem_set hp with h1 | h1
 ·exact h p h1
 ·rw [h1];exact hx
theorem pcsTo_succ (l:List Nat) (i:Nat) (h:i < l.length):(l.take (i + 1)).foldl M20.addP [] = M20.addP ((l.take i).foldl M20.addP []) l[i]:=by
 rw [List.take_succ_eq_append_getElem h,List.foldl_append];rfl
theorem bPc (c:Nat) (w:World):(Instr.build 111 #[(0,.int .u8 (c:Nat)),(1,.int .i64 1)]).run Tryz.prog w = .ok (.agg #[.int .u8 (c:Nat),.int .i64 1]) w:=by kernel_rfl
set_option maxRecDepth 100000 in
set_option maxHeartbeats 6400000 in
theorem ref20_pieces (w:World) (a:Option Addr) (cap:Nat) (l:List Nat) (hr:RowN .u8 w a cap l) (h256:∀ x ∈ l,x < 256) (hl:l.length <= 1000000) :
  Calls Tryz.prog 61 #[.slice a l.length cap] w fun e w'=>∃ g c,e = .returned (.slice g (M20.pcs l).length c) /\ RowS encPc w' g c (M20.pcs l) /\ Below w.heap.size w w':=by
 have HR:=Zh hr
 have HL:=Zh h256
 clear hr h256
 go_enter Tryz.func61,Tryz.ntmps61
 go_wp2_with fail
 go_loopw [3,4] (fun v c A=>∃ (i:Nat) (ga:Option Addr) (gc:Nat) (ps:List (Nat × Nat)),i <= l.length /\ c = .int .i64 (i:Nat) /\ v = .slice ga ps.length gc /\ OwnS encPc 111 A w.heap.size ga gc ps /\ Hid (ps = (l.take i).foldl M20.addP []) /\ PcOk ps /\ ps.length <= i /\ Below w.heap.size w A) (fun _ c _=>l.length - (intOf c).toNat)
 case atStart=>exact ⟨0,none,0,[],Nat.zero_le _,rfl,rfl,World.ownsRow_nil _ _ _ _,rfl,fun p hp=>(by cases hp),Nat.le_refl _,Below.refl _ _⟩
 case round =>
  obtain ⟨i,ga,gc,ps,hi,rfl,rfl,hown,HPS,hok,hpl,hb⟩:=hrel
  have HOWN:=Zh hown
  have HOK:=Zh hok
  have HB:=Zh hb
  have HWZ:Hid (w.heap.size <= wr.heap.size):=hb.size
  by_cases hlt:i < l.length
  ·have t2:decide ((i:Int) < (l.length:Int)) = true:=by simp;omega
   have t2':decide (i < l.length) = true:=by simp;omega
   obtain ⟨b,off,ha,hbl,hc⟩:=(HR.out.below hb).at hlt
   subst ha
   have hc256:=HL.out _ (List.getElem_mem hlt)
   have HSC:=Zh (pcsTo_succ l i hlt)
   rw [<- HPS.out] at HSC
   generalize l[i] = c at *
   have hi2:(i:Int) < (l.length:Int):=by omega
   have hiw:IntKind.i64.wrap ((i:Int) + 1) = ((i + 1:Nat):Int):=by rw [IntWalk.i64_in _ (by omega)];omega
   clear hown hok hb hbl HPS
   by_cases h0:ps.length = 0
   ·have hnil:ps = []:=List.length_eq_zero_iff.1 h0
    have t3:decide ((0:Int) < (ps.length:Int)) = false:=by simp;omega
    have t3':decide (0 < ps.length) = false:=by simp;omega
    have HADD:Hid (M20.addP ps c = ps ++ [(c,1)]):=by unfold Hid;rw [hnil];rfl
    clear hnil h0
    go_wp2_with fail
    go_quiet (fail)
    have HO3:=Zh (HOWN.out.below (show Below wr.heap.size wr (wr.drewN nq) from ⟨rfl,rfl,rfl,Nat.le_refl _,fun _ _=>rfl⟩))
    have HB3:=Zh (HB.out.trans (show Below w.heap.size wr (wr.drewN nq) from ⟨rfl,rfl,rfl,Nat.le_refl _,fun _ _=>rfl⟩))
    replace hc:(wr.drewN nq).cell? ⟨b,off + i,none⟩ = _:=hc
    have hwz:w.heap.size <= (wr.drewN nq).heap.size:=HWZ.out
    clear HOWN HB HWZ t3 t3'
    generalize wr.drewN nq = w3 at *
    have hb5:=bPc c
    go_wp2_with (at_builtin;refine app1S pc_elems rfl (.tmp 47) (.tmp 53) rfl (c,1) (base:=w.heap.size) rfl HO3.out rfl rfl (by decide) (by decide) (by omega) (by omega) hwz ?_;intro a7 c7 w7 hown7 hg7 hb7;have HO7:=Zh hown7;have HB7:=Zh (HB3.out.trans hb7);clear hown7 hg7 hb7)
    go_roundw
    case rel=>exact ⟨i + 1,a7,c7,ps ++ [(c,1)],by omega,by go_num,by rw [List.length_append];rfl,HO7.out,by unfold Hid;rw [HSC.out,HADD.out],HOK.out.add hc256,by rw [List.length_append,List.length_singleton];omega,HB7.out⟩
    case measure=>simp [intOf];omega
   ·obtain ⟨k,hk⟩:∃ k,ps.length = k + 1:=⟨ps.length - 1,by omega⟩
    have t3:decide ((0:Int) < (ps.length:Int)) = true:=by simp;omega
    have t3':decide (0 < ps.length) = true:=by simp;omega
    have hkw:IntKind.i64.wrap ((ps.length:Int) - 1) = (k:Int):=by rw [IntWalk.i64_in _ (by omega)];omega
    have hkl:k < ps.length:=by omega
    have HK:=Zh hk
    have hkl2:(k:Int) < (ps.length:Int):=by omega
    obtain ⟨g,off2,hga,hgl,hcl⟩:=HOWN.out.row.at hkl
    obtain ⟨g2,hga2,_⟩:∃ g2,ga = some ⟨g2,0,none⟩ /\ True:=by
     rcases HOWN.out.form with ⟨h,_,_⟩ | ⟨g2,h,_⟩
     ·rw [h] at hga;cases hga
     ·exact ⟨g2,h,trivial⟩
    rw [hga] at hga2
    simp only [Option.some.injEq,Addr.mk.injEq,and_true] at hga2
    obtain ⟨rfl,rfl⟩:=hga2
    subst hga
    have e0:=hcl 0 _ rfl
    have e1:=hcl 1 _ rfl
    simp only [encPc,Nat.zero_add,Nat.add_zero] at e0 e1
    have HSTO:=Zh (fun A (h:OwnS encPc 111 A w.heap.size (some ⟨g,0,none⟩) gc ps) (x:Nat × Nat) (hx:x.1 = (ps[k]'hkl).1)=>OwnS.storedPc h k x hkl hx)
    have HINC:=Zh (fun h=>addP_inc (ps:=ps) (c:=c) hk h)
    have HPUT:=Zh (fun h=>addP_put (ps:=ps) (c:=c) hk h)
    have HPK:=Zh (HOK.out _ (List.getElem_mem hkl))
    generalize hpk:ps[k] = pk at *
    obtain ⟨pc,pn⟩:=pk
    simp only at e0 e1 HSTO HINC HPUT HPK
    clear hpk hcl hgl h0 hk
    by_cases h1:pc = c
    ·by_cases h2:pn < 255
     ·have t4:decide ((pn:Int) < 255) = true:=by simp;omega
      have t4':decide (pn < 255) = true:=by simp;omega
      have t5:((pc:Int) == (c:Int)) = true:=by simp;omega
      have t5':(pc == c) = true:=by simp;omega
      have HADD:=Zh (HINC.out ⟨h1,h2⟩)
      have HP2:Hid (pn + 1 <= 255):=h2
      have hnw:IntKind.i64.wrap ((pn:Int) + 1) = ((pn + 1:Nat):Int):=by rw [IntWalk.i64_in _ (by omega)];omega
      subst h1
      clear h2
      go_wp2_with fail
      go_quiet (fail)
      have HO3:=Zh (HOWN.out.below (show Below wr.heap.size wr (wr.drewN nq) from ⟨rfl,rfl,rfl,Nat.le_refl _,fun _ _=>rfl⟩))
      have HB3:=Zh (HB.out.trans (show Below w.heap.size wr (wr.drewN nq) from ⟨rfl,rfl,rfl,Nat.le_refl _,fun _ _=>rfl⟩))
      replace e1:(wr.drewN nq).cell? ⟨g,k * 2 + 1,none⟩ = _:=e1
      have hwz:w.heap.size <= (wr.drewN nq).heap.size:=HWZ.out
      clear HOWN HB HWZ e0 hc t4 t4' t5 t5'
      generalize wr.drewN nq = w3 at *
      have hfz:w3.frozen? ⟨g,k * 2 + 1,none⟩ = false:=by
       rcases HO3.out.2 with ⟨h8,_⟩ | ⟨g',c',cur,g1,g2,g3,g4⟩
       ·simp only [Value.slice.injEq] at h8
        cases h8.1
       ·simp only [Value.slice.injEq,Option.some.injEq,Addr.mk.injEq,and_true] at g1
        rw [<- g1.1] at g3
        unfold World.frozen?
        rw [g3];rfl
      obtain ⟨o1,o2⟩:=HSTO.out w3 HO3.out (pc,pn + 1) rfl
      have HO4:=Zh o1
      have HB4:=Zh (HB3.out.trans (Below.of_grown o2 hwz (fun r hr=>by
       cases hr
       rcases HO3.out.form with ⟨h8,_⟩ | ⟨g',h8,h9,_⟩
       ·cases h8
       ·cases h8;exact h9)))
      clear o1 o2
      go_wp2_with fail
      go_roundw
      case rel=>exact ⟨i + 1,some ⟨g,0,none⟩,gc,ps.set k (pc,pn + 1),by omega,by go_num,by rw [List.length_set],HO4.out,by unfold Hid;rw [HSC.out,HADD.out],HOK.out.set ⟨HPK.out.1,HP2.out⟩,by rw [List.length_set];omega,HB4.out⟩
      case measure=>simp [intOf];omega
     ·have t4:decide ((pn:Int) < 255) = false:=by simp;omega
      have t4':decide (pn < 255) = false:=by simp;omega
      have t5:((pc:Int) == (c:Int)) = true:=by simp;omega
      have t5':(pc == c) = true:=by simp;omega
      have HADD:=Zh (HPUT.out (fun h=>h2 h.2))
      subst h1
      clear h2
      go_wp2_with fail
      go_quiet (fail)
      have HO3:=Zh (HOWN.out.below (show Below wr.heap.size wr (wr.drewN nq) from ⟨rfl,rfl,rfl,Nat.le_refl _,fun _ _=>rfl⟩))
      have HB3:=Zh (HB.out.trans (show Below w.heap.size wr (wr.drewN nq) from ⟨rfl,rfl,rfl,Nat.le_refl _,fun _ _=>rfl⟩))
      replace hc:(wr.drewN nq).cell? ⟨b,off + i,none⟩ = _:=hc
      have hwz:w.heap.size <= (wr.drewN nq).heap.size:=HWZ.out
      clear HOWN HB HWZ t3 t3' t4 t4' t5 t5' e0 e1
      generalize wr.drewN nq = w3 at *
      have hb5:=bPc pc
      go_wp2_with (at_builtin;refine app1S pc_elems rfl (.tmp 47) (.tmp 53) rfl (pc,1) (base:=w.heap.size) rfl HO3.out rfl rfl (by decide) (by decide) (by omega) (by omega) hwz ?_;intro a7 c7 w7 hown7 hg7 hb7;have HO7:=Zh hown7;have HB7:=Zh (HB3.out.trans hb7);clear hown7 hg7 hb7)
      go_roundw
      case rel=>exact ⟨i + 1,a7,c7,ps ++ [(pc,1)],by omega,by go_num,by rw [List.length_append];rfl,HO7.out,by unfold Hid;rw [HSC.out,HADD.out],HOK.out.add hc256,by rw [List.length_append,List.length_singleton];omega,HB7.out⟩
      case measure=>simp [intOf];omega
    ·have t5:((pc:Int) == (c:Int)) = false:=by simp;omega
     have t5':(pc == c) = false:=by simp;omega
     have HADD:=Zh (HPUT.out (fun h=>h1 h.1))
     clear h1
     go_wp2_with fail
     go_quiet (fail)
     have HO3:=Zh (HOWN.out.below (show Below wr.heap.size wr (wr.drewN nq) from ⟨rfl,rfl,rfl,Nat.le_refl _,fun _ _=>rfl⟩))
     have HB3:=Zh (HB.out.trans (show Below w.heap.size wr (wr.drewN nq) from ⟨rfl,rfl,rfl,Nat.le_refl _,fun _ _=>rfl⟩))
     replace hc:(wr.drewN nq).cell? ⟨b,off + i,none⟩ = _:=hc
     have hwz:w.heap.size <= (wr.drewN nq).heap.size:=HWZ.out
     clear HOWN HB HWZ t3 t3' t5 t5' e0 e1
     generalize wr.drewN nq = w3 at *
     have hb5:=bPc c
     go_wp2_with (at_builtin;refine app1S pc_elems rfl (.tmp 47) (.tmp 53) rfl (c,1) (base:=w.heap.size) rfl HO3.out rfl rfl (by decide) (by decide) (by omega) (by omega) hwz ?_;intro a7 c7 w7 hown7 hg7 hb7;have HO7:=Zh hown7;have HB7:=Zh (HB3.out.trans hb7);clear hown7 hg7 hb7)
     go_roundw
     case rel=>exact ⟨i + 1,a7,c7,ps ++ [(c,1)],by omega,by go_num,by rw [List.length_append];rfl,HO7.out,by unfold Hid;rw [HSC.out,HADD.out],HOK.out.add hc256,by rw [List.length_append,List.length_singleton];omega,HB7.out⟩
     case measure=>simp [intOf];omega
  ·obtain rfl:i = l.length:=by omega
   have t2:decide ((l.length:Int) < (l.length:Int)) = false:=by simp
   have hps:ps = M20.pcs l:=by rw [HPS.out,List.take_length,M20.pcs_fold]
   subst hps
   clear hown hok hb HPS
   go_wp2
   go_ret
   exact ⟨ga,gc,rfl,HOWN.out.row,HB.out⟩
end Go.Proofs.YtnkpnjnfddjfpaaGreat

namespace Go.Proofs.YtnkpnjnfddjfpaaGreat
open Go.RowKit
theorem rep_snoc (n c:Nat):List.replicate n c ++ [c] = List.replicate (n + 1) c:=by rw [List.replicate_succ',]
set_option maxRecDepth 100000 in
set_option maxHeartbeats 3200000 in
theorem ref20_packed (w:World) (c n:Nat) (hc:c < 256) (hn:n <= 255) :
  Calls Tryz.prog 62 #[.agg #[.int .u8 (c:Nat),.int .i64 (n:Nat)]] w fun e w'=>∃ g k,e = .returned (.slice g (M20.pkd (c,n)).length k) /\ OwnN 5 .u8 w' w.heap.size g k (M20.pkd (c,n)) /\ Below w.heap.size w w':=by
 have hbx:=Zar w (.cells #[.int .u8 (c:Nat),.int .i64 (n:Nat)] 111)
 have hcx:(w.alloc (.cells #[.int .u8 (c:Nat),.int .i64 (n:Nat)] 111)).heap[w.heap.size]? = some (.cells #[.int .u8 (c:Nat),.int .i64 (n:Nat)] 111 (0,0)):=World.alloc_heap_new w _
 have hzx:(w.alloc (.cells #[.int .u8 (c:Nat),.int .i64 (n:Nat)] 111)).heap.size = w.heap.size + 1:=World.size_alloc _ _
 have HBX:=Zh hbx
 have HCX:=Zh hcx
 have HZX:=Zh hzx
 clear hbx hcx hzx
 go_enter Tryz.func62,Tryz.ntmps62
 go_wp2_with fail
 obtain ⟨q,hq⟩:∃ q,w.heap.size = q:=⟨_,rfl⟩
 have HQ:=Zh hq
 rw [hq] at HCX HZX ⊢
 generalize w.alloc (.cells #[.int .u8 (c:Nat),.int .i64 (n:Nat)] 111) = W0 at *
 go_loopw [3,4] (fun v cv A=>∃ (i:Nat) (ga:Option Addr) (gc:Nat),i <= n /\ i <= 4 /\ cv = .int .i64 (i:Nat) /\ v = .slice ga i gc /\ OwnN 5 .u8 A (q + 1) ga gc (List.replicate i c) /\ Below (q + 1) W0 A) (fun _ cv _=>4 - (intOf cv).toNat)
 case atStart=>exact ⟨0,none,0,Nat.zero_le _,by decide,rfl,rfl,OwnN.nil _ _ _ _,Below.refl _ _⟩
 case round =>
  obtain ⟨i,ga,gc,hi,hi4,rfl,rfl,hown,hb⟩:=hrel
  have hcx:=(hb.block q (by have:=HZX.out;omega)).trans HCX.out
  obtain ⟨k0,k1,_,_⟩:=Zay hcx
  have HOWN:=Zh hown
  have HB:=Zh hb
  have HWZ:Hid (q + 1 <= wr.heap.size):=by have:=hb.size;have:=HZX.out;unfold Hid;omega
  have hwz:q + 1 <= wr.heap.size:=HWZ.out
  clear hown hb
  by_cases h1:i < n
  ·have t1:decide ((i:Int) < (n:Int)) = true:=by simp;omega
   have t1':decide (i < n) = true:=by simp;omega
   by_cases h4:i < 4
   ·have t4:decide ((i:Int) < 4) = true:=by simp;omega
    have t4':decide (i < 4) = true:=by simp;omega
    have hiw:IntKind.i64.wrap ((i:Int) + 1) = ((i + 1:Nat):Int):=by rw [IntWalk.i64_in _ (by omega)];omega
    have hrl:(List.replicate i c).length = i:=List.length_replicate
    have HL1:Hid ((List.replicate i c).length + 1 <= 9223372036854775807):=by unfold Hid;rw [hrl];omega
    have HL2:Hid (((List.replicate i c).length + 1) * 1 <= 140737488355328):=by unfold Hid;rw [hrl];omega
    have HRL:=Zh hrl
    clear hrl
    go_wp2_with (at_builtin;refine app1N Zcr rfl (.tmp 15) (.tmp 18) rfl (y:=c) (l:=List.replicate i c) (base:=q + 1) (by rw [HRL.out];rfl) HOWN.out rfl (Nat.le_refl _) (by decide) HL1.out HL2.out hwz ?_;intro a7 c7 w7 hown7 hg7 hb7;have HO7:=Zh hown7;have HB7:=Zh (HB.out.trans hb7);clear hown7 hg7 hb7;rw [HRL.out])
    rw [rep_snoc] at HO7
    go_roundw
    case rel=>exact ⟨i + 1,a7,c7,by omega,by omega,by go_num,rfl,HO7.out,HB7.out⟩
    case measure=>simp [intOf];omega
   ·obtain rfl:i = 4:=by omega
    have t4:decide ((4:Int) < 4) = false:=by simp
    have t5:decide ((4:Int) <= (n:Int)) = true:=by simp;omega
    have t5':decide (4 <= n) = true:=by simp;omega
    obtain ⟨m,hm⟩:∃ m,n - 4 = m:=⟨_,rfl⟩
    have hmw:IntKind.i64.wrap ((n:Int) - 4) = (m:Int):=by rw [show (n:Int) - 4 = (m:Int) by omega];exact IntWalk.i64_in _ (by omega)
    have hm2:(m:Int) % 256 = (m:Int):=by omega
    have HPK:Hid (M20.pkd (c,n) = List.replicate 4 c ++ [m]):=by unfold Hid M20.pkd;rw [if_pos (show 4 <= (c,n).2 by show 4 <= n;omega)];show _ ++ [n - 4] = _;rw [hm]
    have HPL:Hid ((M20.pkd (c,n)).length = 5):=by unfold Hid;rw [HPK.out];simp
    clear hm h4
    go_wp2_with (at_builtin;refine app1N Zcr rfl (.tmp 23) (.tmp 28) rfl (y:=m) (l:=List.replicate 4 c) (base:=q + 1) rfl HOWN.out rfl (Nat.le_refl _) (by decide) (by simp) (by simp) hwz ?_;intro a7 c7 w7 hown7 hg7 hb7;have HO7:=Zh hown7;have HB7:=Zh (HB.out.trans hb7);clear hown7 hg7 hb7)
    go_ret
    refine ⟨a7,c7,by rw [HPL.out];rfl,?_,HBX.out.trans (HB7.out.mono (by rw [HQ.out];omega))⟩
    rw [HPK.out,HQ.out]
    exact HO7.out.mono (by omega)
  ·obtain rfl:i = n:=by omega
   have t1:decide ((i:Int) < (i:Int)) = false:=by simp
   by_cases h4:i < 4
   ·have t5:decide ((4:Int) <= (i:Int)) = false:=by simp;omega
    have t5':decide (4 <= i) = false:=by simp;omega
    have HPK:Hid (M20.pkd (c,i) = List.replicate i c):=by unfold Hid M20.pkd;rw [if_neg (show ¬ 4 <= (c,i).2 by show ¬ 4 <= i;omega)]
    clear h4
    go_wp2_with fail
    go_ret
    refine ⟨ga,gc,by rw [HPK.out,List.length_replicate];rfl,?_,HBX.out.trans (HB.out.mono (by rw [HQ.out];omega))⟩
    rw [HPK.out,HQ.out]
    exact HOWN.out.mono (by omega)
   ·obtain rfl:i = 4:=by omega
    have t5:decide ((4:Int) <= 4) = true:=by simp
    have HPK:Hid (M20.pkd (c,4) = List.replicate 4 c ++ [0]):=rfl
    have HPL:Hid ((M20.pkd (c,4)).length = 5):=by unfold Hid;rw [HPK.out];simp
    clear h4
    go_wp2_with (at_builtin;refine app1N Zcr rfl (.tmp 23) (.tmp 28) rfl (y:=0) (l:=List.replicate 4 c) (base:=q + 1) rfl HOWN.out rfl (Nat.le_refl _) (by decide) (by simp) (by simp) hwz ?_;intro a7 c7 w7 hown7 hg7 hb7;have HO7:=Zh hown7;have HB7:=Zh (HB.out.trans hb7);clear hown7 hg7 hb7)
    go_ret
    refine ⟨a7,c7,by rw [HPL.out];rfl,?_,HBX.out.trans (HB7.out.mono (by rw [HQ.out];omega))⟩
    rw [HPK.out,HQ.out]
    exact HO7.out.mono (by omega)
theorem pcs_ok {l:List Nat} (h256:∀ x ∈ l,x < 256) {i:Nat} (h:i < (M20.pcs l).length):((M20.pcs l)[i]).1 < 256 /\ ((M20.pcs l)[i]).2 <= 255 /\ M20.usedL l (i + 1) = M20.usedL l i + ((M20.pcs l)[i]).2:=by
 have hne:=M20.Zbl h
 have h2:=M20.Zet h
 refine ⟨?_,?_,?_⟩
 ·rw [h2]
  show (M20.leftP l i).getD 0 0 < 256
  have h1:=(M20.Zal l i (Nat.le_of_lt h)).1
  have h3:=List.length_pos_iff.2 hne
  rw [List.getD_eq_getElem?_getD,List.getElem?_eq_getElem h3]
  have h4:∀ x ∈ M20.leftP l i,x ∈ l:=fun x hx=>by rw [h1] at hx;exact List.mem_of_mem_drop hx
  exact h256 _ (h4 _ (List.getElem_mem h3))
 ·rw [h2];exact (M20.Zai hne).2.1
 ·rw [h2];exact M20.Zaz h
set_option maxRecDepth 100000 in
set_option maxHeartbeats 3200000 in
theorem ref20_pack (w:World) (a:Option Addr) (cap:Nat) (l:List Nat) (room:Nat) (hr:RowN .u8 w a cap l) (h256:∀ x ∈ l,x < 256) (hl:l.length <= 1000000) (h5:5 <= room) (hrm:room <= 1000000) :
  Calls Tryz.prog 33 #[.slice a l.length cap,.int .i64 (room:Nat)] w fun e w'=>∃ g c,e = .returned (.tuple #[.slice g (M20.packG room l).1.length c,.int .i64 ((M20.packG room l).2:Nat),.int .i64 0]) /\ Below w.heap.size w w':=by
 have HL:=Zh h256
 have HPC:=Zh (ref20_pieces w a cap l hr h256 hl)
 have t0:decide ((room:Int) < 5) = false:=by simp;omega
 have t0':decide (room < 5) = false:=by simp;omega
 clear hr h256
 go_enter Tryz.func33,Tryz.ntmps33
 go_wp2_with fail
 refine HPC.out.mono ?_
 rintro e w1 ⟨pg,pgc,rfl,hps,hb1⟩
 have HPS:=Zh hps
 have HB1:=Zh hb1
 have hlps:(M20.pcs l).length <= 1000000:=by
  have h1:∀ i,i <= (M20.pcs l).length -> i <= M20.usedL l i:=by
   intro i
   induction i with
   | zero=>intro _;exact Nat.zero_le _
   | succ i ih =>
    intro h
    have h2:=M20.Zaz (l:=l) (i:=i) (by omega)
    have h3:=(M20.Zai (M20.Zbl (l:=l) (i:=i) (by omega))).1
    have:=ih (by omega)
    omega
  have h2:=h1 _ (Nat.le_refl _)
  rw [M20.Zdd] at h2
  omega
 clear hps hb1 HPC
 go_wp2_with fail
 go_loopw [7,8,10] (fun v u cv A=>∃ (i:Nat) (oa:Option Addr) (oc:Nat),i <= (M20.pcs l).length /\ cv = .int .i64 (i:Nat) /\ v = .slice oa (M20.outP (M20.pcs l) i).length oc /\ u = .int .i64 (M20.usedL l i:Nat) /\ OwnN 5 .u8 A w1.heap.size oa oc (M20.outP (M20.pcs l) i) /\ Hid (i <= M20.fitN room (M20.pcs l) 0) /\ Below w1.heap.size w1 A) (fun _ _ cv _=>(M20.pcs l).length - (intOf cv).toNat)
 case atStart=>exact ⟨0,none,0,Nat.zero_le _,rfl,rfl,rfl,OwnN.nil _ _ _ _,Nat.zero_le _,Below.refl _ _⟩
 case round =>
  obtain ⟨i,oa,oc,hi,rfl,rfl,rfl,hown,HFI,hb⟩:=hrel
  have HOWN:=Zh hown
  have HB:=Zh hb
  have HWZ:Hid (w1.heap.size <= wr.heap.size):=hb.size
  have hol:(M20.outP (M20.pcs l) i).length <= 1250000:=by
   have h1:=M20.Zbg l i hi
   have h2:=(M20.Zal l i hi).2
   omega
  have hul:M20.usedL l i <= 1000000:=by
   have h2:=(M20.Zal l i hi).2
   omega
  by_cases hlt:i < (M20.pcs l).length
  ·have t1:decide ((i:Int) < ((M20.pcs l).length:Int)) = true:=by simp;omega
   have t1':decide (i < (M20.pcs l).length) = true:=by simp;omega
   obtain ⟨ok1,ok2,HUS⟩:=pcs_ok HL.out hlt
   have HOU:=Zh (M20.Zbw hlt)
   have HF1:=Zh (M20.Zdf room (M20.pcs l) 0 i hlt)
   have HF2:Hid (M20.fitN room (M20.pcs l) 0 = i -> room < 0 + (M20.outP (M20.pcs l) i).length + (M20.pkd ((M20.pcs l)[i]'hlt)).length):=fun he=>by
    have h2:=M20.Zbt room (M20.pcs l) 0 (by rw [he];exact hlt)
    simp only [he] at h2
    exact h2
   replace HUS:=Zh HUS
   obtain ⟨b,off,hpg,hbl,hcl⟩:=HPS.out.at hlt
   subst hpg
   have f0:=hcl 0 _ rfl
   have f1:=hcl 1 _ rfl
   simp only [encPc,Nat.add_zero] at f0 f1
   rw [<- Nat.add_assoc] at f1
   have HC0:=Zh (fun A (h:Below w1.heap.size w1 A)=>(h.cell (p:=⟨b,off + i * 2,none⟩) hbl).trans f0)
   have HC1:=Zh (fun A (h:Below w1.heap.size w1 A)=>(h.cell (p:=⟨b,off + i * 2 + 1,none⟩) hbl).trans f1)
   clear f0 f1
   generalize (M20.pcs l)[i] = pk at *
   obtain ⟨pc,pn⟩:=pk
   simp only at HC0 HC1 ok1 ok2 HUS
   have e0:=HC0.out wr hb
   have e1:=HC1.out wr hb
   have HPKD:=Zh (ref20_packed wr pc pn ok1 ok2)
   have hpl5:=(M20.Zdn (pc,pn)).1
   have hi2:(i:Int) < ((M20.pcs l).length:Int):=by omega
   have hiw:IntKind.i64.wrap ((i:Int) + 1) = ((i + 1:Nat):Int):=by rw [IntWalk.i64_in _ (by omega)];omega
   clear hown hb hbl hcl
   obtain ⟨M,hM⟩:∃ M,(M20.pcs l).length = M:=⟨_,rfl⟩
   obtain ⟨ou,hou⟩:∃ ou,M20.outP (M20.pcs l) i = ou:=⟨_,rfl⟩
   obtain ⟨us,hus⟩:∃ us,M20.usedL l i = us:=⟨_,rfl⟩
   rw [hou] at HOWN HOU HF1 HF2 hol ⊢
   rw [hus] at HUS hul ⊢
   have HOUE:=Zh hou
   have HUSE:=Zh hus
   clear hou hus hM
   obtain ⟨pl,hpl⟩:∃ pl,M20.pkd (pc,pn) = pl:=⟨_,rfl⟩
   rw [hpl] at HPKD HOU HF1 HF2 hpl5
   clear hpl
   go_wp2_with fail
   refine HPKD.out.mono ?_
   rintro e w3 ⟨pa,pcc,rfl,ho3,hb3⟩
   have HO3:=Zh (HOWN.out.below hb3)
   have HP3:=Zh ho3.row
   have HB3:=Zh (HB.out.trans (hb3.mono HWZ.out))
   have HW3:Hid (w1.heap.size <= w3.heap.size):=Nat.le_trans HWZ.out hb3.size
   clear e0 e1 hb3 ho3 HPKD
   obtain ⟨sm,hsm⟩:∃ sm,ou.length + pl.length = sm:=⟨_,rfl⟩
   have hsw:IntKind.i64.wrap ((ou.length:Int) + (pl.length:Int)) = (sm:Int):=by rw [show (ou.length:Int) + (pl.length:Int) = (sm:Int) by omega];exact IntWalk.i64_in _ (by omega)
   by_cases hf:room < sm
   ·have HST:Hid (M20.fitN room (M20.pcs l) 0 = i):=by
     unfold Hid
     rcases Nat.lt_or_ge i (M20.fitN room (M20.pcs l) 0) with h | h
     ·have:=HF1.out h;omega
     ·exact Nat.le_antisymm h HFI.out
    have tf:decide ((room:Int) < (sm:Int)) = true:=by simp;omega
    have tf':decide (room < sm) = true:=by simp;omega
    clear hf hsm HO3 HP3
    go_wp2_with fail
    refine bodyPost_ret (Zbh rfl _ _ _) rfl ?_
    refine ⟨oa,oc,?_,HB1.out.trans (HB3.out.mono HB1.out.size)⟩
    unfold M20.packG
    rw [HST.out,HOUE.out,HUSE.out]
    rfl
   ·have HFT:Hid (i + 1 <= M20.fitN room (M20.pcs l) 0):=by
     unfold Hid
     rcases Nat.lt_or_ge i (M20.fitN room (M20.pcs l) 0) with h | h
     ·exact h
     ·have:=HF2.out (Nat.le_antisymm h HFI.out);omega
    have tf:decide ((room:Int) < (sm:Int)) = false:=by simp;omega
    have tf':decide (room < sm) = false:=by simp;omega
    have hus2:IntKind.i64.wrap ((us:Int) + (pn:Int)) = ((us + pn:Nat):Int):=by rw [IntWalk.i64_in _ (by omega)];omega
    have hn1:ou.length + pl.length <= 9223372036854775807:=by omega
    have hn2:(ou.length + pl.length) * 1 <= 140737488355328:=by omega
    have HN1:=Zh hn1
    have HN2:=Zh hn2
    clear hf hn1 hn2
    go_wp2_with (at_builtin;refine appAnyN Zcr rfl (.tmp 36) (.tmp 37) rfl (base:=w1.heap.size) (l:=ou) (ys:=pl) rfl HO3.out rfl rfl HP3.out HN1.out HN2.out HW3.out ?_;intro a7 c7 w7 hown7 hg7 hb7;have HO7:=Zh hown7;have HB7:=Zh (HB3.out.trans hb7);have e7:=HC1.out w7 HB7.out;clear hown7 hg7 hb7)
    rw [<- HOU.out] at HO7
    have HLO:Hid (sm = (M20.outP (M20.pcs l) (i + 1)).length):=by unfold Hid;rw [HOU.out,List.length_append,hsm]
    go_roundw
    case rel=>exact ⟨i + 1,a7,c7,by omega,by go_num,by rw [<- HLO.out],by rw [HUS.out];simp,HO7.out,HFT.out,HB7.out⟩
    case measure=>simp [intOf];omega
  ·obtain rfl:i = (M20.pcs l).length:=by omega
   have t1:decide (((M20.pcs l).length:Int) < ((M20.pcs l).length:Int)) = false:=by simp
   have HST:Hid (M20.fitN room (M20.pcs l) 0 = (M20.pcs l).length):=Nat.le_antisymm (M20.Zba _ _ _) HFI.out
   clear hown hb
   go_wp2_with fail
   refine bodyPost_ret (Zbh rfl _ _ _) rfl ?_
   refine ⟨oa,oc,?_,HB1.out.trans (HB.out.mono HB1.out.size)⟩
   unfold M20.packG
   rw [HST.out]
   rfl
end Go.Proofs.YtnkpnjnfddjfpaaGreat

namespace Go.Proofs.YtnkpnjnfddjfpaaGreat
open Go.RowKit
set_option maxRecDepth 100000 in
set_option maxHeartbeats 3200000 in
theorem ref28_ends (w:World) (a:Option Addr) (cap:Nat) (l:List Nat) (lv:Nat) (hr:RowN .u8 w a cap l) (h256:∀ x ∈ l,x < 256) (hl:l.length <= 1000000) (hlv1:1 <= lv) (hlv9:lv <= 9) :
  Calls Tryz.prog 14 #[.slice a l.length cap,.int .i64 (lv:Nat)] w fun e w'=>∃ g c,e = .returned (.slice g (M20.ends (lv * 100000 - 19) l).length c) /\ RowN .i64 w' g c (M20.ends (lv * 100000 - 19) l) /\ Below w.heap.size w w':=by
 obtain ⟨room,hroom⟩:∃ room,lv * 100000 - 19 = room:=⟨_,rfl⟩
 rw [hroom]
 have h5:5 <= room:=by omega
 have hrm:room <= 1000000:=by omega
 obtain ⟨rm,hrm1⟩:∃ rm,lv * 100000 = rm:=⟨_,rfl⟩
 have hr1:IntKind.i64.wrap ((100000:Int) * (lv:Int)) = (rm:Int):=by rw [show (100000:Int) * (lv:Int) = (rm:Int) by omega];exact IntWalk.i64_in _ (by omega)
 have hr2:IntKind.i64.wrap ((rm:Int) - 19) = (room:Int):=by rw [show (rm:Int) - 19 = (room:Int) by omega];exact IntWalk.i64_in _ (by omega)
 have HR:=Zh hr
 have HL:=Zh h256
 have hcnt:=M20.Zds h5 l
 clear hr h256 hroom hrm1
 go_enter Tryz.func14,Tryz.ntmps14
 go_wp2_with fail
 go_loopw [0,5] (fun v u A=>∃ (i:Nat) (sa:Option Addr) (sc:Nat) (oa:Option Addr) (oc:Nat),i <= (M20.ends room l).length /\ v = .slice sa (M20.leftE room l i).length sc /\ RowN .u8 w sa sc (M20.leftE room l i) /\ u = .slice oa i oc /\ OwnN 3 .i64 A w.heap.size oa oc ((M20.ends room l).take i) /\ Below w.heap.size w A) (fun v _ _=>match v with | .slice _ n _=>n | _=>0)
 case atStart=>exact ⟨0,a,cap,none,0,Nat.zero_le _,rfl,HR.out,rfl,OwnN.nil _ _ _ _,Below.refl _ _⟩
 case round =>
  obtain ⟨i,sa,sc,oa,oc,hi,rfl,hrow,rfl,hown,hb⟩:=hrel
  have hlen:=M20.Zct room l i
  have HMEM:Hid (∀ x ∈ M20.leftE room l i,x < 256):=fun x hx=>HL.out x (by
   have:∀ j x,x ∈ M20.leftE room l j -> x ∈ l:=by
    intro j
    induction j with
    | zero=>intro x h;exact h
    | succ j ih=>intro x h;exact ih x (List.mem_of_mem_drop h)
   exact this i x hx)
  have HOWN:=Zh hown
  have HB:=Zh hb
  have HROW:=Zh hrow
  have HWZ:Hid (w.heap.size <= wr.heap.size):=hb.size
  have HTK:Hid (((M20.ends room l).take i).length = i):=by unfold Hid;rw [List.length_take];omega
  by_cases hlt:i < (M20.ends room l).length
  ·have hne:=M20.Zbf h5 hlt
   have hpos:=List.length_pos_iff.2 hne
   have HNX:Hid (M20.leftE room l (i + 1) = (M20.leftE room l i).drop (partF28 room (M20.leftE room l i))):=rfl
   have HEN:Hid ((M20.ends room l).take i ++ [partF28 room (M20.leftE room l i)] = (M20.ends room l).take (i + 1)):=by
    unfold Hid;rw [List.take_succ_eq_append_getElem hlt,M20.ends_at h5 hlt];rfl
   have n1:1 <= partF28 room (M20.leftE room l i):=M20.Zaq h5 hne
   have n3:=Zak room (M20.leftE room l i)
   have hll:(M20.leftE room l i).length <= 1000000:=by omega
   have HPK:=Zh (ref20_pack wr sa sc (M20.leftE room l i) room (hrow.below hb) HMEM.out hll h5 hrm)
   change Hid (Calls _ _ _ _ fun e w'=>∃ g c,e = .returned (.tuple #[.slice g (M20.packG room (M20.leftE room l i)).1.length c,.int .i64 (partF28 room (M20.leftE room l i):Nat),.int .i64 0]) /\ Below wr.heap.size wr w') at HPK
   obtain ⟨N,hN⟩:∃ N,partF28 room (M20.leftE room l i) = N:=⟨_,rfl⟩
   rw [hN] at n1 n3 HNX HEN HPK
   obtain ⟨m,hm⟩:∃ m,M20.leftE room l i = m:=⟨_,rfl⟩
   rw [hm] at n3 HNX HPK hlen hll hpos HROW ⊢
   have tp:decide ((0:Int) < (m.length:Int)) = true:=by simp;omega
   have hcap:=HROW.out.1
   have hcutH:∀ A,(Instr.sliceAt 22 (.slice sa m.length sc) (some (.int .i64 (N:Nat))) none none).run Tryz.prog A = .ok (.slice (cutA sa sc N) (m.length - N) (sc - N)) A:=fun A=>cutHiN _ _ _ _ (by omega) (by omega) A
   have HL1:Hid (((M20.ends room l).take i).length + 1 <= 9223372036854775807):=by unfold Hid;rw [HTK.out];omega
   have HL2:Hid ((((M20.ends room l).take i).length + 1) * 8 <= 140737488355328):=by unfold Hid;rw [HTK.out];omega
   clear hrow hown hb hne hN hm hlen
   go_wp2_with fail
   refine HPK.out.mono ?_
   rintro e w3 ⟨g,c,rfl,hb3⟩
   have HO3:=Zh (HOWN.out.below hb3)
   have HB3:=Zh (HB.out.trans (hb3.mono HWZ.out))
   have hw3:w.heap.size <= w3.heap.size:=Nat.le_trans HWZ.out hb3.size
   clear hb3 HPK HOWN HB HWZ
   go_wp2_with (at_builtin;refine app1N et_int rfl (.tmp 21) (.tmp 23) rfl (y:=N) (l:=(M20.ends room l).take i) (base:=w.heap.size) (by rw [HTK.out];rfl) HO3.out rfl (Nat.le_refl _) (by decide) HL1.out HL2.out hw3 ?_;intro a7 c7 w7 hown7 hg7 hb7;have HO7:=Zh hown7;have HB7:=Zh (HB3.out.trans hb7);clear hown7 hg7 hb7;rw [HTK.out])
   rw [HEN.out] at HO7
   go_roundw
   case rel =>
    refine ⟨i + 1,cutA sa sc N,sc - N,a7,c7,by omega,?_,?_,rfl,HO7.out,HB7.out⟩
    ·rw [HNX.out,List.length_drop]
    ·rw [HNX.out];exact Zdz HROW.out N n3
   case measure=>show m.length - N < m.length;omega
  ·obtain rfl:i = (M20.ends room l).length:=by omega
   rw [M20.Zcs h5]
   have tp:decide ((0:Int) < 0) = false:=by simp
   rw [List.take_length] at HOWN
   clear hrow hown hb hlt
   go_wp2_with fail
   go_ret
   exact ⟨oa,oc,rfl,HOWN.out.row,HB.out⟩
end Go.Proofs.YtnkpnjnfddjfpaaGreat

namespace Go.Proofs.YtnkpnjnfddjfpaaGreat
open Go.RowKit
set_option maxRecDepth 100000 in
set_option maxHeartbeats 6400000 in
theorem law28_blocks (w:World) (a:Option Addr) (ca:Nat) (l:List Nat) (kp:Nat) (lv:Int) (ha:RowN .u8 w a ca l) (h256:∀ x ∈ l,x < 256) (hkp:kp < 65536) :
  Calls Tryz.prog 5 #[.slice a l.length ca,.int .u16 (kp:Nat),.int .i64 lv] w fun e w'=>e = .returned (.bool true) /\ Below w.heap.size w w':=by
 by_cases c1:300 < l.length
 ·have t1:decide ((300:Int) < (l.length:Int)) = true:=by simp;omega
  clear ha h256 c1
  go_enter Tryz.func5,Tryz.ntmps5
  go_wp2
  go_ret
  exact ⟨rfl,Below.refl _ _⟩
 have t1:decide ((300:Int) < (l.length:Int)) = false:=by simp;omega
 have hl3:l.length <= 300:=by omega
 have HA:=Zh ha
 have HL:=Zh h256
 obtain ⟨n,hn⟩:∃ n,kp % 1001 = n:=⟨_,rfl⟩
 have hn1:n <= 1000:=by omega
 have hn2:((kp:Nat):Int) % 1001 = (n:Int):=by omega
 have hn3:Int.tmod ((kp:Nat):Int) 1001 = (n:Int):=by rw [<- hn];rfl
 clear ha h256 c1 hn
 go_enter Tryz.func5,Tryz.ntmps5
 go_wp2_with fail
 go_loopw [7,8] (fun v c A=>∃ (i:Nat) (ga:Option Addr) (gc:Nat),i <= n /\ c = .int .i64 (i:Nat) /\ v = .slice ga (repL l i).length gc /\ OwnN 5 .u8 A w.heap.size ga gc (repL l i) /\ Below w.heap.size w A) (fun _ c _=>n - (intOf c).toNat)
 case atStart=>exact ⟨0,none,0,Nat.zero_le _,rfl,rfl,OwnN.nil _ _ _ _,Below.refl _ _⟩
 case round =>
  obtain ⟨i,ga,gc,hi,rfl,rfl,hown,hb⟩:=hrel
  have hlen:=Zdy l i
  have hll:i * l.length <= 300000:=Nat.le_trans (Nat.mul_le_mul (show i <= 1000 by omega) hl3) (by decide)
  by_cases hlt:i < n
  ·have t2:decide ((i:Int) < (n:Int)) = true:=by simp;omega
   have t2':decide (i < n) = true:=by simp;omega
   have HAA:=Zh (HA.out.below hb)
   have HSU:Hid (repL l i ++ l = repL l (i + 1)):=rfl
   have hiw:IntKind.i64.wrap ((i:Int) + 1) = ((i + 1:Nat):Int):=by rw [IntWalk.i64_in _ (by omega)];omega
   have HB:=Zh hb
   have HZ:Hid (w.heap.size <= wr.heap.size):=hb.size
   have HLN:Hid ((repL l i).length <= 300000):=by unfold Hid;omega
   clear hlen hll hb
   obtain ⟨al,hal⟩:∃ al,repL l i = al:=⟨_,rfl⟩
   rw [hal] at hown HSU HLN ⊢
   have HOWN:=Zh hown
   clear hown hal
   go_wp2_with (at_builtin;refine appAnyN Zcr rfl (.tmp 24) (.tmp 25) rfl (base:=w.heap.size) (l:=al) (ys:=l) rfl HOWN.out rfl rfl HAA.out (by have:=HLN.out;omega) (by have:=HLN.out;omega) HZ.out ?_;intro a7 c7 w7 hown7 hg7 hb7;have HO7:=Zh hown7;have HB7:=Zh (HB.out.trans hb7);clear hown7 hg7 hb7)
   rw [HSU.out] at HO7
   have HLE:Hid (al.length + l.length = (repL l (i + 1)).length):=by unfold Hid;rw [<- HSU.out,List.length_append]
   rw [HLE.out]
   go_roundw
   case rel=>exact ⟨i + 1,a7,c7,by omega,by go_num,rfl,HO7.out,HB7.out⟩
   case measure=>simp [intOf];omega
  ·obtain rfl:i = n:=by omega
   have t2:decide ((i:Int) < (i:Int)) = false:=by simp
   have HALL:=Zh hown.row
   have HWZ:Hid (w.heap.size <= wr.heap.size):=hb.size
   have HB:=Zh hb
   have HLT:=Zh (Zev HL.out i)
   have hll2:(repL l i).length <= 300000:=by omega
   clear hown hb hlen hll
   obtain ⟨al,hal⟩:∃ al,repL l i = al:=⟨_,rfl⟩
   rw [hal] at HALL HLT hll2 ⊢
   clear hal
   have HO0:=Zh (OwnN.lit0 5 .u8 wr wr.heap.size (Nat.le_refl _))
   have hbl:=Zar wr (.cells #[] 5)
   have HAL0:=Zh (HALL.out.below hbl)
   have HBL0:=Zh hbl
   have hw0:wr.heap.size <= (wr.alloc (.cells #[] 5)).heap.size:=by simp
   clear hbl
   go_wp2_with (at_builtin;refine appAnyN Zcr rfl (.tmp 27) (.tmp 28) rfl (base:=wr.heap.size) (l:=[]) (ys:=al) rfl HO0.out rfl rfl HAL0.out (by simp;omega) (by simp;omega) hw0 ?_;intro ia ic w3 hown3 hg3 hb3;simp only [List.nil_append,List.length_nil,Nat.zero_add] at hown3 ⊢;have HIN:=Zh hown3.row;have hb33:=HBL0.out.trans hb3;have HB3:=Zh (HB.out.trans (hb33.mono HB.out.size));have HAL3:=Zh (HALL.out.below hb33);clear hown3 hg3 hb3 hb33)
   clear HO0 HAL0 HBL0 HALL HB
   by_cases hlv:lv < 1 \/ 9 < lv
   ·have HBAD:=Zh (Zby w3 ia al.length ic lv hlv)
    refine HBAD.out.mono ?_
    rintro e w4 ⟨rfl,rfl⟩
    by_cases h1:lv < 1
    ·have q1:decide (lv < 1) = true:=by simp;omega
     clear hlv h1
     go_wp2_with fail
     refine (Zbv _).mono ?_
     rintro e w5 ⟨rfl,hb5⟩
     have HB5:=Zh (HB3.out.trans (hb5.mono HB3.out.size))
     clear hb5
     go_wp2
     go_ret
     exact ⟨rfl,HB5.out⟩
    ·have q1:decide (lv < 1) = false:=by simp;omega
     have q2:decide (9 < lv) = true:=by simp;omega
     clear hlv h1
     go_wp2_with fail
     refine (Zbv _).mono ?_
     rintro e w5 ⟨rfl,hb5⟩
     have HB5:=Zh (HB3.out.trans (hb5.mono HB3.out.size))
     clear hb5
     go_wp2
     go_ret
     exact ⟨rfl,HB5.out⟩
   ·obtain ⟨k,hk⟩:∃ k:Nat,lv = (k:Int):=⟨lv.toNat,by omega⟩
    subst hk
    have hk1:1 <= k /\ k <= 9:=by omega
    have q1:decide ((k:Int) < 1) = false:=by simp;omega
    have q2:decide ((9:Int) < (k:Int)) = false:=by simp;omega
    have q2':decide (9 < k) = false:=by simp;omega
    obtain ⟨room,hroom⟩:∃ room,k * 100000 - 19 = room:=⟨_,rfl⟩
    have h5:5 <= room:=by omega
    have HBL:=Zh (Zat w3 ia ic al k HIN.out HLT.out (by omega) hk1.1 hk1.2)
    have HEN:=Zh (fun A (h:Below w3.heap.size w3 A)=>ref28_ends A ga gc al k (HAL3.out.below h) HLT.out (by omega) hk1.1 hk1.2)
    rw [hroom] at HBL HEN
    clear hlv hroom
    refine HBL.out.mono ?_
    rintro e w4 ⟨xa,xc,es,rfl,hrs,hel,hch,hb4⟩
    have HE4:=Zh (HEN.out w4 hb4)
    have HRS:=Zh hrs
    have HEL:=Zh hel
    have HCH:=Zh hch
    have HB4:=Zh (HB3.out.trans (hb4.mono HB3.out.size))
    have HIN4:=Zh (HIN.out.below hb4)
    have HAL4:=Zh (HAL3.out.below hb4)
    clear hrs hel hch hb4 HBL HEN HIN HAL3 HB3
    go_wp2_with fail
    refine HE4.out.mono ?_
    rintro e w5 ⟨wa,wc,rfl,hws,hb5⟩
    have hes:es.length <= 300000:=by rw [HEL.out];have:=M20.Zds h5 al;omega
    have HWS:=Zh hws
    have HRS5:=Zh (HRS.out.below hb5)
    have HCH5:=Zh (fun i h=>(⟨(HCH.out i h).1,(HCH.out i h).2.below hb5⟩:es[i].2.2 = chunk room al i /\ RowN .u8 w5 es[i].1 es[i].2.1 es[i].2.2))
    have HB5:=Zh (HB4.out.trans (hb5.mono HB4.out.size))
    have HAL5:=Zh (HAL4.out.below hb5)
    have hcv1:=Zbd (n:=al.length) Tryz.underlying22 Tryz.underlying5 Tryz.underlying9 rfl (HIN4.out.below hb5)
    have hcv2:=Zbd (n:=al.length) Tryz.underlying22 Tryz.underlying5 Tryz.underlying9 rfl HAL5.out
    generalize strOf al = sal at *
    have tl0:(sal.toList == sal.toList) = true:=by simp
    have te:((es.length:Int) != ((M20.ends room al).length:Int)) = false:=by rw [HEL.out];simp
    have hel':=HEL.out
    clear hws hb5 HE4 HRS HCH HB4 HIN4 HAL4
    rw [<- hel'] at te ⊢
    go_wp2_with fail
    go_loopw [7,13] (fun v c A=>∃ (j:Nat) (sa:Option Addr) (sc:Nat),j <= es.length /\ c = .int .i64 (j:Nat) /\ v = .slice sa (M20.leftE room al j).length sc /\ RowN .u8 w5 sa sc (M20.leftE room al j) /\ Only (fun _=>False) w5 A) (fun _ c _=>es.length - (intOf c).toNat)
    case atStart=>exact ⟨0,ga,gc,Nat.zero_le _,rfl,rfl,HAL5.out,Only.refl _ _⟩
    case round =>
     obtain ⟨j,sa,sc,hj,rfl,rfl,hrow,ho⟩:=hrel
     have HO:=Zh ho
     have HROW:=Zh hrow
     by_cases hlt:j < es.length
     ·have t2:decide ((j:Int) < (es.length:Int)) = true:=by simp;omega
      have t2':decide (j < es.length) = true:=by simp;omega
      have hje:j < (M20.ends room al).length:=by omega
      obtain ⟨hc1,hc2⟩:=HCH5.out j hlt
      have hcl:=Zcq room al j
      have n3:=Zak room (M20.leftE room al j)
      have HNX:Hid (M20.leftE room al (j + 1) = (M20.leftE room al j).drop (partF28 room (M20.leftE room al j))):=rfl
      obtain ⟨b,off,rfl,hbl,hcell⟩:=HRS5.out.at hlt
      have tc0:=hcell 0 _ rfl
      simp only [encSl,Nat.add_zero,Nat.mul_one] at tc0
      obtain ⟨wb,woff,rfl,hwbl,hwcell⟩:=HWS.out.at hje
      rw [M20.ends_at h5 hje] at hwcell
      change w5.cell? _ = some (.int .i64 (partF28 room (M20.leftE room al j):Nat)) at hwcell
      have keep:∀ {ra:Option Addr} {rc:Nat} {r:List Nat},RowN .u8 w5 ra rc r -> RowN .u8 wr ra rc r:=fun {ra rc r} h=>RowN.same h ho.size (fun x h0 hx=>ho.block _ (by
       obtain ⟨b',off',he,hlt',_⟩:=h.at h0
       rw [hx] at he
       cases he
       exact hlt') id)
      have hrx:=keep hc2
      have hrb:=Zbi (keep hrow) (partF28 room (M20.leftE room al j))
      have hco:(M20.leftE room al j).take (partF28 room (M20.leftE room al j)) = chunk room al j:=rfl
      rw [hco] at hrb
      have tc1:wr.cell? ⟨b,off + j,none⟩ = some (.slice (es[j]).1 (es[j]).2.2.length (es[j]).2.1):=by
       unfold World.cell?
       rw [ho.block b hbl id]
       exact tc0
      have tw1:wr.cell? ⟨wb,woff + j,none⟩ = some (.int .i64 (partF28 room (M20.leftE room al j):Nat)):=by
       unfold World.cell?
       rw [ho.block wb hwbl id]
       exact hwcell
      rw [hc1,hcl] at tc1
      rw [hc1] at hrx
      obtain ⟨N,hN⟩:∃ N,partF28 room (M20.leftE room al j) = N:=⟨_,rfl⟩
      rw [hN] at hcl n3 HNX tc1 tw1
      obtain ⟨x,hx⟩:∃ x,chunk room al j = x:=⟨_,rfl⟩
      rw [hx] at hcl hrx hrb
      have hcap:=hrow.1
      obtain ⟨m,hm⟩:∃ m,M20.leftE room al j = m:=⟨_,rfl⟩
      rw [hm] at n3 HNX hcap HROW ⊢
      have hcv1:∀ q,(convert 22 9 (.slice (es[j]).1 N (es[j]).2.1)).run Tryz.prog (wr.drewN q) = .ok (.string (strOf x)) (wr.drewN q):=fun q=>Zbd Tryz.underlying22 Tryz.underlying5 Tryz.underlying9 hcl.symm (hrx.drewN q)
      have hcv2:∀ q,(convert 22 9 (.slice sa N sc)).run Tryz.prog (wr.drewN q) = .ok (.string (strOf x)) (wr.drewN q):=fun q=>Zbd Tryz.underlying22 Tryz.underlying5 Tryz.underlying9 hcl.symm (hrb.drewN q)
      have hcutL:∀ A,(Instr.sliceAt 22 (.slice sa m.length sc) none (some (.int .i64 (N:Nat))) none).run Tryz.prog A = .ok (.slice sa N sc) A:=fun A=>cutLoN _ _ _ _ (by omega) A
      have hcutH:∀ A,(Instr.sliceAt 22 (.slice sa m.length sc) (some (.int .i64 (N:Nat))) none none).run Tryz.prog A = .ok (.slice (cutA sa sc N) (m.length - N) (sc - N)) A:=fun A=>cutHiN _ _ _ _ (by omega) (by omega) A
      generalize strOf x = sx at *
      have tl:(sx.toList == sx.toList) = true:=by simp
      have tn:((N:Int) != (N:Int)) = false:=by simp
      have hj2:(j:Int) < (es.length:Int):=by omega
      have hj0:(0:Int) <= (j:Int):=by omega
      have hjw:(j:Int) < ((M20.ends room al).length:Int):=by omega
      have HTC:=Zh tc1
      have HTW:=Zh tw1
      generalize (es[j]).1 = ea at *
      generalize (es[j]).2.1 = ec at *
      clear hc1 hc2 hco hbl hcell tc0 hwbl hwcell hrx hrb hN hx hm keep hrow ho
      go_wp2_with fail
      go_quiet (fail)
      have HO3:=Zh (HO.out.trans (Zap (fun _=>False) wr nq))
      have tc3:(wr.drewN nq).cell? ⟨b,off + j,none⟩ = _:=HTC.out
      have tw3:(wr.drewN nq).cell? ⟨wb,woff + j,none⟩ = _:=HTW.out
      clear hcv1 hcv2 hcutL tl tn tc1 tw1 HTC HTW HO
      generalize wr.drewN nq = w3' at *
      have hjw1:IntKind.i64.wrap ((j:Int) + 1) = ((j + 1:Nat):Int):=by rw [IntWalk.i64_in _ (by omega)];omega
      go_wp2_with fail
      go_roundw
      case rel =>
       refine ⟨j + 1,cutA sa sc N,sc - N,by omega,by go_num,?_,?_,HO3.out⟩
       ·rw [HNX.out,List.length_drop]
       ·rw [HNX.out];exact Zdz HROW.out N n3
      case measure=>simp [intOf];omega
     ·obtain rfl:j = es.length:=by omega
      have t2:decide ((es.length:Int) < (es.length:Int)) = false:=by simp
      have HZ:Hid ((M20.leftE room al es.length).length = 0):=by unfold Hid;rw [hel',M20.Zcs h5];rfl
      rw [HZ.out]
      have HBB:=Zh (HB5.out.trans (show Below w.heap.size w5 wr from ⟨ho.os,ho.tape,ho.output,ho.size,fun b hb=>ho.block b (Nat.lt_of_lt_of_le hb HB5.out.size) id⟩))
      clear ho HO hrow HROW HB5
      go_wp2_with fail
      refine (Zbv _).mono ?_
      rintro e w6 ⟨rfl,hb6⟩
      have HB6:=Zh (HBB.out.trans (hb6.mono HBB.out.size))
      clear hb6 HBB
      go_wp2
      go_ret
      exact ⟨rfl,HB6.out⟩
end Go.Proofs.YtnkpnjnfddjfpaaGreat
