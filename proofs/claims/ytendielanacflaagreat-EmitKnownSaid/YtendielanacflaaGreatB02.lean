/- token.collect: what lies where while its region is under way. token.collect: a scale's numbers as two lists. token.find, Length, Distance, LengthOf, DistanceOf: contracts. Plain mathematics of layer 17: bits of symbols, one by one and by how often they come. Owned slices of elements of several cells (structs), as lists: what a call makes itself; laws for append, load. Contracts of the reference of layer 8. Plain mathematics of layer 4: the weight of a code, and its words. Elements of rows; what Words answers. -/
import Derived.Test.YtendielanacflaaGreatB01
import Derived.Maps.AppendAt
import Derived.Great.BuildSlice
import Derived.Deep.RegionHeld3
import Derived.Lib.Hide
import Derived.Test.YtendielanacflaaGreatChecked
import Derived.BigQuiet
import Derived.Deep.QuietTactic
set_option linter.unusedVariables false
set_option linter.unusedSimpArgs false
namespace Go.Proofs.YtendielanacflaaGreat
open Go.RowKit Go.Shelf M08
attribute [local go_sem] Oper.semAt_some
theorem Zfc:ElemTy Tryz.prog 88 3 .i64 8:=⟨Tryz.underlying88,by kernel_rfl⟩
def colI (w:World) (R0:Nat) (T:Nat -> Prop) (fa fb:Nat -> Nat) (i:Nat) (A:World):Prop :=
 ∃ a1 c1 a2 c2,A.heap[R0 + 1]? = some (.cells #[.slice a1 i c1,.slice a2 i c2] 133 (0,0)) /\ OwnN 3 .i64 A (R0 + 2) a1 c1 ((List.range i).map fa) /\ OwnN 3 .i64 A (R0 + 2) a2 c2 ((List.range i).map fb) ∧
  (∀ g,a1 = some ⟨g,0,none⟩ -> a2 ≠ some ⟨g,0,none⟩) /\ A.heap[R0]? = some (.cells #[.slice none 0 0,.slice none 0 0] 133 (0,0)) /\ Only T w A
def colBlk:Value -> Option Nat
 | .slice (some a) _ _=>some a.block
 | _=>none
def apart (u v:Value):Prop:=∀ b,colBlk u = some b -> colBlk v ≠ some b
theorem apart.symm {u v:Value} (h:apart u v):apart v u:=fun b hb hc=>h b hc hb
theorem apart.left {u v:Value} (h:colBlk u = none):apart u v:=fun b hb=>by rw [h] at hb;cases hb
theorem Zcc (a:Option Addr) (n c:Nat):(Value.slice a n c).ownBlock = colBlk (.slice a n c):=by cases a <;> rfl
def colNew (R N0:Nat) (l:List Nat) (S v:Value) (w:World):Prop:=∃ a c,v = .slice a l.length c /\ OwnN 3 .i64 w (R + 1) a c l /\ ∀ b,colBlk v = some b -> colBlk S = some b \/ N0 <= b
def colLit (N0 x:Nat) (v:Value) (w:World):Prop:=∃ b,v = .slice (some ⟨b,0,none⟩) 1 1 /\ RowN .i64 w (some ⟨b,0,none⟩) 1 [x] /\ N0 <= b /\ b < w.heap.size
def colV (R N0:Nat) (S1 S2:Value) (x y:Nat) (l1 l2:List Nat) (j:Nat) (v:Value) (w:World):Prop :=
 match j with
 | 0=>v = .pointer (some ⟨R,0,none⟩)
 | 1=>v = S1
 | 2=>v = .int .i64 x
 | 3=>colLit N0 x v w
 | 4=>colNew R N0 (l1 ++ [x]) S1 v w
 | 5=>v = .pointer (some ⟨R,1,none⟩)
 | 6=>v = S2
 | 7=>v = .int .i64 y
 | 8=>colLit N0 y v w
 | 9=>colNew R N0 (l2 ++ [y]) S2 v w /\ ∀ p q,w.heap[R]? = some (.cells #[p,q] 133 (0,0)) -> apart p v
 | 10=>v = .pointer (some ⟨R,0,none⟩)
 | 11=>∃ u q,w.heap[R]? = some (.cells #[u,q] 133 (0,0)) /\ colNew R N0 (l1 ++ [x]) S1 u w
 | 12=>v = .pointer (some ⟨R,1,none⟩)
 | 13=>∃ p u,w.heap[R]? = some (.cells #[p,u] 133 (0,0)) /\ colNew R N0 (l2 ++ [y]) S2 u w /\ apart p u
 | _=>True
def OwnV (R:Nat) (S:Value) (l:List Nat) (w:World):Prop:=∃ a c,S = .slice a l.length c /\ OwnN 3 .i64 w (R + 1) a c l
structure colR (R:Nat) (A:World) (S1 S2:Value) (l1 l2:List Nat) (listed:Array Bool) (w:World):Prop where
 below:Below R A w
 keeps:KeepsOthers A w
 cells:∃ p q,w.heap[R]? = some (.cells #[p,q] 133 (0,0)) /\ (listed.getD 11 false = false -> p = S1) /\ (listed.getD 13 false = false -> q = S2)
 own1:listed.getD 4 false = false -> OwnV R S1 l1 w
 own2:listed.getD 9 false = false -> OwnV R S2 l2 w
section
variable {R N0 : Nat} {A : World} {S1 S2 : Value} {x y : Nat} {l1 l2 : List Nat} {w w' : World} {listed : Array Bool}
theorem Zay {i k:Nat} (h:i ≠ k) (h2:(listed.setIfInBounds i true).getD k false = false):listed.getD k false = false:=by
 rw [getD_set_ne false h] at h2;exact h2
theorem Zad {i:Nat} (hi:i < listed.size):(listed.setIfInBounds i true).getD i false = true:=by simp [hi]
theorem OwnV.lt {S:Value} {l:List Nat} (h:OwnV R S l w):∀ b,colBlk S = some b -> R + 1 <= b /\ b < w.heap.size:=by
 obtain ⟨a,c,rfl,h⟩:=h
 intro b hb
 rcases h.form with ⟨rfl,_⟩ | ⟨g,rfl,h1,h2⟩
 ·cases hb
 ·cases hb;exact ⟨h1,h2⟩
theorem OwnV.below {S:Value} {l:List Nat} (h:OwnV R S l w) (hb:Below w.heap.size w w'):OwnV R S l w':=by
 obtain ⟨a,c,rfl,h⟩:=h;exact ⟨a,c,rfl,h.below hb⟩
theorem OwnV.kept {S:Value} {l:List Nat} {row:Option Nat} (h:OwnV R S l w) (hg:w.grownBy w' row) (hr:∀ b,colBlk S = some b -> row ≠ some b):OwnV R S l w':=by
 obtain ⟨a,c,rfl,h⟩:=h;exact ⟨a,c,rfl,h.kept hg (fun g hh=>hr g (by subst hh;rfl))⟩
theorem colNew.own {l:List Nat} {S v:Value} (h:colNew R N0 l S v w):OwnV R v l w:=by
 obtain ⟨a,c,h1,h2,_⟩:=h;exact ⟨a,c,h1,h2⟩
theorem colNew.of {l:List Nat} {S v:Value} (h:OwnV R v l w) (h2:∀ b,colBlk v = some b -> colBlk S = some b \/ N0 <= b):colNew R N0 l S v w:=by
 obtain ⟨a,c,h1,h3⟩:=h;exact ⟨a,c,h1,h3,h2⟩
theorem colNew.below {l:List Nat} {S v:Value} (h:colNew R N0 l S v w) (hb:Below w.heap.size w w'):colNew R N0 l S v w':=colNew.of (h.own.below hb) h.choose_spec.choose_spec.2.2
theorem colNew.kept {l:List Nat} {S v:Value} {row:Option Nat} (h:colNew R N0 l S v w) (hg:w.grownBy w' row) (hr:∀ b,colBlk v = some b -> row ≠ some b):colNew R N0 l S v w':=colNew.of (h.own.kept hg hr) h.choose_spec.choose_spec.2.2
theorem Zwx (j:Nat) (v:Value) (hN:N0 <= w.heap.size) (h1:∀ b,colBlk S1 = some b -> b < N0) (h2:∀ b,colBlk S2 = some b -> b < N0) (h:colV R N0 S1 S2 x y l1 l2 j v w) (hj:j <= 10):∀ b,colBlk v = some b -> b < w.heap.size:=by
 intro b hb
 have hj':j = 0 \/ j = 1 \/ j = 2 \/ j = 3 \/ j = 4 \/ j = 5 \/ j = 6 \/ j = 7 \/ j = 8 \/ j = 9 \/ j = 10:=by omega
 rcases hj' with rfl | rfl | rfl | rfl | rfl | rfl | rfl | rfl | rfl | rfl | rfl <;> simp only [colV] at h
 ·subst h;cases hb
 ·subst h;have:=h1 b hb;omega
 ·subst h;cases hb
 ·obtain ⟨b',rfl,_,_,h3⟩:=h;cases hb;exact h3
 ·exact (h.own.lt b hb).2
 ·subst h;cases hb
 ·subst h;have:=h2 b hb;omega
 ·subst h;cases hb
 ·obtain ⟨b',rfl,_,_,h3⟩:=h;cases hb;exact h3
 ·exact (h.1.own.lt b hb).2
 ·subst h;cases hb
theorem Zkl (j:Nat) (v:Value) (hb:Below w.heap.size w w') (hR:R < w.heap.size) (h:colV R N0 S1 S2 x y l1 l2 j v w):colV R N0 S1 S2 x y l1 l2 j v w':=by
 have hRe:w'.heap[R]? = w.heap[R]?:=hb.block R hR
 unfold colV at *
 split at h
 all_goals try exact h
 ·obtain ⟨b,h1,h2,h3,h4⟩:=h;exact ⟨b,h1,h2.below hb,h3,Nat.lt_of_lt_of_le h4 hb.size⟩
 ·exact h.below hb
 ·obtain ⟨b,h1,h2,h3,h4⟩:=h;exact ⟨b,h1,h2.below hb,h3,Nat.lt_of_lt_of_le h4 hb.size⟩
 ·exact ⟨h.1.below hb,fun p q hp=>h.2 p q (by rw [<- hRe];exact hp)⟩
 ·obtain ⟨u,q,h1,h2⟩:=h;exact ⟨u,q,by rw [hRe];exact h1,h2.below hb⟩
 ·obtain ⟨p,u,h1,h2,h3⟩:=h;exact ⟨p,u,by rw [hRe];exact h1,h2.below hb,h3⟩
theorem colR.pure {i:Nat} (h:colR R A S1 S2 l1 l2 listed w) (h4:i ≠ 4) (h9:i ≠ 9) (h11:i ≠ 11) (h13:i ≠ 13):colR R A S1 S2 l1 l2 (listed.setIfInBounds i true) w:=by
 obtain ⟨hb,hk,⟨p,q,hc,hp,hq⟩,o1,o2⟩:=h
 exact ⟨hb,hk,⟨p,q,hc,fun e=>hp (Zay h11 e),fun e=>hq (Zay h13 e)⟩,fun e=>o1 (Zay h4 e),fun e=>o2 (Zay h9 e)⟩
theorem colR.alloc (h:colR R A S1 S2 l1 l2 listed w) (o:Obj):colR R A S1 S2 l1 l2 listed (w.alloc o):=by
 obtain ⟨hb,hk,⟨p,q,hc,hp,hq⟩,o1,o2⟩:=h
 have hR:R < w.heap.size:=(Array.getElem?_eq_some_iff.1 hc).1
 have hbb:Below w.heap.size w (w.alloc o):=(Below.refl _ _).alloc (Nat.le_refl _) _
 exact ⟨hb.trans (hbb.mono (by omega)),hk.trans (KeepsOthers.alloc _ _),⟨p,q,(hbb.block R hR).trans hc,hp,hq⟩,fun e=>(o1 e).below hbb,fun e=>(o2 e).below hbb⟩
end
theorem Zpc (k:IntKind) (w:World) (l:List Nat) (E:TypeId) (c:Array Value) (B:Nat) (hB:B = w.heap.size) (hc:c = (l.map fun (n:Nat)=>Value.int k n).toArray) (hl:l.length <= 9223372036854775807) :
  RowN k (w.alloc (.cells c E)) (some ⟨B,0,none⟩) l.length l:=by
 subst hc hB
 refine ⟨Nat.le_refl _,⟨hl,fun hn=>by cases hn⟩,.inr ⟨w.heap.size,0,rfl,by simp,fun i hi=>?_⟩⟩
 rw [Nat.zero_add,World.cell?_alloc_at _ _ _ _ rfl]
 simp [hi]
theorem RowN.keptB {k:IntKind} {row:Option Nat} {cap b off:Nat} {l:List Nat} {w w':World} (h:RowN k w (some ⟨b,off,none⟩) cap l) (hg:w.grownBy w' row) (hr:row ≠ some b):RowN k w' (some ⟨b,off,none⟩) cap l:=by
 obtain ⟨h1,h2,h3⟩:=h
 refine ⟨h1,h2,?_⟩
 rcases h3 with h3 | ⟨b',off',he,hb',hc⟩
 ·exact .inl h3
 ·cases he
  exact .inr ⟨b,off,rfl,Nat.lt_of_lt_of_le hb' hg.size,fun i hi=>(World.cell?_of_block (a:=⟨b,off + i,none⟩) (hg.block b hb' (fun h=>hr h.symm))).trans (hc i hi)⟩
theorem Only.low {T:Nat -> Prop} {A B C:World} (h:Only T A B) (h1:C.os = B.os) (h2:C.tape = B.tape) (h3:C.output = B.output) (h4:B.heap.size <= C.heap.size) (hb:∀ k,k < A.heap.size -> C.heap[k]? = B.heap[k]?):Only T A C :=
 ⟨h1.trans h.os,h2.trans h.tape,h3.trans h.output,Nat.le_trans h.size h4,fun i hi hT=>(hb i hi).trans (h.block i hi hT)⟩
theorem bs1 (x:Int) (w:World):(Instr.buildSlice 88 1 #[(0,.int .i64 x)]).run Tryz.prog w = .ok (.slice (some ⟨w.heap.size,0,none⟩) 1 1) (w.alloc (.cells #[.int .i64 x] 3)):=by
 have hie:(Tryz.prog.info? 3).map (fun i=>(i.zero,i.size)) = some (some (.int .i64 0),1):=by kernel_rfl
 cases h5:Tryz.prog.info? 3 with
 | none=>rw [h5] at hie;cases hie
 | some ie =>
  simp only [h5,Option.map_some,Option.some.injEq,Prod.mk.injEq] at hie
  exact run_buildSlice w 88 3 1 _ _ ie (.int .i64 0) Tryz.underlying88 h5 hie.1 (by rw [hie.2];decide) (by rw [hie.2];decide) (by rw [hie.2];exact Great.fill_flat [Value.int .i64 x] _ (fun v hv=>by rw [List.mem_singleton.1 hv];rfl) (by simp))
theorem appNInAt {P:Program} {F:Fence} {dep:Nat} {T E:TypeId} {k:IntKind} {bytes:Nat} (et:ElemTy P T E k bytes) {w:World} {ops:Array Oper} {rest:List Oper} {o:Oper} {ac:Act} {Q:Exit -> Act -> World -> Prop} (hgd:o.guard = none) (s x:Operand)
  (ho:o.op = .call { callee:=.builtin .append,args:=#[s,x],argTypes:=#[T,T] }) {base:Nat} {a:Option Addr} {cap m c:Nat} {l ys:List Nat}
  (hs:ac.eval s = .slice a l.length cap) (hown:OwnN E k w base a cap l) {b:Option Addr} (hm:m = ys.length) (hx:ac.eval x = .slice b m c) (hy:RowN k w b c ys)
  (hb0:0 < ys.length) (hn:l.length + m <= 9223372036854775807) (hbytes:(l.length + m) * bytes <= 140737488355328) (hbase:base <= w.heap.size)
  (h:∀ a' cap' w',OwnN E k w' base a' cap' (l ++ ys) -> w.grownBy w' (Value.slice a l.length cap).ownBlock -> Below base w w' -> ((Value.slice a' (l.length + m) cap').ownBlock = (Value.slice a l.length cap).ownBlock \/ (Value.slice a' (l.length + m) cap').ownBlock = some w.heap.size) -> wpListIn F dep P ops Q rest (ac.put o.dst (.slice a' (l.length + m) cap')) w') :
  wpListIn F dep P ops Q (o :: rest) ac w:=by
 subst hm
 obtain ⟨i,h2,h3,h4,h5⟩:=info_parts et.info
 obtain ⟨bb,off,rfl,_⟩:=hy.at hb0
 refine wpListIn_plain (by assumption) fun K hK'=>?_
 obtain ⟨v',w',hr,h6,h7,h8,h12⟩:=run_append_own_at (P:=P) w base T o.type E i (.int k 0) 1 bytes et.und h2 h3 h4 h5 rfl (by decide) _ l.length _ hown ⟨bb,off,none⟩ ys.length c (ys.map fun (n:Nat)=>Value.int k n) (by simp)
  (Zbr hy _ rfl) (by intro u hu;simp only [List.mem_map] at hu;obtain ⟨n,_,rfl⟩:=hu;rfl) (by simpa [maxLen] using hn) hbytes hbase
 have hv:∃ a' cap',v' = .slice a' (l.length + ys.length) cap':=by
  rcases h6.2 with ⟨h9,h10⟩ | ⟨g,c',cur,h9,_⟩
  ·exact ⟨none,0,by rw [h9,h10]⟩
  ·exact ⟨_,_,h9⟩
 obtain ⟨a',cap',rfl⟩:=hv
 have hown':OwnN E k w' base a' cap' (l ++ ys):=by
  unfold OwnN;rw [List.length_append,List.map_append];exact h6
 have hbel:Below base w w':=Below.of_grown h7 hbase (by
  intro g hg
  exact (World.ownsRow.lt hown g hg).1)
 unfold Oper.wpIn
 refine ⟨by simp [Oper.about,ho,resolve,Target.leads,Sem.run_pure],?_⟩
 rw [Oper.semAt_plain F _ _ (by rw [ho];intro c hc';cases hc')]
 simp [execOp,ho,resolve,invoke,builtin,hs,hx,hr,Result.andThen]
 exact hK' _ _ (h a' cap' w' hown' h7 hbel h12)
end Go.Proofs.YtendielanacflaaGreat

namespace Go.Proofs.YtendielanacflaaGreat
open Go.RowKit Go.Shelf M08
attribute [local go_sem] Oper.semAt_some
theorem fld0 (R:Nat) (w:World):(Instr.fieldAt 133 (.pointer (some ⟨R,0,none⟩)) 0).run Tryz.prog w = .ok (.pointer (some ⟨R,0,none⟩)) w:=by kernel_rfl
theorem fld1 (R:Nat) (w:World):(Instr.fieldAt 133 (.pointer (some ⟨R,0,none⟩)) 1).run Tryz.prog w = .ok (.pointer (some ⟨R,1,none⟩)) w:=by kernel_rfl
theorem ldI (p:Addr) (v:Value) (w:World) (h:w.cell? p = some v):(Instr.loadAt 88 (.pointer (some p))).run Tryz.prog w = .ok v w:=by
 simp [Instr.loadAt,Instr.sureAddr,loadVar,isAgg,run_underlying Tryz.underlying88,h,go_sem]
theorem stI (p:Addr) (a:Option Addr) (n c:Nat) (u:Value) (w:World) (h:w.cell? p = some u) (hf:w.frozen? p = false):(Instr.storeAt 88 (.pointer (some p)) (.slice a n c)).run Tryz.prog w = .ok () (w.setCell p (.slice a n c)):=by
 have hs:(Tryz.prog.info? 88).map (·.size) = some 1:=by kernel_rfl
 cases h5:Tryz.prog.info? 88 with
 | none=>rw [h5] at hs;cases hs
 | some ie =>
  simp only [h5,Option.map_some,Option.some.injEq] at hs
  simp [Instr.storeAt,Instr.sureAddr,storeVar,sizeOf,typeInfo,h5,hs,Value.cells,storeCells,h,hf,go_sem]
theorem Zae {w:World} {b:Nat} {u v:Value} {t:TypeId} (h:w.heap[b]? = some (.cells #[u,v] t (0,0))):w.cell? ⟨b,0,none⟩ = some u /\ w.cell? ⟨b,1,none⟩ = some v /\ w.frozen? ⟨b,0,none⟩ = false /\ w.frozen? ⟨b,1,none⟩ = false:=by
 simp [World.cell?,World.frozen?,h]
theorem Zaq {w:World} {b:Nat} {u v x:Value} {t:TypeId} (h:w.heap[b]? = some (.cells #[u,v] t (0,0))) :
  (w.setCell ⟨b,0,none⟩ x).heap[b]? = some (.cells #[x,v] t (0,0)) /\ (w.setCell ⟨b,1,none⟩ x).heap[b]? = some (.cells #[u,x] t (0,0)):=by
 constructor
 ·show (w.heap.modify b _)[b]? = _
  rw [Array.getElem?_modify,if_pos rfl,h];rfl
 ·show (w.heap.modify b _)[b]? = _
  rw [Array.getElem?_modify,if_pos rfl,h];rfl
set_option maxHeartbeats 1600000 in
theorem Znc (gf:FuncId) (lb:Array Value) (n:Nat) (fa fb:Nat -> Nat) (S T:Nat -> Prop) (w:World) (hn:n <= 1000) (eg:∀ args w,(callFunc gf args).run Tryz.prog w = .ok (.enter gf args) w)
  (hy:Yields Tryz.prog gf lb n (fun i=>#[.int .i64 (fa i:Nat),.int .i64 (fb i:Nat)]) S T w) (hS:∀ b,S b -> b < w.heap.size) (hT:∀ b,T b -> b < w.heap.size) :
  Calls Tryz.prog 79 #[.func (.func gf) #[] lb] w fun e w'=>∃ a1 c1 a2 c2,e = .returned (.agg #[.slice a1 n c1,.slice a2 n c2]) ∧
   OwnN 3 .i64 w' w.heap.size a1 c1 ((List.range n).map fa) /\ OwnN 3 .i64 w' w.heap.size a2 c2 ((List.range n).map fb) /\ Only T w w':=by
 have HY:=Zh hy
 clear hy
 refine (callsIn_wide (n:=9)).1 ?_
 refine callsIn_of_wp_marks Tryz.func79 rfl trivial ?_ rfl
 simp only [Tryz.ntmps79,List.size_toArray,List.length_cons,List.length_nil,Nat.reduceAdd,Nat.reduceSub,Array.replicate_succ,Array.replicate_zero,List.push_toArray,List.append_toArray,List.nil_append,List.cons_append]
 gi_wp2
 obtain ⟨W0,hW0⟩:∃ W0,(w.alloc (.cells #[.slice none 0 0,.slice none 0 0] 133)).alloc (.cells #[.slice none 0 0,.slice none 0 0] 133) = W0:=⟨_,rfl⟩
 have hz0:W0.heap.size = w.heap.size + 2:=by rw [<- hW0];simp
 have hb0:W0.heap[w.heap.size]? = some (.cells #[.slice none 0 0,.slice none 0 0] 133 (0,0)):=by
  rw [<- hW0,Below.heap_alloc _ _ _ (by simp)];exact World.alloc_heap_new _ _
 have hb1:W0.heap[w.heap.size + 1]? = some (.cells #[.slice none 0 0,.slice none 0 0] 133 (0,0)):=by
  rw [<- hW0];have:=World.alloc_heap_new (w.alloc (.cells #[.slice none 0 0,.slice none 0 0] 133)) (.cells #[.slice none 0 0,.slice none 0 0] 133);rwa [World.size_alloc] at this
 have hbel:Below w.heap.size w W0:=by rw [<- hW0];exact ((Below.refl _ _).alloc (Nat.le_refl _) _).alloc (by simp) _
 have hsm:SameOn S w W0:=⟨hbel.size,fun b hb=>hbel.block b (hS b hb)⟩
 simp only [hW0]
 clear hW0
 refine Zjk (g:=.tmp 6) (gf:=gf) (lb:=lb) rfl eg HY.out hsm (fun b hb=>by have:=hS b hb;omega) (fun b hb=>by have:=hT b hb;omega) (fun _=>rfl)
  (fun i A=>colI w w.heap.size T fa fb i A) (fun _ _ _=>False) ?hI ?hIp (fun _ _ _ _ h _=>h) (fun _ _ _ _ _ _ h _ _ _=>h) ?h0 ?a1 ?assign ?body ?done (fun _ _ _ _ h _=>h.elim)
 case hI =>
  rintro i A B ⟨a1,c1,a2,c2,h1,h2,h3,h4,h5,h6⟩ ho
  exact ⟨a1,c1,a2,c2,Zah h1 ho (fun t=>by have:=hT _ t;omega),h2.only ho (fun b hb t=>by have:=hT _ t;omega),h3.only ho (fun b hb t=>by have:=hT _ t;omega),h4,Zah h5 ho (fun t=>by have:=hT _ t;omega),h6.trans ho⟩
 case hIp =>
  rintro i A l o o' ⟨a1,c1,a2,c2,h1,h2,h3,h4,h5,h6⟩ hl hlo hoc
  exact ⟨a1,c1,a2,c2,Zap h1 hlo hoc,h2.put hlo hoc _,h3.put hlo hoc _,h4,Zap h5 hlo hoc,h6.low rfl rfl rfl (by rw [World.putObj_size];exact Nat.le_refl _) (fun k hk=>World.putObj_heap_other (by omega))⟩
 case h0=>exact ⟨none,0,none,0,hb1,OwnN.nil _ _ _ _,OwnN.nil _ _ _ _,fun _ h=>(by cases h),hb0,⟨hbel.os,hbel.tape,hbel.output,hbel.size,fun k hk _=>hbel.block k hk⟩⟩
 case assign =>
  intro y i W K hK
  gi_wp2
  exact hK
 case body =>
  rintro y i hi A hz ⟨x1,c1,x2,c2,hcell,ho1,ho2,hap,hres,honly⟩
  have hap12:apart (.slice x1 i c1) (.slice x2 i c2):=by
   intro b hb hb2
   rcases ho1.form with ⟨rfl,_⟩ | ⟨g1,rfl,_⟩
   ·cases hb
   ·rcases ho2.form with ⟨rfl,_⟩ | ⟨g2,rfl,_⟩
    ·cases hb2
    ·cases hb;cases hb2;exact hap _ rfl rfl
  have hov1:OwnV (w.heap.size + 1) (.slice x1 i c1) ((List.range i).map fa) A:=⟨x1,c1,by simp,ho1⟩
  have hov2:OwnV (w.heap.size + 1) (.slice x2 i c2) ((List.range i).map fb) A:=⟨x2,c2,by simp,ho2⟩
  have hlt1:∀ b,colBlk (.slice x1 i c1) = some b -> b < A.heap.size:=fun b hb=>(hov1.lt b hb).2
  have hlt2:∀ b,colBlk (.slice x2 i c2) = some b -> b < A.heap.size:=fun b hb=>(hov2.lt b hb).2
  have hfin:∀ j,((fun j=>j == 11 || j == 13):Nat -> Bool) j = true -> j < 14:=by intro j hj;simp at hj;omega
  clear ho1 ho2 hap
  gi_wp2
  refine Zar [9,10,11,12,13,14,15,16,17,18,19,20] (fun j=>j == 11 || j == 13) (colR (w.heap.size + 1) A (.slice x1 i c1) (.slice x2 i c2) ((List.range i).map fa) ((List.range i).map fb)) (colV (w.heap.size + 1) A.heap.size (.slice x1 i c1) (.slice x2 i c2) (fa i) (fb i) ((List.range i).map fa) ((List.range i).map fb)) (fun _ _ u v=>apart u v) (by kernel_rfl) (by kernel_rfl) (OneEach.mk' (by kernel_rfl) (by kernel_rfl)) (by kernel_rfl) (by kernel_rfl) ?_ ?_ ?_
  ·exact ⟨⟨rfl,rfl,rfl,Nat.le_refl _,fun _ _=>rfl⟩,⟨Nat.le_refl _,fun _ _ h _=>h⟩,⟨_,_,hcell,fun _=>rfl,fun _=>rfl⟩,fun _=>hov1,fun _=>hov2⟩
  ·intro i0 o hi0 listed a1 w1 hR hil hunf hdes hanc hout hdep
   have hlt:=(Array.getElem?_eq_some_iff.1 hi0).1
   have hsz:i0 < 14:=hlt
   have h3:a1.eval (.tmp 3) = .pointer (some ⟨w.heap.size + 1,0,none⟩):=hout 3 (by decide)
   have h4:a1.eval (.tmp 4) = .int .i64 (fa i:Nat):=hout 4 (by decide)
   have h5:a1.eval (.tmp 5) = .int .i64 (fb i:Nat):=hout 5 (by decide)
   have hall:i0 = 0 \/ i0 = 1 \/ i0 = 2 \/ i0 = 3 \/ i0 = 4 \/ i0 = 5 \/ i0 = 6 \/ i0 = 7 \/ i0 = 8 \/ i0 = 9 \/ i0 = 10 \/ i0 = 11 \/ i0 = 12 \/ i0 = 13:=by omega
   clear hlt hsz hout
   rcases hall with rfl | rfl | rfl | rfl | rfl | rfl | rfl | rfl | rfl | rfl | rfl | rfl | rfl | rfl <;> simp only [List.getElem?_toArray,List.getElem?_cons_zero,List.getElem?_cons_succ,Option.some.injEq] at hi0 <;> subst hi0
   ·refine Zaf (by intro c h;cases h) (by intro c h;cases h) (v:=.pointer (some ⟨w.heap.size + 1,0,none⟩)) (w':=w1) (by simp [execOp,h3,fld0]) ⟨_,rfl,hR.pure (by decide) (by decide) (by decide) (by decide),fun j u hu hV hde=>⟨hV,apart.left rfl,(apart.left rfl).symm⟩,rfl⟩
   ·obtain ⟨p,q,hc,hp,hq⟩:=hR.cells
    obtain rfl:=hp (hdes 11 (by kernel_rfl))
    obtain rfl:=hq (hdes 13 (by kernel_rfl))
    have e9:a1.eval (.tmp 9) = .pointer (some ⟨w.heap.size + 1,0,none⟩):=hdep ⟨0,.data⟩ (by simp) rfl _ rfl
    refine Zaf (by intro c h;cases h) (by intro c h;cases h) (v:=.slice x1 i c1) (w':=w1) (by simp [execOp,e9,ldI _ _ _ (Zae hc).1]) ⟨_,rfl,hR.pure (by decide) (by decide) (by decide) (by decide),fun j u hu hV hde=>?_,rfl⟩
    have hap':apart (.slice x1 i c1) u:=by
     have hm:=Zcr (by kernel_rfl) hfin hu [2,3,5,6,7,8] (by kernel_rfl)
     simp only [List.mem_cons,List.not_mem_nil,or_false] at hm
     rcases hm with rfl | rfl | rfl | rfl | rfl | rfl <;> simp only [colV] at hV
     ·subst hV;exact (apart.left rfl).symm
     ·obtain ⟨b',rfl,_,hb1,_⟩:=hV
      intro b hb hb2;cases hb2;exact absurd (hlt1 _ hb) (Nat.not_lt.2 hb1)
     ·subst hV;exact (apart.left rfl).symm
     ·subst hV;exact hap12
     ·subst hV;exact (apart.left rfl).symm
     ·obtain ⟨b',rfl,_,hb1,_⟩:=hV
      intro b hb hb2;cases hb2;exact absurd (hlt1 _ hb) (Nat.not_lt.2 hb1)
    exact ⟨hV,hap',hap'.symm⟩
   ·refine Zaf (by intro c h;cases h) (by intro c h;cases h) (v:=.int .i64 (fa i:Nat)) (w':=w1) (by simp [execOp,h4]) ⟨_,rfl,hR.pure (by decide) (by decide) (by decide) (by decide),fun j u hu hV hde=>⟨hV,apart.left rfl,(apart.left rfl).symm⟩,rfl⟩
   ·have e9:a1.eval (.tmp 11) = .int .i64 (fa i:Nat):=hdep ⟨2,.data⟩ (by simp) rfl _ rfl
    refine Zaf (by intro c h;cases h) (by intro c h;cases h) (v:=.slice (some ⟨w1.heap.size,0,none⟩) 1 1) (w':=w1.alloc (.cells #[.int .i64 (fa i:Nat)] 3)) (by simp [execOp,e9,bs1]) ⟨_,rfl,(hR.pure (by decide) (by decide) (by decide) (by decide)).alloc _,fun j u hu hV hde=>?_,?_⟩
    ·have hj:j <= 10:=by
      have hm:=Zcr (by kernel_rfl) hfin hu [0,1,5,6,7,8] (by kernel_rfl)
      revert hm;simp;omega
     have hN:A.heap.size <= w1.heap.size:=hR.keeps.size
     have hap':apart (.slice (some ⟨w1.heap.size,0,none⟩) 1 1) u:=by
      intro b hb hb2;cases hb
      exact absurd (Zwx j u hN hlt1 hlt2 hV hj _ hb2) (Nat.lt_irrefl _)
     exact ⟨Zkl j u ((Below.refl _ _).alloc (Nat.le_refl _) _) (Array.getElem?_eq_some_iff.1 hR.cells.choose_spec.choose_spec.1).1 hV,hap',hap'.symm⟩
    ·refine ⟨w1.heap.size,rfl,?_,hR.keeps.size,by simp⟩
     have:=Zpc .i64 w1 [fa i] 3 #[.int .i64 (fa i:Nat)] w1.heap.size rfl rfl (by simp)
     exact this
   ·obtain ⟨b9,e40,r40,hb9,hb9'⟩:=hdep ⟨3,.data⟩ (by simp) rfl _ rfl
    have e39:a1.eval (.tmp 10) = .slice x1 i c1:=hdep ⟨1,.data⟩ (by simp) rfl _ rfl
    have e40':a1.eval (.tmp 12) = .slice (some ⟨b9,0,none⟩) 1 1:=e40
    have hov:=hR.own1 hunf
    obtain ⟨p,q,hc,hp,hq⟩:=hR.cells
    have hpS:=hp (hdes 11 (by kernel_rfl))
    have hqS:=hq (hdes 13 (by kernel_rfl))
    have hN:A.heap.size <= w1.heap.size:=hR.keeps.size
    have hRlt:w.heap.size + 1 < w1.heap.size:=(Array.getElem?_eq_some_iff.1 hc).1
    obtain ⟨a39,c39,h39,o39⟩:=hov
    rw [h39] at e39
    refine Zfe (ops0:=#[]) rfl (appNInAt Zfc rfl (.tmp 10) (.tmp 12) rfl e39 o39 rfl e40' r40 (by simp) (by simp;omega) (by simp;omega) (by omega) ?_)
    intro a' cap' w2 ho2 hg2 hb2 hat
    rw [Zcc,Zcc,<- h39] at hat
    rw [Zcc,<- h39] at hg2
    have hrow:∀ j o,colBlk (.slice x1 i c1) = some j -> w1.heap[j]? = some o -> o.isCells = true:=fun j o hj ho=>by
     rw [h39] at hj
     rcases o39.2 with ⟨h5,_⟩ | ⟨g,c,cur,h5,_,h6,_⟩
     ·rw [h5] at hj;cases hj
     ·rw [h5] at hj;cases hj
      rw [h6] at ho;cases ho;rfl
    have hbase:∀ b,colBlk (.slice x1 i c1) = some b -> w.heap.size + 1 < b:=fun b hb=>by
     have:=(show OwnV (w.heap.size + 1) (.slice x1 i c1) _ w1 from ⟨_,_,h39,o39⟩).lt b hb
     omega
    have hRsame:w2.heap[w.heap.size + 1]? = w1.heap[w.heap.size + 1]?:=hg2.block _ hRlt (fun h=>by have:=hbase _ h.symm;omega)
    have hnew:∀ b,colBlk (.slice a' ((List.range i).map fa ++ [fa i]).length cap') = some b -> colBlk (.slice x1 i c1) = some b \/ A.heap.size <= b:=fun b hb=>by
     have hat':colBlk (.slice a' ((List.range i).map fa ++ [fa i]).length cap') = colBlk (.slice x1 i c1) \/ colBlk (.slice a' ((List.range i).map fa ++ [fa i]).length cap') = some w1.heap.size:=by
      cases a' <;> exact hat
     rcases hat' with h5 | h5
     ·exact .inl (h5 ▸ hb)
     ·rw [h5] at hb;cases hb;exact .inr hN
    refine ⟨_,by simp,⟨hR.below.trans (Below.of_grown hg2 (by omega) (fun k hk=>by have:=hbase k hk;omega)),hR.keeps.trans (KeepsOthers.of_grownBy hg2 hrow),⟨p,q,hRsame.trans hc,fun e=>hp (Zay (by decide) e),fun e=>hq (Zay (by decide) e)⟩,fun e=>(by rw [Zad hil] at e;cases e),fun e=>(hR.own2 (Zay (by decide) e)).kept hg2 (fun b hb hb2=>hap12 b hb2 hb)⟩,fun j u hu hV hde=>?_,⟨a',cap',by simp,ho2,hnew⟩⟩
    have hm:=Zcr (by kernel_rfl) hfin hu [5,6,7,8] (by kernel_rfl)
    simp only [List.mem_cons,List.not_mem_nil,or_false] at hm
    have hnl:∀ b,colBlk (.slice a' ((List.range i).map fa ++ [fa i]).length cap') = some b -> colBlk (.slice x1 i c1) = some b \/ b = w1.heap.size:=fun b hb=>by
     have hat':colBlk (.slice a' ((List.range i).map fa ++ [fa i]).length cap') = colBlk (.slice x1 i c1) \/ colBlk (.slice a' ((List.range i).map fa ++ [fa i]).length cap') = some w1.heap.size:=by
      cases a' <;> exact hat
     rcases hat' with h5 | h5
     ·exact .inl (h5 ▸ hb)
     ·rw [h5] at hb;cases hb;exact .inr rfl
    rcases hm with rfl | rfl | rfl | rfl <;> simp only [colV] at hV
    ·subst hV;exact ⟨rfl,(apart.left rfl).symm,apart.left rfl⟩
    ·subst hV
     have h7:apart (.slice a' ((List.range i).map fa ++ [fa i]).length cap') (.slice x2 i c2):=fun b hb hb2=>by
      rcases hnl b hb with h8 | h8
      ·exact hap12 b h8 hb2
      ·have:=hlt2 b hb2;omega
     exact ⟨rfl,by simpa using h7,by simpa using h7.symm⟩
    ·subst hV;exact ⟨rfl,(apart.left rfl).symm,apart.left rfl⟩
    ·obtain ⟨b',rfl,hr',hb1,hb2'⟩:=hV
     have h7:apart (.slice a' ((List.range i).map fa ++ [fa i]).length cap') (.slice (some ⟨b',0,none⟩) 1 1):=fun b hb hb2=>by
      cases hb2
      rcases hnl b' hb with h8 | h8
      ·have:=hlt1 b' h8;omega
      ·omega
     exact ⟨⟨b',rfl,hr'.keptB hg2 (fun h=>by have:=hlt1 b' h;omega),hb1,Nat.lt_of_lt_of_le hb2' hg2.size⟩,by simpa using h7,by simpa using h7.symm⟩
   ·refine Zaf (by intro c h;cases h) (by intro c h;cases h) (v:=.pointer (some ⟨w.heap.size + 1,1,none⟩)) (w':=w1) (by simp [execOp,h3,fld1]) ⟨_,rfl,hR.pure (by decide) (by decide) (by decide) (by decide),fun j u hu hV hde=>⟨hV,apart.left rfl,(apart.left rfl).symm⟩,rfl⟩
   ·obtain ⟨p,q,hc,hp,hq⟩:=hR.cells
    obtain rfl:=hp (hdes 11 (by kernel_rfl))
    obtain rfl:=hq (hdes 13 (by kernel_rfl))
    have e9:a1.eval (.tmp 14) = .pointer (some ⟨w.heap.size + 1,1,none⟩):=hdep ⟨5,.data⟩ (by simp) rfl _ rfl
    refine Zaf (by intro c h;cases h) (by intro c h;cases h) (v:=.slice x2 i c2) (w':=w1) (by simp [execOp,e9,ldI _ _ _ (Zae hc).2.1]) ⟨_,rfl,hR.pure (by decide) (by decide) (by decide) (by decide),fun j u hu hV hde=>?_,rfl⟩
    have hap':apart (.slice x2 i c2) u:=by
     have hm:=Zcr (by kernel_rfl) hfin hu [0,1,2,3,4,7,8] (by kernel_rfl)
     simp only [List.mem_cons,List.not_mem_nil,or_false] at hm
     rcases hm with rfl | rfl | rfl | rfl | rfl | rfl | rfl <;> simp only [colV] at hV
     ·subst hV;exact (apart.left rfl).symm
     ·subst hV;exact hap12.symm
     ·subst hV;exact (apart.left rfl).symm
     ·obtain ⟨b',rfl,_,hb1,_⟩:=hV
      intro b hb hb2;cases hb2;exact absurd (hlt2 _ hb) (Nat.not_lt.2 hb1)
     ·obtain ⟨_,_,_,_,h5⟩:=hV
      intro b hb hb2
      have:=hlt2 _ hb
      rcases h5 b hb2 with h6 | h6
      ·exact hap12 b h6 hb
      ·omega
     ·subst hV;exact (apart.left rfl).symm
     ·obtain ⟨b',rfl,_,hb1,_⟩:=hV
      intro b hb hb2;cases hb2;exact absurd (hlt2 _ hb) (Nat.not_lt.2 hb1)
    exact ⟨hV,hap',hap'.symm⟩
   ·refine Zaf (by intro c h;cases h) (by intro c h;cases h) (v:=.int .i64 (fb i:Nat)) (w':=w1) (by simp [execOp,h5]) ⟨_,rfl,hR.pure (by decide) (by decide) (by decide) (by decide),fun j u hu hV hde=>⟨hV,apart.left rfl,(apart.left rfl).symm⟩,rfl⟩
   ·have e9:a1.eval (.tmp 16) = .int .i64 (fb i:Nat):=hdep ⟨7,.data⟩ (by simp) rfl _ rfl
    refine Zaf (by intro c h;cases h) (by intro c h;cases h) (v:=.slice (some ⟨w1.heap.size,0,none⟩) 1 1) (w':=w1.alloc (.cells #[.int .i64 (fb i:Nat)] 3)) (by simp [execOp,e9,bs1]) ⟨_,rfl,(hR.pure (by decide) (by decide) (by decide) (by decide)).alloc _,fun j u hu hV hde=>?_,?_⟩
    ·have hj:j <= 10:=by
      have hm:=Zcr (by kernel_rfl) hfin hu [0,1,2,3,4,5,6,10] (by kernel_rfl)
      revert hm;simp;omega
     have hN:A.heap.size <= w1.heap.size:=hR.keeps.size
     have hap':apart (.slice (some ⟨w1.heap.size,0,none⟩) 1 1) u:=by
      intro b hb hb2;cases hb
      exact absurd (Zwx j u hN hlt1 hlt2 hV hj _ hb2) (Nat.lt_irrefl _)
     exact ⟨Zkl j u ((Below.refl _ _).alloc (Nat.le_refl _) _) (Array.getElem?_eq_some_iff.1 hR.cells.choose_spec.choose_spec.1).1 hV,hap',hap'.symm⟩
    ·refine ⟨w1.heap.size,rfl,?_,hR.keeps.size,by simp⟩
     have:=Zpc .i64 w1 [fb i] 3 #[.int .i64 (fb i:Nat)] w1.heap.size rfl rfl (by simp)
     exact this
   ·obtain ⟨b9,e40,r40,hb9,hb9'⟩:=hdep ⟨8,.data⟩ (by simp) rfl _ rfl
    have e39:a1.eval (.tmp 15) = .slice x2 i c2:=hdep ⟨6,.data⟩ (by simp) rfl _ rfl
    have e40':a1.eval (.tmp 17) = .slice (some ⟨b9,0,none⟩) 1 1:=e40
    have hov:=hR.own2 hunf
    obtain ⟨p,q,hc,hp,hq⟩:=hR.cells
    have hpS:=hp (hdes 11 (by kernel_rfl))
    have hqS:=hq (hdes 13 (by kernel_rfl))
    have hN:A.heap.size <= w1.heap.size:=hR.keeps.size
    have hRlt:w.heap.size + 1 < w1.heap.size:=(Array.getElem?_eq_some_iff.1 hc).1
    obtain ⟨a39,c39,h39,o39⟩:=hov
    rw [h39] at e39
    refine Zfe (ops0:=#[]) rfl (appNInAt Zfc rfl (.tmp 15) (.tmp 17) rfl e39 o39 rfl e40' r40 (by simp) (by simp;omega) (by simp;omega) (by omega) ?_)
    intro a' cap' w2 ho2 hg2 hb2 hat
    rw [Zcc,Zcc,<- h39] at hat
    rw [Zcc,<- h39] at hg2
    have hrow:∀ j o,colBlk (.slice x2 i c2) = some j -> w1.heap[j]? = some o -> o.isCells = true:=fun j o hj ho=>by
     rw [h39] at hj
     rcases o39.2 with ⟨h5,_⟩ | ⟨g,c,cur,h5,_,h6,_⟩
     ·rw [h5] at hj;cases hj
     ·rw [h5] at hj;cases hj
      rw [h6] at ho;cases ho;rfl
    have hbase:∀ b,colBlk (.slice x2 i c2) = some b -> w.heap.size + 1 < b:=fun b hb=>by
     have:=(show OwnV (w.heap.size + 1) (.slice x2 i c2) _ w1 from ⟨_,_,h39,o39⟩).lt b hb
     omega
    have hRsame:w2.heap[w.heap.size + 1]? = w1.heap[w.heap.size + 1]?:=hg2.block _ hRlt (fun h=>by have:=hbase _ h.symm;omega)
    have hnew:∀ b,colBlk (.slice a' ((List.range i).map fb ++ [fb i]).length cap') = some b -> colBlk (.slice x2 i c2) = some b \/ A.heap.size <= b:=fun b hb=>by
     have hat':colBlk (.slice a' ((List.range i).map fb ++ [fb i]).length cap') = colBlk (.slice x2 i c2) \/ colBlk (.slice a' ((List.range i).map fb ++ [fb i]).length cap') = some w1.heap.size:=by
      cases a' <;> exact hat
     rcases hat' with h5 | h5
     ·exact .inl (h5 ▸ hb)
     ·rw [h5] at hb;cases hb;exact .inr hN
    have hnl:∀ b,colBlk (.slice a' ((List.range i).map fb ++ [fb i]).length cap') = some b -> colBlk (.slice x2 i c2) = some b \/ b = w1.heap.size:=fun b hb=>by
     have hat':colBlk (.slice a' ((List.range i).map fb ++ [fb i]).length cap') = colBlk (.slice x2 i c2) \/ colBlk (.slice a' ((List.range i).map fb ++ [fb i]).length cap') = some w1.heap.size:=by
      cases a' <;> exact hat
     rcases hat' with h5 | h5
     ·exact .inl (h5 ▸ hb)
     ·rw [h5] at hb;cases hb;exact .inr rfl
    refine ⟨_,by simp,⟨hR.below.trans (Below.of_grown hg2 (by omega) (fun k hk=>by have:=hbase k hk;omega)),hR.keeps.trans (KeepsOthers.of_grownBy hg2 hrow),⟨p,q,hRsame.trans hc,fun e=>hp (Zay (by decide) e),fun e=>hq (Zay (by decide) e)⟩,fun e=>(hR.own1 (Zay (by decide) e)).kept hg2 (fun b hb hb2=>hap12 b hb hb2),fun e=>(by rw [Zad hil] at e;cases e)⟩,fun j u hu hV hde=>?_,⟨⟨a',cap',by simp,ho2,hnew⟩,fun p' q' hc' b hb hb2=>?_⟩⟩
    ·have hm:=Zcr (by kernel_rfl) hfin hu [4,10] (by kernel_rfl)
     simp only [List.mem_cons,List.not_mem_nil,or_false] at hm
     rcases hm with rfl | rfl
     case inr=>simp only [colV] at hV;subst hV;exact ⟨rfl,(apart.left rfl).symm,apart.left rfl⟩
     simp only [colV] at hV
     have h64:apart (.slice x2 i c2) u:=by
      have:=(hde ⟨6,.data⟩ (by simp) rfl (by decide) _ rfl).1
      have e6:=hdep ⟨6,.data⟩ (by simp) rfl _ rfl
      simp only [colV] at e6
      rw [e6] at this
      exact this
     have hult:=hV.own.lt
     have h7:apart (.slice a' ((List.range i).map fb ++ [fb i]).length cap') u:=fun b hb hb2=>by
      rcases hnl b hb with h8 | h8
      ·exact h64 b h8 hb2
      ·have:=(hult b hb2).2;omega
     exact ⟨hV.kept hg2 (fun b hb hb2=>h64 b hb2 hb),by simpa using h7,by simpa using h7.symm⟩
    ·rw [hRsame,hc] at hc'
     cases hc'
     rw [hpS] at hb
     have hb2:colBlk (.slice a' ((List.range i).map fb ++ [fb i]).length cap') = some b:=by simpa using hb2
     rcases hnl b hb2 with h8 | h8
     ·exact hap12 b hb h8
     ·have:=hlt1 b hb;omega
   ·refine Zaf (by intro c h;cases h) (by intro c h;cases h) (v:=.pointer (some ⟨w.heap.size + 1,0,none⟩)) (w':=w1) (by simp [execOp,h3,fld0]) ⟨_,rfl,hR.pure (by decide) (by decide) (by decide) (by decide),fun j u hu hV hde=>⟨hV,apart.left rfl,(apart.left rfl).symm⟩,rfl⟩
   ·obtain ⟨p,q,hc,hp,hq⟩:=hR.cells
    have e19:a1.eval (.tmp 19) = .pointer (some ⟨w.heap.size + 1,0,none⟩):=hdep ⟨10,.data⟩ (by simp) rfl _ rfl
    have hvd:=hdep ⟨4,.data⟩ (by simp) rfl _ rfl
    simp only [colV] at hvd
    obtain ⟨a',c',e13,o13,hn13⟩:=hvd
    have e13':a1.eval (.tmp 13) = .slice a' ((List.range i).map fa ++ [fa i]).length c':=e13
    rw [e13] at hn13
    have hov:OwnV (w.heap.size + 1) (.slice a' ((List.range i).map fa ++ [fa i]).length c') _ w1:=⟨_,_,rfl,o13⟩
    have hkeep:∀ S l,OwnV (w.heap.size + 1) S l w1 -> OwnV (w.heap.size + 1) S l (w1.setCell ⟨w.heap.size + 1,0,none⟩ (.slice a' ((List.range i).map fa ++ [fa i]).length c')):=fun S l h=>by
     obtain ⟨a,c,rfl,h⟩:=h
     refine ⟨a,c,rfl,h.other (fun g hg=>?_) _⟩
     rcases h.form with ⟨h5,_⟩ | ⟨g',h5,h6,_⟩
     ·rw [h5] at hg;cases hg
     ·rw [h5] at hg;cases hg;show w.heap.size + 1 ≠ _;omega
    refine Zeg (by intro c h;cases h) (by intro c h;cases h) (w':=w1.setCell ⟨w.heap.size + 1,0,none⟩ (.slice a' ((List.range i).map fa ++ [fa i]).length c')) (by simp only [execOp,e19,e13'];simp [stI _ _ _ _ _ _ (Zae hc).1 (Zae hc).2.2.1]) ⟨undef,rfl,?_,fun j u hu hV hde=>?_,?_⟩
    ·exact ⟨hR.below.setCell (Nat.le_refl _) _,hR.keeps.trans (KeepsOthers.setCell _ _ _),⟨_,q,(Zaq hc).1,fun e=>(by rw [Zad hil] at e;cases e),fun e=>hq (Zay (by decide) e)⟩,fun e=>hkeep _ _ (hR.own1 (Zay (by decide) e)),fun e=>hkeep _ _ (hR.own2 (Zay (by decide) e))⟩
    ·have hm:=Zcr (by kernel_rfl) hfin hu [9] (by kernel_rfl)
     simp only [List.mem_cons,List.not_mem_nil,or_false] at hm
     subst hm;simp only [colV] at hV
     ·have h49:apart (.slice a' ((List.range i).map fa ++ [fa i]).length c') u:=by
       have:=(hde ⟨4,.data⟩ (by simp) rfl (by decide) _ rfl).1
       rw [show leftBy a1 _ = _ from e13] at this
       exact this
      refine ⟨⟨colNew.of (hkeep _ _ hV.1.own) hV.1.choose_spec.choose_spec.2.2,fun p' q' hc'=>?_⟩,apart.left rfl,(apart.left rfl).symm⟩
      rw [(Zaq hc).1] at hc'
      cases hc'
      exact h49
    ·exact ⟨_,q,(Zaq hc).1,colNew.of (hkeep _ _ hov) hn13⟩
   ·refine Zaf (by intro c h;cases h) (by intro c h;cases h) (v:=.pointer (some ⟨w.heap.size + 1,1,none⟩)) (w':=w1) (by simp [execOp,h3,fld1]) ⟨_,rfl,hR.pure (by decide) (by decide) (by decide) (by decide),fun j u hu hV hde=>⟨hV,apart.left rfl,(apart.left rfl).symm⟩,rfl⟩
   ·obtain ⟨p,q,hc,hp,hq⟩:=hR.cells
    have e19:a1.eval (.tmp 20) = .pointer (some ⟨w.heap.size + 1,1,none⟩):=hdep ⟨12,.data⟩ (by simp) rfl _ rfl
    have hvd:=hdep ⟨9,.data⟩ (by simp) rfl _ rfl
    simp only [colV] at hvd
    obtain ⟨⟨a',c',e13,o13,hn13⟩,hcl⟩:=hvd
    have e13':a1.eval (.tmp 18) = .slice a' ((List.range i).map fb ++ [fb i]).length c':=e13
    rw [e13] at hn13 hcl
    have hov:OwnV (w.heap.size + 1) (.slice a' ((List.range i).map fb ++ [fb i]).length c') _ w1:=⟨_,_,rfl,o13⟩
    have hkeep:∀ S l,OwnV (w.heap.size + 1) S l w1 -> OwnV (w.heap.size + 1) S l (w1.setCell ⟨w.heap.size + 1,1,none⟩ (.slice a' ((List.range i).map fb ++ [fb i]).length c')):=fun S l h=>by
     obtain ⟨a,c,rfl,h⟩:=h
     refine ⟨a,c,rfl,h.other (fun g hg=>?_) _⟩
     rcases h.form with ⟨h5,_⟩ | ⟨g',h5,h6,_⟩
     ·rw [h5] at hg;cases hg
     ·rw [h5] at hg;cases hg;show w.heap.size + 1 ≠ _;omega
    refine Zeg (by intro c h;cases h) (by intro c h;cases h) (w':=w1.setCell ⟨w.heap.size + 1,1,none⟩ (.slice a' ((List.range i).map fb ++ [fb i]).length c')) (by simp only [execOp,e19,e13'];simp [stI _ _ _ _ _ _ (Zae hc).2.1 (Zae hc).2.2.2]) ⟨undef,rfl,?_,fun j u hu hV hde=>?_,?_⟩
    ·exact ⟨hR.below.setCell (Nat.le_refl _) _,hR.keeps.trans (KeepsOthers.setCell _ _ _),⟨p,_,(Zaq hc).2,fun e=>hp (Zay (by decide) e),fun e=>(by rw [Zad hil] at e;cases e)⟩,fun e=>hkeep _ _ (hR.own1 (Zay (by decide) e)),fun e=>hkeep _ _ (hR.own2 (Zay (by decide) e))⟩
    ·have hm:=Zcr (by kernel_rfl) hfin hu [11] (by kernel_rfl)
     simp only [List.mem_cons,List.not_mem_nil,or_false] at hm
     subst hm
     simp only [colV] at hV
     obtain ⟨u',q',h5,h6⟩:=hV
     rw [hc] at h5
     cases h5
     exact ⟨⟨_,_,(Zaq hc).2,colNew.of (hkeep _ _ h6.own) h6.choose_spec.choose_spec.2.2⟩,apart.left rfl,(apart.left rfl).symm⟩
    ·exact ⟨p,_,(Zaq hc).2,colNew.of (hkeep _ _ hov) hn13,hcl p q hc⟩
  ·intro listed f w1 hR hall hV
   have v11:=hV 11 _ rfl rfl
   have v13:=hV 13 _ rfl rfl
   simp only [colV] at v11 v13
   obtain ⟨u,q,hc,hu⟩:=v11
   obtain ⟨p,u',hc',hu',hap'⟩:=v13
   rw [hc] at hc'
   cases hc'
   obtain ⟨a',c',rfl,o1,_⟩:=hu
   obtain ⟨a2',c2',rfl,o2,_⟩:=hu'
   have hR1:=hR.below
   have hR2:=hR.keeps
   refine ⟨hR2.from _,⟨hR1.size,fun b hb=>hR1.block b (by have:=hS b hb;omega)⟩,a',c',a2',c2',by simpa using hc,by simpa [List.range_succ] using o1,by simpa [List.range_succ] using o2,fun g hg hg2=>?_,(hR1.block _ (by omega)).trans hres,honly.low hR1.os hR1.tape hR1.output hR1.size (fun k hk=>hR1.block k (by omega))⟩
   subst hg;exact hap' g rfl (by rw [hg2];rfl)
 case done =>
  rintro A ⟨a1,c1,a2,c2,h1,h2,h3,h4,h5,h6⟩ hD
  have k3:=Zae h1
  have k2:=Zae h5
  obtain ⟨q1,q2,q3,q4⟩:=k3
  obtain ⟨r1,r2,r3,r4⟩:=k2
  have H1:=Zh h1
  have H5:=Zh h5
  have H6:=Zh h6
  clear h1 h5 h4 h6
  gi_wp2
  have hD2:=(Below.heap_setCell _ ⟨w.heap.size,1,none⟩ (.slice a2 n c2) _ (by show W0.heap.size ≠ w.heap.size;omega)).trans ((Below.heap_setCell A ⟨w.heap.size,0,none⟩ (.slice a1 n c1) _ (by show W0.heap.size ≠ w.heap.size;omega)).trans hD)
  refine ⟨by simp,.inl ⟨_,_,rfl,run_takeDeferred hD2,?_⟩⟩
  have hc2:=(Zaq (Zaq H5.out (x:=.slice a1 n c1)).1 (x:=.slice a2 n c2)).2
  have hc3:=(World.putObj_heap_other (w:=(A.setCell ⟨w.heap.size,0,none⟩ (.slice a1 n c1)).setCell ⟨w.heap.size,1,none⟩ (.slice a2 n c2)) (o:=.deferred none) (by omega:w.heap.size ≠ W0.heap.size)).trans hc2
  obtain ⟨s1,s2,_,_⟩:=Zae hc3
  generalize hWf:((A.setCell ⟨w.heap.size,0,none⟩ (.slice a1 n c1)).setCell ⟨w.heap.size,1,none⟩ (.slice a2 n c2)).putObj W0.heap.size (.deferred none) = Wf at *
  refine ⟨.agg #[.slice a1 n c1,.slice a2 n c2],by simp [results,Tryz.results79,s1,s2,go_sem],a1,c1,a2,c2,rfl,?_,?_,?_⟩
  all_goals rw [<- hWf]
  ·have hne:∀ g,a1 = some ⟨g,0,none⟩ -> w.heap.size ≠ g:=fun g hg=>by
    rcases h2.form with ⟨h,_⟩ | ⟨g',h,hh,_⟩ <;> rw [h] at hg <;> cases hg
    omega
   exact (OwnN.put (OwnN.other (OwnN.other h2 (p:=⟨w.heap.size,0,none⟩) hne _) (p:=⟨w.heap.size,1,none⟩) hne _) hD2 rfl _).mono (by omega)
  ·have hne:∀ g,a2 = some ⟨g,0,none⟩ -> w.heap.size ≠ g:=fun g hg=>by
    rcases h3.form with ⟨h,_⟩ | ⟨g',h,hh,_⟩ <;> rw [h] at hg <;> cases hg
    omega
   exact (OwnN.put (OwnN.other (OwnN.other h3 (p:=⟨w.heap.size,0,none⟩) hne _) (p:=⟨w.heap.size,1,none⟩) hne _) hD2 rfl _).mono (by omega)
  ·refine H6.out.low rfl rfl rfl (by simp [World.setCell]) (fun k hk=>?_)
   rw [World.putObj_heap_other (by omega),Below.heap_setCell _ _ _ _ (by show k ≠ w.heap.size;omega),Below.heap_setCell _ _ _ _ (by show k ≠ w.heap.size;omega)]
end Go.Proofs.YtendielanacflaaGreat

namespace Go.Proofs.YtendielanacflaaGreat
open Go.RowKit Go.Shelf M08
theorem belDN {B:Nat} {w w':World} (h:Below B w w') (q:Nat):Below B w (w'.drewN q):=⟨h.os,h.tape,h.output,h.size,h.block⟩
theorem RowN.drewN {k:IntKind} {w:World} {a:Option Addr} {cap:Nat} {l:List Nat} (h:RowN k w a cap l) (q:Nat):RowN k (w.drewN q) a cap l:=h
set_option maxHeartbeats 800000 in
theorem Zabv (B:Nat) (w:World) (a1:Option Addr) (c1:Nat) (S2:Value) (L:List Nat) (n i:Nat) (hc:w.heap[B]? = some (.cells #[.slice a1 L.length c1,S2] 133 (0,0))) (hn:w.heap[B + 1]? = some (.cells #[.int .i64 n] 3 (0,0)))
  (hr:RowN .i64 w a1 c1 L) (hi:i < L.length) :
  Calls Tryz.prog 117 (#[.int .i64 i] ++ #[.pointer (some ⟨B,0,none⟩),.pointer (some ⟨B + 1,0,none⟩)]) w fun e w'=>e = .returned (.bool (decide (n < L.getD i 0))) /\ ∃ q,w' = w.drewN q:=by
 show Calls Tryz.prog 117 #[.int .i64 i,.pointer (some ⟨B,0,none⟩),.pointer (some ⟨B + 1,0,none⟩)] w _
 have hlen:=hr.len
 obtain ⟨b,off,rfl,hb,hck⟩:=hr.at hi
 have q1:=(Zae hc).1
 have q2:=cell_of_one hn
 have hg:L.getD i 0 = L[i]:=by simp [hi]
 rw [hg]
 clear hg hc hn hr
 generalize L[i] = x at *
 have h1:(0:Int) <= (i:Int):=by omega
 have h2:(i:Int) < (L.length:Int):=by omega
 generalize L.length = N at *
 go_enter Tryz.func117,Tryz.ntmps117
 go_wp2
 go_quiet (fail)
 go_wp2
 go_ret
 exact ⟨Zbs (by simp),_,rfl⟩
set_option maxHeartbeats 1600000 in
theorem Zli (w:World) (a1 a2:Option Addr) (c1 c2:Nat) (L B:List Nat) (n:Nat) (hlb:B.length = L.length) (h0:0 < L.length) (h1000:L.length <= 1000) (hup:Up L) (hn:L.getD 0 0 <= n) (hn2:n <= 1000000)
  (hr1:RowN .i64 w a1 c1 L) (hr2:RowN .i64 w a2 c2 B) :
  Calls Tryz.prog 81 #[.agg #[.slice a1 L.length c1,.slice a2 L.length c2],.int .i64 n] w fun e w' =>
   e = .returned (.tuple #[.int .i64 (lastLe L n:Nat),.int .i64 (B.getD (lastLe L n) 0:Nat),.int .i64 ((n - L.getD (lastLe L n) 0:Nat):Int)]) /\ Below w.heap.size w w':=by
 have hmf:∀ (fn:Fn) (first cap:Array Value) (w:World),(Instr.makeFunc fn first cap).run Tryz.prog w = .ok (.func fn first cap) w:=fun _ _ _ _=>rfl
 have hb:Below w.heap.size w ((w.alloc (.cells #[.slice a1 L.length c1,.slice a2 L.length c2] 133)).alloc (.cells #[.int .i64 n] 3)):=((Below.refl _ _).alloc (Nat.le_refl _) _).alloc (by simp) _
 have k1:=hr1.below hb
 have k2:=hr2.below hb
 have e1:((w.alloc (.cells #[.slice a1 L.length c1,.slice a2 L.length c2] 133)).alloc (.cells #[.int .i64 n] 3)).heap[w.heap.size]? = some (.cells #[.slice a1 L.length c1,.slice a2 L.length c2] 133 (0,0)):=by
  rw [Below.heap_alloc _ _ _ (by simp)];exact World.alloc_heap_new _ _
 have e2:((w.alloc (.cells #[.slice a1 L.length c1,.slice a2 L.length c2] 133)).alloc (.cells #[.int .i64 n] 3)).heap[w.heap.size + 1]? = some (.cells #[.int .i64 n] 3 (0,0)):=by
  have:=World.alloc_heap_new (w.alloc (.cells #[.slice a1 L.length c1,.slice a2 L.length c2] 133)) (.cells #[.int .i64 n] 3);rwa [World.size_alloc] at this
 have HS:=Zh (Zrr L.length 117 #[.pointer (some ⟨w.heap.size,0,none⟩),.pointer (some ⟨w.heap.size + 1,0,none⟩)] (fun i=>decide (n < L.getD i 0)) _ h1000 (enters_of Tryz.func117 (by kernel_rfl) rfl)
  (fun i q hi=>(Zabv w.heap.size (((w.alloc (.cells #[.slice a1 L.length c1,.slice a2 L.length c2] 133)).alloc (.cells #[.int .i64 n] 3)).drewN q) a1 c1 (.slice a2 L.length c2) L n i e1 e2 (k1.drewN q) hi).mono fun e w' ⟨h,q',hq⟩=>⟨h,q + q',by rw [hq];simp [World.drewN,Nat.add_assoc]⟩))
 obtain ⟨i1,i2⟩:=Zae e1
 have i3:=cell_of_one e2
 have HB:=Zh hb
 have HK1:=Zh k1
 have HK2:=Zh k2
 have HU:=Zh hup
 clear e1 e2 hb k1 k2 hup
 go_enter Tryz.func81,Tryz.ntmps81
 go_wp2_with (go_at_call 116;refine HS.out.mono ?_;rintro e w' ⟨k,q,rfl,rfl,hkN,hk0,hk1⟩;clear HS)
 obtain ⟨m,rfl⟩:∃ m,k = m + 1:=by
  cases k with
  | zero=>have:=hk1 h0;simp at this;simp at hn;omega
  | succ m=>exact ⟨m,rfl⟩
 have hm:lastLe L n = m:=by
  refine Ziz HU.out n m (by omega) ?_ (fun h=>?_)
  ·have:=hk0 (by omega)
   simpa using this
  ·have:=hk1 h
   simpa using this
 have hle:L.getD m 0 <= n:=by have:=hk0 (by omega);simpa using this
 obtain ⟨b1,o1,rfl,_,d1⟩:=HK1.out.at (i:=m) (by omega)
 obtain ⟨b2,o2,rfl,_,d2⟩:=HK2.out.at (i:=m) (by omega)
 have g1:L.getD m 0 = L[m]:=by simp [show m < L.length by omega]
 have g2:B.getD m 0 = B[m]:=by simp [show m < B.length by omega]
 rw [g1] at hle
 have hmi:((m + 1:Nat):Int) - 1 = (m:Int):=by omega
 have HR:Hid (Ending.returned (.tuple #[.int .i64 m,.int .i64 (B[m]:Nat),.int .i64 ((n:Int) - (L[m]:Nat))]) = Ending.returned (.tuple #[.int .i64 (lastLe L n:Nat),.int .i64 (B.getD (lastLe L n) 0:Nat),.int .i64 ((n - L.getD (lastLe L n) 0:Nat):Int)])):=by
  unfold Hid
  rw [hm,g1,g2,show ((n - L[m]:Nat):Int) = (n:Int) - (L[m]:Nat) from by omega]
 have z1:(0:Int) <= (m:Int):=by omega
 have z2:(m:Int) < (L.length:Int):=by omega
 have hmL:m < L.length:=by omega
 have hmB:m < B.length:=by omega
 have d1':_ = some (Value.int .i64 (L[m]'hmL:Nat)):=d1
 have d2':_ = some (Value.int .i64 (B[m]'hmB:Nat)):=d2
 have HR':Hid (Ending.returned (.tuple #[.int .i64 m,.int .i64 (B[m]'hmB:Nat),.int .i64 ((n:Int) - (L[m]'hmL:Nat))]) = _):=HR
 have hle':L[m]'hmL <= n:=hle
 clear d1 d2 HR hle
 clear HK1 HK2 hk0 hk1 hm g1 g2 hn HU hr1 hr2
 generalize L[m]'hmL = x at *
 generalize B[m]'hmB = y at *
 simp only [hmi]
 clear hmi
 go_wp2
 go_quiet (fail)
 go_wp2
 go_ret3
 exact ⟨HR'.out,belDN (belDN HB.out q) _⟩
theorem Zbk {fn:Func} {t u v x:Tmp} (h:fn.results = #[.tmp t,.tmp u,.tmp v,.tmp x]) (tmps:Array Value) (P:Program) (w:World) :
  (results fn tmps).run P w = .ok (.tuple #[tmps.getD t undef,tmps.getD u undef,tmps.getD v undef,tmps.getD x undef]) w:=by
 simp [results,h,go_sem]
structure ScaleOk (n none each least:Nat):Prop where
 n1:n <= 100
 n2:none <= 100
 e1:1 <= each
 e2:each <= 100
 bits:∀ i,i < n -> sbits none each i <= 20
 least:∀ i,i <= n -> sleast none each least i <= 1000000
theorem Zcq (n none each least:Nat) (w:World) (h:ScaleOk n none each least) :
  Calls Tryz.prog 79 #[.func (.func 115) #[] #[.pointer (some ⟨w.heap.size,0,.none⟩),.pointer (some ⟨w.heap.size + 1,0,.none⟩),.pointer (some ⟨w.heap.size + 1 + 1,0,.none⟩),.pointer (some ⟨w.heap.size + 1 + 1 + 1,0,.none⟩)]]
   ((((w.alloc (.cells #[.int .i64 n] 3)).alloc (.cells #[.int .i64 none] 3)).alloc (.cells #[.int .i64 each] 3)).alloc (.cells #[.int .i64 least] 3)) fun e w' =>
   ∃ a1 c1 a2 c2,e = .returned (.agg #[.slice a1 n c1,.slice a2 n c2]) /\ RowN .i64 w' a1 c1 (leasts n none each least) /\ RowN .i64 w' a2 c2 (bitss n none each) /\ Below w.heap.size w w':=by
 obtain ⟨hz,h1,h2,h3,h4,hb⟩:=alloc4 w (.cells #[.int .i64 n] 3) (.cells #[.int .i64 none] 3) (.cells #[.int .i64 each] 3) (.cells #[.int .i64 least] 3)
 generalize (((w.alloc (.cells #[.int .i64 n] 3)).alloc (.cells #[.int .i64 none] 3)).alloc (.cells #[.int .i64 each] 3)).alloc (.cells #[.int .i64 least] 3) = W at *
 refine (Znc 115 _ n (sleast none each least) (sbits none each) (scS w.heap.size) (fun b=>b = w.heap.size + 1 + 1 + 1) W (by have:=h.n1;omega) (enters_of Tryz.func115 (by kernel_rfl) rfl)
  (Zpe n none each least w.heap.size W h.n1 h.n2 h.e1 h.e2 h.bits h.least h1 h2 h3 h4) ?_ (fun b hb=>by omega)).mono ?_
 ·rintro b (rfl | rfl | rfl | rfl) <;> omega
 ·rintro e w' ⟨a1,c1,a2,c2,rfl,o1,o2,ho⟩
  exact ⟨a1,c1,a2,c2,rfl,o1.row,o2.row,Below.only hb ho (by omega) (fun b hb=>by omega)⟩
theorem Zafc:ScaleOk 28 8 4 3:=⟨by decide,by decide,by decide,by decide,by decide,by decide⟩
theorem Zyl:ScaleOk 30 4 2 1:=⟨by decide,by decide,by decide,by decide,by decide,by decide⟩
theorem bits28:∀ k,k < 28 -> (bitss 28 8 4).getD k 0 = lbits (257 + k) /\ (leasts 28 8 4 3).getD k 0 = lensL.getD k 0:=by decide
theorem bits30:∀ k,k < 30 -> (bitss 30 4 2).getD k 0 = dbits k /\ (leasts 30 4 2 1).getD k 0 = distL.getD k 0:=by decide
set_option maxHeartbeats 800000 in
theorem Zpv (n:Nat) (w:World) (h3:3 <= n) (h258:n <= 258) :
  Calls Tryz.prog 43 #[.int .i64 n] w fun e w' =>
   e = .returned (.tuple #[.int .i64 (257 + lk n:Nat),.int .i64 (lbits (257 + lk n):Nat),.int .i64 ((n - lensL.getD (lk n) 0:Nat):Int),.int .i64 0]) /\ Below w.heap.size w w':=by
 by_cases h:n = 258
 ·subst h
  go_enter Tryz.func43,Tryz.ntmps43
  go_wp2_with fail
  refine bodyPost_ret (Zbk rfl _ _ _) rfl ?_
  exact ⟨by rw [Zaig];rfl,Below.refl _ _⟩
 ·obtain ⟨hk,hke⟩:=Zais h3 (by omega:n < 258)
  have hb:((n:Int) == 258) = false:=by simp;omega
  have hl:lastLe (leasts 28 8 4 3) n = lk n:=by rw [hke,Zqx]
  obtain ⟨g1,g2⟩:=bits28 _ hk
  have HP:((257 + lk n:Nat):Int) = 257 + ((lk n:Nat):Int):=by simp
  rw [HP]
  clear hke h HP
  generalize lk n = k at *
  obtain ⟨bb,hbb⟩:∃ bb,lbits (257 + k) = bb:=⟨_,rfl⟩
  obtain ⟨xx,hxx⟩:∃ xx,n - lensL.getD k 0 = xx:=⟨_,rfl⟩
  rw [hbb,hxx]
  have G:=Zh (show lastLe (leasts 28 8 4 3) n = k /\ (bitss 28 8 4).getD k 0 = bb /\ n - (leasts 28 8 4 3).getD k 0 = xx from ⟨hl,g1.trans hbb,by rw [g2];exact hxx⟩)
  clear hl g1 g2 hbb hxx
  have hS:=Zh (Zcq 28 8 4 3 w Zafc)
  go_enter Tryz.func43,Tryz.ntmps43
  go_wp2_with (first | (go_at_call 80;refine (Zei 28 8 4 3 _).mono ?_;rintro e w' ⟨rfl,rfl⟩) | (go_at_call 79;refine hS.out.mono ?_;rintro e w' ⟨a1,c1,a2,c2,rfl,r1,r2,hbw⟩))
  refine (Zli w' a1 a2 c1 c2 (leasts 28 8 4 3) (bitss 28 8 4) n rfl (by decide) (by decide) (by decide) (show 3 <= n from h3) (by omega) r1 r2).mono ?_
  rintro e w3 ⟨rfl,hb3⟩
  rw [G.out.1,G.out.2.1,G.out.2.2]
  have hB:Below w.heap.size w w3:=hbw.trans (hb3.mono hbw.size)
  clear G hS hbw hb3 r1 r2
  go_wp2
  refine bodyPost_ret (Zbk rfl _ _ _) rfl ?_
  exact ⟨rfl,hB⟩
set_option maxHeartbeats 800000 in
theorem Zkf (n:Nat) (w:World) (h1:1 <= n) (h2:n <= 32768) :
  Calls Tryz.prog 44 #[.int .i64 n] w fun e w' =>
   e = .returned (.tuple #[.int .i64 (dk n:Nat),.int .i64 (dbits (dk n):Nat),.int .i64 ((n - distL.getD (dk n) 0:Nat):Int),.int .i64 0]) /\ Below w.heap.size w w':=by
 have hk:=Zxf n
 have hl:lastLe (leasts 30 4 2 1) n = dk n:=by rw [Zqi];rfl
 obtain ⟨g1,g2⟩:=bits30 _ hk
 generalize dk n = k at *
 obtain ⟨bb,hbb⟩:∃ bb,dbits k = bb:=⟨_,rfl⟩
 obtain ⟨xx,hxx⟩:∃ xx,n - distL.getD k 0 = xx:=⟨_,rfl⟩
 rw [hbb,hxx]
 have G:=Zh (show lastLe (leasts 30 4 2 1) n = k /\ (bitss 30 4 2).getD k 0 = bb /\ n - (leasts 30 4 2 1).getD k 0 = xx from ⟨hl,g1.trans hbb,by rw [g2];exact hxx⟩)
 clear hl g1 g2 hbb hxx
 have hS:=Zh (Zcq 30 4 2 1 w Zyl)
 go_enter Tryz.func44,Tryz.ntmps44
 go_wp2_with (first | (go_at_call 80;refine (Zei 30 4 2 1 _).mono ?_;rintro e w' ⟨rfl,rfl⟩) | (go_at_call 79;refine hS.out.mono ?_;rintro e w' ⟨a1,c1,a2,c2,rfl,r1,r2,hbw⟩))
 refine (Zli w' a1 a2 c1 c2 (leasts 30 4 2 1) (bitss 30 4 2) n rfl (by decide) (by decide) (by decide) (show 1 <= n from h1) (by omega) r1 r2).mono ?_
 rintro e w3 ⟨rfl,hb3⟩
 rw [G.out.1,G.out.2.1,G.out.2.2]
 have hB:Below w.heap.size w w3:=hbw.trans (hb3.mono hbw.size)
 clear G hS hbw hb3 r1 r2
 go_wp2
 refine bodyPost_ret (Zbk rfl _ _ _) rfl ?_
 exact ⟨rfl,hB⟩
theorem Zjv (n:Int) (w:World) (h:n < 3 \/ 258 < n) :
  Calls Tryz.prog 43 #[.int .i64 n] w fun e w'=>e = .returned (.tuple #[.int .i64 0,.int .i64 0,.int .i64 0,.int .i64 5]) /\ w = w':=by
 rcases h with h | h
 ·go_enter Tryz.func43,Tryz.ntmps43
  go_wp2_with fail
  refine bodyPost_ret (Zbk rfl _ _ _) rfl ?_
  exact ⟨rfl,rfl⟩
 ·have h':¬ n < 3:=by omega
  go_enter Tryz.func43,Tryz.ntmps43
  go_wp2_with fail
  refine bodyPost_ret (Zbk rfl _ _ _) rfl ?_
  exact ⟨rfl,rfl⟩
theorem Zhd (n:Int) (w:World) (h:n < 1 \/ 32768 < n) :
  Calls Tryz.prog 44 #[.int .i64 n] w fun e w'=>e = .returned (.tuple #[.int .i64 0,.int .i64 0,.int .i64 0,.int .i64 5]) /\ w = w':=by
 rcases h with h | h
 ·go_enter Tryz.func44,Tryz.ntmps44
  go_wp2_with fail
  refine bodyPost_ret (Zbk rfl _ _ _) rfl ?_
  exact ⟨rfl,rfl⟩
 ·have h':¬ n < 1:=by omega
  go_enter Tryz.func44,Tryz.ntmps44
  go_wp2_with fail
  refine bodyPost_ret (Zbk rfl _ _ _) rfl ?_
  exact ⟨rfl,rfl⟩
end Go.Proofs.YtendielanacflaaGreat

namespace Go.Proofs.YtendielanacflaaGreat.M17
open M08
structure Tok where
 len:Int
 dist:Int
 byte:Nat
def tokOk (t:Tok):Prop:=if t.len = 0 then t.dist = 0 else t.byte = 0 /\ 3 <= t.len /\ t.len <= 258 /\ 1 <= t.dist /\ t.dist <= 32768
instance (t:Tok):Decidable (tokOk t):=by unfold tokOk;split <;> infer_instance
structure URow where
 far:Bool
 sym:Nat
 bits:Nat
 err:Nat
deriving DecidableEq
def tokU (t:Tok):List URow :=
 if t.len = 0 then [⟨false,t.byte,0,if t.dist = 0 then 0 else 5⟩]
 else if tokOk t then [⟨false,257 + lk t.len.toNat,lbits (257 + lk t.len.toNat),0⟩,⟨true,dk t.dist.toNat,dbits (dk t.dist.toNat),0⟩]
 else [⟨false,if 3 <= t.len /\ t.len <= 258 then 257 + lk t.len.toNat else 0,if 3 <= t.len /\ t.len <= 258 then lbits (257 + lk t.len.toNat) else 0,5⟩]
def endU:URow:=⟨false,256,0,0⟩
def useU:List Tok -> List URow
 | []=>[endU]
 | t :: l=>if tokOk t then tokU t ++ useU l else tokU t
theorem Zhe (l:List Tok) (h:∀ t ∈ l,tokOk t):useU l = l.flatMap tokU ++ [endU]:=by
 induction l with
 | nil=>rfl
 | cons t l ih=>simp only [useU,if_pos (h t (by simp)),List.flatMap_cons,List.append_assoc,ih fun t ht=>h t (by simp [ht])]
theorem Zvw (l:List Tok) (k:Nat) (h:∀ t ∈ l.take k,tokOk t):useU l = (l.take k).flatMap tokU ++ useU (l.drop k):=by
 induction l generalizing k with
 | nil=>simp
 | cons t l ih =>
  cases k with
  | zero=>simp
  | succ k =>
   simp only [List.take_succ_cons,List.drop_succ_cons,List.flatMap_cons,List.append_assoc]
   rw [<- ih k fun t ht=>h t (by simp [ht])]
   simp only [useU,if_pos (h t (by simp))]
theorem Zaap (l:List Tok) (k:Nat) (hk:k < l.length) (h:∀ t ∈ l.take k,tokOk t) :
  useU l = (l.take k).flatMap tokU ++ (if tokOk l[k] then tokU l[k] ++ useU (l.drop (k + 1)) else tokU l[k]):=by
 rw [Zvw l k h,List.drop_eq_getElem_cons hk];rfl
def lensOf (f o:List Nat) (r:URow):Nat:=(if r.far then o else f).getD r.sym 0
def symU (f o:List Nat):List URow -> Nat -> Option Nat
 | [],n=>some n
 | r :: rs,n=>if r.err ≠ 0 \/ lensOf f o r = 0 then none else symU f o rs (n + (lensOf f o r + r.bits))
def sumL (g:URow -> Nat):List URow -> Nat
 | []=>0
 | r :: rs=>g r + sumL g rs
theorem Zjt (g:URow -> Nat) (a b:List URow):sumL g (a ++ b) = sumL g a + sumL g b:=by
 induction a with
 | nil=>simp [sumL]
 | cons r a ih=>simp only [List.cons_append,sumL,ih];omega
theorem Zaad (f o:List Nat) (R:List URow):∀ n,(∀ r ∈ R,r.err = 0) -> symU f o R n = if ∀ r ∈ R,lensOf f o r ≠ 0 then some (n + sumL (fun r=>lensOf f o r + r.bits) R) else none:=by
 induction R with
 | nil=>intro n _;simp [symU,sumL]
 | cons r R ih =>
  intro n he
  have h0:=he r (by simp)
  simp only [symU,sumL]
  by_cases hl:lensOf f o r = 0
  ·rw [if_pos (.inr hl),if_neg]
   intro h;exact h r (by simp) hl
  ·rw [if_neg (by simp [h0,hl]),ih _ fun r hr=>he r (by simp [hr])]
   by_cases ha:∀ r ∈ R,lensOf f o r ≠ 0
   ·rw [if_pos ha,if_pos]
    ·congr 1;omega
    ·intro x hx
     rcases List.mem_cons.1 hx with rfl | hx
     ·exact hl
     ·exact ha x hx
   ·rw [if_neg ha,if_neg]
    exact fun h=>ha fun x hx=>h x (by simp [hx])
theorem Zaek (t:Tok) (h:tokOk t):∀ r ∈ tokU t,r.err = 0:=by
 intro r hr
 unfold tokU at hr
 by_cases h0:t.len = 0
 ·rw [if_pos h0] at hr
  have:t.dist = 0:=by unfold tokOk at h;rwa [if_pos h0] at h
  simp [this] at hr;subst hr;rfl
 ·rw [if_neg h0,if_pos h] at hr
  simp at hr
  rcases hr with rfl | rfl <;> rfl
theorem Znb (t:Tok) (h:¬ tokOk t):∃ r,tokU t = [r] /\ r.err = 5:=by
 unfold tokU
 by_cases h0:t.len = 0
 ·rw [if_pos h0]
  have:¬ t.dist = 0:=by unfold tokOk at h;rwa [if_pos h0] at h
  exact ⟨_,rfl,by simp [this]⟩
 ·rw [if_neg h0,if_neg h];exact ⟨_,rfl,rfl⟩
theorem Zaep (l:List Tok) (h:∃ t ∈ l,¬ tokOk t):∃ r ∈ useU l,r.err ≠ 0:=by
 induction l with
 | nil=>obtain ⟨t,ht,_⟩:=h;cases ht
 | cons t l ih =>
  simp only [useU]
  by_cases ht:tokOk t
  ·rw [if_pos ht]
   obtain ⟨x,hx,hxn⟩:=h
   rcases List.mem_cons.1 hx with rfl | hx
   ·exact absurd ht hxn
   ·obtain ⟨r,hr,h2⟩:=ih ⟨x,hx,hxn⟩
    exact ⟨r,by simp [hr],h2⟩
  ·rw [if_neg ht]
   obtain ⟨r,hr,h2⟩:=Znb t ht
   exact ⟨r,by simp [hr],by omega⟩
def cnt (R:List URow) (far:Bool) (s:Nat):Nat:=R.countP fun r=>r.far == far && r.sym == s
theorem Zim (R:List URow) (far:Bool) (s:Nat):cnt R far s <= R.length:=List.countP_le_length
def S (f:Nat -> Nat):Nat -> Nat
 | 0=>0
 | n + 1=>S f n + f n
theorem Zlo {f g:Nat -> Nat} {n:Nat} (h:∀ i,i < n -> f i = g i):S f n = S g n:=by
 induction n with
 | zero=>rfl
 | succ n ih=>simp only [S];rw [ih fun i hi=>h i (by omega),h n (by omega)]
theorem Zahv (g:Nat -> Nat) (s n:Nat):S (fun i=>if s = i then g i else 0) n = if s < n then g s else 0:=by
 induction n with
 | zero=>simp [S]
 | succ n ih =>
  simp only [S,ih]
  by_cases h1:s < n
  ·simp [h1,show s < n + 1 by omega,show s ≠ n by omega]
  ·by_cases h2:s = n
   ·subst h2;simp
   ·simp [h1,h2,show ¬ s < n + 1 by omega]
def rowOk (r:URow):Prop:=r.err = 0 /\ r.bits = (if r.far then dbits r.sym else lbits r.sym) /\ r.sym < (if r.far then 30 else 286)
theorem Zwj (b:Nat) (h:b <= 256):lbits b = 0:=by unfold lbits;rw [if_pos (by omega)]
theorem Zsa (t:Tok) (h:tokOk t) (hb:t.byte < 256):∀ r ∈ tokU t,rowOk r:=by
 intro r hr
 unfold tokU at hr
 by_cases h0:t.len = 0
 ·rw [if_pos h0] at hr
  have:t.dist = 0:=by unfold tokOk at h;rwa [if_pos h0] at h
  simp [this] at hr;subst hr
  exact ⟨rfl,by simp [Zwj _ (Nat.le_of_lt hb)],by simp;omega⟩
 ·rw [if_neg h0,if_pos h] at hr
  unfold tokOk at h
  rw [if_neg h0] at h
  have hl:lk t.len.toNat < 29:=Zfu _ (by decide)
  have hd:=Zxf t.dist.toNat
  simp at hr
  rcases hr with rfl | rfl
  ·exact ⟨rfl,rfl,by simp;omega⟩
  ·exact ⟨rfl,rfl,by simpa using hd⟩
theorem Zde (l:List Tok) (h:∀ t ∈ l,tokOk t) (hb:∀ t ∈ l,t.byte < 256):∀ r ∈ useU l,rowOk r:=by
 rw [Zhe l h]
 intro r hr
 rcases List.mem_append.1 hr with hr | hr
 ·obtain ⟨t,ht,hrt⟩:=List.mem_flatMap.1 hr
  exact Zsa t (h t ht) (hb t ht) r hrt
 ·simp at hr;subst hr;exact ⟨rfl,by decide,by decide⟩
theorem S_le (g:Nat -> Nat) (k:Nat) (h:∀ i,g i <= k):∀ n,S g n <= n * k:=by
 intro n
 induction n with
 | zero=>simp [S]
 | succ n ih=>simp only [S];have:=h n;rw [Nat.add_mul];omega
theorem Zej (l:List Tok):(useU l).length <= 2 * l.length + 1:=by
 have ht:∀ t,(tokU t).length <= 2:=by
  intro t
  unfold tokU
  split
  ·simp
  ·split <;> simp
 induction l with
 | nil=>simp [useU]
 | cons t l ih =>
  simp only [useU]
  have:=ht t
  split
  ·simp only [List.length_append,List.length_cons];omega
  ·simp only [List.length_cons];omega
theorem Zaef (f g o p:List Nat) (R:List URow):∀ n,(∀ r ∈ R,r.err = 0 -> lensOf f o r = lensOf g p r) -> symU f o R n = symU g p R n:=by
 induction R with
 | nil=>intro n _;rfl
 | cons r R ih =>
  intro n h
  simp only [symU]
  by_cases he:r.err = 0
  ·rw [h r (by simp) he,ih _ fun x hx=>h x (by simp [hx])]
  ·rw [if_pos (.inl he),if_pos (.inl he)]
theorem Ztr (f o:List Nat) (R Q:List URow):∀ n,symU f o (R ++ Q) n = (symU f o R n).bind fun m=>symU f o Q m:=by
 induction R with
 | nil=>intro n;rfl
 | cons r R ih =>
  intro n
  simp only [List.cons_append,symU]
  split
  ·rfl
  ·exact ih _
def symOut (f o:List Nat) (l:List Tok):Nat × Nat:=match symU f o (useU l) 0 with | some n=>(n,0) | none=>(0,5)
end Go.Proofs.YtendielanacflaaGreat.M17

namespace Go.Proofs.YtendielanacflaaGreat
open Go.RowKit
structure Enc (α:Type) where
 sz:Nat
 cells:α -> List Value
 len:∀ x,(cells x).length = sz
 one:∀ x,∀ u ∈ cells x,u.oneCell' = true
 pos:0 < sz
structure ElemS (P:Program) (T E:TypeId) {α:Type} (c:Enc α) (z:Value) (bytes:Nat):Prop where
 und:P.underlying T = some (.slice E)
 info:(P.info? E).map (fun i=>(i.zero,i.size,i.bytes)) = some (some z,c.sz,bytes)
 zs:z.cells.size = c.sz
def flat {α:Type} (c:Enc α) (l:List α):List Value:=l.flatMap c.cells
section
variable {α : Type} {c : Enc α}
theorem Zbw (l:List α):(flat c l).length = l.length * c.sz:=by
 induction l with
 | nil=>simp [flat]
 | cons a l ih=>simp only [flat,List.flatMap_cons,List.length_append,List.length_cons,c.len] at *;rw [ih,Nat.add_mul,Nat.one_mul,Nat.add_comm]
theorem Zdy (l m:List α):flat c (l ++ m) = flat c l ++ flat c m:=by simp [flat]
theorem Zsm (l:List α):∀ u ∈ flat c l,u.oneCell' = true:=by
 intro u hu
 simp only [flat,List.mem_flatMap] at hu
 obtain ⟨x,_,hx⟩:=hu
 exact c.one x u hx
theorem Zxm (l:List α) (i j:Nat) (hi:i < l.length) (hj:j < c.sz):(flat c l)[i * c.sz + j]? = (c.cells l[i])[j]?:=by
 induction l generalizing i with
 | nil=>simp at hi
 | cons a l ih =>
  simp only [flat,List.flatMap_cons] at *
  cases i with
  | zero=>simp only [Nat.zero_mul,Nat.zero_add,List.getElem_cons_zero];rw [List.getElem?_append_left (by rw [c.len];exact hj)]
  | succ i =>
   simp only [List.length_cons] at hi
   rw [List.getElem?_append_right (by rw [c.len,Nat.add_mul];omega),c.len]
   have:(i + 1) * c.sz + j - c.sz = i * c.sz + j:=by rw [Nat.add_mul];omega
   rw [this,ih i (by omega)]
   simp
end
def RowS {α:Type} (c:Enc α) (w:World) (a:Option Addr) (cap:Nat) (l:List α):Prop :=
 l.length <= cap /\ (cap <= 9223372036854775807 /\ (a = none -> cap = 0)) /\ (l = [] \/ ∃ b off,a = some ⟨b,off,none⟩ /\ b < w.heap.size /\ ∀ i v,(flat c l)[i]? = some v -> w.cell? ⟨b,off + i,none⟩ = some v)
section
variable {α : Type} {c : Enc α} {w w' : World} {a : Option Addr} {cap : Nat} {l : List α}
theorem RowS.len (h:RowS c w a cap l):l.length <= 9223372036854775807:=by have:=h.1;have:=h.2.1.1;omega
theorem RowS.at (h:RowS c w a cap l) {i:Nat} (hi:i < l.length) :
  ∃ b off,a = some ⟨b,off,none⟩ /\ b < w.heap.size /\ ∀ j v,(c.cells l[i])[j]? = some v -> w.cell? ⟨b,off + (i * c.sz + j),none⟩ = some v:=by
 obtain ⟨_,_,rfl | ⟨b,off,rfl,hb,hc⟩⟩:=h
 ·simp at hi
 ·refine ⟨b,off,rfl,hb,fun j v hv=>hc _ v ?_⟩
  have hj:j < c.sz:=by have:=(List.getElem?_eq_some_iff.1 hv).1;rw [c.len] at this;exact this
  rw [Zxm l i j hi hj];exact hv
theorem RowS.same (h:RowS c w a cap l) (hs:w.heap.size <= w'.heap.size) (hb:∀ x,0 < l.length -> a = some x -> w'.heap[x.block]? = w.heap[x.block]?):RowS c w' a cap l:=by
 obtain ⟨h1,h2,h3⟩:=h
 refine ⟨h1,h2,?_⟩
 rcases h3 with h3 | ⟨b,off,rfl,hb',hc⟩
 ·exact .inl h3
 ·by_cases h0:l = []
  ·exact .inl h0
  ·exact .inr ⟨b,off,rfl,by omega,fun i v hv=>(World.cell?_of_block (a:=⟨b,off + i,none⟩) (hb ⟨b,off,none⟩ (List.length_pos_iff.2 h0) rfl)).trans (hc i v hv)⟩
theorem RowS.below (h:RowS c w a cap l) (hb:Below w.heap.size w w'):RowS c w' a cap l:=by
 obtain ⟨h1,h2,h3⟩:=h
 refine ⟨h1,h2,?_⟩
 rcases h3 with h3 | ⟨b,off,ha,hb',hc⟩
 ·exact .inl h3
 ·exact .inr ⟨b,off,ha,Nat.lt_of_lt_of_le hb' hb.size,fun i v hv=>(hb.cell (p:=⟨b,off + i,none⟩) hb').trans (hc i v hv)⟩
theorem RowS.drewN (h:RowS c w a cap l) (n:Nat):RowS c (w.drewN n) a cap l:=h
theorem RowS.nil (c:Enc α) (w:World):RowS c w none 0 []:=⟨by simp,by simp,.inl rfl⟩
theorem RowS.lit (c:Enc α) (w:World) (l:List α) (E:TypeId) (cs:Array Value) (B:Nat) (hB:B = w.heap.size) (hc:cs = (flat c l).toArray) (hl:l.length <= 9223372036854775807) :
  RowS c (w.alloc (.cells cs E)) (some ⟨B,0,none⟩) l.length l:=by
 subst hc hB
 refine ⟨Nat.le_refl _,⟨hl,fun hn=>by cases hn⟩,.inr ⟨w.heap.size,0,rfl,by simp,fun i v hv=>?_⟩⟩
 rw [Nat.zero_add,World.cell?_alloc_at _ _ _ _ rfl]
 simpa using hv
end
def OwnS {α:Type} (c:Enc α) (E:TypeId) (w:World) (base:Nat) (a:Option Addr) (cap:Nat) (l:List α):Prop :=
 w.ownsRow base E c.sz (.slice a l.length cap) l.length (flat c l)
section
variable {α : Type} {c : Enc α} {E : TypeId} {w w' : World} {base cap : Nat} {a : Option Addr} {l : List α}
theorem OwnS.nil (c:Enc α) (E:TypeId) (w:World) (base:Nat):OwnS c E w base none 0 []:=World.ownsRow_nil w base E c.sz
theorem OwnS.lit0 (c:Enc α) (E:TypeId) (w:World) (base:Nat) (hb:base <= w.heap.size):OwnS c E (w.alloc (.cells #[] E)) base (some ⟨w.heap.size,0,none⟩) 0 [] :=
 World.ownsRow_made w #[] 0 hb (by decide) (by simp)
theorem OwnS.form (h:OwnS c E w base a cap l):(a = none /\ cap = 0 /\ l = []) \/ ∃ g,a = some ⟨g,0,none⟩ /\ base <= g /\ g < w.heap.size:=by
 rcases h.2 with ⟨h1,h2⟩ | ⟨g,cc,cur,h1,h2,h3,_⟩
 ·simp only [Value.slice.injEq] at h1
  exact .inl ⟨h1.1,h1.2.2,List.eq_nil_of_length_eq_zero h2⟩
 ·simp only [Value.slice.injEq] at h1
  exact .inr ⟨g,h1.1,h2,(Array.getElem?_eq_some_iff.1 h3).1⟩
theorem OwnS.caps (h:OwnS c E w base a cap l):l.length <= cap /\ cap <= 9223372036854775807:=by
 rcases h.2 with ⟨h1,h2⟩ | ⟨g,cc,cur,h1,h2,h3,h4,h5,_⟩
 ·simp only [Value.slice.injEq] at h1
  omega
 ·simp only [Value.slice.injEq] at h1
  obtain ⟨_,_,rfl⟩:=h1
  exact ⟨h4,by simpa [maxLen] using h5⟩
theorem OwnS.row (h:OwnS c E w base a cap l):RowS c w a cap l:=by
 refine ⟨h.caps.1,⟨h.caps.2,fun hn=>by rcases h.form with ⟨_,h1,_⟩ | ⟨g,h1,_⟩ <;> simp_all⟩,?_⟩
 rcases h.form with ⟨_,_,rfl⟩ | ⟨g,rfl,hb,hg⟩
 ·exact .inl rfl
 ·refine .inr ⟨g,0,rfl,hg,fun i v hv=>?_⟩
  have hi:i < l.length * c.sz:=by have:=(List.getElem?_eq_some_iff.1 hv).1;rwa [Zbw] at this
  rw [Nat.zero_add,World.ownsRow.cellAt h i hi];exact hv
theorem OwnS.kept {row:Option Nat} (h:OwnS c E w base a cap l) (hg:w.grownBy w' row) (hr:∀ g,a = some ⟨g,0,none⟩ -> row ≠ some g):OwnS c E w' base a cap l:=by
 refine World.ownsRow.kept h hg ?_
 rcases h.form with ⟨rfl,_,_⟩ | ⟨g,rfl,hb,hgg⟩
 ·exact .inl rfl
 ·exact .inr fun e=>hr g rfl e.symm
theorem OwnS.below (h:OwnS c E w base a cap l) (hb:Below w.heap.size w w'):OwnS c E w' base a cap l :=
 h.kept (row:=none) ⟨hb.os,hb.tape,hb.output,hb.size,fun k hk _=>hb.block k hk⟩ (fun _ _ e=>by cases e)
theorem OwnS.alloc (h:OwnS c E w base a cap l) (o:Obj):OwnS c E (w.alloc o) base a cap l:=World.ownsRow.alloc h o
theorem OwnS.other (h:OwnS c E w base a cap l) {p:Addr} (hp:∀ g,a = some ⟨g,0,none⟩ -> p.block ≠ g) (u:Value):OwnS c E (w.setCell p u) base a cap l:=by
 refine ownsRow_setCell_other h ?_ u
 rcases h.form with ⟨rfl,_,_⟩ | ⟨g,rfl,hb,hgg⟩
 ·simp [Value.ownBlock]
 ·simp only [Value.ownBlock,ne_eq,Option.some.injEq]
  exact fun e=>hp g rfl e.symm
theorem OwnS.mono (h:OwnS c E w base a cap l) {b:Nat} (hb:b <= base):OwnS c E w b a cap l:=by
 refine ⟨h.1,?_⟩
 rcases h.2 with h2 | ⟨g,cc,cur,h1,h2,h3⟩
 ·exact .inl h2
 ·exact .inr ⟨g,cc,cur,h1,by omega,h3⟩
end
section
variable {P : Program} {T E : TypeId} {α : Type} {cc : Enc α} {z : Value} {bytes : Nat}
theorem appAnyS (et:ElemS P T E cc z bytes) {w:World} {ops:Array Oper} {rest:List Oper} {o:Oper} {ac:Act} {Q:Exit -> Act -> World -> Prop} (hgd:o.guard = none) (s x:Operand)
  (ho:o.op = .call { callee:=.builtin .append,args:=#[s,x],argTypes:=#[T,T] }) {base:Nat} {a:Option Addr} {cap m c:Nat} {l ys:List α}
  (hs:ac.eval s = .slice a l.length cap) (hown:OwnS cc E w base a cap l) {b:Option Addr} (hm:m = ys.length) (hx:ac.eval x = .slice b m c) (hy:RowS cc w b c ys)
  (hn:l.length + m <= 9223372036854775807) (hbytes:(l.length + m) * bytes <= 140737488355328) (hbase:base <= w.heap.size)
  (h:∀ a' cap' w',OwnS cc E w' base a' cap' (l ++ ys) -> w.grownBy w' (Value.slice a l.length cap).ownBlock -> Below base w w' -> wpList P ops Q rest (ac.put o.dst (.slice a' (l.length + m) cap')) w') :
  wpList P ops Q (o :: rest) ac w:=by
 subst hm
 obtain ⟨i,h2,h3,h4,h5⟩:=info_parts et.info
 refine wpList_plain (by assumption) fun K hK'=>?_
 by_cases hb:b = none
 ·subst hb
  obtain rfl:c = 0:=hy.2.1.2 rfl
  obtain rfl:ys = []:=List.eq_nil_of_length_eq_zero (by have:=hy.1;omega)
  have hr:=run_append_owned_none (P:=P) w base T o.type E i cc.sz et.und h2 _ l.length _ hown
  unfold Oper.wp
  simp [execOp,ho,resolve,invoke,builtin,hs,hx,hr,Result.andThen]
  exact hK' _ _ (by simpa using h a cap w (by simpa using hown) (World.grownBy.refl _ _) (Below.refl _ _))
 ·obtain ⟨ad,rfl⟩:=Option.ne_none_iff_exists'.1 hb
  have hcl:∀ j u,(flat cc ys)[j]? = some u -> w.cell? (ad.add j) = some u:=by
   intro j u hu
   obtain ⟨_,_,rfl | ⟨b',off,he,_,hc⟩⟩:=hy
   ·simp [flat] at hu
   ·cases he
    have:=hc j u hu
    unfold Addr.add
    split
    ·simp_all
    ·exact this
  obtain ⟨v',w',hr,h6,h7,h8⟩:=run_append_own (P:=P) w base T o.type E i z cc.sz bytes et.und h2 h3 h4 h5 et.zs cc.pos _ l.length _ hown ad ys.length c (flat cc ys) (Zbw _)
   hcl (Zsm _) (by simpa [maxLen] using hn) hbytes hbase
  have hv:∃ a' cap',v' = .slice a' (l.length + ys.length) cap':=by
   rcases h6.2 with ⟨h9,h10⟩ | ⟨g,c',cur,h9,_⟩
   ·exact ⟨none,0,by rw [h9,h10]⟩
   ·exact ⟨_,_,h9⟩
  obtain ⟨a',cap',rfl⟩:=hv
  have hown':OwnS cc E w' base a' cap' (l ++ ys):=by
   unfold OwnS;rw [List.length_append,Zdy];exact h6
  have hbel:Below base w w':=Below.of_grown h7 hbase (by
   intro g hg
   exact (World.ownsRow.lt hown g hg).1)
  unfold Oper.wp
  simp [execOp,ho,resolve,invoke,builtin,hs,hx,hr,Result.andThen]
  exact hK' _ _ (h a' cap' w' hown' h7 hbel)
theorem app1S (et:ElemS P T E cc z bytes) {w:World} {ops:Array Oper} {rest:List Oper} {o:Oper} {ac:Act} {Q:Exit -> Act -> World -> Prop} (hgd:o.guard = none) (s x:Operand)
  (ho:o.op = .call { callee:=.builtin .append,args:=#[s,x],argTypes:=#[T,T] }) {base:Nat} {a:Option Addr} {cap:Nat} {l:List α} (y:α) {cs:Array Value} {c E':Nat}
  (hs:ac.eval s = .slice a l.length cap) (hown:OwnS cc E w base a cap l) (hx:ac.eval x = .slice (some ⟨w.heap.size,0,none⟩) 1 c) (hcs:cs = (cc.cells y).toArray) (hc:1 <= c) (hc':c <= 9223372036854775807)
  (hn:l.length + 1 <= 9223372036854775807) (hbytes:(l.length + 1) * bytes <= 140737488355328) (hbase:base <= w.heap.size)
  (h:∀ a' cap' w',OwnS cc E w' base a' cap' (l ++ [y]) -> w.grownBy w' (Value.slice a l.length cap).ownBlock -> Below base w w' -> wpList P ops Q rest (ac.put o.dst (.slice a' (l.length + 1) cap')) w') :
  wpList P ops Q (o :: rest) ac (w.alloc (.cells cs E')):=by
 refine appAnyS et hgd s x ho hs (hown.alloc _) (ys:=[y]) rfl hx ?_ hn hbytes (by simp;omega) ?_
 ·subst hcs
  have:=RowS.lit cc w [y] E' ((cc.cells y).toArray) w.heap.size rfl (by simp [flat]) (by simp)
  exact ⟨by simpa using hc,⟨hc',fun hn=>by cases hn⟩,this.2.2⟩
 ·intro a' cap' w' h1 h2 h3
  refine h a' cap' w' h1 ⟨h2.os,h2.tape,h2.output,Nat.le_trans (by simp) h2.size,fun q hq hr=>(h2.block q (by simp;omega) hr).trans (Below.heap_alloc _ _ _ hq)⟩ (((Below.refl base w).alloc hbase _).trans h3)
end
end Go.Proofs.YtendielanacflaaGreat

namespace Go.Proofs.YtendielanacflaaGreat
open Go.RowKit Go.Shelf M08 M17
def encT:Enc Tok where
 sz:=3
 cells t:=[.int .i64 t.len,.int .i64 t.dist,.int .u8 (t.byte:Nat)]
 len _:=rfl
 one x u hu:=by
  simp only [List.mem_cons,List.not_mem_nil,or_false] at hu
  rcases hu with rfl | rfl | rfl <;> rfl
 pos:=by decide
def tokV (t:Tok):Value:=.agg #[.int .i64 t.len,.int .i64 t.dist,.int .u8 (t.byte:Nat)]
theorem evalC (a:Act) (v:Value):a.eval (.const v) = v:=rfl
theorem eqgA (t:TypeId) (x y:Operand) (u v:Value) (w:World):(eqGuard .add t x y u v).run Tryz.prog w = .ok () w:=by simp [eqGuard,go_sem]
theorem eqgS (t:TypeId) (x y:Operand) (u v:Value) (w:World):(eqGuard .sub t x y u v).run Tryz.prog w = .ok () w:=by simp [eqGuard,go_sem]
theorem addI (t:TypeId) (x y:Int) (w:World):(binOp .add t (.int .i64 x) (.int .i64 y):Sem Value).run Tryz.prog w = .ok (.int .i64 (IntKind.i64.wrap (x + y))) w:=by
 simp [binOp,Op.intArith,go_sem]
theorem subI (t:TypeId) (x y:Int) (w:World):(binOp .sub t (.int .i64 x) (.int .i64 y):Sem Value).run Tryz.prog w = .ok (.int .i64 (IntKind.i64.wrap (x - y))) w:=by
 simp [binOp,Op.intArith,go_sem]
theorem ixI (b k N c:Nat) (h:k < N) (w:World):(Instr.indexAt 88 (.slice (some ⟨b,0,none⟩) N c) (.int .i64 (k:Nat))).run Tryz.prog w = .ok (.pointer (some ⟨b,k,none⟩)) w:=by
 have h1:¬ N <= k:=by omega
 simp [Instr.indexAt,asIntOf,run_underlying Tryz.underlying88,h,go_sem]
theorem ldInt (p:Addr) (v:Value) (w:World) (h:w.cell? p = some v):(Instr.loadAt 3 (.pointer (some p))).run Tryz.prog w = .ok v w:=by
 simp [Instr.loadAt,Instr.sureAddr,loadVar,isAgg,run_underlying Tryz.underlying3,h,go_sem]
theorem Zqb {w:World} {b o:Nat} {v:Value} (h:w.cell? ⟨b,o,none⟩ = some v):b < w.heap.size:=by
 rcases Nat.lt_or_ge b w.heap.size with h' | h'
 ·exact h'
 ·simp [World.cell?,Array.getElem?_eq_none h'] at h
end Go.Proofs.YtendielanacflaaGreat

namespace Go.Proofs.YtendielanacflaaGreat.M04
def wt (n:Nat):Nat:=if n = 0 then 0 else 2 ^ (20 - n)
def weight (l:List Nat):Nat:=(l.map wt).sum
theorem Zaiv (n:Nat):wt n <= 2 ^ 20:=by
 unfold wt;split
 ·simp
 ·exact Nat.pow_le_pow_right (by simp) (by omega)
theorem Zaat (l:List Nat):weight l <= l.length * 2 ^ 20:=by
 induction l with
 | nil=>simp [weight]
 | cons a l ih=>have:=Zaiv a;simp only [weight,List.map_cons,List.sum_cons,List.length_cons] at *;omega
theorem Zaw {α:Type} (l:List α) (k:Nat) (h:k < l.length):l.take (k + 1) = l.take k ++ [l[k]]:=List.take_succ_eq_append_getElem h
theorem Zsd (l:List Nat) (k:Nat) (h:k < l.length):weight (l.take (k + 1)) = weight (l.take k) + wt l[k]:=by
 rw [Zaw l k h];simp only [weight,List.map_append,List.map_cons,List.map_nil,List.sum_append,List.sum_cons,List.sum_nil];omega
theorem Zff (l:List Nat) (k:Nat) (h:l.length <= 512):weight (l.take k) <= 512 * 2 ^ 20 :=
 Nat.le_trans (Zaat _) (by simp;omega)
def May (l:List Nat):Prop:=(∀ x ∈ l,x <= 20) /\ l.length <= 512
instance (l:List Nat):Decidable (May l):=by unfold May;infer_instance
def top (l:List Nat):Nat:=l.foldl max 0
theorem Ztt (l:List Nat) (k:Nat) (h:k < l.length):top (l.take (k + 1)) = max (top (l.take k)) l[k]:=by
 rw [Zaw l k h];simp only [top,List.foldl_append,List.foldl_cons,List.foldl_nil]
theorem Znz (l:List Nat) (a n:Nat):l.foldl max a <= n ↔ a <= n /\ ∀ x ∈ l,x <= n:=by
 induction l generalizing a with
 | nil=>simp
 | cons b l ih =>
  simp only [List.foldl_cons,ih,List.mem_cons,forall_eq_or_imp,<- and_assoc]
  refine and_congr_left fun _=>?_
  omega
theorem Zaiq (l:List Nat) (n:Nat):top l <= n ↔ ∀ x ∈ l,x <= n:=by
 unfold top;rw [Znz];simp
def mayB (l:List Nat):Bool:=decide (May l)
def cls (l:List Nat):Nat:=if weight l = 0 then 0 else if weight l < 2 ^ 20 then 1 else if weight l = 2 ^ 20 then 2 else 3
def clsE (l:List Nat):Nat × Nat:=if May l then (cls l,0) else (0,5)
def S (f:Nat -> Nat):Nat -> Nat
 | 0=>0
 | m + 1=>S f m + f m
theorem Zlo {f g:Nat -> Nat} {m:Nat} (h:∀ j,j < m -> f j = g j):S f m = S g m:=by
 induction m with
 | zero=>rfl
 | succ m ih=>simp only [S];rw [ih fun j hj=>h j (by omega),h m (by omega)]
theorem S_le {f g:Nat -> Nat} {m:Nat} (h:∀ j,j < m -> f j <= g j):S f m <= S g m:=by
 induction m with
 | zero=>simp [S]
 | succ m ih=>simp only [S];have:=ih fun j hj=>h j (by omega);have:=h m (by omega);omega
theorem Zahw {f:Nat -> Nat} {m:Nat} (h:∀ j,j < m -> f j = 0):S f m = 0:=by
 induction m with
 | zero=>rfl
 | succ m ih=>simp only [S];rw [ih fun j hj=>h j (by omega),h m (by omega)]
theorem Zahv {f g:Nat -> Nat} {m k:Nat} (hk:k < m) (h:∀ j,j < m -> j ≠ k -> f j = g j):S f m + g k = S g m + f k:=by
 induction m with
 | zero=>omega
 | succ m ih =>
  simp only [S]
  by_cases e:k = m
  ·subst e
   rw [Zlo (fun j hj=>h j (by omega) (by omega))];omega
  ·have:=ih (by omega) (fun j hj hne=>h j (by omega) hne)
   have:=h m (by omega) (by omega)
   omega
theorem Zair {f:Nat -> Nat} {m d:Nat} (h:∀ j,j < m -> d ∣ f j):d ∣ S f m:=by
 induction m with
 | zero=>exact ⟨0,rfl⟩
 | succ m ih=>exact Nat.dvd_add (ih fun j hj=>h j (by omega)) (h m (by omega))
theorem Zahu (f:Nat -> Nat) (m:Nat):S f (m + 1) = f 0 + S (fun j=>f (j + 1)) m:=by
 induction m with
 | zero=>simp [S]
 | succ m ih=>rw [S,ih,S];omega
theorem Zaer (l:List Nat):weight l = S (fun j=>wt (l.getD j 0)) l.length:=by
 induction l with
 | nil=>rfl
 | cons a l ih =>
  rw [List.length_cons,Zahu]
  simp only [weight,List.map_cons,List.sum_cons] at *
  rw [ih];simp
def pre (l:List Nat) (n k j:Nat):Prop:=l.getD j 0 ≠ 0 /\ (l.getD j 0 < n \/ l.getD j 0 = n /\ j < k)
instance (l:List Nat) (n k j:Nat):Decidable (pre l n k j):=by unfold pre;infer_instance
def acc (l:List Nat) (n k:Nat):Nat:=S (fun j=>if pre l n k j then wt (l.getD j 0) else 0) l.length
def word (l:List Nat) (i:Nat):Nat:=if l.getD i 0 = 0 then 0 else acc l (l.getD i 0) i / 2 ^ (20 - l.getD i 0)
def words (l:List Nat):List Nat:=(List.range l.length).map (word l)
def outs (l:List Nat) (n k:Nat):List Nat:=(List.range l.length).map fun i=>if pre l n k i then word l i else 0
theorem Zbc (l:List Nat):(words l).length = l.length:=by simp [words]
theorem Zafq (l:List Nat):acc l 1 0 = 0:=Zahw fun j _=>by
 rw [if_neg];unfold pre;omega
theorem Zafr (l:List Nat) (n:Nat):acc l n l.length = acc l (n + 1) 0:=Zlo fun j hj=>by
 have:pre l n l.length j ↔ pre l (n + 1) 0 j:=by unfold pre;omega
 simp only [this]
theorem Zaeu (l:List Nat) (n k:Nat):acc l n k <= weight l:=by
 rw [Zaer]
 exact S_le fun j _=>by split <;> omega
theorem Zwe (l:List Nat) (n k:Nat) (hn:n ≠ 0) (hk:k < l.length) (h:l[k] = n):acc l n (k + 1) = acc l n k + 2 ^ (20 - n):=by
 have hg:l.getD k 0 = n:=by simp [hk,h]
 have:=Zahv (f:=fun j=>if pre l n (k + 1) j then wt (l.getD j 0) else 0) (g:=fun j=>if pre l n k j then wt (l.getD j 0) else 0) hk (fun j hj hne=>by
  have:pre l n (k + 1) j ↔ pre l n k j:=by unfold pre;omega
  simp only [this])
 rw [if_neg (by unfold pre;omega),if_pos (by unfold pre;omega),hg,wt,if_neg hn] at this
 unfold acc
 omega
theorem Zaax (l:List Nat) (n k:Nat) (hk:k < l.length) (h:l[k] ≠ n):acc l n (k + 1) = acc l n k:=Zlo fun j hj=>by
 have hg:l.getD k 0 = l[k]:=by simp [hk]
 have:pre l n (k + 1) j ↔ pre l n k j:=by
  unfold pre
  constructor
  ·rintro ⟨h1,h2 | ⟨h2,h3⟩⟩
   ·exact ⟨h1,.inl h2⟩
   ·refine ⟨h1,.inr ⟨h2,?_⟩⟩
    by_cases e:j = k
    ·subst e;omega
    ·omega
  ·rintro ⟨h1,h2⟩;exact ⟨h1,by omega⟩
 simp only [this]
theorem Zafp (l:List Nat) (n k:Nat):2 ^ (20 - n) ∣ acc l n k:=Zair fun j _=>by
 split
 ·rename_i h
  have h0:l.getD j 0 ≠ 0:=h.1
  have hle:l.getD j 0 <= n:=by have:=h.2;omega
  rw [wt,if_neg h0]
  exact Nat.pow_dvd_pow 2 (by omega)
 ·exact Nat.dvd_zero _
theorem Zade (l:List Nat):outs l 1 0 = List.replicate l.length 0:=by
 apply List.ext_getElem (by simp [outs])
 intro i h1 h2
 simp only [outs,List.getElem_map,List.getElem_range,List.getElem_replicate]
 rw [if_neg];unfold pre;omega
theorem Zsy (l:List Nat) (n:Nat):outs l n l.length = outs l (n + 1) 0:=by
 apply List.ext_getElem (by simp [outs])
 intro i h1 h2
 simp only [outs,List.length_map,List.length_range] at h1
 simp only [outs,List.getElem_map,List.getElem_range]
 have:pre l n l.length i ↔ pre l (n + 1) 0 i:=by unfold pre;omega
 simp only [this]
theorem Zadd (l:List Nat) (n k:Nat) (hn:n ≠ 0) (hk:k < l.length) (h:l[k] = n):outs l n (k + 1) = (outs l n k).set k (acc l n k / 2 ^ (20 - n)):=by
 have hg:l.getD k 0 = n:=by simp [hk,h]
 apply List.ext_getElem (by simp [outs])
 intro i h1 h2
 simp only [outs,List.length_map,List.length_range] at h1
 rw [List.getElem_set]
 simp only [outs,List.getElem_map,List.getElem_range]
 by_cases e:k = i
 ·subst e
  rw [if_pos (by unfold pre;omega),if_pos rfl,word,if_neg (by omega),hg]
 ·rw [if_neg e]
  have:pre l n (k + 1) i ↔ pre l n k i:=by unfold pre;omega
  simp only [this]
theorem Zyt (l:List Nat) (n k:Nat) (hk:k < l.length) (h:l[k] ≠ n):outs l n (k + 1) = outs l n k:=by
 apply List.ext_getElem (by simp [outs])
 intro i h1 h2
 simp only [outs,List.getElem_map,List.getElem_range]
 have hg:l.getD k 0 = l[k]:=by simp [hk]
 have:pre l n (k + 1) i ↔ pre l n k i:=by
  unfold pre
  constructor
  ·rintro ⟨h1,h2 | ⟨h2,h3⟩⟩
   ·exact ⟨h1,.inl h2⟩
   ·refine ⟨h1,.inr ⟨h2,?_⟩⟩
    by_cases e:i = k
    ·subst e;omega
    ·omega
  ·rintro ⟨h1,h2⟩;exact ⟨h1,by omega⟩
 simp only [this]
theorem Zat {l:List Nat} {n:Nat} (h:∀ x ∈ l,x <= n) (i:Nat):l.getD i 0 <= n:=by
 by_cases hi:i < l.length
 ·simp only [List.getD_eq_getElem?_getD,List.getElem?_eq_getElem hi,Option.getD_some];exact h _ (List.getElem_mem hi)
 ·simp only [List.getD_eq_getElem?_getD,List.getElem?_eq_none (by omega:l.length <= i),Option.getD_none];omega
theorem Zadc (l:List Nat) (h:∀ x ∈ l,x <= 20):outs l 21 0 = words l:=by
 apply List.ext_getElem (by simp [outs,words])
 intro i h1 h2
 simp only [outs,words,List.getElem_map,List.getElem_range]
 have:=Zat h i
 by_cases e:l.getD i 0 = 0
 ·rw [if_neg (by unfold pre;omega),word,if_pos e]
 ·rw [if_pos (by unfold pre;omega)]
def wordsE (l:List Nat):List Nat × Nat:=if ¬ May l then ([],5) else if 2 ^ 20 < weight l then ([],2) else (words l,0)
def rowOf (l:List Nat) (n k:Nat):List (Nat × Nat):=(List.range k).filterMap fun i=>if l.getD i 0 = n then some (i,n) else none
def ordB (l:List Nat):Nat -> Nat -> List (Nat × Nat)
 | 0,k=>rowOf l 0 k
 | n + 1,k=>(if n = 0 then [] else ordB l n l.length) ++ rowOf l (n + 1) k
def ord (l:List Nat):List (Nat × Nat):=ordB l 20 l.length
theorem Zpd (l:List Nat) (n k:Nat) (h:l.getD k 0 = n):rowOf l n (k + 1) = rowOf l n k ++ [(k,n)]:=by
 simp only [rowOf,List.range_succ,List.filterMap_append,List.filterMap_cons,List.filterMap_nil,h,if_true]
theorem Zlc (l:List Nat) (n k:Nat) (h:l.getD k 0 ≠ n):rowOf l n (k + 1) = rowOf l n k:=by
 simp only [rowOf,List.range_succ,List.filterMap_append,List.filterMap_cons,List.filterMap_nil,h,if_false,List.append_nil]
theorem Zfx (l:List Nat) (n k:Nat) (h:l.getD k 0 = n):ordB l n (k + 1) = ordB l n k ++ [(k,n)]:=by
 cases n with
 | zero=>exact Zpd l 0 k h
 | succ n=>simp only [ordB];rw [Zpd l _ k h,List.append_assoc]
theorem Zfy (l:List Nat) (n k:Nat) (h:l.getD k 0 ≠ n):ordB l n (k + 1) = ordB l n k:=by
 cases n with
 | zero=>exact Zlc l 0 k h
 | succ n=>simp only [ordB];rw [Zlc l _ k h]
theorem Zid (l:List Nat) (n:Nat) (hn:n ≠ 0):ordB l (n + 1) 0 = ordB l n l.length:=by
 simp [ordB,rowOf,hn]
theorem Zmg (l:List Nat):ordB l 1 0 = []:=by simp [ordB,rowOf]
theorem Zyo (l:List Nat) (n k m:Nat):ordB l n k <+: ordB l n (k + m):=by
 induction m with
 | zero=>exact List.prefix_refl _
 | succ m ih =>
  by_cases h:l.getD (k + m) 0 = n
  ·rw [<- Nat.add_assoc,Zfx l n _ h];exact ih.trans (List.prefix_append _ _)
  ·rw [<- Nat.add_assoc,Zfy l n _ h];exact ih
theorem Zyp (l:List Nat) (d n k:Nat) (hn:n + d = 20) (h0:n ≠ 0) (hk:k <= l.length):ordB l n k <+: ord l:=by
 induction d generalizing n k with
 | zero =>
  obtain rfl:n = 20:=by omega
  have:=Zyo l 20 k (l.length - k)
  rwa [show k + (l.length - k) = l.length by omega] at this
 | succ d ih =>
  have h1:=Zyo l n k (l.length - k)
  rw [show k + (l.length - k) = l.length by omega,<- Zid l n h0] at h1
  exact h1.trans (ih (n + 1) 0 (by omega) (by omega) (by omega))
theorem Zsw (l:List Nat) (n k:Nat) (hn:n <= 20) (h0:n ≠ 0) (hk:k <= l.length):ordB l n k <+: ord l:=Zyp l (20 - n) n k (by omega) h0 hk
theorem Zyq (l:List Nat) (n k:Nat) (hn:n <= 20) (h0:n ≠ 0) (hk:k < l.length) (h:l.getD k 0 = n):(ord l)[(ordB l n k).length]? = some (k,n):=by
 obtain ⟨t,ht⟩:=Zsw l n (k + 1) hn h0 (by omega)
 rw [<- ht,Zfx l n k h]
 simp
theorem Zada (l:List Nat) (n k:Nat) (hn:n ≠ 0):∀ p ∈ ordB l n k,p.2 <= n:=by
 induction n generalizing k with
 | zero=>omega
 | succ n ih =>
  intro p hp
  simp only [ordB,List.mem_append] at hp
  rcases hp with hp | hp
  ·by_cases h:n = 0
   ·simp [h] at hp
   ·simp only [h,if_false] at hp
    have:=ih l.length h p hp
    omega
  ·simp only [rowOf,List.mem_filterMap,List.mem_range,Option.ite_none_right_eq_some,Option.some.injEq] at hp
   obtain ⟨i,_,_,rfl⟩:=hp
   exact Nat.le_refl _
theorem Zadb (l:List Nat) (n k:Nat) (hn:n <= 20) (h0:n ≠ 0) (hk:k <= l.length) (j:Nat) (hj:j < (ordB l n k).length) :
  ∃ n' k',n' ≠ 0 /\ n' <= 20 /\ k' < l.length /\ l.getD k' 0 = n' /\ (ordB l n' k').length = j:=by
 induction n generalizing k j with
 | zero=>omega
 | succ n ih =>
  induction k generalizing j with
  | zero =>
   by_cases h:n = 0
   ·subst h;rw [Zmg] at hj;simp at hj
   ·rw [Zid l n h] at hj
    exact ih l.length (by omega) h (Nat.le_refl _) j hj
  | succ k ihk =>
   by_cases h:l.getD k 0 = n + 1
   ·rw [Zfx l _ k h,List.length_append] at hj
    simp only [List.length_cons,List.length_nil] at hj
    by_cases e:j < (ordB l (n + 1) k).length
    ·exact ihk (by omega) j e
    ·exact ⟨n + 1,k,by omega,hn,by omega,h,by omega⟩
   ·rw [Zfy l _ k h] at hj
    exact ihk (by omega) j hj
theorem Zyr (l:List Nat) (j:Nat) (hj:j < (ord l).length) :
  ∃ n k,n ≠ 0 /\ n <= 20 /\ k < l.length /\ l.getD k 0 = n /\ (ordB l n k).length = j /\ (ord l)[j]? = some (k,n):=by
 obtain ⟨n,k,h1,h2,h3,h4,h5⟩:=Zadb l 20 l.length (by omega) (by omega) (Nat.le_refl _) j hj
 exact ⟨n,k,h1,h2,h3,h4,h5,by rw [<- h5];exact Zyq l n k h2 h1 h3 h4⟩
def accI (l:List Nat) (j:Nat):Nat:=(((ord l).take j).map fun p=>2 ^ (20 - p.2)).sum
def outsI (l:List Nat) (j:Nat):List Nat:=((ord l).take j).foldl (fun o p=>o.set p.1 (word l p.1)) (List.replicate l.length 0)
theorem Znf (l:List Nat) (j k n:Nat) (h:(ord l)[j]? = some (k,n)):accI l (j + 1) = accI l j + 2 ^ (20 - n):=by
 unfold accI
 rw [List.take_add_one,h]
 simp
theorem Zku (l:List Nat) (j k n:Nat) (h:(ord l)[j]? = some (k,n)):outsI l (j + 1) = (outsI l j).set k (word l k):=by
 unfold outsI
 rw [List.take_add_one,h]
 simp
theorem Zwd (l:List Nat) (n k:Nat) (hn:n <= 20) (h0:n ≠ 0) (hk:k <= l.length) :
  acc l n k = accI l (ordB l n k).length /\ outs l n k = outsI l (ordB l n k).length:=by
 induction n generalizing k with
 | zero=>omega
 | succ n ih =>
  induction k with
  | zero =>
   by_cases h:n = 0
   ·subst h
    rw [Zmg,Zafq,Zade]
    simp [accI,outsI]
   ·rw [Zid l n h,<- Zafr,<- Zsy]
    exact ih l.length (by omega) h (Nat.le_refl _)
  | succ k ihk =>
   obtain ⟨ih1,ih2⟩:=ihk (by omega)
   have hg:l.getD k 0 = l[k]:=by simp [show k < l.length by omega]
   by_cases h:l.getD k 0 = n + 1
   ·have ha:=Zyq l (n + 1) k hn h0 (by omega) h
    rw [Zfx l _ k h,List.length_append]
    simp only [List.length_cons,List.length_nil]
    rw [Znf l _ k _ ha,Zku l _ k _ ha,<- ih1,<- ih2,Zwe l (n + 1) k (by omega) (by omega) (by omega),Zadd l (n + 1) k (by omega) (by omega) (by omega)]
    refine ⟨rfl,?_⟩
    rw [word,if_neg (by omega),h]
   ·rw [Zfy l _ k h,Zaax l (n + 1) k (by omega) (by omega),Zyt l (n + 1) k (by omega) (by omega)]
    exact ⟨ih1,ih2⟩
theorem Zys (l:List Nat) (h:∀ x ∈ l,x <= 20):outsI l (ord l).length = words l:=by
 rw [<- Zadc l h,<- Zsy]
 exact (Zwd l 20 l.length (by omega) (by omega) (Nat.le_refl _)).2.symm
theorem Zhr (t:List (Nat × Nat)) (f:Nat × Nat -> Nat) (o:List Nat):(t.foldl (fun o p=>o.set p.1 (f p)) o).length = o.length:=by
 induction t generalizing o with
 | nil=>rfl
 | cons a t ih=>simp [ih]
theorem Zos (l:List Nat) (j:Nat):(outsI l j).length = l.length:=by
 unfold outsI;rw [Zhr _ (fun p=>word l p.1)];simp
theorem Zafo (l:List Nat) (j:Nat) (h:j < (ord l).length):accI l j <= weight l:=by
 obtain ⟨n,k,h1,h2,h3,h4,h5,h6⟩:=Zyr l j h
 rw [<- h5,<- (Zwd l n k h2 h1 (by omega)).1]
 exact Zaeu _ _ _
def bitsI (l:List Nat) (j:Nat):Nat:=if j = 0 then 0 else ((ord l).getD (j - 1) (0,0)).2
theorem Zwc (l:List Nat) (j nx:Nat) (hj:j < (ord l).length) (hw:weight l <= 2 ^ 20) (hx:nx * 2 ^ (20 - bitsI l j) = accI l j) :
  ∃ k n,(ord l)[j]? = some (k,n) /\ k < l.length /\ n ≠ 0 /\ n <= 20 /\ bitsI l j <= n /\ bitsI l (j + 1) = n /\ word l k = nx * 2 ^ (n - bitsI l j) /\ nx * 2 ^ (n - bitsI l j) <= 2 ^ 20 ∧
   (nx * 2 ^ (n - bitsI l j) + 1) * 2 ^ (20 - n) = accI l (j + 1):=by
 obtain ⟨n,k,h1,h2,h3,h4,h5,h6⟩:=Zyr l j hj
 have hb:bitsI l j <= n:=by
  unfold bitsI
  split
  ·omega
  ·rename_i h
   have hp:=Zsw l n k h2 h1 (by omega)
   have hl:j - 1 < (ordB l n k).length:=by omega
   obtain ⟨t,ht⟩:=hp
   have:(ord l).getD (j - 1) (0,0) = (ordB l n k)[j - 1]:=by
    rw [<- ht];simp [List.getD,List.getElem?_append_left hl,List.getElem?_eq_getElem hl]
   rw [this]
   exact Zada l n k h1 _ (List.getElem_mem hl)
 have hbn:bitsI l (j + 1) = n:=by simp [bitsI,List.getD,h6]
 have he:20 - bitsI l j = (n - bitsI l j) + (20 - n):=by omega
 have hpow:2 ^ (20 - bitsI l j) = 2 ^ (n - bitsI l j) * 2 ^ (20 - n):=by rw [he,Nat.pow_add]
 have hacc:accI l j = nx * 2 ^ (n - bitsI l j) * 2 ^ (20 - n):=by rw [<- hx,hpow,Nat.mul_assoc]
 have hpos:0 < 2 ^ (20 - n):=Nat.pow_pos (by decide)
 have hal:=Zafo l j hj
 rw [hacc] at hal
 have hm:=Nat.le_mul_of_pos_right (nx * 2 ^ (n - bitsI l j)) hpos
 clear he hpow
 refine ⟨k,n,h6,h3,h1,h2,hb,hbn,?_,?_,?_⟩
 ·rw [word,if_neg (by omega),h4,(Zwd l n k h2 h1 (by omega)).1,h5,hacc,Nat.mul_div_cancel _ hpos]
 ·exact Nat.le_trans hm (Nat.le_trans hal hw)
 ·rw [Znf l j k n h6,hacc,Nat.add_mul,Nat.one_mul]
end Go.Proofs.YtendielanacflaaGreat.M04

namespace Go.Proofs.YtendielanacflaaGreat
open Go.RowKit M04
theorem Zaib:ElemTy Tryz.prog 122 44 .u32 4:=⟨Tryz.underlying122,by kernel_rfl⟩
theorem Zfb:ElemTy Tryz.prog 24 5 .u8 1:=⟨Tryz.underlying24,by kernel_rfl⟩
def WordsOut (w:World) (l:List Nat) (e:Ending) (w':World):Prop :=
 ∃ a cap,e = .returned (.tuple #[.slice a (wordsE l).1.length cap,.int .i64 (wordsE l).2]) /\ OwnN 44 .u32 w' w.heap.size a cap (wordsE l).1 /\ Below w.heap.size w w'
end Go.Proofs.YtendielanacflaaGreat
