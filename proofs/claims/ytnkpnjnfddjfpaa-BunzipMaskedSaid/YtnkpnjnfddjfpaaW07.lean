/- A range over a function whose iterator keeps memory of its own through all rounds, and may panic: a round writes only old blocks that are named. block.mask: contract as an iterator. Plain mathematics of layer 3: a byte at once is eight bits, one by one. crc.steps, crc.Fold: contracts. pressworkref26.Masked: contract. -/
import Derived.Test.YtnkpnjnfddjfpaaW01
import Derived.Test.YtnkpnjnfddjfpaaW06
import Derived.Test.YtnkpnjnfddjfpaaW02
import Derived.Test.YtnkpnjnfddjfpaaW05
import Derived.Laws.Tables
import Derived.Laws.Rows
set_option linter.unusedVariables false
set_option linter.unusedSimpArgs false
namespace Go.Proofs.Ytnkpnjnfddjfpaa
open Go.RowKit
def Yields4 (P:Program) (gf:Nat) (lb:Array Value) (n:Nat) (row:Nat -> Array Value) (S T:Nat -> Prop) (Fin:Ending -> World -> Prop) (w:World):Prop :=
 ∀ (l:Nat) (J Jx:Nat -> World -> Prop) (W:World) (U:Nat -> Prop),SameOn S w W -> (∀ b,U b -> b < W.heap.size /\ ¬ S b) →
  (∀ i A B,J i A -> Only T A B -> J i B) -> (∀ i A B,Jx i A -> Only T A B -> Jx i B) →
  (∀ i A,i < n -> J i A -> W.heap.size <= A.heap.size -> YieldAt Fence.wide 9 P l (row i) A fun e B =>
   (e = .returned (.bool true) /\ J (i + 1) B /\ Only U A B) \/ (e = .returned (.bool false) /\ Jx (i + 1) B)) →
  J 0 W →
  CallsIn Fence.wide 9 P gf (#[.func (.yield l) #[] #[]] ++ lb) W fun e B=>(J n B /\ Fin e B) \/ (∃ i,i < n /\ Jx (i + 1) B /\ ∃ v,e = .returned v)
def roundEnds4 (U:Nat -> Prop) (I:Nat -> World -> Prop) (Ix:Code -> Nat -> World -> Prop) (i:Nat) (A:World):Exit -> Act -> World -> Prop
 | .normal,_,B=>Only U A B /\ I (i + 1) B
 | .ret,_,B=>Only U A B /\ Ix .ret (i + 1) B
 | .exit id,_,B=>Only U A B /\ Ix (.exit id) (i + 1) B
 | .goto t,_,B=>Only U A B /\ Ix (.goto t) (i + 1) B
 | .panic _,_,_=>False
 | .outgrown,_,_=>False
theorem Only.putLoop {T:Nat -> Prop} {A B:World} (h:Only T A B) {r:Nat} (hr:T r) (o:Obj):Only T A (B.putObj r o) :=
 ⟨h.os,h.tape,h.output,by rw [World.putObj_size];exact h.size,fun k hk hT=>(World.putObj_heap_other (by intro e;exact hT (e ▸ hr))).trans (h.block k hk hT)⟩
theorem Zqd {P:Program} {g:Operand} {ps:Array Tmp} {assign body:Code} {Q:Exit -> Act -> World -> Prop} {a:Act} {w:World}
  {gf:Nat} {lb:Array Value} (hg:a.eval g = .func (.func gf) #[] lb) (eg:∀ args w,(callFunc gf args).run P w = .ok (.enter gf args) w)
  {n:Nat} {row:Nat -> Array Value} {S T:Nat -> Prop} {Fin:Ending -> World -> Prop} {w0:World} (hy:Yields4 P gf lb n row S T Fin w0) (U:Nat -> Prop) (hsame:SameOn S w0 w) (hS:∀ b,S b -> b < w.heap.size) (hT:∀ b,T b -> b < w.heap.size) (hU:∀ b,U b -> b < w.heap.size /\ ¬ S b)
  (hps:∀ i,(row i).size = ps.size)
  (I:Nat -> World -> Prop) (Ix:Code -> Nat -> World -> Prop)
  (hI:∀ i A B,I i A -> Only T A B -> I i B) (hIp:∀ i A l o o',I i A -> w.heap.size <= l -> A.heap[l]? = some o -> o.isCells = false -> I i (A.putObj l o'))
  (hX:∀ c i A B,Ix c i A -> Only T A B -> Ix c i B) (hXp:∀ c i A l o o',Ix c i A -> w.heap.size <= l -> A.heap[l]? = some o -> o.isCells = false -> Ix c i (A.putObj l o'))
  (hFp:∀ e A l o o',Fin e A -> w.heap.size <= l -> A.heap[l]? = some o -> o.isCells = false -> Fin e (A.putObj l o')) (hFo:∀ A,¬ Fin .outgrown A)
  (h0:I 0 w) (Ax:Nat -> Act -> World -> Prop)
  (hAp:∀ i a' A l o o',Ax i a' A -> w.heap.size <= l -> A.heap[l]? = some o -> o.isCells = false -> Ax i a' (A.putObj l o'))
  (hassign:∀ (l i:Nat) (W:World) (K:Act -> World -> Prop),i < n -> w.heap.size + 2 <= W.heap.size -> I i W -> (∀ a' W',Only U W W' -> Ax i a' W' -> K a' W') →
   assign.wpIn (Fence.wide.inRound l) 9 P (Exit.then K (fun _ _ _=>False)) { tmps:=(ps.zip (row i)).foldl (fun t (p,v)=>t.setIfInBounds p v) a.tmps,defers:=[] } W)
  (hbody:∀ (l i:Nat) (hi:i < n) (a':Act) (A:World),w.heap.size + 2 <= A.heap.size -> Ax i a' A -> body.wpIn (Fence.wide.inRound l) 9 P (roundEnds4 U I Ix i A) a' A)
  (hdone:∀ (v:Value) (A:World),I n A -> Fin (.returned v) A -> A.heap[w.heap.size]? = some (.deferred (some [])) -> Q .normal { a with defers:={ target:=.collected w.heap.size,args:=#[] } :: a.defers } A)
  (hpanic:∀ (c:List PanicEntry) (A:World),I n A -> Fin (.panicked c) A -> A.heap[w.heap.size]? = some (.deferred (some [])) -> Q (.panic c) { a with defers:={ target:=.collected w.heap.size,args:=#[] } :: a.defers } A)
  (hstop:∀ (c:Code) (i:Nat) (A:World),i < n -> Ix c (i + 1) A -> A.heap[w.heap.size]? = some (.deferred (some [])) -> c.wpIn Fence.wide 9 P Q { a with defers:={ target:=.collected w.heap.size,args:=#[] } :: a.defers } A) :
  (Code.rangeFunc g ps assign body).wpIn Fence.wide 9 P Q a w:=by
 refine wpIn_rangeFunc ?_
 intro fn hfn
 obtain ⟨rec,hrec⟩:∃ rec:LoopState -> Option Code -> Loop,rec = fun st pe=>{ state:=st,pending:=pe,fn,tmps:=a.tmps,params:=ps,assign,body,defers:=w.heap.size }:=⟨_,rfl⟩
 obtain ⟨W1,hW1⟩:∃ W1,(w.alloc (.deferred (some []))).alloc (.loop (rec .ready none)) = W1:=⟨_,rfl⟩
 have hs1:W1.heap.size = w.heap.size + 2:=by rw [<- hW1];simp
 have hL1:W1.heap[w.heap.size + 1]? = some (.loop (rec .ready none)):=by
  rw [<- hW1];have:=World.alloc_heap_new (w.alloc (.deferred (some []))) (.loop (rec .ready none));rwa [World.size_alloc] at this
 have hK1:W1.heap[w.heap.size]? = some (.deferred (some [])):=by
  rw [<- hW1];exact (Below.heap_alloc _ _ _ (by simp)).trans (World.alloc_heap_new w _)
 have hI1:I 0 W1:=hI 0 w W1 h0 (by rw [<- hW1];exact ((Only.refl T w).alloc _).alloc _)
 have hsame1:SameOn S w0 W1:=⟨by have:=hsame.size;omega,fun b hb=>by
  rw [<- hW1,Below.heap_alloc _ _ _ (by have:=hS b hb;simp;omega),Below.heap_alloc _ _ _ (hS b hb)]
  exact hsame.same b hb⟩
 refine ⟨w.heap.size + 1,[{ target:=.collected w.heap.size,args:=#[] }],W1,{ target:=.fn (.func gf) lb,args:=#[.func (.yield (w.heap.size + 1)) #[] #[]] },W1,gf,
  #[.func (.yield (w.heap.size + 1)) #[] #[]] ++ lb,W1,?_,?_,?_,?_,fun h=>by simp [Fence.wide] at h,?_⟩
 ·rw [<- hW1,hrec];exact run_enterLoop_outer _ _ _ _ _
 ·simp only [resolve,hg]
  simp [go_sem]
 ·intro f' hf';trivial
 ·simp [invoke,go_sem,eg]
 ·have hyy:=hy (w.heap.size + 1)
   (fun i A=>I i A /\ w.heap.size + 2 <= A.heap.size /\ A.heap[w.heap.size + 1]? = some (.loop (rec .ready none)) /\ A.heap[w.heap.size]? = some (.deferred (some [])))
   (fun i A=>∃ c,Ix c i A /\ A.heap[w.heap.size + 1]? = some (.loop (rec .done (some c))) /\ A.heap[w.heap.size]? = some (.deferred (some [])))
   W1 (fun b=>U b \/ b = w.heap.size + 1) hsame1 (fun b hb=>by
    rcases hb with hb | rfl
    ·exact ⟨by have:=(hU b hb).1;omega,(hU b hb).2⟩
    ·exact ⟨by omega,fun h=>by have:=hS _ h;omega⟩)
   (fun i A B h ho=>⟨hI i A B h.1 ho,Nat.le_trans h.2.1 ho.size,Zac h.2.2.1 ho (fun t=>by have:=hT _ t;omega),Zac h.2.2.2 ho (fun t=>by have:=hT _ t;omega)⟩)
   (fun i A B h ho=>by
    obtain ⟨c,hc,hl,hk⟩:=h
    exact ⟨c,hX c i A B hc ho,Zac hl ho (fun t=>by have:=hT _ t;omega),Zac hk ho (fun t=>by have:=hT _ t;omega)⟩)
   ?_ ⟨hI1,by omega,hL1,hK1⟩
  ·refine (callsIn_wide.2 (callsIn_wide.1 hyy)).mono ?_
   rintro e W2 (⟨⟨hi,_,hl,hk⟩,hfin⟩ | ⟨i,hlt,⟨c,hi,hl,hk⟩,v,rfl⟩)
   ·cases e with
    | returned v=>exact ⟨none,_,by have:=run_endLoop (P:=P) hl (by rw [hrec];simp);rw [hrec] at this;exact this,hdone v _ (hIp _ _ _ _ _ hi (by omega) hl rfl) (hFp _ _ _ _ _ hfin (by omega) hl rfl) ((World.putObj_heap_other (by omega)).trans hk)⟩
    | panicked ch=>exact hpanic ch W2 hi hfin hk
    | outgrown=>exact absurd hfin (hFo W2)
   ·exact ⟨some c,_,by have:=run_endLoop (P:=P) hl (by rw [hrec];simp);rw [hrec] at this;exact this,hstop c i _ hlt (hXp _ _ _ _ _ _ hi (by omega) hl rfl) ((World.putObj_heap_other (by omega)).trans hk)⟩
  ·rintro i W hi ⟨hii,hsz,hl,hk⟩ _
   have hy':=run_yield (P:=P) (args:=row i) hl (by rw [hrec];exact hps _)
   rw [hrec] at hy'
   have hUo:∀ {A B:World},Only U A B -> Only (fun b=>U b \/ b = w.heap.size + 1) A B:=fun h=>h.mono (fun k _ hk=>.inl hk)
   refine Zgn (n:=9) ⟨fn,_,assign,body,hy',roundIn_of_wpIn hfn (hassign _ i W _ hi hsz hii fun a' W' hk0 hax=>⟨_,run_beginRound (Zac hl hk0 (fun t=>by have:=(hU _ t).1;omega)) (by rw [hrec]),?_⟩)⟩
   replace hl:=Zac hl hk0 (fun t=>by have:=(hU _ t).1;omega)
   replace hk:=Zac hk hk0 (fun t=>by have:=(hU _ t).1;omega)
   have hlt:w.heap.size + 1 < W'.heap.size:=by have:=hk0.size;omega
   have hl2:(W'.putObj (w.heap.size + 1) (.loop { rec .ready none with state:=.busy })).heap[w.heap.size + 1]? = some (.loop { rec .ready none with state:=.busy }):=World.putObj_heap_same hlt
   have hk2:(W'.putObj (w.heap.size + 1) (.loop { rec .ready none with state:=.busy })).heap[w.heap.size]? = some (.deferred (some [])):=(World.putObj_heap_other (by omega)).trans hk
   have hO2:Only (fun b=>U b \/ b = w.heap.size + 1) W (W'.putObj (w.heap.size + 1) (.loop { rec .ready none with state:=.busy })):=(hUo hk0).putLoop (.inr rfl) _
   refine wpIn_mono (hbody _ i hi _ _ (by rw [World.putObj_size];omega) (hAp _ _ _ _ _ _ hax (by omega) hl rfl)) ?_
   have fin:∀ (jump:Option Code) (W3:World),Only U (W'.putObj (w.heap.size + 1) (.loop { rec .ready none with state:=.busy })) W3 →
     (Instr.endRound (w.heap.size + 1) jump).run P W3 = .ok (.bool jump.isNone) (W3.putObj (w.heap.size + 1) (.loop (rec (if jump.isNone then .ready else .done) jump))) ∧
     W3.heap[w.heap.size + 1]? = some (.loop { rec .ready none with state:=.busy }) ∧
     (W3.putObj (w.heap.size + 1) (.loop (rec (if jump.isNone then .ready else .done) jump))).heap[w.heap.size + 1]? = some (.loop (rec (if jump.isNone then .ready else .done) jump)) ∧
     (W3.putObj (w.heap.size + 1) (.loop (rec (if jump.isNone then .ready else .done) jump))).heap[w.heap.size]? = some (.deferred (some [])) /\ w.heap.size + 2 <= (W3.putObj (w.heap.size + 1) (.loop (rec (if jump.isNone then .ready else .done) jump))).heap.size ∧
     Only (fun b=>U b \/ b = w.heap.size + 1) W (W3.putObj (w.heap.size + 1) (.loop (rec (if jump.isNone then .ready else .done) jump))):=fun jump W3 hk3=>by
    have hl3:=Zac hl2 hk3 (fun t=>by have:=(hU _ t).1;omega)
    have:=run_endRound (P:=P) jump hl3
    rw [hrec] at this ⊢
    exact ⟨this,by rw [hrec] at hl3;exact hl3,World.putObj_heap_same (Array.getElem?_eq_some_iff.1 hl3).1,(World.putObj_heap_other (by omega)).trans (Zac hk2 hk3 (fun t=>by have:=(hU _ t).1;omega)),by rw [World.putObj_size];have:=(Array.getElem?_eq_some_iff.1 hl3).1;omega,by
     rw [hrec] at hO2
     rw [hrec] at hk3
     exact (hO2.trans (hUo hk3)).putLoop (.inr rfl) _⟩
   rintro e a3 W3 hp
   cases e with
   | normal =>
    obtain ⟨hk3,hi3⟩:=hp
    obtain ⟨hr,hl3,hl4,hk4,hz4,ho4⟩:=fin none W3 hk3
    exact ⟨_,_,hr,.inl ⟨rfl,⟨hIp _ _ _ _ _ hi3 (by omega) hl3 rfl,hz4,hl4,hk4⟩,ho4⟩⟩
   | ret =>
    obtain ⟨hk3,hi3⟩:=hp
    obtain ⟨hr,hl3,hl4,hk4,_⟩:=fin (some .ret) W3 hk3
    exact ⟨_,_,hr,.inr ⟨rfl,.ret,hXp _ _ _ _ _ _ hi3 (by omega) hl3 rfl,hl4,hk4⟩⟩
   | exit id =>
    obtain ⟨hk3,hi3⟩:=hp
    obtain ⟨hr,hl3,hl4,hk4,_⟩:=fin (some (.exit id)) W3 hk3
    exact ⟨_,_,hr,.inr ⟨rfl,.exit id,hXp _ _ _ _ _ _ hi3 (by omega) hl3 rfl,hl4,hk4⟩⟩
   | goto t =>
    obtain ⟨hk3,hi3⟩:=hp
    obtain ⟨hr,hl3,hl4,hk4,_⟩:=fin (some (.goto t)) W3 hk3
    exact ⟨_,_,hr,.inr ⟨rfl,.goto t,hXp _ _ _ _ _ _ hi3 (by omega) hl3 rfl,hl4,hk4⟩⟩
   | panic ch=>exact hp.elim
   | outgrown=>exact hp.elim
end Go.Proofs.Ytnkpnjnfddjfpaa

namespace Go.Proofs.Ytnkpnjnfddjfpaa
open Go.RowKit Go.Shelf M01 M02 M27
attribute [local go_sem] Oper.semAt_some
theorem Zva (w:World) (n:Nat) :
  Calls Try.prog 123 #[.int .i64 (n:Nat)] w fun e w' =>
   e = .returned (.func (.func 160) #[] #[.pointer (some ⟨w.heap.size,0,none⟩)]) /\ w' = w.alloc (.cells #[.int .i64 (n:Nat)] 3):=by
 have hmf:∀ (fn:Fn) (first cap:Array Value) (w:World),(Instr.makeFunc fn first cap).run Try.prog w = .ok (.func fn first cap) w:=fun _ _ _ _=>rfl
 go_enter Try.func123,Try.ntmps123
 go_wp2
 go_ret
 exact ⟨rfl,rfl⟩
def maskRow (i:Nat):Array Value:=#[.int .i64 (maskAt i:Nat)]
theorem Zpu (n i:Nat) (h:∀ j,j < i -> maskAt j < n):maskSum i <= n + 1:=by
 cases i with
 | zero=>exact Nat.zero_le _
 | succ i =>
  have:=h i (by omega)
  have:=Zbh i
  unfold maskAt at *
  omega
theorem Zmf (k:IntKind) (w:World) (l:List Nat) (E:TypeId) (c:Array Value) (B:Nat) (hB:B = w.heap.size) (hc:c = (l.map fun (n:Nat)=>Value.int k n).toArray) (hl:l.length <= 9223372036854775807) :
  RowN k (w.alloc (.cells c E)) (some ⟨B,0,none⟩) l.length l:=by
 subst hc hB
 refine ⟨Nat.le_refl _,⟨hl,fun hn=>by cases hn⟩,.inr ⟨w.heap.size,0,rfl,by simp,fun i hi=>?_⟩⟩
 rw [Nat.zero_add,World.cell?_alloc_at _ _ _ _ rfl]
 simp [hi]
theorem Zsq (n i:Nat) (h:∀ j,j < i -> maskAt j < n) (h1:maskAt i < n):i < maskCnt n:=by
 rcases Nat.lt_or_ge i (maskCnt n) with h2 | h2
 ·exact h2
 ·have h3:=Zjg n
  rcases Nat.lt_or_ge (maskCnt n) i with h4 | h4
  ·have:=h _ h4;omega
  ·obtain e:maskCnt n = i:=by omega
   rw [e] at h3
   omega
theorem Zom (w:World):RowN .i64 (w.alloc (.cells (nums.map fun (n:Nat)=>Value.int .i64 n).toArray 3)) (some ⟨w.heap.size,0,none⟩) 512 nums:=by
 have hl:=Zfg
 generalize nums = L at *
 have:=Zmf .i64 w L 3 _ w.heap.size rfl rfl (by omega)
 rw [hl] at this
 exact this
set_option maxRecDepth 100000 in
set_option maxHeartbeats 3200000 in
theorem Znf (n B:Nat) (w:World) (hn:n <= 1000000) (h1:w.heap[B]? = some (.cells #[.int .i64 (n:Nat)] 3 (0,0))) :
  Yields4 Try.prog 160 #[.pointer (some ⟨B,0,none⟩)] (maskCnt n) maskRow (fun b=>b = B) (fun _=>False) (fun e _=>∃ v,e = .returned v) w:=by
 intro y J Jx W U hsame hU hJ hJx hY h0
 have HY:=Zh hY
 have HJ:=Zh hJ
 have HU:=Zh hU
 have e1:=(hsame.same B rfl).trans h1
 have hNL:=Zfg
 have hNR:=Zom
 have hNA:=Zst
 have hSM:=Zpu
 have hnm:∀ w,Calls Try.prog 161 #[] w fun e w'=>∃ g,e = .returned (.slice (some ⟨g,0,none⟩) 512 512) /\ RowN .i64 w' (some ⟨g,0,none⟩) 512 nums /\ w.heap.size <= g /\ Below w.heap.size w w':=fun w =>
  (Zmv w).mono fun e w' h=>by
   obtain ⟨rfl,rfl⟩:=h
   exact ⟨_,rfl,hNR w,Nat.le_refl _,Zai w _⟩
 have HN:=Zh hnm
 have HL:=Zh hNL
 have hstep:∀ i,i % 512 < 512 /\ maskSum (i + 1) = maskSum i + nums.getD (i % 512) 0:=fun i=>⟨by omega,rfl⟩
 have HST:=Zh hstep
 have HNA:=Zh hNA
 have HSM:=Zh hSM
 have hB:=lt_of_block e1
 clear hJ hJx hY h1 hU hNR hNL hnm hstep hNA hSM
 generalize nums = L at *
 refine callsIn_of_wp Try.func160 rfl trivial ?_ rfl
 simp only [Try.ntmps160,List.size_toArray,List.length_cons,List.length_nil,Nat.reduceAdd,Nat.reduceSub,Array.replicate_succ,Array.replicate_zero,List.push_toArray,List.append_toArray,List.nil_append,List.cons_append]
 gi_wp2
 gi_loopw [3] (fun av A=>∃ r:Nat,av = .int .i64 (maskSum (512 * r):Nat) /\ W.heap.size <= A.heap.size /\ A.heap[B]? = some (.cells #[.int .i64 (n:Nat)] 3 (0,0)) /\ J (512 * r) A /\ ∀ j,j < 512 * r -> maskAt j < n) (fun av _=>n + 2 - (intOf av).toNat)
 case atStart=>exact ⟨0,rfl,Nat.le_refl _,e1,h0,fun j hj=>by omega⟩
 case round =>
  clear hsame e1 h0
  obtain ⟨r,rfl,hz,e1,hJA,hlow⟩:=hrel
  have hms:=HSM.out n (512 * r) hlow
  have HE1:=Zh e1
  have HJA:=Zh hJA
  have HLOW:=Zh hlow
  have HRE:=Zh (show (512 * r) % 512 = 0 by omega)
  clear e1 hJA hlow
  gi_wp2_with fail
  refine ⟨trivial,?_⟩
  refine (callsIn_wide.2 (HN.out wr)).mono ?_
  rintro e w2 ⟨g,rfl,hrow,hg,hb2⟩
  have HR2:=Zh hrow
  have HE2:=Zh ((hb2.block B (by omega)).trans HE1.out)
  have HJ2:=Zh (HJ.out _ _ _ HJA.out (Only.ofBelow hb2))
  have hz2:=Nat.le_trans hz hb2.size
  clear hrow hb2 HE1 HJA
  gi_wp2_with fail
  gi_loopw [3,8] (fun av iv A=>∃ i:Nat,iv = .int .i64 (i:Nat) /\ i <= 512 /\ av = .int .i64 (maskSum (512 * r + i):Nat) /\ W.heap.size <= A.heap.size /\ A.heap[B]? = some (.cells #[.int .i64 (n:Nat)] 3 (0,0)) /\ RowN .i64 A (some ⟨g,0,none⟩) 512 L /\ J (512 * r + i) A /\ Hid (∀ j,j < 512 * r + i -> maskAt j < n)) (fun _ iv _=>512 - (intOf iv).toNat)
  case atStart=>exact ⟨0,rfl,by omega,rfl,hz2,HE2.out,HR2.out,HJ2.out,HLOW.out⟩
  case round =>
   clear HR2 HE2 HJ2 hz2
   obtain ⟨i,rfl,hi,rfl,hz3,e1,hrow,hJA,HL3⟩:=hrel
   have hms3:=HSM.out n (512 * r + i) HL3.out
   have c1:=cell_of_one e1
   have HE3:=Zh e1
   have HR3:=Zh hrow
   have HJ3:=Zh hJA
   clear e1 hJA
   by_cases hlt:i < 512
   ·have t0:decide ((i:Int) < 512) = true:=by simp;omega
    have hiL:i < L.length:=by rw [HL.out];exact hlt
    obtain ⟨b,off,hb,_,hcc⟩:=hrow.at (i:=i) hiL
    simp only [Option.some.injEq,Addr.mk.injEq,and_true] at hb
    obtain ⟨rfl,rfl⟩:=hb
    have hst:=(HST.out (512 * r + i)).2
    rw [show (512 * r + i) % 512 = i by omega] at hst
    have hna:=HNA.out i hlt
    rw [<- Zba hiL,Nat.zero_add] at hcc
    have HMA:=Zh (show maskAt (512 * r + i) = maskSum (512 * r + i + 1) - 2 from rfl)
    have HS3:=Zh (show 512 * r + i + 1 = 512 * r + (i + 1) by omega)
    generalize L.getD i 0 = k at *
    generalize hs0:maskSum (512 * r + i) = s0 at *
    generalize hs1:maskSum (512 * r + i + 1) = s1 at *
    have HS1:=Zh hs1
    have v1:IntKind.i64.wrap ((s0:Int) + (k:Int)) = (s1:Int):=by rw [IntWalk.i64_in _ (by omega)];omega
    have v2:((s0:Int) + (k:Int)) = (s1:Int):=by omega
    obtain ⟨m,hm⟩:∃ m,s1 - 2 = m:=⟨_,rfl⟩
    have v3:IntKind.i64.wrap ((s1:Int) - 2) = (m:Int):=by rw [IntWalk.i64_in _ (by omega)];omega
    have v4:((s1:Int) - 2) = (m:Int):=by omega
    rw [hm] at HMA
    clear hrow hs0 hs1 hst
    by_cases hge:n <= m
    ·have v5:decide (n <= m) = true:=decide_eq_true hge
     have HFN:=Zh (Zjh HL3.out (by rw [HMA.out];exact hge))
     clear hm
     gi_wp2_with fail
     refine ⟨fun _ h=>(by cases h),?_⟩
     gi_wp2_with fail
     refine bodyPost_ret (results_none rfl _ _ _) rfl ?_
     exact .inl ⟨by rw [<- HFN.out];exact HJ3.out,_,rfl⟩
    ·have v5:decide (n <= m) = false:=decide_eq_false hge
     have hmore:=Zsq n (512 * r + i) HL3.out (by rw [HMA.out];omega)
     obtain ⟨fn,tmps,assign,body,hy,hR⟩:=HY.out _ _ hmore HJ3.out hz3
     have HR:=Zh hR
     unfold maskRow at hy
     rw [HMA.out] at hy
     clear hR hm
     gi_wp2_with fail
     refine (Zej HR.out).mono ?_
     rintro e W' (⟨rfl,hJ',hk'⟩ | ⟨rfl,hJx'⟩)
     ·have HE4:=Zh (Zac HE3.out hk' (fun t=>(HU.out _ t).2 rfl))
      have HR4:=Zh (HR3.out.sameAt hk'.size (hk'.block g (by omega) (fun t=>by have:=(HU.out _ t).1;omega)))
      have HJ4:=Zh hJ'
      have hz4:=Nat.le_trans hz3 hk'.size
      clear hJ' hk' hy
      gi_wp2_with fail
      go_roundw
      case rel =>
       refine ⟨i + 1,by go_num,by omega,by rw [<- HS3.out,HS1.out],hz4,HE4.out,HR4.out,by rw [<- HS3.out];exact HJ4.out,fun j hj=>?_⟩
       rcases Nat.lt_or_ge j (512 * r + i) with h | h
       ·exact HL3.out j h
       ·obtain rfl:j = 512 * r + i:=by omega
        rw [HMA.out];omega
      case measure=>simp [intOf];omega
     ·gi_wp2_with fail
      refine bodyPost_ret (results_none rfl _ _ _) rfl ?_
      exact .inr ⟨_,hmore,hJx',_,rfl⟩
   ·obtain rfl:i = 512:=by omega
    have HS3:=Zh (show 512 * r + 512 = 512 * (r + 1) by omega)
    have hgrow:=Zdn (show 512 * r + 1 <= 512 * r + 512 by omega)
    have hgrow2:=(Zbh (512 * r)).1
    clear hrow hlt hi
    gi_wp2_with fail
    go_roundw
    case rel=>exact ⟨r + 1,by rw [HS3.out],hz3,HE3.out,by rw [<- HS3.out];exact HJ3.out,by rw [<- HS3.out];exact HL3.out⟩
    case measure=>simp [intOf];omega
end Go.Proofs.Ytnkpnjnfddjfpaa

namespace Go.Proofs.Ytnkpnjnfddjfpaa.M27
theorem Zkr (v:Nat):2 * v % 4294967296 = (v <<< 1) % 2 ^ 32:=by
 rw [Nat.shiftLeft_eq,Nat.mul_comm]
theorem Zuh (a b:Nat):2 * (a ^^^ b) % 4294967296 = (2 * a % 4294967296) ^^^ (2 * b % 4294967296):=by
 rw [Zkr,Zkr,Zkr,Nat.shiftLeft_xor_distrib,Nat.xor_mod_two_pow]
theorem Zug {v:Nat} (h:v < 4294967296):decide (2147483648 <= v) = v.testBit 31:=by
 rw [Nat.testBit_eq_decide_div_mod_eq]
 have:v / 2 ^ 31 = v / 2147483648:=rfl
 by_cases h1:2147483648 <= v
 ·have e:v / 2147483648 = 1:=by omega
  rw [this,e];simp [h1]
 ·have e:v / 2147483648 = 0:=by omega
  rw [this,e];simp [h1]
theorem Zdk {v:Nat} (h:v < 4294967296):crcBit v = (2 * v % 4294967296) ^^^ (if v.testBit 31 = true then 79764919 else 0):=by
 unfold crcBit
 rw [<- Zug h]
 by_cases h1:2147483648 <= v
 ·simp only [h1,if_true,decide_true];rfl
 ·simp only [h1,if_false,decide_false];simp
theorem Zbm {a b:Nat} (ha:a < 4294967296) (hb:b < 4294967296):a ^^^ b < 4294967296:=Nat.xor_lt_two_pow (n:=32) ha hb
theorem Zaj {v:Nat} (h:v < 4294967296):crcBit v < 4294967296:=by
 rw [Zdk h]
 exact Zbm (by omega) (by split <;> omega)
theorem Zbe {a b:Nat} (ha:a < 4294967296) (hb:b < 4294967296):crcBit (a ^^^ b) = crcBit a ^^^ crcBit b:=by
 rw [Zdk ha,Zdk hb,Zdk (Zbm ha hb),Zuh,Nat.testBit_xor]
 generalize 2 * a % 4294967296 = x
 generalize 2 * b % 4294967296 = y
 cases a.testBit 31 <;> cases b.testBit 31 <;> simp only [Bool.false_eq_true,if_false,if_true,Bool.xor_false,Bool.false_xor,Bool.xor_self,Bool.bne_false,Bool.bne_true,Bool.not_false,Bool.not_true,Nat.xor_zero]
 ·exact Nat.xor_assoc _ _ _
 ·rw [Nat.xor_assoc,Nat.xor_comm y,<- Nat.xor_assoc]
 ·rw [Nat.xor_assoc x,Nat.xor_comm 79764919 (y ^^^ 79764919),Nat.xor_assoc y,Nat.xor_self,Nat.xor_zero]
def it8 (v:Nat):Nat:=crcBit (crcBit (crcBit (crcBit (crcBit (crcBit (crcBit (crcBit v)))))))
theorem Zsl {a b:Nat} (ha:a < 4294967296) (hb:b < 4294967296):it8 (a ^^^ b) = it8 a ^^^ it8 b:=by
 have a1:=Zaj ha
 have a2:=Zaj a1
 have a3:=Zaj a2
 have a4:=Zaj a3
 have a5:=Zaj a4
 have a6:=Zaj a5
 have a7:=Zaj a6
 have b1:=Zaj hb
 have b2:=Zaj b1
 have b3:=Zaj b2
 have b4:=Zaj b3
 have b5:=Zaj b4
 have b6:=Zaj b5
 have b7:=Zaj b6
 unfold it8
 rw [Zbe ha hb,Zbe a1 b1,Zbe a2 b2,Zbe a3 b3,Zbe a4 b4,Zbe a5 b5,Zbe a6 b6,Zbe a7 b7]
theorem Zsk {v:Nat} (h:v < 4294967296):it8 v < 4294967296:=Zaj (Zaj (Zaj (Zaj (Zaj (Zaj (Zaj (Zaj h)))))))
theorem Zbo {v:Nat} (h:v < 2147483648):crcBit v = 2 * v:=by
 unfold crcBit;rw [if_neg (by omega)];omega
theorem Zyg {v:Nat} (h:v < 16777216):it8 v = v * 256:=by
 unfold it8
 rw [Zbo (v:=v) (by omega),Zbo (v:=2 * v) (by omega),Zbo (v:=2 * (2 * v)) (by omega),Zbo (v:=2 * (2 * (2 * v))) (by omega),Zbo (v:=2 * (2 * (2 * (2 * v)))) (by omega),
  Zbo (v:=2 * (2 * (2 * (2 * (2 * v))))) (by omega),Zbo (v:=2 * (2 * (2 * (2 * (2 * (2 * v)))))) (by omega),Zbo (v:=2 * (2 * (2 * (2 * (2 * (2 * (2 * v))))))) (by omega)]
 omega
theorem split24 (v:Nat):v = (v / 16777216 * 16777216) ^^^ (v % 16777216):=by
 apply Nat.eq_of_testBit_eq
 intro i
 have e:(16777216:Nat) = 2 ^ 24:=rfl
 rw [Nat.testBit_xor,e,Nat.testBit_mul_two_pow,Nat.testBit_mod_two_pow,Nat.testBit_div_two_pow]
 by_cases h:i < 24
 ·simp [h,show ¬ 24 <= i by omega]
 ·simp [h,show 24 <= i by omega]
theorem Zun (a b:Nat):(a ^^^ b) * 16777216 = (a * 16777216) ^^^ (b * 16777216):=by
 have h:=Nat.shiftLeft_xor_distrib (a:=a) (b:=b) (i:=24)
 rw [Nat.shiftLeft_eq,Nat.shiftLeft_eq,Nat.shiftLeft_eq] at h
 exact h
theorem Zlc (c:Nat):crcTab c = it8 (c * 16777216):=rfl
theorem Ziy {v c:Nat} (hv:v < 4294967296) (hc:c < 256):crcStep v c = it8 v ^^^ it8 (c * 16777216):=by
 have h1:it8 v = it8 (v / 16777216 * 16777216) ^^^ (v % 16777216 * 256):=by
  have:=split24 v
  rw [<- Zyg (v:=v % 16777216) (by omega),<- Zsl (by omega) (by omega),<- this]
 have hd:v / 16777216 < 2 ^ 8:=by omega
 have hx:(v / 16777216) ^^^ c < 256:=Nat.xor_lt_two_pow (n:=8) hd hc
 show (v * 256 % 4294967296) ^^^ crcTab ((v / 16777216) ^^^ c) = _
 rw [Zlc,Zun,Zsl (by omega) (by omega),h1,show v * 256 % 4294967296 = v % 16777216 * 256 by omega]
 rw [<- Nat.xor_assoc,Nat.xor_comm (v % 16777216 * 256)]
theorem Zpn {v c:Nat} (hv:v < 4294967296) (hc:c < 256):crcStep v c < 4294967296:=by
 rw [Ziy hv hc];exact Zbm (Zsk hv) (Zsk (by omega))
def crcOne (c k v:Nat):Nat:=if (c / 2 ^ k + v / 2147483648) % 2 = 1 then (2 * v % 4294967296) ^^^ 79764919 else 2 * v % 4294967296
def crcRun (c:Nat):Nat -> Nat -> Nat
 | 0,v=>v
 | k + 1,v=>crcRun c k (crcOne c k v)
theorem Zht {c k v:Nat} (h:v < 4294967296):crcOne c k v = crcBit (v ^^^ ((c / 2 ^ k % 2) * 2147483648)):=by
 have hb:(c / 2 ^ k % 2) * 2147483648 < 4294967296:=by omega
 rw [Zbe h hb,Zdk h]
 have ht:=Zug h
 unfold crcOne
 generalize c / 2 ^ k = d at *
 rcases (by omega:d % 2 = 0 \/ d % 2 = 1) with h0 | h0
 ·rw [h0]
  have e:crcBit (0 * 2147483648) = 0:=by decide
  rw [e,Nat.xor_zero]
  by_cases h1:2147483648 <= v
  ·rw [if_pos (by omega),if_pos (by rw [<- ht];simpa using h1)]
  ·rw [if_neg (by omega),if_neg (by rw [<- ht];simpa using h1),Nat.xor_zero]
 ·rw [h0]
  have e:crcBit (1 * 2147483648) = 79764919:=by decide
  rw [e]
  by_cases h1:2147483648 <= v
  ·rw [if_neg (by omega),if_pos (by rw [<- ht];simpa using h1),Nat.xor_assoc,Nat.xor_self,Nat.xor_zero]
  ·rw [if_pos (by omega),if_neg (by rw [<- ht];simpa using h1),Nat.xor_zero]
theorem Zrp {c k v:Nat} (h:v < 4294967296):crcOne c k v < 4294967296:=by
 rw [Zht h];exact Zaj (Zbm h (by omega))
def itN:Nat -> Nat -> Nat
 | 0,v=>v
 | k + 1,v=>itN k (crcBit v)
theorem Zix (c:Nat):∀ k u v,u < 4294967296 -> v < 4294967296 -> crcRun c k (u ^^^ v) = itN k u ^^^ crcRun c k v
 | 0,u,v,_,_=>rfl
 | k + 1,u,v,hu,hv=>by
  have e:crcOne c k (u ^^^ v) = crcBit u ^^^ crcOne c k v:=by
   rw [Zht (Zbm hu hv),Zht hv,Nat.xor_assoc,Zbe hu (Zbm hv (by omega))]
  show crcRun c k (crcOne c k (u ^^^ v)) = itN k (crcBit u) ^^^ crcRun c k (crcOne c k v)
  rw [e,Zix c k _ _ (Zaj hu) (Zrp hv)]
def byteOk (c:Nat):Bool:=crcRun c 8 0 == it8 (c * 16777216)
set_option maxRecDepth 100000 in
theorem Zvc:(List.range 256).all byteOk = true:=by decide +kernel
theorem Zrq {v c:Nat} (hv:v < 4294967296) (hc:c < 256):crcRun c 8 v = crcStep v c:=by
 have h:=Zix c 8 v 0 hv (by omega)
 rw [Nat.xor_zero] at h
 have hb:crcRun c 8 0 = it8 (c * 16777216):=by
  have:=(List.all_eq_true.1 Zvc) c (List.mem_range.2 hc)
  simpa [byteOk] using this
 rw [h,hb,Ziy hv hc]
 rfl
theorem Zpm (l:List Nat) (h:∀ x ∈ l,x < 256):∀ v,v < 4294967296 -> l.foldl crcStep v < 4294967296:=by
 induction l with
 | nil=>intro v hv;exact hv
 | cons a l ih =>
  intro v hv
  exact ih (fun x hx=>h x (List.mem_cons_of_mem _ hx)) _ (Zpn hv (h a (List.mem_cons_self ..)))
theorem Ziw (l:List Nat):crcHigh l < 4294967296:=by unfold crcHigh;omega
def crcAt (l:List Nat) (i:Nat):Nat:=(l.take i).foldl crcStep 4294967295
theorem Ziv (l:List Nat) (i:Nat) (hi:i < l.length):crcAt l (i + 1) = crcStep (crcAt l i) l[i]:=by
 unfold crcAt
 rw [List.take_succ_eq_append_getElem hi,List.foldl_append]
 rfl
theorem Zfa (l:List Nat) (h:∀ x ∈ l,x < 256) (i:Nat):crcAt l i < 4294967296:=Zpm _ (fun x hx=>h x (List.mem_of_mem_take hx)) _ (by decide)
theorem Zla (l:List Nat):crcHigh l = 4294967295 - crcAt l l.length:=by unfold crcHigh crcAt;rw [List.take_length]
theorem Zhb {a b:Nat} (ha:a < 4294967296) (hb:b < 4294967296):foldS a b < 4294967296:=Zbm (Zbm (by omega) (by omega)) hb
end Go.Proofs.Ytnkpnjnfddjfpaa.M27

namespace Go.Proofs.Ytnkpnjnfddjfpaa
open Go.RowKit Go.Shelf M01 M02 M27
theorem Zao (a b:Nat) (ha:a < 4294967296) (hb:b < 4294967296):bits .xor .u32 (a:Int) (b:Int) = ((a ^^^ b:Nat):Int):=by
 have hx:a ^^^ b < 2 ^ 32:=Nat.xor_lt_two_pow (by omega) (by omega)
 have h1:(BitVec.ofInt 32 (a:Int)).toNat = a:=by
  rw [BitVec.ofInt_natCast,BitVec.toNat_ofNat];exact Nat.mod_eq_of_lt (by omega)
 have h2:(BitVec.ofInt 32 (b:Int)).toNat = b:=by
  rw [BitVec.ofInt_natCast,BitVec.toNat_ofNat];exact Nat.mod_eq_of_lt (by omega)
 show IntKind.u32.wrap ((BitVec.ofInt 32 (a:Int) ^^^ BitVec.ofInt 32 (b:Int)).toNat:Int) = _
 rw [BitVec.toNat_xor,h1,h2,IntKind.wrap_u32]
 omega
theorem Zdb (a b:Nat) (ha:a < 256) (hb:b < 256):bits .xor .u8 (a:Int) (b:Int) = ((a ^^^ b:Nat):Int):=by
 have hx:a ^^^ b < 2 ^ 8:=Nat.xor_lt_two_pow (by omega) (by omega)
 have h1:(BitVec.ofInt 8 (a:Int)).toNat = a:=by
  rw [BitVec.ofInt_natCast,BitVec.toNat_ofNat];exact Nat.mod_eq_of_lt (by omega)
 have h2:(BitVec.ofInt 8 (b:Int)).toNat = b:=by
  rw [BitVec.ofInt_natCast,BitVec.toNat_ofNat];exact Nat.mod_eq_of_lt (by omega)
 show IntKind.u8.wrap ((BitVec.ofInt 8 (a:Int) ^^^ BitVec.ofInt 8 (b:Int)).toNat:Int) = _
 rw [BitVec.toNat_xor,h1,h2,IntKind.wrap_u8]
 omega
theorem Zrs (c:Nat) (hc:c < 256) (w:World):Calls Try.prog 68 #[.int .u32 (c:Nat)] w fun e w'=>e = .returned (.int .u32 (c * 16777216:Nat)) /\ w' = w:=by
 have h1:(c:Int) * 16777216 % 4294967296 = ((c * 16777216:Nat):Int):=by omega
 go_enter Try.func68,Try.ntmps68
 go_wp2
 go_ret
 exact ⟨by simp [h1],rfl⟩
theorem Zmy (v:Nat) (hv:v < 4294967296):bits .xor .u32 (2 * (v:Int) % 4294967296) (bits .and .u32 79764919 (-((v:Int) / 2147483648) % 4294967296)) = (crcBit v:Nat):=by
 have h1:2 * (v:Int) % 4294967296 = ((2 * v % 4294967296:Nat):Int):=by omega
 unfold crcBit
 by_cases h:2147483648 <= v
 ·rw [if_pos h]
  have h2:-((v:Int) / 2147483648) % 4294967296 = ((4294967295:Nat):Int):=by omega
  have h3:bits .and .u32 (79764919:Int) ((4294967295:Nat):Int) = ((79764919:Nat):Int):=Zcj 79764919 4294967295 (by omega) (by omega)
  rw [h2,h3,h1,Zao _ _ (by omega) (by omega)]
  rfl
 ·rw [if_neg h]
  have h2:-((v:Int) / 2147483648) % 4294967296 = ((0:Nat):Int):=by omega
  have h3:bits .and .u32 (79764919:Int) ((0:Nat):Int) = ((0:Nat):Int):=Zcj 79764919 0 (by omega) (by omega)
  rw [h2,h3,h1,Zao _ _ (by omega) (by omega),Nat.xor_zero]
theorem Zyb (v:Nat) (hv:v < 4294967296) (w:World):Calls Try.prog 69 #[.int .u32 (v:Nat)] w fun e w'=>e = .returned (.int .u32 (crcBit v:Nat)) /\ w' = w:=by
 have h1:(v:Int) * 2 % 4294967296 = ((2 * v % 4294967296:Nat):Int):=by omega
 go_enter Try.func69,Try.ntmps69
 go_wp2
 go_ret
 exact ⟨Zkl (Zmy v hv),rfl⟩
theorem Zvm (a b:Nat) (ha:a < 4294967296) (hb:b < 4294967296):bits .xor .u32 (bits .xor .u32 ((a:Int) * 2 % 4294967296) ((a:Int) / 2147483648)) (b:Int) = (foldS a b:Nat):=by
 have h1:(a:Int) * 2 % 4294967296 = ((2 * a % 4294967296:Nat):Int):=by omega
 have h2:(a:Int) / 2147483648 = ((a / 2147483648:Nat):Int):=by omega
 rw [h1,h2,Zao _ _ (by omega) (by omega),Zao _ _ (Zbm (by omega) (by omega)) hb]
 rfl
theorem Zvh (a b:Nat) (ha:a < 4294967296) (hb:b < 4294967296) (w:World):Calls Try.prog 31 #[.int .u32 (a:Nat),.int .u32 (b:Nat)] w fun e w'=>e = .returned (.int .u32 (foldS a b:Nat)) /\ w' = w:=by
 go_enter Try.func31,Try.ntmps31
 go_wp2
 go_ret
 exact ⟨Zkl (Zvm a b ha hb),rfl⟩
def crcCells (i:Nat):List Value:=(List.range 256).map fun k=>Value.int .u32 ((if k < i then crcTab k else 0:Nat):Nat)
theorem zeros256:Try.zeroCells97 = (crcCells 0).toArray:=by kernel_rfl
theorem Zbg (i:Nat):(crcCells i).length = 256:=by simp [crcCells]
theorem Zlb (i:Nat) (hi:i < 256):((crcCells i).toArray.setIfInBounds i (.int .u32 (crcTab i:Nat))) = (crcCells (i + 1)).toArray:=by
 apply Array.ext'
 simp only [List.setIfInBounds_toArray]
 apply List.ext_getElem?
 intro j
 rcases Nat.lt_or_ge j 256 with hj | hj
 ·by_cases hjk:j = i
  ·subst hjk
   rw [List.getElem?_set_self (by rw [Zbg];exact hj)]
   simp [crcCells,hj]
  ·rw [List.getElem?_set_ne (by omega)]
   simp only [crcCells,List.getElem?_map,List.getElem?_range hj,Option.map_some]
   by_cases h:j < i
   ·rw [if_pos h,if_pos (by omega)]
   ·rw [if_neg h,if_neg (by omega)]
 ·rw [List.getElem?_eq_none (by rw [List.length_set,Zbg];exact hj),List.getElem?_eq_none (by rw [Zbg];exact hj)]
theorem Zhs (i k:Nat) (hk:k < 256):(crcCells i)[k]? = some (.int .u32 ((if k < i then crcTab k else 0:Nat):Nat)):=by
 simp [crcCells,hk]
theorem Zrr (c:Nat) (hc:c < 256):crcTab c < 4294967296:=by rw [Zlc];exact Zsk (by omega)
theorem info256:(Try.prog.info? 97).map (·.size) = some 256:=by kernel_rfl
def itJ:Nat -> Nat -> Nat
 | 0,v=>v
 | j + 1,v=>crcBit (itJ j v)
theorem Zxi:∀ j v,v < 4294967296 -> itJ j v < 4294967296
 | 0,v,h=>h
 | j + 1,v,h=>Zaj (Zxi j v h)
theorem ld256 (w:World) (b:Nat) (cs:Array Value) (hc:cs.size = 256) (h:w.heap[b]? = some (.cells cs 97 (0,0))):(Instr.loadAt 97 (.pointer (some ⟨b,0,none⟩))).run Try.prog w = .ok (.agg cs) w:=by
 have:=run_loadVar_row (P:=Try.prog) w b 97 97 cs (0,0) _ h Try.underlying97 rfl (by rw [hc];exact info256)
 simp [Instr.loadAt,Instr.sureAddr,this]
theorem Zxc {o:Oper} {a:Act} {w:World} {K:Act -> World -> Prop} {Q:Exit -> Act -> World -> Prop} (x:Operand) (b:Nat) (cs:Array Value) (ho:o.op = .load 97 x) (hx:a.eval x = .pointer (some ⟨b,0,none⟩)) (hc:cs.size = 256) (h:w.heap[b]? = some (.cells cs 97 (0,0)))
  (hK:K (a.put o.dst (.agg cs)) w):o.wp Try.prog a w K Q:=by
 unfold Oper.wp execOp
 simp only [ho,hx,Sem.run_bind,ld256 w b cs hc h,Result.andThen]
 exact hK
theorem stc256 (w:World) (b:Nat) (t:TypeId) (old cs:Array Value) (ho:old.size = cs.size) (h1:cs.all (·.oneCell') = true) (h:w.heap[b]? = some (.cells old t (0,0))):(storeCells ⟨b,0,none⟩ cs.toList).run Try.prog w = .ok () (w.setRow b cs):=by
 have:=run_storeCells_from (P:=Try.prog) b t cs.toList 0 old w h (by simp;omega) (fun v hv=>(Array.all_eq_true_iff_forall_mem.1 h1) v (by simpa using hv))
 simpa using this
theorem Zgr (i:Nat):(crcCells i).toArray.all (·.oneCell') = true:=by
 rw [Array.all_eq_true_iff_forall_mem]
 intro x hx
 simp only [crcCells,List.mem_toArray] at hx
 obtain ⟨k,_,rfl⟩:=List.mem_map.1 hx
 rfl
theorem below_setRow {n:Nat} {w A:World} (h:Below n w A) {b:Nat} (hb:n <= b) (cs:Array Value):Below n w (A.setRow b cs) :=
 ⟨h.os,h.tape,h.output,by simpa [World.setRow] using h.size,fun k hk=>by
  show (A.heap.modify b _)[k]? = _
  rw [Array.getElem?_modify,if_neg (by omega)]
  exact h.block k hk⟩
set_option maxRecDepth 100000 in
set_option maxHeartbeats 6400000 in
theorem Zrt (w:World):Calls Try.prog 67 #[.func (Fn.func 68) #[] #[],.func (Fn.func 69) #[] #[]] w fun e w'=>e = .returned (.agg (crcCells 256).toArray) /\ Below w.heap.size w w':=by
 obtain ⟨fb,hfb⟩:∃ fb,w.heap.size = fb:=⟨_,rfl⟩
 have HFB:=Zh hfb
 go_enter Try.func67,Try.ntmps67
 go_wp2_with fail
 have hb0:Below fb w ((w.alloc (.cells Try.zeroCells97 97)).alloc (.cells Try.zeroCells97 97)):=by rw [<- hfb];exact (Zai w _).trans ((Zai _ _).mono (by simp))
 have h0:((w.alloc (.cells Try.zeroCells97 97)).alloc (.cells Try.zeroCells97 97)).heap[fb]? = some (.cells (crcCells 0).toArray 97 (0,0)):=by
  rw [<- zeros256,<- hfb]
  exact (Below.heap_alloc _ _ _ (by simp)).trans (World.alloc_heap_new w _)
 have h1:((w.alloc (.cells Try.zeroCells97 97)).alloc (.cells Try.zeroCells97 97)).heap[fb + 1]? = some (.cells (crcCells 0).toArray 97 (0,0)):=by
  rw [<- zeros256]
  have:=World.alloc_heap_new (w.alloc (.cells Try.zeroCells97 97)) (.cells Try.zeroCells97 97)
  rwa [show (w.alloc (.cells Try.zeroCells97 97)).heap.size = fb + 1 by simp [hfb]] at this
 generalize (w.alloc (.cells Try.zeroCells97 97)).alloc (.cells Try.zeroCells97 97) = w1 at *
 have HB0:=Zh hb0
 have H0:=Zh h0
 have H1:=Zh h1
 clear hb0 h0 h1 hfb
 go_loopw [8] (fun iv A=>∃ i:Nat,iv = .int .i64 (i:Nat) /\ i <= 256 /\ A.heap[fb]? = some (.cells (crcCells 0).toArray 97 (0,0)) /\ A.heap[fb + 1]? = some (.cells (crcCells i).toArray 97 (0,0)) /\ Below fb w A) (fun iv _=>256 - (intOf iv).toNat)
 case atStart=>exact ⟨0,rfl,by omega,H0.out,H1.out,HB0.out⟩
 case round =>
  clear H0 H1 HB0
  obtain ⟨i,rfl,hi,h0,h1,hb⟩:=hrel
  have HB:=Zh hb
  clear hb
  by_cases hlt:i < 256
  ·have t0:decide ((i:Int) < 256) = true:=by simp;omega
   have t1:(i:Int) % 4294967296 = (i:Int):=by omega
   have t2:(i:Int) < 256:=by omega
   have hlt0:i * 16777216 < 4294967296:=by omega
   have H0:=Zh h0
   have H1:=Zh h1
   clear h0 h1
   go_wp2_with fail
   refine (Zrs i hlt _).mono ?_
   rintro e w2 ⟨rfl,h2⟩
   rw [h2]
   clear h2 w2
   generalize hv0:i * 16777216 = v0 at *
   have HV0:=Zh hv0
   clear hv0
   go_wp2_with fail
   go_loopw [7,15] (fun vv jv A=>∃ j:Nat,jv = .int .i64 (j:Nat) /\ j <= 8 /\ vv = .int .u32 (itJ j v0:Nat) /\ A = wr) (fun _ jv _=>8 - (intOf jv).toNat)
   case atStart=>exact ⟨0,rfl,by omega,rfl,rfl⟩
   case round =>
    obtain ⟨j,rfl,hj,rfl,hwr⟩:=hrel
    subst hwr
    by_cases hlj:j < 8
    ·have t3:decide ((j:Int) < 8) = true:=by simp;omega
     have hjl:=Zxi j v0 hlt0
     have HJ:=Zh (show itJ (j + 1) v0 = crcBit (itJ j v0) from rfl)
     generalize itJ j v0 = v at *
     go_wp2_with fail
     refine (Zyb v hjl _).mono ?_
     rintro e w2 ⟨rfl,h2⟩
     rw [h2]
     clear h2 w2
     generalize crcBit v = v1 at *
     go_wp2
     go_roundw
     case rel=>exact ⟨j + 1,by go_num,by omega,by rw [HJ.out],trivial⟩
     case measure=>simp [intOf];omega
    ·obtain rfl:j = 8:=by omega
     have HT:=Zh (show itJ 8 v0 = crcTab i by rw [<- HV0.out];rfl)
     rw [HT.out]
     have hc1:=H1.out
     have c1:wr.cell? ⟨fb + 1,i,none⟩ = some (.int .u32 0):=by
      have:=Zhs i i hlt
      rw [if_neg (by omega)] at this
      simp [World.cell?,H1.out,this]
     have d1:wr.frozen? ⟨fb + 1,i,none⟩ = false:=by simp [World.frozen?,H1.out]
     have HS:=Zh (Zbc (i:=i) (x:=.int .u32 (crcTab i:Nat)) H1.out)
     rw [Zlb i hlt] at HS
     clear hc1 HT hlj hj
     generalize crcTab i = tv at *
     go_wp2_with fail
     go_roundw
     case rel=>exact ⟨i + 1,by go_num,by omega,(Below.heap_setCell _ _ _ _ (by show fb ≠ fb + 1;omega)).trans H0.out,HS.out,HB.out.setCell (by show fb <= fb + 1;omega) _⟩
     case measure=>simp [intOf];omega
  ·obtain rfl:i = 256:=by omega
   have HR:=Zh (setRow_heap wr fb _ (crcCells 256).toArray _ _ h0)
   have HB2:=Zh (below_setRow HB.out (Nat.le_refl fb) (crcCells 256).toArray)
   have H0:=Zh h0
   have H1:=Zh h1
   have hs1:(crcCells 256).toArray.size = 256:=by simp [Zbg]
   have hs0:(crcCells 0).toArray.size = 256:=by simp [Zbg]
   have ho1:=Zgr 256
   clear h0 h1
   obtain ⟨cs,hcs⟩:∃ cs,(crcCells 256).toArray = cs:=⟨_,rfl⟩
   have HCS:=Zh hcs
   rw [hcs] at hs1 ho1 HR HB2 H1
   clear hcs
   generalize (crcCells 0).toArray = cs0 at *
   go_wp2_with fail
   refine Zxc (.tmp 5) (fb + 1) cs rfl rfl hs1 H1.out ?_
   have hst:=stc256 wr fb _ cs0 cs (by omega) ho1 H0.out
   go_wp2_with fail
   refine bodyPost_ret (results_cell_row (P:=Try.prog) rfl _ _ fb 97 cs (0,0) _ rfl HR.out Try.underlying97 rfl (by rw [hs1];exact info256)) rfl ?_
   exact ⟨by rw [HCS.out],by rw [HFB.out];exact HB2.out⟩
end Go.Proofs.Ytnkpnjnfddjfpaa

namespace Go.Proofs.Ytnkpnjnfddjfpaa.M27
def MSt (i lf p t:Nat):Prop:=maskSum i = p + lf /\ ((t = i /\ lf <= 1) \/ (t + 1 = i /\ 2 <= lf /\ maskSum t <= p))
theorem Zaaj:MSt 0 0 0 0:=⟨rfl,.inl ⟨rfl,by omega⟩⟩
theorem Zvw (i p t : Nat) (h : MSt i 0 p t) : t = i ∧ ∃ y, nums.getD (i % 512) 0 = y + 1 ∧ 1 ≤ y ∧ y ≤ 999 ∧ (y = 1 → maskAt t = p ∧ MSt (i + 1) y (p + 1) (t + 1)) ∧ (y ≠ 1 → MSt (i + 1) y (p + 1) t) := by
  obtain ⟨h1, h2⟩ := h
  have h3 := Zbh i
  have e : maskSum (i + 1) = maskSum i + nums.getD (i % 512) 0 := rfl
  rw [e] at h3
  obtain ⟨y, hy⟩ : ∃ y, nums.getD (i % 512) 0 = y + 1 := ⟨nums.getD (i % 512) 0 - 1, by omega⟩
  rw [hy] at h3 e
  refine ⟨by omega, y, hy, by omega, by omega, fun h => ?_, fun h => ?_⟩
  · obtain rfl : t = i := by omega
    refine ⟨by unfold maskAt; omega, by omega, .inl ⟨rfl, by omega⟩⟩
  · exact ⟨by omega, .inr ⟨by omega, by omega, by obtain rfl : t = i := by omega
                                                  omega⟩⟩
theorem Zym {i lf p t:Nat} (h:MSt i (lf + 1) p t):(lf = 1 -> maskAt t = p /\ MSt i lf (p + 1) (t + 1)) /\ (lf ≠ 1 -> MSt i lf (p + 1) t):=by
 obtain ⟨h1,h2⟩:=h
 refine ⟨fun h=>?_,fun h=>⟨by omega,?_⟩⟩
 ·obtain rfl:i = t + 1:=by omega
  exact ⟨by unfold maskAt;omega,by omega,.inl ⟨rfl,by omega⟩⟩
 ·rcases h2 with ⟨h2,h3⟩ | ⟨h2,h3,h4⟩
  ·exact .inl ⟨h2,by omega⟩
  ·exact .inr ⟨h2,by omega,by omega⟩
theorem Zyl {i lf n t:Nat} (h:MSt i lf n t):t = maskCnt n:=by
 obtain ⟨h1,h2⟩:=h
 refine Zjh (fun j hj=>?_) ?_
 ·have h3:=Zdn (show j + 1 <= t by omega)
  have h4:=Zec (j + 1)
  unfold maskAt
  rcases h2 with ⟨rfl,h2⟩ | ⟨h2,h5,h6⟩ <;> omega
 ·have h3:=Zbh t
  unfold maskAt
  rcases h2 with ⟨rfl,h2⟩ | ⟨rfl,h5,h6⟩ <;> omega
end Go.Proofs.Ytnkpnjnfddjfpaa.M27
namespace Go.Proofs.Ytnkpnjnfddjfpaa
open Go.RowKit M01 M02 M10 M27
set_option maxRecDepth 100000 in
set_option maxHeartbeats 3200000 in
theorem Zmb (a:Option Addr) (cap:Nat) (bl:List Nat) (w:World) (hr:RowN .u8 w a cap bl) (hb:∀ x ∈ bl,x < 256) (hl:bl.length <= 1000000) :
  Calls Try.prog 70 #[.slice a bl.length cap] w fun e w'=>∃ g c,e = .returned (.slice g bl.length c) /\ OwnN 5 .u8 w' w.heap.size g c (masked bl) /\ Below w.heap.size w w':=by
 have HR:=Zh hr
 have HB:=Zh hb
 obtain ⟨q,hq⟩:∃ q,w.heap.size = q:=⟨_,rfl⟩
 rw [hq]
 have HQ:=Zh hq
 have HNL:=Zh Zfg
 have HZ:=Zh Zvw
 have hnm:∀ w,Calls Try.prog 125 #[] w fun e w'=>∃ g,e = .returned (.slice (some ⟨g,0,none⟩) 512 512) /\ RowN .i64 w' (some ⟨g,0,none⟩) 512 nums /\ w.heap.size <= g /\ g < w'.heap.size /\ Below w.heap.size w w':=fun w =>
  (Zkj w).mono fun e w' h=>by
   obtain ⟨rfl,rfl⟩:=h
   exact ⟨_,rfl,Zom w,Nat.le_refl _,by simp,Zai w _⟩
 have HN:=Zh hnm
 clear hr hb hq hnm
 generalize nums = L at *
 go_enter Try.func70,Try.ntmps70
 go_wp2_with (at_builtin;refine appAnyN Zbl rfl (.tmp 8) (.tmp 9) rfl (a:=some ⟨w.heap.size,0,none⟩) (cap:=0) (l:=[]) (ys:=bl) (base:=w.heap.size) rfl (OwnN.lit0 _ _ _ _ (Nat.le_refl _)) rfl rfl (HR.out.below (Zai w _)) (by simp;omega) (by simp;omega) (by simp) ?_;intro a1 cap1 w1 hown1 hg1 hb1;simp only [List.nil_append] at hown1;simp only [List.length_nil,Nat.zero_add];have HO1:=Zh (HQ.out ▸ hown1:OwnN 5 .u8 w1 q a1 cap1 bl);have HB1:=Zh (HQ.out ▸ ((Zai w _).trans hb1):Below q w w1);clear hown1 hg1 hb1)
 go_wp2_with fail
 refine (HN.out _).mono ?_
 rintro e w2 ⟨nb,rfl,hrow,hg,hg2,hb2⟩
 have hq1:q <= w1.heap.size:=by have:=HB1.out.size;have:=HQ.out;omega
 have HNR:=Zh hrow
 have HNB:=Zh hg2
 have HE:=Zh (HB1.out.trans (hb2.mono hq1))
 have HO:=Zh (HO1.out.below hb2)
 have HGN:Hid (∀ g,a1 = some ⟨g,0,none⟩ -> g < nb):=fun g h=>by
  rcases HO1.out.form with ⟨h1,_⟩ | ⟨g0,h1,_,h2⟩
  ·rw [h1] at h;cases h
  ·rw [h1] at h;cases h;omega
 clear hrow hg hg2 hb2 hq1 HO1 HB1
 go_wp2_with fail
 go_loopw [5,6,7] (fun iv lv pv A=>∃ p i lf t:Nat,p <= bl.length /\ i <= p /\ lf <= 1000 /\ iv = .int .i64 (i:Nat) /\ lv = .int .i64 (lf:Nat) /\ pv = .int .i64 (p:Nat) /\ Hid (MSt i lf p t) /\ Hid (OwnN 5 .u8 A q a1 cap1 (turnAt bl t)) /\ Hid (RowN .i64 A (some ⟨nb,0,none⟩) 512 L /\ nb < A.heap.size) /\ Hid (Below q w A)) (fun _ _ pv _=>bl.length - (intOf pv).toNat)
 case atStart=>exact ⟨0,0,0,0,Nat.zero_le _,Nat.zero_le _,Nat.zero_le _,rfl,rfl,rfl,Zaaj,HO.out,⟨HNR.out,HNB.out⟩,HE.out⟩
 case round =>
  clear HO HNR HNB HE
  obtain ⟨p,i,lf,t,hp,hip,hlf,rfl,rfl,rfl,HM,HO,HNRB,HE⟩:=hrel
  have HNR:=Zh HNRB.out.1
  have HNB:=Zh HNRB.out.2
  clear HNRB
  have HTL:=Zh (Zaw bl t)
  have HTB:=Zh (Zch bl HB.out t)
  by_cases hlt:p < bl.length
  case neg =>
   obtain rfl:p = bl.length:=by omega
   have t0:decide (bl.length < bl.length) = false:=by simp
   go_wp2_with fail
   go_ret
   refine ⟨a1,cap1,rfl,?_,HE.out⟩
   have:=HO.out
   rw [Zyl HM.out] at this
   exact this
  have t0:decide (p < bl.length) = true:=by simp;omega
  cases lf with
  | zero =>
   obtain ⟨hti,y,hy,hy1,hy9,hm1,hm2⟩:=HZ.out i p t HM.out
   obtain ⟨k,hk⟩:∃ k,i % 512 = k:=⟨_,rfl⟩
   have hk5:k < 512:=by omega
   have tk:Int.tmod (i:Int) 512 = (k:Int):=by rw [Int.tmod_eq_emod_of_nonneg (by omega)];omega
   obtain ⟨nb2,off2,e2,_,hcn⟩:=HNR.out.at (i:=k) (by rw [HNL.out];exact hk5)
   cases e2
   rw [hk,List.getD_eq_getElem?_getD,List.getElem?_eq_getElem (by rw [HNL.out];exact hk5)] at hy
   rw [show L[k]'(by rw [HNL.out];exact hk5) = y + 1 from hy,Nat.zero_add] at hcn
   have hyi:(((y + 1:Nat):Int)) - 1 = (y:Int):=by omega
   by_cases h1:y = 1
   ·subst h1
    obtain ⟨hmp,hms⟩:=hm1 rfl
    have HMP:=Zh hmp
    have HM2:=Zh hms
    clear hy hm1 hm2 hk hmp hms hti
    obtain ⟨g,rfl,hg1,hg2,hc,hf⟩:=HO.out.at (i:=p) (by rw [HTL.out];exact hlt)
    have hst:=HO.out.stored p ((turnAt bl t).getD p 0 ^^^ 1)
    rw [<- Zba (by rw [HTL.out];exact hlt)] at hc
    have hx1:(turnAt bl t).getD p 0 < 256:=by rw [Zba (by rw [HTL.out];exact hlt)];exact HTB.out _ (List.getElem_mem _)
    have HT1:Hid (turnAt bl (t + 1) = (turnAt bl t).set p ((turnAt bl t).getD p 0 ^^^ 1)):=by unfold Hid;rw [<- HMP.out];rfl
    have hbx:bits .xor .u8 (((turnAt bl t).getD p 0:Nat):Int) 1 = (((turnAt bl t).getD p 0 ^^^ 1:Nat):Int):=Zdb _ 1 hx1 (by decide)
    have HST:=Zh hst
    have HG1:=Zh hg1
    have HGN1:=Zh (HGN.out g rfl)
    clear hst hx1 hg1 hg2
    generalize (turnAt bl t).getD p 0 ^^^ 1 = y1 at *
    generalize (turnAt bl t).getD p 0 = x1 at *
    go_wp2_with fail
    go_roundw
    case rel =>
     refine ⟨p + 1,i + 1,1,t + 1,by omega,by omega,by omega,by go_num,by go_num,by go_num,HM2.out,?_,?_,?_⟩
     ·rw [HT1.out];exact HST.out.1
     ·refine ⟨HNR.out.same HST.out.2.size (fun x h0 hx=>HST.out.2.block _ (by cases hx;exact HNB.out) (fun e=>by cases hx;cases e;exact absurd HGN1.out (Nat.lt_irrefl _))),Nat.lt_of_lt_of_le HNB.out HST.out.2.size⟩
     ·exact HE.out.setCell (HG1.out) _
    case measure=>simp [intOf];omega
   ·have HM2:=Zh (hm2 h1)
    have ty:((y:Int) == 1) = false:=beq_eq_false_iff_ne.2 (by omega)
    clear hy hm1 hm2 hk hti
    go_wp2_with fail
    go_roundw
    case rel=>exact ⟨p + 1,i + 1,y,t,by omega,by omega,by omega,by go_num,by go_num,by go_num,HM2.out,HO.out,⟨HNR.out,HNB.out⟩,HE.out⟩
    case measure=>simp [intOf];omega
  | succ lf =>
   obtain ⟨hm1,hm2⟩:=Zym HM.out
   have tz:(((lf + 1:Nat):Int) == 0) = false:=beq_eq_false_iff_ne.2 (by omega)
   have hli:(((lf + 1:Nat):Int)) - 1 = (lf:Int):=by omega
   by_cases h1:lf = 1
   ·subst h1
    obtain ⟨hmp,hms⟩:=hm1 rfl
    have HMP:=Zh hmp
    have HM2:=Zh hms
    clear hm1 hm2 hmp hms
    obtain ⟨g,rfl,hg1,hg2,hc,hf⟩:=HO.out.at (i:=p) (by rw [HTL.out];exact hlt)
    have hst:=HO.out.stored p ((turnAt bl t).getD p 0 ^^^ 1)
    rw [<- Zba (by rw [HTL.out];exact hlt)] at hc
    have hx1:(turnAt bl t).getD p 0 < 256:=by rw [Zba (by rw [HTL.out];exact hlt)];exact HTB.out _ (List.getElem_mem _)
    have HT1:Hid (turnAt bl (t + 1) = (turnAt bl t).set p ((turnAt bl t).getD p 0 ^^^ 1)):=by unfold Hid;rw [<- HMP.out];rfl
    have hbx:bits .xor .u8 (((turnAt bl t).getD p 0:Nat):Int) 1 = (((turnAt bl t).getD p 0 ^^^ 1:Nat):Int):=Zdb _ 1 hx1 (by decide)
    have HST:=Zh hst
    have HG1:=Zh hg1
    have HGN1:=Zh (HGN.out g rfl)
    clear hst hx1 hg1 hg2
    generalize (turnAt bl t).getD p 0 ^^^ 1 = y1 at *
    generalize (turnAt bl t).getD p 0 = x1 at *
    go_wp2_with fail
    go_roundw
    case rel =>
     refine ⟨p + 1,i,1,t + 1,by omega,by omega,by omega,by go_num,by go_num,by go_num,HM2.out,?_,?_,?_⟩
     ·rw [HT1.out];exact HST.out.1
     ·refine ⟨HNR.out.same HST.out.2.size (fun x h0 hx=>HST.out.2.block _ (by cases hx;exact HNB.out) (fun e=>by cases hx;cases e;exact absurd HGN1.out (Nat.lt_irrefl _))),Nat.lt_of_lt_of_le HNB.out HST.out.2.size⟩
     ·exact HE.out.setCell (HG1.out) _
    case measure=>simp [intOf];omega
   ·have HM2:=Zh (hm2 h1)
    have ty:((lf:Int) == 1) = false:=beq_eq_false_iff_ne.2 (by omega)
    clear hm1 hm2
    go_wp2_with fail
    go_roundw
    case rel=>exact ⟨p + 1,i,lf,t,by omega,by omega,by omega,by go_num,by go_num,by go_num,HM2.out,HO.out,⟨HNR.out,HNB.out⟩,HE.out⟩
    case measure=>simp [intOf];omega
end Go.Proofs.Ytnkpnjnfddjfpaa
