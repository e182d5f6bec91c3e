/- bunzip.mark. Arrays of bytes, held against each other. A range over a function whose iterator keeps memory of its own through all rounds, hands out what is told by a predicate of the world (it may hold addresses of new memory), and may panic. bunzip.blocks: contract as an iterator of parts. pressworkref27.stream: contract. A string's bytes as a new row: the run of the conversion. pressworkref27.File: contract. bunzip.Bunzip: the deferred closure. A region whose order is drawn and that holds guarded operations: each that is wanted leaves its own value (as Flow, with the guards' values kept). A list of 76 values, taken apart. -/
import Derived.Test.YtnkpnjnfddjfpaaW06
import Derived.Test.YtnkpnjnfddjfpaaW09
import Derived.Test.YtnkpnjnfddjfpaaW11
import Derived.Test.YtnkpnjnfddjfpaaW07
import Derived.Test.YtnkpnjnfddjfpaaW08
import Derived.Test.YtnkpnjnfddjfpaaW01
import Derived.Test.YtnkpnjnfddjfpaaW02
import Derived.Test.YtnkpnjnfddjfpaaW03
import Derived.Test.YtnkpnjnfddjfpaaW04
import Derived.Test.YtnkpnjnfddjfpaaW05
import Derived.Laws.StructEq
import Derived.KernelRfl
import Derived.StillTailTactics
import Derived.Lib.ConvBytes
set_option linter.unusedVariables false
set_option linter.unusedSimpArgs false
namespace Go.Proofs.Ytnkpnjnfddjfpaa
open Go.RowKit Go.Shelf M01 M02 M27
def MarkOut (w:World) (rp:Nat) (bs:List Nat) (R:Option (List Nat × Nat)) (e:Ending) (w':World):Prop :=
 match R with
 | some (m,a2)=>e = .returned (.agg (m.map fun (n:Nat)=>Value.int .u8 n).toArray) /\ RdM w' rp bs a2 /\ Only (fun b=>b = rp) w w'
 | none=>e = .panicked formP /\ Only (fun b=>b = rp) w w'
theorem six (l:List Nat) (h:l.length = 6):∃ a b c d e f,l = [a,b,c,d,e,f]:=by
 match l,h with
 | [a,b,c,d,e,f],_=>exact ⟨a,b,c,d,e,f,rfl⟩
theorem Zas {E:TypeId} {k:IntKind} {w:World} {base cap g:Nat} {l:List Nat} (h:OwnN E k w base (some ⟨g,0,none⟩) cap l) (j:Nat) (hj:j < l.length):w.cell? ⟨g,j,none⟩ = some (.int k (l.getD j 0:Nat)) /\ w.frozen? ⟨g,j,none⟩ = false:=by
 obtain ⟨g',hg,_,_,hc,hf⟩:=h.at hj
 simp only [Option.some.injEq,Addr.mk.injEq,and_true] at hg
 subst hg
 rw [List.getD_eq_getElem?_getD,List.getElem?_eq_getElem hj]
 exact ⟨hc,hf⟩
set_option maxRecDepth 100000 in
set_option maxHeartbeats 3200000 in
theorem Zxz (w:World) (rp at_:Nat) (bs:List Nat) (hrd:RdM w rp bs at_) :
  Calls Try.prog 62 #[.pointer (some ⟨rp,0,none⟩)] w (MarkOut w rp bs (bytesG (rv bs) 6 at_ [])):=by
 obtain ⟨R,hR⟩:∃ R,R = bytesG (rv bs) 6 at_ []:=⟨_,rfl⟩
 rw [<- hR]
 have HR:=Zh hR
 clear hR
 have hrp:=hrd.lt
 go_enter Try.func62,Try.ntmps62
 go_wp2_with fail
 have hO:=OwnN.lit (k:=.u8) 92 w w.heap.size [0,0,0,0,0,0] #[.int .u8 0,.int .u8 0,.int .u8 0,.int .u8 0,.int .u8 0,.int .u8 0] w.heap.size rfl rfl (Nat.le_refl _) (by decide)
 obtain ⟨mb,hmb⟩:∃ mb,w.heap.size = mb:=⟨_,rfl⟩
 have hon:Only (fun b=>b = rp) w (w.alloc (.cells #[.int .u8 0,.int .u8 0,.int .u8 0,.int .u8 0,.int .u8 0,.int .u8 0] 92)):=(Only.refl _ _).alloc _
 have hrd1:=hrd.only ((Only.refl (fun _=>False) w).alloc (.cells #[.int .u8 0,.int .u8 0,.int .u8 0,.int .u8 0,.int .u8 0,.int .u8 0] 92)) (fun b hb h=>h)
 have hs1:(w.alloc (.cells #[.int .u8 0,.int .u8 0,.int .u8 0,.int .u8 0,.int .u8 0,.int .u8 0] 92)).heap.size = mb + 1:=by rw [<- hmb];simp
 rw [hmb] at hO
 simp only [hmb]
 generalize w.alloc (.cells #[.int .u8 0,.int .u8 0,.int .u8 0,.int .u8 0,.int .u8 0,.int .u8 0] 92) = W1 at *
 have HO:=Zh hO
 have HON:=Zh hon
 have HRD:=Zh hrd1
 have HMB:=Zh hmb
 have hrp2:rp < mb:=by omega
 clear hO hon hrd1 hmb hrd hrp
 go_loopw [4] (fun iv A=>∃ (i at2:Nat) (out:List Nat),iv = .int .i64 (i:Nat) /\ i <= 6 /\ out.length = i /\ RdM A rp bs at2 /\ OwnN 92 .u8 A mb (some ⟨mb,0,none⟩) 6 (out ++ List.replicate (6 - i) 0) /\ Only (fun b=>b = rp) w A /\ Hid (R = bytesG (rv bs) (6 - i) at2 out)) (fun iv _=>6 - (intOf iv).toNat)
 case atStart=>exact ⟨0,at_,[],rfl,by omega,rfl,HRD.out,HO.out,HON.out,HR.out⟩
 case round =>
  clear HO HON HRD HR hs1
  obtain ⟨i,at2,out,rfl,hi,hol,hrd,ho,hon,HF⟩:=hrel
  have HRD:=Zh hrd
  have HO:=Zh ho
  have HON:=Zh hon
  have HOL:=Zh hol
  clear hrd ho hon hol
  by_cases hlt:i < 6
  ·have t0:decide ((i:Int) < 6) = true:=by simp;omega
   obtain ⟨k,hk⟩:∃ k,6 - i = k + 1:=⟨5 - i,by omega⟩
   have HK:=Zh (show 6 - (i + 1) = k by omega)
   rw [hk] at HF HO
   unfold bytesG at HF
   clear hk
   go_wp2_with fail
   by_cases h8:at2 + 8 <= 8 * bs.length
   ·rw [Zcf h8] at HF
    refine (Zbn wr rp bs at2 8 (by decide) HRD.out h8).mono ?_
    rintro e A3 ⟨rfl,hr1,ho1⟩
    have hx:=Zbq (rv bs) at2 8
    generalize numH (rv bs) at2 8 = x at *
    go_wp2_with fail
    refine (Zil _ A3).mono ?_
    rintro e w2 ⟨rfl,h2⟩
    rw [h2]
    clear h2 w2
    have u1:(x:Int) % 256 = x:=by omega
    have hO3:=HO.out.only ho1 (fun b hb=>by omega)
    have hil:i < (out ++ List.replicate (k + 1) 0).length:=by rw [List.length_append,List.length_replicate];have:=HOL.out;omega
    obtain ⟨g,hg,_,_,hc,hf⟩:=hO3.at (i:=i) hil
    have HO4:=Zh (hO3.stored i x).1
    have HN3:=Zh (((HON.out.trans ho1).setCell (p:=⟨mb,i,none⟩) (.inr (by rw [HMB.out];exact Nat.le_refl _)) (.int .u8 (x:Nat))))
    have HR4:=Zh (hr1.only ((Only.refl (fun b=>b = mb) A3).setCell (p:=⟨mb,i,none⟩) (.inl rfl) (.int .u8 (x:Nat))) (fun b hb h=>by omega))
    have HF3:Hid (R = bytesG (rv bs) k (at2 + 8) (out ++ [x])):=HF.out
    simp only [Option.some.injEq,Addr.mk.injEq,and_true] at hg
    subst hg
    generalize (out ++ List.replicate (k + 1) 0)[i] = y at hc
    have hset:(out ++ List.replicate (k + 1) 0).set i x = (out ++ [x]) ++ List.replicate k 0:=by
     rw [<- HOL.out,List.set_append_right _ _ (Nat.le_refl _),Nat.sub_self,List.replicate_succ,List.set_cons_zero,List.append_assoc];rfl
    rw [hset] at HO4
    clear hO3 hset HF HO hil hr1 ho1 h8
    go_wp2_with fail
    go_roundw
    case rel=>exact ⟨i + 1,at2 + 8,out ++ [x],by go_num,by omega,by rw [List.length_append,HOL.out];rfl,HR4.out,by rw [HK.out];exact HO4.out,HN3.out,by rw [HK.out];exact HF3.out⟩
    case measure=>simp [intOf];omega
   ·rw [Zce h8] at HF
    refine (Zaq wr rp bs at2 8 (by decide) HRD.out (by omega)).mono ?_
    rintro e w1 ⟨rfl,n1,rfl⟩
    go_wp2_with fail
    refine (Zik (.int .u32 0) 2 (by decide) _).mono ?_
    rintro e w2 ⟨rfl,rfl⟩
    refine ⟨rfl,?_⟩
    rw [show R = none from HF.out]
    exact ⟨rfl,HON.out.trans (Zah _ _ _)⟩
  ·obtain rfl:i = 6:=by omega
   have t0:decide ((6:Int) < 6) = false:=by simp
   obtain ⟨y0,y1,y2,y3,y4,y5,rfl⟩:=six out HOL.out
   have ho6:OwnN 92 .u8 wr mb (some ⟨mb,0,none⟩) 6 [y0,y1,y2,y3,y4,y5]:=by simpa using HO.out
   have HO6:=Zh ho6
   have HF6:=Zh ((((((ho6.stored 0 y0).1.stored 1 y1).1.stored 2 y2).1.stored 3 y3).1.stored 4 y4).1.stored 5 y5).1
   have HRF:=Zh (HRD.out.only ((((((((Only.refl (fun b=>b = mb) wr).setCell (p:=⟨mb,0,none⟩) (.inl rfl) (.int .u8 (y0:Nat))).setCell (p:=⟨mb,1,none⟩) (.inl rfl) (.int .u8 (y1:Nat))).setCell (p:=⟨mb,2,none⟩) (.inl rfl) (.int .u8 (y2:Nat))).setCell (p:=⟨mb,3,none⟩) (.inl rfl) (.int .u8 (y3:Nat))).setCell (p:=⟨mb,4,none⟩) (.inl rfl) (.int .u8 (y4:Nat))).setCell (p:=⟨mb,5,none⟩) (.inl rfl) (.int .u8 (y5:Nat)))) (fun b hb h=>by omega))
   have hmb2:¬ w.heap.size = mb -> w.heap.size <= mb:=fun _=>by rw [HMB.out];exact Nat.le_refl _
   have HNF:=Zh (((((((HON.out.setCell (p:=⟨mb,0,none⟩) (.inr (Nat.le_of_eq HMB.out)) (.int .u8 (y0:Nat))).setCell (p:=⟨mb,1,none⟩) (.inr (Nat.le_of_eq HMB.out)) (.int .u8 (y1:Nat))).setCell (p:=⟨mb,2,none⟩) (.inr (Nat.le_of_eq HMB.out)) (.int .u8 (y2:Nat))).setCell (p:=⟨mb,3,none⟩) (.inr (Nat.le_of_eq HMB.out)) (.int .u8 (y3:Nat))).setCell (p:=⟨mb,4,none⟩) (.inr (Nat.le_of_eq HMB.out)) (.int .u8 (y4:Nat))).setCell (p:=⟨mb,5,none⟩) (.inr (Nat.le_of_eq HMB.out)) (.int .u8 (y5:Nat))))
   obtain ⟨e0,g0⟩:=Zas ho6 0 (by simp)
   obtain ⟨e1,g1⟩:=Zas ho6 1 (by simp)
   obtain ⟨e2,g2⟩:=Zas ho6 2 (by simp)
   obtain ⟨e3,g3⟩:=Zas ho6 3 (by simp)
   obtain ⟨e4,g4⟩:=Zas ho6 4 (by simp)
   obtain ⟨e5,g5⟩:=Zas ho6 5 (by simp)
   simp only [List.getD_cons_zero,List.getD_cons_succ] at e0 e1 e2 e3 e4 e5
   clear ho6 hmb2 HO hlt
   go_wp2_with fail
   clear e0 e1 e2 e3 e4 e5 g0 g1 g2 g3 g4 g5
   have hF7:Hid (OwnN 92 .u8 _ mb (some ⟨mb,0,none⟩) 6 [y0,y1,y2,y3,y4,y5]):=HF6.out
   clear HF6
   generalize (((((wr.setCell ⟨mb,0,none⟩ (.int .u8 (y0:Nat))).setCell ⟨mb,1,none⟩ (.int .u8 (y1:Nat))).setCell ⟨mb,2,none⟩ (.int .u8 (y2:Nat))).setCell ⟨mb,3,none⟩ (.int .u8 (y3:Nat))).setCell ⟨mb,4,none⟩ (.int .u8 (y4:Nat))).setCell ⟨mb,5,none⟩ (.int .u8 (y5:Nat)) = F at *
   have e0:=(Zas hF7.out 0 (by simp)).1
   have e1:=(Zas hF7.out 1 (by simp)).1
   have e2:=(Zas hF7.out 2 (by simp)).1
   have e3:=(Zas hF7.out 3 (by simp)).1
   have e4:=(Zas hF7.out 4 (by simp)).1
   have e5:=(Zas hF7.out 5 (by simp)).1
   simp only [List.getD_cons_zero,List.getD_cons_succ] at e0 e1 e2 e3 e4 e5
   refine bodyPost_ret (v:=.agg #[.int .u8 (y0:Nat),.int .u8 (y1:Nat),.int .u8 (y2:Nat),.int .u8 (y3:Nat),.int .u8 (y4:Nat),.int .u8 (y5:Nat)]) (by simp [results,Try.results62,go_sem,e0,e1,e2,e3,e4,e5]) rfl ?_
   rw [show R = some ([y0,y1,y2,y3,y4,y5],at2) from HF.out]
   exact ⟨rfl,HRF.out,HNF.out⟩
end Go.Proofs.Ytnkpnjnfddjfpaa

namespace Go.Proofs.Ytnkpnjnfddjfpaa
open Go.RowKit Go.Shelf
theorem Zyd (a b c d e f:Int) (w:World):(Op.equalIn 10000 90 (.agg #[.int .u8 a,.int .u8 b,.int .u8 c]) (.agg #[.int .u8 d,.int .u8 e,.int .u8 f])).run Try.prog w = .ok (a == d && (b == e && c == f)) w:=by
 have u3:=Try.underlying5
 have hu:Try.prog.underlying 90 = some (.array 3 5):=by kernel_rfl
 rw [show (10000:Nat) = 9999 + 1 from rfl,Op.equalIn]
 simp only [Sem.run_bind,run_underlying hu,Result.andThen_ok]
 simp only [Std.Legacy.Range.forIn_eq_forIn_range',Std.Legacy.Range.size,Nat.sub_zero,Nat.add_sub_cancel,Nat.div_one,List.range'_succ,List.range'_zero,List.forIn_cons,List.forIn_nil]
 go_simp
 by_cases h1:a = d
 ·by_cases h2:b = e
  ·by_cases h3:c = f
   ·simp [h1,h2,h3]
   ·simp [h1,h2,h3]
  ·simp [h1,h2]
 ·simp [h1]
theorem Zrv (a b c d e f g h i j k l:Int) (w:World):(Op.equalIn 10000 92 (.agg #[.int .u8 a,.int .u8 b,.int .u8 c,.int .u8 d,.int .u8 e,.int .u8 f]) (.agg #[.int .u8 g,.int .u8 h,.int .u8 i,.int .u8 j,.int .u8 k,.int .u8 l])).run Try.prog w = .ok (a == g && (b == h && (c == i && (d == j && (e == k && f == l))))) w:=by
 have u3:=Try.underlying5
 have hu:Try.prog.underlying 92 = some (.array 6 5):=by kernel_rfl
 rw [show (10000:Nat) = 9999 + 1 from rfl,Op.equalIn]
 simp only [Sem.run_bind,run_underlying hu,Result.andThen_ok]
 simp only [Std.Legacy.Range.forIn_eq_forIn_range',Std.Legacy.Range.size,Nat.sub_zero,Nat.add_sub_cancel,Nat.div_one,List.range'_succ,List.range'_zero,List.forIn_cons,List.forIn_nil]
 go_simp
 by_cases q0:a = g
 case neg=>simp [q0]
 by_cases q1:b = h
 case neg=>simp [q0,q1]
 by_cases q2:c = i
 case neg=>simp [q0,q1,q2]
 by_cases q3:d = j
 case neg=>simp [q0,q1,q2,q3]
 by_cases q4:e = k
 case neg=>simp [q0,q1,q2,q3,q4]
 by_cases q5:f = l
 case neg=>simp [q0,q1,q2,q3,q4,q5]
 simp [q0,q1,q2,q3,q4,q5]
end Go.Proofs.Ytnkpnjnfddjfpaa

namespace Go.Proofs.Ytnkpnjnfddjfpaa
open Go.RowKit
def Yields5 (P:Program) (gf:Nat) (lb:Array Value) (n:Nat) (V:Nat -> World -> Array Value -> Prop) (S T:Nat -> Prop) (Fin:Ending -> World -> Prop) (w:World):Prop :=
 ∀ (l:Nat) (J Jx:Nat -> World -> Prop) (W:World),SameOn S w W →
  (∀ i A B,J i A -> Only T A B -> J i B) -> (∀ i A B,Jx i A -> Only T A B -> Jx i B) →
  (∀ i A r,i < n -> J i A -> W.heap.size <= A.heap.size -> V i A r -> YieldAt Fence.wide 9 P l r A fun e B =>
   (e = .returned (.bool true) /\ J (i + 1) B /\ SameOn S A B) \/ (e = .returned (.bool false) /\ Jx (i + 1) B)) →
  J 0 W →
  CallsIn Fence.wide 9 P gf (#[.func (.yield l) #[] #[]] ++ lb) W fun e B=>(J n B /\ Fin e B) \/ (∃ i,i < n /\ Jx (i + 1) B /\ ∃ v,e = .returned v)
theorem Zqe {P:Program} {g:Operand} {ps:Array Tmp} {assign body:Code} {Q:Exit -> Act -> World -> Prop} {a:Act} {w:World}
  {gf:Nat} {lb:Array Value} (hg:a.eval g = .func (.func gf) #[] lb) (eg:∀ args w,(callFunc gf args).run P w = .ok (.enter gf args) w)
  {n:Nat} {V:Nat -> World -> Array Value -> Prop} {S T:Nat -> Prop} {Fin:Ending -> World -> Prop} {w0:World} (hy:Yields5 P gf lb n V S T Fin w0) (hsame:SameOn S w0 w) (hS:∀ b,S b -> b < w.heap.size) (hT:∀ b,T b -> b < w.heap.size)
  (hps:∀ i A r,V i A r -> r.size = ps.size)
  (I:Nat -> World -> Prop) (Ix:Code -> Nat -> World -> Prop)
  (hI:∀ i A B,I i A -> Only T A B -> I i B) (hIp:∀ i A l o o',I i A -> w.heap.size <= l -> A.heap[l]? = some o -> o.isCells = false -> I i (A.putObj l o'))
  (hX:∀ c i A B,Ix c i A -> Only T A B -> Ix c i B) (hXp:∀ c i A l o o',Ix c i A -> w.heap.size <= l -> A.heap[l]? = some o -> o.isCells = false -> Ix c i (A.putObj l o'))
  (hFp:∀ e A l o o',Fin e A -> w.heap.size <= l -> A.heap[l]? = some o -> o.isCells = false -> Fin e (A.putObj l o')) (hFo:∀ A,¬ Fin .outgrown A)
  (h0:I 0 w) (Ax:Nat -> Act -> World -> Prop)
  (hAp:∀ i a' A l o o',Ax i a' A -> w.heap.size <= l -> A.heap[l]? = some o -> o.isCells = false -> Ax i a' (A.putObj l o'))
  (hassign:∀ (l i:Nat) (W:World) (r:Array Value) (K:Act -> World -> Prop),i < n -> w.heap.size + 2 <= W.heap.size -> I i W -> V i W r -> (∀ a' W',KeepsFrom w.heap.size W W' -> SameOn S W W' -> Ax i a' W' -> K a' W') →
   assign.wpIn (Fence.wide.inRound l) 9 P (Exit.then K (fun _ _ _=>False)) { tmps:=(ps.zip r).foldl (fun t (p,v)=>t.setIfInBounds p v) a.tmps,defers:=[] } W)
  (hbody:∀ (l i:Nat) (hi:i < n) (a':Act) (A:World),w.heap.size + 2 <= A.heap.size -> Ax i a' A -> body.wpIn (Fence.wide.inRound l) 9 P (roundEnds w.heap.size S I Ix i A) a' A)
  (hdone:∀ (v:Value) (A:World),I n A -> Fin (.returned v) A -> A.heap[w.heap.size]? = some (.deferred (some [])) -> Q .normal { a with defers:={ target:=.collected w.heap.size,args:=#[] } :: a.defers } A)
  (hpanic:∀ (c:List PanicEntry) (A:World),I n A -> Fin (.panicked c) A -> A.heap[w.heap.size]? = some (.deferred (some [])) -> Q (.panic c) { a with defers:={ target:=.collected w.heap.size,args:=#[] } :: a.defers } A)
  (hstop:∀ (c:Code) (i:Nat) (A:World),i < n -> Ix c (i + 1) A -> A.heap[w.heap.size]? = some (.deferred (some [])) -> c.wpIn Fence.wide 9 P Q { a with defers:={ target:=.collected w.heap.size,args:=#[] } :: a.defers } A) :
  (Code.rangeFunc g ps assign body).wpIn Fence.wide 9 P Q a w:=by
 refine wpIn_rangeFunc ?_
 intro fn hfn
 obtain ⟨rec,hrec⟩:∃ rec:LoopState -> Option Code -> Loop,rec = fun st pe=>{ state:=st,pending:=pe,fn,tmps:=a.tmps,params:=ps,assign,body,defers:=w.heap.size }:=⟨_,rfl⟩
 obtain ⟨W1,hW1⟩:∃ W1,(w.alloc (.deferred (some []))).alloc (.loop (rec .ready none)) = W1:=⟨_,rfl⟩
 have hs1:W1.heap.size = w.heap.size + 2:=by rw [<- hW1];simp
 have hL1:W1.heap[w.heap.size + 1]? = some (.loop (rec .ready none)):=by
  rw [<- hW1];have:=World.alloc_heap_new (w.alloc (.deferred (some []))) (.loop (rec .ready none));rwa [World.size_alloc] at this
 have hK1:W1.heap[w.heap.size]? = some (.deferred (some [])):=by
  rw [<- hW1];exact (Below.heap_alloc _ _ _ (by simp)).trans (World.alloc_heap_new w _)
 have hI1:I 0 W1:=hI 0 w W1 h0 (by rw [<- hW1];exact ((Only.refl T w).alloc _).alloc _)
 have hsame1:SameOn S w0 W1:=⟨by have:=hsame.size;omega,fun b hb=>by
  rw [<- hW1,Below.heap_alloc _ _ _ (by have:=hS b hb;simp;omega),Below.heap_alloc _ _ _ (hS b hb)]
  exact hsame.same b hb⟩
 refine ⟨w.heap.size + 1,[{ target:=.collected w.heap.size,args:=#[] }],W1,{ target:=.fn (.func gf) lb,args:=#[.func (.yield (w.heap.size + 1)) #[] #[]] },W1,gf,
  #[.func (.yield (w.heap.size + 1)) #[] #[]] ++ lb,W1,?_,?_,?_,?_,fun h=>by simp [Fence.wide] at h,?_⟩
 ·rw [<- hW1,hrec];exact run_enterLoop_outer _ _ _ _ _
 ·simp only [resolve,hg]
  simp [go_sem]
 ·intro f' hf';trivial
 ·simp [invoke,go_sem,eg]
 ·have hyy:=hy (w.heap.size + 1)
   (fun i A=>I i A /\ w.heap.size + 2 <= A.heap.size /\ A.heap[w.heap.size + 1]? = some (.loop (rec .ready none)) /\ A.heap[w.heap.size]? = some (.deferred (some [])))
   (fun i A=>∃ c,Ix c i A /\ A.heap[w.heap.size + 1]? = some (.loop (rec .done (some c))) /\ A.heap[w.heap.size]? = some (.deferred (some [])))
   W1 hsame1
   (fun i A B h ho=>⟨hI i A B h.1 ho,Nat.le_trans h.2.1 ho.size,Zac h.2.2.1 ho (fun t=>by have:=hT _ t;omega),Zac h.2.2.2 ho (fun t=>by have:=hT _ t;omega)⟩)
   (fun i A B h ho=>by
    obtain ⟨c,hc,hl,hk⟩:=h
    exact ⟨c,hX c i A B hc ho,Zac hl ho (fun t=>by have:=hT _ t;omega),Zac hk ho (fun t=>by have:=hT _ t;omega)⟩)
   ?_ ⟨hI1,by omega,hL1,hK1⟩
  ·refine (callsIn_wide.2 (callsIn_wide.1 hyy)).mono ?_
   rintro e W2 (⟨⟨hi,_,hl,hk⟩,hfin⟩ | ⟨i,hlt,⟨c,hi,hl,hk⟩,v,rfl⟩)
   ·cases e with
    | returned v=>exact ⟨none,_,by have:=run_endLoop (P:=P) hl (by rw [hrec];simp);rw [hrec] at this;exact this,hdone v _ (hIp _ _ _ _ _ hi (by omega) hl rfl) (hFp _ _ _ _ _ hfin (by omega) hl rfl) ((World.putObj_heap_other (by omega)).trans hk)⟩
    | panicked ch=>exact hpanic ch W2 hi hfin hk
    | outgrown=>exact absurd hfin (hFo W2)
   ·exact ⟨some c,_,by have:=run_endLoop (P:=P) hl (by rw [hrec];simp);rw [hrec] at this;exact this,hstop c i _ hlt (hXp _ _ _ _ _ _ hi (by omega) hl rfl) ((World.putObj_heap_other (by omega)).trans hk)⟩
  ·rintro i W r hi ⟨hii,hsz,hl,hk⟩ _ hv
   have hy':=run_yield (P:=P) (args:=r) hl (by rw [hrec];exact hps _ _ _ hv)
   rw [hrec] at hy'
   refine Zgn (n:=9) ⟨fn,_,assign,body,hy',roundIn_of_wpIn hfn (hassign _ i W r _ hi hsz hii hv fun a' W' hk0 hs0 hax=>⟨_,run_beginRound (hk0.same _ _ (by omega) hl rfl) (by rw [hrec]),?_⟩)⟩
   replace hl:=hk0.same _ _ (by omega) hl rfl
   replace hk:=hk0.same _ _ (by omega) hk rfl
   have hlt:w.heap.size + 1 < W'.heap.size:=by have:=hk0.size;omega
   have hl2:(W'.putObj (w.heap.size + 1) (.loop { rec .ready none with state:=.busy })).heap[w.heap.size + 1]? = some (.loop { rec .ready none with state:=.busy }):=World.putObj_heap_same hlt
   have hk2:(W'.putObj (w.heap.size + 1) (.loop { rec .ready none with state:=.busy })).heap[w.heap.size]? = some (.deferred (some [])):=(World.putObj_heap_other (by omega)).trans hk
   have hS2:∀ (A:World) (o:Obj),SameOn S A (A.putObj (w.heap.size + 1) o):=fun A o=>⟨by rw [World.putObj_size];exact Nat.le_refl _,fun b hb=>World.putObj_heap_other (by have:=hS b hb;omega)⟩
   refine wpIn_mono (hbody _ i hi _ _ (by rw [World.putObj_size];omega) (hAp _ _ _ _ _ _ hax (by omega) hl rfl)) ?_
   have fin:∀ (jump:Option Code) (W3:World),KeepsFrom w.heap.size (W'.putObj (w.heap.size + 1) (.loop { rec .ready none with state:=.busy })) W3 →
     (Instr.endRound (w.heap.size + 1) jump).run P W3 = .ok (.bool jump.isNone) (W3.putObj (w.heap.size + 1) (.loop (rec (if jump.isNone then .ready else .done) jump))) ∧
     W3.heap[w.heap.size + 1]? = some (.loop { rec .ready none with state:=.busy }) ∧
     (W3.putObj (w.heap.size + 1) (.loop (rec (if jump.isNone then .ready else .done) jump))).heap[w.heap.size + 1]? = some (.loop (rec (if jump.isNone then .ready else .done) jump)) ∧
     (W3.putObj (w.heap.size + 1) (.loop (rec (if jump.isNone then .ready else .done) jump))).heap[w.heap.size]? = some (.deferred (some [])) /\ w.heap.size + 2 <= (W3.putObj (w.heap.size + 1) (.loop (rec (if jump.isNone then .ready else .done) jump))).heap.size:=fun jump W3 hk3=>by
    have hl3:=hk3.same _ _ (by omega) hl2 rfl
    have:=run_endRound (P:=P) jump hl3
    rw [hrec] at this ⊢
    exact ⟨this,by rw [hrec] at hl3;exact hl3,World.putObj_heap_same (Array.getElem?_eq_some_iff.1 hl3).1,(World.putObj_heap_other (by omega)).trans (hk3.same _ _ (by omega) hk2 rfl),by rw [World.putObj_size];have:=(Array.getElem?_eq_some_iff.1 hl3).1;omega⟩
   rintro e a3 W3 hp
   cases e with
   | normal =>
    obtain ⟨hk3,hkp3,hi3⟩:=hp
    obtain ⟨hr,hl3,hl4,hk4,hz4⟩:=fin none W3 hk3
    exact ⟨_,_,hr,.inl ⟨rfl,⟨hIp _ _ _ _ _ hi3 (by omega) hl3 rfl,hz4,hl4,hk4⟩,((hs0.trans (hS2 _ _)).trans hkp3).trans (hS2 _ _)⟩⟩
   | ret =>
    obtain ⟨hk3,hi3⟩:=hp
    obtain ⟨hr,hl3,hl4,hk4,_⟩:=fin (some .ret) W3 hk3
    exact ⟨_,_,hr,.inr ⟨rfl,.ret,hXp _ _ _ _ _ _ hi3 (by omega) hl3 rfl,hl4,hk4⟩⟩
   | exit id =>
    obtain ⟨hk3,hi3⟩:=hp
    obtain ⟨hr,hl3,hl4,hk4,_⟩:=fin (some (.exit id)) W3 hk3
    exact ⟨_,_,hr,.inr ⟨rfl,.exit id,hXp _ _ _ _ _ _ hi3 (by omega) hl3 rfl,hl4,hk4⟩⟩
   | goto t =>
    obtain ⟨hk3,hi3⟩:=hp
    obtain ⟨hr,hl3,hl4,hk4,_⟩:=fin (some (.goto t)) W3 hk3
    exact ⟨_,_,hr,.inr ⟨rfl,.goto t,hXp _ _ _ _ _ _ hi3 (by omega) hl3 rfl,hl4,hk4⟩⟩
   | panic ch=>exact hp.elim
   | outgrown=>exact hp.elim
end Go.Proofs.Ytnkpnjnfddjfpaa

namespace Go.Proofs.Ytnkpnjnfddjfpaa
open Go.RowKit Go.Shelf M01 M02 M27
attribute [local go_sem] Oper.semAt_some
theorem Zri (w:World) (rp:Nat) :
  Calls Try.prog 27 #[.pointer (some ⟨rp,0,none⟩)] w fun e w' =>
   e = .returned (.func (.func 61) #[] #[.pointer (some ⟨w.heap.size,0,none⟩)]) /\ w' = w.alloc (.cells #[.pointer (some ⟨rp,0,none⟩)] 52):=by
 have hmf:∀ (fn:Fn) (first cap:Array Value) (w:World),(Instr.makeFunc fn first cap).run Try.prog w = .ok (.func fn first cap) w:=fun _ _ _ _=>rfl
 go_enter Try.func27,Try.ntmps27
 go_wp2
 go_ret
 exact ⟨rfl,rfl⟩
def partV (L:List (List Nat × Nat)) (i:Nat) (A:World) (r:Array Value):Prop :=
 ∃ p a c,L[i]? = some p /\ r = #[.agg #[.slice a p.1.length c,.int .u32 (p.2:Nat)]] /\ RowN .u8 A a c p.1 /\ p.1.length <= 1000000 /\ (∀ x ∈ p.1,x < 256) /\ p.2 < 4294967296
def BzFin (rp:Nat) (bs:List Nat) (E:Option Nat) (e:Ending) (A:World):Prop :=
 match E with
 | some a2=>(∃ v,e = .returned v) /\ RdM A rp bs a2
 | none=>e = .panicked formP
theorem RdM.sameS {w w':World} {p at_:Nat} {bs:List Nat} (h:RdM w p bs at_) (hs:w.heap.size <= w'.heap.size) (hp:w'.heap[p]? = w.heap[p]?) (hd:∀ b,b + 1 = p -> w'.heap[b]? = w.heap[b]?):RdM w' p bs at_:=by
 obtain ⟨a,cap,g1,g2,g3,g4,g5,g6⟩:=h
 exact ⟨a,cap,hp.trans g1,g2.same hs (fun x h0 hx=>hd _ ((g6 x hx).2 h0)),g3,g4,g5,g6⟩
theorem RdM.atC {w:World} {p at_:Nat} {bs:List Nat} (h:RdM w p bs at_):w.cell? ⟨p,1,none⟩ = some (.int .i64 (at_:Nat)):=by
 obtain ⟨a,cap,hc,_⟩:=h
 exact (Zdg hc).2.1
def rdAt (rp:Nat) (A:World):Nat:=(intOf ((A.cell? ⟨rp,1,none⟩).getD undef)).toNat
theorem RdM.rdAt {w:World} {p at_:Nat} {bs:List Nat} (h:RdM w p bs at_):rdAt p w = at_:=by
 unfold Go.Proofs.Ytnkpnjnfddjfpaa.rdAt
 rw [h.atC]
 simp [intOf]
theorem Zib {B:List Nat} {most f a:Nat} (h:bytesG B 6 a [] = none):partsG B most (f + 1) a = ([],none):=by
 unfold partsG;rw [h]
theorem Zir {B:List Nat} {most f a a2:Nat} (h:bytesG B 6 a [] = some (endM,a2)):partsG B most (f + 1) a = ([],some a2):=by
 unfold partsG;rw [h];rfl
theorem Zip {B m:List Nat} {most f a a2:Nat} (h:bytesG B 6 a [] = some (m,a2)) (h1:m ≠ blockM) (h2:m ≠ endM):partsG B most (f + 1) a = ([],none):=by
 unfold partsG;rw [h];simp only [];rw [if_neg h1,if_neg h2]
theorem Zeq {B:List Nat} {most f a a2:Nat} (h:bytesG B 6 a [] = some (blockM,a2)) (h1:blkG B a2 most = none):partsG B most (f + 1) a = ([],none):=by
 unfold partsG;rw [h];simp only [];rw [if_pos trivial,h1]
theorem Ziq {B l:List Nat} {most f a a2 s a3:Nat} (h:bytesG B 6 a [] = some (blockM,a2)) (h1:blkG B a2 most = some (l,s,a3)):partsG B most (f + 1) a = ((l,s) :: (partsG B most f a3).1,(partsG B most f a3).2):=by
 conv=>lhs;unfold partsG
 rw [h];simp only [];rw [if_pos trivial,h1]
theorem fourL (l:List Nat) (h:l.length = 4):∃ a b c d,l = [a,b,c,d]:=by
 match l,h with
 | [a,b,c,d],_=>exact ⟨a,b,c,d,rfl⟩
set_option maxRecDepth 100000 in
set_option maxHeartbeats 6400000 in
theorem Zrl (w:World) (cb rp at_:Nat) (bs:List Nat) (hrd:RdM w rp bs at_) (hcb:w.heap[cb]? = some (.cells #[.pointer (some ⟨rp,0,none⟩)] 52 (0,0))) (hne:cb ≠ rp) :
  Yields5 Try.prog 61 #[.pointer (some ⟨cb,0,none⟩)] (strmG (rv bs) at_).1.length (partV (strmG (rv bs) at_).1) (fun b=>b = cb \/ b = rp \/ b + 1 = rp) (fun b=>b = rp) (BzFin rp bs (strmG (rv bs) at_).2) w:=by
 intro y J Jx W hsame hJ hJx hY h0
 have hrdW:RdM W rp bs at_:=hrd.sameS hsame.size (hsame.same _ (.inr (.inl rfl))) (fun b hb=>hsame.same _ (.inr (.inr hb)))
 have hcbW:W.heap[cb]? = _:=(hsame.same cb (.inl rfl)).trans hcb
 obtain ⟨R,hR⟩:∃ R,R = strmG (rv bs) at_:=⟨_,rfl⟩
 rw [<- hR] at hY ⊢
 have HY:=Zh hY
 have HJ:=Zh hJ
 have HR:=Zh hR
 have HRD:=Zh hrdW
 have HCB:=Zh hcbW
 have HNE:=Zh hne
 have HJ0:=Zh h0
 have hrp:=hrdW.lt
 have hcl:=lt_of_block hcbW
 clear hJ hJx hY hsame hrd hcb hrdW hcbW h0 hR hne
 refine callsIn_of_wp Try.func61 rfl trivial ?_ rfl
 simp only [Try.ntmps61,List.size_toArray,List.length_cons,List.length_nil,Nat.reduceAdd,Nat.reduceSub,Array.replicate_succ,Array.replicate_zero,List.push_toArray,List.append_toArray,List.nil_append,List.cons_append]
 gi_wp2_with fail
 have hO:=OwnN.lit (k:=.u8) 89 W W.heap.size [0,0,0,0] #[.int .u8 0,.int .u8 0,.int .u8 0,.int .u8 0] W.heap.size rfl rfl (Nat.le_refl _) (by decide)
 obtain ⟨hb,hhb⟩:∃ hb,W.heap.size = hb:=⟨_,rfl⟩
 have hon:Only (fun b=>b = rp) W (W.alloc (.cells #[.int .u8 0,.int .u8 0,.int .u8 0,.int .u8 0] 89)):=(Only.refl _ _).alloc _
 have hrd1:=HRD.out.only ((Only.refl (fun _=>False) W).alloc (.cells #[.int .u8 0,.int .u8 0,.int .u8 0,.int .u8 0] 89)) (fun b hb h=>h)
 have hs1:(W.alloc (.cells #[.int .u8 0,.int .u8 0,.int .u8 0,.int .u8 0] 89)).heap.size = hb + 1:=by rw [<- hhb];simp
 rw [hhb] at hO
 simp only [hhb]
 generalize W.alloc (.cells #[.int .u8 0,.int .u8 0,.int .u8 0,.int .u8 0] 89) = W1 at *
 have HO:=Zh hO
 have HON:=Zh hon
 have HRD1:=Zh hrd1
 have HHB:=Zh hhb
 have hrp2:rp < hb:=by omega
 have hcb2:cb < hb:=by omega
 have HR0:Hid (bytesG (rv bs) 4 at_ [] = bytesG (rv bs) (4 - 0) at_ []):=rfl
 clear hO hon hrd1 hhb hrp hcl
 gi_loopw [10] (fun iv A=>∃ (i at2:Nat) (out:List Nat),iv = .int .i64 (i:Nat) /\ i <= 4 /\ out.length = i /\ RdM A rp bs at2 /\ OwnN 89 .u8 A hb (some ⟨hb,0,none⟩) 4 (out ++ List.replicate (4 - i) 0) /\ Only (fun b=>b = rp) W A /\ Hid (bytesG (rv bs) 4 at_ [] = bytesG (rv bs) (4 - i) at2 out)) (fun iv _=>4 - (intOf iv).toNat)
 case atStart=>exact ⟨0,at_,[],rfl,by omega,rfl,HRD1.out,HO.out,HON.out,HR0.out⟩
 case round =>
  clear HO HON HRD HRD1 HR0 hs1
  obtain ⟨i,at2,out,rfl,hi,hol,hrd,ho,hon,HF⟩:=hrel
  have HRD:=Zh hrd
  have HO:=Zh ho
  have HON:=Zh hon
  have HOL:=Zh hol
  have hCB:=Zac HCB.out hon (fun h=>HNE.out h)
  have c1:=cell_of_one hCB
  have HC1:=Zh hCB
  clear hrd ho hon hol hCB
  by_cases hlt:i < 4
  ·have t0:decide ((i:Int) < 4) = true:=by simp;omega
   obtain ⟨k,hk⟩:∃ k,4 - i = k + 1:=⟨3 - i,by omega⟩
   have HK:=Zh (show 4 - (i + 1) = k by omega)
   rw [hk] at HF HO
   unfold bytesG at HF
   clear hk
   gi_wp2_with fail
   refine ⟨trivial,?_⟩
   by_cases h8:at2 + 8 <= 8 * bs.length
   ·rw [Zcf h8] at HF
    refine (callsIn_wide.2 (Zbn wr rp bs at2 8 (by decide) HRD.out h8)).mono ?_
    rintro e A3 ⟨rfl,hr1,ho1⟩
    have hx:=Zbq (rv bs) at2 8
    generalize numH (rv bs) at2 8 = x at *
    gi_wp2_with fail
    refine ⟨trivial,?_⟩
    refine (callsIn_wide.2 (Zil _ A3)).mono ?_
    rintro e w2 ⟨rfl,h2⟩
    rw [h2]
    clear h2 w2
    have u1:(x:Int) % 256 = x:=by omega
    have hO3:=HO.out.only ho1 (fun b hb=>by omega)
    have hil:i < (out ++ List.replicate (k + 1) 0).length:=by rw [List.length_append,List.length_replicate];have:=HOL.out;omega
    obtain ⟨g,hg,_,_,hc,hf⟩:=hO3.at (i:=i) hil
    have HO4:=Zh (hO3.stored i x).1
    have HN3:=Zh (((HON.out.trans ho1).setCell (p:=⟨hb,i,none⟩) (.inr (by rw [HHB.out];exact Nat.le_refl _)) (.int .u8 (x:Nat))))
    have HR4:=Zh (hr1.only ((Only.refl (fun b=>b = hb) A3).setCell (p:=⟨hb,i,none⟩) (.inl rfl) (.int .u8 (x:Nat))) (fun b hb h=>by omega))
    have HF3:Hid (bytesG (rv bs) 4 at_ [] = bytesG (rv bs) k (at2 + 8) (out ++ [x])):=HF.out
    simp only [Option.some.injEq,Addr.mk.injEq,and_true] at hg
    subst hg
    generalize (out ++ List.replicate (k + 1) 0)[i] = y at hc
    have hset:(out ++ List.replicate (k + 1) 0).set i x = (out ++ [x]) ++ List.replicate k 0:=by
     rw [<- HOL.out,List.set_append_right _ _ (Nat.le_refl _),Nat.sub_self,List.replicate_succ,List.set_cons_zero,List.append_assoc];rfl
    rw [hset] at HO4
    clear hO3 hset HF HO hil hr1 ho1 h8 c1
    gi_wp2_with fail
    go_roundw
    case rel=>exact ⟨i + 1,at2 + 8,out ++ [x],by go_num,by omega,by rw [List.length_append,HOL.out];rfl,HR4.out,by rw [HK.out];exact HO4.out,HN3.out,by rw [HK.out];exact HF3.out⟩
    case measure=>simp [intOf];omega
   ·rw [Zce h8] at HF
    have hbn:bytesG (rv bs) 4 at_ [] = none:=HF.out
    have HRN:Hid (R = ([],none)):=by unfold Hid;rw [HR.out];unfold strmG;rw [hbn]
    clear hbn
    refine (callsIn_wide.2 (Zaq wr rp bs at2 8 (by decide) HRD.out (by omega))).mono ?_
    rintro e w1 ⟨rfl,n1,rfl⟩
    gi_wp2_with fail
    refine ⟨trivial,?_⟩
    refine (callsIn_wide.2 (Zik (.int .u32 0) 2 (by decide) _)).mono ?_
    rintro e w2 ⟨rfl,rfl⟩
    refine ⟨rfl,.inl ⟨?_,?_⟩⟩
    ·rw [HRN.out];exact HJ.out _ _ _ HJ0.out (HON.out.trans (Zah _ _ _))
    ·rw [HRN.out];rfl
  ·obtain rfl:i = 4:=by omega
   rw [show ((4:Nat):Int) = 4 from rfl]
   obtain ⟨x0,x1,x2,x3,rfl⟩:=fourL out HOL.out
   have t0:decide ((4:Int) < 4) = false:=by simp
   have ho4:OwnN 89 .u8 wr hb (some ⟨hb,0,none⟩) 4 [x0,x1,x2,x3]:=by simpa using HO.out
   obtain ⟨e0,g0⟩:=Zas ho4 0 (by simp)
   obtain ⟨e1,g1⟩:=Zas ho4 1 (by simp)
   obtain ⟨e2,g2⟩:=Zas ho4 2 (by simp)
   obtain ⟨e3,g3⟩:=Zas ho4 3 (by simp)
   simp only [List.getD_cons_zero,List.getD_cons_succ] at e0 e1 e2 e3
   have HF4:Hid (bytesG (rv bs) 4 at_ [] = some ([x0,x1,x2,x3],at2)):=HF.out
   clear ho4 HF HO hlt HOL
   have har:∀ w,(Instr.arrayAt 90 (.slice (some ⟨hb,0,none⟩) 3 4)).run Try.prog w = .ok (.pointer (some ⟨hb,0,none⟩)) w:=fun w=>by kernel_rfl
   have q3:=fun w=>Zyd x0 x1 x2 66 90 104 w
   by_cases hmag:x0 = 66 /\ x1 = 90 /\ x2 = 104
   case neg =>
    have HRN:Hid (R = ([],none)):=by unfold Hid;rw [HR.out];unfold strmG;rw [HF4.out];simp only [];rw [if_neg (by simp;omega)]
    have q4:∀ w,(Op.equalIn 10000 90 (.agg #[.int .u8 (x0:Nat),.int .u8 (x1:Nat),.int .u8 (x2:Nat)]) (.agg #[.int .u8 66,.int .u8 90,.int .u8 104])).run Try.prog w = .ok false w:=fun w=>by
     rw [q3 w]
     have:((x0:Int) == 66 && ((x1:Int) == 90 && (x2:Int) == 104)) = false:=by
      rw [Bool.eq_false_iff];intro h;simp at h;omega
     rw [this]
    clear q3
    gi_wp2_with fail
    refine ⟨rfl,.inl ⟨?_,?_⟩⟩
    ·rw [HRN.out];exact HJ.out _ _ _ HJ0.out HON.out
    ·rw [HRN.out];rfl
   obtain ⟨rfl,rfl,rfl⟩:=hmag
   have q4:∀ w,(Op.equalIn 10000 90 (.agg #[.int .u8 66,.int .u8 90,.int .u8 104]) (.agg #[.int .u8 66,.int .u8 90,.int .u8 104])).run Try.prog w = .ok true w:=q3
   by_cases hlo:x3 < 49
   case pos =>
    have HRN:Hid (R = ([],none)):=by unfold Hid;rw [HR.out];unfold strmG;rw [HF4.out];simp only [];rw [if_neg (by simp;omega)]
    have t1:decide ((x3:Int) < 49) = true:=by simp;omega
    clear q3
    gi_wp2_with fail
    refine ⟨rfl,.inl ⟨?_,?_⟩⟩
    ·rw [HRN.out];exact HJ.out _ _ _ HJ0.out HON.out
    ·rw [HRN.out];rfl
   have t1:decide ((x3:Int) < 49) = false:=by simp;omega
   by_cases hhi:57 < x3
   case pos =>
    have HRN:Hid (R = ([],none)):=by unfold Hid;rw [HR.out];unfold strmG;rw [HF4.out];simp only [];rw [if_neg (by simp;omega)]
    have t2:decide ((57:Int) < (x3:Int)) = true:=by simp;omega
    clear q3
    gi_wp2_with fail
    refine ⟨rfl,.inl ⟨?_,?_⟩⟩
    ·rw [HRN.out];exact HJ.out _ _ _ HJ0.out HON.out
    ·rw [HRN.out];rfl
   have t2:decide ((57:Int) < (x3:Int)) = false:=by simp;omega
   obtain ⟨m,hm⟩:∃ m,(x3 - 48) * 100000 = m:=⟨_,rfl⟩
   have hmi:((x3:Int) - 48) * 100000 = (m:Int):=by omega
   have hmw:IntKind.i64.wrap (((x3:Int) - 48) * 100000) = (m:Int):=by rw [hmi];exact IntWalk.i64_in _ (by omega)
   have hmx:((x3:Int) - 48) % 256 = (x3:Int) - 48:=by omega
   have hm9:m <= 900000:=by omega
   have HRP:Hid (R = partsG (rv bs) m (nb (rv bs) + 1) at2):=by
    unfold Hid;rw [HR.out];unfold strmG;rw [HF4.out];simp only [];rw [if_pos (by simp;omega),<- hm];rfl
   clear q3 hm HF4 HR
   have HRD2:=Zh (HRD.out)
   have HJ2:Hid (J 0 wr):=HJ.out _ _ _ HJ0.out HON.out
   have hsz2:W.heap.size <= wr.heap.size:=HON.out.size
   have HSZ2:=Zh hsz2
   have HFU:Hid (nb (rv bs) + 1 <= nb (rv bs) + 1 + at2):=by unfold Hid;omega
   have HP0:Hid (R.1.drop 0 = (partsG (rv bs) m (nb (rv bs) + 1) at2).1 /\ R.2 = (partsG (rv bs) m (nb (rv bs) + 1) at2).2):=by unfold Hid;rw [HRP.out];exact ⟨rfl,rfl⟩
   have hm1:1 <= m:=by omega
   clear HRD HJ0 HON hsz2 HRP
   gi_wp2_with fail
   gi_loopw [6] (fun _ A=>∃ (i at3 f:Nat),RdM A rp bs at3 /\ A.heap[cb]? = some (.cells #[.pointer (some ⟨rp,0,none⟩)] 52 (0,0)) /\ J i A /\ Hid (W.heap.size <= A.heap.size) /\ i <= R.1.length /\ Hid (nb (rv bs) + 1 <= f + at3) /\ Hid (R.1.drop i = (partsG (rv bs) m f at3).1 /\ R.2 = (partsG (rv bs) m f at3).2)) (fun _ A=>8 * bs.length - rdAt rp A)
   case atStart=>exact ⟨0,at2,nb (rv bs) + 1,HRD2.out,HC1.out,HJ2.out,HSZ2.out,Nat.zero_le _,HFU.out,HP0.out⟩
   case round =>
    clear HRD2 HC1 HJ2 HSZ2 HFU HP0 c1
    obtain ⟨i,at3,f,hrd,hcb,hj,hsz,hi,hfu,hp⟩:=hrel
    have HRD:=Zh hrd
    have HRD0:=Zh hrd
    have HCB2:=Zh hcb
    have c1:=cell_of_one hcb
    have HJA:=Zh hj
    have hle:at3 <= 8 * bs.length:=hrd.le
    have HLE:=Zh hle
    have hrps:=hrd.lt
    have hcbs:=lt_of_block hcb
    obtain ⟨f,rfl⟩:∃ g,f = g + 1:=⟨f - 1,by have:=hfu.out;unfold nb at this;rw [Zap] at this;omega⟩
    have HII:=Zh hi
    obtain ⟨Rm,hRm⟩:∃ Rm,Rm = bytesG (rv bs) 6 at3 []:=⟨_,rfl⟩
    have HRM:=Zh hRm
    clear hrd hcb hj hle hi hRm
    gi_wp2_with fail
    refine ⟨trivial,?_⟩
    refine (callsIn_wide.2 (Zxz wr rp at3 bs HRD.out)).mono ?_
    rw [<- HRM.out]
    rintro e w2 hmo
    cases Rm with
    | none =>
     obtain ⟨rfl,HON2⟩:=hmo
     have hpn:=Zib (most:=m) (f:=f) HRM.out.symm
     have HLEN:Hid (R.1.length = i):=by
      unfold Hid
      have:=congrArg List.length hp.out.1
      rw [hpn,List.length_drop] at this
      have:=HII.out
      simp at *
      omega
     have HEND:Hid (R.2 = none):=by unfold Hid;rw [hp.out.2,hpn]
     refine ⟨rfl,.inl ⟨?_,?_⟩⟩
     ·rw [HLEN.out];exact HJ.out _ _ _ HJA.out HON2
     ·rw [HEND.out];rfl
    | some q =>
     obtain ⟨ym,at4⟩:=q
     obtain ⟨rfl,hrd2,hon2⟩:=hmo
     obtain ⟨hyl,hy4⟩:=Zdz HRM.out.symm
     obtain ⟨y0,y1,y2,y3,y4,y5,rfl⟩:=six ym (by simpa using hyl)
     have HCB3:=Zh (Zac HCB2.out hon2 (fun h=>HNE.out h))
     have c2:=cell_of_one HCB3.out
     have HRD3:=Zh hrd2
     have HJ3:=Zh (HJ.out _ _ _ HJA.out hon2)
     have HSZ3:Hid (W.heap.size <= w2.heap.size):=Nat.le_trans hsz.out hon2.size
     clear hrd2 hon2 c1 HRD HCB2 HJA hyl
     simp only [List.map_cons,List.map_nil]
     have q6:=fun w=>Zrv y0 y1 y2 y3 y4 y5 49 65 89 38 83 89 w
     have q7:=fun w=>Zrv y0 y1 y2 y3 y4 y5 23 114 69 56 80 144 w
     by_cases hb1:y0 = 49 /\ y1 = 65 /\ y2 = 89 /\ y3 = 38 /\ y4 = 83 /\ y5 = 89
     ·obtain ⟨rfl,rfl,rfl,rfl,rfl,rfl⟩:=hb1
      have q8:∀ w,(Op.equalIn 10000 92 (.agg #[.int .u8 49,.int .u8 65,.int .u8 89,.int .u8 38,.int .u8 83,.int .u8 89]) (.agg #[.int .u8 49,.int .u8 65,.int .u8 89,.int .u8 38,.int .u8 83,.int .u8 89])).run Try.prog w = .ok true w:=q6
      clear q6 q7
      gi_wp2_with fail
      refine ⟨trivial,?_⟩
      obtain ⟨Rb,hRb⟩:∃ Rb,Rb = blkG (rv bs) at4 m:=⟨_,rfl⟩
      have HRB:=Zh hRb
      have HMM:Hid (bytesG (rv bs) 6 at3 [] = some (blockM,at4)):=HRM.out.symm
      refine (callsIn_wide.2 (Zxw w2 rp bs at4 m HRD3.out hm1 hm9)).mono ?_
      rw [<- HRB.out]
      rintro e w3 ⟨hon3,hbo⟩
      clear hRb
      cases Rb with
      | none =>
       obtain rfl:=hbo
       have hpn:=Zeq (most:=m) (f:=f) HMM.out HRB.out.symm
       have HLEN:Hid (R.1.length = i):=by
        unfold Hid
        have:=congrArg List.length hp.out.1
        rw [hpn,List.length_drop] at this
        have:=HII.out
        simp at *
        omega
       have HEND:Hid (R.2 = none):=by unfold Hid;rw [hp.out.2,hpn]
       have HJ4:=Zh (HJ.out _ _ _ HJ3.out hon3)
       clear hpn hon3 HJ3 c2
       gi_wp2_with fail
       refine ⟨trivial,?_⟩
       refine (callsIn_wide.2 (Zup (.int .i64 0) 2 (by decide) _)).mono ?_
       rintro e w4 ⟨rfl,h4⟩
       rw [h4]
       clear h4 w4
       refine ⟨rfl,.inl ⟨?_,?_⟩⟩
       ·rw [HLEN.out];exact HJ4.out
       ·rw [HEND.out];rfl
      | some q =>
       obtain ⟨l,s,at5⟩:=q
       obtain ⟨ga,gc,rfl,hown,hrd3⟩:=hbo
       have HBK:=Zh (Zqz HRB.out.symm (by omega))
       have hpn:=Ziq (most:=m) (f:=f) HMM.out HRB.out.symm
       have hp1:=hp.out.1
       rw [hpn] at hp1
       have HLT:Hid (i < R.1.length):=by
        unfold Hid
        rcases Nat.lt_or_ge i R.1.length with h | h
        ·exact h
        ·rw [List.drop_eq_nil_of_le h] at hp1;cases hp1
       have HGI:Hid (R.1[i]? = some (l,s)):=by
        unfold Hid
        have:=congrArg (fun x=>x[0]?) hp1
        simpa using this
       have HP2:Hid (R.1.drop (i + 1) = (partsG (rv bs) m f at5).1 /\ R.2 = (partsG (rv bs) m f at5).2):=by
        refine ⟨?_,by rw [hp.out.2,hpn]⟩
        have:=congrArg (List.drop 1) hp1
        rw [List.drop_drop] at this
        simpa using this
       have HCB4:=Zh (Zac HCB3.out hon3 (fun h=>HNE.out h))
       have HRD4:=Zh hrd3
       have HJ4:=Zh (HJ.out _ _ _ HJ3.out hon3)
       have HSZ4:Hid (W.heap.size <= w3.heap.size):=Nat.le_trans HSZ3.out hon3.size
       have HRW:=Zh hown.row
       clear hpn hp1 hon3 hown hrd3 c2 HCB3 HRD3 HJ3 HSZ3
       gi_wp2_with fail
       refine ⟨trivial,?_⟩
       refine (callsIn_wide.2 (Zuq (.int .i64 0) w3)).mono ?_
       rintro e w4 ⟨rfl,h4⟩
       rw [h4]
       clear h4 w4
       obtain ⟨fn,tmps,assign,body,hy,hR⟩:=HY.out i w3 #[.agg #[.slice ga l.length gc,.int .u32 (s:Nat)]] HLT.out HJ4.out HSZ4.out ⟨(l,s),ga,gc,HGI.out,rfl,HRW.out,(show l.length <= 1000000 from by have:=HBK.out.2.1;omega),HBK.out.2.2.1,HBK.out.2.2.2⟩
       have HRR:=Zh hR
       clear hR
       gi_wp2_with fail
       refine (Zej HRR.out).mono ?_
       rintro e W' (⟨rfl,hJ',hk'⟩ | ⟨rfl,hJx'⟩)
       ·have HCB5:Hid (W'.heap[cb]? = _):=Zh ((hk'.same cb (.inl rfl)).trans HCB4.out)
        have HRD5:=Zh (HRD4.out.sameS hk'.size (hk'.same _ (.inr (.inl rfl))) (fun b hb=>hk'.same _ (.inr (.inr hb))))
        have HJ5:=Zh hJ'
        have HSZ5:Hid (W.heap.size <= W'.heap.size):=Nat.le_trans HSZ4.out hk'.size
        have h45:=HBK.out.1
        have hrle:=HRD5.out.le
        have hm1':rdAt rp wr = at3:=HRD0.out.rdAt
        have hm2':rdAt rp W' = at5:=HRD5.out.rdAt
        have HFU5:Hid (nb (rv bs) + 1 <= f + at5):=by unfold Hid;have:=hfu.out;omega
        have HM5:Hid (8 * bs.length - rdAt rp W' < 8 * bs.length - rdAt rp wr):=by unfold Hid;rw [hm1',hm2'];omega
        clear hJ' hk' hy h45 hrle hm1' hm2'
        gi_wp2_with fail
        go_roundw
        case rel=>exact ⟨i + 1,at5,f,HRD5.out,HCB5.out,HJ5.out,HSZ5.out,HLT.out,HFU5.out,HP2.out⟩
        case measure=>exact HM5.out
       ·gi_wp2_with fail
        refine bodyPost_ret (results_none rfl _ _ _) rfl ?_
        exact .inr ⟨_,HLT.out,hJx',_,rfl⟩
     ·by_cases he1:y0 = 23 /\ y1 = 114 /\ y2 = 69 /\ y3 = 56 /\ y4 = 80 /\ y5 = 144
      ·obtain ⟨rfl,rfl,rfl,rfl,rfl,rfl⟩:=he1
       have q8:∀ w,(Op.equalIn 10000 92 (.agg #[.int .u8 23,.int .u8 114,.int .u8 69,.int .u8 56,.int .u8 80,.int .u8 144]) (.agg #[.int .u8 49,.int .u8 65,.int .u8 89,.int .u8 38,.int .u8 83,.int .u8 89])).run Try.prog w = .ok false w:=q6
       have q9:∀ w,(Op.equalIn 10000 92 (.agg #[.int .u8 23,.int .u8 114,.int .u8 69,.int .u8 56,.int .u8 80,.int .u8 144]) (.agg #[.int .u8 23,.int .u8 114,.int .u8 69,.int .u8 56,.int .u8 80,.int .u8 144])).run Try.prog w = .ok true w:=q7
       have hpn:=Zir (most:=m) (f:=f) (a2:=at4) HRM.out.symm
       have HLEN:Hid (R.1.length = i):=by
        unfold Hid
        have:=congrArg List.length hp.out.1
        rw [hpn,List.length_drop] at this
        have:=HII.out
        simp at *
        omega
       have HEND:Hid (R.2 = some at4):=by unfold Hid;rw [hp.out.2,hpn]
       clear q6 q7 hpn
       gi_wp2_with fail
       refine bodyPost_ret (results_none rfl _ _ _) rfl ?_
       refine .inl ⟨?_,?_⟩
       ·rw [HLEN.out];exact HJ3.out
       ·rw [HEND.out];exact ⟨⟨_,rfl⟩,HRD3.out⟩
      ·have hn1:([y0,y1,y2,y3,y4,y5]:List Nat) ≠ blockM:=fun h=>by
        unfold blockM at h
        simp only [List.cons.injEq,and_true] at h
        exact hb1 h
       have hn2:([y0,y1,y2,y3,y4,y5]:List Nat) ≠ endM:=fun h=>by
        unfold endM at h
        simp only [List.cons.injEq,and_true] at h
        exact he1 h
       have hpn:=Zip (most:=m) (f:=f) HRM.out.symm hn1 hn2
       have HLEN:Hid (R.1.length = i):=by
        unfold Hid
        have:=congrArg List.length hp.out.1
        rw [hpn,List.length_drop] at this
        have:=HII.out
        simp at *
        omega
       have HEND:Hid (R.2 = none):=by unfold Hid;rw [hp.out.2,hpn]
       have q8:∀ w,(Op.equalIn 10000 92 (.agg #[.int .u8 (y0:Nat),.int .u8 (y1:Nat),.int .u8 (y2:Nat),.int .u8 (y3:Nat),.int .u8 (y4:Nat),.int .u8 (y5:Nat)]) (.agg #[.int .u8 49,.int .u8 65,.int .u8 89,.int .u8 38,.int .u8 83,.int .u8 89])).run Try.prog w = .ok false w:=fun w=>by
        rw [q6 w]
        have:((y0:Int) == 49 && ((y1:Int) == 65 && ((y2:Int) == 89 && ((y3:Int) == 38 && ((y4:Int) == 83 && (y5:Int) == 89))))) = false:=by
         rw [Bool.eq_false_iff];intro h;simp at h;omega
        rw [this]
       have q9:∀ w,(Op.equalIn 10000 92 (.agg #[.int .u8 (y0:Nat),.int .u8 (y1:Nat),.int .u8 (y2:Nat),.int .u8 (y3:Nat),.int .u8 (y4:Nat),.int .u8 (y5:Nat)]) (.agg #[.int .u8 23,.int .u8 114,.int .u8 69,.int .u8 56,.int .u8 80,.int .u8 144])).run Try.prog w = .ok false w:=fun w=>by
        rw [q7 w]
        have:((y0:Int) == 23 && ((y1:Int) == 114 && ((y2:Int) == 69 && ((y3:Int) == 56 && ((y4:Int) == 80 && (y5:Int) == 144))))) = false:=by
         rw [Bool.eq_false_iff];intro h;simp at h;omega
        rw [this]
       clear q6 q7 hpn hn1 hn2
       gi_wp2_with fail
       refine ⟨rfl,.inl ⟨?_,?_⟩⟩
       ·rw [HLEN.out];exact HJ3.out
       ·rw [HEND.out];rfl
end Go.Proofs.Ytnkpnjnfddjfpaa

namespace Go.Proofs.Ytnkpnjnfddjfpaa
open Go.RowKit M01 M02 M04 M06 M10 M27
def FourC (b:Nat) (A:World) (x0 x1 x2 x3:Value):Prop:=A.heap[b]? = some (.cells #[x0,x1,x2,x3] 24 (0,0))
theorem FourC.below {b:Nat} {A A':World} {x0 x1 x2 x3:Value} (h:FourC b A x0 x1 x2 x3) (hb:Below A.heap.size A A'):FourC b A' x0 x1 x2 x3:=by
 unfold FourC at *
 exact (hb.block b (lt_of_block h)).trans h
theorem Zdw (l:List Nat):(strOf l).toList = l.map UInt8.ofNat:=by
 rw [Zdf]
 exact ByteArray.toList_mk _
theorem Zaad {x n:Nat} (hx:x < 256) (hn:n < 256):(UInt8.ofNat x = UInt8.ofNat n) ↔ x = n:=by
 constructor
 ·intro h
  have:=congrArg UInt8.toNat h
  simp at this
  omega
 ·rintro rfl;rfl
theorem Zth (w:World):Calls Try.prog 41 #[] w fun e w'=>e = .returned (.string ⟨#[23,114,69,56,80,144]⟩) /\ w' = w:=by
 go_enter Try.func41,Try.ntmps41
 go_wp2_with fail
 go_ret
 exact ⟨rfl,rfl⟩
theorem Zid (w:World):Calls Try.prog 39 #[] w fun e w'=>e = .returned (.string ⟨#[49,65,89,38,83,89]⟩) /\ w' = w:=by
 go_enter Try.func39,Try.ntmps39
 go_wp2_with fail
 go_ret
 exact ⟨rfl,rfl⟩
theorem FourC.grown {b n c base cap:Nat} {A W:World} {ga:Option Addr} {E:TypeId} {k:IntKind} {l:List Nat} {x0 x1 x2 x3:Value} (h:FourC b A x0 x1 x2 x3) (ho:OwnN E k A base ga cap l) (hg:A.grownBy W (Value.slice ga n c).ownBlock) (hne:∀ g,ga = some ⟨g,0,none⟩ -> g ≠ b):FourC b W x0 x1 x2 x3:=by
 unfold FourC at *
 refine (hg.block b (lt_of_block h) fun e=>?_).trans h
 rcases ho.form with ⟨rfl,_⟩ | ⟨g0,rfl,_⟩
 ·simp [Value.ownBlock] at e
 ·simp only [Value.ownBlock,Option.some.injEq] at e
  exact hne g0 rfl e.symm
end Go.Proofs.Ytnkpnjnfddjfpaa

namespace Go.Proofs.Ytnkpnjnfddjfpaa
open Go.RowKit Go.Shelf
theorem Zez (w:World) (l:List Nat) (hb:∀ x ∈ l,x < 256) (hl:l.length <= 1000000) :
  ∃ c w',(convert 9 22 (.string (strOf l))).run Try.prog w = .ok (.slice (some ⟨w.heap.size,0,none⟩) l.length c) w' /\ RowN .u8 w' (some ⟨w.heap.size,0,none⟩) c l /\ Below w.heap.size w w' /\ w'.heap.size = w.heap.size + 1:=by
 have hs:=Zcz l
 refine ⟨grownCap w l.length 0 5,Lib.bytesWorld w 5 (strOf l),?_,?_,?_,Lib.bytesWorld_size w _ _⟩
 ·rw [Lib.run_convert_string_bytes w 9 22 5 (strOf l) Try.underlying9 Try.underlying22 Try.underlying5,hs]
 ·refine ⟨grownCap_ge w _ 0 _,⟨grownCap_le_maxLen w _ 0 _ (by simp [maxLen];omega),fun h=>by cases h⟩,.inr ⟨w.heap.size,0,rfl,by rw [Lib.bytesWorld_size];omega,fun i hi=>?_⟩⟩
  rw [Nat.zero_add,Lib.bytesWorld_cell w _ _ i (by rw [hs];exact hi),Zdf]
  have hx:=hb _ (List.getElem_mem hi)
  simp [List.getD,hi,Nat.mod_eq_of_lt hx]
 ·exact ⟨rfl,rfl,rfl,by rw [Lib.bytesWorld_size];omega,fun b h=>Lib.bytesWorld_at_old w _ _ b h⟩
end Go.Proofs.Ytnkpnjnfddjfpaa

namespace Go.Proofs.Ytnkpnjnfddjfpaa
open Go.RowKit M01 M02 M04 M06 M10 M27
def ofB (l:List Nat):List Nat:=bitL (rv l)
theorem Zbd (l:List Nat):(ofB l).length = 8 * l.length:=by unfold ofB;rw [Zkb,Zap]
theorem Zdm (n k:Nat) (h:0 < n):lengthsG (List.replicate n k) = hbits k 5 ++ List.replicate n 0:=by
 have aux:∀ m,lensR k (List.replicate m k) = List.replicate m 0:=by
  intro m
  induction m with
  | zero=>rfl
  | succ m ih=>rw [List.replicate_succ,lensR,Zml,ih,List.replicate_succ];rfl
 unfold lengthsG
 have hd:(List.replicate n k).getD 0 0 = k:=by
  obtain ⟨m,rfl⟩:∃ m,n = m + 1:=⟨n - 1,by omega⟩
  rfl
 rw [hd,aux]
def grpN (b:List Nat):Nat:=((fputG (turnG b).1).2.length + 49) / 50
theorem Zzz {n:Nat} (h:n <= 258):kOf n <= 9:=by
 unfold kOf
 rcases Nat.lt_or_ge 9 ((List.range 20).findIdx fun k=>decide (n <= 2 ^ k)) with h9 | h9
 ·exfalso
  have h2:=List.not_of_lt_findIdx h9
  simp only [List.getElem_range,decide_eq_false_iff_not,Nat.not_le] at h2
  have h3:512 < n:=h2
  omega
 ·exact h9
theorem Zko (b:List Nat) (sum v first gl:Nat) (hl:b.length <= 1000) (hg:gl <= 300):(rowB b sum v first gl).length <= 15000:=by
 unfold rowB
 have h1:=Zcd (turnG b).1
 rw [Zby] at h1
 have hk:=Zzz (n:=(fputG (turnG b).1).1.length + 2) (by omega)
 have h2:(mapG (fputG (turnG b).1).1).length <= 272:=by unfold mapG;rw [List.length_append,Zbf];have:=Zfk (fputG (turnG b).1).1 16;omega
 have h3:(selectorsG ((List.range gl).map fun i=>(first + i) % 2)).length <= 15 + 7 * gl:=by
  unfold selectorsG
  rw [List.length_append,Zae]
  have:=Zfq ((List.range gl).map fun i=>(first + i) % 2) [0,1,2,3,4,5] (by decide) (fun x hx=>by
   obtain ⟨y,_,rfl⟩:=List.mem_map.1 hx
   have:(first + y) % 2 < 2:=Nat.mod_lt _ (by decide)
   simp;omega)
  rw [List.length_map,List.length_range] at this
  omega
 have h4:(symB (kOf ((fputG (turnG b).1).1.length + 2)) (fputG (turnG b).1).2).length <= 9 * 1001:=by
  rw [Zhm]
  exact Nat.mul_le_mul hk (by omega)
 rw [Zdm _ _ (by omega)]
 simp only [List.length_append,Zae,List.length_replicate]
 omega
def sumI (t:Int) (i:Nat) (p:List Nat):Nat:=if (i:Int) = t then crcHigh (say p) ^^^ 1 else crcHigh (say p)
def fileR (m:Bool) (t:Int):List (List Nat) -> Nat -> Nat -> List Nat
 | [],i,fold=>ofB endM ++ hbits (if t = (i:Int) then fold ^^^ 1 else fold) 32
 | p :: r,i,fold=>ofB blockM ++ rowG p (sumI t i p) m (i % 2) (grpN (maskIf m p)) ++ fileR m t r (i + 1) (foldS fold (sumI t i p))
theorem Zlr (l:List Nat):∀ x ∈ ofB l,x < 2:=Zxv (rv l)
theorem Zti {n v:Nat} (hv:v < 2):∀ x ∈ List.replicate n v,x < 2:=fun x hx=>by rw [List.eq_of_mem_replicate hx];exact hv
theorem Zbp {a b:List Nat} (ha:∀ x ∈ a,x < 2) (hb:∀ x ∈ b,x < 2):∀ x ∈ a ++ b,x < 2:=fun x hx=>(List.mem_append.1 hx).elim (ha x) (hb x)
theorem Zyj (u:List Nat):∀ x ∈ mapG u,x < 2:=by
 have h1:∀ g n,∀ x ∈ grpL u g n,x < 2:=fun g n x hx=>by
  obtain ⟨k,_,rfl⟩:=List.mem_map.1 hx
  split <;> decide
 have h2:∀ g,∀ x ∈ restL u g,x < 2:=by
  intro g
  induction g with
  | zero=>intro x hx;cases hx
  | succ g ih =>
   unfold restL
   refine Zbp ih fun x hx=>?_
   split at hx
   ·exact h1 _ _ x hx
   ·cases hx
 refine Zbp (fun x hx=>?_) (h2 16)
 obtain ⟨k,_,rfl⟩:=List.mem_map.1 hx
 split <;> decide
theorem Ztu:∀ (l fl:List Nat),∀ x ∈ selR fl l,x < 2
 | [],fl,x,hx=>by cases hx
 | c :: r,fl,x,hx=>by
  unfold selR at hx
  refine Zbp (Zti (by decide)) (fun y hy=>?_) x hx
  rcases List.mem_cons.1 hy with hy | hy
  ·omega
  ·exact Ztu r _ y hy
theorem Zzf (k:Nat) (l:List Nat):∀ x ∈ symB k l,x < 2:=fun x hx=>by
 obtain ⟨s,_,h⟩:=List.mem_flatMap.1 hx
 exact Zcl _ _ x h
theorem Zyw (b:List Nat) (sum v first gl:Nat):∀ x ∈ rowB b sum v first gl,x < 2:=by
 unfold rowB
 rw [Zdm _ _ (by omega)]
 have hL:=Zbp (Zcl (kOf ((fputG (turnG b).1).1.length + 2)) 5) (Zti (n:=(fputG (turnG b).1).1.length + 2) (v:=0) (by decide))
 exact Zbp (Zbp (Zbp (Zbp (Zbp (Zbp (Zbp (Zbp (Zcl _ _) (Zcl _ _)) (Zcl _ _)) (Zyj _)) (Zcl _ _)) (Zbp (Zcl _ _) (Ztu _ _))) hL) hL) (Zzf _ _)
theorem Zgz (m:Bool) (t:Int):∀ (ps:List (List Nat)) (i fold:Nat),∀ x ∈ fileR m t ps i fold,x < 2
 | [],i,fold=>by unfold fileR;exact Zbp (Zlr _) (Zcl _ _)
 | p :: r,i,fold=>by unfold fileR;exact Zbp (Zbp (Zlr _) (Zyw _ _ _ _ _)) (Zgz m t r _ _)
def fileG (level:Nat) (ps:List (List Nat)) (m:Bool) (t:Int):List Nat:=packH (ofB [66,90,104,48 + level] ++ fileR m t ps 0 0)
set_option maxRecDepth 100000 in
set_option maxHeartbeats 6400000 in
theorem Zju (level:Nat) (pa:Option Addr) (pc:Nat) (es:Es) (m:Bool) (t:Int) (w:World) (hlv:level <= 9) (hps:RowS encSl w pa pc es) (hrs:∀ i (h:i < es.length),RowN .u8 w es[i].1 es[i].2.1 es[i].2.2) (hp:∀ p ∈ es.map (fun t=>t.2.2),0 < p.length /\ p.length <= 1000 /\ ∀ x ∈ p,x < 256) (hn:es.length <= 10) (ht:-1000 <= t /\ t <= 1000) :
  Calls Try.prog 11 #[.int .i64 (level:Nat),.slice pa es.length pc,.bool m,.int .i64 t] w fun e w'=>∃ g c,e = .returned (.slice g (fileG level (es.map fun t=>t.2.2) m t).length c) /\ OwnN 5 .u8 w' w.heap.size g c (fileG level (es.map fun t=>t.2.2) m t) /\ Below w.heap.size w w':=by
 have HPS:=Zh hps
 have HRS:=Zh hrs
 have HPP:=Zh hp
 obtain ⟨q,hq⟩:∃ q,w.heap.size = q:=⟨_,rfl⟩
 have HQ:=Zh hq
 rw [hq]
 have HFG:Hid (fileG level (es.map fun t=>t.2.2) m t = packH (ofB [66,90,104,48 + level] ++ fileR m t ((es.map fun t=>t.2.2).drop 0) 0 0)):=rfl
 obtain ⟨P,hP⟩:∃ P,P = ofB [66,90,104,48 + level] ++ fileR m t ((es.map fun t=>t.2.2).drop 0) 0 0:=⟨_,rfl⟩
 rw [<- hP] at HFG
 have HP0:Hid (ofB [66,90,104,48 + level] ++ fileR m t ((es.map fun t=>t.2.2).drop 0) 0 0 = P):=hP.symm
 have HPLT:Hid (∀ x ∈ P,x < 2):=fun x hx=>by
  rw [hP] at hx
  rcases List.mem_append.1 hx with hx | hx
  ·exact Zlr _ x hx
  ·exact Zgz m t _ _ _ x hx
 generalize fileG level (es.map fun t=>t.2.2) m t = FG at *
 have HCV1:=Zh (fun (x:Nat) (A:World)=>Zey (P:=Try.prog) (src:=22) (dst:=9) (e:=5) (w:=A.alloc (.cells #[.int .u8 (x:Nat)] 5)) (a:=some ⟨A.heap.size,0,none⟩) (cap:=1) (n:=1) (l:=[x]) Try.underlying22 Try.underlying5 Try.underlying9 rfl (OwnN.lit (k:=.u8) 5 A A.heap.size [x] #[.int .u8 (x:Nat)] A.heap.size rfl rfl (Nat.le_refl _) (by simp [maxLen])).row)
 clear hps hrs hp hq hP
 obtain ⟨lv,hlv2⟩:∃ lv,48 + level = lv:=⟨_,rfl⟩
 have u1:(48:Int) + (level:Int) = (lv:Int):=by omega
 have u2:(lv:Int) % 256 = (lv:Int):=by omega
 rw [hlv2] at HP0
 have hcv:=HCV1.out lv w
 have hbz:ByteArray.mk #[66,90,104] ++ strOf [lv] = strOf [66,90,104,lv]:=(Zgv [66,90,104] [lv]).symm
 have HL256:Hid (∀ x ∈ [66,90,104,lv],x < 256):=fun x hx=>by simp at hx;omega
 obtain ⟨c1,w1,hcs,hr1,hb1,hs1⟩:=Zez (w.alloc (.cells #[.int .u8 (lv:Nat)] 5)) [66,90,104,lv] HL256.out (by simp)
 have hsz:(w.alloc (.cells #[.int .u8 (lv:Nat)] 5)).heap.size = w.heap.size + 1:=by simp
 rw [hsz] at hr1
 have HR1:=Zh hr1
 have HB1:=Zh ((Zai w (.cells #[.int .u8 (lv:Nat)] 5)).trans (hb1.mono (by simp)))
 have HO1:=Zh (Zhi _ c1 [66,90,104,lv] w1 hr1 HL256.out (by simp))
 have HW1:Hid (q <= w1.heap.size):=by have:=HQ.out;unfold Hid;omega
 clear hr1 hb1 hs1 hlv2 hsz
 go_enter Try.func11,Try.ntmps11
 go_wp2_with fail
 refine HO1.out.mono ?_
 rintro e w2 ⟨og,oc,rfl,ho2,hb2⟩
 have HQ0:Hid (Below q w w1):=by rw [<- HQ.out];exact HB1.out
 have HO2:=Zh (OwnS.mono ho2 HW1.out)
 have HE2:=Zh (HQ0.out.trans (hb2.mono HW1.out))
 have HOL2:Hid ((bitL (rv [66,90,104,lv])).length = 32):=Zbd [66,90,104,lv]
 clear ho2 hb2 HO1 HR1 HB1 hcv hbz hcs
 obtain ⟨o2,ho2⟩:∃ o,o = bitL (rv [66,90,104,lv]):=⟨_,rfl⟩
 have HP2:Hid (o2 ++ fileR m t ((es.map fun t=>t.2.2).drop 0) 0 0 = P):=by rw [ho2];exact HP0.out
 rw [<- ho2] at HO2 HOL2 ⊢
 clear ho2 HP0
 obtain ⟨ps,hps⟩:∃ ps,ps = es.map fun t=>t.2.2:=⟨_,rfl⟩
 rw [<- hps] at HP2 HPP
 have HPE:=Zh hps
 have HPL:Hid (ps.length = es.length):=by unfold Hid;rw [hps,List.length_map]
 clear hps
 go_wp2_with fail
 go_loopw [9,10,11] (fun ov fv iv A=>∃ (i fold:Nat) (og:Option Addr) (oc:Nat) (o:List Nat),i <= es.length /\ iv = .int .i64 (i:Nat) /\ fv = .int .u32 (fold:Nat) /\ ov = .slice og o.length oc /\ o.length <= 32 + 16000 * i /\ Hid (fold < 4294967296) /\ Hid (OwnB A q og oc o) /\ Hid (Below q w A) /\ Hid (o ++ fileR m t (ps.drop i) i fold = P)) (fun _ _ iv _=>es.length - (intOf iv).toNat)
 case atStart=>exact ⟨0,0,og,oc,o2,Nat.zero_le _,rfl,rfl,rfl,by rw [HOL2.out];decide,(show 0 < 4294967296 by decide),HO2.out,HE2.out,HP2.out⟩
 case round =>
  clear HO2 HE2 HP2 HOL2
  obtain ⟨i,fold,og,oc,o,hi,rfl,rfl,rfl,hol,HFO,HO,HE,HF⟩:=hrel
  by_cases hlt:i < es.length
  case neg =>
   obtain rfl:i = es.length:=by omega
   have t0:decide (es.length < es.length) = false:=by simp
   have HF2:Hid (o ++ (ofB endM ++ hbits (if t = (es.length:Int) then fold ^^^ 1 else fold) 32) = P):=by
    have h:=HF.out
    rw [List.drop_eq_nil_of_le (by rw [HPL.out];exact Nat.le_refl _),fileR] at h
    exact h
   have HQW:Hid (q <= wr.heap.size):=by have:=HE.out.size;have:=HQ.out;unfold Hid;omega
   have hfo:=HFO.out
   have hcb:=Zez wr endM (by decide) (by decide)
   obtain ⟨c5,w5,hcs5,hr5,hb5,hs5⟩:=hcb
   have hcs5':(convert 9 22 (.string ⟨#[23,114,69,56,80,144]⟩)).run Try.prog wr = .ok (.slice (some ⟨wr.heap.size,0,none⟩) 6 c5) w5:=hcs5
   have HOF5:=Zh (Zhi (some ⟨wr.heap.size,0,none⟩) c5 endM w5 hr5 (by decide) (by decide))
   have HE5:=Zh (HE.out.trans (hb5.mono HQW.out))
   have HO5:=Zh (OwnS.below HO.out hb5)
   have HQ5:Hid (q <= w5.heap.size):=by have:=HE5.out.size;have:=HQ.out;unfold Hid;omega
   have HBL:Hid ((bitL (rv endM)).length = 48):=Zbd endM
   clear hcs5 hr5 hb5 hs5 HF
   have hol2:o.length <= 200000:=by omega
   go_wp2_with fail
   refine (Zth _).mono ?_
   rintro e wq ⟨rfl,hwq⟩
   replace hwq:=hwq.symm
   subst hwq
   go_wp2_with fail
   refine HOF5.out.mono ?_
   rintro e w6 ⟨bg,bc,rfl,hob,hb6⟩
   have HE6:=Zh (HE5.out.trans (hb6.mono HQ5.out))
   have HO6:=Zh (OwnS.below HO5.out hb6)
   have HQ6:Hid (q <= w6.heap.size):=by have:=HE6.out.size;have:=HQ.out;unfold Hid;omega
   have HRB:=Zh (OwnS.row hob)
   clear hob hb6 HOF5 hcs5'
   rw [HBL.out]
   have HBL7:Hid ((o ++ bitL (rv endM)).length = o.length + 48):=by unfold Hid;rw [List.length_append,HBL.out]
   by_cases hti:t = (es.length:Int)
   ·have t1:(t == (es.length:Int)) = true:=beq_iff_eq.2 hti
    have hcx:bits .xor .u32 (fold:Int) 1 = ((fold ^^^ 1:Nat):Int):=Zao fold 1 hfo (by decide)
    have hx32:fold ^^^ 1 < 4294967296:=Zbm hfo (by decide)
    rw [if_pos hti] at HF2
    generalize fold ^^^ 1 = sm at *
    clear hti
    go_wp2_with (at_builtin;refine appAnyS Zad rfl (.tmp 57) (.tmp 60) rfl rfl HO6.out HBL.out.symm rfl HRB.out (by omega) (by omega) HQ6.out ?_;intro a7 c7 w7 hown7 hg7 hb7;have HO7:=Zh hown7;have HE7:=Zh (HE6.out.trans hb7);have HQ7:=Zh (Nat.le_trans HQ6.out hg7.size);clear hown7 hg7 hb7)
    refine (Zar sm 32 w7 hx32 (by decide)).mono ?_
    rintro e w8 ⟨g8,rfl,ho8,hb8⟩
    have HE8:=Zh (HE7.out.trans (hb8.mono HQ7.out))
    have HO8:=Zh (OwnS.below HO7.out hb8)
    have HQ8:Hid (q <= w8.heap.size):=by have:=HE8.out.size;have:=HQ.out;unfold Hid;omega
    have HR8:=Zh (OwnS.row ho8)
    clear ho8 hb8
    go_wp2_with (at_builtin;refine appAnyS Zad rfl (.tmp 68) (.tmp 70) rfl (show _ = Value.slice a7 (o ++ bitL (rv endM)).length c7 by rw [HBL7.out];rfl) HO8.out (Zae sm 32).symm rfl HR8.out (by rw [HBL7.out];omega) (by rw [HBL7.out];omega) HQ8.out ?_;intro a9 c9 w9 hown9 hg9 hb9;have HO9:=Zh hown9;have HE9:=Zh (HE8.out.trans hb9);have HQ9:=Zh (Nat.le_trans HQ8.out hg9.size);clear hown9 hg9 hb9)
    have HPO:Hid ((o ++ bitL (rv endM)) ++ hbits sm 32 = P):=by unfold Hid;rw [List.append_assoc];exact HF2.out
    rw [HPO.out] at HO9
    have HPL9:Hid (P.length = o.length + 48 + 32):=by unfold Hid;rw [<- HPO.out,List.length_append,HBL7.out,Zae]
    have e9:o.length + (bitL (rv endM)).length + 32 = P.length:=by rw [HPL9.out,HBL.out]
    rw [e9]
    refine (Zic a9 c9 P w9 (OwnS.row HO9.out) HPLT.out (by rw [HPL9.out];omega)).mono ?_
    rintro e wf ⟨fg,fc,rfl,hof,hbf⟩
    have HOF:=Zh (hof.mono HQ9.out)
    have HEF:=Zh (HE9.out.trans (hbf.mono HQ9.out))
    clear hof hbf e9
    go_wp2_with fail
    go_ret
    rw [HFG.out]
    exact ⟨fg,fc,rfl,HOF.out,HEF.out⟩
   ·have t1:(t == (es.length:Int)) = false:=beq_eq_false_iff_ne.2 hti
    have hx32:=hfo
    rw [if_neg hti] at HF2
    clear hti
    go_wp2_with (at_builtin;refine appAnyS Zad rfl (.tmp 57) (.tmp 60) rfl rfl HO6.out HBL.out.symm rfl HRB.out (by omega) (by omega) HQ6.out ?_;intro a7 c7 w7 hown7 hg7 hb7;have HO7:=Zh hown7;have HE7:=Zh (HE6.out.trans hb7);have HQ7:=Zh (Nat.le_trans HQ6.out hg7.size);clear hown7 hg7 hb7)
    refine (Zar fold 32 w7 hx32 (by decide)).mono ?_
    rintro e w8 ⟨g8,rfl,ho8,hb8⟩
    have HE8:=Zh (HE7.out.trans (hb8.mono HQ7.out))
    have HO8:=Zh (OwnS.below HO7.out hb8)
    have HQ8:Hid (q <= w8.heap.size):=by have:=HE8.out.size;have:=HQ.out;unfold Hid;omega
    have HR8:=Zh (OwnS.row ho8)
    clear ho8 hb8
    go_wp2_with (at_builtin;refine appAnyS Zad rfl (.tmp 68) (.tmp 70) rfl (show _ = Value.slice a7 (o ++ bitL (rv endM)).length c7 by rw [HBL7.out];rfl) HO8.out (Zae fold 32).symm rfl HR8.out (by rw [HBL7.out];omega) (by rw [HBL7.out];omega) HQ8.out ?_;intro a9 c9 w9 hown9 hg9 hb9;have HO9:=Zh hown9;have HE9:=Zh (HE8.out.trans hb9);have HQ9:=Zh (Nat.le_trans HQ8.out hg9.size);clear hown9 hg9 hb9)
    have HPO:Hid ((o ++ bitL (rv endM)) ++ hbits fold 32 = P):=by unfold Hid;rw [List.append_assoc];exact HF2.out
    rw [HPO.out] at HO9
    have HPL9:Hid (P.length = o.length + 48 + 32):=by unfold Hid;rw [<- HPO.out,List.length_append,HBL7.out,Zae]
    have e9:o.length + (bitL (rv endM)).length + 32 = P.length:=by rw [HPL9.out,HBL.out]
    rw [e9]
    refine (Zic a9 c9 P w9 (OwnS.row HO9.out) HPLT.out (by rw [HPL9.out];omega)).mono ?_
    rintro e wf ⟨fg,fc,rfl,hof,hbf⟩
    have HOF:=Zh (hof.mono HQ9.out)
    have HEF:=Zh (HE9.out.trans (hbf.mono HQ9.out))
    clear hof hbf e9
    go_wp2_with fail
    go_ret
    rw [HFG.out]
    exact ⟨fg,fc,rfl,HOF.out,HEF.out⟩
  have t0:decide (i < es.length) = true:=by simp;omega
  have HQW:Hid (q <= wr.heap.size):=by have:=HE.out.size;have:=HQ.out;unfold Hid;omega
  obtain ⟨b,off,rfl,hbb,hcl⟩:=HPS.out.at hlt
  have hc0:=hcl 0 _ rfl
  simp only [encSl,Nat.add_zero,Nat.mul_one] at hc0
  have HCE:Hid (∀ A,Below q w A -> A.cell? ⟨b,off + i,none⟩ = some (.slice es[i].1 es[i].2.2.length es[i].2.1)):=fun A hA=>(hA.cell (p:=⟨b,off + i,none⟩) (by rw [<- HQ.out];exact hbb)).trans hc0
  have hip:i < ps.length:=by rw [HPL.out];exact hlt
  have hpi:ps[i] = es[i].2.2:=by simp [HPE.out]
  obtain ⟨hp0,hp1,hp2⟩:=HPP.out _ (List.getElem_mem hip)
  have HDR:Hid (ps.drop i = ps[i] :: ps.drop (i + 1)):=List.drop_eq_getElem_cons hip
  have HRI:=Zh (fun A (hA:Below q w A)=>RowN.below (HRS.out i hlt) (HQ.out ▸ hA))
  rw [hpi] at hp0 hp1 hp2 HDR
  clear hcl hc0 hpi
  generalize es[i] = en at *
  obtain ⟨pa2,pc2,p⟩:=en
  dsimp only at HCE hp0 hp1 hp2 HDR HRI
  have HP256:=Zh hp2
  have hce:=HCE.out wr HE.out
  obtain ⟨n,hnn⟩:∃ n,p.length = n:=⟨_,rfl⟩
  have HSA:=Zh (fun A (h:RowN .u8 A pa2 pc2 p)=>Zte pa2 pc2 p A h hp2 (by omega))
  have HSL:=Zh (Zxn p hp2)
  have HNN:=Zh hnn
  rw [hnn] at HSA hce hp0 hp1
  have HCE2:Hid (∀ A,Below q w A -> A.cell? ⟨b,off + i,none⟩ = some (.slice pa2 n pc2)):=by rw [<- hnn];exact HCE.out
  clear hp2 hnn HCE
  go_wp2_with fail
  refine (HSA.out wr (HRI.out wr HE.out)).mono ?_
  rintro e w3 ⟨sg,sc,rfl,hsa,hb3⟩
  have HE3:=Zh (HE.out.trans (hb3.mono HQW.out))
  have HO3:=Zh (OwnS.below HO.out hb3)
  have HSR:=Zh hsa.row
  have HQ3:Hid (q <= w3.heap.size):=by have:=HE3.out.size;have:=HQ.out;unfold Hid;omega
  clear hsa hb3
  go_wp2_with fail
  refine (Zqf w3 sg sc (say p) HSR.out HSL.out).mono ?_
  rintro e w4 ⟨rfl,hw4⟩
  replace hw4:=hw4.symm
  subst hw4
  obtain ⟨cv,hcv⟩:∃ cv,crcHigh (say p) = cv:=⟨_,rfl⟩
  have hcv32:cv < 4294967296:=by rw [<- hcv];exact Ziw _
  rw [hcv]
  have HCV:=Zh hcv
  clear hcv
  by_cases hti:t = (i:Int)
  ·have t1:(((i:Nat):Int) == t) = true:=beq_iff_eq.2 hti.symm
   have hcx:=Zao cv 1 hcv32 (by decide)
   have hcx':bits .xor .u32 (cv:Int) 1 = ((cv ^^^ 1:Nat):Int):=hcx
   have hx32:cv ^^^ 1 < 4294967296:=Zbm hcv32 (by decide)
   have HSE:Hid (sumI t i p = cv ^^^ 1):=by unfold Hid sumI;rw [if_pos hti.symm,HCV.out]
   generalize cv ^^^ 1 = sm at *
   clear hti hcx
   have HSUM:=HSE
   have hsm:=hx32
   have hfo:=HFO.out
   go_wp2_with fail
   refine (Zjt w3 fold sm hfo hsm).mono ?_
   rintro e w4 ⟨rfl,hw4⟩
   replace hw4:=hw4.symm
   subst hw4
   have hF2:=HF.out
   rw [HDR.out,fileR,HSUM.out] at hF2
   have hfs:=Zhb hfo hsm
   generalize foldS fold sm = fold2 at *
   have HF2:=Zh hF2
   have HFS:=Zh hfs
   clear hF2 HF hfs hfo
   have hcb:=Zez w3 blockM (by decide) (by decide)
   obtain ⟨c5,w5,hcs5,hr5,hb5,hs5⟩:=hcb
   have hcs5':(convert 9 22 (.string ⟨#[49,65,89,38,83,89]⟩)).run Try.prog w3 = .ok (.slice (some ⟨w3.heap.size,0,none⟩) 6 c5) w5:=hcs5
   have HOF5:=Zh (Zhi (some ⟨w3.heap.size,0,none⟩) c5 blockM w5 hr5 (by decide) (by decide))
   have HE5:=Zh (HE3.out.trans (hb5.mono HQ3.out))
   have HO5:=Zh (OwnS.below HO3.out hb5)
   have HQ5:Hid (q <= w5.heap.size):=by have:=HE5.out.size;have:=HQ.out;unfold Hid;omega
   have HBL:Hid ((bitL (rv blockM)).length = 48):=Zbd blockM
   clear hcs5 hr5 hb5 hs5
   go_wp2_with fail
   refine (Zid _).mono ?_
   rintro e wq ⟨rfl,hwq⟩
   replace hwq:=hwq.symm
   subst hwq
   go_wp2_with fail
   refine HOF5.out.mono ?_
   rintro e w6 ⟨bg,bc,rfl,hob,hb6⟩
   have HE6:=Zh (HE5.out.trans (hb6.mono HQ5.out))
   have HO6:=Zh (OwnS.below HO5.out hb6)
   have HQ6:Hid (q <= w6.heap.size):=by have:=HE6.out.size;have:=HQ.out;unfold Hid;omega
   have HRB:=Zh (OwnS.row hob)
   clear hob hb6 HOF5 hcs5'
   rw [HBL.out]
   obtain ⟨i2,hi2⟩:∃ i2,i % 2 = i2:=⟨_,rfl⟩
   have ui2:(i:Int) % 2 = (i2:Int):=by omega
   rw [hi2] at HF2
   clear hi2
   have hmlen:(maskIf m p).length = n:=by unfold maskIf;rw [<- HNN.out];split;exact Zaw _ _;rfl
   have hgr:grpN (maskIf m p) <= 300:=by
    unfold grpN
    have:=Zcd (turnG (maskIf m p)).1
    rw [Zby,hmlen] at this
    omega
   have HRO:=Zh (fun A (h:RowN .u8 A pa2 pc2 p)=>Zmc pa2 pc2 p sm i2 (grpN (maskIf m p)) m 0 A h HP256.out (by rw [HNN.out];omega) (by rw [HNN.out];omega) hsm (by omega) (by unfold grpN;simp) (by omega) (by decide))
   rw [HNN.out] at HRO
   have hrl:(rowG p sm m i2 (grpN (maskIf m p))).length <= 15000:=by unfold rowG;exact Zko _ _ _ _ _ (by omega) hgr
   obtain ⟨rw_,hrw⟩:∃ r,rowG p sm m i2 (grpN (maskIf m p)) = r:=⟨_,rfl⟩
   rw [hrw] at HF2 HRO hrl
   obtain ⟨rl,hrle⟩:∃ rl,rw_.length = rl:=⟨_,rfl⟩
   rw [hrle] at HRO hrl
   have HRLE:=Zh hrle
   clear hrw hrle hmlen hgr
   go_wp2_with (at_builtin;refine appAnyS Zad rfl (.tmp 41) (.tmp 44) rfl rfl HO6.out HBL.out.symm rfl HRB.out (by omega) (by omega) HQ6.out ?_;intro a7 c7 w7 hown7 hg7 hb7;have HO7:=Zh hown7;have HE7:=Zh (HE6.out.trans hb7);have hce7:=HCE2.out w7 (HE6.out.trans hb7);have HQ7:=Zh (Nat.le_trans HQ6.out hg7.size);clear hown7 hg7 hb7)
   refine (HRO.out w7 (HRI.out w7 HE7.out)).mono ?_
   rintro e w8 ⟨rg,rc,rfl,hro,hb8⟩
   have HE8:=Zh (HE7.out.trans (hb8.mono HQ7.out))
   have HO8:=Zh (OwnS.below HO7.out hb8)
   have HQ8:Hid (q <= w8.heap.size):=by have:=HE8.out.size;have:=HQ.out;unfold Hid;omega
   have HR8:=Zh (OwnS.row hro)
   clear hro hb8 HRO
   have HBL7:Hid ((o ++ bitL (rv blockM)).length = o.length + 48):=by unfold Hid;rw [List.length_append,HBL.out]
   go_wp2_with (at_builtin;refine appAnyS Zad rfl (.tmp 46) (.tmp 55) rfl (show _ = Value.slice a7 (o ++ bitL (rv blockM)).length c7 by rw [HBL7.out];rfl) HO8.out HRLE.out.symm rfl HR8.out (by rw [HBL7.out];omega) (by rw [HBL7.out];omega) HQ8.out ?_;intro a9 c9 w9 hown9 hg9 hb9;have HO9:=Zh hown9;have HE9:=Zh (HE8.out.trans hb9);clear hown9 hg9 hb9)
   go_roundw
   case rel =>
    refine ⟨i + 1,fold2,a9,c9,(o ++ bitL (rv blockM)) ++ rw_,hlt,by go_num,by trivial,?_,?_,HFS.out,HO9.out,HE9.out,?_⟩
    ·rw [List.length_append,HRLE.out,List.length_append]
    ·rw [List.length_append,HBL7.out,HRLE.out];omega
    ·unfold Hid
     have h:=HF2.out
     simpa [ofB] using h
   case measure=>simp [intOf];omega
  ·have t1:(((i:Nat):Int) == t) = false:=beq_eq_false_iff_ne.2 (fun e=>hti e.symm)
   have HSE:Hid (sumI t i p = cv):=by unfold Hid sumI;rw [if_neg (fun e=>hti e.symm),HCV.out]
   clear hti
   have HSUM:=HSE
   have hsm:=hcv32
   have hfo:=HFO.out
   go_wp2_with fail
   refine (Zjt w3 fold cv hfo hsm).mono ?_
   rintro e w4 ⟨rfl,hw4⟩
   replace hw4:=hw4.symm
   subst hw4
   have hF2:=HF.out
   rw [HDR.out,fileR,HSUM.out] at hF2
   have hfs:=Zhb hfo hsm
   generalize foldS fold cv = fold2 at *
   have HF2:=Zh hF2
   have HFS:=Zh hfs
   clear hF2 HF hfs hfo
   have hcb:=Zez w3 blockM (by decide) (by decide)
   obtain ⟨c5,w5,hcs5,hr5,hb5,hs5⟩:=hcb
   have hcs5':(convert 9 22 (.string ⟨#[49,65,89,38,83,89]⟩)).run Try.prog w3 = .ok (.slice (some ⟨w3.heap.size,0,none⟩) 6 c5) w5:=hcs5
   have HOF5:=Zh (Zhi (some ⟨w3.heap.size,0,none⟩) c5 blockM w5 hr5 (by decide) (by decide))
   have HE5:=Zh (HE3.out.trans (hb5.mono HQ3.out))
   have HO5:=Zh (OwnS.below HO3.out hb5)
   have HQ5:Hid (q <= w5.heap.size):=by have:=HE5.out.size;have:=HQ.out;unfold Hid;omega
   have HBL:Hid ((bitL (rv blockM)).length = 48):=Zbd blockM
   clear hcs5 hr5 hb5 hs5
   go_wp2_with fail
   refine (Zid _).mono ?_
   rintro e wq ⟨rfl,hwq⟩
   replace hwq:=hwq.symm
   subst hwq
   go_wp2_with fail
   refine HOF5.out.mono ?_
   rintro e w6 ⟨bg,bc,rfl,hob,hb6⟩
   have HE6:=Zh (HE5.out.trans (hb6.mono HQ5.out))
   have HO6:=Zh (OwnS.below HO5.out hb6)
   have HQ6:Hid (q <= w6.heap.size):=by have:=HE6.out.size;have:=HQ.out;unfold Hid;omega
   have HRB:=Zh (OwnS.row hob)
   clear hob hb6 HOF5 hcs5'
   rw [HBL.out]
   obtain ⟨i2,hi2⟩:∃ i2,i % 2 = i2:=⟨_,rfl⟩
   have ui2:(i:Int) % 2 = (i2:Int):=by omega
   rw [hi2] at HF2
   clear hi2
   have hmlen:(maskIf m p).length = n:=by unfold maskIf;rw [<- HNN.out];split;exact Zaw _ _;rfl
   have hgr:grpN (maskIf m p) <= 300:=by
    unfold grpN
    have:=Zcd (turnG (maskIf m p)).1
    rw [Zby,hmlen] at this
    omega
   have HRO:=Zh (fun A (h:RowN .u8 A pa2 pc2 p)=>Zmc pa2 pc2 p cv i2 (grpN (maskIf m p)) m 0 A h HP256.out (by rw [HNN.out];omega) (by rw [HNN.out];omega) hsm (by omega) (by unfold grpN;simp) (by omega) (by decide))
   rw [HNN.out] at HRO
   have hrl:(rowG p cv m i2 (grpN (maskIf m p))).length <= 15000:=by unfold rowG;exact Zko _ _ _ _ _ (by omega) hgr
   obtain ⟨rw_,hrw⟩:∃ r,rowG p cv m i2 (grpN (maskIf m p)) = r:=⟨_,rfl⟩
   rw [hrw] at HF2 HRO hrl
   obtain ⟨rl,hrle⟩:∃ rl,rw_.length = rl:=⟨_,rfl⟩
   rw [hrle] at HRO hrl
   have HRLE:=Zh hrle
   clear hrw hrle hmlen hgr
   go_wp2_with (at_builtin;refine appAnyS Zad rfl (.tmp 41) (.tmp 44) rfl rfl HO6.out HBL.out.symm rfl HRB.out (by omega) (by omega) HQ6.out ?_;intro a7 c7 w7 hown7 hg7 hb7;have HO7:=Zh hown7;have HE7:=Zh (HE6.out.trans hb7);have hce7:=HCE2.out w7 (HE6.out.trans hb7);have HQ7:=Zh (Nat.le_trans HQ6.out hg7.size);clear hown7 hg7 hb7)
   refine (HRO.out w7 (HRI.out w7 HE7.out)).mono ?_
   rintro e w8 ⟨rg,rc,rfl,hro,hb8⟩
   have HE8:=Zh (HE7.out.trans (hb8.mono HQ7.out))
   have HO8:=Zh (OwnS.below HO7.out hb8)
   have HQ8:Hid (q <= w8.heap.size):=by have:=HE8.out.size;have:=HQ.out;unfold Hid;omega
   have HR8:=Zh (OwnS.row hro)
   clear hro hb8 HRO
   have HBL7:Hid ((o ++ bitL (rv blockM)).length = o.length + 48):=by unfold Hid;rw [List.length_append,HBL.out]
   go_wp2_with (at_builtin;refine appAnyS Zad rfl (.tmp 46) (.tmp 55) rfl (show _ = Value.slice a7 (o ++ bitL (rv blockM)).length c7 by rw [HBL7.out];rfl) HO8.out HRLE.out.symm rfl HR8.out (by rw [HBL7.out];omega) (by rw [HBL7.out];omega) HQ8.out ?_;intro a9 c9 w9 hown9 hg9 hb9;have HO9:=Zh hown9;have HE9:=Zh (HE8.out.trans hb9);clear hown9 hg9 hb9)
   go_roundw
   case rel =>
    refine ⟨i + 1,fold2,a9,c9,(o ++ bitL (rv blockM)) ++ rw_,hlt,by go_num,by trivial,?_,?_,HFS.out,HO9.out,HE9.out,?_⟩
    ·rw [List.length_append,HRLE.out,List.length_append]
    ·rw [List.length_append,HBL7.out,HRLE.out];omega
    ·unfold Hid
     have h:=HF2.out
     simpa [ofB] using h
   case measure=>simp [intOf];omega
end Go.Proofs.Ytnkpnjnfddjfpaa

namespace Go.Proofs.Ytnkpnjnfddjfpaa
open Go.RowKit Go.Shelf M01 M02 M27
def ZRes (q:Nat) (A:World) (x0 x1 x2 x3 z:Value):Prop:=A.heap[q]? = some (.cells #[x0,x1,x2,x3] 24 (0,0)) /\ A.heap[q + 1]? = some (.cells #[z] 25 (0,0))
def setZ (q:Nat) (A:World) (x0 x1 x2 x3 z:Value):World:=((((A.setCell ⟨q,0,none⟩ x0).setCell ⟨q,1,none⟩ x1).setCell ⟨q,2,none⟩ x2).setCell ⟨q,3,none⟩ x3).setCell ⟨q + 1,0,none⟩ z
theorem Ztw {A:World} {b:Nat} {y0 y1 y2 y3:Value} {t:TypeId} (h:A.heap[b]? = some (.cells #[y0,y1,y2,y3] t (0,0))) (x0 x1 x2 x3:Value) :
  ((((A.setCell ⟨b,0,none⟩ x0).setCell ⟨b,1,none⟩ x1).setCell ⟨b,2,none⟩ x2).setCell ⟨b,3,none⟩ x3).heap[b]? = some (.cells #[x0,x1,x2,x3] t (0,0)):=by
 have:=Zbc (i:=3) (x:=x3) (Zbc (i:=2) (x:=x2) (Zbc (i:=1) (x:=x1) (Zbc (i:=0) (x:=x0) h)))
 simpa using this
theorem ZRes.set {q:Nat} {A:World} {y0 y1 y2 y3 y:Value} (h:ZRes q A y0 y1 y2 y3 y) (x0 x1 x2 x3 z:Value):ZRes q (setZ q A x0 x1 x2 x3 z) x0 x1 x2 x3 z:=by
 obtain ⟨h1,h2⟩:=h
 unfold setZ
 refine ⟨?_,?_⟩
 ·rw [Below.heap_setCell _ _ _ _ (by show q ≠ q + 1;omega)]
  exact Ztw h1 x0 x1 x2 x3
 ·refine one_setCell (v:=y) ?_
  rw [Below.heap_setCell _ _ _ _ (by show q + 1 ≠ q;omega),Below.heap_setCell _ _ _ _ (by show q + 1 ≠ q;omega),Below.heap_setCell _ _ _ _ (by show q + 1 ≠ q;omega),Below.heap_setCell _ _ _ _ (by show q + 1 ≠ q;omega)]
  exact h2
theorem Zvf (p:Nat) (x0 x1 x2 x3 z:Value) (w:World) (h:ZRes p w x0 x1 x2 x3 z) :
  CallsD Try.prog 24 #[.pointer (some ⟨p,0,none⟩),.pointer (some ⟨p + 1,0,none⟩)] (.panicking formP) w fun e u' w' =>
   e = .returned (.tuple #[]) /\ u' = .panicking [{ v:=.iface 25 (.int .i64 2),recovered:=true }] /\ w' = setZ p w (.slice none 0 0) (.int .i64 0) (.int .i64 0) (.bool false) (.int .i64 2):=by
 unfold formP
 obtain ⟨h1,h2⟩:=h
 refine callsD_of_wpS Try.func24 rfl fun c₀ cs hu=>?_
 obtain ⟨f0,f1,f2,f3⟩:=Zal h1
 obtain ⟨c0,c1,c2,c3,_,_⟩:=Zaf h1
 have g4:w.cell? ⟨p + 1,0,none⟩ = some z:=cell_of_one h2
 have f4:w.frozen? ⟨p + 1,0,none⟩ = false:=by simp [World.frozen?,h2]
 have te:=Zoy 2
 unfold setZ
 apply wpS_seq
 apply wpS_region
 simp [wpOpsS,go_sem,recoverD,hu,te,Try.ntmps24,Exit.thenS]
 apply wpS_seq
 apply wpS_region
 simp [wpOpsS,go_sem,Exit.thenS]
 refine wpS_cond (t:=true) (by simp [Act.eval,Array.replicate]) ?_
 simp only [if_true]
 apply wpS_region
 simp [wpOpsS,go_sem,c0,c1,c2,c3,g4,f0,f1,f2,f3,f4,bodyPostS,results,Try.results24]
theorem Zkc (p q:Nat) (w:World) :
  CallsD Try.prog 24 #[.pointer (some ⟨p,0,none⟩),.pointer (some ⟨q,0,none⟩)] .returning w fun e u' w' =>
   e = .returned (.tuple #[]) /\ u' = .returning /\ w' = w:=by
 refine callsD_of_wpS Try.func24 rfl fun c₀ cs hu=>?_
 apply wpS_seq
 apply wpS_region
 have te:=Zoz
 simp [wpOpsS,go_sem,recoverD,hu,te,Try.ntmps24,Exit.thenS]
 apply wpS_seq
 apply wpS_region
 simp [wpOpsS,go_sem,Exit.thenS]
 refine wpS_cond (t:=false) (by simp [Act.eval,Array.replicate]) ?_
 simp only [Bool.false_eq_true,if_false]
 refine wpS_of_wp (wp_skip ?_)
 cases c₀
 simp_all [bodyPostS,results,Try.results24]
def bzDef (q:Nat):List Deferred:=[{ target:=Target.fn (Fn.func 24) #[.pointer (some ⟨q,0,none⟩),.pointer (some ⟨q + 1,0,none⟩)],args:=#[] }]
theorem Zxy {q:Nat} {A:World} {x0 x1 x2 x3 z:Value} {tmps:Array Value} {Rr:Ending -> World -> Prop} (h:ZRes q A x0 x1 x2 x3 z) (t4:tmps.getD 4 undef = .pointer (some ⟨q,0,none⟩)) (t5:tmps.getD 5 undef = .pointer (some ⟨q + 1,0,none⟩))
  (hK:Rr (.returned (.tuple #[.agg #[x0,x1,x2,x3],z])) A):LeavesC Try.prog Try.f10 tmps Rr (bzDef q) .returning A:=by
 unfold bzDef
 refine ⟨by simp,.inr ⟨_,_,24,#[.pointer (some ⟨q,0,none⟩),.pointer (some ⟨q + 1,0,none⟩)],rfl,by simp [go_sem],?_⟩⟩
 refine (Zkc q (q + 1) A).mono ?_
 rintro e u' w'' ⟨rfl,rfl,rfl⟩
 obtain ⟨h1,h2⟩:=h
 obtain ⟨c0,c1,c2,c3,_,_⟩:=Zaf h1
 have g4:=cell_of_one h2
 have s4:tmps[4]?.getD undef = .pointer (some ⟨q,0,none⟩):=by simpa using t4
 have s5:tmps[5]?.getD undef = .pointer (some ⟨q + 1,0,none⟩):=by simpa using t5
 simp only [settle]
 simp [LeavesC,Leaves,results,Try.results10,go_sem,s4,s5,c0,c1,c2,c3,g4,hK]
theorem Zrk {q:Nat} {A:World} {x0 x1 x2 x3 z:Value} {tmps:Array Value} {Rr:Ending -> World -> Prop} (h:ZRes q A x0 x1 x2 x3 z) (t4:tmps.getD 4 undef = .pointer (some ⟨q,0,none⟩)) (t5:tmps.getD 5 undef = .pointer (some ⟨q + 1,0,none⟩))
  (hK:Rr (.returned (.tuple #[.agg #[.slice none 0 0,.int .i64 0,.int .i64 0,.bool false],.int .i64 2])) (setZ q A (.slice none 0 0) (.int .i64 0) (.int .i64 0) (.bool false) (.int .i64 2))):LeavesC Try.prog Try.f10 tmps Rr (bzDef q) (.panicking formP) A:=by
 unfold bzDef
 refine ⟨by simp,.inr ⟨_,_,24,#[.pointer (some ⟨q,0,none⟩),.pointer (some ⟨q + 1,0,none⟩)],rfl,by simp [go_sem],?_⟩⟩
 refine (Zvf q x0 x1 x2 x3 z A h).mono ?_
 rintro e u' w'' ⟨rfl,rfl,rfl⟩
 obtain ⟨h1,h2⟩:=h.set (.slice none 0 0) (.int .i64 0) (.int .i64 0) (.bool false) (.int .i64 2)
 obtain ⟨c0,c1,c2,c3,_,_⟩:=Zaf h1
 have g4:=cell_of_one h2
 have s4:tmps[4]?.getD undef = .pointer (some ⟨q,0,none⟩):=by simpa using t4
 have s5:tmps[5]?.getD undef = .pointer (some ⟨q + 1,0,none⟩):=by simpa using t5
 generalize setZ q A (.slice none 0 0) (.int .i64 0) (.int .i64 0) (.bool false) (.int .i64 2) = B at *
 simp only [settle]
 simp [LeavesC,Leaves,results,Try.results10,go_sem,s4,s5,c0,c1,c2,c3,g4,hK]
theorem ZRes.only {T:Nat -> Prop} {q:Nat} {A B:World} {x0 x1 x2 x3 z:Value} (h:ZRes q A x0 x1 x2 x3 z) (ho:Only T A B) (h0:¬ T q) (h1:¬ T (q + 1)):ZRes q B x0 x1 x2 x3 z:=⟨Zac h.1 ho h0,Zac h.2 ho h1⟩
end Go.Proofs.Ytnkpnjnfddjfpaa

namespace Go.Proofs.Ytnkpnjnfddjfpaa.FG
open Go
section
variable {P : Program} {ops : Array Oper} {Q : Exit → Act → World → Prop} {md : Region.Mode}
def wantE (md:Region.Mode) (e:Edge):Bool:=Region.binds md e && (match e.ground with | .data=>true | .guard=>true | _=>false)
theorem Zay {e:Edge} (h:wantE md e = true):Region.binds md e = true:=by unfold wantE at h;rw [Bool.and_eq_true] at h;exact h.1
def usedB (md:Region.Mode) (ops:Array Oper) (fin:Nat -> Bool) (i j:Nat):Bool :=
 !(i == j) && !(anc md ops i ops.size j) && (fin j || (List.range ops.size).any fun k=>!(k == i) && !(anc md ops k ops.size i) && ((ops[k]?).map fun o=>o.after.any fun e=>wantE md e && e.on == j).getD false)
def Wants (md:Region.Mode) (ops:Array Oper) (fin:Nat -> Bool) (listed:Array Bool) (j:Nat):Prop :=
 fin j = true \/ ∃ (k:Nat) (o:Oper) (e:Edge),ops[k]? = some o /\ listed.getD k true = false /\ e ∈ o.after /\ wantE md e = true /\ e.on = j
theorem Wants.used {fin:Nat -> Bool} {listed:Array Bool} {i j:Nat} {oi:Oper} (hij:i ≠ j) (hoi:ops[i]? = some oi) (hwi:∀ e ∈ oi.after,Region.binds md e = true -> listed.getD e.on false = true) (hi:i < listed.size) (hsh:Shut md ops listed) (hun:listed.getD i true = false) (hlj:listed.getD j false = true) (h:Wants md ops fin (listed.setIfInBounds i true) j):Wants md ops fin listed j /\ usedB md ops fin i j = true:=by
 have hna:anc md ops i ops.size j = false:=by
  cases hc:anc md ops i ops.size j with
  | false=>rfl
  | true =>
   have:=hsh.anc i _ _ hc hlj
   simp [hi] at this hun
   rw [hun] at this;cases this
 have hij':(i == j) = false:=by simpa using hij
 unfold usedB
 rw [hna,hij',Bool.not_false,Bool.true_and,Bool.true_and]
 rcases h with h | ⟨k,o,e,hk,hl,he,hb,hj⟩
 ·exact ⟨.inl h,by simp [h]⟩
 ·have hki:k ≠ i:=fun hc=>by
   subst hc;simp [hi] at hl
  rw [getD_set_ne true (Ne.symm hki)] at hl
  have hnk:anc md ops k ops.size i = false:=by
   cases hc:anc md ops k ops.size i with
   | false=>rfl
   | true =>
    have h1:=hsh.ready hoi hwi _ hc
    have hk2:k < listed.size:=by
     rcases Nat.lt_or_ge k listed.size with h' | h'
     ·exact h'
     ·simp [Array.getElem?_eq_none h'] at h1
    simp [hk2] at h1 hl
    rw [h1] at hl;cases hl
  refine ⟨.inr ⟨k,o,e,hk,hl,he,hb,hj⟩,?_⟩
  rw [Bool.or_eq_true];right
  rw [List.any_eq_true]
  refine ⟨k,by simpa using (Array.getElem?_eq_some_iff.1 hk).1,?_⟩
  simp only [hk,Option.map_some,Option.getD_some,Bool.and_eq_true,Bool.not_eq_true',beq_eq_false_iff_ne]
  refine ⟨⟨hki,hnk⟩,?_⟩
  rw [Array.any_eq_true']
  exact ⟨e,he,by simp [hb,hj]⟩
def leftBy (a:Act) (o:Oper):Value:=match o.dst with | some d=>a.tmps.getD d undef | none=>undef
structure FlowAt (md:Region.Mode) (ops:Array Oper) (fin:Nat -> Bool) (R:Array Bool -> World -> Prop) (V:Nat -> Value -> World -> Prop) (D:Nat -> Nat -> Value -> Value -> Prop) (a0:Act) (listed:Array Bool) (a:Act) (w:World):Prop where
 rel:R listed w
 size:a.tmps.size = a0.tmps.size
 defers:a.defers = a0.defers
 out:∀ t,t ∉ dstsL ops -> a.tmps.getD t undef = a0.tmps.getD t undef
 old:∀ (j:Nat) (oj:Oper) (d:Tmp),ops[j]? = some oj -> oj.dst = some d -> listed.getD j false = false -> a.tmps.getD d undef = a0.tmps.getD d undef
 len:listed.size = ops.size
 shut:Shut md ops listed
 val:∀ (i:Nat) (o:Oper),ops[i]? = some o -> listed.getD i false = true -> Wants md ops fin listed i -> V i (leftBy a o) w
 apart:∀ (i j:Nat) (o o':Oper),ops[i]? = some o -> ops[j]? = some o' -> listed.getD i false = true -> listed.getD j false = true -> Wants md ops fin listed i -> Wants md ops fin listed j -> i ≠ j -> D i j (leftBy a o) (leftBy a o')
theorem Zdo {i:Nat} {o:Oper} {d:Tmp} (h:ops[i]? = some o) (hd:o.dst = some d):d ∈ dstsL ops:=by
 unfold dstsL
 rw [List.mem_filterMap]
 exact ⟨o,by simpa using Array.mem_of_getElem? h,hd⟩
structure OneEach (ops:Array Oper) (n:Nat):Prop where
 one:∀ (i j:Nat) (oi oj:Oper) (d:Tmp),ops[i]? = some oi -> ops[j]? = some oj -> oi.dst = some d -> oj.dst = some d -> i = j
 fits:∀ d ∈ dstsL ops,d < n
theorem OneEach.mk' {n:Nat} (h:((List.range ops.size).all fun i=>(List.range ops.size).all fun j=>i == j || (match (ops[i]?).bind (·.dst),(ops[j]?).bind (·.dst) with | some d,some e=>!(d == e) | _,_=>true)) = true)
  (hf:((dstsL ops).all fun d=>d < n) = true):OneEach ops n where
 one i j oi oj d hi hj di dj:=by
  rw [List.all_eq_true] at h
  have h1:=h i (by simpa using (Array.getElem?_eq_some_iff.1 hi).1)
  rw [List.all_eq_true] at h1
  have h2:=h1 j (by simpa using (Array.getElem?_eq_some_iff.1 hj).1)
  simpa [hi,hj,di,dj] using h2
 fits d hd:=by
  rw [List.all_eq_true] at hf
  simpa using hf d hd
theorem Zat {n:Nat} {a:Act} {i j:Nat} {o oj:Oper} {v:Value} (h1:OneEach ops n) (hi:ops[i]? = some o) (hj:ops[j]? = some oj) (hij:i ≠ j):leftBy (a.put o.dst v) oj = leftBy a oj:=by
 unfold leftBy
 cases hdj:oj.dst with
 | none=>rfl
 | some dj =>
  cases hd:o.dst with
  | none=>rfl
  | some d =>
   have:d ≠ dj:=fun e=>hij (h1.one i j o oj d hi hj hd (e ▸ hdj))
   simp [Act.put,Array.getElem?_setIfInBounds_ne this]
theorem Zbu {a:Act} {i:Nat} {o:Oper} {v:Value} (h1:OneEach ops a.tmps.size) (hi:ops[i]? = some o):leftBy (a.put o.dst v) o = (match o.dst with | some _=>v | none=>undef):=by
 unfold leftBy
 cases hd:o.dst with
 | none=>rfl
 | some d =>
  have hlt:d < a.tmps.size:=h1.fits d (Zdo hi hd)
  simp [Act.put,hlt]
theorem Zcq {listed:Array Bool} {i:Nat} (hi:i < listed.size):(listed.setIfInBounds i true).getD i false = true:=by simp [hi]
theorem FlowAt.next {fin:Nat -> Bool} {R:Array Bool -> World -> Prop} {V:Nat -> Value -> World -> Prop} {D:Nat -> Nat -> Value -> Value -> Prop} {a0 a:Act} {listed:Array Bool} {w w':World} {i:Nat} {o:Oper} {v:Value}
  (h1:OneEach ops a0.tmps.size) (h:FlowAt md ops fin R V D a0 listed a w) (hi:ops[i]? = some o) (hun:listed.getD i true = false)
  (hw:∀ e ∈ o.after,Region.binds md e = true -> listed.getD e.on false = true)
  (hR:R (listed.setIfInBounds i true) w')
  (hmono:∀ j u,usedB md ops fin i j = true -> V j u w -> (∀ e ∈ o.after,wantE md e = true -> e.on ≠ j -> ∀ oe,ops[e.on]? = some oe -> D e.on j (leftBy a oe) u /\ D j e.on u (leftBy a oe)) →
   V j u w' /\ D i j (match o.dst with | some _=>v | none=>undef) u /\ D j i u (match o.dst with | some _=>v | none=>undef))
  (hv:V i (match o.dst with | some _=>v | none=>undef) w'):FlowAt md ops fin R V D a0 (listed.setIfInBounds i true) (a.put o.dst v) w':=by
 have hil:i < listed.size:=by rw [h.len];exact (Array.getElem?_eq_some_iff.1 hi).1
 have h1a:OneEach ops a.tmps.size:=h.size ▸ h1
 have wi:∀ e ∈ o.after,wantE md e = true -> Wants md ops fin listed e.on:=fun e he hb=>.inr ⟨i,o,e,hi,hun,he,hb,rfl⟩
 have key:∀ (j:Nat) (oj:Oper),i ≠ j -> ops[j]? = some oj -> (listed.setIfInBounds i true).getD j false = true -> Wants md ops fin (listed.setIfInBounds i true) j →
   V j (leftBy a oj) w' /\ D i j (match o.dst with | some _=>v | none=>undef) (leftBy a oj) /\ D j i (leftBy a oj) (match o.dst with | some _=>v | none=>undef):=by
  intro j oj hij hj hl hn
  rw [getD_set_ne false hij] at hl
  obtain ⟨hn',hu⟩:=hn.used hij hi hw hil h.shut hun hl
  refine hmono j _ hu (h.val j oj hj hl hn') fun e he hb hne oe hoe=>?_
  exact ⟨h.apart _ _ _ _ hoe hj (hw e he (Zay hb)) hl (wi e he hb) hn' hne,h.apart _ _ _ _ hj hoe hl (hw e he (Zay hb)) hn' (wi e he hb) (Ne.symm hne)⟩
 refine ⟨hR,?_,?_,?_,?_,?_,?_,?_,?_⟩
 ·rw [<- h.size];cases o.dst <;> simp [Act.put]
 ·rw [<- h.defers];cases o.dst <;> simp [Act.put]
 ·intro t ht
  rw [<- h.out t ht]
  cases hd:o.dst with
  | none=>rfl
  | some d =>
   have:d ≠ t:=fun e=>ht (e ▸ Zdo hi hd)
   simp [Act.put,Array.getElem?_setIfInBounds_ne this]
 ·intro j oj d hj hd hl
  by_cases hij:i = j
  ·subst hij
   rw [Zcq hil] at hl;cases hl
  ·rw [getD_set_ne false hij] at hl
   rw [<- h.old j oj d hj hd hl]
   cases hd':o.dst with
   | none=>rfl
   | some d' =>
    have:d' ≠ d:=fun e=>hij (h1.one i j o oj d hi hj (e ▸ hd') hd)
    simp [Act.put,Array.getElem?_setIfInBounds_ne this]
 ·rw [<- h.len];simp
 ·intro j oj hj hl e he hb
  by_cases hij:i = j
  ·subst hij
   rw [hi] at hj;cases hj
   exact getD_set_true (hw e he hb)
  ·rw [getD_set_ne false hij] at hl
   exact getD_set_true (h.shut j oj hj hl e he hb)
 ·intro j oj hj hl hn
  by_cases hij:i = j
  ·subst hij
   rw [hi] at hj;cases hj
   rw [Zbu h1a hi];exact hv
  ·rw [Zat h1a hi hj hij]
   exact (key j oj hij hj hl hn).1
 ·intro j k oj ok hj hk hlj hlk hnj hnk hjk
  by_cases hij:i = j
  ·subst hij
   rw [hi] at hj;cases hj
   rw [Zbu h1a hi,Zat h1a hi hk hjk]
   exact (key k ok hjk hk hlk hnk).2.1
  ·rw [Zat h1a hi hj hij]
   by_cases hik:i = k
   ·subst hik
    rw [hi] at hk;cases hk
    rw [Zbu h1a hi]
    exact (key j oj hij hj hlj hnj).2.2
   ·rw [Zat h1a hi hk hik]
    rw [getD_set_ne false hij] at hlj
    rw [getD_set_ne false hik] at hlk
    exact h.apart _ _ _ _ hj hk hlj hlk (hnj.used hij hi hw hil h.shut hun hlj).1 (hnk.used hik hi hw hil h.shut hun hlk).1 hjk
theorem FlowAt.start {fin:Nat -> Bool} {R:Array Bool -> World -> Prop} {V:Nat -> Value -> World -> Prop} {D:Nat -> Nat -> Value -> Value -> Prop} {a0:Act} {w:World} (h:R (Array.replicate ops.size false) w):FlowAt md ops fin R V D a0 (Array.replicate ops.size false) a0 w where
 rel:=h
 size:=rfl
 defers:=rfl
 out _ _:=rfl
 old _ _ _ _ _ _:=rfl
 len:=by simp
 shut i o hi hl:=by
  exfalso
  have:=(Array.getElem?_eq_some_iff.1 hi).1
  simp [this] at hl
 val i o hi hl _:=by
  exfalso
  have:=(Array.getElem?_eq_some_iff.1 hi).1
  simp [this] at hl
 apart i j o o' hi hj hl _ _ _ _:=by
  exfalso
  have:=(Array.getElem?_eq_some_iff.1 hi).1
  simp [this] at hl
theorem FlowAt.end {fin:Nat -> Bool} {R:Array Bool -> World -> Prop} {V:Nat -> Value -> World -> Prop} {D:Nat -> Nat -> Value -> Value -> Prop} {l:List Value} {d:List Deferred} {listed:Array Bool} {a:Act} {w:World}
  (hb:∀ (i:Nat) (o:Oper),ops[i]? = some o -> ∀ e ∈ o.after,Region.binds md e = true -> e.on < i)
  (h:FlowAt md ops fin R V D ⟨l.toArray,d⟩ listed a w) (hr:Region.ready md ops listed = []) :
  R listed w /\ (∀ i,i < ops.size -> listed.getD i false = true) /\ (∀ (i:Nat) (o:Oper),ops[i]? = some o -> fin i = true -> V i (leftBy a o) w) ∧
  a = ⟨(spread (dstsL ops) (fun t=>a.tmps.getD t undef) 0 l).toArray,d⟩:=by
 refine ⟨h.rel,Zdy h.len hb hr,fun i o hi hf=>h.val i o hi (Zdy h.len hb hr i (Array.getElem?_eq_some_iff.1 hi).1) (.inl hf),?_⟩
 have h1:=h.size
 have h2:=h.defers
 have h3:=h.out
 cases a with
 | mk tm df =>
  simp only at h1 h2 h3 ⊢
  subst h2
  congr 1
  apply Array.ext_getElem?
  intro t
  have e2:(spread (dstsL ops) (fun t=>tm.getD t undef) 0 l).toArray[t]? = (spread (dstsL ops) (fun t=>tm.getD t undef) 0 l)[t]?:=by simp
  rw [e2,Zct?]
  simp only [Nat.zero_add]
  have hs:tm.size = l.length:=by simpa using h1
  by_cases ht:t < l.length
  ·have e1:tm[t]? = some (tm.getD t undef):=by simp [hs,ht]
   rw [e1,List.getElem?_eq_getElem ht]
   simp only [Option.map_some,Option.some.injEq]
   cases hc:(dstsL ops).contains t with
   | true=>rfl
   | false =>
    have:t ∉ dstsL ops:=fun hm=>by rw [List.contains_iff_mem.2 hm] at hc;cases hc
    have h4:=h3 t this
    rw [h4];simp [ht]
  ·rw [Array.getElem?_eq_none (by omega),List.getElem?_eq_none (by omega)];rfl
end
end Go.Proofs.Ytnkpnjnfddjfpaa.FG

namespace Go.Proofs.Ytnkpnjnfddjfpaa
open Go.RowKit
theorem list76 (l:List Value) (h:l.length = 76):∃ v8 v9 v10 v11 v12 v13 v14 v15 v16 v17 v18 v19 v20 v21 v22 v23 v24 v25 v26 v27 v28 v29 v30 v31 v32 v33 v34 v35 v36 v37 v38 v39 v40 v41 v42 v43 v44 v45 v46 v47 v48 v49 v50 v51 v52 v53 v54 v55 v56 v57 v58 v59 v60 v61 v62 v63 v64 v65 v66 v67 v68 v69 v70 v71 v72 v73 v74 v75 v76 v77 v78 v79 v80 v81 v82 v83,l = v8 :: v9 :: v10 :: v11 :: v12 :: v13 :: v14 :: v15 :: v16 :: v17 :: v18 :: v19 :: v20 :: v21 :: v22 :: v23 :: v24 :: v25 :: v26 :: v27 :: v28 :: v29 :: v30 :: v31 :: v32 :: v33 :: v34 :: v35 :: v36 :: v37 :: v38 :: v39 :: v40 :: v41 :: v42 :: v43 :: v44 :: v45 :: v46 :: v47 :: v48 :: v49 :: v50 :: v51 :: v52 :: v53 :: v54 :: v55 :: v56 :: v57 :: v58 :: v59 :: v60 :: v61 :: v62 :: v63 :: v64 :: v65 :: v66 :: v67 :: v68 :: v69 :: v70 :: v71 :: v72 :: v73 :: v74 :: v75 :: v76 :: v77 :: v78 :: v79 :: v80 :: v81 :: v82 :: v83 :: []:=by
 match l,h with
 | v8 :: v9 :: v10 :: v11 :: v12 :: v13 :: v14 :: v15 :: v16 :: v17 :: v18 :: v19 :: v20 :: v21 :: v22 :: v23 :: v24 :: v25 :: v26 :: v27 :: v28 :: v29 :: v30 :: v31 :: v32 :: v33 :: v34 :: v35 :: v36 :: v37 :: v38 :: v39 :: v40 :: v41 :: v42 :: v43 :: v44 :: v45 :: v46 :: v47 :: v48 :: v49 :: v50 :: v51 :: v52 :: v53 :: v54 :: v55 :: v56 :: v57 :: v58 :: v59 :: v60 :: v61 :: v62 :: v63 :: v64 :: v65 :: v66 :: v67 :: v68 :: v69 :: v70 :: v71 :: v72 :: v73 :: v74 :: v75 :: v76 :: v77 :: v78 :: v79 :: v80 :: v81 :: v82 :: v83 :: [],_=>exact ⟨v8,v9,v10,v11,v12,v13,v14,v15,v16,v17,v18,v19,v20,v21,v22,v23,v24,v25,v26,v27,v28,v29,v30,v31,v32,v33,v34,v35,v36,v37,v38,v39,v40,v41,v42,v43,v44,v45,v46,v47,v48,v49,v50,v51,v52,v53,v54,v55,v56,v57,v58,v59,v60,v61,v62,v63,v64,v65,v66,v67,v68,v69,v70,v71,v72,v73,v74,v75,v76,v77,v78,v79,v80,v81,v82,v83,rfl⟩
end Go.Proofs.Ytnkpnjnfddjfpaa
