/- bunzip.mark. Arrays of bytes, held against each other. A range over a function whose iterator keeps memory of its own through all rounds, hands out what is told by a predicate of the world (it may hold addresses of new memory), and may panic. bunzip.blocks: contract as an iterator of parts. pressworkref27.stream: contract. A string's bytes as a new row: the run of the conversion. -/
import Derived.Test.YtnkpnjnfddjfpaaGreatQ01
import Derived.Test.YtnkpnjnfddjfpaaGreatQ08
import Derived.Test.YtnkpnjnfddjfpaaGreatQ11
import Derived.Test.YtnkpnjnfddjfpaaGreatQ13
import Derived.Test.YtnkpnjnfddjfpaaGreatQ10
import Derived.Test.YtnkpnjnfddjfpaaGreatQ02
import Derived.Laws.StructEq
import Derived.KernelRfl
import Derived.Lib.ConvBytes
set_option linter.unusedVariables false
set_option linter.unusedSimpArgs false
namespace Go.Proofs.YtnkpnjnfddjfpaaGreat
open Go.RowKit Go.Shelf M01 M02 M27
def MarkOut (w:World) (rp:Nat) (bs:List Nat) (R:Option (List Nat × Nat)) (e:Ending) (w':World):Prop :=
 match R with
 | some (m,a2)=>e = .returned (.agg (m.map fun (n:Nat)=>Value.int .u8 n).toArray) /\ RdM w' rp bs a2 /\ Only (fun b=>b = rp) w w'
 | none=>e = .panicked formP /\ Only (fun b=>b = rp) w w'
theorem six (l:List Nat) (h:l.length = 6):∃ a b c d e f,l = [a,b,c,d,e,f]:=by
 match l,h with
 | [a,b,c,d,e,f],_=>exact ⟨a,b,c,d,e,f,rfl⟩
theorem Zav {E:TypeId} {k:IntKind} {w:World} {base cap g:Nat} {l:List Nat} (h:OwnN E k w base (some ⟨g,0,none⟩) cap l) (j:Nat) (hj:j < l.length):w.cell? ⟨g,j,none⟩ = some (.int k (l.getD j 0:Nat)) /\ w.frozen? ⟨g,j,none⟩ = false:=by
 obtain ⟨g',hg,_,_,hc,hf⟩:=h.at hj
 simp only [Option.some.injEq,Addr.mk.injEq,and_true] at hg
 subst hg
 rw [List.getD_eq_getElem?_getD,List.getElem?_eq_getElem hj]
 exact ⟨hc,hf⟩
set_option maxRecDepth 100000 in
set_option maxHeartbeats 3200000 in
theorem Zzl (w:World) (rp at_:Nat) (bs:List Nat) (hrd:RdM w rp bs at_) :
  Calls Tryz.prog 40 #[.pointer (some ⟨rp,0,none⟩)] w (MarkOut w rp bs (bytesG (rv bs) 6 at_ [])):=by
 obtain ⟨R,hR⟩:∃ R,R = bytesG (rv bs) 6 at_ []:=⟨_,rfl⟩
 rw [<- hR]
 have HR:=Zh hR
 clear hR
 have hrp:=hrd.lt
 go_enter Tryz.func40,Tryz.ntmps40
 go_wp2_with fail
 have hO:=OwnN.lit (k:=.u8) 85 w w.heap.size [0,0,0,0,0,0] #[.int .u8 0,.int .u8 0,.int .u8 0,.int .u8 0,.int .u8 0,.int .u8 0] w.heap.size rfl rfl (Nat.le_refl _) (by decide)
 obtain ⟨mb,hmb⟩:∃ mb,w.heap.size = mb:=⟨_,rfl⟩
 have hon:Only (fun b=>b = rp) w (w.alloc (.cells #[.int .u8 0,.int .u8 0,.int .u8 0,.int .u8 0,.int .u8 0,.int .u8 0] 85)):=(Only.refl _ _).alloc _
 have hrd1:=hrd.only ((Only.refl (fun _=>False) w).alloc (.cells #[.int .u8 0,.int .u8 0,.int .u8 0,.int .u8 0,.int .u8 0,.int .u8 0] 85)) (fun b hb h=>h)
 have hs1:(w.alloc (.cells #[.int .u8 0,.int .u8 0,.int .u8 0,.int .u8 0,.int .u8 0,.int .u8 0] 85)).heap.size = mb + 1:=by rw [<- hmb];simp
 rw [hmb] at hO
 simp only [hmb]
 generalize w.alloc (.cells #[.int .u8 0,.int .u8 0,.int .u8 0,.int .u8 0,.int .u8 0,.int .u8 0] 85) = W1 at *
 have HO:=Zh hO
 have HON:=Zh hon
 have HRD:=Zh hrd1
 have HMB:=Zh hmb
 have hrp2:rp < mb:=by omega
 clear hO hon hrd1 hmb hrd hrp
 go_loopw [4] (fun iv A=>∃ (i at2:Nat) (out:List Nat),iv = .int .i64 (i:Nat) /\ i <= 6 /\ out.length = i /\ RdM A rp bs at2 /\ OwnN 85 .u8 A mb (some ⟨mb,0,none⟩) 6 (out ++ List.replicate (6 - i) 0) /\ Only (fun b=>b = rp) w A /\ Hid (R = bytesG (rv bs) (6 - i) at2 out)) (fun iv _=>6 - (intOf iv).toNat)
 case atStart=>exact ⟨0,at_,[],rfl,by omega,rfl,HRD.out,HO.out,HON.out,HR.out⟩
 case round =>
  clear HO HON HRD HR hs1
  obtain ⟨i,at2,out,rfl,hi,hol,hrd,ho,hon,HF⟩:=hrel
  have HRD:=Zh hrd
  have HO:=Zh ho
  have HON:=Zh hon
  have HOL:=Zh hol
  clear hrd ho hon hol
  by_cases hlt:i < 6
  ·have t0:decide ((i:Int) < 6) = true:=by simp;omega
   obtain ⟨k,hk⟩:∃ k,6 - i = k + 1:=⟨5 - i,by omega⟩
   have HK:=Zh (show 6 - (i + 1) = k by omega)
   rw [hk] at HF HO
   unfold bytesG at HF
   clear hk
   go_wp2_with fail
   by_cases h8:at2 + 8 <= 8 * bs.length
   ·rw [Zct h8] at HF
    refine (Zbv wr rp bs at2 8 (by decide) HRD.out h8).mono ?_
    rintro e A3 ⟨rfl,hr1,ho1⟩
    have hx:=Zbk (rv bs) at2 8
    generalize numH (rv bs) at2 8 = x at *
    go_wp2_with fail
    refine (Zjc _ A3).mono ?_
    rintro e w2 ⟨rfl,h2⟩
    rw [h2]
    clear h2 w2
    have u1:(x:Int) % 256 = x:=by omega
    have hO3:=HO.out.only ho1 (fun b hb=>by omega)
    have hil:i < (out ++ List.replicate (k + 1) 0).length:=by rw [List.length_append,List.length_replicate];have:=HOL.out;omega
    obtain ⟨g,hg,_,_,hc,hf⟩:=hO3.at (i:=i) hil
    have HO4:=Zh (hO3.stored i x).1
    have HN3:=Zh (((HON.out.trans ho1).setCell (p:=⟨mb,i,none⟩) (.inr (by rw [HMB.out];exact Nat.le_refl _)) (.int .u8 (x:Nat))))
    have HR4:=Zh (hr1.only ((Only.refl (fun b=>b = mb) A3).setCell (p:=⟨mb,i,none⟩) (.inl rfl) (.int .u8 (x:Nat))) (fun b hb h=>by omega))
    have HF3:Hid (R = bytesG (rv bs) k (at2 + 8) (out ++ [x])):=HF.out
    simp only [Option.some.injEq,Addr.mk.injEq,and_true] at hg
    subst hg
    generalize (out ++ List.replicate (k + 1) 0)[i] = y at hc
    have hset:(out ++ List.replicate (k + 1) 0).set i x = (out ++ [x]) ++ List.replicate k 0:=by
     rw [<- HOL.out,List.set_append_right _ _ (Nat.le_refl _),Nat.sub_self,List.replicate_succ,List.set_cons_zero,List.append_assoc];rfl
    rw [hset] at HO4
    clear hO3 hset HF HO hil hr1 ho1 h8
    go_wp2_with fail
    go_roundw
    case rel=>exact ⟨i + 1,at2 + 8,out ++ [x],by go_num,by omega,by rw [List.length_append,HOL.out];rfl,HR4.out,by rw [HK.out];exact HO4.out,HN3.out,by rw [HK.out];exact HF3.out⟩
    case measure=>simp [intOf];omega
   ·rw [Zcs h8] at HF
    refine (Zas wr rp bs at2 8 (by decide) HRD.out (by omega)).mono ?_
    rintro e w1 ⟨rfl,n1,rfl⟩
    go_wp2_with fail
    refine (Zjb (.int .u32 0) 2 (by decide) _).mono ?_
    rintro e w2 ⟨rfl,rfl⟩
    refine ⟨rfl,?_⟩
    rw [show R = none from HF.out]
    exact ⟨rfl,HON.out.trans (Zah _ _ _)⟩
  ·obtain rfl:i = 6:=by omega
   have t0:decide ((6:Int) < 6) = false:=by simp
   obtain ⟨y0,y1,y2,y3,y4,y5,rfl⟩:=six out HOL.out
   have ho6:OwnN 85 .u8 wr mb (some ⟨mb,0,none⟩) 6 [y0,y1,y2,y3,y4,y5]:=by simpa using HO.out
   have HO6:=Zh ho6
   have HF6:=Zh ((((((ho6.stored 0 y0).1.stored 1 y1).1.stored 2 y2).1.stored 3 y3).1.stored 4 y4).1.stored 5 y5).1
   have HRF:=Zh (HRD.out.only ((((((((Only.refl (fun b=>b = mb) wr).setCell (p:=⟨mb,0,none⟩) (.inl rfl) (.int .u8 (y0:Nat))).setCell (p:=⟨mb,1,none⟩) (.inl rfl) (.int .u8 (y1:Nat))).setCell (p:=⟨mb,2,none⟩) (.inl rfl) (.int .u8 (y2:Nat))).setCell (p:=⟨mb,3,none⟩) (.inl rfl) (.int .u8 (y3:Nat))).setCell (p:=⟨mb,4,none⟩) (.inl rfl) (.int .u8 (y4:Nat))).setCell (p:=⟨mb,5,none⟩) (.inl rfl) (.int .u8 (y5:Nat)))) (fun b hb h=>by omega))
   have hmb2:¬ w.heap.size = mb -> w.heap.size <= mb:=fun _=>by rw [HMB.out];exact Nat.le_refl _
   have HNF:=Zh (((((((HON.out.setCell (p:=⟨mb,0,none⟩) (.inr (Nat.le_of_eq HMB.out)) (.int .u8 (y0:Nat))).setCell (p:=⟨mb,1,none⟩) (.inr (Nat.le_of_eq HMB.out)) (.int .u8 (y1:Nat))).setCell (p:=⟨mb,2,none⟩) (.inr (Nat.le_of_eq HMB.out)) (.int .u8 (y2:Nat))).setCell (p:=⟨mb,3,none⟩) (.inr (Nat.le_of_eq HMB.out)) (.int .u8 (y3:Nat))).setCell (p:=⟨mb,4,none⟩) (.inr (Nat.le_of_eq HMB.out)) (.int .u8 (y4:Nat))).setCell (p:=⟨mb,5,none⟩) (.inr (Nat.le_of_eq HMB.out)) (.int .u8 (y5:Nat))))
   obtain ⟨e0,g0⟩:=Zav ho6 0 (by simp)
   obtain ⟨e1,g1⟩:=Zav ho6 1 (by simp)
   obtain ⟨e2,g2⟩:=Zav ho6 2 (by simp)
   obtain ⟨e3,g3⟩:=Zav ho6 3 (by simp)
   obtain ⟨e4,g4⟩:=Zav ho6 4 (by simp)
   obtain ⟨e5,g5⟩:=Zav ho6 5 (by simp)
   simp only [List.getD_cons_zero,List.getD_cons_succ] at e0 e1 e2 e3 e4 e5
   clear ho6 hmb2 HO hlt
   go_wp2_with fail
   clear e0 e1 e2 e3 e4 e5 g0 g1 g2 g3 g4 g5
   have hF7:Hid (OwnN 85 .u8 _ mb (some ⟨mb,0,none⟩) 6 [y0,y1,y2,y3,y4,y5]):=HF6.out
   clear HF6
   generalize (((((wr.setCell ⟨mb,0,none⟩ (.int .u8 (y0:Nat))).setCell ⟨mb,1,none⟩ (.int .u8 (y1:Nat))).setCell ⟨mb,2,none⟩ (.int .u8 (y2:Nat))).setCell ⟨mb,3,none⟩ (.int .u8 (y3:Nat))).setCell ⟨mb,4,none⟩ (.int .u8 (y4:Nat))).setCell ⟨mb,5,none⟩ (.int .u8 (y5:Nat)) = F at *
   have e0:=(Zav hF7.out 0 (by simp)).1
   have e1:=(Zav hF7.out 1 (by simp)).1
   have e2:=(Zav hF7.out 2 (by simp)).1
   have e3:=(Zav hF7.out 3 (by simp)).1
   have e4:=(Zav hF7.out 4 (by simp)).1
   have e5:=(Zav hF7.out 5 (by simp)).1
   simp only [List.getD_cons_zero,List.getD_cons_succ] at e0 e1 e2 e3 e4 e5
   refine bodyPost_ret (v:=.agg #[.int .u8 (y0:Nat),.int .u8 (y1:Nat),.int .u8 (y2:Nat),.int .u8 (y3:Nat),.int .u8 (y4:Nat),.int .u8 (y5:Nat)]) (by simp [results,Tryz.results40,go_sem,e0,e1,e2,e3,e4,e5]) rfl ?_
   rw [show R = some ([y0,y1,y2,y3,y4,y5],at2) from HF.out]
   exact ⟨rfl,HRF.out,HNF.out⟩
end Go.Proofs.YtnkpnjnfddjfpaaGreat

namespace Go.Proofs.YtnkpnjnfddjfpaaGreat
open Go.RowKit Go.Shelf
theorem Zzp (a b c d e f:Int) (w:World):(Op.equalIn 10000 83 (.agg #[.int .u8 a,.int .u8 b,.int .u8 c]) (.agg #[.int .u8 d,.int .u8 e,.int .u8 f])).run Tryz.prog w = .ok (a == d && (b == e && c == f)) w:=by
 have u3:=Tryz.underlying5
 have hu:Tryz.prog.underlying 83 = some (.array 3 5):=by kernel_rfl
 rw [show (10000:Nat) = 9999 + 1 from rfl,Op.equalIn]
 simp only [Sem.run_bind,run_underlying hu,Result.andThen_ok]
 simp only [Std.Legacy.Range.forIn_eq_forIn_range',Std.Legacy.Range.size,Nat.sub_zero,Nat.add_sub_cancel,Nat.div_one,List.range'_succ,List.range'_zero,List.forIn_cons,List.forIn_nil]
 go_simp
 by_cases h1:a = d
 ·by_cases h2:b = e
  ·by_cases h3:c = f
   ·simp [h1,h2,h3]
   ·simp [h1,h2,h3]
  ·simp [h1,h2]
 ·simp [h1]
theorem Zsx (a b c d e f g h i j k l:Int) (w:World):(Op.equalIn 10000 85 (.agg #[.int .u8 a,.int .u8 b,.int .u8 c,.int .u8 d,.int .u8 e,.int .u8 f]) (.agg #[.int .u8 g,.int .u8 h,.int .u8 i,.int .u8 j,.int .u8 k,.int .u8 l])).run Tryz.prog w = .ok (a == g && (b == h && (c == i && (d == j && (e == k && f == l))))) w:=by
 have u3:=Tryz.underlying5
 have hu:Tryz.prog.underlying 85 = some (.array 6 5):=by kernel_rfl
 rw [show (10000:Nat) = 9999 + 1 from rfl,Op.equalIn]
 simp only [Sem.run_bind,run_underlying hu,Result.andThen_ok]
 simp only [Std.Legacy.Range.forIn_eq_forIn_range',Std.Legacy.Range.size,Nat.sub_zero,Nat.add_sub_cancel,Nat.div_one,List.range'_succ,List.range'_zero,List.forIn_cons,List.forIn_nil]
 go_simp
 by_cases q0:a = g
 case neg=>simp [q0]
 by_cases q1:b = h
 case neg=>simp [q0,q1]
 by_cases q2:c = i
 case neg=>simp [q0,q1,q2]
 by_cases q3:d = j
 case neg=>simp [q0,q1,q2,q3]
 by_cases q4:e = k
 case neg=>simp [q0,q1,q2,q3,q4]
 by_cases q5:f = l
 case neg=>simp [q0,q1,q2,q3,q4,q5]
 simp [q0,q1,q2,q3,q4,q5]
end Go.Proofs.YtnkpnjnfddjfpaaGreat

namespace Go.Proofs.YtnkpnjnfddjfpaaGreat
open Go.RowKit
def Yields5 (P:Program) (gf:Nat) (lb:Array Value) (n:Nat) (V:Nat -> World -> Array Value -> Prop) (S T:Nat -> Prop) (Fin:Ending -> World -> Prop) (w:World):Prop :=
 ∀ (l:Nat) (J Jx:Nat -> World -> Prop) (W:World),SameOn S w W →
  (∀ i A B,J i A -> Only T A B -> J i B) -> (∀ i A B,Jx i A -> Only T A B -> Jx i B) →
  (∀ i A r,i < n -> J i A -> W.heap.size <= A.heap.size -> V i A r -> YieldAt Fence.wide 9 P l r A fun e B =>
   (e = .returned (.bool true) /\ J (i + 1) B /\ SameOn S A B) \/ (e = .returned (.bool false) /\ Jx (i + 1) B)) →
  J 0 W →
  CallsIn Fence.wide 9 P gf (#[.func (.yield l) #[] #[]] ++ lb) W fun e B=>(J n B /\ Fin e B) \/ (∃ i,i < n /\ Jx (i + 1) B /\ ∃ v,e = .returned v)
theorem Zqr {P:Program} {g:Operand} {ps:Array Tmp} {assign body:Code} {Q:Exit -> Act -> World -> Prop} {a:Act} {w:World}
  {gf:Nat} {lb:Array Value} (hg:a.eval g = .func (.func gf) #[] lb) (eg:∀ args w,(callFunc gf args).run P w = .ok (.enter gf args) w)
  {n:Nat} {V:Nat -> World -> Array Value -> Prop} {S T:Nat -> Prop} {Fin:Ending -> World -> Prop} {w0:World} (hy:Yields5 P gf lb n V S T Fin w0) (hsame:SameOn S w0 w) (hS:∀ b,S b -> b < w.heap.size) (hT:∀ b,T b -> b < w.heap.size)
  (hps:∀ i A r,V i A r -> r.size = ps.size)
  (I:Nat -> World -> Prop) (Ix:Code -> Nat -> World -> Prop)
  (hI:∀ i A B,I i A -> Only T A B -> I i B) (hIp:∀ i A l o o',I i A -> w.heap.size <= l -> A.heap[l]? = some o -> o.isCells = false -> I i (A.putObj l o'))
  (hX:∀ c i A B,Ix c i A -> Only T A B -> Ix c i B) (hXp:∀ c i A l o o',Ix c i A -> w.heap.size <= l -> A.heap[l]? = some o -> o.isCells = false -> Ix c i (A.putObj l o'))
  (hFp:∀ e A l o o',Fin e A -> w.heap.size <= l -> A.heap[l]? = some o -> o.isCells = false -> Fin e (A.putObj l o')) (hFo:∀ A,¬ Fin .outgrown A)
  (h0:I 0 w) (Ax:Nat -> Act -> World -> Prop)
  (hAp:∀ i a' A l o o',Ax i a' A -> w.heap.size <= l -> A.heap[l]? = some o -> o.isCells = false -> Ax i a' (A.putObj l o'))
  (hassign:∀ (l i:Nat) (W:World) (r:Array Value) (K:Act -> World -> Prop),i < n -> w.heap.size + 2 <= W.heap.size -> I i W -> V i W r -> (∀ a' W',KeepsFrom w.heap.size W W' -> SameOn S W W' -> Ax i a' W' -> K a' W') →
   assign.wpIn (Fence.wide.inRound l) 9 P (Exit.then K (fun _ _ _=>False)) { tmps:=(ps.zip r).foldl (fun t (p,v)=>t.setIfInBounds p v) a.tmps,defers:=[] } W)
  (hbody:∀ (l i:Nat) (hi:i < n) (a':Act) (A:World),w.heap.size + 2 <= A.heap.size -> Ax i a' A -> body.wpIn (Fence.wide.inRound l) 9 P (roundEnds w.heap.size S I Ix i A) a' A)
  (hdone:∀ (v:Value) (A:World),I n A -> Fin (.returned v) A -> A.heap[w.heap.size]? = some (.deferred (some [])) -> Q .normal { a with defers:={ target:=.collected w.heap.size,args:=#[] } :: a.defers } A)
  (hpanic:∀ (c:List PanicEntry) (A:World),I n A -> Fin (.panicked c) A -> A.heap[w.heap.size]? = some (.deferred (some [])) -> Q (.panic c) { a with defers:={ target:=.collected w.heap.size,args:=#[] } :: a.defers } A)
  (hstop:∀ (c:Code) (i:Nat) (A:World),i < n -> Ix c (i + 1) A -> A.heap[w.heap.size]? = some (.deferred (some [])) -> c.wpIn Fence.wide 9 P Q { a with defers:={ target:=.collected w.heap.size,args:=#[] } :: a.defers } A) :
  (Code.rangeFunc g ps assign body).wpIn Fence.wide 9 P Q a w:=by
 refine wpIn_rangeFunc ?_
 intro fn hfn
 obtain ⟨rec,hrec⟩:∃ rec:LoopState -> Option Code -> Loop,rec = fun st pe=>{ state:=st,pending:=pe,fn,tmps:=a.tmps,params:=ps,assign,body,defers:=w.heap.size }:=⟨_,rfl⟩
 obtain ⟨W1,hW1⟩:∃ W1,(w.alloc (.deferred (some []))).alloc (.loop (rec .ready none)) = W1:=⟨_,rfl⟩
 have hs1:W1.heap.size = w.heap.size + 2:=by rw [<- hW1];simp
 have hL1:W1.heap[w.heap.size + 1]? = some (.loop (rec .ready none)):=by
  rw [<- hW1];have:=World.alloc_heap_new (w.alloc (.deferred (some []))) (.loop (rec .ready none));rwa [World.size_alloc] at this
 have hK1:W1.heap[w.heap.size]? = some (.deferred (some [])):=by
  rw [<- hW1];exact (Below.heap_alloc _ _ _ (by simp)).trans (World.alloc_heap_new w _)
 have hI1:I 0 W1:=hI 0 w W1 h0 (by rw [<- hW1];exact ((Only.refl T w).alloc _).alloc _)
 have hsame1:SameOn S w0 W1:=⟨by have:=hsame.size;omega,fun b hb=>by
  rw [<- hW1,Below.heap_alloc _ _ _ (by have:=hS b hb;simp;omega),Below.heap_alloc _ _ _ (hS b hb)]
  exact hsame.same b hb⟩
 refine ⟨w.heap.size + 1,[{ target:=.collected w.heap.size,args:=#[] }],W1,{ target:=.fn (.func gf) lb,args:=#[.func (.yield (w.heap.size + 1)) #[] #[]] },W1,gf,
  #[.func (.yield (w.heap.size + 1)) #[] #[]] ++ lb,W1,?_,?_,?_,?_,fun h=>by simp [Fence.wide] at h,?_⟩
 ·rw [<- hW1,hrec];exact run_enterLoop_outer _ _ _ _ _
 ·simp only [resolve,hg]
  simp [go_sem]
 ·intro f' hf';trivial
 ·simp [invoke,go_sem,eg]
 ·have hyy:=hy (w.heap.size + 1)
   (fun i A=>I i A /\ w.heap.size + 2 <= A.heap.size /\ A.heap[w.heap.size + 1]? = some (.loop (rec .ready none)) /\ A.heap[w.heap.size]? = some (.deferred (some [])))
   (fun i A=>∃ c,Ix c i A /\ A.heap[w.heap.size + 1]? = some (.loop (rec .done (some c))) /\ A.heap[w.heap.size]? = some (.deferred (some [])))
   W1 hsame1
   (fun i A B h ho=>⟨hI i A B h.1 ho,Nat.le_trans h.2.1 ho.size,Zad h.2.2.1 ho (fun t=>by have:=hT _ t;omega),Zad h.2.2.2 ho (fun t=>by have:=hT _ t;omega)⟩)
   (fun i A B h ho=>by
    obtain ⟨c,hc,hl,hk⟩:=h
    exact ⟨c,hX c i A B hc ho,Zad hl ho (fun t=>by have:=hT _ t;omega),Zad hk ho (fun t=>by have:=hT _ t;omega)⟩)
   ?_ ⟨hI1,by omega,hL1,hK1⟩
  ·refine (callsIn_wide.2 (callsIn_wide.1 hyy)).mono ?_
   rintro e W2 (⟨⟨hi,_,hl,hk⟩,hfin⟩ | ⟨i,hlt,⟨c,hi,hl,hk⟩,v,rfl⟩)
   ·cases e with
    | returned v=>exact ⟨none,_,by have:=run_endLoop (P:=P) hl (by rw [hrec];simp);rw [hrec] at this;exact this,hdone v _ (hIp _ _ _ _ _ hi (by omega) hl rfl) (hFp _ _ _ _ _ hfin (by omega) hl rfl) ((World.putObj_heap_other (by omega)).trans hk)⟩
    | panicked ch=>exact hpanic ch W2 hi hfin hk
    | outgrown=>exact absurd hfin (hFo W2)
   ·exact ⟨some c,_,by have:=run_endLoop (P:=P) hl (by rw [hrec];simp);rw [hrec] at this;exact this,hstop c i _ hlt (hXp _ _ _ _ _ _ hi (by omega) hl rfl) ((World.putObj_heap_other (by omega)).trans hk)⟩
  ·rintro i W r hi ⟨hii,hsz,hl,hk⟩ _ hv
   have hy':=run_yield (P:=P) (args:=r) hl (by rw [hrec];exact hps _ _ _ hv)
   rw [hrec] at hy'
   refine Zha (n:=9) ⟨fn,_,assign,body,hy',roundIn_of_wpIn hfn (hassign _ i W r _ hi hsz hii hv fun a' W' hk0 hs0 hax=>⟨_,run_beginRound (hk0.same _ _ (by omega) hl rfl) (by rw [hrec]),?_⟩)⟩
   replace hl:=hk0.same _ _ (by omega) hl rfl
   replace hk:=hk0.same _ _ (by omega) hk rfl
   have hlt:w.heap.size + 1 < W'.heap.size:=by have:=hk0.size;omega
   have hl2:(W'.putObj (w.heap.size + 1) (.loop { rec .ready none with state:=.busy })).heap[w.heap.size + 1]? = some (.loop { rec .ready none with state:=.busy }):=World.putObj_heap_same hlt
   have hk2:(W'.putObj (w.heap.size + 1) (.loop { rec .ready none with state:=.busy })).heap[w.heap.size]? = some (.deferred (some [])):=(World.putObj_heap_other (by omega)).trans hk
   have hS2:∀ (A:World) (o:Obj),SameOn S A (A.putObj (w.heap.size + 1) o):=fun A o=>⟨by rw [World.putObj_size];exact Nat.le_refl _,fun b hb=>World.putObj_heap_other (by have:=hS b hb;omega)⟩
   refine wpIn_mono (hbody _ i hi _ _ (by rw [World.putObj_size];omega) (hAp _ _ _ _ _ _ hax (by omega) hl rfl)) ?_
   have fin:∀ (jump:Option Code) (W3:World),KeepsFrom w.heap.size (W'.putObj (w.heap.size + 1) (.loop { rec .ready none with state:=.busy })) W3 →
     (Instr.endRound (w.heap.size + 1) jump).run P W3 = .ok (.bool jump.isNone) (W3.putObj (w.heap.size + 1) (.loop (rec (if jump.isNone then .ready else .done) jump))) ∧
     W3.heap[w.heap.size + 1]? = some (.loop { rec .ready none with state:=.busy }) ∧
     (W3.putObj (w.heap.size + 1) (.loop (rec (if jump.isNone then .ready else .done) jump))).heap[w.heap.size + 1]? = some (.loop (rec (if jump.isNone then .ready else .done) jump)) ∧
     (W3.putObj (w.heap.size + 1) (.loop (rec (if jump.isNone then .ready else .done) jump))).heap[w.heap.size]? = some (.deferred (some [])) /\ w.heap.size + 2 <= (W3.putObj (w.heap.size + 1) (.loop (rec (if jump.isNone then .ready else .done) jump))).heap.size:=fun jump W3 hk3=>by
    have hl3:=hk3.same _ _ (by omega) hl2 rfl
    have:=run_endRound (P:=P) jump hl3
    rw [hrec] at this ⊢
    exact ⟨this,by rw [hrec] at hl3;exact hl3,World.putObj_heap_same (Array.getElem?_eq_some_iff.1 hl3).1,(World.putObj_heap_other (by omega)).trans (hk3.same _ _ (by omega) hk2 rfl),by rw [World.putObj_size];have:=(Array.getElem?_eq_some_iff.1 hl3).1;omega⟩
   rintro e a3 W3 hp
   cases e with
   | normal =>
    obtain ⟨hk3,hkp3,hi3⟩:=hp
    obtain ⟨hr,hl3,hl4,hk4,hz4⟩:=fin none W3 hk3
    exact ⟨_,_,hr,.inl ⟨rfl,⟨hIp _ _ _ _ _ hi3 (by omega) hl3 rfl,hz4,hl4,hk4⟩,((hs0.trans (hS2 _ _)).trans hkp3).trans (hS2 _ _)⟩⟩
   | ret =>
    obtain ⟨hk3,hi3⟩:=hp
    obtain ⟨hr,hl3,hl4,hk4,_⟩:=fin (some .ret) W3 hk3
    exact ⟨_,_,hr,.inr ⟨rfl,.ret,hXp _ _ _ _ _ _ hi3 (by omega) hl3 rfl,hl4,hk4⟩⟩
   | exit id =>
    obtain ⟨hk3,hi3⟩:=hp
    obtain ⟨hr,hl3,hl4,hk4,_⟩:=fin (some (.exit id)) W3 hk3
    exact ⟨_,_,hr,.inr ⟨rfl,.exit id,hXp _ _ _ _ _ _ hi3 (by omega) hl3 rfl,hl4,hk4⟩⟩
   | goto t =>
    obtain ⟨hk3,hi3⟩:=hp
    obtain ⟨hr,hl3,hl4,hk4,_⟩:=fin (some (.goto t)) W3 hk3
    exact ⟨_,_,hr,.inr ⟨rfl,.goto t,hXp _ _ _ _ _ _ hi3 (by omega) hl3 rfl,hl4,hk4⟩⟩
   | panic ch=>exact hp.elim
   | outgrown=>exact hp.elim
end Go.Proofs.YtnkpnjnfddjfpaaGreat

namespace Go.Proofs.YtnkpnjnfddjfpaaGreat
open Go.RowKit Go.Shelf M01 M02 M27
attribute [local go_sem] Oper.semAt_some
theorem Zsg (w:World) (rp:Nat) :
  Calls Tryz.prog 19 #[.pointer (some ⟨rp,0,none⟩)] w fun e w' =>
   e = .returned (.func (.func 39) #[] #[.pointer (some ⟨w.heap.size,0,none⟩)]) /\ w' = w.alloc (.cells #[.pointer (some ⟨rp,0,none⟩)] 43):=by
 have hmf:∀ (fn:Fn) (first cap:Array Value) (w:World),(Instr.makeFunc fn first cap).run Tryz.prog w = .ok (.func fn first cap) w:=fun _ _ _ _=>rfl
 go_enter Tryz.func19,Tryz.ntmps19
 go_wp2
 go_ret
 exact ⟨rfl,rfl⟩
def partV (L:List (List Nat × Nat)) (i:Nat) (A:World) (r:Array Value):Prop :=
 ∃ p a c,L[i]? = some p /\ r = #[.agg #[.slice a p.1.length c,.int .u32 (p.2:Nat)]] /\ RowN .u8 A a c p.1 /\ p.1.length <= 1000000 /\ (∀ x ∈ p.1,x < 256) /\ p.2 < 4294967296
def BzFin (rp:Nat) (bs:List Nat) (E:Option Nat) (e:Ending) (A:World):Prop :=
 match E with
 | some a2=>(∃ v,e = .returned v) /\ RdM A rp bs a2
 | none=>e = .panicked formP
theorem RdM.sameS {w w':World} {p at_:Nat} {bs:List Nat} (h:RdM w p bs at_) (hs:w.heap.size <= w'.heap.size) (hp:w'.heap[p]? = w.heap[p]?) (hd:∀ b,b + 1 = p -> w'.heap[b]? = w.heap[b]?):RdM w' p bs at_:=by
 obtain ⟨a,cap,g1,g2,g3,g4,g5,g6⟩:=h
 exact ⟨a,cap,hp.trans g1,g2.same hs (fun x h0 hx=>hd _ ((g6 x hx).2 h0)),g3,g4,g5,g6⟩
theorem RdM.atC {w:World} {p at_:Nat} {bs:List Nat} (h:RdM w p bs at_):w.cell? ⟨p,1,none⟩ = some (.int .i64 (at_:Nat)):=by
 obtain ⟨a,cap,hc,_⟩:=h
 exact (Zdu hc).2.1
def rdAt (rp:Nat) (A:World):Nat:=(intOf ((A.cell? ⟨rp,1,none⟩).getD undef)).toNat
theorem RdM.rdAt {w:World} {p at_:Nat} {bs:List Nat} (h:RdM w p bs at_):rdAt p w = at_:=by
 unfold Go.Proofs.YtnkpnjnfddjfpaaGreat.rdAt
 rw [h.atC]
 simp [intOf]
theorem Zin {B:List Nat} {most f a:Nat} (h:bytesG B 6 a [] = none):partsG B most (f + 1) a = ([],none):=by
 unfold partsG;rw [h]
theorem Zji {B:List Nat} {most f a a2:Nat} (h:bytesG B 6 a [] = some (endM,a2)):partsG B most (f + 1) a = ([],some a2):=by
 unfold partsG;rw [h];rfl
theorem Zjg {B m:List Nat} {most f a a2:Nat} (h:bytesG B 6 a [] = some (m,a2)) (h1:m ≠ blockM) (h2:m ≠ endM):partsG B most (f + 1) a = ([],none):=by
 unfold partsG;rw [h];simp only [];rw [if_neg h1,if_neg h2]
theorem Zfc {B:List Nat} {most f a a2:Nat} (h:bytesG B 6 a [] = some (blockM,a2)) (h1:blkG B a2 most = none):partsG B most (f + 1) a = ([],none):=by
 unfold partsG;rw [h];simp only [];rw [if_pos trivial,h1]
theorem Zjh {B l:List Nat} {most f a a2 s a3:Nat} (h:bytesG B 6 a [] = some (blockM,a2)) (h1:blkG B a2 most = some (l,s,a3)):partsG B most (f + 1) a = ((l,s) :: (partsG B most f a3).1,(partsG B most f a3).2):=by
 conv=>lhs;unfold partsG
 rw [h];simp only [];rw [if_pos trivial,h1]
theorem fourL (l:List Nat) (h:l.length = 4):∃ a b c d,l = [a,b,c,d]:=by
 match l,h with
 | [a,b,c,d],_=>exact ⟨a,b,c,d,rfl⟩
set_option maxRecDepth 100000 in
set_option maxHeartbeats 6400000 in
theorem Zsj (w:World) (cb rp at_:Nat) (bs:List Nat) (hrd:RdM w rp bs at_) (hcb:w.heap[cb]? = some (.cells #[.pointer (some ⟨rp,0,none⟩)] 43 (0,0))) (hne:cb ≠ rp) :
  Yields5 Tryz.prog 39 #[.pointer (some ⟨cb,0,none⟩)] (strmG (rv bs) at_).1.length (partV (strmG (rv bs) at_).1) (fun b=>b = cb \/ b = rp \/ b + 1 = rp) (fun b=>b = rp) (BzFin rp bs (strmG (rv bs) at_).2) w:=by
 intro y J Jx W hsame hJ hJx hY h0
 have hrdW:RdM W rp bs at_:=hrd.sameS hsame.size (hsame.same _ (.inr (.inl rfl))) (fun b hb=>hsame.same _ (.inr (.inr hb)))
 have hcbW:W.heap[cb]? = _:=(hsame.same cb (.inl rfl)).trans hcb
 obtain ⟨R,hR⟩:∃ R,R = strmG (rv bs) at_:=⟨_,rfl⟩
 rw [<- hR] at hY ⊢
 have HY:=Zh hY
 have HJ:=Zh hJ
 have HR:=Zh hR
 have HRD:=Zh hrdW
 have HCB:=Zh hcbW
 have HNE:=Zh hne
 have HJ0:=Zh h0
 have hrp:=hrdW.lt
 have hcl:=lt_of_block hcbW
 clear hJ hJx hY hsame hrd hcb hrdW hcbW h0 hR hne
 refine callsIn_of_wp Tryz.func39 rfl trivial ?_ rfl
 simp only [Tryz.ntmps39,List.size_toArray,List.length_cons,List.length_nil,Nat.reduceAdd,Nat.reduceSub,Array.replicate_succ,Array.replicate_zero,List.push_toArray,List.append_toArray,List.nil_append,List.cons_append]
 gi_wp2_with fail
 have hO:=OwnN.lit (k:=.u8) 82 W W.heap.size [0,0,0,0] #[.int .u8 0,.int .u8 0,.int .u8 0,.int .u8 0] W.heap.size rfl rfl (Nat.le_refl _) (by decide)
 obtain ⟨hb,hhb⟩:∃ hb,W.heap.size = hb:=⟨_,rfl⟩
 have hon:Only (fun b=>b = rp) W (W.alloc (.cells #[.int .u8 0,.int .u8 0,.int .u8 0,.int .u8 0] 82)):=(Only.refl _ _).alloc _
 have hrd1:=HRD.out.only ((Only.refl (fun _=>False) W).alloc (.cells #[.int .u8 0,.int .u8 0,.int .u8 0,.int .u8 0] 82)) (fun b hb h=>h)
 have hs1:(W.alloc (.cells #[.int .u8 0,.int .u8 0,.int .u8 0,.int .u8 0] 82)).heap.size = hb + 1:=by rw [<- hhb];simp
 rw [hhb] at hO
 simp only [hhb]
 generalize W.alloc (.cells #[.int .u8 0,.int .u8 0,.int .u8 0,.int .u8 0] 82) = W1 at *
 have HO:=Zh hO
 have HON:=Zh hon
 have HRD1:=Zh hrd1
 have HHB:=Zh hhb
 have hrp2:rp < hb:=by omega
 have hcb2:cb < hb:=by omega
 have HR0:Hid (bytesG (rv bs) 4 at_ [] = bytesG (rv bs) (4 - 0) at_ []):=rfl
 clear hO hon hrd1 hhb hrp hcl
 gi_loopw [10] (fun iv A=>∃ (i at2:Nat) (out:List Nat),iv = .int .i64 (i:Nat) /\ i <= 4 /\ out.length = i /\ RdM A rp bs at2 /\ OwnN 82 .u8 A hb (some ⟨hb,0,none⟩) 4 (out ++ List.replicate (4 - i) 0) /\ Only (fun b=>b = rp) W A /\ Hid (bytesG (rv bs) 4 at_ [] = bytesG (rv bs) (4 - i) at2 out)) (fun iv _=>4 - (intOf iv).toNat)
 case atStart=>exact ⟨0,at_,[],rfl,by omega,rfl,HRD1.out,HO.out,HON.out,HR0.out⟩
 case round =>
  clear HO HON HRD HRD1 HR0 hs1
  obtain ⟨i,at2,out,rfl,hi,hol,hrd,ho,hon,HF⟩:=hrel
  have HRD:=Zh hrd
  have HO:=Zh ho
  have HON:=Zh hon
  have HOL:=Zh hol
  have hCB:=Zad HCB.out hon (fun h=>HNE.out h)
  have c1:=cell_of_one hCB
  have HC1:=Zh hCB
  clear hrd ho hon hol hCB
  by_cases hlt:i < 4
  ·have t0:decide ((i:Int) < 4) = true:=by simp;omega
   obtain ⟨k,hk⟩:∃ k,4 - i = k + 1:=⟨3 - i,by omega⟩
   have HK:=Zh (show 4 - (i + 1) = k by omega)
   rw [hk] at HF HO
   unfold bytesG at HF
   clear hk
   gi_wp2_with fail
   refine ⟨trivial,?_⟩
   by_cases h8:at2 + 8 <= 8 * bs.length
   ·rw [Zct h8] at HF
    refine (callsIn_wide.2 (Zbv wr rp bs at2 8 (by decide) HRD.out h8)).mono ?_
    rintro e A3 ⟨rfl,hr1,ho1⟩
    have hx:=Zbk (rv bs) at2 8
    generalize numH (rv bs) at2 8 = x at *
    gi_wp2_with fail
    refine ⟨trivial,?_⟩
    refine (callsIn_wide.2 (Zjc _ A3)).mono ?_
    rintro e w2 ⟨rfl,h2⟩
    rw [h2]
    clear h2 w2
    have u1:(x:Int) % 256 = x:=by omega
    have hO3:=HO.out.only ho1 (fun b hb=>by omega)
    have hil:i < (out ++ List.replicate (k + 1) 0).length:=by rw [List.length_append,List.length_replicate];have:=HOL.out;omega
    obtain ⟨g,hg,_,_,hc,hf⟩:=hO3.at (i:=i) hil
    have HO4:=Zh (hO3.stored i x).1
    have HN3:=Zh (((HON.out.trans ho1).setCell (p:=⟨hb,i,none⟩) (.inr (by rw [HHB.out];exact Nat.le_refl _)) (.int .u8 (x:Nat))))
    have HR4:=Zh (hr1.only ((Only.refl (fun b=>b = hb) A3).setCell (p:=⟨hb,i,none⟩) (.inl rfl) (.int .u8 (x:Nat))) (fun b hb h=>by omega))
    have HF3:Hid (bytesG (rv bs) 4 at_ [] = bytesG (rv bs) k (at2 + 8) (out ++ [x])):=HF.out
    simp only [Option.some.injEq,Addr.mk.injEq,and_true] at hg
    subst hg
    generalize (out ++ List.replicate (k + 1) 0)[i] = y at hc
    have hset:(out ++ List.replicate (k + 1) 0).set i x = (out ++ [x]) ++ List.replicate k 0:=by
     rw [<- HOL.out,List.set_append_right _ _ (Nat.le_refl _),Nat.sub_self,List.replicate_succ,List.set_cons_zero,List.append_assoc];rfl
    rw [hset] at HO4
    clear hO3 hset HF HO hil hr1 ho1 h8 c1
    gi_wp2_with fail
    go_roundw
    case rel=>exact ⟨i + 1,at2 + 8,out ++ [x],by go_num,by omega,by rw [List.length_append,HOL.out];rfl,HR4.out,by rw [HK.out];exact HO4.out,HN3.out,by rw [HK.out];exact HF3.out⟩
    case measure=>simp [intOf];omega
   ·rw [Zcs h8] at HF
    have hbn:bytesG (rv bs) 4 at_ [] = none:=HF.out
    have HRN:Hid (R = ([],none)):=by unfold Hid;rw [HR.out];unfold strmG;rw [hbn]
    clear hbn
    refine (callsIn_wide.2 (Zas wr rp bs at2 8 (by decide) HRD.out (by omega))).mono ?_
    rintro e w1 ⟨rfl,n1,rfl⟩
    gi_wp2_with fail
    refine ⟨trivial,?_⟩
    refine (callsIn_wide.2 (Zjb (.int .u32 0) 2 (by decide) _)).mono ?_
    rintro e w2 ⟨rfl,rfl⟩
    refine ⟨rfl,.inl ⟨?_,?_⟩⟩
    ·rw [HRN.out];exact HJ.out _ _ _ HJ0.out (HON.out.trans (Zah _ _ _))
    ·rw [HRN.out];rfl
  ·obtain rfl:i = 4:=by omega
   rw [show ((4:Nat):Int) = 4 from rfl]
   obtain ⟨x0,x1,x2,x3,rfl⟩:=fourL out HOL.out
   have t0:decide ((4:Int) < 4) = false:=by simp
   have ho4:OwnN 82 .u8 wr hb (some ⟨hb,0,none⟩) 4 [x0,x1,x2,x3]:=by simpa using HO.out
   obtain ⟨e0,g0⟩:=Zav ho4 0 (by simp)
   obtain ⟨e1,g1⟩:=Zav ho4 1 (by simp)
   obtain ⟨e2,g2⟩:=Zav ho4 2 (by simp)
   obtain ⟨e3,g3⟩:=Zav ho4 3 (by simp)
   simp only [List.getD_cons_zero,List.getD_cons_succ] at e0 e1 e2 e3
   have HF4:Hid (bytesG (rv bs) 4 at_ [] = some ([x0,x1,x2,x3],at2)):=HF.out
   clear ho4 HF HO hlt HOL
   have har:∀ w,(Instr.arrayAt 83 (.slice (some ⟨hb,0,none⟩) 3 4)).run Tryz.prog w = .ok (.pointer (some ⟨hb,0,none⟩)) w:=fun w=>by kernel_rfl
   have q3:=fun w=>Zzp x0 x1 x2 66 90 104 w
   by_cases hmag:x0 = 66 /\ x1 = 90 /\ x2 = 104
   case neg =>
    have HRN:Hid (R = ([],none)):=by unfold Hid;rw [HR.out];unfold strmG;rw [HF4.out];simp only [];rw [if_neg (by simp;omega)]
    have q4:∀ w,(Op.equalIn 10000 83 (.agg #[.int .u8 (x0:Nat),.int .u8 (x1:Nat),.int .u8 (x2:Nat)]) (.agg #[.int .u8 66,.int .u8 90,.int .u8 104])).run Tryz.prog w = .ok false w:=fun w=>by
     rw [q3 w]
     have:((x0:Int) == 66 && ((x1:Int) == 90 && (x2:Int) == 104)) = false:=by
      rw [Bool.eq_false_iff];intro h;simp at h;omega
     rw [this]
    clear q3
    gi_wp2_with fail
    refine ⟨rfl,.inl ⟨?_,?_⟩⟩
    ·rw [HRN.out];exact HJ.out _ _ _ HJ0.out HON.out
    ·rw [HRN.out];rfl
   obtain ⟨rfl,rfl,rfl⟩:=hmag
   have q4:∀ w,(Op.equalIn 10000 83 (.agg #[.int .u8 66,.int .u8 90,.int .u8 104]) (.agg #[.int .u8 66,.int .u8 90,.int .u8 104])).run Tryz.prog w = .ok true w:=q3
   by_cases hlo:x3 < 49
   case pos =>
    have HRN:Hid (R = ([],none)):=by unfold Hid;rw [HR.out];unfold strmG;rw [HF4.out];simp only [];rw [if_neg (by simp;omega)]
    have t1:decide ((x3:Int) < 49) = true:=by simp;omega
    clear q3
    gi_wp2_with fail
    refine ⟨rfl,.inl ⟨?_,?_⟩⟩
    ·rw [HRN.out];exact HJ.out _ _ _ HJ0.out HON.out
    ·rw [HRN.out];rfl
   have t1:decide ((x3:Int) < 49) = false:=by simp;omega
   by_cases hhi:57 < x3
   case pos =>
    have HRN:Hid (R = ([],none)):=by unfold Hid;rw [HR.out];unfold strmG;rw [HF4.out];simp only [];rw [if_neg (by simp;omega)]
    have t2:decide ((57:Int) < (x3:Int)) = true:=by simp;omega
    clear q3
    gi_wp2_with fail
    refine ⟨rfl,.inl ⟨?_,?_⟩⟩
    ·rw [HRN.out];exact HJ.out _ _ _ HJ0.out HON.out
    ·rw [HRN.out];rfl
   have t2:decide ((57:Int) < (x3:Int)) = false:=by simp;omega
   obtain ⟨m,hm⟩:∃ m,(x3 - 48) * 100000 = m:=⟨_,rfl⟩
   have hmi:((x3:Int) - 48) * 100000 = (m:Int):=by omega
   have hmw:IntKind.i64.wrap (((x3:Int) - 48) * 100000) = (m:Int):=by rw [hmi];exact IntWalk.i64_in _ (by omega)
   have hmx:((x3:Int) - 48) % 256 = (x3:Int) - 48:=by omega
   have hm9:m <= 900000:=by omega
   have HRP:Hid (R = partsG (rv bs) m (nb (rv bs) + 1) at2):=by
    unfold Hid;rw [HR.out];unfold strmG;rw [HF4.out];simp only [];rw [if_pos (by simp;omega),<- hm];rfl
   clear q3 hm HF4 HR
   have HRD2:=Zh (HRD.out)
   have HJ2:Hid (J 0 wr):=HJ.out _ _ _ HJ0.out HON.out
   have hsz2:W.heap.size <= wr.heap.size:=HON.out.size
   have HSZ2:=Zh hsz2
   have HFU:Hid (nb (rv bs) + 1 <= nb (rv bs) + 1 + at2):=by unfold Hid;omega
   have HP0:Hid (R.1.drop 0 = (partsG (rv bs) m (nb (rv bs) + 1) at2).1 /\ R.2 = (partsG (rv bs) m (nb (rv bs) + 1) at2).2):=by unfold Hid;rw [HRP.out];exact ⟨rfl,rfl⟩
   have hm1:1 <= m:=by omega
   clear HRD HJ0 HON hsz2 HRP
   gi_wp2_with fail
   gi_loopw [6] (fun _ A=>∃ (i at3 f:Nat),RdM A rp bs at3 /\ A.heap[cb]? = some (.cells #[.pointer (some ⟨rp,0,none⟩)] 43 (0,0)) /\ J i A /\ Hid (W.heap.size <= A.heap.size) /\ i <= R.1.length /\ Hid (nb (rv bs) + 1 <= f + at3) /\ Hid (R.1.drop i = (partsG (rv bs) m f at3).1 /\ R.2 = (partsG (rv bs) m f at3).2)) (fun _ A=>8 * bs.length - rdAt rp A)
   case atStart=>exact ⟨0,at2,nb (rv bs) + 1,HRD2.out,HC1.out,HJ2.out,HSZ2.out,Nat.zero_le _,HFU.out,HP0.out⟩
   case round =>
    clear HRD2 HC1 HJ2 HSZ2 HFU HP0 c1
    obtain ⟨i,at3,f,hrd,hcb,hj,hsz,hi,hfu,hp⟩:=hrel
    have HRD:=Zh hrd
    have HRD0:=Zh hrd
    have HCB2:=Zh hcb
    have c1:=cell_of_one hcb
    have HJA:=Zh hj
    have hle:at3 <= 8 * bs.length:=hrd.le
    have HLE:=Zh hle
    have hrps:=hrd.lt
    have hcbs:=lt_of_block hcb
    obtain ⟨f,rfl⟩:∃ g,f = g + 1:=⟨f - 1,by have:=hfu.out;unfold nb at this;rw [Zba] at this;omega⟩
    have HII:=Zh hi
    obtain ⟨Rm,hRm⟩:∃ Rm,Rm = bytesG (rv bs) 6 at3 []:=⟨_,rfl⟩
    have HRM:=Zh hRm
    clear hrd hcb hj hle hi hRm
    gi_wp2_with fail
    refine ⟨trivial,?_⟩
    refine (callsIn_wide.2 (Zzl wr rp at3 bs HRD.out)).mono ?_
    rw [<- HRM.out]
    rintro e w2 hmo
    cases Rm with
    | none =>
     obtain ⟨rfl,HON2⟩:=hmo
     have hpn:=Zin (most:=m) (f:=f) HRM.out.symm
     have HLEN:Hid (R.1.length = i):=by
      unfold Hid
      have:=congrArg List.length hp.out.1
      rw [hpn,List.length_drop] at this
      have:=HII.out
      simp at *
      omega
     have HEND:Hid (R.2 = none):=by unfold Hid;rw [hp.out.2,hpn]
     refine ⟨rfl,.inl ⟨?_,?_⟩⟩
     ·rw [HLEN.out];exact HJ.out _ _ _ HJA.out HON2
     ·rw [HEND.out];rfl
    | some q =>
     obtain ⟨ym,at4⟩:=q
     obtain ⟨rfl,hrd2,hon2⟩:=hmo
     obtain ⟨hyl,hy4⟩:=Zce HRM.out.symm
     obtain ⟨y0,y1,y2,y3,y4,y5,rfl⟩:=six ym (by simpa using hyl)
     have HCB3:=Zh (Zad HCB2.out hon2 (fun h=>HNE.out h))
     have c2:=cell_of_one HCB3.out
     have HRD3:=Zh hrd2
     have HJ3:=Zh (HJ.out _ _ _ HJA.out hon2)
     have HSZ3:Hid (W.heap.size <= w2.heap.size):=Nat.le_trans hsz.out hon2.size
     clear hrd2 hon2 c1 HRD HCB2 HJA hyl
     simp only [List.map_cons,List.map_nil]
     have q6:=fun w=>Zsx y0 y1 y2 y3 y4 y5 49 65 89 38 83 89 w
     have q7:=fun w=>Zsx y0 y1 y2 y3 y4 y5 23 114 69 56 80 144 w
     by_cases hb1:y0 = 49 /\ y1 = 65 /\ y2 = 89 /\ y3 = 38 /\ y4 = 83 /\ y5 = 89
     ·obtain ⟨rfl,rfl,rfl,rfl,rfl,rfl⟩:=hb1
      have q8:∀ w,(Op.equalIn 10000 85 (.agg #[.int .u8 49,.int .u8 65,.int .u8 89,.int .u8 38,.int .u8 83,.int .u8 89]) (.agg #[.int .u8 49,.int .u8 65,.int .u8 89,.int .u8 38,.int .u8 83,.int .u8 89])).run Tryz.prog w = .ok true w:=q6
      clear q6 q7
      gi_wp2_with fail
      refine ⟨trivial,?_⟩
      obtain ⟨Rb,hRb⟩:∃ Rb,Rb = blkG (rv bs) at4 m:=⟨_,rfl⟩
      have HRB:=Zh hRb
      have HMM:Hid (bytesG (rv bs) 6 at3 [] = some (blockM,at4)):=HRM.out.symm
      refine (callsIn_wide.2 (Zzj w2 rp bs at4 m HRD3.out hm1 hm9)).mono ?_
      rw [<- HRB.out]
      rintro e w3 ⟨hon3,hbo⟩
      clear hRb
      cases Rb with
      | none =>
       obtain rfl:=hbo
       have hpn:=Zfc (most:=m) (f:=f) HMM.out HRB.out.symm
       have HLEN:Hid (R.1.length = i):=by
        unfold Hid
        have:=congrArg List.length hp.out.1
        rw [hpn,List.length_drop] at this
        have:=HII.out
        simp at *
        omega
       have HEND:Hid (R.2 = none):=by unfold Hid;rw [hp.out.2,hpn]
       have HJ4:=Zh (HJ.out _ _ _ HJ3.out hon3)
       clear hpn hon3 HJ3 c2
       gi_wp2_with fail
       refine ⟨trivial,?_⟩
       refine (callsIn_wide.2 (Zwf (.int .i64 0) 2 (by decide) _)).mono ?_
       rintro e w4 ⟨rfl,h4⟩
       rw [h4]
       clear h4 w4
       refine ⟨rfl,.inl ⟨?_,?_⟩⟩
       ·rw [HLEN.out];exact HJ4.out
       ·rw [HEND.out];rfl
      | some q =>
       obtain ⟨l,s,at5⟩:=q
       obtain ⟨ga,gc,rfl,hown,hrd3⟩:=hbo
       have HBK:=Zh (Zne HRB.out.symm (by omega))
       have hpn:=Zjh (most:=m) (f:=f) HMM.out HRB.out.symm
       have hp1:=hp.out.1
       rw [hpn] at hp1
       have HLT:Hid (i < R.1.length):=by
        unfold Hid
        rcases Nat.lt_or_ge i R.1.length with h | h
        ·exact h
        ·rw [List.drop_eq_nil_of_le h] at hp1;cases hp1
       have HGI:Hid (R.1[i]? = some (l,s)):=by
        unfold Hid
        have:=congrArg (fun x=>x[0]?) hp1
        simpa using this
       have HP2:Hid (R.1.drop (i + 1) = (partsG (rv bs) m f at5).1 /\ R.2 = (partsG (rv bs) m f at5).2):=by
        refine ⟨?_,by rw [hp.out.2,hpn]⟩
        have:=congrArg (List.drop 1) hp1
        rw [List.drop_drop] at this
        simpa using this
       have HCB4:=Zh (Zad HCB3.out hon3 (fun h=>HNE.out h))
       have HRD4:=Zh hrd3
       have HJ4:=Zh (HJ.out _ _ _ HJ3.out hon3)
       have HSZ4:Hid (W.heap.size <= w3.heap.size):=Nat.le_trans HSZ3.out hon3.size
       have HRW:=Zh hown.row
       clear hpn hp1 hon3 hown hrd3 c2 HCB3 HRD3 HJ3 HSZ3
       gi_wp2_with fail
       refine ⟨trivial,?_⟩
       refine (callsIn_wide.2 (Zwg (.int .i64 0) w3)).mono ?_
       rintro e w4 ⟨rfl,h4⟩
       rw [h4]
       clear h4 w4
       obtain ⟨fn,tmps,assign,body,hy,hR⟩:=HY.out i w3 #[.agg #[.slice ga l.length gc,.int .u32 (s:Nat)]] HLT.out HJ4.out HSZ4.out ⟨(l,s),ga,gc,HGI.out,rfl,HRW.out,(show l.length <= 1000000 from by have:=HBK.out.2.1;omega),HBK.out.2.2.1,HBK.out.2.2.2⟩
       have HRR:=Zh hR
       clear hR
       gi_wp2_with fail
       refine (Zex HRR.out).mono ?_
       rintro e W' (⟨rfl,hJ',hk'⟩ | ⟨rfl,hJx'⟩)
       ·have HCB5:Hid (W'.heap[cb]? = _):=Zh ((hk'.same cb (.inl rfl)).trans HCB4.out)
        have HRD5:=Zh (HRD4.out.sameS hk'.size (hk'.same _ (.inr (.inl rfl))) (fun b hb=>hk'.same _ (.inr (.inr hb))))
        have HJ5:=Zh hJ'
        have HSZ5:Hid (W.heap.size <= W'.heap.size):=Nat.le_trans HSZ4.out hk'.size
        have h45:=HBK.out.1
        have hrle:=HRD5.out.le
        have hm1':rdAt rp wr = at3:=HRD0.out.rdAt
        have hm2':rdAt rp W' = at5:=HRD5.out.rdAt
        have HFU5:Hid (nb (rv bs) + 1 <= f + at5):=by unfold Hid;have:=hfu.out;omega
        have HM5:Hid (8 * bs.length - rdAt rp W' < 8 * bs.length - rdAt rp wr):=by unfold Hid;rw [hm1',hm2'];omega
        clear hJ' hk' hy h45 hrle hm1' hm2'
        gi_wp2_with fail
        go_roundw
        case rel=>exact ⟨i + 1,at5,f,HRD5.out,HCB5.out,HJ5.out,HSZ5.out,HLT.out,HFU5.out,HP2.out⟩
        case measure=>exact HM5.out
       ·gi_wp2_with fail
        refine bodyPost_ret (results_none rfl _ _ _) rfl ?_
        exact .inr ⟨_,HLT.out,hJx',_,rfl⟩
     ·by_cases he1:y0 = 23 /\ y1 = 114 /\ y2 = 69 /\ y3 = 56 /\ y4 = 80 /\ y5 = 144
      ·obtain ⟨rfl,rfl,rfl,rfl,rfl,rfl⟩:=he1
       have q8:∀ w,(Op.equalIn 10000 85 (.agg #[.int .u8 23,.int .u8 114,.int .u8 69,.int .u8 56,.int .u8 80,.int .u8 144]) (.agg #[.int .u8 49,.int .u8 65,.int .u8 89,.int .u8 38,.int .u8 83,.int .u8 89])).run Tryz.prog w = .ok false w:=q6
       have q9:∀ w,(Op.equalIn 10000 85 (.agg #[.int .u8 23,.int .u8 114,.int .u8 69,.int .u8 56,.int .u8 80,.int .u8 144]) (.agg #[.int .u8 23,.int .u8 114,.int .u8 69,.int .u8 56,.int .u8 80,.int .u8 144])).run Tryz.prog w = .ok true w:=q7
       have hpn:=Zji (most:=m) (f:=f) (a2:=at4) HRM.out.symm
       have HLEN:Hid (R.1.length = i):=by
        unfold Hid
        have:=congrArg List.length hp.out.1
        rw [hpn,List.length_drop] at this
        have:=HII.out
        simp at *
        omega
       have HEND:Hid (R.2 = some at4):=by unfold Hid;rw [hp.out.2,hpn]
       clear q6 q7 hpn
       gi_wp2_with fail
       refine bodyPost_ret (results_none rfl _ _ _) rfl ?_
       refine .inl ⟨?_,?_⟩
       ·rw [HLEN.out];exact HJ3.out
       ·rw [HEND.out];exact ⟨⟨_,rfl⟩,HRD3.out⟩
      ·have hn1:([y0,y1,y2,y3,y4,y5]:List Nat) ≠ blockM:=fun h=>by
        unfold blockM at h
        simp only [List.cons.injEq,and_true] at h
        exact hb1 h
       have hn2:([y0,y1,y2,y3,y4,y5]:List Nat) ≠ endM:=fun h=>by
        unfold endM at h
        simp only [List.cons.injEq,and_true] at h
        exact he1 h
       have hpn:=Zjg (most:=m) (f:=f) HRM.out.symm hn1 hn2
       have HLEN:Hid (R.1.length = i):=by
        unfold Hid
        have:=congrArg List.length hp.out.1
        rw [hpn,List.length_drop] at this
        have:=HII.out
        simp at *
        omega
       have HEND:Hid (R.2 = none):=by unfold Hid;rw [hp.out.2,hpn]
       have q8:∀ w,(Op.equalIn 10000 85 (.agg #[.int .u8 (y0:Nat),.int .u8 (y1:Nat),.int .u8 (y2:Nat),.int .u8 (y3:Nat),.int .u8 (y4:Nat),.int .u8 (y5:Nat)]) (.agg #[.int .u8 49,.int .u8 65,.int .u8 89,.int .u8 38,.int .u8 83,.int .u8 89])).run Tryz.prog w = .ok false w:=fun w=>by
        rw [q6 w]
        have:((y0:Int) == 49 && ((y1:Int) == 65 && ((y2:Int) == 89 && ((y3:Int) == 38 && ((y4:Int) == 83 && (y5:Int) == 89))))) = false:=by
         rw [Bool.eq_false_iff];intro h;simp at h;omega
        rw [this]
       have q9:∀ w,(Op.equalIn 10000 85 (.agg #[.int .u8 (y0:Nat),.int .u8 (y1:Nat),.int .u8 (y2:Nat),.int .u8 (y3:Nat),.int .u8 (y4:Nat),.int .u8 (y5:Nat)]) (.agg #[.int .u8 23,.int .u8 114,.int .u8 69,.int .u8 56,.int .u8 80,.int .u8 144])).run Tryz.prog w = .ok false w:=fun w=>by
        rw [q7 w]
        have:((y0:Int) == 23 && ((y1:Int) == 114 && ((y2:Int) == 69 && ((y3:Int) == 56 && ((y4:Int) == 80 && (y5:Int) == 144))))) = false:=by
         rw [Bool.eq_false_iff];intro h;simp at h;omega
        rw [this]
       clear q6 q7 hpn hn1 hn2
       gi_wp2_with fail
       refine ⟨rfl,.inl ⟨?_,?_⟩⟩
       ·rw [HLEN.out];exact HJ3.out
       ·rw [HEND.out];rfl
end Go.Proofs.YtnkpnjnfddjfpaaGreat

namespace Go.Proofs.YtnkpnjnfddjfpaaGreat
open Go.RowKit M01 M02 M04 M06 M10 M27
def FourC (b:Nat) (A:World) (x0 x1 x2 x3:Value):Prop:=A.heap[b]? = some (.cells #[x0,x1,x2,x3] 24 (0,0))
theorem FourC.below {b:Nat} {A A':World} {x0 x1 x2 x3:Value} (h:FourC b A x0 x1 x2 x3) (hb:Below A.heap.size A A'):FourC b A' x0 x1 x2 x3:=by
 unfold FourC at *
 exact (hb.block b (lt_of_block h)).trans h
theorem Zel (l:List Nat):(strOf l).toList = l.map UInt8.ofNat:=by
 rw [Zbt]
 exact ByteArray.toList_mk _
theorem Zaax {x n:Nat} (hx:x < 256) (hn:n < 256):(UInt8.ofNat x = UInt8.ofNat n) ↔ x = n:=by
 constructor
 ·intro h
  have:=congrArg UInt8.toNat h
  simp at this
  omega
 ·rintro rfl;rfl
theorem Ztk {x0 x1 x2 x3:Nat} (h0:x0 < 256) (h1:x1 < 256) (h2:x2 < 256):(((strOf [x0,x1,x2,x3]).extract 0 3).toList == [66,90,104]) = decide ([x0,x1,x2] = [66,90,104]):=by
 have e:(strOf [x0,x1,x2,x3]).extract 0 3 = strOf [x0,x1,x2]:=by
  rw [Zbt,Zbt];rfl
 rw [e,Zel]
 have h66:=Zaax h0 (show 66 < 256 by decide)
 have h90:=Zaax h1 (show 90 < 256 by decide)
 have h104:=Zaax h2 (show 104 < 256 by decide)
 by_cases h:[x0,x1,x2] = [66,90,104]
 ·rw [h];rfl
 ·rw [decide_eq_false h]
  refine beq_eq_false_iff_ne.2 fun e=>h ?_
  simp only [List.map_cons,List.map_nil,List.cons.injEq,and_true] at e
  rw [h66.1 e.1,h90.1 e.2.1,h104.1 e.2.2]
def setC4 (p:Nat) (A:World) (x0 x1 x2 x3:Value):World:=(((A.setCell ⟨p,0,none⟩ x0).setCell ⟨p,1,none⟩ x1).setCell ⟨p,2,none⟩ x2).setCell ⟨p,3,none⟩ x3
theorem Zau {b p:Nat} {A:World} (hp:b <= p) (x0 x1 x2 x3:Value):Below b A (setC4 p A x0 x1 x2 x3) :=
 ((((Below.refl b A).setCell (p:=⟨p,0,none⟩) hp _).setCell (p:=⟨p,1,none⟩) hp _).setCell (p:=⟨p,2,none⟩) hp _).setCell (p:=⟨p,3,none⟩) hp _
theorem Zfy {E:TypeId} {k:IntKind} {p b:Nat} {A:World} {a:Option Addr} {c:Nat} {l:List Nat} (h:OwnN E k A b a c l) (hn:∀ g,a = some ⟨g,0,none⟩ -> g ≠ p) (x0 x1 x2 x3:Value):OwnN E k (setC4 p A x0 x1 x2 x3) b a c l:=by
 unfold setC4
 have hn':∀ g,a = some ⟨g,0,none⟩ -> p ≠ g:=fun g hg e=>hn g hg e.symm
 exact (((h.other (p:=⟨p,0,none⟩) hn' _).other (p:=⟨p,1,none⟩) hn' _).other (p:=⟨p,2,none⟩) hn' _).other (p:=⟨p,3,none⟩) hn' _
theorem Zfq {p:Nat} {A:World} {y0 y1 y2 y3:Value} (h:FourC p A y0 y1 y2 y3) (x0 x1 x2 x3:Value):FourC p (setC4 p A x0 x1 x2 x3) x0 x1 x2 x3:=by
 unfold FourC setC4 at *
 have:=Zao (i:=3) (x:=x3) (Zao (i:=2) (x:=x2) (Zao (i:=1) (x:=x1) (Zao (i:=0) (x:=x0) h)))
 simpa using this
theorem Zci {p:Nat} {A:World} {y0 y1 y2 y3:Value} {tmps:Array Value} {Q:Ending -> World -> Prop} {m er:Int} (h:FourC p A y0 y1 y2 y3) (x0 x1 x2 x3:Value) (t8:tmps.getD 8 undef = .pointer (some ⟨p,0,none⟩)) (t9:tmps.getD 9 undef = .int .i64 m) (t10:tmps.getD 10 undef = .int .i64 er)
  (hO:Q (.returned (.tuple #[.agg #[x0,x1,x2,x3],.int .i64 m,.int .i64 er])) (setC4 p A x0 x1 x2 x3)) :
  bodyPost Tryz.prog Tryz.f28 Q .ret { tmps:=tmps,defers:=[] } (setC4 p A x0 x1 x2 x3):=by
 have hs:=Zfq h x0 x1 x2 x3
 generalize setC4 p A x0 x1 x2 x3 = A6 at *
 obtain ⟨c0,c1,c2,c3,_,_⟩:=Zac hs
 have s8:tmps[8]?.getD undef = .pointer (some ⟨p,0,none⟩):=by simpa using t8
 have s9:tmps[9]?.getD undef = .int .i64 m:=by simpa using t9
 have s10:tmps[10]?.getD undef = .int .i64 er:=by simpa using t10
 exact bodyPost_ret (v:=.tuple #[.agg #[x0,x1,x2,x3],.int .i64 m,.int .i64 er]) (by simp [results,Tryz.results28,go_sem,s8,s9,s10,c0,c1,c2,c3]) rfl hO
theorem Zgc (w:World):Calls Tryz.prog 50 #[] w fun e w'=>e = .returned (.string ⟨#[23,114,69,56,80,144]⟩) /\ w' = w:=by
 go_enter Tryz.func50,Tryz.ntmps50
 go_wp2_with fail
 go_ret
 exact ⟨rfl,rfl⟩
theorem Zdt (w:World):Calls Tryz.prog 51 #[] w fun e w'=>e = .returned (.string ⟨#[49,65,89,38,83,89]⟩) /\ w' = w:=by
 go_enter Tryz.func51,Tryz.ntmps51
 go_wp2_with fail
 go_ret
 exact ⟨rfl,rfl⟩
theorem Zph {l m:List Nat} (hl:∀ x ∈ l,x < 256) (hm:∀ x ∈ m,x < 256):((strOf l).toList == m.map UInt8.ofNat) = decide (l = m):=by
 rw [<- Zel,Zzc]
 by_cases h:l = m
 ·rw [decide_eq_true h,h];simp
 ·rw [decide_eq_false h,decide_eq_false (fun e=>h (Zmw hl hm e))]
theorem Zrh {x0 x1 x2 x3:Nat} (h3:x3 < 256):∀ h,((strOf [x0,x1,x2,x3])[3]'h).toNat = x3:=by
 rw [Zbt]
 intro h
 show (UInt8.ofNat x3).toNat = x3
 simp;omega
theorem Zzi {B l:List Nat} {a most s a2:Nat} (h:blkG B a most = some (l,s,a2)):l ≠ []:=by
 rw [Zlg] at h
 obtain ⟨p0,g0,h⟩:=Option.bind_eq_some_iff.1 h
 unfold blkH blk7 at h
 obtain ⟨p7,g7,h⟩:=Option.bind_eq_some_iff.1 h
 unfold blk8 at h
 obtain ⟨f,g8,h⟩:=Option.bind_eq_some_iff.1 h
 obtain ⟨b,g9,h⟩:=Option.bind_eq_some_iff.1 h
 simp only [Option.some.injEq,Prod.mk.injEq] at h
 obtain ⟨hu1,_,_,hu4,_⟩:=Zos g0
 have hbl:=(Zhn (fun x hx=>hu4 x ((Zfs hu1 g8).2 x hx)) g9).1
 have hb:0 < b.length:=by
  have h9:=g9
  unfold backG at h9
  split at h9
  ·omega
  ·cases h9
 have:l.length = b.length:=by
  rw [<- h.1]
  split
  ·unfold masked;rw [Zbc]
  ·rfl
 intro e
 rw [e] at this
 simp at this
 omega
theorem Zabt {p:List Nat} (h:p ≠ []):say p ≠ []:=by
 cases p with
 | nil=>exact absurd rfl h
 | cons c r=>unfold say;rw [Zdk,if_neg (by decide)];simp
theorem appSomeAt {P:Program} {T E:TypeId} {k:IntKind} {bytes:Nat} (et:ElemTy P T E k bytes) {w:World} {ops:Array Oper} {rest:List Oper} {o:Oper} {ac:Act} {Q:Exit -> Act -> World -> Prop} (hgd:o.guard = none) (s x:Operand)
  (ho:o.op = .call { callee:=.builtin .append,args:=#[s,x],argTypes:=#[T,T] }) {base:Nat} {a:Option Addr} {cap m c:Nat} {l ys:List Nat}
  (hs:ac.eval s = .slice a l.length cap) (hown:OwnN E k w base a cap l) {b:Addr} (hm:m = ys.length) (hx:ac.eval x = .slice (some b) m c) (hy:RowN k w (some b) c ys)
  (hn:l.length + m <= 9223372036854775807) (hbytes:(l.length + m) * bytes <= 140737488355328) (hbase:base <= w.heap.size)
  (h:∀ a' cap' w',OwnN E k w' base a' cap' (l ++ ys) -> w.grownBy w' (Value.slice a l.length cap).ownBlock -> Below base w w' -> (∀ g,a' = some ⟨g,0,none⟩ -> a = some ⟨g,0,none⟩ \/ w.heap.size <= g) -> wpList P ops Q rest (ac.put o.dst (.slice a' (l.length + m) cap')) w') :
  wpList P ops Q (o :: rest) ac w:=by
 subst hm
 obtain ⟨i,h2,h3,h4,h5⟩:=info_parts et.info
 refine wpList_plain (by assumption) fun K hK'=>?_
 obtain ⟨v',w',hr,h6,h7,h8,h9⟩:=run_append_own_at (P:=P) w base T o.type E i (.int k 0) 1 bytes et.und h2 h3 h4 h5 rfl (by decide) _ l.length _ hown b ys.length c (ys.map fun (n:Nat)=>Value.int k n) (by simp)
  (Zbi hy _ rfl) (by intro u hu;simp only [List.mem_map] at hu;obtain ⟨n,_,rfl⟩:=hu;rfl) (by simpa [maxLen] using hn) hbytes hbase
 have hv:∃ a' cap',v' = .slice a' (l.length + ys.length) cap':=by
  rcases h6.2 with ⟨h11,h10⟩ | ⟨g,c',cur,h11,_⟩
  ·exact ⟨none,0,by rw [h11,h10]⟩
  ·exact ⟨_,_,h11⟩
 obtain ⟨a',cap',rfl⟩:=hv
 have hown':OwnN E k w' base a' cap' (l ++ ys):=by
  unfold OwnN;rw [List.length_append,List.map_append];exact h6
 have hbel:Below base w w':=Below.of_grown h7 hbase (by
  intro g hg
  exact (World.ownsRow.lt hown g hg).1)
 unfold Oper.wp
 simp [execOp,ho,resolve,invoke,builtin,hs,hx,hr,Result.andThen]
 refine hK' _ _ (h a' cap' w' hown' h7 hbel ?_)
 rintro g rfl
 rcases h9 with h9 | h9
 ·left
  rcases hown.form with ⟨rfl,_,_⟩ | ⟨g',rfl,_⟩
  ·simp [Value.ownBlock] at h9
  ·simp [Value.ownBlock] at h9
   rw [h9]
 ·right
  simp [Value.ownBlock] at h9
  omega
theorem FourC.grown {b n c base cap:Nat} {A W:World} {ga:Option Addr} {E:TypeId} {k:IntKind} {l:List Nat} {x0 x1 x2 x3:Value} (h:FourC b A x0 x1 x2 x3) (ho:OwnN E k A base ga cap l) (hg:A.grownBy W (Value.slice ga n c).ownBlock) (hne:∀ g,ga = some ⟨g,0,none⟩ -> g ≠ b):FourC b W x0 x1 x2 x3:=by
 unfold FourC at *
 refine (hg.block b (lt_of_block h) fun e=>?_).trans h
 rcases ho.form with ⟨rfl,_⟩ | ⟨g0,rfl,_⟩
 ·simp [Value.ownBlock] at e
 ·simp only [Value.ownBlock,Option.some.injEq] at e
  exact hne g0 rfl e.symm
theorem Zgo {b:Nat} {A:World} {y0 y1 x2 x3:Value} (h:FourC b A y0 y1 x2 x3) (x0 x1 x1':Value) (he:x1 = x1'):FourC b ((A.setCell ⟨b,0,none⟩ x0).setCell ⟨b,1,none⟩ x1) x0 x1' x2 x3:=by
 subst he
 unfold FourC at *
 have:=Zao (i:=1) (x:=x1) (Zao (i:=0) (x:=x0) h)
 simpa using this
theorem Ztc {b:Nat} {A:World} {x0 x1 x2 y3:Value} (h:FourC b A x0 x1 x2 y3) (x3:Value):FourC b (A.setCell ⟨b,3,none⟩ x3) x0 x1 x2 x3:=by
 unfold FourC at *
 have:=Zao (i:=3) (x:=x3) h
 simpa using this
theorem Zdz {b c i:Nat} {A:World} {x0 x1 x2 x3:Value} (h:FourC b A x0 x1 x2 x3) (hn:b ≠ c) (x:Value):FourC b (A.setCell ⟨c,i,none⟩ x) x0 x1 x2 x3:=by
 unfold FourC at *
 rw [Below.heap_setCell _ _ _ _ hn];exact h
theorem Zkv {keep fold x Fs:Nat} {Fb p:List Nat} {Fw ww:Bool} (hlen:Fb.length = min keep Fs) (hw:ww = (Fw || (decide ((say p).length <= keep - Fs) && !(crcHigh (say p) == x)))) :
  partF keep (⟨Fb,Fs,Fw⟩,fold) (p,x) = (⟨Fb ++ (say p).take (min (keep - Fs) (say p).length),Fs + (say p).length,ww⟩,foldS fold x):=by
 have e:keep - Fb.length = keep - Fs:=by omega
 have e2:(say p).take (keep - Fs) = (say p).take (min (keep - Fs) (say p).length):=by
  by_cases h:keep - Fs <= (say p).length
  ·rw [Nat.min_eq_left h]
  ·rw [Nat.min_eq_right (by omega),List.take_length,List.take_of_length_le (by omega)]
 unfold partF
 dsimp only
 rw [e,e2,hw]
 by_cases h:(say p).length <= keep - Fs
 ·rw [Nat.min_eq_right h,List.take_length]
 ·rw [decide_eq_false h]
  simp
def OutS (base u n keep:Nat) (R:Option (BzF × Nat)) (e:Ending) (w':World):Prop :=
 match R with
 | some (F,at2)=>∃ fa fc,e = .returned (.tuple #[.agg #[.slice fa F.bytes.length fc,.int .i64 (F.size:Nat),.int .i64 (u:Nat),.bool F.wrong],.int .i64 (at2:Nat),.int .i64 0]) /\ OwnN 5 .u8 w' base fa fc F.bytes /\ at2 <= n /\ F.bytes.length = min keep F.size /\ F.size <= at2 * 255000000
 | none=>∃ (a:Option Addr) (n c:Nat) (s u m er:Int) (x:Bool),e = .returned (.tuple #[.agg #[.slice a n c,.int .i64 s,.int .i64 u,.bool x],.int .i64 m,.int .i64 er]) /\ er ≠ 0
set_option maxRecDepth 100000 in
set_option maxHeartbeats 6400000 in
theorem Zmm (a:Option Addr) (cap:Nat) (B:List Nat) (at_ keep base u:Nat) (F:BzF) (fa:Option Addr) (fc:Nat) (w:World) (hr:∀ A,Below base w A -> RowB A a cap (bitL B)) (hl:B.length <= 1000) (ha:at_ <= nb B) (hk:keep <= 1000000)
  (hown:OwnN 5 .u8 w base fa fc F.bytes) (hbase:base <= w.heap.size) (hlen:F.bytes.length = min keep F.size) (hsz:F.size <= at_ * 255000000) :
  Calls Tryz.prog 28 #[.slice a (bitL B).length cap,.int .i64 (at_:Nat),.int .i64 (keep:Nat),.agg #[.slice fa F.bytes.length fc,.int .i64 (F.size:Nat),.int .i64 (u:Nat),.bool F.wrong]] w fun e w'=>Below base w w' /\ OutS base u (nb B) keep (strmR B keep F at_) e w':=by
 have hll:(bitL B).length = nb B:=Zbo B
 have HT:=Zh (fun A at_ n (h:Below base w A) ha hn=>Zqz a cap B at_ n A (hr A h) hl ha hn)
 have H26:=Zh (fun A at_ mo (h:Below base w A) ha hm (h0:0 < B.length)=>Zuq a cap B at_ mo A (hr A h) hl h0 ha hm)
 have H02:=Zh (fun A at_ n (h:Below base w A) ha hn=>Zmd a cap B hl n at_ A (hr A h) ha hn)
 obtain ⟨R,hR⟩:∃ R,R = strmR B keep F at_:=⟨_,rfl⟩
 rw [<- hR]
 have HR:=Zh hr
 have hn8l:nb B <= 8000:=by unfold nb;omega
 have HL1:=Zh hl
 have HKE:=Zh hk
 have HLEN:=Zh hlen
 have HSZ:=Zh hsz
 have HOWN:=Zh hown
 have HBASE:=Zh hbase
 have HR0:=Zh hR
 have HHA:=Zh ha
 have HLL:=Zh hll
 have HHN:Hid (8 * B.length = nb B):=rfl
 rw [hll] at HT H26 H02 ⊢
 rw [HHN.out] at HT
 generalize hn8:nb B = n8 at *
 have HN8:=Zh hn8
 obtain ⟨fb,fs,fw⟩:=F
 dsimp only at *
 obtain ⟨q,hq⟩:∃ q,w.heap.size = q:=⟨_,rfl⟩
 have HQ:=Zh hq
 obtain ⟨W,hW⟩:∃ W,W = (w.alloc (.cells #[.slice fa fb.length fc,.int .i64 (fs:Nat),.int .i64 (u:Nat),.bool fw] 24)).alloc (.cells #[.slice none 0 0,.int .i64 0,.int .i64 0,.bool false] 24):=⟨_,rfl⟩
 have HS0:Hid (FourC q W (.slice fa fb.length fc) (.int .i64 (fs:Nat)) (.int .i64 (u:Nat)) (.bool fw)):=by unfold Hid FourC;rw [hW,<- hq];exact Zmt _ _ rfl
 have HS1:Hid (FourC (q + 1) W (.slice none 0 0) (.int .i64 0) (.int .i64 0) (.bool false)):=by unfold Hid FourC;rw [hW,<- hq];exact Zcl _ _ (by simp)
 have HB0:Hid (Below w.heap.size w W):=by rw [hW];exact (Zai w _).trans ((Zai _ _).mono (by simp))
 have HB1:Hid (Below base w W):=HB0.out.mono hbase
 have HBW0:Hid (base <= W.heap.size):=Nat.le_trans hbase HB0.out.size
 have HW:=Zh hW
 clear hn8 hr ha hll hl hk hlen hsz hown hbase hR hq hW
 go_enter Tryz.func28,Tryz.ntmps28
 go_wp2_with fail
 rw [<- HW.out,HQ.out]
 refine (HT.out W _ 4 HB1.out HHA.out (by decide)).mono ?_
 rintro e w1 ⟨hb1',ho1⟩
 generalize hb4:bytesG B 4 at_ [] = T at *
 have HSW0:=Zh (HS0.out.below hb1')
 have HSW1:=Zh (HS1.out.below hb1')
 have HBW:=Zh (HB1.out.trans (hb1'.mono HBW0.out))
 have HBQ0:Hid (base <= q):=by have:=HBASE.out;have:=HQ.out;unfold Hid;omega
 have HBQ:Hid (base <= q + 1):=by have:=HBASE.out;have:=HQ.out;unfold Hid;omega
 rcases T with _ | ⟨h,at1⟩
 ·obtain ⟨m1,rfl⟩:=ho1
  have HFN:Hid (R = none):=by unfold Hid;rw [HR0.out,Zrk hb4]
  obtain ⟨c0,c1,c2,c3,_,_⟩:=Zac HSW0.out
  obtain ⟨d0,d1,d2,d3,_,_⟩:=Zac HSW1.out
  obtain ⟨f0,f1,f2,f3⟩:=Zaf HSW1.out
  go_wp2_with fail
  refine Zci HSW1.out _ _ _ _ rfl rfl rfl ⟨HBW.out.trans (Zau HBQ.out _ _ _ _),?_⟩
  rw [HFN.out]
  exact ⟨_,_,_,_,_,_,_,_,rfl,by decide⟩
 obtain ⟨rfl,hal1⟩:=ho1
 obtain ⟨x0,x1,x2,x3,rfl⟩:=fourL h (Zce hb4).1
 have h256:=Zie (fun x hx=>by cases hx) hb4
 have hx0:=h256 x0 (by simp)
 have hx1:=h256 x1 (by simp)
 have hx2:=h256 x2 (by simp)
 have hx3:=h256 x3 (by simp)
 have htest:=Ztk (x3:=x3) hx0 hx1 hx2
 have hget:=Zrh (x0:=x0) (x1:=x1) (x2:=x2) hx3
 have HB4:=Zh hb4
 obtain ⟨S,hS⟩:∃ S,strOf [x0,x1,x2,x3] = S:=⟨_,rfl⟩
 have hs4:S.size = 4:=by rw [<- hS,Zby];rfl
 rw [hS] at htest ⊢
 simp only [hS] at hget
 have hget3:(S[3]'(by rw [hs4];decide)).toNat = x3:=hget (by rw [hs4];decide)
 have HHS:=Zh hS
 clear hS h256 hget hb4
 obtain ⟨S3,hS3⟩:∃ S3,S.extract 0 3 = S3:=⟨_,rfl⟩
 rw [hS3] at htest
 have hbad:¬ ([x0,x1,x2] = [66,90,104] /\ 49 <= x3 /\ x3 <= 57) -> R = none:=fun h=>by
  rw [HR0.out,Zvq HB4.out h]
 have HBAD:=Zh hbad
 clear hbad
 by_cases hz:[x0,x1,x2] = [66,90,104]
 case neg =>
  rw [decide_eq_false hz] at htest
  have HFN:Hid (R = none):=HBAD.out fun h=>hz h.1
  clear hz
  obtain ⟨c0,c1,c2,c3,_,_⟩:=Zac HSW0.out
  obtain ⟨d0,d1,d2,d3,_,_⟩:=Zac HSW1.out
  obtain ⟨f0,f1,f2,f3⟩:=Zaf HSW1.out
  go_wp2_with fail
  refine Zci HSW1.out _ _ _ _ rfl rfl rfl ⟨HBW.out.trans (Zau HBQ.out _ _ _ _),?_⟩
  rw [HFN.out]
  exact ⟨_,_,_,_,_,_,_,_,rfl,by decide⟩
 rw [decide_eq_true hz] at htest
 by_cases h49:49 <= x3
 case neg =>
  have t1:decide ((x3:Int) < 49) = true:=by simp;omega
  have HFN:Hid (R = none):=HBAD.out fun h=>h49 h.2.1
  clear h49 hz
  obtain ⟨c0,c1,c2,c3,_,_⟩:=Zac HSW0.out
  obtain ⟨d0,d1,d2,d3,_,_⟩:=Zac HSW1.out
  obtain ⟨f0,f1,f2,f3⟩:=Zaf HSW1.out
  go_wp2_with fail
  refine Zci HSW1.out _ _ _ _ rfl rfl rfl ⟨HBW.out.trans (Zau HBQ.out _ _ _ _),?_⟩
  rw [HFN.out]
  exact ⟨_,_,_,_,_,_,_,_,rfl,by decide⟩
 have t1:decide ((x3:Int) < 49) = false:=by simp;omega
 by_cases h57:x3 <= 57
 case neg =>
  have t2:decide ((57:Int) < (x3:Int)) = true:=by simp;omega
  have HFN:Hid (R = none):=HBAD.out fun h=>h57 h.2.2
  clear h57 hz
  obtain ⟨c0,c1,c2,c3,_,_⟩:=Zac HSW0.out
  obtain ⟨d0,d1,d2,d3,_,_⟩:=Zac HSW1.out
  obtain ⟨f0,f1,f2,f3⟩:=Zaf HSW1.out
  go_wp2_with fail
  refine Zci HSW1.out _ _ _ _ rfl rfl rfl ⟨HBW.out.trans (Zau HBQ.out _ _ _ _),?_⟩
  rw [HFN.out]
  exact ⟨_,_,_,_,_,_,_,_,rfl,by decide⟩
 have t2:decide ((57:Int) < (x3:Int)) = false:=by simp;omega
 have HF0:Hid (R = endR B keep (partsG B ((x3 - 48) * 100000) (nb B + 1) at1) (⟨fb,fs,fw⟩,0)):=by unfold Hid;rw [HR0.out,Zyj HB4.out ⟨hz,h49,h57⟩];rfl
 clear hz HBAD HR0
 have HX3:=Zh (show x3 - 48 <= 9 by omega)
 have HX1:=Zh (show 1 <= x3 - 48 by omega)
 have hx48:(x3:Int) - 48 = ((x3 - 48:Nat):Int):=by omega
 generalize x3 - 48 = lv at *
 obtain ⟨mo,hmo⟩:∃ mo,lv * 100000 = mo:=⟨_,rfl⟩
 have hmul:(100000:Int) * (lv:Int) = (mo:Int):=by rw [<- hmo];simp [Int.mul_comm]
 have HMO:=Zh hmo
 have HMO9:Hid (mo <= 900000):=by have:=HX3.out;unfold Hid;omega
 rw [hmo] at HF0
 clear hmo
 have HS0L:=Zh HSW0.out
 have HNE0:Hid (∀ g,fa = some ⟨g,0,none⟩ -> g < q):=fun g hg=>by have:=(Zbr HOWN.out hg).2;rw [HQ.out] at this;exact this
 have HOW1:=Zh (HOWN.out.below (HB0.out.trans (hb1'.mono HB0.out.size)))
 have hat01:at_ <= at1:=by have:=(Zce HB4.out).2;omega
 have HSZ1:Hid (fs <= at1 * 255000000):=Nat.le_trans HSZ.out (Nat.mul_le_mul_right _ hat01)
 have HF1:Hid (∃ f,nb B + 1 <= f + at1 /\ R = endR B keep (partsG B mo f at1) (⟨fb,fs,fw⟩,0)):=⟨nb B + 1,by omega,HF0.out⟩
 clear HB0 HB1 HS0 HS1 hb1' HSZ HF0 HB4 HOWN HBW0 hat01
 go_wp2_with fail
 go_loopw [1,13] (fun av hv A=>∃ (at2 fold:Nat) (F:BzF) (ga:Option Addr) (gc:Nat),av = .int .i64 (at2:Nat) /\ hv = .int .u32 (fold:Nat) /\ Hid (at2 <= n8) /\ Hid (fold < 4294967296) /\ Hid (FourC q A (.slice ga F.bytes.length gc) (.int .i64 (F.size:Nat)) (.int .i64 (u:Nat)) (.bool F.wrong)) /\ Hid (FourC (q + 1) A (.slice none 0 0) (.int .i64 0) (.int .i64 0) (.bool false)) /\ Hid (OwnN 5 .u8 A base ga gc F.bytes) /\ Hid (∀ g,ga = some ⟨g,0,none⟩ -> g ≠ q /\ g ≠ q + 1) /\ Hid (Below base w A) /\ Hid (F.bytes.length = min keep F.size) /\ Hid (F.size <= at2 * 255000000) /\ Hid (∃ f,nb B + 1 <= f + at2 /\ R = endR B keep (partsG B mo f at2) (F,fold))) (fun av _ _=>n8 + 1 - (intOf av).toNat)
 case atStart=>exact ⟨at1,0,⟨fb,fs,fw⟩,fa,fc,rfl,rfl,hal1,(show 0 < 4294967296 by decide),HSW0.out,HSW1.out,HOW1.out,fun g hg=>(by have:=HNE0.out g hg;omega),HBW.out,HLEN.out,HSZ1.out,HF1.out⟩
 case round =>
  clear HS0L HNE0 HOW1 HSZ1 HF1 HSW0 HSW1 HBW HLEN hal1
  obtain ⟨at2,fold,F,ga,gc,rfl,rfl,HAT,HFO,HSW0,HSW1,HOWN,HNE,HBW,HLEN,HSZ,HF⟩:=hrel
  obtain ⟨Fb,Fs,Fw⟩:=F
  dsimp only at *
  have hbq:base <= wr.heap.size:=by have:=lt_of_block HSW1.out;have:=HBQ.out;omega
  have HBQR:=Zh hbq
  go_wp2_with fail
  refine (HT.out wr _ 6 HBW.out HAT.out (by decide)).mono ?_
  rintro e w2 ⟨hb2,ho2⟩
  replace HSW0:=Zh (HSW0.out.below hb2)
  replace HSW1:=Zh (HSW1.out.below hb2)
  replace HOWN:=Zh (HOWN.out.below hb2)
  replace HBW:=Zh (HBW.out.trans (hb2.mono hbq))
  replace HBQR:Hid (base <= w2.heap.size):=by have:=hb2.size;have:=HBQR.out;unfold Hid;omega
  clear hb2 hbq
  generalize hb6:bytesG B 6 at2 [] = T at *
  rcases T with _ | ⟨m,at3⟩
  ·obtain ⟨m2,rfl⟩:=ho2
   have HFN:Hid (R = none):=by obtain ⟨f,_,h⟩:=HF.out;unfold Hid;rw [h,Zsv hb6]
   obtain ⟨c0,c1,c2,c3,_,_⟩:=Zac HSW0.out
   obtain ⟨d0,d1,d2,d3,_,_⟩:=Zac HSW1.out
   obtain ⟨f0,f1,f2,f3⟩:=Zaf HSW1.out
   go_wp2_with fail
   refine Zci HSW1.out _ _ _ _ rfl rfl rfl ⟨HBW.out.trans (Zau HBQ.out _ _ _ _),?_⟩
   rw [HFN.out]
   exact ⟨_,_,_,_,_,_,_,_,rfl,by decide⟩
  obtain ⟨rfl,hal3⟩:=ho2
  have hat23:=(Zce hb6).2
  have hlt:=Zie (fun x hx=>by cases hx) hb6
  have hte:((strOf m).toList == [23,114,69,56,80,144]) = decide (m = endM):=Zph (m:=endM) hlt (by decide)
  have htb:((strOf m).toList == [49,65,89,38,83,89]) = decide (m = blockM):=Zph (m:=blockM) hlt (by decide)
  have HAT23:=Zh hat23
  have HB6:=Zh hb6
  clear hb6 hlt hat23
  generalize strOf m = M at *
  by_cases he:m = endM
  ·rw [decide_eq_true he] at hte
   have HF2:Hid (R = endR B keep ([],some at3) (⟨Fb,Fs,Fw⟩,fold)):=by
    obtain ⟨f,hf,h⟩:=HF.out
    obtain ⟨f,rfl⟩:∃ f',f = f' + 1:=⟨f - 1,by have:=HAT.out;have:=HN8.out;omega⟩
    unfold Hid;rw [h,Zxd HB6.out he]
   clear he htb
   go_wp2_with fail
   refine (Zgc _).mono ?_
   rintro e w3 ⟨rfl,rfl⟩
   go_wp2_with fail
   refine (H02.out w3 at3 32 HBW.out hal3 (by decide)).mono ?_
   rintro e w4 ⟨cv,at4,er,rfl,hw4,hal4,hcv,hcase⟩
   subst hw4
   rcases Zfu (k:=fun v a=>some ((⟨Fb,Fs,Fw || !(v == fold)⟩:BzF),(a + 7) / 8 * 8)) HN8.out hcase HF2.out with ⟨rfl,hF⟩ | ⟨rfl,hF⟩
   case inr =>
    have HFN:Hid (R = none):=hF
    clear hF hcase
    obtain ⟨c0,c1,c2,c3,_,_⟩:=Zac HSW0.out
    obtain ⟨d0,d1,d2,d3,_,_⟩:=Zac HSW1.out
    obtain ⟨f0,f1,f2,f3⟩:=Zaf HSW1.out
    go_wp2_with fail
    refine Zci HSW1.out _ _ _ _ rfl rfl rfl ⟨HBW.out.trans (Zau HBQ.out _ _ _ _),?_⟩
    rw [HFN.out]
    exact ⟨_,_,_,_,_,_,_,_,rfl,by decide⟩
   obtain ⟨a7,ha7⟩:∃ a7,at4 + 7 = a7:=⟨_,rfl⟩
   obtain ⟨a8,ha8⟩:∃ a8,a7 / 8 = a8:=⟨_,rfl⟩
   have HA8:Hid (a8 * 8 <= n8):=by have:=HHN.out;unfold Hid;omega
   have v1:IntKind.i64.wrap ((at4:Int) + 7) = (a7:Int):=by rw [IntWalk.i64_in _ (by omega)];omega
   have v2:Int.tdiv (a7:Int) 8 = (a8:Int):=by rw [<- ha8];exact Int.ofNat_tdiv _ _
   have v3:(a7:Int) / 8 = (a8:Int):=by rw [<- ha8];rfl
   have v4:IntKind.i64.wrap (a8:Int) = (a8:Int):=IntWalk.i64_in _ (by omega)
   have v5:IntKind.i64.wrap ((a8:Int) * 8) = ((a8 * 8:Nat):Int):=by rw [IntWalk.i64_in _ (by omega)];omega
   have h34:at3 <= at4:=by rcases hcase with ⟨_,h,_⟩ | ⟨h,_⟩ <;> omega
   have HSZ8:Hid (Fs <= a8 * 8 * 255000000):=Nat.le_trans HSZ.out (Nat.mul_le_mul_right _ (by have:=HAT23.out;omega))
   rw [ha7,ha8] at hF
   clear hcase ha7 ha8 h34
   by_cases hcf:cv = fold
   ·have t8:((cv:Int) == (fold:Int)) = true:=beq_iff_eq.2 (by omega)
    have t9:((cv:Int) != (fold:Int)) = false:=by rw [hcf];simp
    have HFS:Hid (R = some (⟨Fb,Fs,Fw⟩,a8 * 8)):=by unfold Hid;rw [hF,hcf];simp
    clear hF hcf
    obtain ⟨c0,c1,c2,c3,_,_⟩:=Zac HSW0.out
    obtain ⟨d0,d1,d2,d3,_,_⟩:=Zac HSW1.out
    obtain ⟨f0,f1,f2,f3⟩:=Zaf HSW1.out
    go_wp2_with fail
    refine Zci HSW1.out _ _ _ _ rfl rfl rfl ⟨HBW.out.trans (Zau HBQ.out _ _ _ _),?_⟩
    rw [HFS.out]
    exact ⟨ga,gc,rfl,Zfy HOWN.out (fun g hg=>(HNE.out g hg).2) _ _ _ _,HA8.out,HLEN.out,HSZ8.out⟩
   have t8:((cv:Int) == (fold:Int)) = false:=beq_eq_false_iff_ne.2 (by omega)
   have t9:((cv:Int) != (fold:Int)) = true:=by simp;omega
   have HFS:Hid (R = some (⟨Fb,Fs,true⟩,a8 * 8)):=by unfold Hid;rw [hF,beq_eq_false_iff_ne.2 hcf];simp
   clear hF hcf
   obtain ⟨c0,c1,c2,c3,_,_⟩:=Zac HSW0.out
   obtain ⟨f0,f1,f2,f3⟩:=Zaf HSW0.out
   obtain ⟨d0,d1,d2,d3,_,_⟩:=Zac HSW1.out
   obtain ⟨g0,g1,g2,g3⟩:=Zaf HSW1.out
   go_wp2_with fail
   replace HSW1:=Zh (Zdz (c:=q) (i:=3) HSW1.out (by omega) (.bool true))
   replace HOWN:=Zh (HOWN.out.other (p:=⟨q,3,none⟩) (fun g hg e=>(HNE.out g hg).1 e.symm) (.bool true))
   replace HBW:=Zh (HBW.out.setCell (p:=⟨q,3,none⟩) HBQ0.out (.bool true))
   refine Zci HSW1.out _ _ _ _ rfl rfl rfl ⟨HBW.out.trans (Zau HBQ.out _ _ _ _),?_⟩
   rw [HFS.out]
   exact ⟨ga,gc,rfl,Zfy HOWN.out (fun g hg=>(HNE.out g hg).2) _ _ _ _,HA8.out,HLEN.out,HSZ8.out⟩
  rw [decide_eq_false he] at hte
  by_cases hbk:m = blockM
  case neg =>
   rw [decide_eq_false hbk] at htb
   have HFN:Hid (R = none):=by obtain ⟨f,_,h⟩:=HF.out;unfold Hid;rw [h,Zxb HB6.out hbk he]
   clear he hbk
   go_wp2_with fail
   refine (Zgc _).mono ?_
   rintro e w3 ⟨rfl,rfl⟩
   go_wp2_with fail
   refine (Zdt _).mono ?_
   rintro e w3 ⟨rfl,rfl⟩
   obtain ⟨c0,c1,c2,c3,_,_⟩:=Zac HSW0.out
   obtain ⟨d0,d1,d2,d3,_,_⟩:=Zac HSW1.out
   obtain ⟨f0,f1,f2,f3⟩:=Zaf HSW1.out
   go_wp2_with fail
   refine Zci HSW1.out _ _ _ _ rfl rfl rfl ⟨HBW.out.trans (Zau HBQ.out _ _ _ _),?_⟩
   rw [HFN.out]
   exact ⟨_,_,_,_,_,_,_,_,rfl,by decide⟩
  rw [decide_eq_true hbk] at htb
  have HBK:=Zh hbk
  clear he hbk
  go_wp2_with fail
  refine (Zgc _).mono ?_
  rintro e w3 ⟨rfl,rfl⟩
  go_wp2_with fail
  refine (Zdt _).mono ?_
  rintro e w3 ⟨rfl,rfl⟩
  go_wp2_with fail
  refine (H26.out w3 at3 mo HBW.out hal3 HMO9.out (by have:=HAT23.out;have:=HHN.out;omega)).mono ?_
  rintro e w4 ⟨hb4,ho4⟩
  replace HSW0:=Zh (HSW0.out.below hb4)
  replace HSW1:=Zh (HSW1.out.below hb4)
  replace HOWN:=Zh (HOWN.out.below hb4)
  replace HBW:=Zh (HBW.out.trans (hb4.mono HBQR.out))
  replace HBQR:Hid (base <= w4.heap.size):=by have:=hb4.size;have:=HBQR.out;unfold Hid;omega
  clear hb4
  generalize hbg:blkG B at3 mo = T at *
  rcases T with _ | ⟨p,x,at4⟩
  ·obtain ⟨m4,rfl⟩:=ho4
   have HFN:Hid (R = none):=by obtain ⟨f,_,h⟩:=HF.out;unfold Hid;rw [h,Zxc HB6.out HBK.out hbg]
   obtain ⟨c0,c1,c2,c3,_,_⟩:=Zac HSW0.out
   obtain ⟨d0,d1,d2,d3,_,_⟩:=Zac HSW1.out
   obtain ⟨f0,f1,f2,f3⟩:=Zaf HSW1.out
   go_wp2_with fail
   refine Zci HSW1.out _ _ _ _ rfl rfl rfl ⟨HBW.out.trans (Zau HBQ.out _ _ _ _),?_⟩
   rw [HFN.out]
   exact ⟨_,_,_,_,_,_,_,_,rfl,by decide⟩
  obtain ⟨pg,pc,rfl,hop,hal4⟩:=ho4
  obtain ⟨hlt34,hpl,hp256,hx32⟩:=Zne hbg (by have:=HMO9.out;omega)
  have HF2:Hid (∃ f,nb B + 1 <= f + at4 /\ R = endR B keep (partsG B mo f at4) (partF keep (⟨Fb,Fs,Fw⟩,fold) (p,x))):=by
   obtain ⟨f,hf,h⟩:=HF.out
   obtain ⟨f,rfl⟩:∃ f',f = f' + 1:=⟨f - 1,by have:=HAT.out;have:=HN8.out;omega⟩
   exact ⟨f,by have:=HAT23.out;omega,h.trans (Zsw HB6.out HBK.out hbg)⟩
  have HPNE:=Zh (Zzi hbg)
  have HOP:=Zh hop.row
  have HP256:=Zh hp256
  have HPL:=Zh hpl
  have HLT34:=Zh hlt34
  clear hop hp256 hbg HF hpl hlt34
  have HS4Q:=HSW0
  go_wp2_with fail
  refine (Zmh pg pc p w4 HOP.out HP256.out (by have:=HMO9.out;have:=HPL.out;omega)).mono ?_
  rintro e w5 ⟨sg,sc,rfl,hos,hb5⟩
  replace HSW0:=Zh (HSW0.out.below hb5)
  replace HSW1:=Zh (HSW1.out.below hb5)
  replace HOWN:=Zh (HOWN.out.below hb5)
  replace HBW:=Zh (HBW.out.trans (hb5.mono HBQR.out))
  have HSAF:Hid (∀ g,sg = some ⟨g,0,none⟩ -> w4.heap.size <= g):=fun g hg=>(Zbr hos hg).1
  have HBQ4:=HBQR
  replace HBQR:Hid (base <= w5.heap.size):=by have:=hb5.size;have:=HBQR.out;unfold Hid;omega
  have HSAR:=Zh hos.row
  have HSAQ:Hid (∀ y:Addr,0 < (say p).length -> sg = some y -> y.block ≠ q):=fun y h0 hy=>by
   have h2:=lt_of_block HS4Q.out
   rcases hos.form with ⟨h,_⟩ | ⟨g,h,h3,_⟩ <;> rw [h] at hy <;> cases hy
   show g ≠ q
   omega
  have hsl:=Zob p HP256.out
  have hsa256:=Zvd p HP256.out
  have hsne:=Zabt HPNE.out
  have hpl:=HPL.out
  have hmo9:=HMO9.out
  have HSP:Hid (say p = say p):=rfl
  clear hb5 hos
  obtain ⟨sd,hsd⟩:∃ sd,say p = sd:=⟨_,rfl⟩
  have HSD:=Zh hsd
  rw [hsd] at hsl hsa256 hsne HSAR HSAQ ⊢
  have HS256:=Zh hsa256
  have HSNE:=Zh hsne
  clear hsd hsa256 hsne HSP
  obtain ⟨sn,hsn⟩:∃ sn,sd.length = sn:=⟨_,rfl⟩
  have hsn8:sn <= 255000000:=by omega
  rw [hsn] at ⊢
  have HSN:=Zh hsn
  clear hsn hsl hpl hmo9
  obtain ⟨left,hleft⟩:∃ left,keep - Fs = left:=⟨_,rfl⟩
  obtain ⟨d,hd⟩:∃ d,(keep:Int) - (Fs:Int) = d:=⟨_,rfl⟩
  have hdw:wrap64 ((keep:Int) - (Fs:Int)) = d:=by rw [hd];exact IntWalk.wrap64_in d (by have:=HKE.out;have:=HSZ.out;have:=HAT.out;omega)
  have hmx:(if (0:Int) < d then d else 0) = (left:Int):=by split <;> omega
  have HLEFT:=Zh hleft
  clear hd hleft
  obtain ⟨c0,c1,c2,c3,_,_⟩:=Zac HSW0.out
  obtain ⟨f0,f1,f2,f3⟩:=Zaf HSW0.out
  by_cases hfit:sn <= left
  case neg =>
   have t5:decide (sn <= left) = false:=by simp;omega
   have t5':decide ((sn:Int) <= (left:Int)) = false:=by simp;omega
   have HWW:Hid (Fw = (Fw || (decide ((say p).length <= keep - Fs) && !(crcHigh (say p) == x)))):=by unfold Hid;rw [HSD.out,HSN.out,HLEFT.out,decide_eq_false hfit];simp
   clear hfit
   go_wp2_with fail
   obtain ⟨k,hk⟩:∃ k,min left sn = k:=⟨_,rfl⟩
   have hmn:(if (left:Int) < (sn:Int) then (left:Int) else (sn:Int)) = (k:Int):=by split <;> omega
   have hmn2:(if (sn:Int) < (left:Int) then (sn:Int) else (left:Int)) = (k:Int):=by split <;> omega
   have hmn3:(if sn < left then (sn:Int) else (left:Int)) = (k:Int):=by split <;> omega
   have HK:=Zh hk
   have hkn:k <= sn:=by omega
   obtain ⟨sgb,sgo,rfl,_⟩:=HSAR.out.at (i:=0) (by have:=HSN.out;have:=List.length_pos_iff.2 HSNE.out;omega)
   have hsc:=HSAR.out.1
   rw [HSN.out] at hsc
   have hsc2:=HSAR.out.2.1.1
   have HYS:=Zh (Zcu HSAR.out k)
   have HYL:Hid (k = (sd.take k).length):=by unfold Hid;rw [List.length_take];have:=HSN.out;omega
   have u7:IntKind.i64.wrap ((Fs:Int) + (sn:Int)) = ((Fs + sn:Nat):Int):=by rw [IntWalk.i64_in _ (by have:=HSZ.out;have:=HAT.out;omega)];omega
   have hfbl:Fb.length <= 1000000:=by have:=HLEN.out;have:=HKE.out;omega
   clear hk f0 f1 f2 f3 c0 c1 c2 c3
   have hk1:(k:Int) <= (sc:Int):=by omega
   have hk2:¬ ((sc:Int) < (k:Int)):=by omega
   have hk3:k <= sc:=by omega
   have hk4:¬ ((k:Int) < 0):=by omega
   obtain ⟨c0,c1,c2,c3,_,_⟩:=Zac HSW0.out
   go_still_tail 8,(by kernel_rfl)
   go_wp2_with (at_builtin;refine appSomeAt Zaz rfl (.tmp 111) (.tmp 117) rfl (ys:=sd.take k) rfl HOWN.out HYL.out rfl HYS.out (by omega) (by omega) HBQR.out ?_;intro a7 c7 w7 hown7 hg7 hb7 hf7;have HW7:=Zh (FourC.grown (show FourC q w5.drew _ _ _ _ from HSW0.out) HOWN.out hg7 (fun g hg=>(HNE.out g hg).1));have HW71:=Zh (FourC.grown (show FourC (q + 1) w5.drew _ _ _ _ from HSW1.out) HOWN.out hg7 (fun g hg=>(HNE.out g hg).2));have HO7:=Zh hown7;have HB7:=Zh hb7;have HF7:=Zh hf7;obtain ⟨e0,e1,e2,e3,_,_⟩:=Zac HW7.out;obtain ⟨f0,f1,f2,f3⟩:=Zaf HW7.out;clear hown7 hg7 hb7 hf7 c0 c1 c2 c3)
   refine (Zdj _ fold x HFO.out hx32).mono ?_
   rintro e w8 ⟨rfl,hw8⟩
   have HW8:Hid (FourC q w8 (.slice a7 (Fb.length + k) c7) (.int .i64 ((Fs + sn:Nat):Int)) (.int .i64 (u:Nat)) (.bool Fw)):=by unfold Hid;rw [hw8];exact Zgo HW7.out _ _ _ (by rw [Int.natCast_add])
   have HW81:Hid (FourC (q + 1) w8 (.slice none 0 0) (.int .i64 0) (.int .i64 0) (.bool false)):=by unfold Hid;rw [hw8];exact Zdz (Zdz HW71.out (by omega) _) (by omega) _
   have hne7:∀ g,a7 = some ⟨g,0,none⟩ -> g ≠ q /\ g ≠ q + 1:=fun g hg=>by
    rcases HF7.out g hg with h | h
    ·exact HNE.out g h
    ·have h2:=lt_of_block HSW1.out
     have h3:w5.heap.size <= g:=h
     omega
   have HO8:Hid (OwnN 5 .u8 w8 base a7 c7 (Fb ++ sd.take k)):=by unfold Hid;rw [hw8];exact (HO7.out.other (p:=⟨q,0,none⟩) (fun g hg e=>(hne7 g hg).1 e.symm) _).other (p:=⟨q,1,none⟩) (fun g hg e=>(hne7 g hg).1 e.symm) _
   have HB8:Hid (Below base w w8):=by unfold Hid;rw [hw8];exact (((HBW.out.trans (belDN (Below.refl base w5) 1)).trans HB7.out).setCell (p:=⟨q,0,none⟩) HBQ0.out _).setCell (p:=⟨q,1,none⟩) HBQ0.out _
   have HNE8:=Zh hne7
   have HF3:Hid (∃ f,nb B + 1 <= f + at4 /\ R = endR B keep (partsG B mo f at4) (⟨Fb ++ sd.take k,Fs + sn,Fw⟩,foldS fold x)):=by
    obtain ⟨f,h1,h2⟩:=HF2.out
    rw [Zkv HLEN.out HWW.out,HSD.out,HSN.out,HLEFT.out,HK.out] at h2
    exact ⟨f,h1,h2⟩
   have HFO2:=Zh (Zer HFO.out hx32)
   clear hw8 hne7 e0 e1 e2 e3 f0 f1 f2 f3
   go_wp2_with fail
   go_roundw
   case rel =>
    refine ⟨at4,foldS fold x,⟨Fb ++ sd.take k,Fs + sn,Fw⟩,a7,c7,by trivial,by trivial,hal4,HFO2.out,?_,HW81.out,HO8.out,HNE8.out,HB8.out,?_,?_,HF3.out⟩
    ·have e:(Fb ++ sd.take k).length = Fb.length + k:=by rw [List.length_append,<- HYL.out]
     show FourC q w8 (.slice a7 (Fb ++ sd.take k).length c7) _ _ _
     rw [e];exact HW8.out
    ·show (Fb ++ sd.take k).length = min keep (Fs + sn)
     rw [List.length_append,<- HYL.out]
     have:=HLEN.out;have:=HK.out;have:=HLEFT.out
     omega
    ·show Fs + sn <= at4 * 255000000
     have:=HSZ.out;have:=HLT34.out;have:=HAT23.out
     omega
   case measure=>simp [intOf];have:=HLT34.out;have:=HAT23.out;omega
  have t5:decide (sn <= left) = true:=by simp;omega
  have t5':decide ((sn:Int) <= (left:Int)) = true:=by simp;omega
  have HCR:=Zh (Zke w5 sg sc sd HSAR.out HS256.out)
  rw [HSN.out] at HCR
  obtain ⟨cv,hcv⟩:∃ cv,crcHigh sd = cv:=⟨_,rfl⟩
  rw [hcv] at HCR
  by_cases hcx:cv = x
  ·have t6:((cv:Int) == (x:Int)) = true:=beq_iff_eq.2 (by omega)
   have t7:((cv:Int) != (x:Int)) = false:=by rw [hcx];simp
   have HWW:Hid (Fw = (Fw || (decide ((say p).length <= keep - Fs) && !(crcHigh (say p) == x)))):=by unfold Hid;rw [HSD.out,hcv,hcx];simp
   clear hfit hcx hcv
   go_wp2_with fail
   refine HCR.out.mono ?_
   rintro e w6 ⟨rfl,hw6⟩
   subst hw6
   go_wp2_with fail
   obtain ⟨k,hk⟩:∃ k,min left sn = k:=⟨_,rfl⟩
   have hmn:(if (left:Int) < (sn:Int) then (left:Int) else (sn:Int)) = (k:Int):=by split <;> omega
   have hmn2:(if (sn:Int) < (left:Int) then (sn:Int) else (left:Int)) = (k:Int):=by split <;> omega
   have hmn3:(if sn < left then (sn:Int) else (left:Int)) = (k:Int):=by split <;> omega
   have HK:=Zh hk
   have hkn:k <= sn:=by omega
   obtain ⟨sgb,sgo,rfl,_⟩:=HSAR.out.at (i:=0) (by have:=HSN.out;have:=List.length_pos_iff.2 HSNE.out;omega)
   have hsc:=HSAR.out.1
   rw [HSN.out] at hsc
   have hsc2:=HSAR.out.2.1.1
   have HYS:=Zh (Zcu HSAR.out k)
   have HYL:Hid (k = (sd.take k).length):=by unfold Hid;rw [List.length_take];have:=HSN.out;omega
   have u7:IntKind.i64.wrap ((Fs:Int) + (sn:Int)) = ((Fs + sn:Nat):Int):=by rw [IntWalk.i64_in _ (by have:=HSZ.out;have:=HAT.out;omega)];omega
   have hfbl:Fb.length <= 1000000:=by have:=HLEN.out;have:=HKE.out;omega
   clear hk f0 f1 f2 f3 c0 c1 c2 c3
   have hk1:(k:Int) <= (sc:Int):=by omega
   have hk2:¬ ((sc:Int) < (k:Int)):=by omega
   have hk3:k <= sc:=by omega
   have hk4:¬ ((k:Int) < 0):=by omega
   obtain ⟨c0,c1,c2,c3,_,_⟩:=Zac HSW0.out
   go_still_tail 8,(by kernel_rfl)
   go_wp2_with (at_builtin;refine appSomeAt Zaz rfl (.tmp 111) (.tmp 117) rfl (ys:=sd.take k) rfl HOWN.out HYL.out rfl HYS.out (by omega) (by omega) HBQR.out ?_;intro a7 c7 w7 hown7 hg7 hb7 hf7;have HW7:=Zh (FourC.grown (show FourC q w6.drew _ _ _ _ from HSW0.out) HOWN.out hg7 (fun g hg=>(HNE.out g hg).1));have HW71:=Zh (FourC.grown (show FourC (q + 1) w6.drew _ _ _ _ from HSW1.out) HOWN.out hg7 (fun g hg=>(HNE.out g hg).2));have HO7:=Zh hown7;have HB7:=Zh hb7;have HF7:=Zh hf7;obtain ⟨e0,e1,e2,e3,_,_⟩:=Zac HW7.out;obtain ⟨f0,f1,f2,f3⟩:=Zaf HW7.out;clear hown7 hg7 hb7 hf7 c0 c1 c2 c3)
   refine (Zdj _ fold x HFO.out hx32).mono ?_
   rintro e w8 ⟨rfl,hw8⟩
   have HW8:Hid (FourC q w8 (.slice a7 (Fb.length + k) c7) (.int .i64 ((Fs + sn:Nat):Int)) (.int .i64 (u:Nat)) (.bool Fw)):=by unfold Hid;rw [hw8];exact Zgo HW7.out _ _ _ (by rw [Int.natCast_add])
   have HW81:Hid (FourC (q + 1) w8 (.slice none 0 0) (.int .i64 0) (.int .i64 0) (.bool false)):=by unfold Hid;rw [hw8];exact Zdz (Zdz HW71.out (by omega) _) (by omega) _
   have hne7:∀ g,a7 = some ⟨g,0,none⟩ -> g ≠ q /\ g ≠ q + 1:=fun g hg=>by
    rcases HF7.out g hg with h | h
    ·exact HNE.out g h
    ·have h2:=lt_of_block HSW1.out
     have h3:w6.heap.size <= g:=h
     omega
   have HO8:Hid (OwnN 5 .u8 w8 base a7 c7 (Fb ++ sd.take k)):=by unfold Hid;rw [hw8];exact (HO7.out.other (p:=⟨q,0,none⟩) (fun g hg e=>(hne7 g hg).1 e.symm) _).other (p:=⟨q,1,none⟩) (fun g hg e=>(hne7 g hg).1 e.symm) _
   have HB8:Hid (Below base w w8):=by unfold Hid;rw [hw8];exact (((HBW.out.trans (belDN (Below.refl base w6) 1)).trans HB7.out).setCell (p:=⟨q,0,none⟩) HBQ0.out _).setCell (p:=⟨q,1,none⟩) HBQ0.out _
   have HNE8:=Zh hne7
   have HF3:Hid (∃ f,nb B + 1 <= f + at4 /\ R = endR B keep (partsG B mo f at4) (⟨Fb ++ sd.take k,Fs + sn,Fw⟩,foldS fold x)):=by
    obtain ⟨f,h1,h2⟩:=HF2.out
    rw [Zkv HLEN.out HWW.out,HSD.out,HSN.out,HLEFT.out,HK.out] at h2
    exact ⟨f,h1,h2⟩
   have HFO2:=Zh (Zer HFO.out hx32)
   clear hw8 hne7 e0 e1 e2 e3 f0 f1 f2 f3
   go_wp2_with fail
   go_roundw
   case rel =>
    refine ⟨at4,foldS fold x,⟨Fb ++ sd.take k,Fs + sn,Fw⟩,a7,c7,by trivial,by trivial,hal4,HFO2.out,?_,HW81.out,HO8.out,HNE8.out,HB8.out,?_,?_,HF3.out⟩
    ·have e:(Fb ++ sd.take k).length = Fb.length + k:=by rw [List.length_append,<- HYL.out]
     show FourC q w8 (.slice a7 (Fb ++ sd.take k).length c7) _ _ _
     rw [e];exact HW8.out
    ·show (Fb ++ sd.take k).length = min keep (Fs + sn)
     rw [List.length_append,<- HYL.out]
     have:=HLEN.out;have:=HK.out;have:=HLEFT.out
     omega
    ·show Fs + sn <= at4 * 255000000
     have:=HSZ.out;have:=HLT34.out;have:=HAT23.out
     omega
   case measure=>simp [intOf];have:=HLT34.out;have:=HAT23.out;omega
  have t6:((cv:Int) == (x:Int)) = false:=beq_eq_false_iff_ne.2 (by omega)
  have t7:((cv:Int) != (x:Int)) = true:=by simp;omega
  have HWW:Hid (true = (Fw || (decide ((say p).length <= keep - Fs) && !(crcHigh (say p) == x)))):=by unfold Hid;rw [HSD.out,hcv,HSN.out,HLEFT.out,decide_eq_true hfit,beq_eq_false_iff_ne.2 hcx];simp
  clear hfit hcx hcv
  go_wp2_with fail
  refine HCR.out.mono ?_
  rintro e w6 ⟨rfl,hw6⟩
  subst hw6
  go_wp2_with fail
  replace HSW0:=Zh (Ztc HSW0.out (.bool true))
  replace HSW1:=Zh (Zdz (c:=q) (i:=3) HSW1.out (by omega) (.bool true))
  replace HOWN:=Zh (HOWN.out.other (p:=⟨q,3,none⟩) (fun g hg e=>(HNE.out g hg).1 e.symm) (.bool true))
  replace HBW:=Zh (HBW.out.setCell (p:=⟨q,3,none⟩) HBQ0.out (.bool true))
  replace HSAR:=Zh (HSAR.out.same (W:=w6.setCell ⟨q,3,none⟩ (.bool true)) (by simp) (fun y h0 hy=>Below.heap_setCell _ _ _ _ (HSAQ.out y h0 hy)))
  replace HBQR:Hid (base <= (w6.setCell ⟨q,3,none⟩ (.bool true)).heap.size):=by unfold Hid;simpa using HBQR.out
  generalize w6.setCell ⟨q,3,none⟩ (.bool true) = w9 at *
  obtain ⟨k,hk⟩:∃ k,min left sn = k:=⟨_,rfl⟩
  have hmn:(if (left:Int) < (sn:Int) then (left:Int) else (sn:Int)) = (k:Int):=by split <;> omega
  have hmn2:(if (sn:Int) < (left:Int) then (sn:Int) else (left:Int)) = (k:Int):=by split <;> omega
  have hmn3:(if sn < left then (sn:Int) else (left:Int)) = (k:Int):=by split <;> omega
  have HK:=Zh hk
  have hkn:k <= sn:=by omega
  obtain ⟨sgb,sgo,rfl,_⟩:=HSAR.out.at (i:=0) (by have:=HSN.out;have:=List.length_pos_iff.2 HSNE.out;omega)
  have hsc:=HSAR.out.1
  rw [HSN.out] at hsc
  have hsc2:=HSAR.out.2.1.1
  have HYS:=Zh (Zcu HSAR.out k)
  have HYL:Hid (k = (sd.take k).length):=by unfold Hid;rw [List.length_take];have:=HSN.out;omega
  have u7:IntKind.i64.wrap ((Fs:Int) + (sn:Int)) = ((Fs + sn:Nat):Int):=by rw [IntWalk.i64_in _ (by have:=HSZ.out;have:=HAT.out;omega)];omega
  have hfbl:Fb.length <= 1000000:=by have:=HLEN.out;have:=HKE.out;omega
  clear hk f0 f1 f2 f3 c0 c1 c2 c3
  have hk1:(k:Int) <= (sc:Int):=by omega
  have hk2:¬ ((sc:Int) < (k:Int)):=by omega
  have hk3:k <= sc:=by omega
  have hk4:¬ ((k:Int) < 0):=by omega
  obtain ⟨c0,c1,c2,c3,_,_⟩:=Zac HSW0.out
  go_still_tail 8,(by kernel_rfl)
  go_wp2_with (at_builtin;refine appSomeAt Zaz rfl (.tmp 111) (.tmp 117) rfl (ys:=sd.take k) rfl HOWN.out HYL.out rfl HYS.out (by omega) (by omega) HBQR.out ?_;intro a7 c7 w7 hown7 hg7 hb7 hf7;have HW7:=Zh (FourC.grown (show FourC q w9.drew _ _ _ _ from HSW0.out) HOWN.out hg7 (fun g hg=>(HNE.out g hg).1));have HW71:=Zh (FourC.grown (show FourC (q + 1) w9.drew _ _ _ _ from HSW1.out) HOWN.out hg7 (fun g hg=>(HNE.out g hg).2));have HO7:=Zh hown7;have HB7:=Zh hb7;have HF7:=Zh hf7;obtain ⟨e0,e1,e2,e3,_,_⟩:=Zac HW7.out;obtain ⟨f0,f1,f2,f3⟩:=Zaf HW7.out;clear hown7 hg7 hb7 hf7 c0 c1 c2 c3)
  refine (Zdj _ fold x HFO.out hx32).mono ?_
  rintro e w8 ⟨rfl,hw8⟩
  have HW8:Hid (FourC q w8 (.slice a7 (Fb.length + k) c7) (.int .i64 ((Fs + sn:Nat):Int)) (.int .i64 (u:Nat)) (.bool true)):=by unfold Hid;rw [hw8];exact Zgo HW7.out _ _ _ (by rw [Int.natCast_add])
  have HW81:Hid (FourC (q + 1) w8 (.slice none 0 0) (.int .i64 0) (.int .i64 0) (.bool false)):=by unfold Hid;rw [hw8];exact Zdz (Zdz HW71.out (by omega) _) (by omega) _
  have hne7:∀ g,a7 = some ⟨g,0,none⟩ -> g ≠ q /\ g ≠ q + 1:=fun g hg=>by
   rcases HF7.out g hg with h | h
   ·exact HNE.out g h
   ·have h2:=lt_of_block HSW1.out
    have h3:w9.heap.size <= g:=h
    omega
  have HO8:Hid (OwnN 5 .u8 w8 base a7 c7 (Fb ++ sd.take k)):=by unfold Hid;rw [hw8];exact (HO7.out.other (p:=⟨q,0,none⟩) (fun g hg e=>(hne7 g hg).1 e.symm) _).other (p:=⟨q,1,none⟩) (fun g hg e=>(hne7 g hg).1 e.symm) _
  have HB8:Hid (Below base w w8):=by unfold Hid;rw [hw8];exact (((HBW.out.trans (belDN (Below.refl base w9) 1)).trans HB7.out).setCell (p:=⟨q,0,none⟩) HBQ0.out _).setCell (p:=⟨q,1,none⟩) HBQ0.out _
  have HNE8:=Zh hne7
  have HF3:Hid (∃ f,nb B + 1 <= f + at4 /\ R = endR B keep (partsG B mo f at4) (⟨Fb ++ sd.take k,Fs + sn,true⟩,foldS fold x)):=by
   obtain ⟨f,h1,h2⟩:=HF2.out
   rw [Zkv HLEN.out HWW.out,HSD.out,HSN.out,HLEFT.out,HK.out] at h2
   exact ⟨f,h1,h2⟩
  have HFO2:=Zh (Zer HFO.out hx32)
  clear hw8 hne7 e0 e1 e2 e3 f0 f1 f2 f3
  go_wp2_with fail
  go_roundw
  case rel =>
   refine ⟨at4,foldS fold x,⟨Fb ++ sd.take k,Fs + sn,true⟩,a7,c7,by trivial,by trivial,hal4,HFO2.out,?_,HW81.out,HO8.out,HNE8.out,HB8.out,?_,?_,HF3.out⟩
   ·have e:(Fb ++ sd.take k).length = Fb.length + k:=by rw [List.length_append,<- HYL.out]
    show FourC q w8 (.slice a7 (Fb ++ sd.take k).length c7) _ _ _
    rw [e];exact HW8.out
   ·show (Fb ++ sd.take k).length = min keep (Fs + sn)
    rw [List.length_append,<- HYL.out]
    have:=HLEN.out;have:=HK.out;have:=HLEFT.out
    omega
   ·show Fs + sn <= at4 * 255000000
    have:=HSZ.out;have:=HLT34.out;have:=HAT23.out
    omega
  case measure=>simp [intOf];have:=HLT34.out;have:=HAT23.out;omega
end Go.Proofs.YtnkpnjnfddjfpaaGreat

namespace Go.Proofs.YtnkpnjnfddjfpaaGreat
open Go.RowKit Go.Shelf
theorem Zfk (w:World) (l:List Nat) (hb:∀ x ∈ l,x < 256) (hl:l.length <= 1000000) :
  ∃ c w',(convert 9 22 (.string (strOf l))).run Tryz.prog w = .ok (.slice (some ⟨w.heap.size,0,none⟩) l.length c) w' /\ RowN .u8 w' (some ⟨w.heap.size,0,none⟩) c l /\ Below w.heap.size w w' /\ w'.heap.size = w.heap.size + 1:=by
 have hs:=Zby l
 refine ⟨grownCap w l.length 0 5,Lib.bytesWorld w 5 (strOf l),?_,?_,?_,Lib.bytesWorld_size w _ _⟩
 ·rw [Lib.run_convert_string_bytes w 9 22 5 (strOf l) Tryz.underlying9 Tryz.underlying22 Tryz.underlying5,hs]
 ·refine ⟨grownCap_ge w _ 0 _,⟨grownCap_le_maxLen w _ 0 _ (by simp [maxLen];omega),fun h=>by cases h⟩,.inr ⟨w.heap.size,0,rfl,by rw [Lib.bytesWorld_size];omega,fun i hi=>?_⟩⟩
  rw [Nat.zero_add,Lib.bytesWorld_cell w _ _ i (by rw [hs];exact hi),Zbt]
  have hx:=hb _ (List.getElem_mem hi)
  simp [List.getD,hi,Nat.mod_eq_of_lt hx]
 ·exact ⟨rfl,rfl,rfl,by rw [Lib.bytesWorld_size];omega,fun b h=>Lib.bytesWorld_at_old w _ _ b h⟩
end Go.Proofs.YtnkpnjnfddjfpaaGreat
