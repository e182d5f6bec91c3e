/- Plain: a stream as the document reads it, part by part. block.must, bunzip.must, the deferred closure of block.Get: contracts. How a function leaves that has deferred calls, and marks of ranges over functions among them. The deferred closure of block.Get. A drawn region of which an operation may panic. rle.Unpack's closure: contract. rle.Unpack: contract. block.Get$2: the next symbol. -/
import Derived.Test.YtnkpnjnfddjfpaaGreatQ10
import Derived.Test.YtnkpnjnfddjfpaaGreatQ06
import Derived.Test.YtnkpnjnfddjfpaaGreatQ08
import Derived.Test.YtnkpnjnfddjfpaaGreatQ07
import Derived.Test.YtnkpnjnfddjfpaaGreatQ01
import Derived.Test.YtnkpnjnfddjfpaaGreatQ02
import Derived.Test.YtnkpnjnfddjfpaaGreatQ05
import Derived.Laws.Rows
set_option linter.unusedVariables false
set_option linter.unusedSimpArgs false
namespace Go.Proofs.YtnkpnjnfddjfpaaGreat.M27
open M01 M02 M04 M06 M10
def endR (B:List Nat) (keep:Nat) (ps:List (List Nat × Nat) × Option Nat) (s:BzF × Nat):Option (BzF × Nat) :=
 ps.2.bind fun a2=>(numG B a2 32).bind fun c =>
  let r:=ps.1.foldl (partF keep) s
  some ({ r.1 with wrong:=r.1.wrong || !(c.1 == r.2) },(c.2 + 7) / 8 * 8)
def strmR (B:List Nat) (keep:Nat) (F:BzF) (at_:Nat):Option (BzF × Nat):=endR B keep (strmG B at_) (F,0)
theorem Zwu (B:List Nat) (keep f a:Nat) (F:BzF):bzG B keep (f + 1) a F = (strmR B keep F a).bind fun r=>if r.2 < nb B then bzG B keep f r.2 r.1 else some r.1:=by
 unfold strmR endR
 conv=>lhs;unfold bzG
 cases (strmG B a).2 with
 | none=>rfl
 | some a2 =>
  show (numG B a2 32).bind _ = ((numG B a2 32).bind _).bind _
  rw [Option.bind_assoc]
  rfl
theorem Zrk {B:List Nat} {keep at_:Nat} {F:BzF} (h:bytesG B 4 at_ [] = none):strmR B keep F at_ = none:=by unfold strmR strmG;rw [h];rfl
theorem Zvq {B:List Nat} {keep at_ a2:Nat} {F:BzF} {h:List Nat} (hh:bytesG B 4 at_ [] = some (h,a2)) (hb:¬ (h.take 3 = [66,90,104] /\ 49 <= h.getD 3 0 /\ h.getD 3 0 <= 57)):strmR B keep F at_ = none:=by
 unfold strmR strmG;rw [hh];show endR B keep (if _ then _ else _) _ = none;rw [if_neg hb];rfl
theorem Zyj {B:List Nat} {keep at_ a2:Nat} {F:BzF} {h:List Nat} (hh:bytesG B 4 at_ [] = some (h,a2)) (hb:h.take 3 = [66,90,104] /\ 49 <= h.getD 3 0 /\ h.getD 3 0 <= 57):strmR B keep F at_ = endR B keep (partsG B ((h.getD 3 0 - 48) * 100000) (nb B + 1) a2) (F,0):=by
 unfold strmR strmG;rw [hh];show endR B keep (if _ then _ else _) _ = _;rw [if_pos hb]
theorem Zsv {B:List Nat} {keep most f at_:Nat} {s:BzF × Nat} (h:bytesG B 6 at_ [] = none):endR B keep (partsG B most f at_) s = none:=by
 cases f with
 | zero=>rfl
 | succ f=>unfold partsG;rw [h];rfl
theorem Zxb {B:List Nat} {keep most f at_ a2:Nat} {s:BzF × Nat} {m:List Nat} (h:bytesG B 6 at_ [] = some (m,a2)) (h1:m ≠ blockM) (h2:m ≠ endM):endR B keep (partsG B most f at_) s = none:=by
 cases f with
 | zero=>rfl
 | succ f=>unfold partsG;rw [h];show endR B keep (if _ then _ else if _ then _ else _) _ = none;rw [if_neg h1,if_neg h2];rfl
theorem Zxd {B:List Nat} {keep most f at_ a2:Nat} {s:BzF × Nat} {m:List Nat} (h:bytesG B 6 at_ [] = some (m,a2)) (h2:m = endM):endR B keep (partsG B most (f + 1) at_) s = endR B keep ([],some a2) s:=by
 have h1:m ≠ blockM:=by rw [h2];decide
 unfold partsG;rw [h];show endR B keep (if _ then _ else if _ then _ else _) _ = _;rw [if_neg h1,if_pos h2]
theorem Zxc {B:List Nat} {keep most f at_ a2:Nat} {s:BzF × Nat} {m:List Nat} (h:bytesG B 6 at_ [] = some (m,a2)) (h1:m = blockM) (h2:blkG B a2 most = none):endR B keep (partsG B most f at_) s = none:=by
 cases f with
 | zero=>rfl
 | succ f=>unfold partsG;rw [h];show endR B keep (if _ then _ else if _ then _ else _) _ = none;rw [if_pos h1,h2];rfl
theorem Zsw {B:List Nat} {keep most f at_ a2 a3 x:Nat} {s:BzF × Nat} {m l:List Nat} (h:bytesG B 6 at_ [] = some (m,a2)) (h1:m = blockM) (h2:blkG B a2 most = some (l,x,a3)):endR B keep (partsG B most (f + 1) at_) s = endR B keep (partsG B most f a3) (partF keep s (l,x)):=by
 conv=>lhs;unfold partsG
 rw [h];show endR B keep (if _ then _ else if _ then _ else _) _ = _;rw [if_pos h1,h2];rfl
theorem Zie {B:List Nat}:∀ {n at_:Nat} {out r:List Nat} {a2:Nat},(∀ x ∈ out,x < 256) -> bytesG B n at_ out = some (r,a2) -> ∀ x ∈ r,x < 256
 | 0,at_,out,r,a2,ho,h=>by unfold bytesG at h;cases h;exact ho
 | n + 1,at_,out,r,a2,ho,h=>by
  unfold bytesG at h
  obtain ⟨p,h1,h2⟩:=Option.bind_eq_some_iff.1 h
  refine Zie (n:=n) (fun x hx=>?_) h2
  rcases List.mem_append.1 hx with hx | hx
  ·exact ho x hx
  ·rw [List.mem_singleton.1 hx];exact (Zbq (x:=p.1) (a2:=p.2) h1).2
end Go.Proofs.YtnkpnjnfddjfpaaGreat.M27

namespace Go.Proofs.YtnkpnjnfddjfpaaGreat
open Go.RowKit Go.Shelf M01 M02 M27
theorem Zfj (v:Value) (w:World):Calls Tryz.prog 73 #[v,.int .i64 0] w fun e w'=>e = .returned v /\ w' = w:=by
 go_enter Tryz.func73,Tryz.ntmps73
 go_wp2
 go_ret
 exact ⟨rfl,rfl⟩
theorem Zfi (v:Value) (n:Nat) (hn:n ≠ 0) (w:World):Calls Tryz.prog 73 #[v,.int .i64 (n:Nat)] w fun e w'=>e = .panicked formP /\ w' = w:=by
 have h1:((n:Int) == 0) = false:=by simp [hn]
 have h2:(!((n:Int) == 0)) = true:=by simp [hn]
 clear hn
 go_enter Tryz.func73,Tryz.ntmps73
 go_wp2
 exact ⟨rfl,rfl,rfl⟩
theorem Zeb (v:Value) (w:World):Calls Tryz.prog 74 #[v,.int .i64 0] w fun e w'=>e = .returned v /\ w' = w:=by
 go_enter Tryz.func74,Tryz.ntmps74
 go_wp2
 go_ret
 exact ⟨rfl,rfl⟩
theorem Zfh (v:Value) (n:Nat) (hn:n ≠ 0) (w:World):Calls Tryz.prog 74 #[v,.int .i64 (n:Nat)] w fun e w'=>e = .panicked formP /\ w' = w:=by
 have h1:((n:Int) == 0) = false:=by simp [hn]
 have h2:(!((n:Int) == 0)) = true:=by simp [hn]
 clear hn
 go_enter Tryz.func74,Tryz.ntmps74
 go_wp2
 exact ⟨rfl,rfl,rfl⟩
theorem Zsb (v:Value) (w:World):Calls Tryz.prog 76 #[v,.int .i64 0] w fun e w'=>e = .returned v /\ w' = w:=by
 go_enter Tryz.func76,Tryz.ntmps76
 go_wp2
 go_ret
 exact ⟨rfl,rfl⟩
theorem Zlh (v:Value) (n:Nat) (hn:n ≠ 0) (w:World):Calls Tryz.prog 76 #[v,.int .i64 (n:Nat)] w fun e w'=>e = .panicked formP /\ w' = w:=by
 have h1:((n:Int) == 0) = false:=by simp [hn]
 have h2:(!((n:Int) == 0)) = true:=by simp [hn]
 clear hn
 go_enter Tryz.func76,Tryz.ntmps76
 go_wp2
 exact ⟨rfl,rfl,rfl⟩
theorem Zsf (v:Value) (w:World):Calls Tryz.prog 78 #[v,.int .i64 0] w fun e w'=>e = .returned v /\ w' = w:=by
 go_enter Tryz.func78,Tryz.ntmps78
 go_wp2
 go_ret
 exact ⟨rfl,rfl⟩
theorem Zse (v:Value) (n:Nat) (hn:n ≠ 0) (w:World):Calls Tryz.prog 78 #[v,.int .i64 (n:Nat)] w fun e w'=>e = .panicked formP /\ w' = w:=by
 have h1:((n:Int) == 0) = false:=by simp [hn]
 have h2:(!((n:Int) == 0)) = true:=by simp [hn]
 clear hn
 go_enter Tryz.func78,Tryz.ntmps78
 go_wp2
 exact ⟨rfl,rfl,rfl⟩
theorem Zsd (v:Value) (w:World):Calls Tryz.prog 81 #[v,.int .i64 0] w fun e w'=>e = .returned v /\ w' = w:=by
 go_enter Tryz.func81,Tryz.ntmps81
 go_wp2
 go_ret
 exact ⟨rfl,rfl⟩
theorem Zsc (v:Value) (n:Nat) (hn:n ≠ 0) (w:World):Calls Tryz.prog 81 #[v,.int .i64 (n:Nat)] w fun e w'=>e = .panicked formP /\ w' = w:=by
 have h1:((n:Int) == 0) = false:=by simp [hn]
 have h2:(!((n:Int) == 0)) = true:=by simp [hn]
 clear hn
 go_enter Tryz.func81,Tryz.ntmps81
 go_wp2
 exact ⟨rfl,rfl,rfl⟩
theorem Zwe (a:Option Addr) (n c:Nat) (y z:Int) (u:Bool) (w:World):Calls Tryz.prog 20 #[.agg #[.slice a n c,.int .i64 y,.int .i64 z,.bool u],.int .i64 0] w fun e w'=>e = .returned (.agg #[.slice a n c,.int .i64 y,.int .i64 z,.bool u]) /\ Below w.heap.size w w':=by
 go_enter Tryz.func20,Tryz.ntmps20
 go_wp2_with fail
 have hn:=World.alloc_heap_new (w.alloc (.cells #[.slice a n c,.int .i64 y,.int .i64 z,.bool u] 24)) (.cells #[.slice a n c,.int .i64 y,.int .i64 z,.bool u] 24)
 rw [show (w.alloc (.cells #[.slice a n c,.int .i64 y,.int .i64 z,.bool u] 24)).heap.size = w.heap.size + 1 by simp] at hn
 refine bodyPost_ret (results_cell_row (P:=Tryz.prog) rfl _ _ (w.heap.size + 1) 24 _ (0,0) _ rfl hn Tryz.underlying24 rfl (by kernel_rfl)) rfl ?_
 exact ⟨rfl,(Zai w _).trans ((Zai _ _).mono (by simp))⟩
theorem Zjc (v:Value) (w:World):Calls Tryz.prog 24 #[v,.int .i64 0] w fun e w'=>e = .returned v /\ w' = w:=by
 go_enter Tryz.func24,Tryz.ntmps24
 go_wp2
 go_ret
 exact ⟨rfl,rfl⟩
theorem Zjb (v:Value) (n:Nat) (hn:n ≠ 0) (w:World):Calls Tryz.prog 24 #[v,.int .i64 (n:Nat)] w fun e w'=>e = .panicked formP /\ w' = w:=by
 have h1:((n:Int) == 0) = false:=by simp [hn]
 have h2:(!((n:Int) == 0)) = true:=by simp [hn]
 clear hn
 go_enter Tryz.func24,Tryz.ntmps24
 go_wp2
 exact ⟨rfl,rfl,rfl⟩
theorem Zwg (v:Value) (w:World):Calls Tryz.prog 42 #[v,.int .i64 0] w fun e w'=>e = .returned v /\ w' = w:=by
 go_enter Tryz.func42,Tryz.ntmps42
 go_wp2
 go_ret
 exact ⟨rfl,rfl⟩
theorem Zwf (v:Value) (n:Nat) (hn:n ≠ 0) (w:World):Calls Tryz.prog 42 #[v,.int .i64 (n:Nat)] w fun e w'=>e = .panicked formP /\ w' = w:=by
 have h1:((n:Int) == 0) = false:=by simp [hn]
 have h2:(!((n:Int) == 0)) = true:=by simp [hn]
 clear hn
 go_enter Tryz.func42,Tryz.ntmps42
 go_wp2
 exact ⟨rfl,rfl,rfl⟩
end Go.Proofs.YtnkpnjnfddjfpaaGreat

namespace Go.Proofs.YtnkpnjnfddjfpaaGreat
open Go.RowKit
def LeavesC (P : Program) (fn : Func) (tmps : Array Value) (R : Ending → World → Prop) : List Deferred → FrameMode → World → Prop
  | [], u, w => Leaves P fn tmps R [] u w
  | d :: ds, u, w => u ≠ .run ∧
      ((∃ r w', d.target = .collected r ∧ (Instr.takeDeferred r).run P w = .ok [] w' ∧ LeavesC P fn tmps R ds u w') ∨
       (∃ fv cap f args, d.target = .fn fv cap ∧ (invoke d.target d.args).run P w = .ok (.enter f args) w ∧
        CallsD P f args u w fun
          | .returned _, u', w' => LeavesC P fn tmps R ds (settle u') w'
          | .panicked chain, u', w' => LeavesC P fn tmps R ds (raised u' chain) w'
          | .outgrown, _, w' => R .outgrown w'))
theorem Zdq {P:Program} {fn:Func} {tmps:Array Value} {R:Ending -> World -> Prop}:∀ (ds:List Deferred) (u:FrameMode) (w:World) (fr:Frame)
  (cs:List Frame),fr.mode = u -> fr.defers = ds -> fr.tmps = tmps -> P.funcs[fr.fn]? = some fn -> fr.kind = .normal -> LeavesC P fn tmps R ds u w →
  ∃ e w' fr',R e w' /\ Comes P (lone fr cs w) (lone fr' cs w') e /\ fr'.fn = fr.fn /\ fr'.leaving P w' e:=by
 intro ds
 induction ds with
 | nil=>exact fun u w fr cs hu hd ht hf hk h=>leaves_steps [] u w fr cs hu hd ht hf hk h
 | cons d ds ih =>
  intro u w fr cs hu hd ht hf hk h
  obtain ⟨hrun,h⟩:=h
  rcases h with ⟨r,w',htar,htake,hrest⟩ | ⟨fv,cap,f,args,htar,hinv,hcall⟩
  ·have h1:=step_collected (cs:=cs) (hu ▸ hrun) hd htar htake
   obtain ⟨e',w'',fr',hR',hs',hfn',hl'⟩:=ih u w' { fr with defers:=[] ++ ds } cs hu rfl ht hf hk hrest
   exact ⟨e',w'',fr',hR',Comes.of_steps (.one h1) hs',hfn',hl'⟩
  ·have h1:=step_defer (cs:=cs) (hu ▸ hrun) hd htar hinv
   obtain ⟨e,u',w',frX,hR,hsteps,hkX,hgo⟩:=hcall { fr with defers:=ds } cs hu
   cases e with
   | returned v =>
    have h2:=step_going_returned (c:={ { fr with defers:=ds } with mode:=u' }) (cs:=cs) hkX hgo
    obtain ⟨e',w'',fr',hR',hs',hfn',hl'⟩:=ih (settle u') w' { { { fr with defers:=ds } with mode:=u' } with mode:=settle u' } cs rfl rfl ht hf hk hR
    exact ⟨e',w'',fr',hR',Comes.of_steps (.head h1 (Steps.trans hsteps (.one h2))) hs',hfn',hl'⟩
   | panicked chain =>
    have h2:=step_going_panicked (c:={ { fr with defers:=ds } with mode:=u' }) (cs:=cs) hgo
    obtain ⟨e',w'',fr',hR',hs',hfn',hl'⟩:=ih (raised u' chain) w' { { { fr with defers:=ds } with mode:=u' } with mode:=raised u' chain } cs rfl rfl ht hf hk hR
    exact ⟨e',w'',fr',hR',Comes.of_steps (.head h1 (Steps.trans hsteps (.one h2))) hs',hfn',hl'⟩
   | outgrown=>exact ⟨.outgrown,w',fr,hR,Outgrown.of_steps (.one h1) hsteps,rfl,trivial⟩
def bodyPostC (P:Program) (fn:Func) (R:Ending -> World -> Prop):Exit -> Act -> World -> Prop
 | .normal,a,w | .ret,a,w=>LeavesC P fn a.tmps R a.defers .returning w
 | .panic chain,a,w=>LeavesC P fn a.tmps R a.defers (.panicking chain) w
 | .outgrown,_,w=>R .outgrown w
 | _,_,_=>False
theorem Zdh {P:Program} {f:FuncId} {fn:Func} {c:Code} {args:Array Value} {w:World} {R:Ending -> World -> Prop}
  (hf:P.funcs[f]? = some fn) (hb:fn.body = some c)
  (h:c.wp P (bodyPostC P fn R) { tmps:=args ++ Array.replicate (fn.ntmps - args.size) undef,defers:=[] } w):Calls P f args w R:=by
 intro cs
 let b:Frame:={ (default:Frame) with fn:=f,kind:=.normal }
 have henter:Frame.enter P f args .normal =
   b.at { tmps:=args ++ Array.replicate (fn.ntmps - args.size) undef,defers:=[] } [.code c]:=by
  simp [Frame.enter,Frame.at,hf,hb,b]
 obtain ⟨e,a',w',hq,harr⟩:=h b [] cs
 rw [<- henter] at harr
 cases e with
 | normal =>
  obtain ⟨e',w'',fr',hR,hs,hfn,hl⟩:=Zdq a'.defers .returning w' { b.at a' [] with mode:=.returning } cs rfl rfl rfl hf rfl hq
  exact ⟨e',w'',fr',hR,Comes.of_steps (Steps.trans harr (.one step_end)) hs,hfn,hl⟩
 | ret =>
  obtain ⟨todo,hs₀⟩:=harr
  obtain ⟨e',w'',fr',hR,hs,hfn,hl⟩:=Zdq a'.defers .returning w' { b.at a' todo with mode:=.returning } cs rfl rfl rfl hf rfl hq
  exact ⟨e',w'',fr',hR,Comes.of_steps hs₀ hs,hfn,hl⟩
 | panic chain =>
  obtain ⟨todo,hs₀⟩:=harr
  obtain ⟨e',w'',fr',hR,hs,hfn,hl⟩:=Zdq a'.defers (.panicking chain) w' { b.at a' todo with mode:=.panicking chain } cs rfl rfl rfl hf rfl hq
  exact ⟨e',w'',fr',hR,Comes.of_steps hs₀ hs,hfn,hl⟩
 | exit id=>exact hq.elim
 | goto l=>exact hq.elim
 | outgrown=>exact ⟨.outgrown,w',b,hq,harr.resolve_left (by simp [b]),rfl,trivial⟩
def marksD (ns:List Nat) (ds:List Deferred):List Deferred:=ns.map (fun r=>{ target:=.collected r,args:=#[] }) ++ ds
end Go.Proofs.YtnkpnjnfddjfpaaGreat

namespace Go.Proofs.YtnkpnjnfddjfpaaGreat
open Go.RowKit Go.Shelf M01 M02 M27
def Res3 (q:Nat) (A:World) (x y z:Value):Prop:=A.heap[q]? = some (.cells #[x] 22 (0,0)) /\ A.heap[q + 1]? = some (.cells #[y] 46 (0,0)) /\ OneR (q + 2) A z
theorem Res3.only {T:Nat -> Prop} {q:Nat} {A B:World} {x y z:Value} (h:Res3 q A x y z) (ho:Only T A B) (h0:¬ T q) (h1:¬ T (q + 1)) (h2:¬ T (q + 2)):Res3 q B x y z:=⟨Zad h.1 ho h0,Zad h.2.1 ho h1,h.2.2.only ho h2⟩
theorem Res3.belowAt {q n:Nat} {A B:World} {x y z:Value} (h:Res3 q A x y z) (hb:Below n A B) (hn:q + 2 < n):Res3 q B x y z:=⟨(hb.block q (by omega)).trans h.1,(hb.block (q + 1) (by omega)).trans h.2.1,h.2.2.belowAt hb hn⟩
theorem Res3.lt {q:Nat} {A:World} {x y z:Value} (h:Res3 q A x y z):q + 2 < A.heap.size:=(Array.getElem?_eq_some_iff.1 h.2.2).1
theorem Res3.set {q:Nat} {A:World} {x y z:Value} (h:Res3 q A x y z) (x' y' z':Value):Res3 q (((A.setCell ⟨q,0,none⟩ x').setCell ⟨q + 1,0,none⟩ y').setCell ⟨q + 2,0,none⟩ z') x' y' z':=by
 obtain ⟨h1,h2,h3⟩:=h
 refine ⟨?_,?_,?_⟩
 ·rw [Below.heap_setCell _ _ _ _ (by show q ≠ q + 2;omega),Below.heap_setCell _ _ _ _ (by show q ≠ q + 1;omega)]
  exact one_setCell h1
 ·rw [Below.heap_setCell _ _ _ _ (by show q + 1 ≠ q + 2;omega)]
  exact one_setCell ((Below.heap_setCell _ _ _ _ (by show q + 1 ≠ q;omega)).trans h2)
 ·exact one_setCell ((Below.heap_setCell _ _ _ _ (by show q + 2 ≠ q + 1;omega)).trans ((Below.heap_setCell _ _ _ _ (by show q + 2 ≠ q;omega)).trans h3))
theorem Zrz (q:Nat) (x y z:Value) (w:World) (h:Res3 q w x y z) :
  CallsD Tryz.prog 72 #[.pointer (some ⟨q,0,none⟩),.pointer (some ⟨q + 1,0,none⟩),.pointer (some ⟨q + 2,0,none⟩)] (.panicking formP) w fun e u' w' =>
   e = .returned (.tuple #[]) /\ u' = .panicking [{ v:=.iface 25 (.int .i64 2),recovered:=true }] /\ w' = ((w.setCell ⟨q,0,none⟩ (.slice none 0 0)).setCell ⟨q + 1,0,none⟩ (.int .u32 0)).setCell ⟨q + 2,0,none⟩ (.int .i64 2):=by
 unfold formP
 refine callsD_of_wpS Tryz.func72 rfl fun c₀ cs hu=>?_
 obtain ⟨h1,h2,h3⟩:=h
 have c1:=cell_of_one h1
 have f1:=Zan h1
 have h2':(w.setCell ⟨q,0,none⟩ (.slice none 0 0)).heap[q + 1]? = _:=(Below.heap_setCell _ _ _ _ (by show q + 1 ≠ q;omega)).trans h2
 have c2:=cell_of_one h2'
 have f2:=Zan h2'
 have h3':((w.setCell ⟨q,0,none⟩ (.slice none 0 0)).setCell ⟨q + 1,0,none⟩ (.int .u32 0)).heap[q + 2]? = _:=(Below.heap_setCell _ _ _ _ (by show q + 2 ≠ q + 1;omega)).trans ((Below.heap_setCell _ _ _ _ (by show q + 2 ≠ q;omega)).trans h3)
 have c3:=cell_of_one h3'
 have f3:=Zan h3'
 have te:=Zpi 2
 apply wpS_seq
 apply wpS_region
 simp [wpOpsS,go_sem,recoverD,hu,te,Tryz.ntmps72,Exit.thenS]
 apply wpS_seq
 apply wpS_region
 simp [wpOpsS,go_sem,Exit.thenS]
 refine wpS_cond (t:=true) (by simp [Act.eval,Array.replicate]) ?_
 simp only [if_true]
 apply wpS_region
 simp [wpOpsS,go_sem,c1,f1,c2,f2,c3,f3,bodyPostS,results,Tryz.results72]
theorem Zjd (q:Nat) (w:World) :
  CallsD Tryz.prog 72 #[.pointer (some ⟨q,0,none⟩),.pointer (some ⟨q + 1,0,none⟩),.pointer (some ⟨q + 2,0,none⟩)] .returning w fun e u' w' =>
   e = .returned (.tuple #[]) /\ u' = .returning /\ w' = w:=by
 refine callsD_of_wpS Tryz.func72 rfl fun c₀ cs hu=>?_
 apply wpS_seq
 apply wpS_region
 have te:=Zpj
 simp [wpOpsS,go_sem,recoverD,hu,te,Tryz.ntmps72,Exit.thenS]
 apply wpS_seq
 apply wpS_region
 simp [wpOpsS,go_sem,Exit.thenS]
 refine wpS_cond (t:=false) (by simp [Act.eval,Array.replicate]) ?_
 simp only [Bool.false_eq_true,if_false]
 refine wpS_of_wp (wp_skip ?_)
 cases c₀
 simp_all [bodyPostS,results,Tryz.results72]
def blkDef (q:Nat):List Deferred:=[{ target:=Target.fn (Fn.func 72) #[.pointer (some ⟨q,0,none⟩),.pointer (some ⟨q + 1,0,none⟩),.pointer (some ⟨q + 2,0,none⟩)],args:=#[] }]
theorem Zwo {q:Nat} {A:World} {x y z:Value} {tmps:Array Value} {Rr:Ending -> World -> Prop} (h:Res3 q A x y z) (t4:tmps.getD 4 undef = .pointer (some ⟨q,0,none⟩)) (t5:tmps.getD 5 undef = .pointer (some ⟨q + 1,0,none⟩)) (t6:tmps.getD 6 undef = .pointer (some ⟨q + 2,0,none⟩))
  (hx:(match x with | .slice _ _ _=>true | _=>false) = true) (hK:Rr (.returned (.tuple #[x,y,z])) A):LeavesC Tryz.prog Tryz.f41 tmps Rr (blkDef q) .returning A:=by
 unfold blkDef
 refine ⟨by simp,.inr ⟨_,_,72,#[.pointer (some ⟨q,0,none⟩),.pointer (some ⟨q + 1,0,none⟩),.pointer (some ⟨q + 2,0,none⟩)],rfl,by simp [go_sem],?_⟩⟩
 refine (Zjd q A).mono ?_
 rintro e u' w'' ⟨rfl,rfl,rfl⟩
 have g1:=cell_of_one h.1
 have g2:=cell_of_one h.2.1
 have g3:=cell_of_one h.2.2
 have s4:tmps[4]?.getD undef = .pointer (some ⟨q,0,none⟩):=by simpa using t4
 have s5:tmps[5]?.getD undef = .pointer (some ⟨q + 1,0,none⟩):=by simpa using t5
 have s6:tmps[6]?.getD undef = .pointer (some ⟨q + 2,0,none⟩):=by simpa using t6
 simp only [settle]
 simp [LeavesC,Leaves,results,Tryz.results41,go_sem,s4,s5,s6,g1,g2,g3,hK]
theorem Zpu {q:Nat} {A:World} {x y z:Value} {tmps:Array Value} {Rr:Ending -> World -> Prop} (h:Res3 q A x y z) (t4:tmps.getD 4 undef = .pointer (some ⟨q,0,none⟩)) (t5:tmps.getD 5 undef = .pointer (some ⟨q + 1,0,none⟩)) (t6:tmps.getD 6 undef = .pointer (some ⟨q + 2,0,none⟩))
  (hK:Rr (.returned (.tuple #[.slice none 0 0,.int .u32 0,.int .i64 2])) (((A.setCell ⟨q,0,none⟩ (.slice none 0 0)).setCell ⟨q + 1,0,none⟩ (.int .u32 0)).setCell ⟨q + 2,0,none⟩ (.int .i64 2))):LeavesC Tryz.prog Tryz.f41 tmps Rr (blkDef q) (.panicking formP) A:=by
 unfold blkDef
 refine ⟨by simp,.inr ⟨_,_,72,#[.pointer (some ⟨q,0,none⟩),.pointer (some ⟨q + 1,0,none⟩),.pointer (some ⟨q + 2,0,none⟩)],rfl,by simp [go_sem],?_⟩⟩
 refine (Zrz q x y z A h).mono ?_
 rintro e u' w'' ⟨rfl,rfl,rfl⟩
 have h2:=h.set (.slice none 0 0) (.int .u32 0) (.int .i64 2)
 have g1:=cell_of_one h2.1
 have g2:=cell_of_one h2.2.1
 have g3:=cell_of_one h2.2.2
 have s4:tmps[4]?.getD undef = .pointer (some ⟨q,0,none⟩):=by simpa using t4
 have s5:tmps[5]?.getD undef = .pointer (some ⟨q + 1,0,none⟩):=by simpa using t5
 have s6:tmps[6]?.getD undef = .pointer (some ⟨q + 2,0,none⟩):=by simpa using t6
 generalize ((A.setCell ⟨q,0,none⟩ (.slice none 0 0)).setCell ⟨q + 1,0,none⟩ (.int .u32 0)).setCell ⟨q + 2,0,none⟩ (.int .i64 2) = B at *
 simp only [settle]
 simp [LeavesC,Leaves,results,Tryz.results41,go_sem,s4,s5,s6,g1,g2,g3,hK]
end Go.Proofs.YtnkpnjnfddjfpaaGreat

namespace Go.Proofs.YtnkpnjnfddjfpaaGreat
section
variable {P : Program} {ops : Array Oper} {Q : Exit → Act → World → Prop}
theorem Zbh {id:Nat} {l:List Value} {df:List Deferred} {w0:World} (ds:List Tmp) (fin:Nat -> Bool) (R:Array Bool -> World -> Prop) (V:Nat -> Value -> World -> Prop) (D:Nat -> Nat -> Value -> Value -> Prop)
  (hm:P.follows .mixedOrders = true) (hds:dstsL ops = ds) (h1:OneEach ops l.length) (hb:backB .any ops = true)
  (hg:(ops.all fun o=>o.guard.isNone) = true)
  (h0:R (Array.replicate ops.size false) { w0 with drawn:=w0.drawn + 1 })
  (step:∀ (i:Nat) (o:Oper),ops[i]? = some o -> ∀ (listed:Array Bool) (a:Act) (w:World),R listed w -> i < listed.size -> listed.getD i false = false -> (∀ j,anc .any ops i ops.size j = true -> listed.getD j false = false) -> (∀ j,anc .any ops j ops.size i = true -> listed.getD j false = true) -> (∀ t,t ∉ ds -> a.eval (.tmp t) = l.getD t undef) →
   a.defers = df →
   (∀ e ∈ o.after,wantE .any e = true -> ∀ oe,ops[e.on]? = some oe -> V e.on (leftBy a oe) w) →
   StepTo P Q o a w (fun a' w'=>∃ v,a' = a.put o.dst v /\ R (listed.setIfInBounds i true) w' /\ (∀ j u,usedB .any ops fin i j = true -> V j u w -> (∀ e ∈ o.after,wantE .any e = true -> e.on ≠ j -> ∀ oe,ops[e.on]? = some oe -> D e.on j (leftBy a oe) u /\ D j e.on u (leftBy a oe)) →
    V j u w' /\ D i j (match o.dst with | some _=>v | none=>undef) u /\ D j i u (match o.dst with | some _=>v | none=>undef)) /\ V i (match o.dst with | some _=>v | none=>undef) w'))
  (done:∀ (listed:Array Bool) (f:Nat -> Value) (w:World),R listed w -> (∀ i,i < ops.size -> listed.getD i false = true) -> (∀ (i:Nat) (o:Oper),ops[i]? = some o -> fin i = true -> V i (match o.dst with | some d=>f d | none=>undef) w) →
   Q .normal ⟨(spread ds f 0 l).toArray,df⟩ w) :
  (Code.region id ops true).wp P Q ⟨l.toArray,df⟩ w0:=by
 subst hds
 have hb':∀ (i:Nat) (o:Oper),ops[i]? = some o -> ∀ e ∈ o.after,Region.binds .any e = true -> e.on < i:=fun i o hi e he hbe=>by
  unfold backB at hb
  rw [List.all_eq_true] at hb
  have h2:=hb i (by simpa using (Array.getElem?_eq_some_iff.1 hi).1)
  rw [hi] at h2
  simp only [Option.map_some,Option.getD_some] at h2
  rw [Array.all_eq_true_iff_forall_mem] at h2
  have h3:=h2 e he
  rw [hbe] at h3
  simpa using h3
 have h1':OneEach ops (Act.mk l.toArray df).tmps.size:=by simpa using h1
 refine wp_region_any hm (Ziz (FlowAt .any ops fin R V D ⟨l.toArray,df⟩) ?_ ?_ _ _ _ _ (Zdb ops) (FlowAt.start h0))
 ·intro listed a w i hI hi
  obtain ⟨hun,o,ho,hw⟩:=mem_ready.1 hi
  have hgo:o.guard = none:=by
   rw [Array.all_eq_true_iff_forall_mem] at hg
   simpa using hg o (Array.mem_of_getElem? ho)
  have hwant:Region.wanted o (yielded ops a.tmps) = true:=by simp [Region.wanted,hgo]
  unfold wpOp
  simp only [ho,hwant,if_true]
  have hil:i < listed.size:=by rw [hI.len];exact (Array.getElem?_eq_some_iff.1 ho).1
  have hunf:listed.getD i false = false:=by simp [hil] at hun ⊢;exact hun
  have hs:=step i o ho listed a w hI.rel hil hunf (fun j hj=>by
   cases hc:listed.getD j false with
   | false=>rfl
   | true=>have:=hI.shut.anc i _ _ hj hc;rw [hunf] at this;cases this) (fun j hj=>hI.shut.ready ho hw _ hj) (fun t ht=>by have:=hI.out t ht;simpa [Act.eval] using this) hI.defers (fun e he hbe oe hoe=>hI.val e.on oe hoe (hw e he (Zbe hbe)) (.inr ⟨i,o,e,ho,hun,he,hbe,rfl⟩))
  exact hs.imp (Oper.wp_mono (fun a' w' h=>by
   obtain ⟨v,rfl,hR,hmono,hv⟩:=h
   exact hI.next h1' ho hun hw hR hmono hv)) (fun h=>h)
 ·intro listed a w hI hr
  obtain ⟨hR,hall,hV,ha⟩:=hI.end hb' hr
  rw [ha]
  exact done _ _ _ hR hall hV
theorem Zco {o:Oper} {a:Act} {w:World} {K:Act -> World -> Prop} {f:FuncId} {args:Array Value} {ch:List PanicEntry} (hr:(execOp a.eval o).run P w = .ok (.enter f args) w)
  (hc:Calls P f args w fun e w'=>e = .panicked ch /\ Q (.panic ch) a w'):StepTo P Q o a w K:=by
 left;unfold Oper.wp;rw [hr,Oper.upon_enter]
 refine hc.mono ?_
 rintro e w' ⟨rfl,h⟩
 exact h
end
end Go.Proofs.YtnkpnjnfddjfpaaGreat

namespace Go.Proofs.YtnkpnjnfddjfpaaGreat
open Go.RowKit Go.Shelf M01 M02 M27
def FlowC (w:World) (f:Nat) (base:Nat) (l:List Nat) (size used:Nat) (wrong:Bool):Prop :=
 ∃ a c,w.heap[f]? = some (.cells #[.slice a l.length c,.int .i64 (size:Nat),.int .i64 (used:Nat),.bool wrong] 24 (0,0)) /\ OwnN 5 .u8 w base a c l
def putV (f keep size mx n m c W0 base:Nat) (l:List Nat) (a:Option Addr) (cp kb j:Nat) (v:Value) (w:World):Prop :=
 match j with
 | 0=>v = .pointer (some ⟨f,0,none⟩)
 | 1=>v = .slice a l.length cp
 | 2=>v = .int .u8 (c:Nat)
 | 3=>v = .slice (some ⟨W0,0,none⟩) 1 1
 | 4=>v = .int .i64 (n:Nat)
 | 5=>v = .int .i64 (keep:Nat)
 | 6=>v = .pointer (some ⟨f,1,none⟩)
 | 7=>v = .int .i64 (size:Nat)
 | 8=>v = .int .i64 ((keep:Int) - (size:Int))
 | 9=>v = .int .i64 (mx:Nat)
 | 10=>v = .int .i64 (m:Nat)
 | 11=>∃ a6,v = .slice a6 m m /\ RowN .u8 w a6 m (List.replicate m c)
 | 12=>∃ a7 c7,v = .slice a7 (l.length + m) c7 /\ OwnN 5 .u8 w base a7 c7 (l ++ List.replicate m c)
 | 13=>v = .pointer (some ⟨f,0,none⟩)
 | _=>True
section
variable {f keep size mx n m c W0 base : Nat} {l : List Nat} {a : Option Addr} {cp kb j : Nat} {v : Value} {w w' : World}
theorem Zkc (hb:Below w.heap.size w w') (h:putV f keep size mx n m c W0 base l a cp kb j v w):putV f keep size mx n m c W0 base l a cp kb j v w':=by
 unfold putV at *
 split at h
 all_goals try exact h
 ·obtain ⟨a6,h1,h2⟩:=h;exact ⟨a6,h1,h2.below hb⟩
 ·obtain ⟨a7,c7,h1,h2⟩:=h;exact ⟨a7,c7,h1,h2.below hb⟩
theorem Zkd (h1:j ≠ 11) (h2:j ≠ 12) (h:putV f keep size mx n m c W0 base l a cp kb j v w):putV f keep size mx n m c W0 base l a cp kb j v w':=by
 unfold putV at *
 split at h
 all_goals first | exact h | exact absurd rfl h1 | exact absurd rfl h2
end
theorem Zky (p:Addr) (v:Value) (w:World) (h:w.cell? p = some v):(Instr.loadAt 3 (.pointer (some p))).run Tryz.prog w = .ok v w:=by
 simp [Instr.loadAt,Instr.sureAddr,loadVar,isAgg,run_underlying Tryz.underlying3,h,go_sem]
theorem fa0 (f:Nat) (w:World):(Instr.fieldAt 24 (.pointer (some ⟨f,0,none⟩)) 0).run Tryz.prog w = .ok (.pointer (some ⟨f,0,none⟩)) w:=by kernel_rfl
theorem fa1 (f:Nat) (w:World):(Instr.fieldAt 24 (.pointer (some ⟨f,0,none⟩)) 1).run Tryz.prog w = .ok (.pointer (some ⟨f,1,none⟩)) w:=by kernel_rfl
theorem eqgSb (t:TypeId) (x y:Operand) (u v:Value) (w:World):(eqGuard .sub t x y u v).run Tryz.prog w = .ok () w:=by simp [eqGuard,go_sem]
theorem subI (t:TypeId) (x y:Int) (w:World):(binOp .sub t (.int .i64 x) (.int .i64 y):Sem Value).run Tryz.prog w = .ok (.int .i64 (IntKind.i64.wrap (x - y))) w:=by
 simp [binOp,go_sem]
set_option maxRecDepth 100000 in
set_option maxHeartbeats 6400000 in
theorem Zuu (w:World) (f kb base keep c n size used:Nat) (l:List Nat) (a:Option Addr) (cp:Nat) (hf:w.heap[f]? = some (.cells #[.slice a l.length cp,.int .i64 (size:Nat),.int .i64 (used:Nat),.bool false] 24 (0,0))) (ho:OwnN 5 .u8 w base a cp l)
  (hk:w.heap[kb]? = some (.cells #[.int .i64 (keep:Nat)] 3 (0,0))) (hwb:base <= w.heap.size) (hfb:f < base) (hkb:kb < base) (hn:n <= 255) (hs:size <= 1000000000000) (hkeep:keep <= 1000000000000) (hll:l.length <= 1000000000) :
  Calls Tryz.prog 43 #[.int .u8 (c:Nat),.int .i64 (n:Nat),.pointer (some ⟨f,0,none⟩),.pointer (some ⟨kb,0,none⟩)] w fun e w'=>e = .returned (.tuple #[]) /\ FlowC w' f base (l ++ List.replicate (min n (keep - size)) c) (size + n) used false /\ Only (fun b=>b = f \/ base <= b) w w':=by
 obtain ⟨q1,q2,q3,q4,q5,q6⟩:=Zac hf
 have q7:=cell_of_one hk
 have hf2:=lt_of_block hf
 have hk2:=lt_of_block hk
 have r1:=Zbd (A:=w.drew) q1 (Zai w.drew (.cells #[.int .u8 (c:Nat)] 5)) hf2
 have r2:=Zbd (A:=w.drew) q2 (Zai w.drew (.cells #[.int .u8 (c:Nat)] 5)) hf2
 have r7:=Zbd (A:=w.drew) q7 (Zai w.drew (.cells #[.int .u8 (c:Nat)] 5)) hk2
 obtain ⟨mx,hmx⟩:∃ mx,keep - size = mx:=⟨_,rfl⟩
 obtain ⟨m,hm⟩:∃ m,min n mx = m:=⟨_,rfl⟩
 have HM:=Zh hm
 have HMX:=Zh hmx
 have hm2:m <= 255:=by omega
 have g0:IntKind.i64.wrap ((keep:Int) - (size:Int)) = (keep:Int) - (size:Int):=IntWalk.i64_in _ (by omega)
 have QF:=Zh q1
 have G0:=Zh g0
 have HO:=Zh ho
 have HF:=Zh hf
 have HN1:=Zh (show l.length + m <= 9223372036854775807 by omega)
 have HN2:=Zh (show (l.length + m) * 1 <= 140737488355328 by omega)
 have HM3:=Zh (show m <= 1000000 by omega)
 have HNS:=Zh (And.intro hn hs)
 clear ho hf hk hm hmx hkeep hll hm2
 go_enter Tryz.func43,Tryz.ntmps43
 go_wp2_with fail
 have HQ:Hid (∀ q:Bool,(if q = true then w.drew.alloc (.cells #[.int .u8 (c:Nat)] 5) else w.drew).cell? ⟨f,0,none⟩ = some (.slice a l.length cp) /\ (if q = true then w.drew.alloc (.cells #[.int .u8 (c:Nat)] 5) else w.drew).cell? ⟨f,1,none⟩ = some (.int .i64 (size:Nat)) /\ (if q = true then w.drew.alloc (.cells #[.int .u8 (c:Nat)] 5) else w.drew).cell? ⟨kb,0,none⟩ = some (.int .i64 (keep:Nat))):=Zh (fun q=>by
  cases q with
  | false=>exact ⟨q1,q2,q7⟩
  | true=>exact ⟨r1,r2,r7⟩)
 refine Zeo [6,7,8,9,10,11,12,13,14,15,16,17,18,19] (fun j=>false) (fun listed w1=>if listed.getD 14 false = true then (∃ a7 c7,w1.heap[f]? = some (.cells #[.slice a7 (l.length + m) c7,.int .i64 (size:Nat),.int .i64 (used:Nat),.bool false] 24 (0,0)) /\ OwnN 5 .u8 w1 base a7 c7 (l ++ List.replicate m c) /\ Only (fun b=>b = f \/ base <= b) w w1) else if listed.getD 12 false = true then (w1.heap[f]? = w.heap[f]? /\ Only (fun b=>b = f \/ base <= b) w w1) else if listed.getD 11 false = true then Below w.heap.size w w1 else w1 = if listed.getD 3 false = true then w.drew.alloc (.cells #[.int .u8 (c:Nat)] 5) else w.drew) (putV f keep size mx n m c w.heap.size base l a cp kb) (fun _ _ _ _=>True) (by kernel_rfl) (by kernel_rfl) (OneEach.mk' (by kernel_rfl) (by kernel_rfl)) (by kernel_rfl) (by kernel_rfl) (by simp) ?_ ?_
 ·intro i0 o hi0 listed a1 w1 hR hil hunf hdes hanc hout hdep
  have hsz:i0 < 15:=(Array.getElem?_eq_some_iff.1 hi0).1
  have hall:i0 = 0 \/ i0 = 1 \/ i0 = 2 \/ i0 = 3 \/ i0 = 4 \/ i0 = 5 \/ i0 = 6 \/ i0 = 7 \/ i0 = 8 \/ i0 = 9 \/ i0 = 10 \/ i0 = 11 \/ i0 = 12 \/ i0 = 13 \/ i0 = 14:=by omega
  clear hsz
  rcases hall with rfl | rfl | rfl | rfl | rfl | rfl | rfl | rfl | rfl | rfl | rfl | rfl | rfl | rfl | rfl <;> simp only [List.getElem?_toArray,List.getElem?_cons_zero,List.getElem?_cons_succ,Option.some.injEq] at hi0 <;> subst hi0
  ·have f2:a1.eval (.tmp 2) = .pointer (some ⟨f,0,none⟩):=hout 2 (by decide)
   refine Zab (v:=.pointer (some ⟨f,0,none⟩)) (w':=w1) (by simp [execOp,f2,fa0]) ⟨_,rfl,?_,fun j u hu hV _=>⟨hV,trivial,trivial⟩,rfl⟩
   rw [Zaa (by decide),Zaa (by decide),Zaa (by decide),Zaa (by decide)];exact hR
  ·have e6:a1.eval (.tmp 6) = .pointer (some ⟨f,0,none⟩):=hdep ⟨0,.data⟩ (by simp) rfl _ rfl
   have x6:a1.tmps[6]?.getD undef = .pointer (some ⟨f,0,none⟩):=by simpa [Act.eval] using e6
   have hq:w1.cell? ⟨f,0,none⟩ = some (.slice a l.length cp):=by
    rw [hdes 14 (by kernel_rfl),hdes 12 (by kernel_rfl),if_neg (by decide),if_neg (by decide)] at hR
    by_cases h11:listed.getD 11 false = true
    ·rw [if_pos h11] at hR;exact Zbd (A:=w) QF.out hR hf2
    ·rw [if_neg h11] at hR
     have hq:=(HQ.out (listed.getD 3 false)).1
     rw [<- hR] at hq
     exact hq
   refine Zab (v:=.slice a l.length cp) (w':=w1) (by simp only [execOp,e6,Sem.run_bind,Zwm _ _ _ hq];rfl) ⟨_,rfl,?_,fun j u hu hV _=>⟨hV,trivial,trivial⟩,rfl⟩
   rw [Zaa (by decide),Zaa (by decide),Zaa (by decide),Zaa (by decide)];exact hR
  ·have f0:a1.eval (.tmp 0) = .int .u8 (c:Nat):=hout 0 (by decide)
   refine Zab (v:=.int .u8 (c:Nat)) (w':=w1) (by simp [execOp,f0]) ⟨_,rfl,?_,fun j u hu hV _=>⟨hV,trivial,trivial⟩,rfl⟩
   rw [Zaa (by decide),Zaa (by decide),Zaa (by decide),Zaa (by decide)];exact hR
  ·have e8:a1.eval (.tmp 8) = .int .u8 (c:Nat):=hdep ⟨2,.data⟩ (by simp) rfl _ rfl
   have x8:a1.tmps[8]?.getD undef = .int .u8 (c:Nat):=by simpa [Act.eval] using e8
   rw [hdes 14 (by kernel_rfl),hdes 12 (by kernel_rfl),hdes 11 (by kernel_rfl),hunf,if_neg (by decide),if_neg (by decide),if_neg (by decide),if_neg (by decide)] at hR
   refine Zab (v:=.slice (some ⟨w.heap.size,0,none⟩) 1 1) (w':=w.drew.alloc (.cells #[.int .u8 (c:Nat)] 5)) (by rw [hR];show _ = Result.ok (Next.value (.slice (some ⟨w.drew.heap.size,0,none⟩) 1 1)) _;simp [execOp,e8,Zabg]) ⟨_,rfl,?_,fun j u hu hV _=>⟨?_,trivial,trivial⟩,rfl⟩
   ·rw [Zaa (by decide),Zaa (by decide),Zaa (by decide),Zag hil,hdes 14 (by kernel_rfl),hdes 12 (by kernel_rfl),hdes 11 (by kernel_rfl),if_neg (by decide),if_neg (by decide),if_neg (by decide),if_pos rfl]
   ·rw [hR] at hV;exact Zkc (w:=w.drew) (Zai w.drew _) hV
  ·have f1:a1.eval (.tmp 1) = .int .i64 (n:Nat):=hout 1 (by decide)
   refine Zab (v:=.int .i64 (n:Nat)) (w':=w1) (by simp [execOp,f1]) ⟨_,rfl,?_,fun j u hu hV _=>⟨hV,trivial,trivial⟩,rfl⟩
   rw [Zaa (by decide),Zaa (by decide),Zaa (by decide),Zaa (by decide)];exact hR
  ·have f3:a1.eval (.tmp 3) = .pointer (some ⟨kb,0,none⟩):=hout 3 (by decide)
   have hq:=HQ.out (listed.getD 3 false)
   rw [hdes 14 (by kernel_rfl),hdes 12 (by kernel_rfl),hdes 11 (by kernel_rfl),if_neg (by decide),if_neg (by decide),if_neg (by decide)] at hR
   rw [<- hR] at hq
   refine Zab (v:=.int .i64 (keep:Nat)) (w':=w1) (by simp only [execOp,f3,Sem.run_bind,Zky _ _ _ hq.2.2];rfl) ⟨_,rfl,?_,fun j u hu hV _=>⟨hV,trivial,trivial⟩,rfl⟩
   rw [Zaa (by decide),Zaa (by decide),Zaa (by decide),Zaa (by decide),hdes 14 (by kernel_rfl),hdes 12 (by kernel_rfl),hdes 11 (by kernel_rfl),if_neg (by decide),if_neg (by decide),if_neg (by decide)];exact hR
  ·have f2:a1.eval (.tmp 2) = .pointer (some ⟨f,0,none⟩):=hout 2 (by decide)
   refine Zab (v:=.pointer (some ⟨f,1,none⟩)) (w':=w1) (by simp [execOp,f2,fa1]) ⟨_,rfl,?_,fun j u hu hV _=>⟨hV,trivial,trivial⟩,rfl⟩
   rw [Zaa (by decide),Zaa (by decide),Zaa (by decide),Zaa (by decide)];exact hR
  ·have e12:a1.eval (.tmp 12) = .pointer (some ⟨f,1,none⟩):=hdep ⟨6,.data⟩ (by simp) rfl _ rfl
   have x12:a1.tmps[12]?.getD undef = .pointer (some ⟨f,1,none⟩):=by simpa [Act.eval] using e12
   have hq:=HQ.out (listed.getD 3 false)
   rw [hdes 14 (by kernel_rfl),hdes 12 (by kernel_rfl),hdes 11 (by kernel_rfl),if_neg (by decide),if_neg (by decide),if_neg (by decide)] at hR
   rw [<- hR] at hq
   refine Zab (v:=.int .i64 (size:Nat)) (w':=w1) (by simp only [execOp,e12,Sem.run_bind,Zky _ _ _ hq.2.1];rfl) ⟨_,rfl,?_,fun j u hu hV _=>⟨hV,trivial,trivial⟩,rfl⟩
   rw [Zaa (by decide),Zaa (by decide),Zaa (by decide),Zaa (by decide),hdes 14 (by kernel_rfl),hdes 12 (by kernel_rfl),hdes 11 (by kernel_rfl),if_neg (by decide),if_neg (by decide),if_neg (by decide)];exact hR
  ·have e11:a1.eval (.tmp 11) = .int .i64 (keep:Nat):=hdep ⟨5,.data⟩ (by simp) rfl _ rfl
   have e13:a1.eval (.tmp 13) = .int .i64 (size:Nat):=hdep ⟨7,.data⟩ (by simp) rfl _ rfl
   refine Zab (v:=.int .i64 ((keep:Int) - (size:Int))) (w':=w1) (by simp [execOp,e11,e13,eqgSb,subI,G0.out]) ⟨_,rfl,?_,fun j u hu hV _=>⟨hV,trivial,trivial⟩,rfl⟩
   rw [Zaa (by decide),Zaa (by decide),Zaa (by decide),Zaa (by decide)];exact hR
  ·have e14:a1.eval (.tmp 14) = .int .i64 ((keep:Int) - (size:Int)):=hdep ⟨8,.data⟩ (by simp) rfl _ rfl
   have x14:a1.tmps[14]?.getD undef = .int .i64 ((keep:Int) - (size:Int)):=by simpa [Act.eval] using e14
   refine Zab (v:=.int .i64 (mx:Nat)) (w':=w1) (by simp [execOp,x14,resolve,invoke,builtin,go_sem];have:=HMX.out;split <;> omega) ⟨_,rfl,?_,fun j u hu hV _=>⟨hV,trivial,trivial⟩,rfl⟩
   rw [Zaa (by decide),Zaa (by decide),Zaa (by decide),Zaa (by decide)];exact hR
  ·have e10:a1.eval (.tmp 10) = .int .i64 (n:Nat):=hdep ⟨4,.data⟩ (by simp) rfl _ rfl
   have x10:a1.tmps[10]?.getD undef = .int .i64 (n:Nat):=by simpa [Act.eval] using e10
   have e15:a1.eval (.tmp 15) = .int .i64 (mx:Nat):=hdep ⟨9,.data⟩ (by simp) rfl _ rfl
   have x15:a1.tmps[15]?.getD undef = .int .i64 (mx:Nat):=by simpa [Act.eval] using e15
   refine Zab (v:=.int .i64 (m:Nat)) (w':=w1) (by simp [execOp,x10,x15,resolve,invoke,builtin,go_sem];have:=HM.out;split <;> omega) ⟨_,rfl,?_,fun j u hu hV _=>⟨hV,trivial,trivial⟩,rfl⟩
   rw [Zaa (by decide),Zaa (by decide),Zaa (by decide),Zaa (by decide)];exact hR
  ·have e9:a1.eval (.tmp 9) = .slice (some ⟨w.heap.size,0,none⟩) 1 1:=hdep ⟨3,.data⟩ (by simp) rfl _ rfl
   have x9:a1.tmps[9]?.getD undef = .slice (some ⟨w.heap.size,0,none⟩) 1 1:=by simpa [Act.eval] using e9
   have e16:a1.eval (.tmp 16) = .int .i64 (m:Nat):=hdep ⟨10,.data⟩ (by simp) rfl _ rfl
   have x16:a1.tmps[16]?.getD undef = .int .i64 (m:Nat):=by simpa [Act.eval] using e16
   rw [hdes 14 (by kernel_rfl),hdes 12 (by kernel_rfl),hunf,hanc 3 (by kernel_rfl),if_neg (by decide),if_neg (by decide),if_neg (by decide),if_pos rfl] at hR
   subst hR
   refine Zap (f:=44) (args:=#[.slice (some ⟨w.heap.size,0,none⟩) 1 1,.int .i64 (m:Nat)]) (by simp [x9,x16,go_sem]) ((Zec m c w.heap.size HM3.out (w.drew.alloc (.cells #[.int .u8 (c:Nat)] 5)) (cell_of_one (World.alloc_heap_new w.drew (.cells #[.int .u8 (c:Nat)] 5))) (by simp)).mono ?_)
   rintro e w6 ⟨a6,rfl,hr6,hb6⟩
   have hb7:Below w.heap.size w w6:=(Below.refl _ w).drew.trans ((Zai w.drew _).trans (hb6.mono (by simp)))
   refine ⟨_,rfl,_,rfl,?_,fun j u hu hV _=>⟨?_,trivial,trivial⟩,a6,rfl,hr6⟩
   ·rw [Zaa (by decide),Zaa (by decide),Zag hil,hdes 14 (by kernel_rfl),hdes 12 (by kernel_rfl),if_neg (by decide),if_neg (by decide),if_pos rfl];exact hb7
   ·exact Zkc hb6 hV
  ·rw [hdes 14 (by kernel_rfl),hunf,hanc 11 (by kernel_rfl),if_neg (by decide),if_neg (by decide),if_pos rfl] at hR
   have e7:a1.eval (.tmp 7) = .slice a l.length cp:=hdep ⟨1,.data⟩ (by simp) rfl _ rfl
   obtain ⟨a6,e17,hr6⟩:=hdep ⟨11,.data⟩ (by simp) rfl _ rfl
   have e17':a1.eval (.tmp 17) = .slice a6 m m:=e17
   have hz6:=hR.size
   have how:OwnN 5 .u8 w1 base a cp l:=HO.out.below hR
   obtain ⟨a7,c7,w7,ho7,hb7,hg7,happ⟩:=appEq Zaz 22 how rfl (List.length_replicate (n:=m) (a:=c)).symm hr6 HN1.out HN2.out (Nat.le_trans hwb hR.size)
   refine Zab (v:=.slice a7 (l.length + m) c7) (w':=w7) (by simp [execOp,resolve,invoke,builtin,e7,e17',happ,Result.andThen]) ⟨_,rfl,?_,fun j u hu hV _=>⟨?_,trivial,trivial⟩,a7,c7,rfl,ho7⟩
   ·rw [Zaa (by decide),Zag hil,hdes 14 (by kernel_rfl),if_neg (by decide),if_pos rfl]
    refine ⟨(hb7.block f hfb).trans (hR.block f hf2),?_⟩
    exact ⟨hb7.os.trans hR.os,hb7.tape.trans hR.tape,hb7.output.trans hR.output,Nat.le_trans hR.size hb7.size,fun b hb ht=>(hb7.block b (by omega)).trans (hR.block b hb)⟩
   ·exact Zkd (fun e=>by subst e;cases (show true = false from hu.symm.trans (by kernel_rfl))) (fun e=>by subst e;cases (show true = false from hu.symm.trans (by kernel_rfl))) hV
  ·have f2:a1.eval (.tmp 2) = .pointer (some ⟨f,0,none⟩):=hout 2 (by decide)
   refine Zab (v:=.pointer (some ⟨f,0,none⟩)) (w':=w1) (by simp [execOp,f2,fa0]) ⟨_,rfl,?_,fun j u hu hV _=>⟨hV,trivial,trivial⟩,rfl⟩
   rw [Zaa (by decide),Zaa (by decide),Zaa (by decide),Zaa (by decide)];exact hR
  ·have e19:a1.eval (.tmp 19) = .pointer (some ⟨f,0,none⟩):=hdep ⟨13,.data⟩ (by simp) rfl _ rfl
   have x19:a1.tmps[19]?.getD undef = .pointer (some ⟨f,0,none⟩):=by simpa [Act.eval] using e19
   rw [hunf,hanc 12 (by kernel_rfl),if_neg (by decide),if_pos rfl] at hR
   obtain ⟨hR1,hR2⟩:=hR
   obtain ⟨a7,c7,e18,ho7⟩:=hdep ⟨12,.data⟩ (by simp) rfl _ rfl
   have e18':a1.eval (.tmp 18) = .slice a7 (l.length + m) c7:=e18
   have hf7:w1.heap[f]? = some (.cells #[.slice a l.length cp,.int .i64 (size:Nat),.int .i64 (used:Nat),.bool false] 24 (0,0)):=hR1.trans HF.out
   obtain ⟨q1,_⟩:=Zac hf7
   obtain ⟨q2,_⟩:=Zaf hf7
   refine Zch (w':=w1.setCell ⟨f,0,none⟩ (.slice a7 (l.length + m) c7)) (by simp only [execOp,e19,e18'];rw [Sem.run_bind,Zabi _ _ _ _ _ _ q1 q2];rfl) ⟨undef,rfl,?_,fun j u hu hV _=>⟨Zkd (fun e=>by subst e;cases (show true = false from hu.symm.trans (by kernel_rfl))) (fun e=>by subst e;cases (show true = false from hu.symm.trans (by kernel_rfl))) hV,trivial,trivial⟩,trivial⟩
   rw [Zag hil,if_pos rfl]
   exact ⟨a7,c7,Zao hf7,ho7.other (fun g hg=>by
    show f ≠ g
    rcases ho7.form with ⟨h,_⟩ | ⟨g2,h,hb,_⟩
    ·rw [h] at hg;cases hg
    ·rw [h] at hg;cases hg;omega) _,hR2.setCell (p:=⟨f,0,none⟩) (.inl (.inl rfl)) _⟩
 ·intro listed fv w1 hR hall hV
  rw [if_pos (hall 14 (by decide))] at hR
  obtain ⟨a7,c7,h1,h2,h3⟩:=hR
  simp only [spread,List.contains_cons,List.contains_nil,Nat.reduceBEq,Bool.or_false,Bool.or_true,cond_true,cond_false,Nat.reduceAdd,Nat.zero_add]
  obtain ⟨p1,p2,p3,p4,p5,p6⟩:=Zac h1
  obtain ⟨z1,z2,z3,z4⟩:=Zaf h1
  obtain ⟨s2,hs2⟩:∃ s2,size + n = s2:=⟨_,rfl⟩
  have HS2:=Zh hs2
  have k1:wrap64 ((size:Int) + (n:Int)) = (s2:Int):=by rw [IntWalk.wrap64_in _ (by omega)];omega
  have k2:((size:Int) + (n:Int)) = (s2:Int):=by omega
  have k3:IntKind.i64.wrap (s2:Int) = (s2:Int):=IntWalk.i64_in _ (by omega)
  have k4:wrap64 (s2:Int) = (s2:Int):=IntWalk.wrap64_in _ (by omega)
  have H1:=Zh (Zxh (v:=.int .i64 (s2:Nat)) h1).1
  clear hs2
  have H2:=Zh h2
  have H3:=Zh h3
  clear h1 h2 h3
  go_wp2_with fail
  go_end0
  have hlen:(l ++ List.replicate m c).length = l.length + m:=by rw [List.length_append,List.length_replicate]
  refine ⟨rfl,?_,H3.out.setCell (p:=⟨f,1,none⟩) (.inl (.inl rfl)) _⟩
  rw [HMX.out,HM.out,HS2.out]
  refine ⟨a7,c7,by rw [hlen];exact H1.out,H2.out.other (fun g hg=>?_) _⟩
  show f ≠ g
  rcases H2.out.form with ⟨h,_⟩ | ⟨g2,h,hb,_⟩
  ·rw [h] at hg;cases hg
  ·rw [h] at hg;cases hg;omega
end Go.Proofs.YtnkpnjnfddjfpaaGreat

namespace Go.Proofs.YtnkpnjnfddjfpaaGreat
open Go.RowKit Go.Shelf M01 M02 M27
theorem Zic (sf:List Nat) (keep n c:Nat):sf.take keep ++ List.replicate (min n (keep - sf.length)) c = (sf ++ List.replicate n c).take keep:=by
 rw [List.take_append,List.take_replicate,Nat.min_comm]
theorem Zge:∀ (l:List Nat) (p run:Nat),(∀ x ∈ l,x < 256) -> (sayL l p run).length <= 255 * l.length
 | [],_,_,_=>by simp [sayL]
 | c :: r,p,run,h=>by
  have hc:=h c (List.mem_cons_self ..)
  have h2:∀ x ∈ r,x < 256:=fun x hx=>h x (List.mem_cons_of_mem _ hx)
  unfold sayL
  split
  ·have:=Zge r c 0 h2
   rw [List.length_append,List.length_replicate,List.length_cons]
   omega
  ·have:=Zge r c (if run = 0 \/ c = p then run + 1 else 1) h2
   rw [List.length_cons,List.length_cons]
   omega
def FlowV (w':World) (base:Nat) (l:List Nat) (size used:Nat) (wrong:Bool) (v:Value):Prop :=
 ∃ a c,v = .agg #[.slice a l.length c,.int .i64 (size:Nat),.int .i64 (used:Nat),.bool wrong] /\ OwnN 5 .u8 w' base a c l
theorem set4 {w:World} {b:Nat} {x y z u v1 v2 v3 v4:Value} {t:TypeId} (h:w.heap[b]? = some (.cells #[x,y,z,u] t (0,0))) :
  ((((w.setCell ⟨b,0,none⟩ v1).setCell ⟨b,1,none⟩ v2).setCell ⟨b,2,none⟩ v3).setCell ⟨b,3,none⟩ v4).heap[b]? = some (.cells #[v1,v2,v3,v4] t (0,0)) :=
 Zao (i:=3) (x:=v4) (Zao (i:=2) (x:=v3) (Zao (i:=1) (x:=v2) (Zao (i:=0) (x:=v1) h)))
theorem Zeg {E:TypeId} {k:IntKind} {w:World} {base cap:Nat} {a:Option Addr} {l:List Nat} (h:OwnN E k w base a cap l) {b:Nat} (hb:b < base):∀ g,a = some ⟨g,0,none⟩ -> b ≠ g:=by
 intro g hg
 rcases h.form with ⟨h,_⟩ | ⟨g2,h,hb2,_⟩
 ·rw [h] at hg;cases hg
 ·rw [h] at hg;cases hg;omega
set_option maxRecDepth 100000 in
set_option maxHeartbeats 6400000 in
theorem Zra (w:World) (pa:Option Addr) (pcap:Nat) (p:List Nat) (keep:Nat) (hr:RowN .u8 w pa pcap p) (hl:p.length <= 1000000) (h256:∀ x ∈ p,x < 256) (hk:keep <= 1000000) :
  Calls Tryz.prog 21 #[.slice pa p.length pcap,.int .i64 (keep:Nat)] w fun e w'=>Below w.heap.size w w' /\ ∃ v,e = .returned (.tuple #[v,.int .i64 0]) /\ FlowV w' w.heap.size ((say p).take keep) (say p).length p.length false v:=by
 have HR:=Zh hr
 have H256:=Zh h256
 have t1:decide ((keep:Int) < 0) = false:=by simp
 clear hr h256
 go_enter Tryz.func21,Tryz.ntmps21
 go_wp2_with fail
 obtain ⟨z,hz⟩:∃ z,w.heap.size = z:=⟨_,rfl⟩
 have hb0:Below w.heap.size w (((w.alloc (.cells #[.int .i64 (keep:Nat)] 3)).alloc (.cells #[.slice none 0 0,.int .i64 0,.int .i64 0,.bool false] 24)).alloc (.cells #[.slice none 0 0,.int .i64 0,.int .i64 (p.length:Nat),.bool false] 24)):=((Zai w _).trans ((Zai _ _).mono (by simp))).trans ((Zai _ _).mono (by simp;omega))
 have h0:(((w.alloc (.cells #[.int .i64 (keep:Nat)] 3)).alloc (.cells #[.slice none 0 0,.int .i64 0,.int .i64 0,.bool false] 24)).alloc (.cells #[.slice none 0 0,.int .i64 0,.int .i64 (p.length:Nat),.bool false] 24)).heap[z]? = some (.cells #[.int .i64 (keep:Nat)] 3):=by
  rw [Below.heap_alloc _ _ _ (by simp;omega),Below.heap_alloc _ _ _ (by simp;omega),<- hz]
  exact World.alloc_heap_new w _
 have h1:(((w.alloc (.cells #[.int .i64 (keep:Nat)] 3)).alloc (.cells #[.slice none 0 0,.int .i64 0,.int .i64 0,.bool false] 24)).alloc (.cells #[.slice none 0 0,.int .i64 0,.int .i64 (p.length:Nat),.bool false] 24)).heap[z + 1]? = some (.cells #[.slice none 0 0,.int .i64 0,.int .i64 0,.bool false] 24):=by
  rw [Below.heap_alloc _ _ _ (by simp;omega)]
  have:=World.alloc_heap_new (w.alloc (.cells #[.int .i64 (keep:Nat)] 3)) (.cells #[.slice none 0 0,.int .i64 0,.int .i64 0,.bool false] 24)
  rwa [show (w.alloc (.cells #[.int .i64 (keep:Nat)] 3)).heap.size = z + 1 by simp [hz]] at this
 have h2:(((w.alloc (.cells #[.int .i64 (keep:Nat)] 3)).alloc (.cells #[.slice none 0 0,.int .i64 0,.int .i64 0,.bool false] 24)).alloc (.cells #[.slice none 0 0,.int .i64 0,.int .i64 (p.length:Nat),.bool false] 24)).heap[z + 2]? = some (.cells #[.slice none 0 0,.int .i64 0,.int .i64 (p.length:Nat),.bool false] 24):=by
  have:=World.alloc_heap_new ((w.alloc (.cells #[.int .i64 (keep:Nat)] 3)).alloc (.cells #[.slice none 0 0,.int .i64 0,.int .i64 0,.bool false] 24)) (.cells #[.slice none 0 0,.int .i64 0,.int .i64 (p.length:Nat),.bool false] 24)
  rwa [show ((w.alloc (.cells #[.int .i64 (keep:Nat)] 3)).alloc (.cells #[.slice none 0 0,.int .i64 0,.int .i64 0,.bool false] 24)).heap.size = z + 2 by simp [hz]] at this
 have hs0:(((w.alloc (.cells #[.int .i64 (keep:Nat)] 3)).alloc (.cells #[.slice none 0 0,.int .i64 0,.int .i64 0,.bool false] 24)).alloc (.cells #[.slice none 0 0,.int .i64 0,.int .i64 (p.length:Nat),.bool false] 24)).heap.size = z + 3:=by simp [hz]
 generalize ((w.alloc (.cells #[.int .i64 (keep:Nat)] 3)).alloc (.cells #[.slice none 0 0,.int .i64 0,.int .i64 0,.bool false] 24)).alloc (.cells #[.slice none 0 0,.int .i64 0,.int .i64 (p.length:Nat),.bool false] 24) = W at *
 simp only [hz] at hb0 ⊢
 have HZ:=Zh hz
 have HB0:=Zh hb0
 have H0:=Zh h0
 have H1:=Zh h1
 have H2:=Zh h2
 clear hb0 h0 h1 h2 hz
 go_loopw [8,20] (fun rv iv A=>∃ (i run:Nat) (sf:List Nat) (a:Option Addr) (c:Nat),iv = .int .i64 (i:Nat) /\ rv = .int .i64 (run:Nat) /\ i <= p.length /\ run <= 4 /\ run <= i ∧
  A.heap[z]? = some (.cells #[.int .i64 (keep:Nat)] 3) /\ A.heap[z + 1]? = some (.cells #[.slice none 0 0,.int .i64 0,.int .i64 0,.bool false] 24) /\ A.heap[z + 2]? = some (.cells #[.slice a (sf.take keep).length c,.int .i64 (sf.length:Nat),.int .i64 (p.length:Nat),.bool false] 24 (0,0)) /\ OwnN 5 .u8 A (z + 3) a c (sf.take keep) /\ z + 3 <= A.heap.size /\ Below z w A /\ Hid (say p = sf ++ sayL (p.drop i) (p.getD (i - 1) 0) run) /\ sf.length <= 255 * i) (fun _ iv _=>p.length - (intOf iv).toNat)
 case atStart=>exact ⟨0,0,[],none,0,rfl,rfl,by omega,by omega,by omega,H0.out,H1.out,by simpa using H2.out,by simpa using OwnN.nil _ _ _ _,by omega,HB0.out,by
  unfold Hid say
  cases p with
  | nil=>rfl
  | cons x r=>simp [sayL],by simp⟩
 case round =>
  clear H0 H1 H2 HB0
  obtain ⟨i,run,sf,a,c,rfl,rfl,hi,hr4,hri,h0,h1,h2,how,hsz,hbw,HS,hsl⟩:=hrel
  have H0:=Zh h0
  have H1:=Zh h1
  have H2:=Zh h2
  have HW:=Zh how
  have HBW:=Zh hbw
  clear h0 h1 h2 how hbw
  by_cases hlt:i < p.length
  ·have t0:decide (i < p.length) = true:=decide_eq_true hlt
   have hrow:=HR.out.below (by rw [HZ.out];exact HBW.out)
   obtain ⟨sb,soff,rfl,hsb,hsc⟩:=hrow.at hlt
   have hc256:=H256.out _ (List.getElem_mem hlt)
   have hs1:=HS.out
   rw [Zjq hlt] at hs1
   have hgd:p.getD i 0 = p[i]:=Zbf hlt
   generalize hx:p[i] = x at *
   have HS1:=Zh hs1
   have HGD:=Zh hgd
   clear HS hs1 hgd hx
   unfold sayL at HS1
   have hlk:(sf.take keep).length <= 1000000000:=by rw [List.length_take];omega
   by_cases hr:run = 4
   ·subst hr
    rw [if_pos rfl] at HS1
    obtain ⟨j,rfl⟩:∃ j,i = j + 1:=⟨i - 1,by omega⟩
    obtain ⟨sb',soff',hb',_,hsp⟩:=hrow.at (i:=j) (by omega)
    simp only [Option.some.injEq,Addr.mk.injEq,and_true] at hb'
    obtain ⟨rfl,rfl⟩:=hb'
    rw [<- Zbf] at hsp
    simp only [Nat.add_sub_cancel] at HS1
    have u1:IntKind.i64.wrap (((j + 1:Nat):Int) - 1) = (j:Int):=by rw [IntWalk.i64_in _ (by omega)];omega
    have u2:(((j + 1:Nat):Int) - 1) = (j:Int):=by omega
    have u3:(j:Int) < (p.length:Int):=by omega
    have u4:IntKind.i64.wrap (x:Int) = (x:Int):=IntWalk.i64_in _ (by omega)
    generalize p.getD j 0 = pv at *
    have HP:=Zh (Zuu wr (z + 2) z (z + 3) keep pv x sf.length p.length (sf.take keep) a c H2.out HW.out H0.out hsz (by omega) (by omega) (by omega) (by omega) (by omega) hlk)
    have hsl2:(sf ++ List.replicate x pv).length = sf.length + x:=by rw [List.length_append,List.length_replicate]
    go_wp2_with fail
    refine HP.out.mono ?_
    rintro e w2 ⟨rfl,⟨a2,c2,hf2,ho2⟩,hon⟩
    rw [Zic] at hf2 ho2
    have HF2:=Zh hf2
    have HO2:=Zh ho2
    have HON:=Zh hon
    have hz2:=hon.size
    clear hf2 ho2 hon HP
    go_wp2
    go_roundw
    case rel=>exact ⟨j + 1 + 1,0,sf ++ List.replicate x pv,a2,c2,by go_num,rfl,by omega,by omega,by omega,Zad H0.out HON.out (by show ¬ (z = z + 2 \/ z + 3 <= z);omega),Zad H1.out HON.out (by show ¬ (z + 1 = z + 2 \/ z + 3 <= z + 1);omega),by rw [hsl2];exact HF2.out,HO2.out,by omega,Below.only HBW.out HON.out (by rw [HZ.out];exact Nat.le_refl _) (fun b hb=>by rcases hb with rfl | hb <;> omega),by unfold Hid;rw [HS1.out,List.append_assoc,Nat.add_sub_cancel,HGD.out],by rw [hsl2];omega⟩
    case measure=>simp [intOf];omega
   ·rw [if_neg hr] at HS1
    have v1:((run:Int) == 4) = false:=by simp;omega
    have hsl2:(sf ++ List.replicate 1 x).length = sf.length + 1:=by rw [List.length_append,List.length_replicate]
    have hrep:sf ++ List.replicate 1 x = sf ++ [x]:=rfl
    have HP:=Zh (Zuu wr (z + 2) z (z + 3) keep x 1 sf.length p.length (sf.take keep) a c H2.out HW.out H0.out hsz (by omega) (by omega) (by omega) (by omega) (by omega) hlk)
    by_cases hr0:run = 0
    ·subst hr0
     rw [if_pos (.inl rfl)] at HS1
     have v2:decide ((0:Int) < 0) = false:=by decide
     go_wp2_with fail
     refine HP.out.mono ?_
     rintro e w2 ⟨rfl,⟨a2,c2,hf2,ho2⟩,hon⟩
     rw [Zic] at hf2 ho2
     have HF2:=Zh hf2
     have HO2:=Zh ho2
     have HON:=Zh hon
     have hz2:=hon.size
     clear hf2 ho2 hon HP
     go_wp2
     go_roundw
     case rel=>exact ⟨i + 1,1,sf ++ List.replicate 1 x,a2,c2,by go_num,rfl,by omega,by omega,by omega,Zad H0.out HON.out (by show ¬ (z = z + 2 \/ z + 3 <= z);omega),Zad H1.out HON.out (by show ¬ (z + 1 = z + 2 \/ z + 3 <= z + 1);omega),by rw [hsl2];exact HF2.out,HO2.out,by omega,Below.only HBW.out HON.out (by rw [HZ.out];exact Nat.le_refl _) (fun b hb=>by rcases hb with rfl | hb <;> omega),by unfold Hid;rw [HS1.out,hrep,List.append_assoc,Nat.add_sub_cancel,HGD.out];rfl,by rw [hsl2];omega⟩
     case measure=>simp [intOf];omega
    ·obtain ⟨j,rfl⟩:∃ j,i = j + 1:=⟨i - 1,by omega⟩
     obtain ⟨sb',soff',hb',_,hsp⟩:=hrow.at (i:=j) (by omega)
     simp only [Option.some.injEq,Addr.mk.injEq,and_true] at hb'
     obtain ⟨rfl,rfl⟩:=hb'
     rw [<- Zbf] at hsp
     simp only [Nat.add_sub_cancel] at HS1
     have u1:IntKind.i64.wrap (((j + 1:Nat):Int) - 1) = (j:Int):=by rw [IntWalk.i64_in _ (by omega)];omega
     have u2:(((j + 1:Nat):Int) - 1) = (j:Int):=by omega
     have u3:(j:Int) < (p.length:Int):=by omega
     have v2:decide ((0:Int) < (run:Int)) = true:=by simp;omega
     generalize p.getD j 0 = pv at *
     by_cases hxp:x = pv
     ·rw [if_pos (.inr hxp)] at HS1
      have v3:((x:Int) == (pv:Int)) = true:=by simp [hxp]
      obtain ⟨run1,hrun1⟩:∃ run1,run + 1 = run1:=⟨_,rfl⟩
      have v4:IntKind.i64.wrap ((run:Int) + 1) = (run1:Int):=by rw [IntWalk.i64_in _ (by omega)];omega
      have v5:((run:Int) + 1) = (run1:Int):=by omega
      have hr1:run1 <= 4 /\ run1 <= j + 1 + 1:=by omega
      rw [hrun1] at HS1
      clear hxp hrun1
      go_wp2_with fail
      refine HP.out.mono ?_
      rintro e w2 ⟨rfl,⟨a2,c2,hf2,ho2⟩,hon⟩
      rw [Zic] at hf2 ho2
      have HF2:=Zh hf2
      have HO2:=Zh ho2
      have HON:=Zh hon
      have hz2:=hon.size
      clear hf2 ho2 hon HP
      go_wp2
      go_roundw
      case rel=>exact ⟨j + 1 + 1,run1,sf ++ List.replicate 1 x,a2,c2,by go_num,rfl,by omega,by omega,by omega,Zad H0.out HON.out (by show ¬ (z = z + 2 \/ z + 3 <= z);omega),Zad H1.out HON.out (by show ¬ (z + 1 = z + 2 \/ z + 3 <= z + 1);omega),by rw [hsl2];exact HF2.out,HO2.out,by omega,Below.only HBW.out HON.out (by rw [HZ.out];exact Nat.le_refl _) (fun b hb=>by rcases hb with rfl | hb <;> omega),by unfold Hid;rw [HS1.out,hrep,List.append_assoc,Nat.add_sub_cancel,HGD.out];rfl,by rw [hsl2];omega⟩
      case measure=>simp [intOf];omega
     ·rw [if_neg (by simp [hr0,hxp])] at HS1
      have v3:((x:Int) == (pv:Int)) = false:=by simp;omega
      clear hxp
      go_wp2_with fail
      refine HP.out.mono ?_
      rintro e w2 ⟨rfl,⟨a2,c2,hf2,ho2⟩,hon⟩
      rw [Zic] at hf2 ho2
      have HF2:=Zh hf2
      have HO2:=Zh ho2
      have HON:=Zh hon
      have hz2:=hon.size
      clear hf2 ho2 hon HP
      go_wp2
      go_roundw
      case rel=>exact ⟨j + 1 + 1,1,sf ++ List.replicate 1 x,a2,c2,by go_num,rfl,by omega,by omega,by omega,Zad H0.out HON.out (by show ¬ (z = z + 2 \/ z + 3 <= z);omega),Zad H1.out HON.out (by show ¬ (z + 1 = z + 2 \/ z + 3 <= z + 1);omega),by rw [hsl2];exact HF2.out,HO2.out,by omega,Below.only HBW.out HON.out (by rw [HZ.out];exact Nat.le_refl _) (fun b hb=>by rcases hb with rfl | hb <;> omega),by unfold Hid;rw [HS1.out,hrep,List.append_assoc,Nat.add_sub_cancel,HGD.out];rfl,by rw [hsl2];omega⟩
      case measure=>simp [intOf];omega
  ·obtain rfl:i = p.length:=by omega
   have hs1:say p = sf:=by rw [HS.out,List.drop_length];simp [sayL]
   have HS1:=Zh hs1
   clear HS hs1 hlt hi
   have HF:=Zh (set4 (v1:=.slice a (sf.take keep).length c) (v2:=.int .i64 (sf.length:Nat)) (v3:=.int .i64 (p.length:Nat)) (v4:=.bool false) H1.out)
   have HB4:=Zh ((((HBW.out.setCell (p:=⟨z + 1,0,none⟩) (by show z <= z + 1;omega) (.slice a (sf.take keep).length c)).setCell (p:=⟨z + 1,1,none⟩) (by show z <= z + 1;omega) (.int .i64 (sf.length:Nat))).setCell (p:=⟨z + 1,2,none⟩) (by show z <= z + 1;omega) (.int .i64 (p.length:Nat))).setCell (p:=⟨z + 1,3,none⟩) (by show z <= z + 1;omega) (.bool false))
   have HWn:=Zh ((((HW.out.other (p:=⟨z + 1,0,none⟩) (Zeg HW.out (by show z + 1 < z + 3;omega)) (.slice a (sf.take keep).length c)).other (p:=⟨z + 1,1,none⟩) (Zeg HW.out (by show z + 1 < z + 3;omega)) (.int .i64 (sf.length:Nat))).other (p:=⟨z + 1,2,none⟩) (Zeg HW.out (by show z + 1 < z + 3;omega)) (.int .i64 (p.length:Nat))).other (p:=⟨z + 1,3,none⟩) (Zeg HW.out (by show z + 1 < z + 3;omega)) (.bool false))
   obtain ⟨p1,p2,p3,p4,_,_⟩:=Zac H2.out
   obtain ⟨q1,q2,q3,q4,_,_⟩:=Zac H1.out
   obtain ⟨y1,y2,y3,y4⟩:=Zaf H1.out
   generalize hsk:(sf.take keep) = sk at *
   have HSK:=Zh hsk
   clear hsk
   go_wp2_with fail
   generalize (((wr.setCell ⟨z + 1,0,none⟩ (.slice a sk.length c)).setCell ⟨z + 1,1,none⟩ (.int .i64 (sf.length:Nat))).setCell ⟨z + 1,2,none⟩ (.int .i64 (p.length:Nat))).setCell ⟨z + 1,3,none⟩ (.bool false) = W2 at *
   obtain ⟨l1,l2,l3,l4,_,_⟩:=Zac HF.out
   refine bodyPost_ret (v:=.tuple #[.agg #[.slice a sk.length c,.int .i64 (sf.length:Nat),.int .i64 (p.length:Nat),.bool false],.int .i64 0]) (by simp [results,Tryz.results21,go_sem,l1,l2,l3,l4]) rfl ?_
   rw [HZ.out,HS1.out,HSK.out]
   exact ⟨HB4.out,_,rfl,a,c,rfl,HWn.out.mono (by omega)⟩
end Go.Proofs.YtnkpnjnfddjfpaaGreat

namespace Go.Proofs.YtnkpnjnfddjfpaaGreat
open Go.RowKit Go.Shelf M01 M02 M27 M10
theorem ldIs (p:Addr) (v:Value) (w:World) (h:w.cell? p = some v):(Instr.loadAt 36 (.pointer (some p))).run Tryz.prog w = .ok v w:=by
 simp [Instr.loadAt,Instr.sureAddr,loadVar,isAgg,run_underlying Tryz.underlying36,h,go_sem]
theorem ldTs (p:Addr) (v:Value) (w:World) (h:w.cell? p = some v):(Instr.loadAt 122 (.pointer (some p))).run Tryz.prog w = .ok v w:=by
 simp [Instr.loadAt,Instr.sureAddr,loadVar,isAgg,run_underlying Tryz.underlying122,h,go_sem]
theorem ldI1 (p:Addr) (v:Value) (w:World) (h:w.cell? p = some v):(Instr.loadAt 3 (.pointer (some p))).run Tryz.prog w = .ok v w:=by
 simp [Instr.loadAt,Instr.sureAddr,loadVar,isAgg,run_underlying Tryz.underlying3,h,go_sem]
theorem ldT1 (p:Addr) (v:Value) (w:World) (h:w.cell? p = some v):(Instr.loadAt 123 (.pointer (some p))).run Tryz.prog w = .ok v w:=by
 simp [Instr.loadAt,Instr.sureAddr,loadVar,isAgg,run_underlying Tryz.underlying123,h,go_sem]
theorem ldR1 (p:Addr) (v:Value) (w:World) (h:w.cell? p = some v):(Instr.loadAt 43 (.pointer (some p))).run Tryz.prog w = .ok v w:=by
 simp [Instr.loadAt,Instr.sureAddr,loadVar,isAgg,run_underlying Tryz.underlying43,h,go_sem]
theorem ixIs (b off k N c:Nat) (h:k < N) (w:World):(Instr.indexAt 36 (.slice (some ⟨b,off,none⟩) N c) (.int .i64 (k:Nat))).run Tryz.prog w = .ok (.pointer (some ⟨b,off + k,none⟩)) w:=by
 have hsz:(Tryz.prog.info? 3).map (·.size) = some 1:=by kernel_rfl
 cases h5:Tryz.prog.info? 3 with
 | none=>rw [h5] at hsz;cases hsz
 | some ie =>
  simp only [h5,Option.map_some,Option.some.injEq] at hsz
  simp [Instr.indexAt,run_underlying Tryz.underlying36,sizeOf,typeInfo,h5,hsz,asIntOf,go_sem,h,Addr.add]
theorem ixTs (b off k N c:Nat) (h:k < N) (w:World):(Instr.indexAt 122 (.slice (some ⟨b,off,none⟩) N c) (.int .i64 (k:Nat))).run Tryz.prog w = .ok (.pointer (some ⟨b,off + k,none⟩)) w:=by
 have hsz:(Tryz.prog.info? 123).map (·.size) = some 1:=by kernel_rfl
 cases h5:Tryz.prog.info? 123 with
 | none=>rw [h5] at hsz;cases hsz
 | some ie =>
  simp only [h5,Option.map_some,Option.some.injEq] at hsz
  simp [Instr.indexAt,run_underlying Tryz.underlying122,sizeOf,typeInfo,h5,hsz,asIntOf,go_sem,h,Addr.add]
theorem Zxm (n:Nat) (h:n <= 1700000):IntKind.i64.wrap (((n:Int) + 1) - 1) = (n:Int) /\ IntKind.i64.wrap (((n + 1:Nat):Int) - 1) = (n:Int) /\ wrap64 (n:Int) = (n:Int) /\ IntKind.i64.wrap (n:Int) = (n:Int) /\ (n:Int) < (n:Int) + 1 /\ (n:Int) < ((n + 1:Nat):Int) /\ n < n + 1 :=
 ⟨by rw [IntWalk.i64_in _ (by omega)];omega,by rw [IntWalk.i64_in _ (by omega)];omega,IntWalk.wrap64_in _ (by omega),IntWalk.i64_in _ (by omega),by omega,by omega,by omega⟩
theorem exT0 (x y:Value) (w:World):(Instr.extract (.tuple #[x,y]) 0).run Tryz.prog w = .ok x w:=rfl
theorem exT1 (x y:Value) (w:World):(Instr.extract (.tuple #[x,y]) 1).run Tryz.prog w = .ok y w:=rfl
theorem bsI (x:Int) (w:World):(Instr.buildSlice 36 1 #[(0,.int .i64 x)]).run Tryz.prog w = .ok (.slice (some ⟨w.heap.size,0,none⟩) 1 1) (w.alloc (.cells #[.int .i64 x] 3)):=by
 have hie:(Tryz.prog.info? 3).map (fun i=>(i.zero,i.size)) = some (some (.int .i64 0),1):=by kernel_rfl
 cases h5:Tryz.prog.info? 3 with
 | none=>rw [h5] at hie;cases hie
 | some ie =>
  simp only [h5,Option.map_some,Option.some.injEq,Prod.mk.injEq] at hie
  exact run_buildSlice w 36 3 1 _ _ ie (.int .i64 0) Tryz.underlying36 h5 hie.1 (by rw [hie.2];decide) (by rw [hie.2];decide) (by rw [hie.2];exact Great.fill_flat [Value.int .i64 x] _ (fun v hv=>by rw [List.mem_singleton.1 hv];rfl) (by simp))
theorem stIs (p:Addr) (a:Option Addr) (n c:Nat) (u:Value) (w:World) (h:w.cell? p = some u) (hf:w.frozen? p = false):(Instr.storeAt 36 (.pointer (some p)) (.slice a n c)).run Tryz.prog w = .ok () (w.setCell p (.slice a n c)):=by
 simp [Instr.storeAt,Instr.sureAddr,storeVar,isAgg,run_underlying Tryz.underlying36,h,hf,go_sem]
def encP:Enc Nat:={ sz:=1,cells:=fun p=>[.pointer (some ⟨p,0,none⟩)],len:=fun _=>rfl,one:=fun _ u hu=>by rw [List.mem_singleton.1 hu];rfl,pos:=by decide }
def nxtV (v0 v1 v2:Value) (i gp goi g cp cog p rp:Nat) (v9 v10 v11:Value) (n s B0:Nat) (out:List Nat) (j:Nat) (v:Value) (w:World):Prop :=
 match j with
 | 0=>v = v0
 | 1=>v = v1
 | 2=>v = v2
 | 3=>v = .int .i64 (i:Nat)
 | 4=>v = .pointer (some ⟨gp,goi,none⟩)
 | 5=>v = .int .i64 (g:Nat)
 | 6=>v = .pointer (some ⟨cp,cog,none⟩)
 | 7=>v = .pointer (some ⟨p,0,none⟩)
 | 8=>v = .pointer (some ⟨rp,0,none⟩)
 | 9=>v = v9
 | 10=>v = v10
 | 11=>v = v11
 | 12=>v = .int .i64 (s:Nat)
 | 13=>∃ b,v = .slice (some ⟨b,0,none⟩) 1 1 /\ RowN .i64 w (some ⟨b,0,none⟩) 1 [s]
 | 14=>∃ a7 c7,v = .slice a7 (n + 1) c7 /\ OwnN 3 .i64 w B0 a7 c7 (out ++ [s])
 | _=>True
section
variable {v0 v1 v2 v9 v10 v11 v : Value} {i gp goi g cp cog p rp n s B0 j : Nat} {out : List Nat} {w w' : World}
theorem Zqi (hb:Below w.heap.size w w') (h:nxtV v0 v1 v2 i gp goi g cp cog p rp v9 v10 v11 n s B0 out j v w):nxtV v0 v1 v2 i gp goi g cp cog p rp v9 v10 v11 n s B0 out j v w':=by
 unfold nxtV at *
 split at h
 all_goals try exact h
 ·obtain ⟨b,h1,h2⟩:=h;exact ⟨b,h1,h2.below hb⟩
 ·obtain ⟨a7,c7,h1,h2⟩:=h;exact ⟨a7,c7,h1,h2.below hb⟩
theorem Zes (h1:j ≠ 13) (h2:j ≠ 14) (h:nxtV v0 v1 v2 i gp goi g cp cog p rp v9 v10 v11 n s B0 out j v w):nxtV v0 v1 v2 i gp goi g cp cog p rp v9 v10 v11 n s B0 out j v w':=by
 unfold nxtV at *
 split at h
 all_goals first | exact h | exact absurd rfl h1 | exact absurd rfl h2
end
def NextOut (w:World) (rp sb B0:Nat) (bs out:List Nat) (R:Option (Nat × Nat)) (e:Ending) (w':World):Prop :=
 match R with
 | some (s,at2)=>e = .returned (.int .i64 (s:Nat)) /\ (∃ a7 c7,w'.heap[sb]? = some (.cells #[.slice a7 (out.length + 1) c7] 36 (0,0)) /\ OwnN 3 .i64 w' B0 a7 c7 (out ++ [s])) /\ RdM w' rp bs at2 /\ Only (fun b=>b = rp \/ b = sb \/ B0 <= b) w w'
 | none=>e = .panicked formP /\ Only (fun b=>b = rp) w w'
set_option maxRecDepth 100000 in
set_option maxHeartbeats 12800000 in
theorem Zwq (w:World) (sb gb cb rb rp B0 at_:Nat) (bs out group ps:List Nat) (tabs:List (List Nat)) (a ga ca:Option Addr) (c gc cc:Nat)
  (hs:w.heap[sb]? = some (.cells #[.slice a out.length c] 36 (0,0))) (ho:OwnN 3 .i64 w B0 a c out) (hol:out.length <= 1700000) (hig0:out.length / 50 <= group.length)
  (hg:w.heap[gb]? = some (.cells #[.slice ga group.length gc] 36 (0,0))) (hgr:RowN .i64 w ga gc group) (hgl:∀ x ∈ group,x < ps.length)
  (hc:w.heap[cb]? = some (.cells #[.slice ca ps.length cc] 122 (0,0))) (hcr:RowS encP w ca cc ps) (hpl:ps.length = tabs.length)
  (hT:∀ k (hk:k < ps.length),∃ lo hi,Tb lo hi w ps[k] (tabs.getD k []) /\ rp < lo) (h20:∀ l ∈ tabs,∀ x ∈ l,x <= 20)
  (hr:w.heap[rb]? = some (.cells #[.pointer (some ⟨rp,0,none⟩)] 43 (0,0))) (hrd:RdM w rp bs at_)
  (hsb:sb < B0) (hrp:rp < B0) (hB0:B0 <= w.heap.size) (hsr:rp < sb) :
  Calls Tryz.prog 80 #[.pointer (some ⟨sb,0,none⟩),.pointer (some ⟨gb,0,none⟩),.pointer (some ⟨cb,0,none⟩),.pointer (some ⟨rb,0,none⟩)] w (NextOut w rp sb B0 bs out (nextG (rv bs) tabs group out.length at_)):=by
 have QS:=Zh (cell_of_one hs)
 have QG:=Zh (cell_of_one hg)
 have QC:=Zh (cell_of_one hc)
 have QR:=Zh (cell_of_one hr)
 obtain ⟨i,hi⟩:∃ i,out.length / 50 = i:=⟨_,rfl⟩
 have hi2:(out.length:Int) / 50 = (i:Int):=by omega
 have qs:=QS.out
 have qg:=QG.out
 by_cases hig:i < group.length
 case neg =>
  have HN:Hid (nextG (rv bs) tabs group out.length at_ = none):=by unfold Hid nextG;rw [if_neg (by omega)]
  obtain rfl:i = group.length:=by omega
  rw [HN.out]
  have tne:((group.length:Int) == (group.length:Int)) = true:=by simp
  clear hs ho hg hgr hgl hc hcr hT h20 hr hrd HN hpl hi hig hig0
  go_enter Tryz.func80,Tryz.ntmps80
  go_wp2_with fail
  exact ⟨rfl,rfl,Only.refl _ _⟩
 have HN:Hid (nextG (rv bs) tabs group out.length at_ = sym (tabs.getD (group.getD i 0) []) (rv bs) at_):=by unfold Hid nextG;rw [hi,if_pos hig]
 rw [HN.out]
 obtain ⟨gp,go,rfl,_,hgi⟩:=hgr.at hig
 rw [<- Zbf hig] at hgi
 have hgx:group.getD i 0 < ps.length:=by rw [Zbf hig];exact hgl _ (List.getElem_mem hig)
 generalize group.getD i 0 = g at *
 obtain ⟨cp,co,rfl,_,hci⟩:=hcr.at hgx
 have hcp:w.cell? ⟨cp,co + g,none⟩ = some (.pointer (some ⟨ps[g],0,none⟩)):=by
  have:=hci 0 _ rfl
  simpa [encP] using this
 obtain ⟨lo,hi',hTb,hlo⟩:=hT g hgx
 have htb:tabs.getD g [] ∈ tabs:=by
  rw [List.getD_eq_getElem?_getD,List.getElem?_eq_getElem (by omega)]
  exact List.getElem_mem _
 have HGH:=Zh (Zjj w.drew lo hi' ps[g] rp (tabs.getD g []) bs at_ (h20 _ htb) hTb hrd (.inl hlo))
 have QI:=Zh hgi
 have QP:=Zh hcp
 generalize ps[g] = p at *
 generalize sym (tabs.getD g []) (rv bs) at_ = R at *
 have HI:=Zh hig
 have HG:=Zh hgx
 have HS:=Zh hs
 have HO:=Zh ho
 have HN1:=Zh (show out.length + 1 <= 9223372036854775807 by omega)
 have HN2:=Zh (show (out.length + 1) * 8 <= 140737488355328 by omega)
 have HIX:=Zh (Zxm out.length hol)
 have GA:Hid True:=trivial
 have CA:Hid True:=trivial
 have tne:((i:Int) == (group.length:Int)) = false:=by simp;omega
 clear hs ho hg hgr hgl hc hcr hT h20 hr hrd hgi hcp hci hTb htb HN hpl hi hlo
 rcases R with _ | ⟨s,at2⟩
 ·go_enter Tryz.func80,Tryz.ntmps80
  go_wp2_with fail
  refine Zbh [14,15,16,17,18,19,20,21,22,23,24,25,26,27,28] (fun j=>false) (fun listed w1=>(if listed.getD 9 false = true then (Only (fun b=>b = rp) w w1 /\ True) else w1 = w.drew) /\ listed.getD 12 false = false) (nxtV (.slice a out.length c) (.slice (some ⟨cp,co,none⟩) ps.length cc) (.slice (some ⟨gp,go,none⟩) group.length gc) i gp (go + i) g cp (co + g) p rp (.tuple #[.int .i64 0,.int .i64 2]) (.int .i64 0) (.int .i64 2) out.length 0 B0 out) (fun _ _ _ _=>True) (by kernel_rfl) (by kernel_rfl) (OneEach.mk' (by kernel_rfl) (by kernel_rfl)) (by kernel_rfl) (by kernel_rfl) ⟨by simp,by simp⟩ ?_ ?_
  ·intro i0 o hi0 listed a1 w1 hR hil hunf hdes hanc hout hdf hdep
   have hsz:i0 < 16:=(Array.getElem?_eq_some_iff.1 hi0).1
   have hall:i0 = 0 \/ i0 = 1 \/ i0 = 2 \/ i0 = 3 \/ i0 = 4 \/ i0 = 5 \/ i0 = 6 \/ i0 = 7 \/ i0 = 8 \/ i0 = 9 \/ i0 = 10 \/ i0 = 11 \/ i0 = 12 \/ i0 = 13 \/ i0 = 14 \/ i0 = 15:=by omega
   clear hsz
   rcases hall with rfl | rfl | rfl | rfl | rfl | rfl | rfl | rfl | rfl | rfl | rfl | rfl | rfl | rfl | rfl | rfl <;> simp only [List.getElem?_toArray,List.getElem?_cons_zero,List.getElem?_cons_succ,Option.some.injEq] at hi0 <;> subst hi0
   ·have f0:a1.eval (.tmp 0) = .pointer (some ⟨sb,0,none⟩):=hout 0 (by decide)
    have hq:w1.cell? ⟨sb,0,none⟩ = some (.slice a out.length c):=by
     replace hR:=hR.1
     by_cases h9:listed.getD 9 false = true
     ·rw [if_pos h9] at hR;exact Zbp (A:=w) QS.out hR.1 (by show sb ≠ rp;omega)
     ·rw [if_neg h9] at hR
      subst hR
      exact QS.out
    refine Zab (v:=.slice a out.length c) (w':=w1) (by simp only [execOp,f0,Sem.run_bind,ldIs _ _ _ hq];rfl) ⟨_,rfl,?_,fun j u hu hV _=>⟨hV,trivial,trivial⟩,rfl⟩
    rw [Zaa (by decide),Zaa (by decide)];exact hR
   ·have f2:a1.eval (.tmp 2) = .pointer (some ⟨cb,0,none⟩):=hout 2 (by decide)
    have h12:=hR.2
    replace hR:=hR.1
    rw [hdes 9 (by kernel_rfl),if_neg (by decide)] at hR
    subst hR
    refine Zab (v:=.slice (some ⟨cp,co,none⟩) ps.length cc) (w':=w.drew) (by simp only [execOp,f2,Sem.run_bind,ldTs _ _ w.drew QC.out];rfl) ⟨_,rfl,?_,fun j u hu hV _=>⟨hV,trivial,trivial⟩,rfl⟩
    refine ⟨?_,by rw [Zaa (by decide)];exact h12⟩
    rw [Zaa (by decide),hdes 9 (by kernel_rfl),if_neg (by decide)]
   ·have f1:a1.eval (.tmp 1) = .pointer (some ⟨gb,0,none⟩):=hout 1 (by decide)
    have h12:=hR.2
    replace hR:=hR.1
    rw [hdes 9 (by kernel_rfl),if_neg (by decide)] at hR
    subst hR
    refine Zab (v:=.slice (some ⟨gp,go,none⟩) group.length gc) (w':=w.drew) (by simp only [execOp,f1,Sem.run_bind,ldIs _ _ w.drew QG.out];rfl) ⟨_,rfl,?_,fun j u hu hV _=>⟨hV,trivial,trivial⟩,rfl⟩
    refine ⟨?_,by rw [Zaa (by decide)];exact h12⟩
    rw [Zaa (by decide),hdes 9 (by kernel_rfl),if_neg (by decide)]
   ·have f5:a1.eval (.tmp 5) = .int .i64 (i:Nat):=hout 5 (by decide)
    refine Zab (v:=.int .i64 (i:Nat)) (w':=w1) (by simp [execOp,f5]) ⟨_,rfl,?_,fun j u hu hV _=>⟨hV,trivial,trivial⟩,rfl⟩
    rw [Zaa (by decide),Zaa (by decide)];exact hR
   ·have e16:a1.eval (.tmp 16) = .slice (some ⟨gp,go,none⟩) group.length gc:=hdep ⟨2,.data⟩ (by simp) rfl _ rfl
    have x16:a1.tmps[16]?.getD undef = .slice (some ⟨gp,go,none⟩) group.length gc:=by simpa [Act.eval] using e16
    have e17:a1.eval (.tmp 17) = .int .i64 (i:Nat):=hdep ⟨3,.data⟩ (by simp) rfl _ rfl
    have x17:a1.tmps[17]?.getD undef = .int .i64 (i:Nat):=by simpa [Act.eval] using e17
    refine Zab (v:=.pointer (some ⟨gp,go + i,none⟩)) (w':=w1) (by simp [execOp,e16,e17,ixIs gp go i _ _ HI.out]) ⟨_,rfl,?_,fun j u hu hV _=>⟨hV,trivial,trivial⟩,rfl⟩
    rw [Zaa (by decide),Zaa (by decide)];exact hR
   ·have e18:a1.eval (.tmp 18) = .pointer (some ⟨gp,go + i,none⟩):=hdep ⟨4,.data⟩ (by simp) rfl _ rfl
    have x18:a1.tmps[18]?.getD undef = .pointer (some ⟨gp,go + i,none⟩):=by simpa [Act.eval] using e18
    have h12:=hR.2
    replace hR:=hR.1
    rw [hdes 9 (by kernel_rfl),if_neg (by decide)] at hR
    subst hR
    refine Zab (v:=.int .i64 (g:Nat)) (w':=w.drew) (by simp only [execOp,e18,Sem.run_bind,ldI1 _ _ w.drew QI.out];rfl) ⟨_,rfl,?_,fun j u hu hV _=>⟨hV,trivial,trivial⟩,rfl⟩
    refine ⟨?_,by rw [Zaa (by decide)];exact h12⟩
    rw [Zaa (by decide),hdes 9 (by kernel_rfl),if_neg (by decide)]
   ·have e15:a1.eval (.tmp 15) = .slice (some ⟨cp,co,none⟩) ps.length cc:=hdep ⟨1,.data⟩ (by simp) rfl _ rfl
    have x15:a1.tmps[15]?.getD undef = .slice (some ⟨cp,co,none⟩) ps.length cc:=by simpa [Act.eval] using e15
    have e19:a1.eval (.tmp 19) = .int .i64 (g:Nat):=hdep ⟨5,.data⟩ (by simp) rfl _ rfl
    have x19:a1.tmps[19]?.getD undef = .int .i64 (g:Nat):=by simpa [Act.eval] using e19
    refine Zab (v:=.pointer (some ⟨cp,co + g,none⟩)) (w':=w1) (by simp [execOp,e15,e19,ixTs cp co g _ _ HG.out]) ⟨_,rfl,?_,fun j u hu hV _=>⟨hV,trivial,trivial⟩,rfl⟩
    rw [Zaa (by decide),Zaa (by decide)];exact hR
   ·have e20:a1.eval (.tmp 20) = .pointer (some ⟨cp,co + g,none⟩):=hdep ⟨6,.data⟩ (by simp) rfl _ rfl
    have x20:a1.tmps[20]?.getD undef = .pointer (some ⟨cp,co + g,none⟩):=by simpa [Act.eval] using e20
    have h12:=hR.2
    replace hR:=hR.1
    rw [hdes 9 (by kernel_rfl),if_neg (by decide)] at hR
    subst hR
    refine Zab (v:=.pointer (some ⟨p,0,none⟩)) (w':=w.drew) (by simp only [execOp,e20,Sem.run_bind,ldT1 _ _ w.drew QP.out];rfl) ⟨_,rfl,?_,fun j u hu hV _=>⟨hV,trivial,trivial⟩,rfl⟩
    refine ⟨?_,by rw [Zaa (by decide)];exact h12⟩
    rw [Zaa (by decide),hdes 9 (by kernel_rfl),if_neg (by decide)]
   ·have f3:a1.eval (.tmp 3) = .pointer (some ⟨rb,0,none⟩):=hout 3 (by decide)
    have h12:=hR.2
    replace hR:=hR.1
    rw [hdes 9 (by kernel_rfl),if_neg (by decide)] at hR
    subst hR
    refine Zab (v:=.pointer (some ⟨rp,0,none⟩)) (w':=w.drew) (by simp only [execOp,f3,Sem.run_bind,ldR1 _ _ w.drew QR.out];rfl) ⟨_,rfl,?_,fun j u hu hV _=>⟨hV,trivial,trivial⟩,rfl⟩
    refine ⟨?_,by rw [Zaa (by decide)];exact h12⟩
    rw [Zaa (by decide),hdes 9 (by kernel_rfl),if_neg (by decide)]
   ·have e21:a1.eval (.tmp 21) = .pointer (some ⟨p,0,none⟩):=hdep ⟨7,.data⟩ (by simp) rfl _ rfl
    have x21:a1.tmps[21]?.getD undef = .pointer (some ⟨p,0,none⟩):=by simpa [Act.eval] using e21
    have e22:a1.eval (.tmp 22) = .pointer (some ⟨rp,0,none⟩):=hdep ⟨8,.data⟩ (by simp) rfl _ rfl
    have x22:a1.tmps[22]?.getD undef = .pointer (some ⟨rp,0,none⟩):=by simpa [Act.eval] using e22
    have h12:=hR.2
    replace hR:=hR.1
    rw [hunf,if_neg (by decide)] at hR
    subst hR
    refine Zap (f:=82) (args:=#[.pointer (some ⟨p,0,none⟩),.pointer (some ⟨rp,0,none⟩)]) (by simp [x21,x22,go_sem]) ((HGH.out).mono ?_)
    rintro e w6 ⟨hon,hee⟩
    obtain rfl:e = _:=hee
    have hon':Only (fun b=>b = rp) w w6:=((Only.refl _ w).drew).trans hon
    refine ⟨_,rfl,_,rfl,?_,fun j u hu hV _=>⟨Zes (fun e=>by subst e;cases (show true = false from hu.symm.trans (by kernel_rfl))) (fun e=>by subst e;cases (show true = false from hu.symm.trans (by kernel_rfl))) hV,trivial,trivial⟩,rfl⟩
    refine ⟨?_,by rw [Zaa (by decide)];exact h12⟩
    rw [Zag hil,if_pos rfl];exact ⟨hon',trivial⟩
   ·have e23:a1.eval (.tmp 23) = .tuple #[.int .i64 0,.int .i64 2]:=hdep ⟨9,.data⟩ (by simp) rfl _ rfl
    refine Zab (v:=.int .i64 0) (w':=w1) (by simp [execOp,e23,exT0]) ⟨_,rfl,?_,fun j u hu hV _=>⟨hV,trivial,trivial⟩,rfl⟩
    rw [Zaa (by decide),Zaa (by decide)];exact hR
   ·have e23:a1.eval (.tmp 23) = .tuple #[.int .i64 0,.int .i64 2]:=hdep ⟨9,.data⟩ (by simp) rfl _ rfl
    refine Zab (v:=.int .i64 2) (w':=w1) (by simp [execOp,e23,exT1]) ⟨_,rfl,?_,fun j u hu hV _=>⟨hV,trivial,trivial⟩,rfl⟩
    rw [Zaa (by decide),Zaa (by decide)];exact hR
   ·have h12:=hR.2
    replace hR:=hR.1
    rw [hanc 9 (by kernel_rfl),if_pos rfl] at hR
    have e24:a1.eval (.tmp 24) = .int .i64 0:=hdep ⟨10,.data⟩ (by simp) rfl _ rfl
    have e25:a1.eval (.tmp 25) = .int .i64 2:=hdep ⟨11,.data⟩ (by simp) rfl _ rfl
    have x24:a1.tmps[24]?.getD undef = .int .i64 0:=by simpa [Act.eval] using e24
    have x25:a1.tmps[25]?.getD undef = .int .i64 2:=by simpa [Act.eval] using e25
    refine Zco (ch:=formP) (f:=81) (args:=#[.int .i64 0,.int .i64 2]) (by simp [x24,x25,go_sem]) ((Zsc _ 2 (by decide) w1).mono ?_)
    rintro e w6 ⟨rfl,rfl⟩
    refine ⟨rfl,hdf,?_⟩
    exact ⟨rfl,hR.1⟩
   ·have h12:=hR.2
    rw [hanc 12 (by kernel_rfl)] at h12
    cases h12
   ·have h12:=hR.2
    rw [hanc 12 (by kernel_rfl)] at h12
    cases h12
   ·have h12:=hR.2
    rw [hanc 12 (by kernel_rfl)] at h12
    cases h12
  ·intro listed fv w1 hR hall hV
   have h12:=hall 12 (by decide)
   rw [hR.2] at h12
   cases h12
 ·go_enter Tryz.func80,Tryz.ntmps80
  go_wp2_with fail
  refine Zeo [14,15,16,17,18,19,20,21,22,23,24,25,26,27,28] (fun j=>false) (fun listed w1=>if listed.getD 15 false = true then (∃ a7 c7,w1.heap[sb]? = some (.cells #[.slice a7 (out.length + 1) c7] 36 (0,0)) /\ OwnN 3 .i64 w1 B0 a7 c7 (out ++ [s]) /\ RdM w1 rp bs at2 /\ Only (fun b=>b = rp \/ b = sb \/ B0 <= b) w w1) else if listed.getD 14 false = true then (w1.heap[sb]? = w.heap[sb]? /\ RdM w1 rp bs at2 /\ Only (fun b=>b = rp \/ b = sb \/ B0 <= b) w w1) else if listed.getD 9 false = true then (Only (fun b=>b = rp) w w1 /\ RdM w1 rp bs at2) else w1 = w.drew) (nxtV (.slice a out.length c) (.slice (some ⟨cp,co,none⟩) ps.length cc) (.slice (some ⟨gp,go,none⟩) group.length gc) i gp (go + i) g cp (co + g) p rp (.tuple #[.int .i64 (s:Nat),.int .i64 0]) (.int .i64 (s:Nat)) (.int .i64 0) out.length s B0 out) (fun _ _ _ _=>True) (by kernel_rfl) (by kernel_rfl) (OneEach.mk' (by kernel_rfl) (by kernel_rfl)) (by kernel_rfl) (by kernel_rfl) (by simp) ?_ ?_
  ·intro i0 o hi0 listed a1 w1 hR hil hunf hdes hanc hout hdep
   have hsz:i0 < 16:=(Array.getElem?_eq_some_iff.1 hi0).1
   have hall:i0 = 0 \/ i0 = 1 \/ i0 = 2 \/ i0 = 3 \/ i0 = 4 \/ i0 = 5 \/ i0 = 6 \/ i0 = 7 \/ i0 = 8 \/ i0 = 9 \/ i0 = 10 \/ i0 = 11 \/ i0 = 12 \/ i0 = 13 \/ i0 = 14 \/ i0 = 15:=by omega
   clear hsz
   rcases hall with rfl | rfl | rfl | rfl | rfl | rfl | rfl | rfl | rfl | rfl | rfl | rfl | rfl | rfl | rfl | rfl <;> simp only [List.getElem?_toArray,List.getElem?_cons_zero,List.getElem?_cons_succ,Option.some.injEq] at hi0 <;> subst hi0
   ·have f0:a1.eval (.tmp 0) = .pointer (some ⟨sb,0,none⟩):=hout 0 (by decide)
    have hq:w1.cell? ⟨sb,0,none⟩ = some (.slice a out.length c):=by
     rw [hdes 15 (by kernel_rfl),hdes 14 (by kernel_rfl),if_neg (by decide),if_neg (by decide)] at hR
     by_cases h9:listed.getD 9 false = true
     ·rw [if_pos h9] at hR;exact Zbp (A:=w) QS.out hR.1 (by show sb ≠ rp;omega)
     ·rw [if_neg h9] at hR
      subst hR
      exact QS.out
    refine Zab (v:=.slice a out.length c) (w':=w1) (by simp only [execOp,f0,Sem.run_bind,ldIs _ _ _ hq];rfl) ⟨_,rfl,?_,fun j u hu hV _=>⟨hV,trivial,trivial⟩,rfl⟩
    rw [Zaa (by decide),Zaa (by decide),Zaa (by decide)];exact hR
   ·have f2:a1.eval (.tmp 2) = .pointer (some ⟨cb,0,none⟩):=hout 2 (by decide)
    rw [hdes 15 (by kernel_rfl),hdes 14 (by kernel_rfl),hdes 9 (by kernel_rfl),if_neg (by decide),if_neg (by decide),if_neg (by decide)] at hR
    subst hR
    refine Zab (v:=.slice (some ⟨cp,co,none⟩) ps.length cc) (w':=w.drew) (by simp only [execOp,f2,Sem.run_bind,ldTs _ _ w.drew QC.out];rfl) ⟨_,rfl,?_,fun j u hu hV _=>⟨hV,trivial,trivial⟩,rfl⟩
    rw [Zaa (by decide),Zaa (by decide),Zaa (by decide),hdes 15 (by kernel_rfl),hdes 14 (by kernel_rfl),hdes 9 (by kernel_rfl),if_neg (by decide),if_neg (by decide),if_neg (by decide)]
   ·have f1:a1.eval (.tmp 1) = .pointer (some ⟨gb,0,none⟩):=hout 1 (by decide)
    rw [hdes 15 (by kernel_rfl),hdes 14 (by kernel_rfl),hdes 9 (by kernel_rfl),if_neg (by decide),if_neg (by decide),if_neg (by decide)] at hR
    subst hR
    refine Zab (v:=.slice (some ⟨gp,go,none⟩) group.length gc) (w':=w.drew) (by simp only [execOp,f1,Sem.run_bind,ldIs _ _ w.drew QG.out];rfl) ⟨_,rfl,?_,fun j u hu hV _=>⟨hV,trivial,trivial⟩,rfl⟩
    rw [Zaa (by decide),Zaa (by decide),Zaa (by decide),hdes 15 (by kernel_rfl),hdes 14 (by kernel_rfl),hdes 9 (by kernel_rfl),if_neg (by decide),if_neg (by decide),if_neg (by decide)]
   ·have f5:a1.eval (.tmp 5) = .int .i64 (i:Nat):=hout 5 (by decide)
    refine Zab (v:=.int .i64 (i:Nat)) (w':=w1) (by simp [execOp,f5]) ⟨_,rfl,?_,fun j u hu hV _=>⟨hV,trivial,trivial⟩,rfl⟩
    rw [Zaa (by decide),Zaa (by decide),Zaa (by decide)];exact hR
   ·have e16:a1.eval (.tmp 16) = .slice (some ⟨gp,go,none⟩) group.length gc:=hdep ⟨2,.data⟩ (by simp) rfl _ rfl
    have x16:a1.tmps[16]?.getD undef = .slice (some ⟨gp,go,none⟩) group.length gc:=by simpa [Act.eval] using e16
    have e17:a1.eval (.tmp 17) = .int .i64 (i:Nat):=hdep ⟨3,.data⟩ (by simp) rfl _ rfl
    have x17:a1.tmps[17]?.getD undef = .int .i64 (i:Nat):=by simpa [Act.eval] using e17
    refine Zab (v:=.pointer (some ⟨gp,go + i,none⟩)) (w':=w1) (by simp [execOp,e16,e17,ixIs gp go i _ _ HI.out]) ⟨_,rfl,?_,fun j u hu hV _=>⟨hV,trivial,trivial⟩,rfl⟩
    rw [Zaa (by decide),Zaa (by decide),Zaa (by decide)];exact hR
   ·have e18:a1.eval (.tmp 18) = .pointer (some ⟨gp,go + i,none⟩):=hdep ⟨4,.data⟩ (by simp) rfl _ rfl
    have x18:a1.tmps[18]?.getD undef = .pointer (some ⟨gp,go + i,none⟩):=by simpa [Act.eval] using e18
    rw [hdes 15 (by kernel_rfl),hdes 14 (by kernel_rfl),hdes 9 (by kernel_rfl),if_neg (by decide),if_neg (by decide),if_neg (by decide)] at hR
    subst hR
    refine Zab (v:=.int .i64 (g:Nat)) (w':=w.drew) (by simp only [execOp,e18,Sem.run_bind,ldI1 _ _ w.drew QI.out];rfl) ⟨_,rfl,?_,fun j u hu hV _=>⟨hV,trivial,trivial⟩,rfl⟩
    rw [Zaa (by decide),Zaa (by decide),Zaa (by decide),hdes 15 (by kernel_rfl),hdes 14 (by kernel_rfl),hdes 9 (by kernel_rfl),if_neg (by decide),if_neg (by decide),if_neg (by decide)]
   ·have e15:a1.eval (.tmp 15) = .slice (some ⟨cp,co,none⟩) ps.length cc:=hdep ⟨1,.data⟩ (by simp) rfl _ rfl
    have x15:a1.tmps[15]?.getD undef = .slice (some ⟨cp,co,none⟩) ps.length cc:=by simpa [Act.eval] using e15
    have e19:a1.eval (.tmp 19) = .int .i64 (g:Nat):=hdep ⟨5,.data⟩ (by simp) rfl _ rfl
    have x19:a1.tmps[19]?.getD undef = .int .i64 (g:Nat):=by simpa [Act.eval] using e19
    refine Zab (v:=.pointer (some ⟨cp,co + g,none⟩)) (w':=w1) (by simp [execOp,e15,e19,ixTs cp co g _ _ HG.out]) ⟨_,rfl,?_,fun j u hu hV _=>⟨hV,trivial,trivial⟩,rfl⟩
    rw [Zaa (by decide),Zaa (by decide),Zaa (by decide)];exact hR
   ·have e20:a1.eval (.tmp 20) = .pointer (some ⟨cp,co + g,none⟩):=hdep ⟨6,.data⟩ (by simp) rfl _ rfl
    have x20:a1.tmps[20]?.getD undef = .pointer (some ⟨cp,co + g,none⟩):=by simpa [Act.eval] using e20
    rw [hdes 15 (by kernel_rfl),hdes 14 (by kernel_rfl),hdes 9 (by kernel_rfl),if_neg (by decide),if_neg (by decide),if_neg (by decide)] at hR
    subst hR
    refine Zab (v:=.pointer (some ⟨p,0,none⟩)) (w':=w.drew) (by simp only [execOp,e20,Sem.run_bind,ldT1 _ _ w.drew QP.out];rfl) ⟨_,rfl,?_,fun j u hu hV _=>⟨hV,trivial,trivial⟩,rfl⟩
    rw [Zaa (by decide),Zaa (by decide),Zaa (by decide),hdes 15 (by kernel_rfl),hdes 14 (by kernel_rfl),hdes 9 (by kernel_rfl),if_neg (by decide),if_neg (by decide),if_neg (by decide)]
   ·have f3:a1.eval (.tmp 3) = .pointer (some ⟨rb,0,none⟩):=hout 3 (by decide)
    rw [hdes 15 (by kernel_rfl),hdes 14 (by kernel_rfl),hdes 9 (by kernel_rfl),if_neg (by decide),if_neg (by decide),if_neg (by decide)] at hR
    subst hR
    refine Zab (v:=.pointer (some ⟨rp,0,none⟩)) (w':=w.drew) (by simp only [execOp,f3,Sem.run_bind,ldR1 _ _ w.drew QR.out];rfl) ⟨_,rfl,?_,fun j u hu hV _=>⟨hV,trivial,trivial⟩,rfl⟩
    rw [Zaa (by decide),Zaa (by decide),Zaa (by decide),hdes 15 (by kernel_rfl),hdes 14 (by kernel_rfl),hdes 9 (by kernel_rfl),if_neg (by decide),if_neg (by decide),if_neg (by decide)]
   ·have e21:a1.eval (.tmp 21) = .pointer (some ⟨p,0,none⟩):=hdep ⟨7,.data⟩ (by simp) rfl _ rfl
    have x21:a1.tmps[21]?.getD undef = .pointer (some ⟨p,0,none⟩):=by simpa [Act.eval] using e21
    have e22:a1.eval (.tmp 22) = .pointer (some ⟨rp,0,none⟩):=hdep ⟨8,.data⟩ (by simp) rfl _ rfl
    have x22:a1.tmps[22]?.getD undef = .pointer (some ⟨rp,0,none⟩):=by simpa [Act.eval] using e22
    rw [hdes 15 (by kernel_rfl),hdes 14 (by kernel_rfl),hunf,if_neg (by decide),if_neg (by decide),if_neg (by decide)] at hR
    subst hR
    refine Zap (f:=82) (args:=#[.pointer (some ⟨p,0,none⟩),.pointer (some ⟨rp,0,none⟩)]) (by simp [x21,x22,go_sem]) ((HGH.out).mono ?_)
    rintro e w6 ⟨hon,rfl,hrd⟩
    have hon':Only (fun b=>b = rp) w w6:=((Only.refl _ w).drew).trans hon
    refine ⟨_,rfl,_,rfl,?_,fun j u hu hV _=>⟨Zes (fun e=>by subst e;cases (show true = false from hu.symm.trans (by kernel_rfl))) (fun e=>by subst e;cases (show true = false from hu.symm.trans (by kernel_rfl))) hV,trivial,trivial⟩,rfl⟩
    rw [Zaa (by decide),Zaa (by decide),Zag hil,hdes 15 (by kernel_rfl),hdes 14 (by kernel_rfl),if_neg (by decide),if_neg (by decide),if_pos rfl];exact ⟨hon',hrd⟩
   ·have e23:a1.eval (.tmp 23) = .tuple #[.int .i64 (s:Nat),.int .i64 0]:=hdep ⟨9,.data⟩ (by simp) rfl _ rfl
    refine Zab (v:=.int .i64 (s:Nat)) (w':=w1) (by simp [execOp,e23,exT0]) ⟨_,rfl,?_,fun j u hu hV _=>⟨hV,trivial,trivial⟩,rfl⟩
    rw [Zaa (by decide),Zaa (by decide),Zaa (by decide)];exact hR
   ·have e23:a1.eval (.tmp 23) = .tuple #[.int .i64 (s:Nat),.int .i64 0]:=hdep ⟨9,.data⟩ (by simp) rfl _ rfl
    refine Zab (v:=.int .i64 0) (w':=w1) (by simp [execOp,e23,exT1]) ⟨_,rfl,?_,fun j u hu hV _=>⟨hV,trivial,trivial⟩,rfl⟩
    rw [Zaa (by decide),Zaa (by decide),Zaa (by decide)];exact hR
   ·have e24:a1.eval (.tmp 24) = .int .i64 (s:Nat):=hdep ⟨10,.data⟩ (by simp) rfl _ rfl
    have x24:a1.tmps[24]?.getD undef = .int .i64 (s:Nat):=by simpa [Act.eval] using e24
    have e25:a1.eval (.tmp 25) = .int .i64 0:=hdep ⟨11,.data⟩ (by simp) rfl _ rfl
    have x25:a1.tmps[25]?.getD undef = .int .i64 0:=by simpa [Act.eval] using e25
    refine Zap (f:=81) (args:=#[.int .i64 (s:Nat),.int .i64 0]) (by simp [x24,x25,go_sem]) ((Zsd _ w1).mono ?_)
    rintro e w6 ⟨rfl,rfl⟩
    refine ⟨_,rfl,_,rfl,?_,fun j u hu hV _=>⟨hV,trivial,trivial⟩,rfl⟩
    rw [Zaa (by decide),Zaa (by decide),Zaa (by decide)];exact hR
   ·have e26:a1.eval (.tmp 26) = .int .i64 (s:Nat):=hdep ⟨12,.data⟩ (by simp) rfl _ rfl
    have x26:a1.tmps[26]?.getD undef = .int .i64 (s:Nat):=by simpa [Act.eval] using e26
    rw [hdes 15 (by kernel_rfl),hdes 14 (by kernel_rfl),hanc 9 (by kernel_rfl),if_neg (by decide),if_neg (by decide),if_pos rfl] at hR
    refine Zab (v:=.slice (some ⟨w1.heap.size,0,none⟩) 1 1) (w':=w1.alloc (.cells #[.int .i64 (s:Nat)] 3)) (by have hh:=bsI (s:Nat) w1;simp only [execOp];simp [e26,hh]) ⟨_,rfl,?_,fun j u hu hV _=>⟨Zqi (Zai w1 _) hV,trivial,trivial⟩,w1.heap.size,rfl,?_⟩
    ·rw [Zaa (by decide),Zaa (by decide),Zaa (by decide),hdes 15 (by kernel_rfl),hdes 14 (by kernel_rfl),hanc 9 (by kernel_rfl),if_neg (by decide),if_neg (by decide),if_pos rfl]
     exact ⟨hR.1.alloc _,hR.2.below (Zai w1 _)⟩
    ·exact Zmp .i64 w1 [s] 3 _ w1.heap.size rfl rfl (by simp)
   ·rw [hdes 15 (by kernel_rfl),hunf,hanc 9 (by kernel_rfl),if_neg (by decide),if_neg (by decide),if_pos rfl] at hR
    have e14:a1.eval (.tmp 14) = .slice a out.length c:=hdep ⟨0,.data⟩ (by simp) rfl _ rfl
    obtain ⟨lb,e27,hr6⟩:=hdep ⟨13,.data⟩ (by simp) rfl _ rfl
    have e27':a1.eval (.tmp 27) = .slice (some ⟨lb,0,none⟩) 1 1:=e27
    have how:OwnN 3 .i64 w1 B0 a c out:=HO.out.only hR.1 (fun b hb=>by show b ≠ rp;omega)
    obtain ⟨a7,c7,w7,ho7,hb7,hg7,happ⟩:=appEq (m:=1) Zax 36 how rfl (ys:=[s]) rfl hr6 HN1.out HN2.out (Nat.le_trans hB0 hR.1.size)
    refine Zab (v:=.slice a7 (out.length + 1) c7) (w':=w7) (by simp [execOp,resolve,invoke,builtin,e14,e27',happ,Result.andThen]) ⟨_,rfl,?_,fun j u hu hV _=>⟨Zes (fun e=>by subst e;cases (show true = false from hu.symm.trans (by kernel_rfl))) (fun e=>by subst e;cases (show true = false from hu.symm.trans (by kernel_rfl))) hV,trivial,trivial⟩,a7,c7,rfl,ho7⟩
    rw [Zaa (by decide),Zag hil,hdes 15 (by kernel_rfl),if_neg (by decide),if_pos rfl]
    refine ⟨(hb7.block sb hsb).trans (hR.1.block sb (by omega) (by show sb ≠ rp;omega)),hR.2.belowAt hb7 hrp,?_⟩
    exact ⟨hb7.os.trans hR.1.os,hb7.tape.trans hR.1.tape,hb7.output.trans hR.1.output,Nat.le_trans hR.1.size hb7.size,fun b hb ht=>(hb7.block b (by omega)).trans (hR.1.block b hb (by omega))⟩
   ·rw [hunf,hanc 14 (by kernel_rfl),if_neg (by decide),if_pos rfl] at hR
    obtain ⟨hR1,hR2,hR3⟩:=hR
    have f0:a1.eval (.tmp 0) = .pointer (some ⟨sb,0,none⟩):=hout 0 (by decide)
    obtain ⟨a7,c7,e28,ho7⟩:=hdep ⟨14,.data⟩ (by simp) rfl _ rfl
    have e28':a1.eval (.tmp 28) = .slice a7 (out.length + 1) c7:=e28
    have hf7:w1.heap[sb]? = some (.cells #[.slice a out.length c] 36 (0,0)):=hR1.trans HS.out
    refine Zch (w':=w1.setCell ⟨sb,0,none⟩ (.slice a7 (out.length + 1) c7)) (by simp only [execOp,f0,e28'];rw [Sem.run_bind,stIs _ _ _ _ _ _ (cell_of_one hf7) (Zan hf7)];rfl) ⟨undef,rfl,?_,fun j u hu hV _=>⟨Zes (fun e=>by subst e;cases (show true = false from hu.symm.trans (by kernel_rfl))) (fun e=>by subst e;cases (show true = false from hu.symm.trans (by kernel_rfl))) hV,trivial,trivial⟩,trivial⟩
    rw [Zag hil,if_pos rfl]
    exact ⟨a7,c7,one_setCell hf7,ho7.other (Zeg ho7 (by show sb < B0;omega)) _,hR2.only (T:=fun b=>b = sb) ((Only.refl (fun b=>b = sb) w1).setCell (p:=⟨sb,0,none⟩) (.inl rfl) _) (fun b hb=>by show b ≠ sb;omega),hR3.setCell (p:=⟨sb,0,none⟩) (.inl (.inr (.inl rfl))) _⟩
  ·intro listed fv w1 hR hall hV
   rw [if_pos (hall 15 (by decide))] at hR
   obtain ⟨a7,c7,h1,h2,h3,h4⟩:=hR
   simp only [spread,List.contains_cons,List.contains_nil,Nat.reduceBEq,Bool.or_false,Bool.or_true,cond_true,cond_false,Nat.reduceAdd,Nat.zero_add]
   have k1:=cell_of_one h1
   obtain ⟨og,rfl,_,_,k2,_⟩:=h2.at (i:=out.length) (by rw [List.length_append];exact Nat.lt_succ_self _)
   rw [List.getElem_append_right (Nat.le_refl _)] at k2
   simp only [Nat.sub_self,List.getElem_cons_zero] at k2
   obtain ⟨k3,k4,k5,k6,k7,k8,k9⟩:=HIX.out
   have H1:=Zh h1
   have H2:=Zh h2
   have H3:=Zh h3
   have H4:=Zh h4
   clear h1 h2 h3 h4 hall hV HIX HGH QS QG QC QR QI QP HI HG HS HO HN1 HN2 tne qs qg hi2 hol hB0 hgx hig hsb hrp hsr hig0 GA CA
   go_wp2_with fail
   go_ret
   exact ⟨rfl,⟨_,c7,H1.out,H2.out⟩,H3.out,H4.out⟩
end Go.Proofs.YtnkpnjnfddjfpaaGreat
