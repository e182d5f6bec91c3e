/- inflate.Inflate: the deferred closure: contracts. inflate.Inflate: contract. layer 10's laws: reads: contract; a flow in its cell; what Inflate answers, in two contracts. law18.EmitBack: the stream is read as the bytes that the tokens say. -/
import Derived.Test.YtendielanacflaaGreatB18
import Derived.Test.YtendielanacflaaGreatB01
import Derived.Test.YtendielanacflaaGreatB02
import Derived.Test.YtendielanacflaaGreatB05
import Derived.Laws.EntriesVeiled
import Derived.Lib.SlicesS
import Derived.BigQuiet
set_option linter.unusedVariables false
set_option linter.unusedSimpArgs false
namespace Go.Proofs.YtendielanacflaaGreat
open Go.RowKit Go.Shelf M01 M04 M09 M10
def FRes (q:Nat) (A:World) (x0 x1 x2 x3 z:Value):Prop:=A.heap[q]? = some (.cells #[x0,x1,x2,x3] 53 (0,0)) /\ A.heap[q + 1]? = some (.cells #[z] 25 (0,0))
def setF (q:Nat) (A:World) (x0 x1 x2 x3 z:Value):World:=((((A.setCell ⟨q,0,none⟩ x0).setCell ⟨q,1,none⟩ x1).setCell ⟨q,2,none⟩ x2).setCell ⟨q,3,none⟩ x3).setCell ⟨q + 1,0,none⟩ z
theorem Ztl {A:World} {b i:Nat} {cs:Array Value} {x:Value} {t:TypeId} (h:A.heap[b]? = some (.cells cs t (0,0))):(A.setCell ⟨b,i,none⟩ x).heap[b]? = some (.cells (cs.setIfInBounds i x) t (0,0)):=by
 show (A.heap.modify b _)[b]? = _
 rw [Array.getElem?_modify,if_pos rfl,h];rfl
theorem Ztm {A:World} {b:Nat} {y0 y1 y2 y3:Value} {t:TypeId} (h:A.heap[b]? = some (.cells #[y0,y1,y2,y3] t (0,0))) (x0 x1 x2 x3:Value) :
  ((((A.setCell ⟨b,0,none⟩ x0).setCell ⟨b,1,none⟩ x1).setCell ⟨b,2,none⟩ x2).setCell ⟨b,3,none⟩ x3).heap[b]? = some (.cells #[x0,x1,x2,x3] t (0,0)):=by
 have:=Ztl (i:=3) (x:=x3) (Ztl (i:=2) (x:=x2) (Ztl (i:=1) (x:=x1) (Ztl (i:=0) (x:=x0) h)))
 simpa using this
theorem FRes.set {q:Nat} {A:World} {y0 y1 y2 y3 y:Value} (h:FRes q A y0 y1 y2 y3 y) (x0 x1 x2 x3 z:Value):FRes q (setF q A x0 x1 x2 x3 z) x0 x1 x2 x3 z:=by
 obtain ⟨h1,h2⟩:=h
 unfold setF
 refine ⟨?_,?_⟩
 ·rw [Below.heap_setCell _ _ _ _ (by show q ≠ q + 1;omega)]
  exact Ztm h1 x0 x1 x2 x3
 ·refine Zjp (u:=y) ?_
  rw [Below.heap_setCell _ _ _ _ (by show q + 1 ≠ q;omega),Below.heap_setCell _ _ _ _ (by show q + 1 ≠ q;omega),Below.heap_setCell _ _ _ _ (by show q + 1 ≠ q;omega),Below.heap_setCell _ _ _ _ (by show q + 1 ≠ q;omega)]
  exact h2
theorem Zzq {T:Nat -> Prop} {q:Nat} {w A:World} (h:Only T w A) (hq:w.heap.size <= q) (x0 x1 x2 x3 z:Value):Only T w (setF q A x0 x1 x2 x3 z) :=
 ((((h.setCell (p:=⟨q,0,none⟩) (.inr hq) _).setCell (p:=⟨q,1,none⟩) (.inr hq) _).setCell (p:=⟨q,2,none⟩) (.inr hq) _).setCell (p:=⟨q,3,none⟩) (.inr hq) _).setCell (p:=⟨q + 1,0,none⟩) (.inr (by show w.heap.size <= q + 1;omega)) _
theorem Zup (p:Nat) (x0 x1 x2 x3 z:Value) (w:World) (h:FRes p w x0 x1 x2 x3 z) :
  CallsD Tryz.prog 51 #[.pointer (some ⟨p,0,none⟩),.pointer (some ⟨p + 1,0,none⟩)] (.panicking formP) w fun e u' w' =>
   e = .returned (.tuple #[]) /\ u' = .panicking [{ v:=.iface 25 (.int .i64 2),recovered:=true }] /\ w' = setF p w (.slice none 0 0) (.int .i64 0) (.int .i64 0) (.bool false) (.int .i64 2):=by
 unfold formP
 obtain ⟨h1,h2⟩:=h
 refine callsD_of_wpS Tryz.func51 rfl fun c₀ cs hu=>?_
 obtain ⟨f0,f1,f2,f3⟩:=Zis h1
 obtain ⟨c0,c1,c2,c3,_,_⟩:=Zba h1
 have g4:w.cell? ⟨p + 1,0,none⟩ = some z:=cell_of_one h2
 have f4:w.frozen? ⟨p + 1,0,none⟩ = false:=by simp [World.frozen?,h2]
 have te:=Zafl 2
 unfold setF
 apply wpS_seq
 apply wpS_region
 simp [wpOpsS,go_sem,recoverD,hu,te,Tryz.ntmps51,Exit.thenS]
 apply wpS_seq
 apply wpS_region
 simp [wpOpsS,go_sem,Exit.thenS]
 refine wpS_cond (t:=true) (by simp [Act.eval,Array.replicate]) ?_
 simp only [if_true]
 apply wpS_region
 simp [wpOpsS,go_sem,c0,c1,c2,c3,g4,f0,f1,f2,f3,f4,bodyPostS,results,Tryz.results51]
theorem Ziu (p q:Nat) (w:World) :
  CallsD Tryz.prog 51 #[.pointer (some ⟨p,0,none⟩),.pointer (some ⟨q,0,none⟩)] .returning w fun e u' w' =>
   e = .returned (.tuple #[]) /\ u' = .returning /\ w' = w:=by
 refine callsD_of_wpS Tryz.func51 rfl fun c₀ cs hu=>?_
 apply wpS_seq
 apply wpS_region
 have te:=Zafm
 simp [wpOpsS,go_sem,recoverD,hu,te,Tryz.ntmps51,Exit.thenS]
 apply wpS_seq
 apply wpS_region
 simp [wpOpsS,go_sem,Exit.thenS]
 refine wpS_cond (t:=false) (by simp [Act.eval,Array.replicate]) ?_
 simp only [Bool.false_eq_true,if_false]
 refine wpS_of_wp (wp_skip ?_)
 cases c₀
 simp_all [bodyPostS,results,Tryz.results51]
def InflOut (keep:Nat) (R:Option (Nat × List Nat)) (e:Ending) (w':World):Prop :=
 match R with
 | some (at2,o)=>∃ a c,e = .returned (.tuple #[.agg #[.slice a (o.take keep).length c,.int .i64 (o.length:Nat),.int .i64 ((at2 + 7) / 8:Nat),.bool false],.int .i64 0]) /\ RowN .u8 w' a c (o.take keep)
 | none=>e = .returned (.tuple #[.agg #[.slice none 0 0,.int .i64 0,.int .i64 0,.bool false],.int .i64 2])
def idefr (q:Nat):List Deferred:=[{ target:=Target.fn (Fn.func 51) #[.pointer (some ⟨q,0,none⟩),.pointer (some ⟨q + 1,0,none⟩)],args:=#[] }]
theorem Zxs {q:Nat} {A:World} {x0 x1 x2 x3 z:Value} {tmps:Array Value} {Rr:Ending -> World -> Prop} (h:FRes q A x0 x1 x2 x3 z) (t4:tmps.getD 4 undef = .pointer (some ⟨q,0,none⟩)) (t5:tmps.getD 5 undef = .pointer (some ⟨q + 1,0,none⟩))
  (hK:Rr (.returned (.tuple #[.agg #[x0,x1,x2,x3],z])) A):bodyPostD Tryz.prog Tryz.f24 Rr .ret { tmps:=tmps,defers:=idefr q } A:=by
 show Leaves _ _ _ _ (idefr q) .returning A
 unfold idefr
 refine leaves_cons (f:=51) (args:=#[.pointer (some ⟨q,0,none⟩),.pointer (some ⟨q + 1,0,none⟩)]) (by simp) (by simp [go_sem]) ?_
 refine (Ziu q (q + 1) A).mono ?_
 rintro e u' w'' ⟨rfl,rfl,rfl⟩
 obtain ⟨h1,h2⟩:=h
 obtain ⟨c0,c1,c2,c3,_,_⟩:=Zba h1
 have g4:=cell_of_one h2
 simp only [Leaves,settle]
 refine ⟨_,?_,hK⟩
 have s4:tmps[4]?.getD undef = .pointer (some ⟨q,0,none⟩):=by simpa using t4
 have s5:tmps[5]?.getD undef = .pointer (some ⟨q + 1,0,none⟩):=by simpa using t5
 simp [results,Tryz.results24,go_sem,s4,s5,c0,c1,c2,c3,g4]
theorem Zqs {q:Nat} {A:World} {x0 x1 x2 x3 z:Value} {tmps:Array Value} {Rr:Ending -> World -> Prop} (h:FRes q A x0 x1 x2 x3 z) (t4:tmps.getD 4 undef = .pointer (some ⟨q,0,none⟩)) (t5:tmps.getD 5 undef = .pointer (some ⟨q + 1,0,none⟩))
  (hK:Rr (.returned (.tuple #[.agg #[.slice none 0 0,.int .i64 0,.int .i64 0,.bool false],.int .i64 2])) (setF q A (.slice none 0 0) (.int .i64 0) (.int .i64 0) (.bool false) (.int .i64 2))):bodyPostD Tryz.prog Tryz.f24 Rr (.panic formP) { tmps:=tmps,defers:=idefr q } A:=by
 show Leaves _ _ _ _ (idefr q) (.panicking formP) A
 unfold idefr
 refine leaves_cons (f:=51) (args:=#[.pointer (some ⟨q,0,none⟩),.pointer (some ⟨q + 1,0,none⟩)]) (by simp) (by simp [go_sem]) ?_
 refine (Zup q x0 x1 x2 x3 z A h).mono ?_
 rintro e u' w'' ⟨rfl,rfl,rfl⟩
 obtain ⟨h1,h2⟩:=h.set (.slice none 0 0) (.int .i64 0) (.int .i64 0) (.bool false) (.int .i64 2)
 obtain ⟨c0,c1,c2,c3,_,_⟩:=Zba h1
 have g4:=cell_of_one h2
 have s4:tmps[4]?.getD undef = .pointer (some ⟨q,0,none⟩):=by simpa using t4
 have s5:tmps[5]?.getD undef = .pointer (some ⟨q + 1,0,none⟩):=by simpa using t5
 generalize setF q A (.slice none 0 0) (.int .i64 0) (.int .i64 0) (.bool false) (.int .i64 2) = B at *
 simp only [settle]
 simp [Leaves,results,Tryz.results24,go_sem,s4,s5,c0,c1,c2,c3,g4,hK]
end Go.Proofs.YtendielanacflaaGreat

namespace Go.Proofs.YtendielanacflaaGreat
open Go.RowKit Go.Shelf M01 M04 M09 M10
structure FBegun (w w0:World) (q:Nat):Prop where
 base:w.heap.size = q
 below:Below w.heap.size w w0
 size:w0.heap.size = q + 1 + 1
 res:FRes q w0 (.slice none 0 0) (.int .i64 0) (.int .i64 0) (.bool false) (.int .i64 0)
theorem fbegun (w:World):FBegun w ((w.alloc (.cells #[.slice none 0 0,.int .i64 0,.int .i64 0,.bool false] 53)).alloc (.cells #[.int .i64 0] 25)) w.heap.size:=by
 refine ⟨rfl,(Zav w _).trans ((Zav _ _).mono (by simp)),by simp,⟨?_,?_⟩⟩
 ·rw [Below.heap_alloc _ _ _ (by simp)];exact World.alloc_heap_new _ _
 ·have:=World.alloc_heap_new (w.alloc (.cells #[.slice none 0 0,.int .i64 0,.int .i64 0,.bool false] 53)) (.cells #[.int .i64 0] 25)
  simpa using this
def FPost (w:World) (keep:Nat) (R:Option (Nat × List Nat)) (e:Ending) (w':World):Prop:=Below w.heap.size w w' /\ InflOut keep R e w'
def PS (rp sp n b:Nat):Prop:=b = rp \/ b = sp \/ n <= b
structure FMid (w w5:World) (q rp sp:Nat):Prop where
 base:w.heap.size = q
 size:q + 1 + 1 <= w5.heap.size
 below:Only (fun b=>q + 1 + 1 <= b) w5 w5
 only:Below q w w5
 res:FRes q w5 (.slice none 0 0) (.int .i64 0) (.int .i64 0) (.bool false) (.int .i64 0)
 rpLe:q + 1 + 1 <= rp
 spLe:q + 1 + 1 <= sp
 kinds:w5.heap[sp + 1]? = some (.cells #[.func (Fn.func 52) #[] #[],.func (Fn.func 53) #[] #[],.func (Fn.func 54) #[] #[],.func (Fn.func 55) #[] #[]] 104 (0,0))
 lt:rp < sp /\ sp + 1 < w5.heap.size
theorem FMid.at {w w5 A:World} {q rp sp:Nat} (h:FMid w w5 q rp sp) (ho:Only (PS rp sp w5.heap.size) w5 A):Below q w A /\ FRes q A (.slice none 0 0) (.int .i64 0) (.int .i64 0) (.bool false) (.int .i64 0) /\ A.heap[sp + 1]? = some (.cells #[.func (Fn.func 52) #[] #[],.func (Fn.func 53) #[] #[],.func (Fn.func 54) #[] #[],.func (Fn.func 55) #[] #[]] 104 (0,0)):=by
 have h1:=h.rpLe
 have h2:=h.spLe
 have h3:=h.size
 have h4:=h.lt
 have hb:∀ b,b < q + 1 + 1 -> A.heap[b]? = w5.heap[b]?:=fun b hb=>ho.block b (by omega) (by unfold PS;omega)
 refine ⟨⟨ho.os.trans h.only.os,ho.tape.trans h.only.tape,ho.output.trans h.only.output,Nat.le_trans h.only.size ho.size,fun b hq=>(hb b (by omega)).trans (h.only.block b hq)⟩,⟨(hb q (by omega)).trans h.res.1,(hb (q + 1) (by omega)).trans h.res.2⟩,?_⟩
 exact (ho.block (sp + 1) h4.2 (by unfold PS;omega)).trans h.kinds
theorem Zvm {w A:World} {q:Nat} (h:Below q w A) (hq:w.heap.size = q) (x0 x1 x2 x3 z:Value):Below q w (setF q A x0 x1 x2 x3 z):=by
 subst hq
 have h1:=Zzq (T:=fun _=>False) (Only.ofBelow h) (Nat.le_refl _) x0 x1 x2 x3 z
 exact ⟨h1.os,h1.tape,h1.output,h1.size,fun b hb=>h1.block b hb (fun e=>e)⟩
theorem Zby {w w5 A:World} {q rp sp keep:Nat} {R:Option (Nat × List Nat)} {tmps:Array Value} (h:FMid w w5 q rp sp) (ho:Only (PS rp sp w5.heap.size) w5 A) (hR:R = none)
  (t4:tmps.getD 4 undef = .pointer (some ⟨q,0,none⟩)) (t5:tmps.getD 5 undef = .pointer (some ⟨q + 1,0,none⟩)) :
  bodyPostD Tryz.prog Tryz.f24 (FPost w keep R) (.panic formP) { tmps:=tmps,defers:=idefr q } A:=by
 obtain ⟨h1,h2,_⟩:=h.at ho
 refine Zqs h2 t4 t5 ?_
 subst hR
 exact ⟨by rw [h.base];exact Zvm h1 h.base _ _ _ _ _,rfl⟩
theorem Zia {A:World} {b k:Nat} {t:TypeId} (h:A.heap[b]? = some (.cells #[.func (Fn.func 52) #[] #[],.func (Fn.func 53) #[] #[],.func (Fn.func 54) #[] #[],.func (Fn.func 55) #[] #[]] t (0,0))) (hk:k < 4):A.cell? ⟨b,k,none⟩ = some (.func (Fn.func (kindF k)) #[] #[]):=by
 obtain ⟨c0,c1,c2,c3,_,_⟩:=Zba h
 match k,hk with
 | 0,_=>exact c0
 | 1,_=>exact c1
 | 2,_=>exact c2
 | 3,_=>exact c3
theorem quo8 (n:Nat) (h:n <= 10000000000) (w:World):(binOp .quo 3 (.int .i64 (n:Nat)) (.int .i64 8):Sem Value).run Tryz.prog w = .ok (.int .i64 ((n / 8:Nat):Int)) w:=by
 have hx:IntKind.i64.wrap ((n:Int) / 8) = (n:Int) / 8:=IntWalk.i64_in _ (by omega)
 simp [binOp,hx,go_sem]
theorem fldS1 (b:Nat) (w:World):(Instr.fieldAt 101 (.pointer (some ⟨b,0,none⟩)) 1).run Tryz.prog w = .ok (.pointer (some ⟨b,1,none⟩)) w:=by kernel_rfl
theorem fldS3 (b:Nat) (w:World):(Instr.fieldAt 101 (.pointer (some ⟨b,0,none⟩)) 3).run Tryz.prog w = .ok (.pointer (some ⟨b,3,none⟩)) w:=by kernel_rfl
theorem fldS0 (b:Nat) (w:World):(Instr.fieldAt 101 (.pointer (some ⟨b,0,none⟩)) 0).run Tryz.prog w = .ok (.pointer (some ⟨b,0,none⟩)) w:=by kernel_rfl
theorem ldU8s (p:Addr) (v:Value) (w:World) (h:w.cell? p = some v):(Instr.loadAt 24 (.pointer (some p))).run Tryz.prog w = .ok v w:=by
 simp [Instr.loadAt,Instr.sureAddr,loadVar,isAgg,run_underlying Tryz.underlying24,h,go_sem]
theorem ldRd (p:Addr) (v:Value) (w:World) (h:w.cell? p = some v):(Instr.loadAt 98 (.pointer (some p))).run Tryz.prog w = .ok v w:=by
 simp [Instr.loadAt,Instr.sureAddr,loadVar,isAgg,run_underlying Tryz.underlying98,h,go_sem]
theorem stFlow (b:Nat) (a:Option Addr) (n c:Nat) (x y:Int) (z:Bool) (u0 u1 u2 u3:Value) (w:World) (h:w.heap[b]? = some (.cells #[u0,u1,u2,u3] 53 (0,0))) :
  (Instr.storeAt 53 (.pointer (some ⟨b,0,none⟩)) (.agg #[.slice a n c,.int .i64 x,.int .i64 y,.bool z])).run Tryz.prog w = .ok () ((((w.setCell ⟨b,0,none⟩ (.slice a n c)).setCell ⟨b,1,none⟩ (.int .i64 x)).setCell ⟨b,2,none⟩ (.int .i64 y)).setCell ⟨b,3,none⟩ (.bool z)):=by
 have hs:(Tryz.prog.info? 53).map (·.size) = some 4:=by kernel_rfl
 obtain ⟨c0,c1,c2,c3,_,_⟩:=Zba h
 obtain ⟨d0,d1,d2,d3⟩:=Zis h
 cases h5:Tryz.prog.info? 53 with
 | none=>rw [h5] at hs;cases hs
 | some ie =>
  simp only [h5,Option.map_some,Option.some.injEq] at hs
  simp [Instr.storeAt,Instr.sureAddr,storeVar,sizeOf,typeInfo,h5,hs,Value.cells,storeCells,c0,c1,c2,c3,d0,d1,d2,d3,go_sem]
theorem quoAt (n:Nat) (h:n + 7 <= 10000000000) (w:World):(binOp .quo 3 (.int .i64 ((n:Int) + 7)) (.int .i64 8):Sem Value).run Tryz.prog w = .ok (.int .i64 (((n:Int) + 7) / 8)) w:=quo8 (n + 7) h w
theorem Zqy (w:World) (p at_ n cap:Nat) (a:Option Addr) (ha:at_ <= 8 * n) (hc:w.heap[p]? = some (.cells #[.slice a n cap,.int .i64 (at_:Nat)] 158 (0,0))) :
  Calls Tryz.prog 57 #[.pointer (some ⟨p,0,none⟩)] w fun e w'=>e = .returned (.int .i64 (at_:Nat)) /\ w' = w:=by
 obtain ⟨c0,c1,_,_⟩:=Zae hc
 clear hc ha
 go_enter Tryz.func57,Tryz.ntmps57
 go_wp2
 go_ret
 exact ⟨rfl,rfl⟩
theorem eqgQ (t:TypeId) (x y:Operand) (u v:Value) (w:World):(eqGuard .quo t x y u v).run Tryz.prog w = .ok () w:=by simp [eqGuard,go_sem]
def FloR (q:Nat) (w0:World) (x0 x1 x2:Value) (b1 b2:Bool) (A:World):Prop:=Only (fun b=>b = q \/ b = q + 1) w0 A /\ FRes q A (if b1 = true then x0 else .slice none 0 0) (if b1 = true then x1 else .int .i64 0) (if b1 = true then x2 else .int .i64 0) (.bool false) (.int .i64 0)
theorem FloR.set1 {q:Nat} {w0 A:World} {x0 x1 x2:Value} {b1 b2:Bool} (h:FloR q w0 x0 x1 x2 b1 b2 A):FloR q w0 x0 x1 x2 true b2 ((((A.setCell ⟨q,0,none⟩ x0).setCell ⟨q,1,none⟩ x1).setCell ⟨q,2,none⟩ x2).setCell ⟨q,3,none⟩ (.bool false)):=by
 obtain ⟨h0,h1,h2⟩:=h
 refine ⟨(((h0.setCell (p:=⟨q,0,none⟩) (.inl (.inl rfl)) _).setCell (p:=⟨q,1,none⟩) (.inl (.inl rfl)) _).setCell (p:=⟨q,2,none⟩) (.inl (.inl rfl)) _).setCell (p:=⟨q,3,none⟩) (.inl (.inl rfl)) _,Ztm h1 _ _ _ _,?_⟩
 rw [Below.heap_setCell _ _ _ _ (by show q + 1 ≠ q;omega),Below.heap_setCell _ _ _ _ (by show q + 1 ≠ q;omega),Below.heap_setCell _ _ _ _ (by show q + 1 ≠ q;omega),Below.heap_setCell _ _ _ _ (by show q + 1 ≠ q;omega)]
 exact h2
theorem FloR.set2 {q:Nat} {w0 A:World} {x0 x1 x2:Value} {b1 b2:Bool} (h:FloR q w0 x0 x1 x2 b1 b2 A):FloR q w0 x0 x1 x2 b1 true (A.setCell ⟨q + 1,0,none⟩ (.int .i64 0)):=by
 obtain ⟨h0,h1,h2⟩:=h
 exact ⟨h0.setCell (p:=⟨q + 1,0,none⟩) (.inl (.inr rfl)) _,by rw [Below.heap_setCell _ _ _ _ (by show q ≠ q + 1;omega)];exact h1,Zjp h2⟩
set_option maxRecDepth 100000 in
set_option maxHeartbeats 3200000 in
theorem Ziv (w:World) (a:Option Addr) (cap:Nat) (bs:List Nat) (keep:Nat) (hr:RowN .u8 w a cap bs) (hb:∀ x ∈ bs,x < 256) (hl:bs.length <= 100000) (hk:keep <= 1000000000) :
  Calls Tryz.prog 24 #[.slice a bs.length cap,.int .i64 (keep:Nat)] w fun e w'=>FPost w keep (inflB bs) e w':=by
 have HBG:=Zh (fbegun w)
 have HN:=Zh (Zago _ a cap bs (hr.below HBG.out.below) hb (by omega))
 clear hb hr
 obtain ⟨R,hR0⟩:∃ R,R = inflB bs:=⟨_,rfl⟩
 rw [<- hR0]
 replace hR0:=Zh hR0
 have hmf:∀ (fn:Fn) (first cap:Array Value) (w:World),(Instr.makeFunc fn first cap).run Tryz.prog w = .ok (.func fn first cap) w:=fun _ _ _ _=>rfl
 go_enter_defers Tryz.func24,Tryz.ntmps24
 go_wp2_with fail
 generalize (w.alloc (.cells #[.slice none 0 0,.int .i64 0,.int .i64 0,.bool false] 53)).alloc (.cells #[.int .i64 0] 25) = w0 at *
 obtain ⟨q,hq⟩:∃ q,w.heap.size = q:=⟨_,rfl⟩
 simp only [hq] at *
 refine HN.out.mono ?_
 rintro e w1 ⟨rp,rfl,hrd,hb1,hrp⟩
 have HRD:=Zh hrd
 have HB1:=Zh hb1
 clear hrd hb1 HN
 go_wp2_with fail
 have HF:Hid (FMid w ((w1.alloc (.cells #[.pointer (some ⟨rp,0,none⟩),.slice none 0 0,.int .i64 (keep:Nat),.int .i64 0] 101)).alloc (.cells #[.func (Fn.func 52) #[] #[],.func (Fn.func 53) #[] #[],.func (Fn.func 54) #[] #[],.func (Fn.func 55) #[] #[]] 104)) q rp w1.heap.size):=by
  unfold Hid
  have z0:=HBG.out.size
  have z1:=HB1.out.size
  have hw:w.heap.size = q:=HBG.out.base
  have b2:Below w0.heap.size w0 ((w1.alloc (.cells #[.pointer (some ⟨rp,0,none⟩),.slice none 0 0,.int .i64 (keep:Nat),.int .i64 0] 101)).alloc (.cells #[.func (Fn.func 52) #[] #[],.func (Fn.func 53) #[] #[],.func (Fn.func 54) #[] #[],.func (Fn.func 55) #[] #[]] 104)):=(HB1.out.trans ((Zav w1 _).mono z1)).trans ((Zav _ _).mono (by simp;omega))
  refine ⟨hw,?_,Only.refl _ _,?_,⟨?_,?_⟩,by omega,by omega,?_,⟨HRD.out.lt,by simp⟩⟩
  ·simp;omega
  ·have:=HBG.out.below
   rw [hw] at this
   exact this.trans (b2.mono (by omega))
  ·rw [b2.block q (by omega)];exact HBG.out.res.1
  ·rw [b2.block (q + 1) (by omega)];exact HBG.out.res.2
  ·have:=World.alloc_heap_new (w1.alloc (.cells #[.pointer (some ⟨rp,0,none⟩),.slice none 0 0,.int .i64 (keep:Nat),.int .i64 0] 101)) (.cells #[.func (Fn.func 52) #[] #[],.func (Fn.func 53) #[] #[],.func (Fn.func 54) #[] #[],.func (Fn.func 55) #[] #[]] 104)
   simpa using this
 have HS:Hid (Strm (PS rp w1.heap.size ((w1.alloc (.cells #[.pointer (some ⟨rp,0,none⟩),.slice none 0 0,.int .i64 (keep:Nat),.int .i64 0] 101)).alloc (.cells #[.func (Fn.func 52) #[] #[],.func (Fn.func 53) #[] #[],.func (Fn.func 54) #[] #[],.func (Fn.func 55) #[] #[]] 104)).heap.size) ((w1.alloc (.cells #[.pointer (some ⟨rp,0,none⟩),.slice none 0 0,.int .i64 (keep:Nat),.int .i64 0] 101)).alloc (.cells #[.func (Fn.func 52) #[] #[],.func (Fn.func 53) #[] #[],.func (Fn.func 54) #[] #[],.func (Fn.func 55) #[] #[]] 104)) w1.heap.size rp bs keep 0 []):=by
  unfold Hid
  have hlt:=HRD.out.lt
  refine ⟨none,0,?_,by simpa using OwnN.nil _ _ _ _,(HRD.out.below (Zav _ _)).below (Zav _ _),.inr (.inl rfl),.inl rfl,hlt,by simp,fun b hb=>.inr (.inr hb),by simp,hk⟩
  rw [Below.heap_alloc _ _ _ (by simp)]
  have:=World.alloc_heap_new w1 (.cells #[.pointer (some ⟨rp,0,none⟩),.slice none 0 0,.int .i64 (keep:Nat),.int .i64 0] 101)
  simpa using this
 generalize (w1.alloc (.cells #[.pointer (some ⟨rp,0,none⟩),.slice none 0 0,.int .i64 (keep:Nat),.int .i64 0] 101)).alloc (.cells #[.func (Fn.func 52) #[] #[],.func (Fn.func 53) #[] #[],.func (Fn.func 54) #[] #[],.func (Fn.func 55) #[] #[]] 104) = w5 at *
 generalize w1.heap.size = sp at *
 clear hmf hrp HB1 HRD HBG
 have HSZ:=Zh (show ∃ n,w5.heap.size = n from ⟨_,rfl⟩)
 have hRL:=Zh (show R = inflL bs (8 * bs.length + 1) 0 [] from hR0.out)
 clear hR0
 go_loopw [8] (fun s A=>Only (PS rp sp w5.heap.size) w5 A /\ ∃ at2 out,Strm (PS rp sp w5.heap.size) A sp rp bs keep at2 out /\ ((s = .int .i64 0 /\ ∃ f,8 * bs.length + 1 <= f + at2 /\ R = inflL bs f at2 out) \/ (s = .int .i64 1 /\ R = some (at2,out)))) (fun _ A=>8 * bs.length - rdAt A rp)
 case atStart=>exact ⟨Only.refl _ _,0,[],HS.out,.inl ⟨rfl,_,by omega,hRL.out⟩⟩
 case round =>
  clear HS hRL
  obtain ⟨ho,at2,out,hs,hrel⟩:=hrel
  have HO:=Zh ho
  have HST:=Zh hs
  clear ho hs
  rcases hrel with ⟨rfl,f,hf,hR⟩ | ⟨rfl,hR⟩
  ·have hbd:=HST.out.bound
   have hrdA:=Zep HST.out.rd
   obtain ⟨f,rfl⟩:∃ g,f = g + 1:=⟨f - 1,by omega⟩
   rw [Zgt] at hR
   have HR:=Zh (show R = if at2 + 1 <= 8 * bs.length then if at2 + 1 + 2 <= 8 * bs.length then
    match blkK (num bs (at2 + 1) 2) bs (at2 + 1 + 2) out with
    | none=>none
    | some (a2,o2)=>if num bs at2 1 = 0 then inflL bs f a2 o2 else some (a2,o2)
    else none else none from hR)
   clear hR
   go_wp2_with fail
   by_cases h1:at2 + 1 <= 8 * bs.length
   case neg =>
    have HN:Hid (R = none):=by unfold Hid;rw [HR.out,if_neg h1]
    refine (Zbl HST.out 1 (by decide) (by omega)).mono ?_
    rintro e w6 ⟨rfl,ho6⟩
    exact Zby HF.out (HO.out.trans ho6) HN.out rfl rfl
   refine (Zbm HST.out 1 (by decide) h1).mono ?_
   rintro e w6 ⟨rfl,ho6,hs6⟩
   have HO6:=Zh (HO.out.trans ho6)
   have HS6:=Zh hs6
   have hx:=Zdj bs at2 1
   have HR2:Hid (R = if at2 + 1 + 2 <= 8 * bs.length then
    match blkK (num bs (at2 + 1) 2) bs (at2 + 1 + 2) out with
    | none=>none
    | some (a2,o2)=>if num bs at2 1 = 0 then inflL bs f a2 o2 else some (a2,o2)
    else none):=by unfold Hid;rw [HR.out,if_pos h1]
   clear ho6 hs6 HR HO HST h1
   generalize num bs at2 1 = x at *
   go_wp2_with fail
   by_cases h2:at2 + 1 + 2 <= 8 * bs.length
   case neg =>
    have HN:Hid (R = none):=by unfold Hid;rw [HR2.out,if_neg h2]
    refine (Zbl HS6.out 2 (by decide) (by omega)).mono ?_
    rintro e w7 ⟨rfl,ho7⟩
    exact Zby HF.out (HO6.out.trans ho7) HN.out rfl rfl
   refine (Zbm HS6.out 2 (by decide) h2).mono ?_
   rintro e w7 ⟨rfl,ho7,hs7⟩
   have HO7:=Zh (HO6.out.trans ho7)
   have HS7:=Zh hs7
   have hy:=Zdj bs (at2 + 1) 2
   have HR3:Hid (R = match blkK (num bs (at2 + 1) 2) bs (at2 + 1 + 2) out with
    | none=>none
    | some (a2,o2)=>if x = 0 then inflL bs f a2 o2 else some (a2,o2)):=by unfold Hid;rw [HR2.out,if_pos h2]
   have HLC:=Zh (fun a2 o2 (hb:blkK (num bs (at2 + 1) 2) bs (at2 + 1 + 2) out = some (a2,o2))=>(Zabc (d:=0) (bs':=bs) (pre:=[]) rfl h2 hb).1)
   clear ho7 hs7 HR2 HO6 HS6
   generalize num bs (at2 + 1) 2 = y at *
   rcases (show y = 0 \/ y = 1 \/ y = 2 \/ y = 3 by omega) with rfl | rfl | rfl | rfl
   ·have hky:w7.cell? ⟨sp + 1,0,none⟩ = some (.func (Fn.func 52) #[] #[]):=Zia (k:=0) (HF.out.at HO7.out).2.2 (by decide)
    have HKC:=Zh (show Calls Tryz.prog 52 #[.pointer (some ⟨sp,0,none⟩)] w7 _ from Zge HS7.out 0)
    generalize blkK 0 bs (at2 + 1 + 2) out = B at *
    go_wp2_with fail
    refine HKC.out.mono ?_
    intro e w8 hso
    rcases B with _ | ⟨a3,o3⟩
    ·obtain ⟨ho8,rfl⟩:Only _ w7 w8 /\ e = _:=hso
     have HN:Hid (R = none):=HR3.out
     exact Zby HF.out (HO7.out.trans ho8) HN.out rfl rfl
    ·obtain ⟨ho8,rfl,hs8⟩:Only _ w7 w8 /\ e = _ /\ _:=hso
     have HR4:Hid (R = if x = 0 then inflL bs f a3 o3 else some (a3,o3)):=HR3.out
     have HO8:=Zh (HO7.out.trans ho8)
     have HS8:=Zh hs8
     have hlt:=HLC.out a3 o3 rfl
     have hrd8:=Zep hs8.rd
     clear ho8 hs8 HR3 HLC HKC hky HO7 HS7
     go_wp2
     go_roundw
     case rel =>
      refine ⟨HO8.out,a3,o3,HS8.out,?_⟩
      have hR4:=HR4.out
      by_cases hx0:x = 0
      ·subst hx0
       exact .inl ⟨rfl,f,by omega,by rw [hR4,if_pos rfl]⟩
      ·obtain rfl:x = 1:=by omega
       exact .inr ⟨rfl,by rw [hR4,if_neg hx0]⟩
     case measure=>rw [hrd8,hrdA];omega
   ·have hky:w7.cell? ⟨sp + 1,1,none⟩ = some (.func (Fn.func 53) #[] #[]):=Zia (k:=1) (HF.out.at HO7.out).2.2 (by decide)
    have HKC:=Zh (show Calls Tryz.prog 53 #[.pointer (some ⟨sp,0,none⟩)] w7 _ from Zge HS7.out 1)
    generalize blkK 1 bs (at2 + 1 + 2) out = B at *
    go_wp2_with fail
    refine HKC.out.mono ?_
    intro e w8 hso
    rcases B with _ | ⟨a3,o3⟩
    ·obtain ⟨ho8,rfl⟩:Only _ w7 w8 /\ e = _:=hso
     have HN:Hid (R = none):=HR3.out
     exact Zby HF.out (HO7.out.trans ho8) HN.out rfl rfl
    ·obtain ⟨ho8,rfl,hs8⟩:Only _ w7 w8 /\ e = _ /\ _:=hso
     have HR4:Hid (R = if x = 0 then inflL bs f a3 o3 else some (a3,o3)):=HR3.out
     have HO8:=Zh (HO7.out.trans ho8)
     have HS8:=Zh hs8
     have hlt:=HLC.out a3 o3 rfl
     have hrd8:=Zep hs8.rd
     clear ho8 hs8 HR3 HLC HKC hky HO7 HS7
     go_wp2
     go_roundw
     case rel =>
      refine ⟨HO8.out,a3,o3,HS8.out,?_⟩
      have hR4:=HR4.out
      by_cases hx0:x = 0
      ·subst hx0
       exact .inl ⟨rfl,f,by omega,by rw [hR4,if_pos rfl]⟩
      ·obtain rfl:x = 1:=by omega
       exact .inr ⟨rfl,by rw [hR4,if_neg hx0]⟩
     case measure=>rw [hrd8,hrdA];omega
   ·have hky:w7.cell? ⟨sp + 1,2,none⟩ = some (.func (Fn.func 54) #[] #[]):=Zia (k:=2) (HF.out.at HO7.out).2.2 (by decide)
    have HKC:=Zh (show Calls Tryz.prog 54 #[.pointer (some ⟨sp,0,none⟩)] w7 _ from Zge HS7.out 2)
    generalize blkK 2 bs (at2 + 1 + 2) out = B at *
    go_wp2_with fail
    refine HKC.out.mono ?_
    intro e w8 hso
    rcases B with _ | ⟨a3,o3⟩
    ·obtain ⟨ho8,rfl⟩:Only _ w7 w8 /\ e = _:=hso
     have HN:Hid (R = none):=HR3.out
     exact Zby HF.out (HO7.out.trans ho8) HN.out rfl rfl
    ·obtain ⟨ho8,rfl,hs8⟩:Only _ w7 w8 /\ e = _ /\ _:=hso
     have HR4:Hid (R = if x = 0 then inflL bs f a3 o3 else some (a3,o3)):=HR3.out
     have HO8:=Zh (HO7.out.trans ho8)
     have HS8:=Zh hs8
     have hlt:=HLC.out a3 o3 rfl
     have hrd8:=Zep hs8.rd
     clear ho8 hs8 HR3 HLC HKC hky HO7 HS7
     go_wp2
     go_roundw
     case rel =>
      refine ⟨HO8.out,a3,o3,HS8.out,?_⟩
      have hR4:=HR4.out
      by_cases hx0:x = 0
      ·subst hx0
       exact .inl ⟨rfl,f,by omega,by rw [hR4,if_pos rfl]⟩
      ·obtain rfl:x = 1:=by omega
       exact .inr ⟨rfl,by rw [hR4,if_neg hx0]⟩
     case measure=>rw [hrd8,hrdA];omega
   ·have hky:w7.cell? ⟨sp + 1,3,none⟩ = some (.func (Fn.func 55) #[] #[]):=Zia (k:=3) (HF.out.at HO7.out).2.2 (by decide)
    have HKC:=Zh (show Calls Tryz.prog 55 #[.pointer (some ⟨sp,0,none⟩)] w7 _ from Zge HS7.out 3)
    generalize blkK 3 bs (at2 + 1 + 2) out = B at *
    go_wp2_with fail
    refine HKC.out.mono ?_
    intro e w8 hso
    rcases B with _ | ⟨a3,o3⟩
    ·obtain ⟨ho8,rfl⟩:Only _ w7 w8 /\ e = _:=hso
     have HN:Hid (R = none):=HR3.out
     exact Zby HF.out (HO7.out.trans ho8) HN.out rfl rfl
    ·obtain ⟨ho8,rfl,hs8⟩:Only _ w7 w8 /\ e = _ /\ _:=hso
     have HR4:Hid (R = if x = 0 then inflL bs f a3 o3 else some (a3,o3)):=HR3.out
     have HO8:=Zh (HO7.out.trans ho8)
     have HS8:=Zh hs8
     have hlt:=HLC.out a3 o3 rfl
     have hrd8:=Zep hs8.rd
     clear ho8 hs8 HR3 HLC HKC hky HO7 HS7
     go_wp2
     go_roundw
     case rel =>
      refine ⟨HO8.out,a3,o3,HS8.out,?_⟩
      have hR4:=HR4.out
      by_cases hx0:x = 0
      ·subst hx0
       exact .inl ⟨rfl,f,by omega,by rw [hR4,if_pos rfl]⟩
      ·obtain rfl:x = 1:=by omega
       exact .inr ⟨rfl,by rw [hR4,if_neg hx0]⟩
     case measure=>rw [hrd8,hrdA];omega
  ·replace hR:=Zh hR
   go_wp2_with fail
   have hbd:=HST.out.bound
   obtain ⟨oa,oc,hc,hown,hrd,_,_,hrs,hoa,_⟩:=HST.out
   have HRW:=Zh hown.row
   have HOA:=Zh hoa
   have HOWN:=Zh hown
   have hR2:=hR
   obtain ⟨hb1,hres,_⟩:=HF.out.at HO.out
   have HB1:=Zh hb1
   have hrpl:=HF.out.rpLe
   have hspl:=HF.out.spLe
   have hslt:=(Array.getElem?_eq_some_iff.1 hc).1
   have hw7:IntKind.i64.wrap ((at2:Int) + 7) = (at2:Int) + 7:=IntWalk.i64_in _ (by omega)
   have hab:at2 <= 8 * bs.length:=hbd.2.1
   have hq7:at2 + 7 <= 10000000000:=by omega
   obtain ⟨ra,rc,hrc,_⟩:=hrd
   have hrlt:=(Array.getElem?_eq_some_iff.1 hrc).1
   have hcl:∀ {b1 b2:Bool} A,FloR q wr.drew (.slice oa (out.take keep).length oc) (.int .i64 (out.length:Nat)) (.int .i64 (((at2 + 7) / 8:Nat):Int)) b1 b2 A -> A.cell? ⟨sp,1,none⟩ = some (.slice oa (out.take keep).length oc) /\ A.cell? ⟨sp,3,none⟩ = some (.int .i64 (out.length:Nat)) /\ A.cell? ⟨sp,0,none⟩ = some (.pointer (some ⟨rp,0,none⟩)) /\ A.heap[rp]? = some (.cells #[.slice ra bs.length rc,.int .i64 (at2:Nat)] 158 (0,0)):=fun A hA=>by
    obtain ⟨k0,k1,k2,k3,_,_⟩:=Zba ((hA.1.block sp hslt (by show ¬ (sp = q \/ sp = q + 1);omega)).trans hc)
    exact ⟨k1,k3,k0,(hA.1.block rp hrlt (by show ¬ (rp = q \/ rp = q + 1);omega)).trans hrc⟩
   clear hb1 hown hoa hR
   refine Zao [29,30,31,32,33,34,35,36,37,38,39,40,41,42,43,44] (fun _=>false) (fun listed w1=>FloR q wr.drew (.slice oa (out.take keep).length oc) (.int .i64 (out.length:Nat)) (.int .i64 (((at2 + 7) / 8:Nat):Int)) (listed.getD 16 false) (listed.getD 17 false) w1) (fun j v _=>match j with | 0=>v = (.pointer (some ⟨sp,0,none⟩)) | 1=>v = (.pointer (some ⟨sp,0,none⟩)) | 2=>v = (.pointer (some ⟨sp,1,none⟩)) | 3=>v = (.slice oa (out.take keep).length oc) | 4=>v = (.pointer (some ⟨sp,0,none⟩)) | 5=>v = (.pointer (some ⟨sp,0,none⟩)) | 6=>v = (.pointer (some ⟨sp,3,none⟩)) | 7=>v = (.int .i64 (out.length:Nat)) | 8=>v = (.pointer (some ⟨sp,0,none⟩)) | 9=>v = (.pointer (some ⟨sp,0,none⟩)) | 10=>v = (.pointer (some ⟨sp,0,none⟩)) | 11=>v = (.pointer (some ⟨rp,0,none⟩)) | 12=>v = (.int .i64 (at2:Nat)) | 13=>v = (.int .i64 ((at2 + 7:Nat):Int)) | 14=>v = (.int .i64 (((at2 + 7) / 8:Nat):Int)) | 15=>v = (.agg #[(.slice oa (out.take keep).length oc),(.int .i64 (out.length:Nat)),(.int .i64 (((at2 + 7) / 8:Nat):Int)),.bool false]) | _=>True) (fun _ _ _ _=>True) (by kernel_rfl) (by kernel_rfl) (OneEach.mk' (by kernel_rfl) (by kernel_rfl)) (by kernel_rfl) (by kernel_rfl) ?_ ?_ ?_
   ·exact ⟨Only.refl _ wr.drew,hres⟩
   ·intro i0 o hi0 listed a1 w1 hR hil hunf hdes hanc hout hdep
    have hsz:i0 < 18:=(Array.getElem?_eq_some_iff.1 hi0).1
    have hall:i0 = 0 \/ i0 = 1 \/ i0 = 2 \/ i0 = 3 \/ i0 = 4 \/ i0 = 5 \/ i0 = 6 \/ i0 = 7 \/ i0 = 8 \/ i0 = 9 \/ i0 = 10 \/ i0 = 11 \/ i0 = 12 \/ i0 = 13 \/ i0 = 14 \/ i0 = 15 \/ i0 = 16 \/ i0 = 17:=by omega
    clear hsz
    rcases hall with rfl | rfl | rfl | rfl | rfl | rfl | rfl | rfl | rfl | rfl | rfl | rfl | rfl | rfl | rfl | rfl | rfl | rfl <;> simp only [List.getElem?_toArray,List.getElem?_cons_zero,List.getElem?_cons_succ,Option.some.injEq] at hi0 <;> subst hi0
    ·have f6:a1.eval (.tmp 6) = (.pointer (some ⟨sp,0,none⟩)):=hout 6 (by decide)
     refine Zab (v:=(.pointer (some ⟨sp,0,none⟩))) (w':=w1) (by simp [execOp,f6]) ⟨_,rfl,?_,fun j u hu hV _=>⟨hV,trivial,trivial⟩,rfl⟩
     rw [Zaa (by decide),Zaa (by decide)];exact hR
    ·have e29:a1.eval (.tmp 29) = (.pointer (some ⟨sp,0,none⟩)):=hdep ⟨0,.data⟩ (by simp) rfl _ rfl
     have x29:a1.tmps[29]?.getD undef = (.pointer (some ⟨sp,0,none⟩)):=by simpa [Act.eval] using e29
     refine Zab (v:=(.pointer (some ⟨sp,0,none⟩))) (w':=w1) (by simp [execOp,x29,go_sem]) ⟨_,rfl,?_,fun j u hu hV _=>⟨hV,trivial,trivial⟩,rfl⟩
     rw [Zaa (by decide),Zaa (by decide)];exact hR
    ·have e30:a1.eval (.tmp 30) = (.pointer (some ⟨sp,0,none⟩)):=hdep ⟨1,.data⟩ (by simp) rfl _ rfl
     refine Zab (v:=(.pointer (some ⟨sp,1,none⟩))) (w':=w1) (by simp [execOp,e30,fldS1]) ⟨_,rfl,?_,fun j u hu hV _=>⟨hV,trivial,trivial⟩,rfl⟩
     rw [Zaa (by decide),Zaa (by decide)];exact hR
    ·have e31:a1.eval (.tmp 31) = (.pointer (some ⟨sp,1,none⟩)):=hdep ⟨2,.data⟩ (by simp) rfl _ rfl
     refine Zab (v:=(.slice oa (out.take keep).length oc)) (w':=w1) (by simp [execOp,e31,ldU8s _ _ w1 (hcl w1 hR).1]) ⟨_,rfl,?_,fun j u hu hV _=>⟨hV,trivial,trivial⟩,rfl⟩
     rw [Zaa (by decide),Zaa (by decide)];exact hR
    ·have f6:a1.eval (.tmp 6) = (.pointer (some ⟨sp,0,none⟩)):=hout 6 (by decide)
     refine Zab (v:=(.pointer (some ⟨sp,0,none⟩))) (w':=w1) (by simp [execOp,f6]) ⟨_,rfl,?_,fun j u hu hV _=>⟨hV,trivial,trivial⟩,rfl⟩
     rw [Zaa (by decide),Zaa (by decide)];exact hR
    ·have e33:a1.eval (.tmp 33) = (.pointer (some ⟨sp,0,none⟩)):=hdep ⟨4,.data⟩ (by simp) rfl _ rfl
     have x33:a1.tmps[33]?.getD undef = (.pointer (some ⟨sp,0,none⟩)):=by simpa [Act.eval] using e33
     refine Zab (v:=(.pointer (some ⟨sp,0,none⟩))) (w':=w1) (by simp [execOp,x33,go_sem]) ⟨_,rfl,?_,fun j u hu hV _=>⟨hV,trivial,trivial⟩,rfl⟩
     rw [Zaa (by decide),Zaa (by decide)];exact hR
    ·have e34:a1.eval (.tmp 34) = (.pointer (some ⟨sp,0,none⟩)):=hdep ⟨5,.data⟩ (by simp) rfl _ rfl
     refine Zab (v:=(.pointer (some ⟨sp,3,none⟩))) (w':=w1) (by simp [execOp,e34,fldS3]) ⟨_,rfl,?_,fun j u hu hV _=>⟨hV,trivial,trivial⟩,rfl⟩
     rw [Zaa (by decide),Zaa (by decide)];exact hR
    ·have e35:a1.eval (.tmp 35) = (.pointer (some ⟨sp,3,none⟩)):=hdep ⟨6,.data⟩ (by simp) rfl _ rfl
     refine Zab (v:=(.int .i64 (out.length:Nat))) (w':=w1) (by simp [execOp,e35,ldInt _ _ w1 (hcl w1 hR).2.1]) ⟨_,rfl,?_,fun j u hu hV _=>⟨hV,trivial,trivial⟩,rfl⟩
     rw [Zaa (by decide),Zaa (by decide)];exact hR
    ·have f6:a1.eval (.tmp 6) = (.pointer (some ⟨sp,0,none⟩)):=hout 6 (by decide)
     refine Zab (v:=(.pointer (some ⟨sp,0,none⟩))) (w':=w1) (by simp [execOp,f6]) ⟨_,rfl,?_,fun j u hu hV _=>⟨hV,trivial,trivial⟩,rfl⟩
     rw [Zaa (by decide),Zaa (by decide)];exact hR
    ·have e37:a1.eval (.tmp 37) = (.pointer (some ⟨sp,0,none⟩)):=hdep ⟨8,.data⟩ (by simp) rfl _ rfl
     have x37:a1.tmps[37]?.getD undef = (.pointer (some ⟨sp,0,none⟩)):=by simpa [Act.eval] using e37
     refine Zab (v:=(.pointer (some ⟨sp,0,none⟩))) (w':=w1) (by simp [execOp,x37,go_sem]) ⟨_,rfl,?_,fun j u hu hV _=>⟨hV,trivial,trivial⟩,rfl⟩
     rw [Zaa (by decide),Zaa (by decide)];exact hR
    ·have e38:a1.eval (.tmp 38) = (.pointer (some ⟨sp,0,none⟩)):=hdep ⟨9,.data⟩ (by simp) rfl _ rfl
     refine Zab (v:=(.pointer (some ⟨sp,0,none⟩))) (w':=w1) (by simp [execOp,e38,fldS0]) ⟨_,rfl,?_,fun j u hu hV _=>⟨hV,trivial,trivial⟩,rfl⟩
     rw [Zaa (by decide),Zaa (by decide)];exact hR
    ·have e39:a1.eval (.tmp 39) = (.pointer (some ⟨sp,0,none⟩)):=hdep ⟨10,.data⟩ (by simp) rfl _ rfl
     refine Zab (v:=(.pointer (some ⟨rp,0,none⟩))) (w':=w1) (by simp [execOp,e39,ldRd _ _ w1 (hcl w1 hR).2.2.1]) ⟨_,rfl,?_,fun j u hu hV _=>⟨hV,trivial,trivial⟩,rfl⟩
     rw [Zaa (by decide),Zaa (by decide)];exact hR
    ·have e40:a1.eval (.tmp 40) = (.pointer (some ⟨rp,0,none⟩)):=hdep ⟨11,.data⟩ (by simp) rfl _ rfl
     have x40:a1.tmps[40]?.getD undef = (.pointer (some ⟨rp,0,none⟩)):=by simpa [Act.eval] using e40
     refine Zam (f:=57) (args:=#[.pointer (some ⟨rp,0,none⟩)]) (by simp [x40,go_sem]) ((Zqy w1 rp at2 _ _ _ hab (hcl w1 hR).2.2.2).mono ?_)
     rintro e w2 ⟨rfl,rfl⟩
     refine ⟨_,rfl,⟨_,rfl,?_,fun j u hu hV _=>⟨hV,trivial,trivial⟩,rfl⟩⟩
     rw [Zaa (by decide),Zaa (by decide)];exact hR
    ·have e41:a1.eval (.tmp 41) = (.int .i64 (at2:Nat)):=hdep ⟨12,.data⟩ (by simp) rfl _ rfl
     refine Zab (v:=(.int .i64 ((at2 + 7:Nat):Int))) (w':=w1) (by simp [execOp,e41,evalC,eqgA,addI,hw7]) ⟨_,rfl,?_,fun j u hu hV _=>⟨hV,trivial,trivial⟩,rfl⟩
     rw [Zaa (by decide),Zaa (by decide)];exact hR
    ·have e42:a1.eval (.tmp 42) = (.int .i64 ((at2 + 7:Nat):Int)):=hdep ⟨13,.data⟩ (by simp) rfl _ rfl
     refine Zab (v:=(.int .i64 (((at2 + 7) / 8:Nat):Int))) (w':=w1) (by simp [execOp,e42,evalC,eqgQ,quoAt at2 hq7]) ⟨_,rfl,?_,fun j u hu hV _=>⟨hV,trivial,trivial⟩,rfl⟩
     rw [Zaa (by decide),Zaa (by decide)];exact hR
    ·have e32:a1.eval (.tmp 32) = (.slice oa (out.take keep).length oc):=hdep ⟨3,.data⟩ (by simp) rfl _ rfl
     have x32:a1.tmps[32]?.getD undef = (.slice oa (out.take keep).length oc):=by simpa [Act.eval] using e32
     have e36:a1.eval (.tmp 36) = (.int .i64 (out.length:Nat)):=hdep ⟨7,.data⟩ (by simp) rfl _ rfl
     have x36:a1.tmps[36]?.getD undef = (.int .i64 (out.length:Nat)):=by simpa [Act.eval] using e36
     have e43:a1.eval (.tmp 43) = (.int .i64 (((at2 + 7) / 8:Nat):Int)):=hdep ⟨14,.data⟩ (by simp) rfl _ rfl
     have x43:a1.tmps[43]?.getD undef = (.int .i64 (((at2 + 7) / 8:Nat):Int)):=by simpa [Act.eval] using e43
     refine Zab (v:=(.agg #[(.slice oa (out.take keep).length oc),(.int .i64 (out.length:Nat)),(.int .i64 (((at2 + 7) / 8:Nat):Int)),.bool false])) (w':=w1) (by simp [execOp,x32,x36,x43,go_sem]) ⟨_,rfl,?_,fun j u hu hV _=>⟨hV,trivial,trivial⟩,rfl⟩
     rw [Zaa (by decide),Zaa (by decide)];exact hR
    ·have f4:a1.eval (.tmp 4) = .pointer (some ⟨q,0,none⟩):=hout 4 (by decide)
     have e44:a1.eval (.tmp 44) = (.agg #[(.slice oa (out.take keep).length oc),(.int .i64 (out.length:Nat)),(.int .i64 (((at2 + 7) / 8:Nat):Int)),.bool false]):=hdep ⟨15,.data⟩ (by simp) rfl _ rfl
     refine Zan (w':=(((w1.setCell ⟨q,0,none⟩ (.slice oa (out.take keep).length oc)).setCell ⟨q,1,none⟩ (.int .i64 (out.length:Nat))).setCell ⟨q,2,none⟩ (.int .i64 (((at2 + 7) / 8:Nat):Int))).setCell ⟨q,3,none⟩ (.bool false)) (by simp only [execOp,f4,e44];simp [stFlow q oa _ oc _ _ _ _ _ _ _ w1 hR.2.1]) ⟨undef,rfl,?_,fun j u hu hV _=>⟨hV,trivial,trivial⟩,trivial⟩
     rw [Zad hil,Zaa (by decide)];exact hR.set1
    ·have f5:a1.eval (.tmp 5) = .pointer (some ⟨q + 1,0,none⟩):=hout 5 (by decide)
     have pc:a1.eval (.const (.int .i64 0)) = .int .i64 0:=rfl
     refine Zan (w':=w1.setCell ⟨q + 1,0,none⟩ (.int .i64 0)) (by simp [execOp,f5,pc,stErr _ _ _ w1 (cell_of_one hR.2.2) (Zva hR.2.2)]) ⟨undef,rfl,?_,fun j u hu hV _=>⟨hV,trivial,trivial⟩,trivial⟩
     rw [Zaa (by decide),Zad hil];exact hR.set2
   ·intro listed f w1 hRR hall2 hV
    rw [hall2 16 (by decide),hall2 17 (by decide)] at hRR
    obtain ⟨O,HRES⟩:=hRR
    simp only [if_true] at HRES
    replace HRES:=Zh HRES
    replace O:=Zh O
    clear hcl
    simp only [spread,List.contains_cons,List.contains_nil,Nat.reduceBEq,Bool.or_false,Bool.or_true,cond_true,cond_false,Nat.reduceAdd,Nat.zero_add]
    go_wp2_with fail
    refine Zxs HRES.out rfl rfl ?_
    have hqq:=HF.out.base
    refine ⟨?_,?_⟩
    ·rw [hqq]
     refine ⟨O.out.os.trans HB1.out.os,O.out.tape.trans HB1.out.tape,O.out.output.trans HB1.out.output,Nat.le_trans HB1.out.size O.out.size,fun b hb=>(O.out.block b (Nat.lt_of_lt_of_le (by omega) HB1.out.size) (by show ¬ (b = q \/ b = q + 1);omega)).trans (HB1.out.block b hb)⟩
    ·rw [hR2.out]
     refine ⟨oa,oc,rfl,HRW.out.same O.out.size (fun x hx hxe=>?_)⟩
     subst hxe
     obtain ⟨g,hg⟩:∃ g,x = ⟨g,0,none⟩:=by
      rcases HOWN.out.form with ⟨h,_⟩ | ⟨g,h,_⟩
      ·cases h
      ·exact ⟨g,Option.some.inj h⟩
     subst hg
     have hsg:=(HOA.out g rfl).2
     refine O.out.block g ?_ (by show ¬ (g = q \/ g = q + 1);omega)
     rcases HOWN.out.form with ⟨h,_⟩ | ⟨g',h,_,hlt'⟩
     ·cases h
     ·simp only [Option.some.injEq,Addr.mk.injEq,and_true] at h
      subst h
      exact hlt'
end Go.Proofs.YtendielanacflaaGreat

namespace Go.Proofs.YtendielanacflaaGreat
open Go.RowKit Go.Shelf M01 M04 M09 M10
end Go.Proofs.YtendielanacflaaGreat
namespace Go.Proofs.YtendielanacflaaGreat
open Go.RowKit Go.Shelf M01 M04 M09 M10
end Go.Proofs.YtendielanacflaaGreat
namespace Go.Proofs.YtendielanacflaaGreat
open Go.RowKit Go.Shelf M01 M04 M09 M10
theorem Zoi {w:World} {a:Option Addr} {cap:Nat} {bs:List Nat} {keep at2:Nat} {o:List Nat} (hr:RowN .u8 w a cap bs) (hb:∀ x ∈ bs,x < 256) (hl:bs.length <= 100000) (hk:keep <= 1000000000) (hR:inflB bs = some (at2,o)) :
  Calls Tryz.prog 24 #[.slice a bs.length cap,.int .i64 (keep:Nat)] w fun e w'=>Below w.heap.size w w' /\ ∃ a2 c2,e = .returned (.tuple #[.agg #[.slice a2 (o.take keep).length c2,.int .i64 (o.length:Nat),.int .i64 ((at2 + 7) / 8:Nat),.bool false],.int .i64 0]) /\ RowN .u8 w' a2 c2 (o.take keep):=by
 have h:=Ziv w a cap bs keep hr hb hl hk
 rw [hR] at h
 exact h.mono fun e w' hp=>⟨hp.1,hp.2⟩
end Go.Proofs.YtendielanacflaaGreat

namespace Go.Proofs.YtendielanacflaaGreat
open Go.RowKit Go.Shelf M01 M09 M10 M17 M18
theorem Zahb {f:URow -> Nat} {c:Nat}:∀ (l:List URow),(∀ r ∈ l,f r <= c) -> sumL f l <= l.length * c:=by
 intro l
 induction l with
 | nil=>intro _;simp [sumL]
 | cons r l ih =>
  intro h
  have h1:=h r (by simp)
  have h2:=ih (fun x hx=>h x (by simp [hx]))
  have e:sumL f (r :: l) = f r + sumL f l:=by simp [sumL]
  rw [e,List.length_cons,Nat.add_mul,Nat.one_mul]
  omega
theorem Zaez {l:List Tok} (h:Oks l):(fixOut l).1 <= 3 + 109 * (2 * l.length + 1):=by
 rw [Zqo h]
 have hw:∀ r ∈ useU l,r.err = 0 /\ lensOf fixF fixD r ≠ 0:=fun r hr=>⟨(M17.Zde l h.1 h.2 r hr).1,(fixHas h.1 h.2).2.2 r hr⟩
 have e:symOut fixF fixD l = (sumL (fun r=>lensOf fixF fixD r + r.bits) (useU l),0):=by
  unfold symOut
  rw [Zaad _ _ _ _ (fun r hr=>(hw r hr).1),if_pos (fun r hr=>(hw r hr).2),Nat.zero_add]
 rw [e]
 have h9:∀ x ∈ fixF,x <= 9:=by decide +kernel
 have h5:∀ x ∈ fixD,x <= 9:=by decide +kernel
 have h1:sumL (fun r=>lensOf fixF fixD r + r.bits) (useU l) <= (useU l).length * 109:=Zahb _ (fun r hr=>by
  have h2:=Zgo l r hr
  have h3:lensOf fixF fixD r <= 9:=by
   unfold lensOf
   split
   ·exact M04.Zat h5 _
   ·exact M04.Zat h9 _
  omega)
 have h2:=Zej l
 have h3:(useU l).length * 109 <= (2 * l.length + 1) * 109:=Nat.mul_le_mul_right _ h2
 show 3 + _ <= _
 omega
theorem Zahz:∀ (n:Nat) (l:List Tok) (at_:Nat),l.length <= n -> Oks l -> emN l at_ <= at_ + 218 * l.length + 112 * (l.length / 1024 + 1):=by
 intro n
 induction n using Nat.strongRecOn with
 | _ n ih =>
  intro l at_ hn h
  by_cases hl:l.length <= 1024
  ·rw [Zxi l at_ hl]
   have:=Zaez h
   omega
  ·rw [Zsj l at_ (by omega)]
   have h1:=Zaez (h.take 1024)
   have h2:=ih (n - 1) (by omega) (l.drop 1024) (at_ + min (min (stoN (sizL (l.take 1024)) at_) (fixOut (l.take 1024)).1) (dynOut (l.take 1024)).1) (by rw [List.length_drop];omega) (h.drop 1024)
   rw [List.length_take,Nat.min_eq_left (by omega)] at h1
   rw [List.length_drop] at h2
   omega
theorem Zafx {l:List Tok} {x:List Nat} (ho:Oks l) (he:expL [] l = some x) (hl:l.length <= 3200):(deflB l x).length <= 90000:=by
 rw [Zabj ho he]
 have:=Zahz l.length l 0 (Nat.le_refl _) ho
 omega
theorem Zaex {l:List Tok} {x:List Nat} (hl:l.length <= 3200) (hok:∀ t ∈ l,tokOk t) (h:expL [] l = some x):x.length <= 1000000:=by
 have h1:=(Zfr l h).2
 have h2:=Zjr l hok
 simp only [List.length_nil] at h1
 omega
theorem Below.drewN' (w:World) (q:Nat):Below w.heap.size w (w.drewN q):=⟨rfl,rfl,rfl,Nat.le_refl _,fun _ _=>rfl⟩
def codeT (l:List Tok):Nat:=if ∀ t ∈ l,tokOk t then (match expL [] l with | some _=>0 | none=>2) else 5
theorem Zuc {l:List Tok} (h:codeT l = 0):(∀ t ∈ l,tokOk t) /\ ∃ x,expL [] l = some x:=by
 unfold codeT at h
 split at h
 ·next hok =>
  refine ⟨hok,?_⟩
  split at h
  ·next x hx=>exact ⟨x,hx⟩
  ·cases h
 ·cases h
theorem Zabh (a:Option Addr) (cap:Nat) (l:List Tok) (w:World) (hr:RowS encT w a cap l) (hby:∀ t ∈ l,t.byte < 256) (hl:l.length <= 3200) :
  Calls Tryz.prog 9 #[.slice a l.length cap] w fun e w'=>Below w.heap.size w w' /\ ∃ ad nd cd,e = .returned (.tuple #[.slice ad nd cd,.int .i64 (codeT l:Nat)]) /\ (codeT l ≠ 0 -> nd = 0) /\ (∀ x,codeT l = 0 -> expL [] l = some x -> nd = (deflB l x).length /\ RowN .u8 w' ad cd (deflB l x)):=by
 by_cases hok:∀ t ∈ l,tokOk t
 ·cases hx:expL [] l with
  | none =>
   have e0:codeT l = 2:=by unfold codeT;rw [if_pos hok,hx]
   rw [e0]
   refine (Znt hr ⟨hok,hby⟩ (by omega) hx l.length rfl).mono ?_
   rintro e w' ⟨h1,rfl⟩
   exact ⟨h1,none,0,0,rfl,fun _=>rfl,fun x h=>by cases h⟩
  | some x =>
   have e0:codeT l = 0:=by unfold codeT;rw [if_pos hok,hx]
   rw [e0]
   refine (Zio hr ⟨hok,hby⟩ (by omega) x _ hx (Zaex hl hok hx) rfl l.length rfl).mono ?_
   rintro e w' ⟨h1,ad,cd,rfl,h2⟩
   exact ⟨h1,ad,_,cd,rfl,fun h=>absurd rfl h,fun y _ h=>by cases h;exact ⟨rfl,h2.row⟩⟩
 ·have e0:codeT l = 5:=by unfold codeT;rw [if_neg hok]
  rw [e0]
  refine (Zek a cap l w hr hby (by omega) (fun hx=>?_)).mono ?_
  ·exact absurd hx hok
  ·rintro e w' ⟨h1,h2⟩
   unfold DefE at h2
   rw [if_neg hok] at h2
   exact ⟨h1,none,0,0,h2,fun _=>rfl,fun x h=>by cases h⟩
theorem Zagc (a:Option Addr) (cap:Nat) (l:List Tok) (w:World) (hr:RowS encT w a cap l) (hby:∀ t ∈ l,t.byte < 256) (hl:l.length <= 100000) :
  Calls Tryz.prog 10 #[.slice a l.length cap] w fun e w'=>Below w.heap.size w w' /\ ∃ ad nd cd,e = .returned (.tuple #[.slice ad nd cd,.int .i64 (codeT l:Nat)]) /\ (∀ x,codeT l = 0 -> expL [] l = some x -> nd = x.length /\ RowN .u8 w' ad cd x):=by
 refine (Zhq a cap l w hr hby hl).mono ?_
 rintro e w' ⟨h1,h2⟩
 refine ⟨h1,?_⟩
 unfold ExpE at h2
 by_cases hok:∀ t ∈ l,tokOk t
 ·rw [if_pos hok] at h2
  cases hx:expL [] l with
  | none =>
   have e0:codeT l = 2:=by unfold codeT;rw [if_pos hok,hx]
   rw [hx] at h2
   exact ⟨none,0,0,by rw [e0];exact h2,fun x _ h=>by cases h⟩
  | some x =>
   have e0:codeT l = 0:=by unfold codeT;rw [if_pos hok,hx]
   rw [hx] at h2
   obtain ⟨ad,cd,h3,h4⟩:=h2
   exact ⟨ad,_,cd,by rw [e0];exact h3,fun y _ h=>by cases h;exact ⟨rfl,h4.row⟩⟩
 ·have e0:codeT l = 5:=by unfold codeT;rw [if_neg hok]
  rw [if_neg hok] at h2
  exact ⟨none,0,0,by rw [e0];exact h2,fun x h=>by rw [e0] at h;cases h⟩
set_option maxRecDepth 100000 in
set_option maxHeartbeats 3200000 in
theorem Zuu (a:Option Addr) (cap:Nat) (l:List Tok) (times:Nat) (a2:Option Addr) (c2:Nat) (beh:List Nat) (w:World) (hr:RowS encT w a cap l) (hby:∀ t ∈ l,t.byte < 256) (ht:times < 256) (hrb:RowN .u8 w a2 c2 beh) (hbb:∀ x ∈ beh,x < 256) :
  Calls Tryz.prog 5 #[.slice a l.length cap,.int .u8 (times:Nat),.slice a2 beh.length c2] w fun e w'=>e = .returned (.bool true) /\ Below w.heap.size w w':=by
 by_cases hl:l.length <= 400
 case neg =>
  have hd:decide (400 < l.length) = true:=by simp;omega
  have:=hr.len
  go_enter Tryz.func5,Tryz.ntmps5
  go_wp2
  go_ret
  exact ⟨rfl,Below.refl _ _⟩
 by_cases hbl:beh.length <= 40
 case neg =>
  have hd:decide (400 < l.length) = false:=by simp;omega
  have hd2:decide (40 < beh.length) = true:=by simp;omega
  have:=hrb.len
  go_enter Tryz.func5,Tryz.ntmps5
  go_wp2
  go_ret
  exact ⟨rfl,Below.refl _ _⟩
 have hd:decide (400 < l.length) = false:=by simp;omega
 have hd2:decide (40 < beh.length) = false:=by simp;omega
 have HM:=Zh (Zut a cap l times w hr hl ht)
 obtain ⟨L,hL⟩:∃ L,repT l (times % 8 + 1) = L:=⟨_,rfl⟩
 have hLl:L.length <= 3200:=by
  rw [<- hL,Zmn]
  have:(times % 8 + 1) * l.length <= 8 * 400:=Nat.mul_le_mul (by omega) hl
  omega
 have hLb:∀ t ∈ L,t.byte < 256:=fun t h=>hby t (Ztg l _ t (by rw [hL];exact h))
 rw [hL] at HM
 have HLB:=Zh hLb
 have HRB:=Zh hrb
 have HBB:=Zh hbb
 clear hr hby hrb hbb hL hLb
 go_enter Tryz.func5,Tryz.ntmps5
 go_wp2_with fail
 refine HM.out.mono ?_
 rintro e w1 ⟨a3,c3,rfl,o3,hb1⟩
 have HB1:=Zh hb1
 have hr1:=o3.row
 have HR1:=Zh hr1
 have hz1:=hb1.size
 clear hb1 o3 HM hr1
 go_wp2_with (at_builtin;refine appAnyS Zlh rfl (.tmp 27) (.tmp 28) rfl (a:=some ⟨w1.heap.size,0,none⟩) (cap:=0) (l:=[]) (ys:=L) (base:=w1.heap.size) rfl (OwnS.lit0 _ _ _ _ (Nat.le_refl _)) rfl rfl (HR1.out.below (Zai _ _)) (by simp;omega) (by simp;omega) (by simp) ?_;intro a4 c4 w2 o4 hg4 hb4;simp only [List.nil_append] at o4;simp only [List.length_nil,Nat.zero_add];replace hb4:=(Zai w1 _).trans hb4)
 have HIN:=Zh o4.row
 have HR2:=Zh (HR1.out.below hb4)
 have HB2:=Zh (HB1.out.trans (hb4.mono HB1.out.size))
 have HD2:=Zh (Zabh a4 c4 L w2 o4.row HLB.out hLl)
 clear hb4 hg4 o4 HB1 HR1
 refine HD2.out.mono ?_
 rintro e w3 ⟨hb3,ad,nd,cd,rfl,hn3,hx3⟩
 have HIN3:=Zh (HIN.out.below hb3)
 have HR3:=Zh (HR2.out.below hb3)
 have HB3:=Zh (HB2.out.trans (hb3.mono HB2.out.size))
 have HN3:=Zh hn3
 have HX3:=Zh hx3
 have HE3:=Zh (Zagc a3 c3 L w3 HR3.out HLB.out (by omega))
 clear hb3 hn3 hx3 HD2 HIN HR2 HB2
 go_wp2_with fail
 refine HE3.out.mono ?_
 rintro e w4 ⟨hb4,ax,nx,cx,rfl,hx4⟩
 have HIN4:=Zh (HIN3.out.below hb4)
 have HR4:=Zh (HR3.out.below hb4)
 have HB4:=Zh (HB3.out.trans (hb4.mono HB3.out.size))
 have HX3':Hid (∀ x,codeT L = 0 -> expL [] L = some x -> nd = (deflB L x).length /\ RowN .u8 w4 ad cd (deflB L x)):=Zh (fun x h0 h=>⟨(HX3.out x h0 h).1,(HX3.out x h0 h).2.below hb4⟩)
 have HX4:=Zh hx4
 clear hb4 hx4 HX3 HE3 HIN3 HR3 HB3
 obtain ⟨ee,hee⟩:∃ ee,codeT L = ee:=⟨_,rfl⟩
 have HEE:=Zh hee
 rw [hee] at HX3' HX4 HN3 ⊢
 clear hee
 go_wp2
 go_loopw [13] (fun iv A=>∃ k q:Nat,k <= L.length /\ iv = .int .i64 (k:Nat) /\ A = w4.drewN q) (fun iv _=>L.length - (intOf iv).toNat)
 case atStart=>exact ⟨0,0,by omega,rfl,rfl⟩
 case round =>
  obtain ⟨k,q,hk,rfl,rfl⟩:=hrel
  by_cases hlt:k < L.length
  ·obtain ⟨b1,f1,e1,hb1,hc1⟩:=(HIN4.out.drewN q).at hlt
   obtain ⟨b2,f2,e2,hb2,hc2⟩:=(HR4.out.drewN q).at hlt
   subst e1 e2
   have c0:=hc1 0 _ rfl
   have c1:=hc1 1 _ rfl
   have cc2:=hc1 2 _ rfl
   have d0:=hc2 0 _ rfl
   have d1:=hc2 1 _ rfl
   have d2:=hc2 2 _ rfl
   have hwi:IntKind.i64.wrap ((k:Int) + 1) = ((k + 1:Nat):Int):=by rw [IntWalk.i64_in _ (by omega)];omega
   clear hc1 hc2
   generalize L[k] = t at *
   obtain ⟨Ln,D,bt⟩:=t
   simp only [encT,Nat.add_zero] at c0 c1 cc2 d0 d1 d2
   rw [<- Nat.add_assoc] at c1 cc2 d1 d2
   obtain ⟨W,hW⟩:∃ W,w4.drewN q = W:=⟨_,rfl⟩
   have HW:=Zh hW
   rw [hW] at c0 c1 cc2 d0 d1 d2 hb1 hb2 ⊢
   clear hW
   go_wp2
   go_quiet (fail)
   go_wp2
   go_roundw
   case rel=>exact ⟨k + 1,q + nq,by omega,by go_num,by rw [<- HW.out,World.drewN_drewN]⟩
   case measure=>simp [intOf];omega
  ·obtain rfl:k = L.length:=by omega
   have HB5:Hid (Below w.heap.size w (w4.drewN q)):=Zh (HB4.out.trans ((Below.drewN' _ _).mono HB4.out.size))
   by_cases h0:ee = 0
   ·subst h0
    obtain ⟨hok,x,hx⟩:=Zuc HEE.out
    obtain ⟨rfl,hrd⟩:=HX3'.out x rfl hx
    obtain ⟨rfl,hrx⟩:=HX4.out x rfl hx
    have hrd5:=RowN.below hrd (Below.drewN' w4 q)
    have hrx5:=RowN.below hrx (Below.drewN' w4 q)
    obtain ⟨at2,hread,hused⟩:=Zxd ⟨hok,HLB.out⟩ hx beh HBB.out
    have hlen:=Zafx ⟨hok,HLB.out⟩ hx (by omega)
    have hxl:=Zaex hLl hok hx
    have HBY:=Zh (fun c (h:c ∈ deflB L x ++ beh)=>(List.mem_append.1 h).elim (Zxc c) (HBB.out c))
    have HREAD:=Zh hread
    have HRD:=Zh hrd5
    have HRX:=Zh hrx5
    have HRB5:=Zh (HRB.out.below HB5.out)
    have hxcap:=hrx.1
    have hdcap:=hrd.1
    clear hread hrd hrx hrd5 hrx5 hx hok HX3' HX4 HN3 HEE
    generalize deflB L x = B at *
    generalize w4.drewN q = W5 at *
    go_wp2_with (first | (at_builtin;refine appAnyN Zfb rfl (.tmp 69) (.tmp 70) rfl (a:=some ⟨W5.heap.size,0,none⟩) (cap:=0) (l:=[]) (ys:=B) (base:=W5.heap.size) rfl (OwnN.lit0 _ _ _ _ (Nat.le_refl _)) rfl rfl (HRD.out.below (Zai _ _)) (by simp;omega) (by simp;omega) (by simp) ?_;intro a6 c6 w6 o6 hg6 hb6;simp only [List.nil_append] at o6;simp only [List.length_nil,Nat.zero_add];replace hb6:=(Zai W5 _).trans hb6) | (at_builtin;refine appAnyN Zfb rfl (.tmp 71) (.tmp 72) rfl rfl o6 rfl rfl (HRB5.out.below hb6) (by omega) (by omega) hb6.size ?_;intro a7 c7 w7 o7 hg7 hb7))
    have hb7':Below W5.heap.size W5 w7:=hb6.trans hb7
    have HR7:=Zh o7.row
    have HI:=Zoi (keep:=x.length) o7.row HBY.out (by rw [List.length_append];omega) (by omega) HREAD.out
    rw [List.length_append,List.take_length,hused] at HI
    have HRX7:=Zh (HRX.out.below hb7')
    have HB7:=Zh (HB5.out.trans (hb7'.mono HB5.out.size))
    have HII:=Zh HI
    clear HI o6 o7 hb6 hb7 hg6 hg7 hb7' HRD HRX HB5
    refine HII.out.mono ?_
    rintro e w8 ⟨hb8,a8,c8,rfl,hr8⟩
    have hb9:=Zai w8 (.cells #[.slice a8 x.length c8,.int .i64 (x.length:Nat),.int .i64 (B.length:Nat),.bool false] 53)
    obtain ⟨e0,e1,e2,e3,_,_⟩:=Zba (World.alloc_heap_new w8 (.cells #[.slice a8 x.length c8,.int .i64 (x.length:Nat),.int .i64 (B.length:Nat),.bool false] 53))
    have hcv1:=Zhw (n:=x.length) Tryz.underlying24 Tryz.underlying5 Tryz.underlying9 rfl (hr8.below hb9)
    have hcv2:=Zhw (n:=x.length) Tryz.underlying24 Tryz.underlying5 Tryz.underlying9 rfl ((HRX7.out.below hb8).below hb9)
    have HB9:=Zh (HB7.out.trans ((hb8.trans (hb9.mono hb8.size)).mono HB7.out.size))
    have HT:=Zh (Zja (w8.alloc (.cells #[.slice a8 x.length c8,.int .i64 (x.length:Nat),.int .i64 (B.length:Nat),.bool false] 53)))
    obtain ⟨sx,hsx⟩:∃ sx,strOf x = sx:=⟨_,rfl⟩
    rw [hsx] at hcv1 hcv2
    clear hb8 hr8 hb9 HII HB7 HRX7 HR7 hsx
    go_wp2_with fail
    refine HT.out.mono ?_
    rintro e w9 ⟨rfl,hb10⟩
    have HB10:=Zh (HB9.out.trans (hb10.mono HB9.out.size))
    clear hb10 HB9 HT
    go_wp2
    go_ret
    exact ⟨rfl,HB10.out⟩
   ·have hz:=HN3.out h0
    subst hz
    have hne:((ee:Int) != 0) = true:=by simp;omega
    clear HX3' HX4
    generalize w4.drewN q = W5 at *
    have HT:=Zh (Zja W5)
    go_wp2_with fail
    refine HT.out.mono ?_
    rintro e w6 ⟨rfl,hb6⟩
    have HB6:=Zh (HB5.out.trans (hb6.mono HB5.out.size))
    clear hb6
    go_wp2
    go_ret
    exact ⟨rfl,HB6.out⟩
end Go.Proofs.YtendielanacflaaGreat
