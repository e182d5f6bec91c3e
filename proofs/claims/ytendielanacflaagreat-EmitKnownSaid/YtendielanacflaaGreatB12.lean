/- header.Get: contract. -/
import Derived.Test.YtendielanacflaaGreatB01
import Derived.Test.YtendielanacflaaGreatB02
import Derived.Test.YtendielanacflaaGreatB05
import Derived.Test.YtendielanacflaaGreatB06
import Derived.Test.YtendielanacflaaGreatB11
set_option linter.unusedVariables false
set_option linter.unusedSimpArgs false
namespace Go.Proofs.YtendielanacflaaGreat
open Go.RowKit Go.Shelf M01 M04 M07 M09 M10
theorem cls2 {l:List Nat} (h:(clsE l).1 = 2):(wordsE l).2 = 0 /\ May l:=by
 unfold clsE at h
 by_cases hm:May l
 ·rw [if_pos hm] at h
  unfold cls at h
  have hw:weight l = 2 ^ 20:=by
   simp only at h
   repeat' split at h
   all_goals first | omega | assumption
  refine ⟨?_,hm⟩
  unfold wordsE
  rw [if_neg (by simpa using hm),if_neg (by omega)]
 ·rw [if_neg hm] at h
  simp at h
theorem Zsx:∀ k:Fin 19,ordL.getD k.val 0 < 19:=by decide
def HdrOut (rp:Nat) (bs:List Nat) (R:Option ((List Nat × List Nat) × Nat)) (e:Ending) (w':World):Prop :=
 match R with
 | some ((f,o),at2)=>∃ a1 c1 a2 c2,e = .returned (.tuple #[.slice a1 f.length c1,.slice a2 o.length c2,.int .i64 0]) /\ RowN .u8 w' a1 c1 f /\ RowN .u8 w' a2 c2 o /\ Rd w' rp bs at2
 | none=>e = .returned (.tuple #[.slice none 0 0,.slice none 0 0,.int .i64 2])
def Res (q:Nat) (A:World) (x y z:Value):Prop:=A.heap[q]? = some (.cells #[x] 24 (0,0)) /\ A.heap[q + 1]? = some (.cells #[y] 24 (0,0)) /\ A.heap[q + 1 + 1]? = some (.cells #[z] 25 (0,0))
theorem Res.set {q:Nat} {A:World} {x y z:Value} (h:Res q A x y z) (x' y' z':Value):Res q (((A.setCell ⟨q,0,none⟩ x').setCell ⟨q + 1,0,none⟩ y').setCell ⟨q + 1 + 1,0,none⟩ z') x' y' z':=by
 obtain ⟨h1,h2,h3⟩:=h
 have one:∀ (B:World) (b:Nat) (u v:Value) (t:TypeId),B.heap[b]? = some (.cells #[u] t (0,0)) -> (B.setCell ⟨b,0,none⟩ v).heap[b]? = some (.cells #[v] t (0,0)):=fun B b u v t hb=>by
  show (B.heap.modify b _)[b]? = _
  rw [Array.getElem?_modify,if_pos rfl,hb];rfl
 refine ⟨?_,?_,?_⟩
 ·rw [Below.heap_setCell _ _ _ _ (by show q ≠ q + 1 + 1;omega),Below.heap_setCell _ _ _ _ (by show q ≠ q + 1;omega)]
  exact one _ _ _ _ _ h1
 ·rw [Below.heap_setCell _ _ _ _ (by show q + 1 ≠ q + 1 + 1;omega)]
  exact one _ _ y _ _ (by rw [Below.heap_setCell _ _ _ _ (by show q + 1 ≠ q;omega)];exact h2)
 ·exact one _ _ z _ _ (by rw [Below.heap_setCell _ _ _ _ (by show q + 1 + 1 ≠ q + 1;omega),Below.heap_setCell _ _ _ _ (by show q + 1 + 1 ≠ q;omega)];exact h3)
def defr (q:Nat):List Deferred:=[{ target:=Target.fn (Fn.func 135) #[.pointer (some ⟨q,0,none⟩),.pointer (some ⟨q + 1,0,none⟩),.pointer (some ⟨q + 1 + 1,0,none⟩)],args:=#[] }]
theorem Zso {q:Nat} {A:World} {x y z:Value} {tmps:Array Value} {Rr:Ending -> World -> Prop} (h:Res q A x y z) (t2:tmps.getD 2 undef = .pointer (some ⟨q,0,none⟩)) (t3:tmps.getD 3 undef = .pointer (some ⟨q + 1,0,none⟩)) (t4:tmps.getD 4 undef = .pointer (some ⟨q + 1 + 1,0,none⟩))
  (hK:Rr (.returned (.tuple #[x,y,z])) A):bodyPostD Tryz.prog Tryz.f101 Rr .ret { tmps:=tmps,defers:=defr q } A:=by
 show Leaves _ _ _ _ (defr q) .returning A
 unfold defr
 refine leaves_cons (f:=135) (args:=#[.pointer (some ⟨q,0,none⟩),.pointer (some ⟨q + 1,0,none⟩),.pointer (some ⟨q + 1 + 1,0,none⟩)]) (by simp) (by simp [go_sem]) ?_
 refine (Zka q (q + 1) (q + 1 + 1) A).mono ?_
 rintro e u' w'' ⟨rfl,rfl,rfl⟩
 obtain ⟨h1,h2,h3⟩:=h
 have g1:=cell_of_one h1
 have g2:=cell_of_one h2
 have g3:=cell_of_one h3
 simp only [Leaves,settle]
 refine ⟨_,?_,hK⟩
 have s2:tmps[2]?.getD undef = .pointer (some ⟨q,0,none⟩):=by simpa using t2
 have s3:tmps[3]?.getD undef = .pointer (some ⟨q + 1,0,none⟩):=by simpa using t3
 have s4:tmps[4]?.getD undef = .pointer (some ⟨q + 1 + 1,0,none⟩):=by simpa using t4
 simp [results,Tryz.results101,go_sem,s2,s3,s4,g1,g2,g3]
theorem Zuo {q:Nat} {A:World} {x y z:Value} {tmps:Array Value} {Rr:Ending -> World -> Prop} (h:Res q A x y z) (t2:tmps.getD 2 undef = .pointer (some ⟨q,0,none⟩)) (t3:tmps.getD 3 undef = .pointer (some ⟨q + 1,0,none⟩)) (t4:tmps.getD 4 undef = .pointer (some ⟨q + 1 + 1,0,none⟩))
  (hK:Rr (.returned (.tuple #[.slice none 0 0,.slice none 0 0,.int .i64 2])) (((A.setCell ⟨q,0,none⟩ (.slice none 0 0)).setCell ⟨q + 1,0,none⟩ (.slice none 0 0)).setCell ⟨q + 1 + 1,0,none⟩ (.int .i64 2))):bodyPostD Tryz.prog Tryz.f101 Rr (.panic formP) { tmps:=tmps,defers:=defr q } A:=by
 show Leaves _ _ _ _ (defr q) (.panicking formP) A
 unfold defr
 refine leaves_cons (f:=135) (args:=#[.pointer (some ⟨q,0,none⟩),.pointer (some ⟨q + 1,0,none⟩),.pointer (some ⟨q + 1 + 1,0,none⟩)]) (by simp) (by simp [go_sem]) ?_
 refine (Zxq q (q + 1) (q + 1 + 1) x y z A h.1 h.2.1 h.2.2 (by omega) (by omega) (by omega)).mono ?_
 rintro e u' w'' ⟨rfl,rfl,rfl⟩
 obtain ⟨h1,h2,h3⟩:=h.set (.slice none 0 0) (.slice none 0 0) (.int .i64 2)
 have g1:=cell_of_one h1
 have g2:=cell_of_one h2
 have g3:=cell_of_one h3
 have s2:tmps[2]?.getD undef = .pointer (some ⟨q,0,none⟩):=by simpa using t2
 have s3:tmps[3]?.getD undef = .pointer (some ⟨q + 1,0,none⟩):=by simpa using t3
 have s4:tmps[4]?.getD undef = .pointer (some ⟨q + 1 + 1,0,none⟩):=by simpa using t4
 generalize ((A.setCell ⟨q,0,none⟩ (.slice none 0 0)).setCell ⟨q + 1,0,none⟩ (.slice none 0 0)).setCell ⟨q + 1 + 1,0,none⟩ (.int .i64 2) = B at *
 simp only [settle]
 simp [Leaves,results,Tryz.results101,go_sem,s2,s3,s4,g1,g2,g3,hK]
theorem Zaho {n:Nat}:∀ l out all,unp n l out = some all -> all.length = n:=by
 intro l
 induction l with
 | nil =>
  intro out all h
  unfold unp at h
  split at h
  ·next h1=>simp at h;rw [<- h];exact h1
  ·simp at h
 | cons s l ih =>
  intro out all h
  unfold unp at h
  split at h
  ·simp at h
  ·split at h
   ·simp at h
   ·exact ih _ _ h
theorem Only.belowAt {T:Nat -> Prop} {w A B:World} {n:Nat} (h:Only T w A) (hn:w.heap.size = n) (hb:Below n A B):Only T w B :=
 ⟨hb.os.trans h.os,hb.tape.trans h.tape,hb.output.trans h.output,Nat.le_trans h.size hb.size,fun b hb' ht=>(hb.block b (by omega)).trans (h.block b hb' ht)⟩
theorem cut3 (g m n c:Nat) (h:m <= c) (w:World):(Instr.sliceAt 24 (.slice (some ⟨g,0,none⟩) n c) none (some (.int .i64 (m:Nat))) (some (.int .i64 (m:Nat)))).run Tryz.prog w = .ok (.slice (some ⟨g,0,none⟩) m m) w:=by
 have hsz:(Tryz.prog.info? 5).map (·.size) = some 1:=by kernel_rfl
 cases h5:Tryz.prog.info? 5 with
 | none=>rw [h5] at hsz;cases hsz
 | some ie =>
  simp only [h5,Option.map_some,Option.some.injEq] at hsz
  simp [Instr.sliceAt,Instr.slice,Instr.sliceBounds,Instr.sliceBound,run_underlying Tryz.underlying24,asIntOf,sizeOf,typeInfo,h5,go_sem,h,Addr.add]
theorem cutFrom (g m n c:Nat) (h:m < n) (hc:n <= c) (w:World):(Instr.sliceAt 24 (.slice (some ⟨g,0,none⟩) n c) (some (.int .i64 (m:Nat))) none none).run Tryz.prog w = .ok (.slice (some ⟨g,m,none⟩) (n - m) (c - m)) w:=by
 have hsz:(Tryz.prog.info? 5).map (·.size) = some 1:=by kernel_rfl
 have h3:m <= n:=by omega
 have h4:¬ c = m:=by omega
 have h6:(if m = 0 then (⟨g,0,none⟩:Addr) else ⟨g,m,none⟩) = ⟨g,m,none⟩:=by
  split
  ·rename_i h;rw [h]
  ·rfl
 cases h5:Tryz.prog.info? 5 with
 | none=>rw [h5] at hsz;cases hsz
 | some ie =>
  simp only [h5,Option.map_some,Option.some.injEq] at hsz
  simp [Instr.sliceAt,Instr.slice,Instr.sliceBounds,Instr.sliceBound,run_underlying Tryz.underlying24,asIntOf,sizeOf,typeInfo,h5,go_sem,h3,h4,h6,hsz,Addr.add]
theorem stU8s (p:Addr) (a:Option Addr) (n c:Nat) (u:Value) (w:World) (h:w.cell? p = some u) (hf:w.frozen? p = false):(Instr.storeAt 24 (.pointer (some p)) (.slice a n c)).run Tryz.prog w = .ok () (w.setCell p (.slice a n c)):=by
 have hsz:(Tryz.prog.info? 24).map (·.size) = some 1:=by kernel_rfl
 cases h5:Tryz.prog.info? 24 with
 | none=>rw [h5] at hsz;cases hsz
 | some ie =>
  have hs:ie.size = 1:=by simpa [h5] using hsz
  simp [Instr.storeAt,Instr.sureAddr,storeVar,sizeOf,typeInfo,h5,hs,Value.cells,storeCells,h,hf,go_sem]
theorem stErr (p:Addr) (n:Int) (u:Value) (w:World) (h:w.cell? p = some u) (hf:w.frozen? p = false):(Instr.storeAt 25 (.pointer (some p)) (.int .i64 n)).run Tryz.prog w = .ok () (w.setCell p (.int .i64 n)):=by
 have hsz:(Tryz.prog.info? 25).map (·.size) = some 1:=by kernel_rfl
 cases h5:Tryz.prog.info? 25 with
 | none=>rw [h5] at hsz;cases hsz
 | some ie =>
  have hs:ie.size = 1:=by simpa [h5] using hsz
  simp [Instr.storeAt,Instr.sureAddr,storeVar,sizeOf,typeInfo,h5,hs,Value.cells,storeCells,h,hf,go_sem]
theorem Zjp {B:World} {b:Nat} {u v:Value} {t:TypeId} (hb:B.heap[b]? = some (.cells #[u] t (0,0))):(B.setCell ⟨b,0,none⟩ v).heap[b]? = some (.cells #[v] t (0,0)):=by
 show (B.heap.modify b _)[b]? = _
 rw [Array.getElem?_modify,if_pos rfl,hb];rfl
def StR (q:Nat) (w0:World) (x y:Value) (b1 b2 b3:Bool) (A:World):Prop:=Only (fun b=>b = q \/ b = q + 1 \/ b = q + 1 + 1) w0 A /\ Res q A (if b1 = true then x else .slice none 0 0) (if b2 = true then y else .slice none 0 0) (.int .i64 0)
theorem StR.set1 {q:Nat} {w0 A:World} {x y:Value} {b1 b2 b3:Bool} (h:StR q w0 x y b1 b2 b3 A):StR q w0 x y true b2 b3 (A.setCell ⟨q,0,none⟩ x):=by
 obtain ⟨h0,h1,h2,h3⟩:=h
 exact ⟨h0.setCell (p:=⟨q,0,none⟩) (.inl (.inl rfl)) _,Zjp h1,by rw [Below.heap_setCell _ _ _ _ (by show q + 1 ≠ q;omega)];exact h2,by rw [Below.heap_setCell _ _ _ _ (by show q + 1 + 1 ≠ q;omega)];exact h3⟩
theorem StR.set2 {q:Nat} {w0 A:World} {x y:Value} {b1 b2 b3:Bool} (h:StR q w0 x y b1 b2 b3 A):StR q w0 x y b1 true b3 (A.setCell ⟨q + 1,0,none⟩ y):=by
 obtain ⟨h0,h1,h2,h3⟩:=h
 exact ⟨h0.setCell (p:=⟨q + 1,0,none⟩) (.inl (.inr (.inl rfl))) _,by rw [Below.heap_setCell _ _ _ _ (by show q ≠ q + 1;omega)];exact h1,Zjp h2,by rw [Below.heap_setCell _ _ _ _ (by show q + 1 + 1 ≠ q + 1;omega)];exact h3⟩
theorem StR.set3 {q:Nat} {w0 A:World} {x y:Value} {b1 b2 b3:Bool} (h:StR q w0 x y b1 b2 b3 A):StR q w0 x y b1 b2 true (A.setCell ⟨q + 1 + 1,0,none⟩ (.int .i64 0)):=by
 obtain ⟨h0,h1,h2,h3⟩:=h
 exact ⟨h0.setCell (p:=⟨q + 1 + 1,0,none⟩) (.inl (.inr (.inr rfl))) _,by rw [Below.heap_setCell _ _ _ _ (by show q ≠ q + 1 + 1;omega)];exact h1,by rw [Below.heap_setCell _ _ _ _ (by show q + 1 ≠ q + 1 + 1;omega)];exact h2,Zjp h3⟩
theorem StR.cells {q:Nat} {w0 A:World} {x y:Value} {b1 b2 b3:Bool} (h:StR q w0 x y b1 b2 b3 A):(∃ u,A.cell? ⟨q,0,none⟩ = some u) /\ (∃ u,A.cell? ⟨q + 1,0,none⟩ = some u) /\ (∃ u,A.cell? ⟨q + 1 + 1,0,none⟩ = some u) /\ A.frozen? ⟨q,0,none⟩ = false /\ A.frozen? ⟨q + 1,0,none⟩ = false /\ A.frozen? ⟨q + 1 + 1,0,none⟩ = false:=by
 obtain ⟨h0,h1,h2,h3⟩:=h
 exact ⟨⟨_,cell_of_one h1⟩,⟨_,cell_of_one h2⟩,⟨_,cell_of_one h3⟩,by simp [World.frozen?,h1],by simp [World.frozen?,h2],by simp [World.frozen?,h3]⟩
theorem Only.trans' {T U:Nat -> Prop} {w A B:World} (h:Only T w A) (h2:Only U A B) (hu:∀ b,b < w.heap.size -> ¬ U b):Only T w B :=
 ⟨h2.os.trans h.os,h2.tape.trans h.tape,h2.output.trans h.output,Nat.le_trans h.size h2.size,fun b hb ht=>(h2.block b (Nat.lt_of_lt_of_le hb h.size) (hu b hb)).trans (h.block b hb ht)⟩
structure Begun (w w0:World) (q rp:Nat):Prop where
 base:w.heap.size = q
 below:Below w.heap.size w w0
 size:w0.heap.size = q + 1 + 1 + 1
 res:Res q w0 (.slice none 0 0) (.slice none 0 0) (.int .i64 0)
 rp:rp < q
theorem begun (w:World) (rp:Nat) (h:rp < w.heap.size):Begun w (((w.alloc (.cells #[.slice none 0 0] 24)).alloc (.cells #[.slice none 0 0] 24)).alloc (.cells #[.int .i64 0] 25)) w.heap.size rp:=by
 refine ⟨rfl,((Zav w _).trans ((Zav _ _).mono (by simp))).trans ((Zav _ _).mono (by simp;omega)),by simp,⟨?_,?_,?_⟩,h⟩
 ·rw [Below.heap_alloc _ _ _ (by simp;omega),Below.heap_alloc _ _ _ (by simp)];exact World.alloc_heap_new _ _
 ·rw [Below.heap_alloc _ _ _ (by simp)]
  have:=World.alloc_heap_new (w.alloc (.cells #[.slice none 0 0] 24)) (.cells #[.slice none 0 0] 24)
  simpa using this
 ·have:=World.alloc_heap_new ((w.alloc (.cells #[.slice none 0 0] 24)).alloc (.cells #[.slice none 0 0] 24)) (.cells #[.int .i64 0] 25)
  simpa using this
theorem Begun.resAt {w w0 A:World} {q rp:Nat} (h:Begun w w0 q rp) (ho:Only (fun b=>b = rp) w0 A):Res q A (.slice none 0 0) (.slice none 0 0) (.int .i64 0):=by
 have h1:=h.size
 have h2:=h.rp
 exact ⟨(ho.block q (by omega) (by show q ≠ rp;omega)).trans h.res.1,(ho.block (q + 1) (by omega) (by show q + 1 ≠ rp;omega)).trans h.res.2.1,(ho.block (q + 1 + 1) (by omega) (by show q + 1 + 1 ≠ rp;omega)).trans h.res.2.2⟩
theorem Begun.only {w w0 A:World} {q rp:Nat} (h:Begun w w0 q rp) (ho:Only (fun b=>b = rp) w0 A) (x y z:Value):Only (fun b=>b = rp) w A /\ Only (fun b=>b = rp) w (((A.setCell ⟨q,0,none⟩ x).setCell ⟨q + 1,0,none⟩ y).setCell ⟨q + 1 + 1,0,none⟩ z):=by
 have h1:Only (fun b=>b = rp) w A:=(⟨h.below.os,h.below.tape,h.below.output,h.below.size,fun b hb _=>h.below.block b hb⟩:Only (fun b=>b = rp) w w0).trans ho
 have h2:=h.base
 exact ⟨h1,((h1.setCell (p:=⟨q,0,none⟩) (.inr (by show w.heap.size <= q;omega)) x).setCell (p:=⟨q + 1,0,none⟩) (.inr (by show w.heap.size <= q + 1;omega)) y).setCell (p:=⟨q + 1 + 1,0,none⟩) (.inr (by show w.heap.size <= q + 1 + 1;omega)) z⟩
def HPost (w:World) (rp:Nat) (bs:List Nat) (R:Option ((List Nat × List Nat) × Nat)) (e:Ending) (w':World):Prop:=Only (fun b=>b = rp) w w' /\ HdrOut rp bs R e w'
theorem Zbx {w w0 A:World} {q rp:Nat} {bs:List Nat} {R:Option ((List Nat × List Nat) × Nat)} {tmps:Array Value} (h:Begun w w0 q rp) (ho:Only (fun b=>b = rp) w0 A) (hR:R = none)
  (t2:tmps.getD 2 undef = .pointer (some ⟨q,0,none⟩)) (t3:tmps.getD 3 undef = .pointer (some ⟨q + 1,0,none⟩)) (t4:tmps.getD 4 undef = .pointer (some ⟨q + 1 + 1,0,none⟩)) :
  bodyPostD Tryz.prog Tryz.f101 (HPost w rp bs R) (.panic formP) { tmps:=tmps,defers:=defr q } A:=by
 refine Zuo (h.resAt ho) t2 t3 t4 ?_
 subst hR
 exact ⟨(h.only ho _ _ _).2,rfl⟩
theorem Zit {w w0 A:World} {q rp:Nat} {bs:List Nat} {R:Option ((List Nat × List Nat) × Nat)} {tmps:Array Value} (h:Begun w w0 q rp) (ho:Only (fun b=>b = rp) w0 A) (hR:R = none)
  (t2:tmps.getD 2 undef = .pointer (some ⟨q,0,none⟩)) (t3:tmps.getD 3 undef = .pointer (some ⟨q + 1,0,none⟩)) (t4:tmps.getD 4 undef = .pointer (some ⟨q + 1 + 1,0,none⟩)) :
  bodyPostD Tryz.prog Tryz.f101 (HPost w rp bs R) .ret { tmps:=tmps,defers:=defr q } (((A.setCell ⟨q,0,none⟩ (.slice none 0 0)).setCell ⟨q + 1,0,none⟩ (.slice none 0 0)).setCell ⟨q + 1 + 1,0,none⟩ (.int .i64 2)):=by
 refine Zso ((h.resAt ho).set _ _ _) t2 t3 t4 ?_
 subst hR
 exact ⟨(h.only ho _ _ _).2,rfl⟩
set_option maxRecDepth 100000 in
set_option maxHeartbeats 3200000 in
theorem Zage (w:World) (rp:Nat) (bs:List Nat) (at_:Nat) (h:Rd w rp bs at_) :
  Calls Tryz.prog 101 #[.pointer (some ⟨rp,0,none⟩)] w fun e w'=>HPost w rp bs (hdr bs at_) e w':=by
 have HBG:=Zh (begun w rp h.lt)
 have h0:=h.below ((HBG.out).below)
 have hrr:=h.belowAt HBG.out.below h.lt
 have H:=Zh hrr
 clear h h0 hrr
 obtain ⟨R,hR0⟩:∃ R,R = hdr bs at_:=⟨_,rfl⟩
 rw [<- hR0]
 replace hR0:=Zh hR0
 have hmf:∀ (fn:Fn) (first cap:Array Value) (w:World),(Instr.makeFunc fn first cap).run Tryz.prog w = .ok (.func fn first cap) w:=fun _ _ _ _=>rfl
 go_enter_defers Tryz.func101,Tryz.ntmps101
 go_wp2_with fail
 generalize ((w.alloc (.cells #[.slice none 0 0] 24)).alloc (.cells #[.slice none 0 0] 24)).alloc (.cells #[.int .i64 0] 25) = w0 at *
 obtain ⟨q,hq⟩:∃ q,w.heap.size = q:=⟨_,rfl⟩
 simp only [hq] at *
 clear hmf
 by_cases h1:at_ + 5 <= 8 * bs.length
 case neg =>
  have HR:Hid (R = none):=by unfold Hid;rw [hR0.out];unfold hdr;rw [if_pos (by omega)]
  refine (Zca w0 rp bs at_ 5 (by decide) H.out (by omega)).mono ?_
  rintro e w1 ⟨rfl,n1,rfl⟩
  clear h1
  go_wp2_with fail
  refine (Zch (.int .u32 0) 2 (by decide) _).mono ?_
  rintro e w2 ⟨rfl,rfl⟩
  exact Zbx HBG.out (Zak _ _ _) HR.out rfl rfl rfl
 refine (Zfl w0 rp bs at_ 5 (by decide) H.out h1).mono ?_
 rintro e w1 ⟨rfl,hr1,ho1⟩
 have HR1:=Zh hr1
 have HO1:=Zh ho1
 have hx:=Zdj bs at_ 5
 have HF:=Zh hR0.out
 unfold hdr at HF
 clear hR0 hr1 ho1 H h1
 generalize num bs at_ 5 = x at *
 go_wp2_with fail
 refine (Zci _ w1).mono ?_
 rintro e w1' ⟨rfl,rfl⟩
 go_wp2_with fail
 by_cases h2:at_ + 5 + 5 <= 8 * bs.length
 case neg =>
  have HR:Hid (R = none):=by unfold Hid;rw [HF.out,if_pos (by omega)]
  refine (Zca w1' rp bs (at_ + 5) 5 (by decide) HR1.out (by omega)).mono ?_
  rintro e w2 ⟨rfl,n1,rfl⟩
  clear h2
  go_wp2_with fail
  refine (Zch (.int .u32 0) 2 (by decide) _).mono ?_
  rintro e w3 ⟨rfl,rfl⟩
  exact Zbx HBG.out (HO1.out.trans (Zak _ _ _)) HR.out rfl rfl rfl
 refine (Zfl w1' rp bs (at_ + 5) 5 (by decide) HR1.out h2).mono ?_
 rintro e w2 ⟨rfl,hr2,ho2⟩
 have HR2:=Zh hr2
 have HO2:=Zh (HO1.out.trans ho2)
 have hy:=Zdj bs (at_ + 5) 5
 clear HO1 HR1 hr2 ho2 h2
 generalize num bs (at_ + 5) 5 = y at *
 go_wp2_with fail
 refine (Zci _ w2).mono ?_
 rintro e w2' ⟨rfl,rfl⟩
 obtain ⟨na,hna⟩:∃ na,x + 257 = na:=⟨_,rfl⟩
 obtain ⟨nb,hnb⟩:∃ nb,y + 1 = nb:=⟨_,rfl⟩
 have q1:(x:Int) + 257 = (na:Int):=by omega
 have q2:(y:Int) + 1 = (nb:Int):=by omega
 have hna2:257 <= na /\ na <= 288:=by omega
 have hnb2:1 <= nb /\ nb <= 32:=by omega
 rw [hna,hnb] at HF
 clear hna hnb
 go_wp2_with fail
 clear q1 q2 hx hy
 by_cases h3:at_ + 5 + 5 + 4 <= 8 * bs.length
 case neg =>
  have HR:Hid (R = none):=by unfold Hid;rw [HF.out,if_pos (by omega)]
  refine (Zca w2' rp bs (at_ + 5 + 5) 4 (by decide) HR2.out (by omega)).mono ?_
  rintro e w3 ⟨rfl,n1,rfl⟩
  clear h3
  go_wp2_with fail
  refine (Zch (.int .u32 0) 2 (by decide) _).mono ?_
  rintro e w4 ⟨rfl,rfl⟩
  exact Zbx HBG.out (HO2.out.trans (Zak _ _ _)) HR.out rfl rfl rfl
 refine (Zfl w2' rp bs (at_ + 5 + 5) 4 (by decide) HR2.out h3).mono ?_
 rintro e w3 ⟨rfl,hr3,ho3⟩
 have HR3:=Zh (show Rd w3 rp bs (at_ + 14) from hr3)
 have HO3:=Zh (HO2.out.trans ho3)
 have hz:=Zdj bs (at_ + 5 + 5) 4
 have HF3:=Zh (show R = hdrB bs na nb (num bs (at_ + 5 + 5) 4 + 4) (at_ + 14) from by rw [HF.out,if_neg (by omega)])
 clear HO2 HR2 hr3 ho3 h3 HF
 generalize num bs (at_ + 5 + 5) 4 = z at *
 obtain ⟨n,hn⟩:∃ n,z + 4 = n:=⟨_,rfl⟩
 have q3:(z:Int) + 4 = (n:Int):=by omega
 have hn19:n <= 19:=by omega
 rw [hn] at HF3
 generalize at_ + 14 = p at *
 clear hn
 go_wp2_with fail
 refine (Zci _ w3).mono ?_
 rintro e w3' ⟨rfl,rfl⟩
 go_wp2_with (first | (at_make;refine makeN (n:=19) Zfb rfl _ _ rfl w3'.heap.size rfl rfl (by decide) (by decide) (Nat.le_refl _) ?_;intro w4 hown4 hg4) | (go_at_call 48;refine (Zoa w4).mono ?_;rintro e w5 ⟨rfl,rfl⟩))
 have hsz3:=HO3.out.size
 have hB34:Below w3'.heap.size w3' w4:=Below.of_grown hg4 (Nat.le_refl _) (fun k e=>by cases e)
 have hB45:=Zav w4 (.cells #[.int .u8 16,.int .u8 17,.int .u8 18,.int .u8 0,.int .u8 8,.int .u8 7,.int .u8 9,.int .u8 6,.int .u8 10,.int .u8 5,.int .u8 11,.int .u8 4,.int .u8 12,.int .u8 3,.int .u8 13,.int .u8 2,.int .u8 14,.int .u8 1,.int .u8 15] 5)
 have HORD:=Zh (show RowN .u8 _ (some ⟨w4.heap.size,0,none⟩) 19 ordL from Zth .u8 w4 ordL 5 #[.int .u8 16,.int .u8 17,.int .u8 18,.int .u8 0,.int .u8 8,.int .u8 7,.int .u8 9,.int .u8 6,.int .u8 10,.int .u8 5,.int .u8 11,.int .u8 4,.int .u8 12,.int .u8 3,.int .u8 13,.int .u8 2,.int .u8 14,.int .u8 1,.int .u8 15] w4.heap.size rfl rfl (by decide))
 have HO5:=Zh ((HO3.out.below hB34).below hB45)
 have HR5:=Zh ((HR3.out.below hB34).below hB45)
 have HL5:=Zh (show OwnN 5 .u8 _ w3'.heap.size (some ⟨w3'.heap.size,0,none⟩) 19 (lensL bs p 0) from hown4.below hB45)
 have hob:w3'.heap.size < w4.heap.size:=by
  rcases hown4.form with ⟨h,_⟩ | ⟨g,h1,_,h2⟩
  ·cases h
  ·cases h1;exact h2
 clear HO3 HR3 hown4 hg4 hB34 hB45
 obtain ⟨ob,hobe⟩:∃ ob,w4.heap.size = ob:=⟨_,rfl⟩
 obtain ⟨lb,hlbe⟩:∃ lb,w3'.heap.size = lb:=⟨_,rfl⟩
 simp only [hobe,hlbe] at hsz3 HORD HL5 hob
 simp only [hobe,hlbe]
 have hrpl:rp < lb:=by have:=HBG.out.size;have:=HBG.out.rp;omega
 have HW0:=Zh hsz3
 clear hobe hlbe hq
 generalize w4.alloc (.cells #[.int .u8 16,.int .u8 17,.int .u8 18,.int .u8 0,.int .u8 8,.int .u8 7,.int .u8 9,.int .u8 6,.int .u8 10,.int .u8 5,.int .u8 11,.int .u8 4,.int .u8 12,.int .u8 3,.int .u8 13,.int .u8 2,.int .u8 14,.int .u8 1,.int .u8 15] 5) = w5 at *
 clear q3 hz
 go_loopw [10,48] (fun _ i A=>∃ k:Nat,k <= n /\ i = .int .i64 k /\ Only (fun b=>b = rp) w0 A /\ Rd A rp bs (p + 3 * k) /\ OwnN 5 .u8 A lb (some ⟨lb,0,none⟩) 19 (lensL bs p k) /\ RowN .u8 A (some ⟨ob,0,none⟩) 19 ordL) (fun _ i _=>n - (intOf i).toNat)
 case atStart=>exact ⟨0,by omega,rfl,HO5.out,HR5.out,HL5.out,HORD.out⟩
 case round =>
  clear HO5 HR5 HL5 HORD
  obtain ⟨k,hk,rfl,ho,hrd,hown,hrow⟩:=hrel
  have HO:=Zh ho
  have HRD:=Zh hrd
  have HOWN:=Zh hown
  have HROW:=Zh hrow
  by_cases hlt:k < n
  ·have hk19:k < ordL.length:=by show k < 19;omega
   obtain ⟨b',off,he,hb,hck⟩:=hrow.at hk19
   simp only [Option.some.injEq,Addr.mk.injEq,and_true] at he
   obtain ⟨rfl,rfl⟩:=he
   rw [Nat.zero_add] at hck
   have hge:ordL[k] = ordL.getD k 0:=by simp [hk19]
   have hc19:=Zsx ⟨k,by omega⟩
   have HLS:=Zh (show lensL bs p (k + 1) = (lensL bs p k).set (ordL.getD k 0) (num bs (p + 3 * k) 3) from rfl)
   have hll:=Zeo bs p k
   rw [hge] at hck
   simp only at hc19
   clear ho hrd hrow hk19 hge
   generalize ordL.getD k 0 = c at *
   obtain ⟨g',he2,_,_,hcl,hfr⟩:=hown.at (i:=c) (by omega)
   simp only [Option.some.injEq,Addr.mk.injEq,and_true] at he2
   subst he2
   generalize (lensL bs p k)[c] = old at *
   clear hown hll
   go_wp2_with fail
   by_cases h4:p + 3 * k + 3 <= 8 * bs.length
   case neg =>
    have HR:Hid (R = none):=by
     unfold Hid;rw [HF3.out];unfold hdrB;rw [if_pos (by omega)]
    refine (Zca _ rp bs (p + 3 * k) 3 (by decide) HRD.out (by omega)).mono ?_
    rintro e w6 ⟨rfl,n1,rfl⟩
    clear h4
    go_wp2_with fail
    refine (Zch (.int .u32 0) 2 (by decide) _).mono ?_
    rintro e w7 ⟨rfl,rfl⟩
    exact Zbx HBG.out (HO.out.trans (Zak _ _ _)) HR.out rfl rfl rfl
   have hv:=Zdj bs (p + 3 * k) 3
   refine (Zfl _ rp bs (p + 3 * k) 3 (by decide) HRD.out h4).mono ?_
   rintro e w6 ⟨rfl,hr6,ho6⟩
   have hne:∀ b:Nat,rp < b -> b ≠ rp:=fun b h=>by omega
   have hcl6:w6.cell? ⟨lb,c,none⟩ = _:=(World.cell?_of_block (a:=⟨lb,c,none⟩) (ho6.block lb (World.cell?_lt hcl) (hne _ hrpl))).trans hcl
   have hfr6:w6.frozen? ⟨lb,c,none⟩ = false:=(World.frozen?_of_block (a:=⟨lb,c,none⟩) (ho6.block lb (World.cell?_lt hcl) (hne _ hrpl))).trans hfr
   have hsz6:=ho6.size
   have HRD6:=Zh hr6
   have HO6:=Zh (HO.out.trans ho6)
   have HOWN6:=Zh (HOWN.out.only ho6 (fun b hb=>hne b (by omega)))
   have HROW6:=Zh (HROW.out.same ho6.size (fun x _ hx=>by cases hx;exact ho6.block _ hb (hne _ (by show rp < ob;omega))))
   clear HO HRD HOWN HROW hr6 ho6 hcl hfr hck h4
   generalize num bs (p + 3 * k) 3 = v at *
   go_wp2_with fail
   refine (Zci _ w6).mono ?_
   rintro e w6' ⟨rfl,rfl⟩
   go_wp2_with fail
   have g1:Only (fun b=>b = lb) w6' (w6'.setCell ⟨lb,c,none⟩ (.int .u8 (v:Nat))):=(Only.refl (fun b=>b = lb) w6').setCell (p:=⟨lb,c,none⟩) (.inl rfl) _
   refine ⟨⟨k + 1,by omega,by go_num,HO6.out.setCell (p:=⟨lb,c,none⟩) (.inr (by show _ <= lb;omega)) _,?_,?_,?_⟩,by simp [intOf];omega⟩
   ·rw [show p + 3 * (k + 1) = p + 3 * k + 3 by omega]
    exact HRD6.out.only g1 (fun b hb e=>by omega)
   ·rw [HLS.out]
    exact (HOWN6.out.stored c v).1
   ·exact HROW6.out.same g1.size (fun x _ hx=>by cases hx;exact g1.block _ (Nat.lt_of_lt_of_le hb hsz6) (by show ob ≠ lb;omega))
  ·obtain rfl:k = n:=by omega
   have hp3:p + 3 * k <= 8 * bs.length:=by obtain ⟨_,_,_,_,_,_,h,_⟩:=hrd;exact h
   have hll:=Zeo bs p k
   have HF4:=Zh (show R = if (clsE (lensL bs p k)).1 ≠ 2 then none else hdrE na (na + nb) (sgL (lensL bs p k) bs (na + nb) 400 (p + 3 * k) 0 []) from by rw [HF3.out];unfold hdrB;rw [if_neg (by omega)])
   have HK:=Zh (fun A (h:RowN .u8 A (some ⟨lb,0,none⟩) 19 (lensL bs p k))=>Zbf (some ⟨lb,0,none⟩) 19 (lensL bs p k) A h)
   have HNW:=Zh (fun A (h:RowN .u8 A (some ⟨lb,0,none⟩) 19 (lensL bs p k))=>Zcd (some ⟨lb,0,none⟩) 19 (lensL bs p k) A h)
   have HC2:=Zh (fun h=>cls2 (l:=lensL bs p k) h)
   rw [hll] at HK HNW
   clear hrow hown ho hrd HROW HF3
   generalize lensL bs p k = lens at *
   generalize p + 3 * k = p2 at *
   go_wp2_with fail
   refine (HK.out _ HOWN.out.row).mono ?_
   rintro e w6 ⟨rfl,rfl⟩
   clear HK
   by_cases hcl:(clsE lens).1 = 2
   case neg =>
    have HR:Hid (R = none):=by unfold Hid;rw [HF4.out,if_pos hcl]
    have t1:(((clsE lens).1:Int) != 2) = true:=by simp;omega
    clear HF4 HC2 HNW hcl
    generalize clsE lens = ce at *
    obtain ⟨cl,ee⟩:=ce
    simp only at t1
    have HRES:=HBG.out.resAt HO.out
    obtain ⟨r1,r2,r3⟩:=HRES
    have g1:=cell_of_one r1
    have g2:=cell_of_one r2
    have g3:=cell_of_one r3
    have f1:wr.frozen? ⟨q,0,none⟩ = false:=by simp [World.frozen?,r1]
    have f2:wr.frozen? ⟨q + 1,0,none⟩ = false:=by simp [World.frozen?,r2]
    have f3:wr.frozen? ⟨q + 1 + 1,0,none⟩ = false:=by simp [World.frozen?,r3]
    clear r1 r2 r3
    go_wp2_with fail
    exact Zit HBG.out HO.out HR.out rfl rfl rfl
   obtain ⟨hw0,hmay⟩:=HC2.out hcl
   have HF5:=Zh (show R = hdrE na (na + nb) (sgL lens bs (na + nb) 400 p2 0 []) from by rw [HF4.out,if_neg (by simpa using hcl)])
   have HMAY:=Zh hmay
   have HN:=Zh (HNW.out wr HOWN.out.row)
   unfold Hid at HN
   simp only [if_pos hw0] at HN
   replace HN:=Zh HN
   have ht1:(((clsE lens).1:Int) != 2) = false:=by rw [hcl];rfl
   clear HF4 HC2 HNW hcl hw0 hmay
   generalize clsE lens = ce at *
   obtain ⟨cl,ee⟩:=ce
   simp only at ht1
   go_wp2_with fail
   refine HN.out.mono ?_
   rintro e w8 ⟨hb8,tp,rfl,htb⟩
   have HT:=Zh htb
   have HO8:=Zh (HO.out.below hb8)
   have HRD8:=Zh (HRD.out.below hb8)
   have hrplo:rp < wr.heap.size:=HRD.out.lt
   have hb8s:=hb8.size
   clear HN hb8 htb HO HRD HOWN ht1 hp3
   generalize wr.heap.size = lo at *
   obtain ⟨hi,hhi⟩:∃ hi,w8.heap.size = hi:=⟨_,rfl⟩
   have HHI:=Zh hhi
   rw [hhi] at HT hb8s
   clear hhi
   obtain ⟨tot,htot⟩:∃ tot,na + nb = tot:=⟨_,rfl⟩
   have qt:(na:Int) + (nb:Int) = (tot:Int):=by omega
   have htot2:tot <= 320 /\ na <= tot:=by omega
   rw [htot] at HF5
   replace htot:=Zh htot
   obtain ⟨SG,hSG⟩:∃ SG,SG = sgL lens bs tot 400 p2 0 []:=⟨_,rfl⟩
   rw [<- hSG] at HF5
   replace hSG:=Zh hSG
   go_wp2_with fail
   go_loopw [15,16,17,105] (fun s sd _ _ A=>∃ (f at2 said:Nat) (acc:List Sg) (b:Option Addr) (c:Nat),s = .slice b acc.length c /\ sd = .int .i64 (said:Nat) /\ Only (fun b=>b = rp) w8 A /\ Rd A rp bs at2 /\ OwnS encSg 95 A hi b c acc /\ (∀ s ∈ acc,SgOk s) /\ acc.length <= said /\ said <= 500 /\ f + acc.length = 400 /\ acc.length <= 320 /\ SG = sgL lens bs tot f at2 said acc) (fun _ sd _ _ _=>1000 - (intOf sd).toNat)
   case atStart=>exact ⟨400,p2,0,[],none,0,rfl,rfl,Only.refl _ _,HRD8.out,OwnS.nil _ _ _ _,by simp,by simp,by omega,rfl,by simp,hSG.out⟩
   case round =>
    clear HRD8 hSG
    obtain ⟨f,at2,said,acc,sb,sc,rfl,rfl,ho,hrd,hown,hok,hal,hs5,hf,hal3,hsg⟩:=hrel
    have HO:=Zh ho
    have HRD:=Zh hrd
    have HOWN:=Zh hown
    have HOK:=Zh hok
    clear ho hrd hown hok
    by_cases hlt:said < tot
    ·obtain ⟨f,rfl⟩:∃ g,f = g + 1:=⟨f - 1,by omega⟩
     rw [Zed] at hsg
     unfold sgStep at hsg
     rw [if_pos hlt] at hsg
     have HG:=Zh (Zea _ lo hi tp rp lens bs at2 HMAY.out.1 (HT.out.only HO.out (fun b h1 h2 e=>by omega)) HRD.out (.inl hrplo))
     have HSS:=Zh (fun s a h=>Zii (l:=lens) (bs:=bs) (at_:=at2) (s:=s) (at2:=a) HMAY.out.1 h)
     generalize hsy:sym lens bs at2 = s1 at *
     rcases s1 with _ | ⟨c,a1⟩
     ·have HR:Hid (R = none):=by unfold Hid;rw [HF5.out,hsg];rfl
      clear hsg HSS hsy
      go_wp2_with fail
      refine HG.out.mono ?_
      rintro e w9 ⟨ho9,hs9⟩
      obtain rfl:e = _:=hs9
      have HO9:=Zh ((HO8.out.trans HO.out).trans ho9)
      clear ho9 HG
      go_wp2_with fail
      refine (Zod (.int .i64 0) 2 (by decide) w9).mono ?_
      rintro e w10 ⟨rfl,rfl⟩
      exact Zbx HBG.out HO9.out HR.out rfl rfl rfl
     have hss:=HSS.out c a1 rfl
     have hc18:c <= 18:=by omega
     clear HSS hsy hss
     have HSG:=Zh hsg
     clear hsg
     go_wp2_with fail
     refine HG.out.mono ?_
     rintro e w9 ⟨ho9,hs9⟩
     obtain ⟨rfl,hrd9⟩:e = _ /\ _:=hs9
     have HO9:=Zh (HO.out.trans ho9)
     have HRD9:=Zh hrd9
     have HOW9:=Zh (HOWN.out.kept (row:=some rp) ⟨ho9.os,ho9.tape,ho9.output,ho9.size,fun k hk he=>ho9.block k hk (fun e=>he (by rw [e]))⟩ (fun g hg e=>by
      cases e
      rcases HOWN.out.form with ⟨h,_⟩ | ⟨g',h,hge,_⟩
      ·rw [h] at hg;cases hg
      ·rw [h] at hg;cases hg;omega))
     clear ho9 hrd9 HG HO HRD HOWN
     go_wp2_with fail
     refine (Zoe _ w9).mono ?_
     rintro e w9' ⟨rfl,rfl⟩
     go_wp2_with fail
     have HAN:=Zh (World.alloc_heap_new w9' (.cells #[.int .u8 (c:Nat),.int .u8 0] 95))
     have HBA:=Zh (Zav w9' (.cells #[.int .u8 (c:Nat),.int .u8 0] 95))
     have HRDA:=Zh (HRD9.out.below HBA.out)
     have HOA:=Zh (HO9.out.below HBA.out)
     have HOWA:=Zh (HOW9.out.below HBA.out)
     have hgw:hi <= w9'.heap.size:=by have:=HHI.out;have:=HO9.out.size;omega
     have hgr:rp < w9'.heap.size:=HRD9.out.lt
     have HOWF:=Zh (fun g (h:sb = some ⟨g,0,none⟩)=>(show g < w9'.heap.size from by
      rcases HOW9.out.form with ⟨h',_⟩ | ⟨g',h',_,hlt'⟩
      ·rw [h'] at h;cases h
      ·rw [h'] at h;cases h;exact hlt'))
     clear HO9 HRD9 HOW9 HBA
     generalize w9'.alloc (.cells #[.int .u8 (c:Nat),.int .u8 0] 95) = W at *
     generalize w9'.heap.size = g at *
     obtain ⟨e0,e1,d0,d1⟩:=Zae HAN.out
     refine (Zec c W).mono ?_
     rintro e W' ⟨rfl,rfl⟩
     have hbn7:rbits c <= 7:=by unfold rbits;(repeat' split) <;> omega
     have HTD:=Zh (show ∀ v,times (c,v) = if c < 16 then 1 else if c < 18 then 3 + v else 11 + v from fun v=>rfl)
     have HSGOK:=Zh (fun v (h:v < 2 ^ rbits c)=>(show SgOk (c,v) from ⟨hc18,h⟩))
     have HSG2:=Zh (show SG = if a1 + rbits c <= 8 * bs.length then sgL lens bs tot f (a1 + rbits c) (said + times (c,num bs a1 (rbits c))) (acc ++ [(c,num bs a1 (rbits c))]) else none from HSG.out)
     clear HSG
     generalize rbits c = bn at *
     go_wp2_with fail
     by_cases h10:a1 + bn <= 8 * bs.length
     case neg =>
      have HR:Hid (R = none):=by unfold Hid;rw [HF5.out,HSG2.out,if_neg h10];rfl
      clear HSG2
      refine (Zca W' rp bs a1 bn (by omega) HRDA.out (by omega)).mono ?_
      rintro e w10 ⟨rfl,n1,rfl⟩
      clear h10 e0 e1 d0 d1
      go_wp2_with fail
      refine (Zch (.int .u32 0) 2 (by decide) _).mono ?_
      rintro e w11 ⟨rfl,rfl⟩
      exact Zbx HBG.out ((HO8.out.trans HOA.out).trans (Zak _ _ _)) HR.out rfl rfl rfl
     have hv:=Zdj bs a1 bn
     have HSG3:Hid (SG = sgL lens bs tot f (a1 + bn) (said + times (c,num bs a1 bn)) (acc ++ [(c,num bs a1 bn)])):=by unfold Hid;rw [HSG2.out,if_pos h10]
     have hok1:=HSGOK.out (num bs a1 bn) hv
     have hv7:num bs a1 bn < 128:=hok1.lt
     have htb1:=Zfp hok1
     have HOK1:=Zh hok1
     refine (Zfl W' rp bs a1 bn (by omega) HRDA.out h10).mono ?_
     rintro e w10 ⟨rfl,hr10,ho10⟩
     have gne:g ≠ rp:=by omega
     have k0:w10.cell? ⟨g,0,none⟩ = _:=(World.cell?_of_block (a:=⟨g,0,none⟩) (ho10.block g (World.cell?_lt e0) gne)).trans e0
     have k1:w10.cell? ⟨g,1,none⟩ = _:=(World.cell?_of_block (a:=⟨g,1,none⟩) (ho10.block g (World.cell?_lt e0) gne)).trans e1
     have l0:w10.frozen? ⟨g,0,none⟩ = false:=(World.frozen?_of_block (a:=⟨g,0,none⟩) (ho10.block g (World.cell?_lt e0) gne)).trans d0
     have l1:w10.frozen? ⟨g,1,none⟩ = false:=(World.frozen?_of_block (a:=⟨g,1,none⟩) (ho10.block g (World.cell?_lt e0) gne)).trans d1
     have HRD10:=Zh hr10
     have HO10:=Zh (HOA.out.trans ho10)
     have HOW10:=Zh (HOWA.out.kept (row:=some rp) ⟨ho10.os,ho10.tape,ho10.output,ho10.size,fun k hk he=>ho10.block k hk (fun e=>he (by rw [e]))⟩ (fun g' hg e=>by
      cases e
      rcases HOWA.out.form with ⟨h,_⟩ | ⟨g'',h,hge,_⟩
      ·rw [h] at hg;cases hg
      ·rw [h] at hg;cases hg;omega))
     have HAT10:=Zh (ho10.block g (World.cell?_lt e0) gne |>.trans HAN.out)
     clear HOA HRDA HOWA hr10 ho10 HSG2 h10 e0 e1 d0 d1 hok1 HAN
     generalize num bs a1 bn = v at *
     go_wp2_with fail
     refine (Zci _ w10).mono ?_
     rintro e w10' ⟨rfl,rfl⟩
     obtain ⟨tm,htme⟩:∃ tm,tm = times (c,v):=⟨_,rfl⟩
     rw [<- htme] at HSG3 htb1
     have htme2:=htme.trans (HTD.out v)
     clear htme HTD HSGOK hv
     have htme:=Zh htme2
     clear htme2
     have g1:Only (fun b=>b = g) w10' (w10'.setCell ⟨g,1,none⟩ (.int .u8 (v:Nat))):=(Only.refl (fun b=>b = g) w10').setCell (p:=⟨g,1,none⟩) (.inl rfl) _
     have hHH:=HHI.out
     have hgl:∀ b,b <= rp -> ¬ (b = g):=fun b hb e=>by omega
     have HRD11:=Zh (HRD10.out.only g1 hgl)
     have HO11:=Zh (HO10.out.setCell (p:=⟨g,1,none⟩) (.inr (by show _ <= g;omega)) (.int .u8 (v:Nat)))
     have HOW11:=Zh (HOW10.out.other (p:=⟨g,1,none⟩) (fun g' hg=>by have:=HOWF.out g' hg;show g ≠ g';omega) (.int .u8 (v:Nat)))
     have hw11:hi <= (w10'.setCell ⟨g,1,none⟩ (.int .u8 (v:Nat))).heap.size:=by have:=HO11.out.size;omega
     have HAT11:=Zh (Zaq (x:=.int .u8 (v:Nat)) HAT10.out).2
     clear HO10 HRD10 HOW10 HAT10 hHH g1 hgl
     go_wp2_with (at_builtin;refine (fun h=>Hid.out h) ?_)
     unfold Hid
     refine app1S Zaz rfl (.tmp 97) (.tmp 99) rfl (c,v) (base:=hi) rfl HOW11.out (show Value.slice (some ⟨w10'.heap.size,0,none⟩) 1 1 = .slice (some ⟨(w10'.setCell ⟨g,1,none⟩ (.int .u8 (v:Nat))).heap.size,0,none⟩) 1 1 by simp) rfl (Nat.le_refl _) (by decide) (by omega) (by omega) hw11 ?_
     intro a7 cap7 w7 hown7 hg7 hb7
     have hHH:=HHI.out
     have HO7:=Zh (HO11.out.belowAt hHH hb7)
     have HRD7:=Zh (HRD11.out.belowAt hb7 (by omega))
     have HAT7:=Zh ((hg7.block g (World.cell?_lt (Zae HAT11.out).1) (by
      rcases HOW11.out.form with ⟨h,_⟩ | ⟨g',h,_⟩
      ·rw [h];simp [Value.ownBlock]
      ·have h2:=HOWF.out g' h
       rw [h];simp [Value.ownBlock];omega)).trans HAT11.out)
     replace hown7:=Zh hown7
     have HOK7:Hid (∀ s ∈ acc ++ [(c,v)],SgOk s):=by
      unfold Hid
      intro s hs
      rcases List.mem_append.1 hs with h | h
      ·exact HOK.out s h
      ·rw [List.mem_singleton.1 h];exact HOK1.out
     obtain ⟨e0,e1,d0,d1⟩:=Zae HAT7.out
     obtain ⟨s1,hs1⟩:∃ s1,said + 1 = s1:=⟨_,rfl⟩
     have qa:(said:Int) + 1 = (s1:Int):=by omega
     clear HO11 HRD11 HOW11 HAT11 hg7 hb7 hw11 HOWF HOK HOK1 hHH HAT7 k0 k1 l0 l1
     by_cases h16:c = 16
     ·have t16:((c:Int) == 16) = true:=by rw [h16];rfl
      obtain ⟨v2,hv2⟩:∃ v2,2 + v = v2:=⟨_,rfl⟩
      have qb:(2:Int) + (v:Int) = (v2:Int):=by omega
      have htm2:tm = 3 + v:=by rw [htme.out];rw [if_neg (by omega),if_pos (by omega)]
      obtain ⟨s3,hs3⟩:∃ s3,s1 + v2 = s3:=⟨_,rfl⟩
      have qc:(s1:Int) + (v2:Int) = (s3:Int):=by omega
      have HSG4:Hid (SG = sgL lens bs tot f (a1 + bn) s3 (acc ++ [(c,v)])):=by unfold Hid;rw [show s3 = said + tm by omega];exact HSG3.out
      have hsm:s1 <= 501 /\ v2 <= 140 /\ s3 <= 500 /\ said < s3 /\ acc.length + 1 <= s3:=by omega
      clear htm2 hs3 hs1 hv2 HSG3 htme
      clear h16
      go_wp2
      go_roundw
      case rel=>exact ⟨f,a1 + bn,s3,acc ++ [(c,v)],a7,cap7,by rw [List.length_append];rfl,by go_num,HO7.out,HRD7.out,hown7.out,HOK7.out,by rw [List.length_append];show acc.length + 1 <= _;omega,by omega,by rw [List.length_append];show f + (acc.length + 1) = 400;omega,by rw [List.length_append];show acc.length + 1 <= 320;omega,HSG4.out⟩
      case measure=>simp [intOf];omega
     by_cases h17:c = 17
     ·have t16:((c:Int) == 16) = false:=beq_eq_false_iff_ne.2 (by omega)
      have t17:((c:Int) == 17) = true:=by rw [h17];rfl
      obtain ⟨v2,hv2⟩:∃ v2,2 + v = v2:=⟨_,rfl⟩
      have qb:(2:Int) + (v:Int) = (v2:Int):=by omega
      have htm2:tm = 3 + v:=by rw [htme.out];rw [if_neg (by omega),if_pos (by omega)]
      obtain ⟨s3,hs3⟩:∃ s3,s1 + v2 = s3:=⟨_,rfl⟩
      have qc:(s1:Int) + (v2:Int) = (s3:Int):=by omega
      have HSG4:Hid (SG = sgL lens bs tot f (a1 + bn) s3 (acc ++ [(c,v)])):=by unfold Hid;rw [show s3 = said + tm by omega];exact HSG3.out
      have hsm:s1 <= 501 /\ v2 <= 140 /\ s3 <= 500 /\ said < s3 /\ acc.length + 1 <= s3:=by omega
      clear htm2 hs3 hs1 hv2 HSG3 htme
      clear h16 h17
      go_wp2
      go_roundw
      case rel=>exact ⟨f,a1 + bn,s3,acc ++ [(c,v)],a7,cap7,by rw [List.length_append];rfl,by go_num,HO7.out,HRD7.out,hown7.out,HOK7.out,by rw [List.length_append];show acc.length + 1 <= _;omega,by omega,by rw [List.length_append];show f + (acc.length + 1) = 400;omega,by rw [List.length_append];show acc.length + 1 <= 320;omega,HSG4.out⟩
      case measure=>simp [intOf];omega
     by_cases h18:c = 18
     ·have t16:((c:Int) == 16) = false:=beq_eq_false_iff_ne.2 (by omega)
      have t17:((c:Int) == 17) = false:=beq_eq_false_iff_ne.2 (by omega)
      have t18:((c:Int) == 18) = true:=by rw [h18];rfl
      obtain ⟨v2,hv2⟩:∃ v2,10 + v = v2:=⟨_,rfl⟩
      have qb:(10:Int) + (v:Int) = (v2:Int):=by omega
      have htm2:tm = 11 + v:=by rw [htme.out];rw [if_neg (by omega),if_neg (by omega)]
      obtain ⟨s3,hs3⟩:∃ s3,s1 + v2 = s3:=⟨_,rfl⟩
      have qc:(s1:Int) + (v2:Int) = (s3:Int):=by omega
      have HSG4:Hid (SG = sgL lens bs tot f (a1 + bn) s3 (acc ++ [(c,v)])):=by unfold Hid;rw [show s3 = said + tm by omega];exact HSG3.out
      have hsm:s1 <= 501 /\ v2 <= 140 /\ s3 <= 500 /\ said < s3 /\ acc.length + 1 <= s3:=by omega
      clear htm2 hs3 hs1 hv2 HSG3 htme
      clear h16 h17 h18
      go_wp2
      go_roundw
      case rel=>exact ⟨f,a1 + bn,s3,acc ++ [(c,v)],a7,cap7,by rw [List.length_append];rfl,by go_num,HO7.out,HRD7.out,hown7.out,HOK7.out,by rw [List.length_append];show acc.length + 1 <= _;omega,by omega,by rw [List.length_append];show f + (acc.length + 1) = 400;omega,by rw [List.length_append];show acc.length + 1 <= 320;omega,HSG4.out⟩
      case measure=>simp [intOf];omega
     ·have t16:((c:Int) == 16) = false:=beq_eq_false_iff_ne.2 (by omega)
      have t17:((c:Int) == 17) = false:=beq_eq_false_iff_ne.2 (by omega)
      have t18:((c:Int) == 18) = false:=beq_eq_false_iff_ne.2 (by omega)
      have htm2:tm = 1:=by rw [htme.out,if_pos (by omega)]
      obtain ⟨s3,hs3⟩:∃ s3,s1 = s3:=⟨_,rfl⟩
      have HSG4:Hid (SG = sgL lens bs tot f (a1 + bn) s3 (acc ++ [(c,v)])):=by unfold Hid;rw [show s3 = said + tm by omega];exact HSG3.out
      have hsm:s3 <= 500 /\ said < s3 /\ acc.length + 1 <= s3:=by omega
      subst hs3
      clear htm2 hs1 HSG3 htme h16 h17 h18
      go_wp2
      go_roundw
      case rel=>exact ⟨f,a1 + bn,s1,acc ++ [(c,v)],a7,cap7,by rw [List.length_append];rfl,by go_num,HO7.out,HRD7.out,hown7.out,HOK7.out,by rw [List.length_append];show acc.length + 1 <= _;omega,by omega,by rw [List.length_append];show f + (acc.length + 1) = 400;omega,by rw [List.length_append];show acc.length + 1 <= 320;omega,HSG4.out⟩
      case measure=>simp [intOf];omega
    ·obtain ⟨f,rfl⟩:∃ g,f = g + 1:=⟨f - 1,by omega⟩
     rw [Zed] at hsg
     unfold sgStep at hsg
     rw [if_neg hlt] at hsg
     rw [hsg] at HF5
     have HF6:=Zh (show R = match unp tot acc [] with
      | none=>none
      | some all=>if mayH (all.take na) (all.drop na) = true then some ((all.take na,all.drop na),at2) else none from HF5.out)
     have HUL:=Zh (fun all h=>Zaho (n:=tot) acc [] all h)
     have hz:=HO.out.size
     have hz0:=HO8.out.size
     clear hsg HF5
     have HU:=Zh (Zmo sb sc acc tot wr HOWN.out.row HOK.out (by omega) (by omega))
     clear HOK
     generalize unp tot acc [] = U at *
     rcases U with _ | all
     ·have HR:Hid (R = none):=HF6.out
      clear HF6 HUL
      go_wp2_with fail
      refine HU.out.mono ?_
      rintro e w12 ⟨hb12,hu⟩
      obtain rfl:e = _:=hu
      have HO12:=Zh ((HO8.out.trans HO.out).below hb12)
      clear HU hb12 HOWN HO HO8
      go_wp2_with fail
      refine (Zof (.slice none 0 0) 2 (by decide) w12).mono ?_
      rintro e w13 ⟨rfl,rfl⟩
      exact Zbx HBG.out HO12.out HR.out rfl rfl rfl
     have hall:=HUL.out all rfl
     go_wp2_with fail
     refine HU.out.mono ?_
     rintro e w12 ⟨hb12,hu⟩
     obtain ⟨aa,ac,rfl,howa⟩:=hu
     have HO12:=Zh ((HO8.out.trans HO.out).below hb12)
     have HRD12:=Zh (HRD.out.below hb12)
     obtain ⟨ga,rfl,hga1,hga2⟩:∃ g,aa = some ⟨g,0,none⟩ /\ wr.heap.size <= g /\ g < w12.heap.size:=by
      rcases howa.form with ⟨_,_,h⟩ | h
      ·rw [h] at hall;simp at hall;omega
      ·exact h
     have HROW:=Zh howa.row
     have hcap:tot <= ac:=by have:=howa.row.1;omega
     clear HU hb12 HOWN HO HO8 HRD howa HUL
     rw [hall]
     have q1:(0:Int) <= (na:Int):=by omega
     have q2:(na:Int) <= (ac:Int):=by omega
     have q3:(na:Int) <= (tot:Int):=by omega
     obtain ⟨R1,hR1⟩:∃ R1,R1 = mayH (all.take na) (all.drop na):=⟨_,rfl⟩
     have hl1:(all.take na).length = na:=by simp;omega
     have hl2:(all.drop na).length = tot - na:=by simp;omega
     have HMY:=Zh (fun A (h1:RowN .u8 A (some ⟨ga,0,none⟩) ac (all.take na)) (h2:RowN .u8 A (some ⟨ga,na,none⟩) (ac - na) (all.drop na))=>Zxr (some ⟨ga,0,none⟩) (some ⟨ga,na,none⟩) ac (ac - na) (all.take na) (all.drop na) A h1 h2 (by omega) (by omega))
     rw [hl1,hl2,<- hR1] at HMY
     replace hR1:=Zh hR1
     go_wp2_with fail
     refine (Zog _ w12).mono ?_
     rintro e w13 ⟨rfl,rfl⟩
     go_wp2_with fail
     have HR1:=Zh (Zgc HROW.out na)
     have HR2:=Zh (Zzf HROW.out na (by omega))
     rw [Nat.zero_add] at HR2
     go_quiet ((go_at_call 46;exact (HMY.out _ (HR1.out.drewN _) (HR2.out.drewN _)).mono (fun _ _ h=>⟨h.1,_,h.2⟩)))
     have HO13:=Zh (HO12.out.trans (Zak _ w13 nq))
     have HRD13:=Zh (HRD12.out.drewN nq)
     have HRA:=Zh (HR1.out.drewN nq)
     have HRB:=Zh (HR2.out.drewN nq)
     have hga3:ga < (w13.drewN nq).heap.size:=hga2
     have hw0:=HBG.out.size
     have hqa:q + 1 + 1 < ga:=by omega
     clear HO12 HRD12 HR1 HR2 hga2 HROW HMY
     generalize w13.drewN nq = w14 at *
     cases R1 with
     | false =>
      have HR:Hid (R = none):=by unfold Hid;rw [HF6.out];show (if mayH _ _ = true then _ else _) = _;rw [<- hR1.out];rfl
      obtain ⟨r1,r2,r3⟩:=HBG.out.resAt HO13.out
      have g1:=cell_of_one r1
      have g2:=cell_of_one r2
      have g3:=cell_of_one r3
      have f1:w14.frozen? ⟨q,0,none⟩ = false:=by simp [World.frozen?,r1]
      have f2:w14.frozen? ⟨q + 1,0,none⟩ = false:=by simp [World.frozen?,r2]
      have f3:w14.frozen? ⟨q + 1 + 1,0,none⟩ = false:=by simp [World.frozen?,r3]
      clear r1 r2 r3 HF6 hR1
      go_wp2_with fail
      exact Zit HBG.out HO13.out HR.out rfl rfl rfl
     | true =>
      have HR:Hid (R = some ((all.take na,all.drop na),at2)):=by unfold Hid;rw [HF6.out];show (if mayH _ _ = true then _ else _) = _;rw [<- hR1.out];rfl
      clear HF6 hR1
      go_wp2_with fail
      have hnac:na <= ac:=by omega
      have hnt:na < tot:=by omega
      have HO15:=Zh (show Only (fun b=>b = rp) w0 w14.drew from HO13.out.trans (Zak _ w14 1))
      have HRD15:=Zh (show Rd w14.drew rp bs at2 from HRD13.out.drewN 1)
      have HRE:=Zh (show RowN .u8 w14.drew (some ⟨ga,0,none⟩) ac (all.take na) from HRA.out.drewN 1)
      have HRF:=Zh (show RowN .u8 w14.drew (some ⟨ga,na,none⟩) (ac - na) (all.drop na) from HRB.out.drewN 1)
      refine Zao [138,139,140,141,142,143,144] (fun _=>false) (fun listed w1=>StR q w14.drew (.slice (some ⟨ga,0,none⟩) na na) (.slice (some ⟨ga,na,none⟩) (tot - na) (ac - na)) (listed.getD 7 false) (listed.getD 8 false) (listed.getD 9 false) w1) (fun j v _=>match j with | 0=>v = (.slice (some ⟨ga,0,none⟩) tot ac) | 1=>v = (.int .i64 (na:Nat)) | 2=>v = (.int .i64 (na:Nat)) | 3=>v = (.slice (some ⟨ga,0,none⟩) na na) | 4=>v = (.slice (some ⟨ga,0,none⟩) tot ac) | 5=>v = (.int .i64 (na:Nat)) | 6=>v = (.slice (some ⟨ga,na,none⟩) (tot - na) (ac - na)) | _=>True) (fun _ _ _ _=>True) (by kernel_rfl) (by kernel_rfl) (OneEach.mk' (by kernel_rfl) (by kernel_rfl)) (by kernel_rfl) (by kernel_rfl) ⟨Only.refl _ w14.drew,HBG.out.resAt HO15.out⟩ ?_ ?_
      ·intro i0 o hi0 listed a1 w1 hR hil hunf hdes hanc hout hdep
       have hsz:i0 < 10:=(Array.getElem?_eq_some_iff.1 hi0).1
       have hall:i0 = 0 \/ i0 = 1 \/ i0 = 2 \/ i0 = 3 \/ i0 = 4 \/ i0 = 5 \/ i0 = 6 \/ i0 = 7 \/ i0 = 8 \/ i0 = 9:=by omega
       clear hsz
       rcases hall with rfl | rfl | rfl | rfl | rfl | rfl | rfl | rfl | rfl | rfl <;> simp only [List.getElem?_toArray,List.getElem?_cons_zero,List.getElem?_cons_succ,Option.some.injEq] at hi0 <;> subst hi0
       ·have f18:a1.eval (.tmp 18) = (.slice (some ⟨ga,0,none⟩) tot ac):=hout 18 (by decide)
        refine Zab (v:=(.slice (some ⟨ga,0,none⟩) tot ac)) (w':=w1) (by simp [execOp,f18]) ⟨_,rfl,?_,fun j u hu hV _=>⟨hV,trivial,trivial⟩,rfl⟩
        rw [Zaa (by decide),Zaa (by decide),Zaa (by decide)];exact hR
       ·have f5:a1.eval (.tmp 5) = (.int .i64 (na:Nat)):=hout 5 (by decide)
        refine Zab (v:=(.int .i64 (na:Nat))) (w':=w1) (by simp [execOp,f5]) ⟨_,rfl,?_,fun j u hu hV _=>⟨hV,trivial,trivial⟩,rfl⟩
        rw [Zaa (by decide),Zaa (by decide),Zaa (by decide)];exact hR
       ·have f5:a1.eval (.tmp 5) = (.int .i64 (na:Nat)):=hout 5 (by decide)
        refine Zab (v:=(.int .i64 (na:Nat))) (w':=w1) (by simp [execOp,f5]) ⟨_,rfl,?_,fun j u hu hV _=>⟨hV,trivial,trivial⟩,rfl⟩
        rw [Zaa (by decide),Zaa (by decide),Zaa (by decide)];exact hR
       ·have e138:a1.eval (.tmp 138) = (.slice (some ⟨ga,0,none⟩) tot ac):=hdep ⟨0,.data⟩ (by simp) rfl _ rfl
        have e139:a1.eval (.tmp 139) = (.int .i64 (na:Nat)):=hdep ⟨1,.data⟩ (by simp) rfl _ rfl
        have e140:a1.eval (.tmp 140) = (.int .i64 (na:Nat)):=hdep ⟨2,.data⟩ (by simp) rfl _ rfl
        refine Zab (v:=(.slice (some ⟨ga,0,none⟩) na na)) (w':=w1) (by simp [execOp,e138,e139,e140,cut3 ga na tot ac hnac]) ⟨_,rfl,?_,fun j u hu hV _=>⟨hV,trivial,trivial⟩,rfl⟩
        rw [Zaa (by decide),Zaa (by decide),Zaa (by decide)];exact hR
       ·have f18:a1.eval (.tmp 18) = (.slice (some ⟨ga,0,none⟩) tot ac):=hout 18 (by decide)
        refine Zab (v:=(.slice (some ⟨ga,0,none⟩) tot ac)) (w':=w1) (by simp [execOp,f18]) ⟨_,rfl,?_,fun j u hu hV _=>⟨hV,trivial,trivial⟩,rfl⟩
        rw [Zaa (by decide),Zaa (by decide),Zaa (by decide)];exact hR
       ·have f5:a1.eval (.tmp 5) = (.int .i64 (na:Nat)):=hout 5 (by decide)
        refine Zab (v:=(.int .i64 (na:Nat))) (w':=w1) (by simp [execOp,f5]) ⟨_,rfl,?_,fun j u hu hV _=>⟨hV,trivial,trivial⟩,rfl⟩
        rw [Zaa (by decide),Zaa (by decide),Zaa (by decide)];exact hR
       ·have e142:a1.eval (.tmp 142) = (.slice (some ⟨ga,0,none⟩) tot ac):=hdep ⟨4,.data⟩ (by simp) rfl _ rfl
        have e143:a1.eval (.tmp 143) = (.int .i64 (na:Nat)):=hdep ⟨5,.data⟩ (by simp) rfl _ rfl
        refine Zab (v:=(.slice (some ⟨ga,na,none⟩) (tot - na) (ac - na))) (w':=w1) (by simp [execOp,e142,e143,cutFrom ga na tot ac hnt hcap]) ⟨_,rfl,?_,fun j u hu hV _=>⟨hV,trivial,trivial⟩,rfl⟩
        rw [Zaa (by decide),Zaa (by decide),Zaa (by decide)];exact hR
       ·obtain ⟨⟨u1,g1⟩,⟨u2,g2⟩,⟨u3,g3⟩,f1,f2,f3⟩:=hR.cells
        have e141:a1.eval (.tmp 141) = (.slice (some ⟨ga,0,none⟩) na na):=hdep ⟨3,.data⟩ (by simp) rfl _ rfl
        have p0:a1.eval (.tmp 2) = .pointer (some ⟨q,0,none⟩):=hout 2 (by decide)
        refine Zan (w':=w1.setCell ⟨q,0,none⟩ (.slice (some ⟨ga,0,none⟩) na na)) (by simp [execOp,p0,e141,stU8s _ _ _ _ _ w1 g1 f1]) ⟨undef,rfl,?_,fun j u hu hV _=>⟨hV,trivial,trivial⟩,trivial⟩
        rw [Zad hil,Zaa (by decide),Zaa (by decide)];exact hR.set1
       ·obtain ⟨⟨u1,g1⟩,⟨u2,g2⟩,⟨u3,g3⟩,f1,f2,f3⟩:=hR.cells
        have e144:a1.eval (.tmp 144) = (.slice (some ⟨ga,na,none⟩) (tot - na) (ac - na)):=hdep ⟨6,.data⟩ (by simp) rfl _ rfl
        have p0:a1.eval (.tmp 3) = .pointer (some ⟨q + 1,0,none⟩):=hout 3 (by decide)
        refine Zan (w':=w1.setCell ⟨q + 1,0,none⟩ (.slice (some ⟨ga,na,none⟩) (tot - na) (ac - na))) (by simp [execOp,p0,e144,stU8s _ _ _ _ _ w1 g2 f2]) ⟨undef,rfl,?_,fun j u hu hV _=>⟨hV,trivial,trivial⟩,trivial⟩
        rw [Zaa (by decide),Zad hil,Zaa (by decide)];exact hR.set2
       ·obtain ⟨⟨u1,g1⟩,⟨u2,g2⟩,⟨u3,g3⟩,f1,f2,f3⟩:=hR.cells
        have pc:a1.eval (.const (.int .i64 0)) = .int .i64 0:=rfl
        have p0:a1.eval (.tmp 4) = .pointer (some ⟨q + 1 + 1,0,none⟩):=hout 4 (by decide)
        refine Zan (w':=w1.setCell ⟨q + 1 + 1,0,none⟩ (.int .i64 0)) (by simp [execOp,p0,pc,stErr _ _ _ w1 g3 f3]) ⟨undef,rfl,?_,fun j u hu hV _=>⟨hV,trivial,trivial⟩,trivial⟩
        rw [Zaa (by decide),Zaa (by decide),Zad hil];exact hR.set3
      ·intro listed f w1 hR hall2 hV
       rw [hall2 7 (by decide),hall2 8 (by decide),hall2 9 (by decide)] at hR
       obtain ⟨O,HRES⟩:=hR
       simp only [if_true] at HRES
       generalize w14.drew = w15 at *
       replace HRES:=Zh HRES
       replace O:=Zh O
       simp only [spread,List.contains_cons,List.contains_nil,Nat.reduceBEq,Bool.or_false,Bool.or_true,cond_true,cond_false,Nat.reduceAdd,Nat.zero_add]
       go_wp2_with fail
       refine Zso HRES.out rfl rfl rfl ?_
       have hqq:=HBG.out.rp
       have hbq:=HBG.out.base
       refine ⟨(HBG.out.only HO15.out (.slice none 0 0) (.slice none 0 0) (.slice none 0 0)).1.trans' O.out (fun b hb h=>by rw [hbq] at hb;omega),?_⟩
       rw [HR.out]
       have hsz15:ga < w15.heap.size:=by
        obtain ⟨_,_,h3⟩:=HRE.out
        rcases h3 with h3 | ⟨b,off,he,hb,_⟩
        ·rw [h3] at hl1;simp at hl1;omega
        ·simp only [Option.some.injEq,Addr.mk.injEq,and_true] at he
         obtain ⟨rfl,rfl⟩:=he
         exact hb
       have hbk:=fun b (hb:q + 1 + 1 < b) (h2:b < w15.heap.size)=>O.out.block b h2 (by show ¬ (b = q \/ b = q + 1 \/ b = q + 1 + 1);omega)
       refine ⟨some ⟨ga,0,none⟩,na,some ⟨ga,na,none⟩,ac - na,by rw [hl1,hl2],?_,?_,?_⟩
       ·exact (show RowN .u8 w15 (some ⟨ga,0,none⟩) na (all.take na) from ⟨by omega,⟨by have:=HRE.out.2.1.1;omega,fun e=>by cases e⟩,HRE.out.2.2⟩).same O.out.size (fun x _ hx=>by cases hx;exact hbk ga hqa hsz15)
       ·exact HRF.out.same O.out.size (fun x _ hx=>by cases hx;exact hbk ga hqa hsz15)
       ·exact HRD15.out.only O.out (fun b hb h=>by omega)
end Go.Proofs.YtendielanacflaaGreat
