/- cost.Codes: contract. cost.Stored. Slices of numbers that came in, as lists. Slices of tokens that came in, as lists. cost.Fixed, and the example that every law of layer 17 ends with: contracts. cost.Dynamic: contract. Layer 17: the best codes cost no more than any other codes that have the symbols (plain). Plain mathematics of layer 18: the kind of a block that costs least, parts of tokens, the whole stream. emit.fixed: contract. -/
import Derived.Test.YtendielanacflaaGreatB13
import Derived.Test.YtendielanacflaaGreatB14
import Derived.Test.YtendielanacflaaGreatB01
import Derived.Test.YtendielanacflaaGreatB02
import Derived.Test.YtendielanacflaaGreatB05
import Derived.Test.YtendielanacflaaGreatB04
import Derived.Laws.EntriesVeiled
import Derived.Test.YtendielanacflaaGreatChecked
import Derived.Deep.Slices
import Derived.Deep.Strs
import Derived.ProofKit
set_option linter.unusedVariables false
set_option linter.unusedSimpArgs false
namespace Go.Proofs.YtendielanacflaaGreat
open Go.RowKit Go.Shelf M04 M05 M08 M17
attribute [local go_sem] Oper.semAt_some
theorem mkI (n:Nat) (hn:n <= 100000):∃ O:Obj,O = .cells (madeCells #[.int .i64 0] n) 3 /\ ∀ A:World,(Instr.makeSlice 88 (.int .i64 (n:Nat)) (.int .i64 (n:Nat))).run Tryz.prog A = .ok (.slice (some ⟨A.heap.size,0,none⟩) n n) (A.alloc O):=by
 refine ⟨_,rfl,fun w=>?_⟩
 obtain ⟨i,h2,h3,h4,h5⟩:=info_parts (Zfc).info
 have:=run_make (P:=Tryz.prog) (w:=w) 88 3 i (.int .i64 0) (Zfc).und h2 h3 .i64 .i64 n n (by omega) (by omega) (by rw [h5];omega) (by omega)
 rw [this,h4]
 simp [Value.cells]
theorem Zsz {W:World} {g base n:Nat} (h:W.heap[g]? = some (.cells (madeCells #[.int .i64 0] n) 3)) (hb:base <= g) (hn:n <= 100000):OwnN 3 .i64 W base (some ⟨g,0,none⟩) n (List.replicate n 0):=by
 have hm:(madeCells #[Value.int .i64 0] n).toList = (List.replicate n (0:Nat)).map fun (n:Nat)=>Value.int .i64 n:=by
  rw [toList_madeCells_one];simp
 refine ⟨by simp,.inr ⟨g,n,madeCells #[.int .i64 0] n,?_,hb,h,?_,?_,?_,?_⟩⟩
 ·simp
 ·simp
 ·simp [maxLen];omega
 ·rw [<- Array.length_toList,hm];simp
 ·rw [hm];simp
theorem three (w:World) (X Y Z:Obj):(((w.alloc X).alloc Y).alloc Z).drew.heap[w.heap.size]? = some X /\ (((w.alloc X).alloc Y).alloc Z).drew.heap[w.heap.size + 1]? = some Y /\ (((w.alloc X).alloc Y).alloc Z).drew.heap[w.heap.size + 1 + 1]? = some Z /\ Below w.heap.size w (((w.alloc X).alloc Y).alloc Z).drew:=by
 have e1:=World.alloc_heap_new w X
 have e2:=World.alloc_heap_new (w.alloc X) Y
 have e3:=World.alloc_heap_new ((w.alloc X).alloc Y) Z
 rw [World.size_alloc] at e2
 rw [World.size_alloc,World.size_alloc] at e3
 refine ⟨?_,?_,e3,?_⟩
 ·show (((w.alloc X).alloc Y).alloc Z).heap[w.heap.size]? = some X
  rw [Below.heap_alloc _ _ _ (by simp;omega),Below.heap_alloc _ _ _ (by simp)];exact e1
 ·show (((w.alloc X).alloc Y).alloc Z).heap[w.heap.size + 1]? = some Y
  rw [Below.heap_alloc _ _ _ (by simp)];exact e2
 ·exact belDN ((((Below.refl _ w).alloc (Nat.le_refl _) _).alloc (by simp) _).alloc (by simp;omega) _) 1
structure CodI0 (w0 w:World) (fb g0 g1:Nat):Prop where
 bb:w.heap[fb]? = some (.cells #[.slice (some ⟨g0,0,none⟩) 286 286,.slice (some ⟨g1,0,none⟩) 30 30] 110)
 o0:OwnN 3 .i64 w w0.heap.size (some ⟨g0,0,none⟩) 286 (List.replicate 286 0)
 o1:OwnN 3 .i64 w w0.heap.size (some ⟨g1,0,none⟩) 30 (List.replicate 30 0)
 ne:g0 ≠ g1
 n0:g0 ≠ fb
 n1:g1 ≠ fb
 lf:w0.heap.size <= fb
 bel:Below w0.heap.size w0 w
theorem Zvy:∀ (l:List Tok),(∀ t ∈ l,t.byte < 256) -> ∀ r ∈ useU l,r.err = 0 -> rowOk r:=by
 intro l
 induction l with
 | nil=>intro _ r hr _;simp [useU] at hr;subst hr;exact ⟨rfl,by decide,by decide⟩
 | cons t l ih =>
  intro hb r hr he
  simp only [useU] at hr
  split at hr
  ·next ht =>
   rcases List.mem_append.1 hr with hr | hr
   ·exact Zsa t ht (hb t (by simp)) r hr
   ·exact ih (fun t ht=>hb t (by simp [ht])) r hr he
  ·next ht =>
   obtain ⟨r',h1,h2⟩:=Znb t ht
   rw [h1,List.mem_singleton] at hr
   subst hr
   omega
theorem Zsc:∀ (l:List Tok),∀ r ∈ useU l,r.err ≠ 0 -> r.err = 5 /\ ¬ ∀ t ∈ l,tokOk t:=by
 intro l
 induction l with
 | nil=>intro r hr h;simp [useU] at hr;subst hr;exact absurd rfl h
 | cons t l ih =>
  intro r hr h
  simp only [useU] at hr
  split at hr
  ·next ht =>
   rcases List.mem_append.1 hr with hr | hr
   ·exact absurd (Zaek t ht r hr) h
   ·obtain ⟨h1,h2⟩:=ih r hr h
    exact ⟨h1,fun hc=>h2 (fun t ht=>hc t (by simp [ht]))⟩
  ·next ht =>
   obtain ⟨r',h1,h2⟩:=Znb t ht
   rw [h1,List.mem_singleton] at hr
   subst hr
   exact ⟨h2,fun hc=>ht (hc t (by simp))⟩
theorem Zvx (l:List Tok) (h:∀ r ∈ useU l,r.err = 0):∀ t ∈ l,tokOk t:=by
 intro t ht
 by_cases hc:tokOk t
 ·exact hc
 ·obtain ⟨r,hr,he⟩:=Zaep l ⟨t,ht,hc⟩
  exact absurd (h r hr) he
structure CodI (w:World) (ff fb g0 g1:Nat) (l:List Tok) (i:Nat) (A:World):Prop where
 b0:A.heap[w.heap.size]? = some (.cells #[.slice none 0 0] 24)
 b1:A.heap[w.heap.size + 1]? = some (.cells #[.slice none 0 0] 24)
 b2:A.heap[w.heap.size + 1 + 1]? = some (.cells #[.int .i64 0] 25)
 bf:A.heap[ff]? = some (.cells #[.func (.func 70) #[] #[.pointer (some ⟨fb,0,none⟩)]] 113)
 bb:A.heap[fb]? = some (.cells #[.slice (some ⟨g0,0,none⟩) 286 286,.slice (some ⟨g1,0,none⟩) 30 30] 110)
 o0:OwnN 3 .i64 A (w.heap.size + 1 + 1 + 1) (some ⟨g0,0,none⟩) 286 (cntU false 286 ((useU l).take i))
 o1:OwnN 3 .i64 A (w.heap.size + 1 + 1 + 1) (some ⟨g1,0,none⟩) 30 (cntU true 30 ((useU l).take i))
 er:∀ r ∈ (useU l).take i,r.err = 0
 bel:Below w.heap.size w A
structure CodX (w:World) (l:List Tok) (A:World):Prop where
 bad:¬ ∀ t ∈ l,tokOk t
 b0:A.heap[w.heap.size]? = some (.cells #[.slice none 0 0] 24)
 b1:A.heap[w.heap.size + 1]? = some (.cells #[.slice none 0 0] 24)
 b2:A.heap[w.heap.size + 1 + 1]? = some (.cells #[.int .i64 5] 25)
 bel:Below w.heap.size w A
section
variable {w : World} {ff fb g0 g1 : Nat} {l : List Tok} {i : Nat} {A B : World}
theorem CodI.only (h:CodI w ff fb g0 g1 l i A) (ho:Only (fun _=>False) A B):CodI w ff fb g0 g1 l i B :=
 ⟨Zah h.b0 ho id,Zah h.b1 ho id,Zah h.b2 ho id,Zah h.bf ho id,Zah h.bb ho id,h.o0.only ho (fun _ _=>id),h.o1.only ho (fun _ _=>id),h.er,Below.only h.bel ho (Nat.le_refl _) (fun _ h=>h.elim)⟩
theorem CodI.put (h:CodI w ff fb g0 g1 l i A) {r:Nat} {ob:Obj} (h0:w.heap.size <= r) (hro:A.heap[r]? = some ob) (hoc:ob.isCells = false) (o':Obj):CodI w ff fb g0 g1 l i (A.putObj r o') :=
 ⟨Zap h.b0 hro hoc,Zap h.b1 hro hoc,Zap h.b2 hro hoc,Zap h.bf hro hoc,Zap h.bb hro hoc,h.o0.put hro hoc o',h.o1.put hro hoc o',h.er,Below.put h.bel (Nat.le_refl _) hro h0 _⟩
theorem CodX.only (h:CodX w l A) (ho:Only (fun _=>False) A B):CodX w l B :=
 ⟨h.bad,Zah h.b0 ho id,Zah h.b1 ho id,Zah h.b2 ho id,Below.only h.bel ho (Nat.le_refl _) (fun _ h=>h.elim)⟩
theorem CodX.put (h:CodX w l A) {r:Nat} {ob:Obj} (h0:w.heap.size <= r) (hro:A.heap[r]? = some ob) (hoc:ob.isCells = false) (o':Obj):CodX w l (A.putObj r o') :=
 ⟨h.bad,Zap h.b0 hro hoc,Zap h.b1 hro hoc,Zap h.b2 hro hoc,Below.put h.bel (Nat.le_refl _) hro h0 _⟩
theorem CodI.next {far:Bool} {sym bits:Nat} {g:Nat} (h:CodI w ff fb g0 g1 l i A) (hi:i < (useU l).length) (hr:(useU l)[i] = ⟨far,sym,bits,0⟩) (hg:g = if far then g1 else g0) (hne:g0 ≠ g1) (hn0:g0 ≠ fb) (hn1:g1 ≠ fb) (hf:fb < ff) (hg0:g0 < ff) (hg1:g1 < ff) (hb0:w.heap.size + 1 + 1 + 1 <= g0) (hb1:w.heap.size + 1 + 1 + 1 <= g1)
  (hn:OwnN 3 .i64 B (w.heap.size + 1 + 1 + 1) (some ⟨g,0,none⟩) (if far then 30 else 286) ((cntU far (if far then 30 else 286) ((useU l).take i)).set sym ((cntU far (if far then 30 else 286) ((useU l).take i)).getD sym 0 + 1))) (ho:Only (fun b=>b = g) A B) :
  CodI w ff fb g0 g1 l (i + 1) B:=by
 have hgn:g = g0 \/ g = g1:=by cases far <;> simp at hg <;> simp [hg]
 have k:∀ {b:Nat} {o:Obj},b ≠ g0 -> b ≠ g1 -> A.heap[b]? = some o -> B.heap[b]? = some o:=fun h0 h1 hh=>Zah hh ho (fun e=>by rcases hgn with h | h <;> omega)
 have her:∀ r ∈ (useU l).take (i + 1),r.err = 0:=by
  rw [List.take_succ_eq_append_getElem hi]
  intro r hrm
  rcases List.mem_append.1 hrm with hm | hm
  ·exact h.er r hm
  ·rw [List.mem_singleton] at hm;subst hm;rw [hr]
 have e1:∀ (f2:Bool) (n:Nat),cntU f2 n ((useU l).take (i + 1)) = if far = f2 then (cntU f2 n ((useU l).take i)).set sym ((cntU f2 n ((useU l).take i)).getD sym 0 + 1) else cntU f2 n ((useU l).take i):=by
  intro f2 n;rw [Znp f2 n (useU l) i hi,hr]
 refine ⟨k (by omega) (by omega) h.b0,k (by omega) (by omega) h.b1,k (by omega) (by omega) h.b2,k (by omega) (by omega) h.bf,k (by omega) (by omega) h.bb,?_,?_,her,Below.only h.bel ho (Nat.le_refl _) (fun b e=>by rcases hgn with h | h <;> omega)⟩
 ·rw [e1]
  cases far with
  | false=>simp only [Bool.false_eq_true,if_false,if_true] at hn hg ⊢;subst hg;exact hn
  | true =>
   simp only [if_true] at hg
   simp only [Bool.true_eq_false,if_false]
   subst hg
   have ho2:Only (fun b=>b = g) A B:=ho
   exact ⟨h.o0.1,by
    rcases h.o0.2 with h2 | ⟨g',c,cur,h1,h2,h3,h4⟩
    ·exact .inl h2
    ·refine .inr ⟨g',c,cur,h1,h2,Zah h3 ho2 ?_,h4⟩
     simp only [Value.slice.injEq,Option.some.injEq,Addr.mk.injEq,and_true] at h1
     omega⟩
 ·rw [e1]
  cases far with
  | true=>simp only [Bool.false_eq_true,if_false,if_true] at hn hg ⊢;subst hg;exact hn
  | false =>
   simp only [Bool.false_eq_true,if_false] at hg
   simp only [Bool.false_eq_true,if_false]
   subst hg
   have ho2:Only (fun b=>b = g) A B:=ho
   exact ⟨h.o1.1,by
    rcases h.o1.2 with h2 | ⟨g',c,cur,h1,h2,h3,h4⟩
    ·exact .inl h2
    ·refine .inr ⟨g',c,cur,h1,h2,Zah h3 ho2 ?_,h4⟩
     simp only [Value.slice.injEq,Option.some.injEq,Addr.mk.injEq,and_true] at h1
     omega⟩
end
def codAct (s0 s2 s3 s4 s5 s6 s13 s14 s15 s16 s17 s18:Value) (g:Nat) (r:URow):Act :=
 ⟨#[s0,undef,s2,s3,s4,s5,s6,.pointer (some ⟨g,0,none⟩),.int .i64 (r.err:Nat),undef,undef,undef,undef,s13,s14,s15,s16,s17,s18,.agg #[.bool r.far,.int .i64 (r.sym:Nat),.int .i64 (r.bits:Nat)],.int .i64 (r.err:Nat),undef,undef,undef,undef,undef,undef,undef,undef,undef,undef,undef,undef,undef,undef,undef,undef,undef,undef,undef,undef,undef,undef],[]⟩
theorem Zdn (W0:World) (O1 O2:Obj) (h1:O1 = .cells (madeCells #[.int .i64 0] 286) 3) (h2:O2 = .cells (madeCells #[.int .i64 0] 30) 3) (w:World) (fb g0 g1:Nat) (hb:w.heap[fb]? = some (.cells #[.slice (some ⟨g0,0,none⟩) 286 286,.slice (some ⟨g1,0,none⟩) 30 30] 110)) (e0:w.heap[g0]? = some O1) (e1:w.heap[g1]? = some O2) (hne:g0 ≠ g1 /\ g0 ≠ fb /\ g1 ≠ fb) (hl:W0.heap.size <= g0 /\ W0.heap.size <= g1 /\ W0.heap.size <= fb) (hbel:Below W0.heap.size W0 w):CodI0 W0 w fb g0 g1 :=
 ⟨hb,Zsz (e0.trans (by rw [h1])) hl.1 (by decide),Zsz (e1.trans (by rw [h2])) hl.2.1 (by decide),hne.1,hne.2.1,hne.2.2,hl.2.2,hbel⟩
def CodOut (w:World) (l:List Tok) (e:Ending) (w':World):Prop :=
 ((∀ t ∈ l,tokOk t) /\ ∃ a1 c1 a2 c2,e = .returned (.tuple #[.slice a1 (codF l).length c1,.slice a2 (codO l).length c2,.int .i64 0]) /\ RowN .u8 w' a1 c1 (codF l) /\ RowN .u8 w' a2 c2 (codO l) /\ Below w.heap.size w w') ∨
 ((¬ ∀ t ∈ l,tokOk t) /\ e = .returned (.tuple #[.slice none 0 0,.slice none 0 0,.int .i64 5]) /\ Below w.heap.size w w')
def CodOutF (w:World) (l:List Tok) (e:Ending) (w':World):Prop :=
 ((∀ t ∈ l,tokOk t) /\ ∃ a1 c1 a2 c2,e = .returned (.tuple #[.slice a1 (codF l).length c1,.slice a2 (codO l).length c2,.int .i64 0]) /\ RowN .u8 w' a1 c1 (codF l) /\ RowN .u8 w' a2 c2 (codO l) /\ Below w.heap.size w w' /\ (∀ x,a1 = some x -> w.heap.size <= x.block) /\ (∀ x,a2 = some x -> w.heap.size <= x.block)) ∨
 ((¬ ∀ t ∈ l,tokOk t) /\ e = .returned (.tuple #[.slice none 0 0,.slice none 0 0,.int .i64 5]) /\ Below w.heap.size w w')
set_option maxRecDepth 100000 in
set_option maxHeartbeats 1600000 in
theorem Zin (a:Option Addr) (cap:Nat) (l:List Tok) (w:World) (hl:l.length <= 1100) (hby:∀ t ∈ l,t.byte < 256) (hr:RowS encT w a cap l) :
  Calls Tryz.prog 35 #[.slice a l.length cap] w (CodOutF w l):=by
 have HBY:=Zh hby
 clear hby
 refine (callsIn_wide (n:=9)).1 ?_
 refine callsIn_of_wp_marks Tryz.func35 rfl trivial ?_ rfl
 simp only [Tryz.ntmps35,List.size_toArray,List.length_cons,List.length_nil,Nat.reduceAdd,Nat.reduceSub,Array.replicate_succ,Array.replicate_zero,List.push_toArray,List.append_toArray,List.nil_append,List.cons_append]
 gi_wp2
 have hz0:(((w.alloc (.cells #[.slice none 0 0] 24)).alloc (.cells #[.slice none 0 0] 24)).alloc (.cells #[.int .i64 0] 25)).heap.size = w.heap.size + 1 + 1 + 1:=by simp
 obtain ⟨hb0,hb1,hb2,hbel0⟩:=three w (.cells #[.slice none 0 0] 24) (.cells #[.slice none 0 0] 24) (.cells #[.int .i64 0] 25)
 replace hbel0:Below w.heap.size w (((w.alloc (.cells #[.slice none 0 0] 24)).alloc (.cells #[.slice none 0 0] 24)).alloc (.cells #[.int .i64 0] 25)):=⟨hbel0.os,hbel0.tape,hbel0.output,hbel0.size,hbel0.block⟩
 replace hb0:(((w.alloc (.cells #[.slice none 0 0] 24)).alloc (.cells #[.slice none 0 0] 24)).alloc (.cells #[.int .i64 0] 25)).heap[w.heap.size]? = some (.cells #[.slice none 0 0] 24):=hb0
 replace hb1:(((w.alloc (.cells #[.slice none 0 0] 24)).alloc (.cells #[.slice none 0 0] 24)).alloc (.cells #[.int .i64 0] 25)).heap[w.heap.size + 1]? = some (.cells #[.slice none 0 0] 24):=hb1
 replace hb2:(((w.alloc (.cells #[.slice none 0 0] 24)).alloc (.cells #[.slice none 0 0] 24)).alloc (.cells #[.int .i64 0] 25)).heap[w.heap.size + 1 + 1]? = some (.cells #[.int .i64 0] 25):=hb2
 generalize ((w.alloc (.cells #[.slice none 0 0] 24)).alloc (.cells #[.slice none 0 0] 24)).alloc (.cells #[.int .i64 0] 25) = W0 at *
 have HZ0:=Zh hz0
 have HB0:=Zh (And.intro hb0 (And.intro hb1 (And.intro hb2 hbel0)))
 clear hz0 hb0 hb1 hb2 hbel0
 refine Code.wpIn_mono (Q:=fun e a' w'=>e = .normal /\ ∃ (g0 g1 fb:Nat) (v13 v14 v15:Value),a' = ⟨#[Value.slice a l.length cap,undef,Value.pointer (some ⟨w.heap.size,0,none⟩),Value.pointer (some ⟨w.heap.size + 1,0,none⟩),Value.pointer (some ⟨w.heap.size + 1 + 1,0,none⟩),.pointer (some ⟨fb,0,none⟩),undef,undef,undef,undef,undef,undef,undef,v13,v14,v15,undef,undef,undef,undef,undef,undef,undef,undef,undef,undef,undef,undef,undef,undef,undef,undef,undef,undef,undef,undef,undef,undef,undef,undef,undef,undef,undef],[]⟩ /\ CodI0 W0 w' fb g0 g1) ?_ ?_
 rotate_left
 ·obtain ⟨O1,ho1,r1⟩:=mkI 286 (by decide)
  obtain ⟨O2,ho2,r2⟩:=mkI 30 (by decide)
  replace r1:∀ A:World,(Instr.makeSlice 88 (.int .i64 286) (.int .i64 286)).run Tryz.prog A = .ok (.slice (some ⟨A.heap.size,0,none⟩) 286 286) (A.alloc O1):=fun A=>r1 A
  replace r2:∀ A:World,(Instr.makeSlice 88 (.int .i64 30) (.int .i64 30)).run Tryz.prog A = .ok (.slice (some ⟨A.heap.size,0,none⟩) 30 30) (A.alloc O2):=fun A=>r2 A
  have H1:=Zh ho1
  have H2:=Zh ho2
  clear ho1 ho2
  gi_region
  ·exact ⟨rfl,_,_,_,_,_,_,rfl,(fun h=>Zdn W0 O1 O2 H1.out H2.out _ _ _ _ h.2.2.1 h.1 h.2.1 (by omega) (by omega) h.2.2.2) (three W0 _ _ _)⟩
  ·exact ⟨rfl,_,_,_,_,_,_,rfl,(fun h=>Zdn W0 O1 O2 H1.out H2.out _ _ _ _ h.2.1 h.1 h.2.2.1 (by omega) (by omega) h.2.2.2) (three W0 _ _ _)⟩
  ·exact ⟨rfl,_,_,_,_,_,_,rfl,(fun h=>Zdn W0 O1 O2 H1.out H2.out _ _ _ _ h.2.2.1 h.2.1 h.1 (by omega) (by omega) h.2.2.2) (three W0 _ _ _)⟩
  ·exact ⟨rfl,_,_,_,_,_,_,rfl,(fun h=>Zdn W0 O1 O2 H1.out H2.out _ _ _ _ h.2.1 h.2.2.1 h.1 (by omega) (by omega) h.2.2.2) (three W0 _ _ _)⟩
  ·exact ⟨rfl,_,_,_,_,_,_,rfl,(fun h=>Zdn W0 O1 O2 H1.out H2.out _ _ _ _ h.1 h.2.1 h.2.2.1 (by omega) (by omega) h.2.2.2) (three W0 _ _ _)⟩
  ·exact ⟨rfl,_,_,_,_,_,_,rfl,(fun h=>Zdn W0 O1 O2 H1.out H2.out _ _ _ _ h.1 h.2.2.1 h.2.1 (by omega) (by omega) h.2.2.2) (three W0 _ _ _)⟩
 rintro e a' W1 ⟨rfl,g0,g1,fb,v13,v14,v15,rfl,hI0⟩
 have HI0:=Zh hI0
 clear hI0
 gi_wp2_with (refine ⟨trivial,?_⟩;gi_at_call 71;refine (callsIn_wide.2 (Znr _ _ _ _)).mono ?_;rintro e w' ⟨rfl,rfl⟩)
 obtain ⟨hB0,hB1,hB2,hbel0⟩:=HB0.out
 obtain ⟨i1,i2,i3,i4,i5,i6,i7,i8⟩:=HI0.out
 have hz0:=HZ0.out
 have hfb:=lt_of_block i1
 obtain ⟨g0',e0,hg0,hg0'⟩:=i2.form.resolve_left (by intro h;cases h.1)
 simp only [Option.some.injEq,Addr.mk.injEq,and_true] at e0
 subst e0
 obtain ⟨g1',e1,hg1,hg1'⟩:=i3.form.resolve_left (by intro h;cases h.1)
 simp only [Option.some.injEq,Addr.mk.injEq,and_true] at e1
 subst e1
 have hz1:=i8.size
 rw [hz0] at hg0 hg1 i7 hz1
 have hz2:((W1.alloc (.cells #[.func (.func 70) #[] #[.pointer (some ⟨fb,0,none⟩)]] 113)).alloc (.cells #[.slice a l.length cap] 22)).heap.size = W1.heap.size + 1 + 1:=by simp
 have hbe:Below W1.heap.size W1 ((W1.alloc (.cells #[.func (.func 70) #[] #[.pointer (some ⟨fb,0,none⟩)]] 113)).alloc (.cells #[.slice a l.length cap] 22)):=((Below.refl _ W1).alloc (Nat.le_refl _) _).alloc (by simp) _
 have hff:((W1.alloc (.cells #[.func (.func 70) #[] #[.pointer (some ⟨fb,0,none⟩)]] 113)).alloc (.cells #[.slice a l.length cap] 22)).heap[W1.heap.size]? = some (.cells #[.func (.func 70) #[] #[.pointer (some ⟨fb,0,none⟩)]] 113):=(Below.heap_alloc _ _ _ (by simp)).trans (World.alloc_heap_new W1 _)
 have hft:((W1.alloc (.cells #[.func (.func 70) #[] #[.pointer (some ⟨fb,0,none⟩)]] 113)).alloc (.cells #[.slice a l.length cap] 22)).heap[W1.heap.size + 1]? = some (.cells #[.slice a l.length cap] 22):=by have:=World.alloc_heap_new (W1.alloc (.cells #[.func (.func 70) #[] #[.pointer (some ⟨fb,0,none⟩)]] 113)) (.cells #[.slice a l.length cap] 22);rwa [World.size_alloc] at this
 generalize ((W1.alloc (.cells #[.func (.func 70) #[] #[.pointer (some ⟨fb,0,none⟩)]] 113)).alloc (.cells #[.slice a l.length cap] 22)) = W2 at *
 obtain ⟨ff,hffe⟩:∃ ff,W1.heap.size = ff:=⟨_,rfl⟩
 have hbw1:Below w.heap.size w W1:=hbel0.trans (i8.mono (by omega))
 have hbw2:Below w.heap.size w W2:=hbw1.trans (hbe.mono hbw1.size)
 have j0:W2.heap[w.heap.size]? = some (.cells #[.slice none 0 0] 24):=(hbe.block _ (by omega)).trans ((i8.block _ (by omega)).trans hB0)
 have j1:W2.heap[w.heap.size + 1]? = some (.cells #[.slice none 0 0] 24):=(hbe.block _ (by omega)).trans ((i8.block _ (by omega)).trans hB1)
 have j2:W2.heap[w.heap.size + 1 + 1]? = some (.cells #[.int .i64 0] 25):=(hbe.block _ (by omega)).trans ((i8.block _ (by omega)).trans hB2)
 have jb:=(hbe.block _ hfb).trans i1
 have jo0:=(i2.below hbe).mono (show w.heap.size + 1 + 1 + 1 <= W0.heap.size by omega)
 have jo1:=(i3.below hbe).mono (show w.heap.size + 1 + 1 + 1 <= W0.heap.size by omega)
 rw [hffe] at hff hft hz2 hg0' hg1' hfb hz1 ⊢
 have hr4:RowS encT W2 a cap l:=hr.below hbw2
 have hlw:∀ x,0 < l.length -> a = some x -> x.block < w.heap.size:=by
  intro x h0 hx
  obtain ⟨b',off,he,hlt,_⟩:=hr.at h0
  rw [hx] at he
  cases he
  exact hlt
 clear HB0 HI0 hB0 hB1 hB2 hbel0 i1 i2 i3 i8 hbe HZ0 hffe hbw1
 refine Zky (g:=.tmp 18) (gf:=108) (lb:=#[.pointer (some ⟨ff + 1,0,none⟩)]) rfl (enters_of Tryz.func108 (by kernel_rfl) rfl)
  (Zjx a cap l W2 (ff + 1) (by omega) HBY.out hr4 hft) (SameOn.refl _ _) ?hS (fun _ h=>h.elim) (fun _=>rfl)
  (CodI w ff fb g0 g1 l)
  (fun c _ A=>c = .ret /\ CodX w l A) (fun _ _ _ h ho=>h.only ho) (fun _ _ _ _ o' h h0 h1 h2=>h.put (by omega) h1 h2 o') (fun _ _ _ _ h ho=>⟨h.1,h.2.only ho⟩) (fun _ _ _ _ _ o' h h0 h1 h2=>⟨h.1,h.2.put (by omega) h1 h2 o'⟩) ?h0
  (fun i a' A=>CodI w ff fb g0 g1 l i A /\ ∃ (g:Nat) (r:URow),(useU l)[i]? = some r /\ W2.heap.size <= g /\ A.heap[g]? = some (.cells #[.bool r.far,.int .i64 (r.sym:Nat),.int .i64 (r.bits:Nat)] 112) ∧
   a' = codAct (.slice a l.length cap) (.pointer (some ⟨w.heap.size,0,none⟩)) (.pointer (some ⟨w.heap.size + 1,0,none⟩)) (.pointer (some ⟨w.heap.size + 1 + 1,0,none⟩)) (.pointer (some ⟨fb,0,none⟩)) (.pointer (some ⟨ff,0,none⟩)) v13 v14 v15 (.func (.func 70) #[] #[.pointer (some ⟨fb,0,none⟩)]) (.slice a l.length cap)
    (.func (.func 108) #[] #[.pointer (some ⟨ff + 1,0,none⟩)]) g r) ?hAp ?assign ?body ?done ?stop
 case hS =>
  rintro b (rfl | ⟨h0,x,hx,rfl⟩)
  ·omega
  ·have:=hlw x h0 hx;omega
 case h0=>exact ⟨j0,j1,j2,hff,jb,jo0,jo1,by simp,hbw2⟩
 case hAp =>
  rintro i a' A r ob o' ⟨h,g,u,hu,hgl,hg,ha⟩ h0 h1 h2
  exact ⟨h.put (by omega) h1 h2 o',g,u,hu,hgl,Zap hg h1 h2,ha⟩
 case assign =>
  rintro y i W K hi hsz hI hK
  obtain ⟨r,hr0⟩:∃ r,(useU l)[i]? = some r:=⟨_,List.getElem?_eq_getElem hi⟩
  obtain ⟨-,hrow⟩:=Zcl hr0
  rw [hrow]
  have HK:=Zh hK
  have HI:=Zh hI
  have HI0:=Zh hr0
  clear hK hrow hI hr0 hi
  gi_wp2
  have hb:Below W.heap.size W (W.alloc (.cells #[.bool r.far,.int .i64 (r.sym:Nat),.int .i64 (r.bits:Nat)] 112)):=Zai _ _
  refine HK.out _ _ (KeepsFrom.of_grownBy (row:=none) ⟨hb.os,hb.tape,hb.output,hb.size,fun k hk _=>hb.block k hk⟩ (fun j e=>by cases e)) (((Only.refl (fun _=>False) _).alloc _).sameOn ?_) ⟨HI.out.only ((Only.refl _ _).alloc _),W.heap.size,r,HI0.out,by omega,World.alloc_heap_new _ _,rfl⟩
  intro b hb
  refine ⟨?_,id⟩
  rcases hb with rfl | ⟨h0,x,hx,rfl⟩
  ·omega
  ·have:=hlw x h0 hx;omega
 case body =>
  rintro y i hi a' A hsz ⟨hI,g,r,hri,hgl,hg,rfl⟩
  unfold codAct
  have hir:(useU l)[i] = r:=by rw [List.getElem?_eq_getElem hi] at hri;exact Option.some.inj hri
  have hrm:r ∈ useU l:=by rw [<- hir];exact List.getElem_mem hi
  have hbits:=Zgo l r hrm
  have hil:i <= 2201:=by have:=Zej l;omega
  have k0:=cell_of_one hI.b0
  have z0:=free_of_one hI.b0
  have k1:=cell_of_one hI.b1
  have z1:=free_of_one hI.b1
  have k2:=cell_of_one hI.b2
  have z2:=free_of_one hI.b2
  have kf:=cell_of_one hI.bf
  obtain ⟨c0,c1,c2⟩:=cells3 hg
  obtain ⟨far,sym,bits,err⟩:=r
  have hgb:=lt_of_block hg
  have HI:=Zh hI
  have HER:=Zh (Zsc l _ hrm)
  have HOKR:=Zh (Zvy l HBY.out _ hrm)
  have HIR:=Zh hir
  have HILT:=Zh hi
  have HS:Hid (∀ b,useS a (ff + 1) l b -> b < A.heap.size /\ b ≠ g0 /\ b ≠ g1):=by
   intro b hb
   rcases hb with rfl | ⟨h0,x,hx,rfl⟩
   ·exact ⟨by omega,by omega,by omega⟩
   ·have:=hlw x h0 hx;exact ⟨by omega,by omega,by omega⟩
  clear hI hri hir hrm hg j0 j1 j2 hff jb jo0 jo1 hr4 hft
  simp only at c0 c1 c2 hbits ⊢
  by_cases he:err = 0
  case neg =>
   have b0:((err:Int) != 0) = true:=by simp;omega
   obtain ⟨he5,hbad⟩:=HER.out he
   simp only at he5
   subst he5
   have HBAD:=Zh hbad
   clear he hbad
   gi_wp2
   refine ⟨((KeepsOthers.setCell _ _ _).trans ((KeepsOthers.setCell _ _ _).trans (KeepsOthers.setCell _ _ _))).from _,rfl,HBAD.out,?_,?_,?_,?_⟩
   ·exact (Below.heap_setCell _ _ _ _ (by show w.heap.size ≠ w.heap.size + 1 + 1;omega)).trans ((Below.heap_setCell _ _ _ _ (by show w.heap.size ≠ w.heap.size + 1;omega)).trans (one_setCell HI.out.b0))
   ·exact (Below.heap_setCell _ _ _ _ (by show w.heap.size + 1 ≠ w.heap.size + 1 + 1;omega)).trans (one_setCell ((Below.heap_setCell _ _ _ _ (by show w.heap.size + 1 ≠ w.heap.size;omega)).trans HI.out.b1))
   ·exact one_setCell ((Below.heap_setCell _ _ _ _ (by show w.heap.size + 1 + 1 ≠ w.heap.size + 1;omega)).trans ((Below.heap_setCell _ _ _ _ (by show w.heap.size + 1 + 1 ≠ w.heap.size;omega)).trans HI.out.b2))
   ·exact ((HI.out.bel.setCell (by show w.heap.size <= w.heap.size;omega) _).setCell (by show w.heap.size <= w.heap.size + 1;omega) _).setCell (by show w.heap.size <= w.heap.size + 1 + 1;omega) _
  subst he
  obtain ⟨_,_,hsy⟩:=HOKR.out rfl
  have hvb:∀ f n,(cntU f n ((useU l).take i)).getD sym 0 <= 1000000:=fun f n=>by
   have:=M04.Zat (Zwn f n (useU l) i (Nat.le_of_lt HILT.out)) sym
   omega
  simp only at hsy
  cases far with
  | false =>
   simp only [Bool.false_eq_true,if_false] at hsy
   have HC:=Zh (fun bt=>Zqe A fb g0 g1 286 30 286 30 (w.heap.size + 1 + 1 + 1) sym bt _ _ HI.out.bb HI.out.o0 (Zaj _ _ _) hsy rfl (hvb _ _))
   clear hvb hsy HER HOKR
   gi_wp2_with (refine ⟨trivial,?_⟩;gi_at_call 70;refine (callsIn_wide.2 (HC.out bits)).mono ?_;rintro e w' ⟨rfl,hown',honly⟩)
   refine ⟨⟨honly.size,fun k o hk ho _=>(honly.block k (lt_of_block ho) (by omega)).trans ho⟩,honly.sameOn (fun b hb=>⟨(HS.out b hb).1,(HS.out b hb).2.1⟩),?_⟩
   exact CodI.next (far:=false) HI.out HILT.out HIR.out rfl i4 i5 i6 hfb hg0' hg1' (by omega) (by omega) hown' honly
  | true =>
   simp only [if_true] at hsy
   have HC:=Zh (fun bt=>Zqf A fb g0 g1 286 30 286 30 (w.heap.size + 1 + 1 + 1) sym bt _ _ HI.out.bb HI.out.o1 (Zaj _ _ _) hsy rfl (hvb _ _))
   clear hvb hsy HER HOKR
   gi_wp2_with (refine ⟨trivial,?_⟩;gi_at_call 70;refine (callsIn_wide.2 (HC.out bits)).mono ?_;rintro e w' ⟨rfl,hown',honly⟩)
   refine ⟨⟨honly.size,fun k o hk ho _=>(honly.block k (lt_of_block ho) (by omega)).trans ho⟩,honly.sameOn (fun b hb=>⟨(HS.out b hb).1,(HS.out b hb).2.2⟩),?_⟩
   exact CodI.next (far:=true) HI.out HILT.out HIR.out rfl i4 i5 i6 hfb hg0' hg1' (by omega) (by omega) hown' honly
 case done =>
  rintro A hI hD
  have hoe:∀ t ∈ l,tokOk t:=Zvx l (by have:=hI.er;rwa [List.take_length] at this)
  have hi0:=hI.o0
  have hi1:=hI.o1
  rw [List.take_length] at hi0 hi1
  obtain ⟨kb0,kb1⟩:=Zck hI.bb
  have hused0:(used (cntU false 286 (useU l))).length <= 286:=by have:=M09.Zfq (cntU false 286 (useU l));rw [Zaj] at this;exact this
  have hused1:(used (cntU true 30 (useU l))).length <= 30:=by have:=M09.Zfq (cntU true 30 (useU l));rw [Zaj] at this;exact this
  have hle:∀ f n,∀ x ∈ cntU f n (useU l),x <= 1099511627776:=fun f n x hx=>by
   have h1:=Zwn f n (useU l) _ (Nat.le_refl _)
   rw [List.take_length] at h1
   have:=h1 x hx
   have:=Zej l
   omega
  have HL0:=Zdl A (some ⟨g0,0,none⟩) 286 (cntU false 286 (useU l)) 15 hi0.row (by rw [Zaj];decide) (by omega) (hle _ _) (by decide) (by decide) (pow15 _ (by rw [(Zbg _).length_eq];omega))
  rw [Zaj] at HL0
  have HL1:=fun A' (h:Below A.heap.size A A')=>Zdl A' (some ⟨g1,0,none⟩) 30 (cntU true 30 (useU l)) 15 (hi1.row.below h) (by rw [Zaj];decide) (by omega) (hle _ _) (by decide) (by decide) (pow15 _ (by rw [(Zbg _).length_eq];omega))
  rw [Zaj] at HL1
  have HC0:=fun A' a' c' (h:RowN .u8 A' a' c' (limL (cntU false 286 (useU l)) 15))=>Zsi A' a' c' (limL (cntU false 286 (useU l)) 15) 257 h (by rw [Zas,Zaj];decide)
  have HC1:=fun A' a' c' (h:RowN .u8 A' a' c' (limL (cntU true 30 (useU l)) 15))=>Zsi A' a' c' (limL (cntU true 30 (useU l)) 15) 1 h (by rw [Zas,Zaj];decide)
  rw [Zas,Zaj] at HC0 HC1
  have hcf:codF l = (limL (cntU false 286 (useU l)) 15).take (cutZ (limL (cntU false 286 (useU l)) 15) 257 286):=by unfold codF bestF;rw [Zas,Zaj]
  have hco:codO l = (limL (cntU true 30 (useU l)) 15).take (cutZ (limL (cntU true 30 (useU l)) 15) 1 30):=by unfold codO bestO;rw [Zas,Zaj]
  have hlf:(codF l).length = cutZ (limL (cntU false 286 (useU l)) 15) 257 286:=by have:=Zlv (limL (cntU false 286 (useU l)) 15) 257 286;rw [hcf,List.length_take,Zas,Zaj];omega
  have hlo:(codO l).length = cutZ (limL (cntU true 30 (useU l)) 15) 1 30:=by have:=Zlv (limL (cntU true 30 (useU l)) 15) 1 30;rw [hco,List.length_take,Zas,Zaj];omega
  have HL0:=Zh HL0
  have HL1:=Zh HL1
  have HC0:=Zh HC0
  have HC1:=Zh HC1
  have HCF:=Zh hcf
  have HCO:=Zh hco
  have HLF:=Zh hlf
  have HLO:=Zh hlo
  have HOE:=Zh hoe
  have HI:=Zh hI
  have HD:=Zh hD
  have hAsz:=hI.bel.size
  have hfbA:=lt_of_block hI.bb
  have hn2:=lt_of_block hI.b2
  clear hI hD hoe hi0 hi1 hle hcf hco hlf hlo hused0 hused1 j0 j1 j2 hff jb jo0 jo1 hr4 hft
  generalize limL (cntU false 286 (useU l)) 15 = F at *
  generalize limL (cntU true 30 (useU l)) 15 = O at *
  generalize cutZ F 257 286 = nf at *
  generalize cutZ O 1 30 = no at *
  gi_wp2_with (refine ⟨trivial,?_⟩;gi_at_call 45;refine (callsIn_wide.2 HL0.out).mono ?_;rintro e A1 ⟨p1,d1,rfl,ho1,hb1⟩;have kb1':A1.cell? ⟨fb,1,none⟩ = some (.slice (some ⟨g1,0,none⟩) 30 30):=(hb1.cell (p:=⟨fb,1,none⟩) hfbA).trans kb1;have HO1:=Zh ho1;have HB1:=Zh hb1;clear ho1 hb1 HL0 kb0 kb1)
  gi_wp2_with (refine ⟨trivial,?_⟩;gi_at_call 45;refine (callsIn_wide.2 (HL1.out _ HB1.out)).mono ?_;rintro e A2 ⟨p2,d2,rfl,ho2,hb2⟩)
  have hbA2:Below A.heap.size A A2:=HB1.out.trans (hb2.mono HB1.out.size)
  have b0:A2.heap[w.heap.size]? = some (.cells #[.slice none 0 0] 24):=(hbA2.block _ (by omega)).trans HI.out.b0
  have b1:A2.heap[w.heap.size + 1]? = some (.cells #[.slice none 0 0] 24):=(hbA2.block _ (by omega)).trans HI.out.b1
  have b2:A2.heap[w.heap.size + 1 + 1]? = some (.cells #[.int .i64 0] 25):=(hbA2.block _ (by omega)).trans HI.out.b2
  have hdA2:A2.heap[W2.heap.size]? = some (.deferred (some [])):=(hbA2.block _ (lt_of_block HD.out)).trans HD.out
  have k0:=cell_of_one b0
  have z0:=free_of_one b0
  have k1:=cell_of_one b1
  have z1:=free_of_one b1
  have k2:=cell_of_one b2
  have z2:=free_of_one b2
  have HRF:=Zh (HO1.out.below hb2)
  have HRO:=Zh ho2
  have hsA1:=HB1.out.size
  have hsA2:=hb2.size
  have HB0:=Zh b0
  have HB1':=Zh b1
  have HB2:=Zh b2
  have HDA:=Zh hdA2
  have HBEL:=Zh (HI.out.bel.trans (hbA2.mono HI.out.bel.size))
  clear HL1 HB1 HO1 hb2 ho2 hbA2 b0 b1 b2 hdA2 HI HD kb1'
  have HC0':=Zh (HC0.out _ _ _ HRF.out.row)
  have HC1':=Zh (HC1.out _ _ _ HRO.out.row)
  clear HC0 HC1
  have HL5:A2.heap.size = A2.heap.size:=rfl
  gi_wp2_with (first | (clear HL5;refine ⟨trivial,?_⟩;gi_at_call 72;refine (callsIn_wide.2 HC0'.out).mono ?_;rintro e w' ⟨rfl,rfl⟩) | (refine ⟨trivial,?_⟩;gi_at_call 72;refine (callsIn_wide.2 HC1'.out).mono ?_;rintro e w' ⟨rfl,rfl⟩))
  have e0:((w'.setCell ⟨w.heap.size,0,none⟩ (.slice p1 nf d1)).setCell ⟨w.heap.size + 1,0,none⟩ (.slice p2 no d2)).setCell ⟨w.heap.size + 1 + 1,0,none⟩ (.int .i64 0) = ((w'.setCell ⟨w.heap.size,0,none⟩ (.slice p1 nf d1)).setCell ⟨w.heap.size + 1,0,none⟩ (.slice p2 no d2)).setCell ⟨w.heap.size + 1 + 1,0,none⟩ (.int .i64 0):=rfl
  have t0:(((w'.setCell ⟨w.heap.size,0,none⟩ (.slice p1 nf d1)).setCell ⟨w.heap.size + 1,0,none⟩ (.slice p2 no d2)).setCell ⟨w.heap.size + 1 + 1,0,none⟩ (.int .i64 0)).heap[w.heap.size]? = some (.cells #[.slice p1 nf d1] 24):=(Below.heap_setCell _ _ _ _ (by show w.heap.size ≠ w.heap.size + 1 + 1;omega)).trans ((Below.heap_setCell _ _ _ _ (by show w.heap.size ≠ w.heap.size + 1;omega)).trans (one_setCell HB0.out))
  have t1:(((w'.setCell ⟨w.heap.size,0,none⟩ (.slice p1 nf d1)).setCell ⟨w.heap.size + 1,0,none⟩ (.slice p2 no d2)).setCell ⟨w.heap.size + 1 + 1,0,none⟩ (.int .i64 0)).heap[w.heap.size + 1]? = some (.cells #[.slice p2 no d2] 24):=(Below.heap_setCell _ _ _ _ (by show w.heap.size + 1 ≠ w.heap.size + 1 + 1;omega)).trans (one_setCell ((Below.heap_setCell _ _ _ _ (by show w.heap.size + 1 ≠ w.heap.size;omega)).trans HB1'.out))
  have t2:(((w'.setCell ⟨w.heap.size,0,none⟩ (.slice p1 nf d1)).setCell ⟨w.heap.size + 1,0,none⟩ (.slice p2 no d2)).setCell ⟨w.heap.size + 1 + 1,0,none⟩ (.int .i64 0)).heap[w.heap.size + 1 + 1]? = some (.cells #[.int .i64 0] 25):=one_setCell ((Below.heap_setCell _ _ _ _ (by show w.heap.size + 1 + 1 ≠ w.heap.size + 1;omega)).trans ((Below.heap_setCell _ _ _ _ (by show w.heap.size + 1 + 1 ≠ w.heap.size;omega)).trans HB2.out))
  have td:(((w'.setCell ⟨w.heap.size,0,none⟩ (.slice p1 nf d1)).setCell ⟨w.heap.size + 1,0,none⟩ (.slice p2 no d2)).setCell ⟨w.heap.size + 1 + 1,0,none⟩ (.int .i64 0)).heap[ff + 1 + 1]? = some (.deferred (some [])):=(Below.heap_setCell _ _ _ _ (by show ff + 1 + 1 ≠ w.heap.size + 1 + 1;omega)).trans ((Below.heap_setCell _ _ _ _ (by show ff + 1 + 1 ≠ w.heap.size + 1;omega)).trans ((Below.heap_setCell _ _ _ _ (by show ff + 1 + 1 ≠ w.heap.size;omega)).trans (by rw [<- hz2];exact HDA.out)))
  have tb:Below w.heap.size w (((w'.setCell ⟨w.heap.size,0,none⟩ (.slice p1 nf d1)).setCell ⟨w.heap.size + 1,0,none⟩ (.slice p2 no d2)).setCell ⟨w.heap.size + 1 + 1,0,none⟩ (.int .i64 0)):=((HBEL.out.setCell (by show w.heap.size <= w.heap.size;omega) _).setCell (by show w.heap.size <= w.heap.size + 1;omega) _).setCell (by show w.heap.size <= w.heap.size + 1 + 1;omega) _
  have tf:OwnN 5 .u8 (((w'.setCell ⟨w.heap.size,0,none⟩ (.slice p1 nf d1)).setCell ⟨w.heap.size + 1,0,none⟩ (.slice p2 no d2)).setCell ⟨w.heap.size + 1 + 1,0,none⟩ (.int .i64 0)) A.heap.size p1 d1 F:=by
   have hne:∀ g,p1 = some ⟨g,0,none⟩ -> A.heap.size <= g:=by
    intro g hg
    rcases HRF.out.form with h | ⟨g',h1,h2,_⟩
    ·rw [h.1] at hg;cases hg
    ·rw [h1] at hg;cases hg;exact h2
   exact ((HRF.out.other (fun g hg=>by have:=hne g hg;show w.heap.size ≠ g;omega) _).other (fun g hg=>by have:=hne g hg;show w.heap.size + 1 ≠ g;omega) _).other (fun g hg=>by have:=hne g hg;show w.heap.size + 1 + 1 ≠ g;omega) _
  have to:OwnN 5 .u8 (((w'.setCell ⟨w.heap.size,0,none⟩ (.slice p1 nf d1)).setCell ⟨w.heap.size + 1,0,none⟩ (.slice p2 no d2)).setCell ⟨w.heap.size + 1 + 1,0,none⟩ (.int .i64 0)) A1.heap.size p2 d2 O:=by
   have hne:∀ g,p2 = some ⟨g,0,none⟩ -> A1.heap.size <= g:=by
    intro g hg
    rcases HRO.out.form with h | ⟨g',h1,h2,_⟩
    ·rw [h.1] at hg;cases hg
    ·rw [h1] at hg;cases hg;exact h2
   exact ((HRO.out.other (fun g hg=>by have:=hne g hg;show w.heap.size ≠ g;omega) _).other (fun g hg=>by have:=hne g hg;show w.heap.size + 1 ≠ g;omega) _).other (fun g hg=>by have:=hne g hg;show w.heap.size + 1 + 1 ≠ g;omega) _
  have fr1:∀ x,p1 = some x -> w.heap.size <= x.block:=by
   intro x hx
   rcases HRF.out.form with h | ⟨g',h1,h2,_⟩
   ·rw [h.1] at hx;cases hx
   ·rw [h1] at hx;cases hx;exact Nat.le_trans hAsz h2
  have fr2:∀ x,p2 = some x -> w.heap.size <= x.block:=by
   intro x hx
   rcases HRO.out.form with h | ⟨g',h1,h2,_⟩
   ·rw [h.1] at hx;cases hx
   ·rw [h1] at hx;cases hx;exact Nat.le_trans hAsz (Nat.le_trans hsA1 h2)
  clear e0
  generalize ((w'.setCell ⟨w.heap.size,0,none⟩ (.slice p1 nf d1)).setCell ⟨w.heap.size + 1,0,none⟩ (.slice p2 no d2)).setCell ⟨w.heap.size + 1 + 1,0,none⟩ (.int .i64 0) = A3 at *
  have q0:=(World.putObj_heap_other (w:=A3) (o:=.deferred none) (by omega:w.heap.size ≠ ff + 1 + 1)).trans t0
  have q1:=(World.putObj_heap_other (w:=A3) (o:=.deferred none) (by omega:w.heap.size + 1 ≠ ff + 1 + 1)).trans t1
  have q2:=(World.putObj_heap_other (w:=A3) (o:=.deferred none) (by omega:w.heap.size + 1 + 1 ≠ ff + 1 + 1)).trans t2
  have s0:=cell_of_one q0
  have s1:=cell_of_one q1
  have s2:=cell_of_one q2
  refine ⟨by simp,.inl ⟨_,_,rfl,run_takeDeferred td,?_⟩⟩
  refine ⟨.tuple #[.slice p1 nf d1,.slice p2 no d2,.int .i64 0],by simp [results,Tryz.results35,s0,s1,s2,go_sem],.inl ⟨HOE.out,p1,d1,p2,d2,by rw [HLF.out,HLO.out],?_,?_,Below.put tb (Nat.le_refl _) td (by omega) _,fr1,fr2⟩⟩
  ·rw [HCF.out];exact Zgc (OwnN.put tf td rfl _).row _
  ·rw [HCO.out];exact Zgc (OwnN.put to td rfl _).row _
 case stop =>
  rintro c i A hi ⟨rfl,hX⟩ hD
  gi_wp2
  have q0:=(World.putObj_heap_other (w:=A) (o:=.deferred none) (by omega:w.heap.size ≠ W2.heap.size)).trans hX.b0
  have q1:=(World.putObj_heap_other (w:=A) (o:=.deferred none) (by omega:w.heap.size + 1 ≠ W2.heap.size)).trans hX.b1
  have q2:=(World.putObj_heap_other (w:=A) (o:=.deferred none) (by omega:w.heap.size + 1 + 1 ≠ W2.heap.size)).trans hX.b2
  have s0:=cell_of_one q0
  have s1:=cell_of_one q1
  have s2:=cell_of_one q2
  refine ⟨by simp,.inl ⟨_,_,rfl,run_takeDeferred hD,?_⟩⟩
  refine ⟨.tuple #[.slice none 0 0,.slice none 0 0,.int .i64 5],by simp [results,Tryz.results35,s0,s1,s2,go_sem],.inr ⟨hX.bad,rfl,?_⟩⟩
  exact Below.put hX.bel (Nat.le_refl _) hD (by omega) _
theorem Zue (a:Option Addr) (cap:Nat) (l:List Tok) (w:World) (hl:l.length <= 1100) (hby:∀ t ∈ l,t.byte < 256) (hr:RowS encT w a cap l) :
  Calls Tryz.prog 35 #[.slice a l.length cap] w (CodOut w l):=by
 refine (Zin a cap l w hl hby hr).mono ?_
 rintro e w' (⟨h,a1,c1,a2,c2,h1,h2,h3,h4,_⟩ | h)
 ·exact .inl ⟨h,a1,c1,a2,c2,h1,h2,h3,h4⟩
 ·exact .inr h
end Go.Proofs.YtendielanacflaaGreat

namespace Go.Proofs.YtendielanacflaaGreat
open Go.RowKit M17
def storedZ (n at_:Int):Int:=if n < 0 \/ at_ < 0 then 0 else st n.toNat at_.toNat - at_
set_option maxHeartbeats 400000 in
theorem Zqg (n at_:Int) (w:World) (hn:n <= 1073741824) (ha:at_ <= 1073741824) :
  Calls Tryz.prog 61 #[.int .i64 n,.int .i64 at_] w fun e w'=>e = .returned (.int .i64 (storedZ n at_)) /\ w = w':=by
 by_cases h0:n < 0
 ·have H:Hid (storedZ n at_ = 0):=by unfold Hid storedZ;rw [if_pos (.inl h0)]
  go_enter Tryz.func61,Tryz.ntmps61
  go_wp2
  go_ret
  exact ⟨Zdm H.out.symm,rfl⟩
 by_cases h1:at_ < 0
 ·have H:Hid (storedZ n at_ = 0):=by unfold Hid storedZ;rw [if_pos (.inr h1)]
  go_enter Tryz.func61,Tryz.ntmps61
  go_wp2
  go_ret
  exact ⟨Zdm H.out.symm,rfl⟩
 have H:Hid (storedZ n at_ = st n.toNat at_.toNat - at_):=by unfold Hid storedZ;rw [if_neg (by omega)]
 obtain ⟨N,rfl⟩:=Int.eq_ofNat_of_zero_le (by omega:0 <= n)
 obtain ⟨A,rfl⟩:=Int.eq_ofNat_of_zero_le (by omega:0 <= at_)
 have HS:=Zh (Zkc N A)
 simp only [Int.toNat_natCast] at H
 go_enter Tryz.func61,Tryz.ntmps61
 go_wp2
 go_loop [0,1] (fun n a=>∃ n' a':Nat,n = .int .i64 n' /\ a = .int .i64 a' /\ n' <= N /\ st n' a' = st N A) (fun n _=>(intOf n).toNat)
 case atStart=>exact ⟨N,A,rfl,rfl,Nat.le_refl _,rfl⟩
 case round =>
  obtain ⟨n',a',rfl,rfl,hle,hst⟩:=hrel
  have h2:=Zkc n' a'
  have h3:=HS.out
  have h4:a' <= 10000000000:=by rw [hst] at h2;omega
  have HE:Hid (st n' a' = st N A):=hst
  have HD:=Zh (st.eq_1 n' a')
  clear h2 h3 hst
  by_cases hk:n' <= 65535
  ·have HR:Hid (st N A = align (a' + 3) + 32 + 8 * n'):=by
    rw [Hid,<- HE.out,HD.out,if_pos hk]
   go_wp2
   go_ret
   refine ⟨Zdm ?_,rfl⟩
   rw [H.out,HR.out]
   unfold align
   omega
  ·have HR:Hid (st (n' - 65535) (align (a' + 3) + 32 + 8 * 65535) = st N A):=by
    rw [Hid,<- HE.out,HD.out,if_neg hk]
   go_wp2
   go_round
   case rel=>exact ⟨n' - 65535,align (a' + 3) + 32 + 8 * 65535,Zix (by omega),Zix (by unfold align;omega),by omega,HR.out⟩
   case measure=>simp [intOf];omega
end Go.Proofs.YtendielanacflaaGreat

namespace Go.Proofs.YtendielanacflaaGreat
open Go.RowKit
theorem Zph {w:World} {x:Addr} {v:Value} (h:w.cell? x = some v):x.spot = none /\ x.block < w.heap.size:=by
 unfold World.cell? at h
 cases ho:w.heap[x.block]? with
 | none=>simp [ho] at h
 | some o =>
  refine ⟨?_,(Array.getElem?_eq_some_iff.1 ho).1⟩
  rw [ho] at h
  cases o <;> simp at h
  exact h.1
theorem Zze {k:IntKind} {w:World} {a:Option Addr} {len cap:Nat} {zs:List Int}
  (h:(a = none /\ len = 0 /\ cap = 0 /\ zs = []) \/ ∃ x,a = some x /\ len <= cap /\ cap <= maxLen /\ zs.length = cap /\ (∀ i,i < zs.length -> w.cell? (x.add i) = some (.int k (zs.getD i 0))) /\ ∀ n ∈ zs,(Lit.int k n).wf = true) :
  ∃ l:List Int,l.length = len /\ RowI k w a cap l /\ ∀ n ∈ l,(Lit.int k n).wf = true:=by
 rcases h with ⟨rfl,rfl,rfl,rfl⟩ | ⟨x,rfl,hl,hm,hz,hc,hw⟩
 ·exact ⟨[],rfl,RowI.nil k w,by simp⟩
 ·refine ⟨zs.take len,by simp;omega,⟨by simp;omega,⟨by simpa [maxLen] using hm,fun hn=>by cases hn⟩,?_⟩,fun n hn=>hw n (List.mem_of_mem_take hn)⟩
  by_cases h0:zs.take len = []
  ·exact .inl h0
  ·have hp:0 < (zs.take len).length:=List.length_pos_iff.2 h0
   simp only [List.length_take] at hp
   have h1:=hc 0 (by omega)
   simp only [Addr.add,if_true] at h1
   obtain ⟨hs,hb⟩:=Zph h1
   refine .inr ⟨x.block,x.off,by cases x;simp_all,hb,fun i hi=>?_⟩
   simp only [List.length_take] at hi
   have h2:=hc i (by omega)
   have h3:x.add i = ⟨x.block,x.off + i,none⟩:=by
    unfold Addr.add
    split
    ·cases x;simp_all
    ·rfl
   rw [h3] at h2
   rw [h2]
   simp [show i < zs.length by omega]
def natOf (l:List Int):List Nat:=l.map Int.toNat
theorem Zzg {k:IntKind} {w:World} {a:Option Addr} {cap:Nat} {l:List Int} (h:RowI k w a cap l) (hp:∀ n ∈ l,0 <= n):RowN k w a cap (natOf l):=by
 obtain ⟨h1,h2,h3⟩:=h
 refine ⟨by simpa [natOf] using h1,h2,?_⟩
 rcases h3 with rfl | ⟨b,off,ha,hb,hc⟩
 ·exact .inl rfl
 ·refine .inr ⟨b,off,ha,hb,fun i hi=>?_⟩
  simp only [natOf,List.length_map] at hi
  rw [hc i hi]
  simp only [natOf,List.getElem_map]
  rw [Int.toNat_of_nonneg (hp _ (List.getElem_mem hi))]
theorem Zaft {n:Int} (h:(Lit.int .u8 n).wf = true):0 <= n /\ n < 256:=by
 simp [Lit.wf,IntKind.min,IntKind.max,IntKind.signed,IntKind.bits] at h
 omega
theorem Zvk {w:World} {a:Option Addr} {len cap:Nat} {zs:List Int}
  (h:(a = none /\ len = 0 /\ cap = 0 /\ zs = []) \/ ∃ x,a = some x /\ len <= cap /\ cap <= maxLen /\ zs.length = cap /\ (∀ i,i < zs.length -> w.cell? (x.add i) = some (.int .u8 (zs.getD i 0))) /\ ∀ n ∈ zs,(Lit.int .u8 n).wf = true) :
  ∃ l:List Nat,l.length = len /\ RowN .u8 w a cap l /\ ∀ n ∈ l,n < 256:=by
 obtain ⟨l,h1,h2,h3⟩:=Zze h
 refine ⟨natOf l,by simpa [natOf] using h1,Zzg h2 fun n hn=>(Zaft (h3 n hn)).1,fun n hn=>?_⟩
 simp only [natOf,List.mem_map] at hn
 obtain ⟨m,hm,rfl⟩:=hn
 have:=Zaft (h3 m hm)
 omega
end Go.Proofs.YtendielanacflaaGreat

namespace Go.Proofs.YtendielanacflaaGreat
open Go.RowKit Go.Deep M17
theorem Zaip {H:Type} {enc:TypeId × Value -> H} {W:World} {n:Nat} {cs:List Value} {x:DataW H × List MemPlace} (h:DataW.trod enc Tryz.prog W 0 (fun _=>true) true n 40 cs = some x) (hl:cs.length = 3) :
  ∃ t:Tok,cs = [.int .i64 t.len,.int .i64 t.dist,.int .u8 (t.byte:Nat)] /\ t.byte < 256:=by
 have c3:Tryz.prog.cellsOf 3 = 1:=by kernel_rfl
 have c5:Tryz.prog.cellsOf 5 = 1:=by kernel_rfl
 obtain ⟨v0,v1,v2,rfl⟩:∃ v0 v1 v2,cs = [v0,v1,v2]:=by
  cases cs with
  | nil=>cases hl
  | cons v0 cs=>cases cs with
   | nil=>cases hl
   | cons v1 cs=>cases cs with
    | nil=>cases hl
    | cons v2 cs=>cases cs with
     | nil=>exact ⟨_,_,_,rfl⟩
     | cons v3 cs=>simp at hl
 obtain ⟨y0,y1,y2,k,_,_,g0,g1,g2⟩:=trod_struct3 Tryz.underlying40 h
 simp only [c3,c5,List.drop_zero,List.drop_succ_cons,List.take_succ_cons,List.take_zero] at g0 g1 g2
 obtain ⟨a,ha,_,_⟩:=DataW.trod_int Tryz.underlying3 g0
 obtain ⟨b,hb,_,_⟩:=DataW.trod_int Tryz.underlying3 g1
 obtain ⟨c,hc,_,hw⟩:=DataW.trod_int Tryz.underlying5 g2
 simp only [List.cons.injEq,and_true] at ha hb hc
 subst ha hb hc
 obtain ⟨h1,h2⟩:=Zaft hw
 refine ⟨⟨a,b,c.toNat⟩,?_,by show c.toNat < 256;omega⟩
 simp only [Int.toNat_of_nonneg h1]
instance:Inhabited Tok:=⟨⟨0,0,0⟩⟩
theorem Zaam {H:Type} {enc:TypeId × Value -> H} {W:World} {a:Option Addr} {len cap:Nat} {d:DataW H} {p:List MemPlace} (h:∃ fuel,DataW.trod enc Tryz.prog W 0 (fun _=>true) true fuel 22 (Value.slice a len cap).cells.toList = some (d,p)) :
  ∃ l:List Tok,l.length = len /\ RowS encT W a cap l /\ ∀ t ∈ l,t.byte < 256:=by
 obtain ⟨fuel,h⟩:=h
 have c28:Tryz.prog.cellsOf 40 = 3:=by kernel_rfl
 rcases open_slice Tryz.underlying22 h with ⟨hcs,_⟩ | ⟨x,l,c,m,n,D,Pl,hcs,_,hl,hm,hmm,_,hx⟩
 ·simp [Value.cells] at hcs
  obtain ⟨rfl,rfl,rfl⟩:=hcs
  exact ⟨[],rfl,RowS.nil _ _,by simp⟩
 ·simp [Value.cells] at hcs
  obtain ⟨rfl,rfl,rfl⟩:=hcs
  simp only [if_true] at hmm
  subst hmm
  rw [c28] at hx
  have each:∀ i,i < m -> ∃ t:Tok,(W.cell? (x.add (i * 3)) = some (.int .i64 t.len) /\ W.cell? (x.add (i * 3 + 1)) = some (.int .i64 t.dist) /\ W.cell? (x.add (i * 3 + 2)) = some (.int .u8 (t.byte:Nat))) /\ t.byte < 256:=by
   intro i hi
   obtain ⟨cs',h1,h2⟩:=hx i hi
   obtain ⟨_,hlen,hcell⟩:=World.cells?_some h1
   obtain ⟨t,rfl,ht⟩:=Zaip h2 hlen
   have e0:=hcell 0 (by omega)
   have e1:=hcell 1 (by omega)
   have e2:=hcell 2 (by omega)
   rw [add_add] at e0 e1 e2
   exact ⟨t,⟨by simpa using e0,by simpa using e1,by simpa using e2⟩,ht⟩
  obtain ⟨q,hq⟩:=choose_lt each
  have hlist:∀ i (hi:i < ((List.range len).map q).length),((List.range len).map q)[i] = q i:=by intro i hi;simp
  refine ⟨(List.range len).map q,by simp,⟨by simpa using hl,⟨by simpa [maxLen] using hm,fun hn=>by cases hn⟩,?_⟩,?_⟩
  ·by_cases h0:len = 0
   ·subst h0;exact .inl rfl
   ·have e:=(hq 0 (by omega)).1.1
    simp only [Nat.zero_mul,Addr.add,if_true] at e
    obtain ⟨hs,hb⟩:=Zph e
    have hxf:∀ k,x.add k = ⟨x.block,x.off + k,none⟩:=by
     intro k
     unfold Addr.add
     split
     ·rename_i hk;cases x;simp_all
     ·cases x;simp_all
    refine .inr ⟨x.block,x.off,by cases x;simp_all,hb,fun i v hv=>?_⟩
    have hi:i < len * 3:=by
     have:=(List.getElem?_eq_some_iff.1 hv).1
     rw [Zbw] at this
     simpa [encT] using this
    have hdm:i = i / 3 * 3 + i % 3:=by omega
    have hi3:i / 3 < len:=by omega
    have hf:=Zxm (c:=encT) ((List.range len).map q) (i / 3) (i % 3) (by simpa using hi3) (by show i % 3 < 3;omega)
    have hf':(flat encT ((List.range len).map q))[i]? = (encT.cells (q (i / 3)))[i % 3]?:=by
     rw [hlist] at hf
     have:i / 3 * encT.sz + i % 3 = i:=by show i / 3 * 3 + i % 3 = i;omega
     rw [this] at hf
     exact hf
    rw [hf'] at hv
    obtain ⟨⟨q0,q1,q2⟩,_⟩:=hq (i / 3) (by omega)
    rw [hxf] at q0 q1 q2
    have hr:i % 3 = 0 \/ i % 3 = 1 \/ i % 3 = 2:=by omega
    rcases hr with hr | hr | hr
    ·rw [hr] at hv
     have:v = .int .i64 (q (i / 3)).len:=by simpa [encT] using hv.symm
     rw [this]
     exact (congrArg (fun k=>W.cell? ⟨x.block,k,none⟩) (show x.off + i = x.off + i / 3 * 3 by omega)).trans q0
    ·rw [hr] at hv
     have:v = .int .i64 (q (i / 3)).dist:=by simpa [encT] using hv.symm
     rw [this]
     exact (congrArg (fun k=>W.cell? ⟨x.block,k,none⟩) (show x.off + i = x.off + (i / 3 * 3 + 1) by omega)).trans q1
    ·rw [hr] at hv
     have:v = .int .u8 ((q (i / 3)).byte:Nat):=by simpa [encT] using hv.symm
     rw [this]
     exact (congrArg (fun k=>W.cell? ⟨x.block,k,none⟩) (show x.off + i = x.off + (i / 3 * 3 + 2) by omega)).trans q2
  ·intro t ht
   obtain ⟨i,hi,rfl⟩:=List.mem_map.1 ht
   exact (hq i (by have:=List.mem_range.1 hi;omega)).2
end Go.Proofs.YtendielanacflaaGreat

namespace Go.Proofs.YtendielanacflaaGreat
open Go.RowKit Go.Shelf M08 M17
theorem Zqm:∀ x ∈ fixF,x <= 255:=by decide +kernel
theorem Zqn:∀ x ∈ fixO,x <= 255:=by decide +kernel
theorem Zabx:fixO.length = 30:=by unfold fixO;simp only [List.length_replicate]
def fixOut (l:List Tok):Nat × Nat:=match symU fixF fixO (useU l) 0 with | some n=>(3 + n,0) | none=>(0,5)
theorem Zrw (f o:List Nat) (hf:∀ x ∈ f,x <= 255) (ho:∀ x ∈ o,x <= 255) (R:List URow) (hR:∀ r ∈ R,r.bits <= 100):∀ n m,symU f o R n = some m -> m <= n + R.length * 400:=by
 have hg:∀ (L:List Nat),(∀ x ∈ L,x <= 255) -> ∀ s,L.getD s 0 <= 255:=by
  intro L hL s
  rw [List.getD_eq_getElem?_getD]
  cases h:L[s]? with
  | none=>simp
  | some x=>exact hL x (List.mem_of_getElem? h)
 induction R with
 | nil=>intro n m h;simp [symU] at h;omega
 | cons r R ih =>
  intro n m h
  simp only [symU] at h
  split at h
  ·cases h
  ·have h1:=ih (fun x hx=>hR x (by simp [hx])) _ _ h
   have h2:=hR r (by simp)
   have h3:lensOf f o r <= 255:=by
    unfold lensOf
    split
    ·exact hg o ho _
    ·exact hg f hf _
   simp only [List.length_cons]
   omega
theorem Zud (a:Option Addr) (cap:Nat) (l:List Tok) (w:World) (hl:l.length <= 1100) (hby:∀ t ∈ l,t.byte < 256) (hr:RowS encT w a cap l) :
  Calls Tryz.prog 64 #[.slice a l.length cap] w fun e w'=>e = .returned (.tuple #[.int .i64 ((fixOut l).1:Nat),.int .i64 ((fixOut l).2:Nat)]) /\ Below w.heap.size w w':=by
 have hle:∀ m,symU fixF fixO (useU l) 0 = some m -> m <= 1000000:=fun m h=>by
  have h1:=Zrw fixF fixO Zqm Zqn _ (Zgo l) 0 m h
  have h2:=Zej l
  omega
 go_enter Tryz.func64,Tryz.ntmps64
 go_wp2_with fail
 refine (Zuf _).mono ?_
 rintro e w1 ⟨a1,c1,a2,c2,rfl,r1,r2,hb⟩
 have HC:=Zh (Zhi a a1 a2 cap c1 c2 l fixF fixO w1 hl hby (hr.below hb) r1 r2 Zqm Zqn)
 rw [Zdg,Zabx] at HC
 have HB:=Zh hb
 clear r1 r2 hb
 go_wp2_with fail
 refine HC.out.mono ?_
 rintro e w2 ⟨rfl,hb2⟩
 have HB2:=Zh (HB.out.trans (hb2.mono HB.out.size))
 clear HC HB hb2
 cases hs:symU fixF fixO (useU l) 0 with
 | none =>
  have e1:symOut fixF fixO l = (0,5):=by unfold symOut;rw [hs]
  have e2:fixOut l = (0,5):=by unfold fixOut;rw [hs]
  have HE:=Zh e2
  rw [e1]
  clear e1 e2 hs hle
  go_wp2_with fail
  go_ret2
  exact ⟨by rw [HE.out];rfl,HB2.out⟩
 | some m =>
  have e1:symOut fixF fixO l = (m,0):=by unfold symOut;rw [hs]
  have e2:fixOut l = (3 + m,0):=by unfold fixOut;rw [hs]
  have hm:=hle m hs
  have HE:=Zh e2
  rw [e1]
  clear e1 e2 hs hle
  go_wp2_with fail
  go_ret2
  exact ⟨by rw [HE.out];simp,HB2.out⟩
end Go.Proofs.YtendielanacflaaGreat

namespace Go.Proofs.YtendielanacflaaGreat
open Go.RowKit Go.Shelf M01 M04 M05 M06 M07 M08 M09 M17
attribute [local go_sem] Oper.semAt_some
def headN (l:List Tok):Nat:=(hputW ([],0) (codF l) (codO l)).2
theorem Zhu (l:List Tok):257 <= (codF l).length /\ (codF l).length <= 286:=by
 have:=Znh (cntU false 286 (useU l)) (by rw [Zaj];decide)
 rw [Zaj] at this
 exact this
theorem Zhv (l:List Tok):1 <= (codO l).length /\ (codO l).length <= 30:=by
 have:=Zni (cntU true 30 (useU l)) (by rw [Zaj];decide)
 rw [Zaj] at this
 exact this
theorem Zfg (l:List Tok):∀ x ∈ codF l,x <= 15:=fun x hx=>(Zcp (cntU false 286 (useU l)) (by rw [Zaj];decide)).1 x (List.mem_of_mem_take hx)
theorem Zfh (l:List Tok):∀ x ∈ codO l,x <= 15:=fun x hx=>(Zcp (cntU true 30 (useU l)) (by rw [Zaj];decide)).1 x (List.mem_of_mem_take hx)
theorem Zsp (l:List Tok):headN l <= 100000:=by
 have h1:=Zhu l
 have h2:=Zhv l
 have:=Zoh (s:=([],0)) M09.Zbv (codF l) (codO l) (fun x hx=>by
  rcases List.mem_append.1 hx with h | h
  ·exact Zfg l x h
  ·exact Zfh l x h)
 unfold headN
 simp only at this
 omega
theorem Zlf (f o:List Nat) (l:List Tok) (hf:∀ x ∈ f,x <= 255) (ho:∀ x ∈ o,x <= 255) (hl:l.length <= 1100):(symOut f o l).1 <= 1000000:=by
 unfold symOut
 cases h:symU f o (useU l) 0 with
 | none=>simp
 | some m =>
  have h1:=Zrw f o hf ho _ (Zgo l) 0 m h
  have h2:=Zej l
  have:(useU l).length * 400 <= 2201 * 400:=Nat.mul_le_mul_right _ (by omega)
  show m <= _
  omega
def dynOut (l:List Tok):Nat × Nat:=if codE l = 0 then (3 + headN l + (symOut (codF l) (codO l) l).1,0) else (0,5)
theorem Zws {l:List Tok} (h:∀ t ∈ l,tokOk t):codE l = 0:=by unfold codE;rw [if_pos h]
theorem Zabe {l:List Tok} (h:¬ ∀ t ∈ l,tokOk t):codE l = 5:=by unfold codE;rw [if_neg h]
set_option maxRecDepth 100000 in
set_option maxHeartbeats 1600000 in
theorem Znq (a:Option Addr) (cap:Nat) (l:List Tok) (w:World) (hl:l.length <= 1100) (hby:∀ t ∈ l,t.byte < 256) (hr:RowS encT w a cap l) :
  Calls Tryz.prog 13 #[.slice a l.length cap] w fun e w'=>e = .returned (.tuple #[.int .i64 ((dynOut l).1:Nat),.int .i64 ((dynOut l).2:Nat)]) /\ Below w.heap.size w w':=by
 have HC:=Zh (Zue a cap l w hl hby hr)
 have BY:=Zh hby
 have HR:=Zh hr
 clear hby hr
 go_enter Tryz.func13,Tryz.ntmps13
 go_wp2_with fail
 refine HC.out.mono ?_
 rintro e w1 (⟨hok,a1,c1,a2,c2,rfl,r1,r2,hb1⟩ | ⟨hbad,rfl,hb1⟩)
 case inr =>
  have HD:Hid (dynOut l = (0,5)):=by unfold Hid dynOut;rw [Zabe hbad];rfl
  clear hbad HC
  go_wp2
  go_ret2
  exact ⟨by rw [HD.out];rfl,hb1⟩
 have hm:=Zqd l hok
 have HS:=Zh (fun (w':World) (h:Below w1.heap.size w1 w')=>Zqq w' a1 a2 c1 c2 (codF l) (codO l) (r1.below h) (r2.below h) (by have:=Zhu l;omega) (by have:=Zhv l;omega))
 have HY:=Zh (fun (w':World) (h:Below w1.heap.size w1 w')=>Zhi a a1 a2 cap c1 c2 l (codF l) (codO l) w' hl BY.out (HR.out.below (hb1.trans (h.mono hb1.size))) (r1.below h) (r2.below h) (fun x hx=>by have:=Zfg l x hx;omega) (fun x hx=>by have:=Zfh l x hx;omega))
 rw [hm] at HS
 have hn1:=Zsp l
 have hn2:=Zlf (codF l) (codO l) l (fun x hx=>by have:=Zfg l x hx;omega) (fun x hx=>by have:=Zfh l x hx;omega) (by omega)
 have HD:Hid (dynOut l = (3 + headN l + (symOut (codF l) (codO l) l).1,0)):=by unfold Hid dynOut;rw [Zws hok];rfl
 unfold headN at hn1 HD
 generalize (hputW ([],0) (codF l) (codO l)) = T at *
 generalize symOut (codF l) (codO l) l = so at *
 generalize (codF l).length = lf at *
 generalize (codO l).length = lo at *
 obtain ⟨T1,T2⟩:=T
 obtain ⟨sn,se⟩:=so
 simp only at hn1 hn2 HD HS HY
 have HB1:=Zh hb1
 clear hm hok HC r1 r2 hb1
 go_wp2_with fail
 refine (HS.out _ (Below.refl _ _)).mono ?_
 rintro e w2 ⟨hb2,rfl⟩
 have HB2:=Zh hb2
 clear HS hb2
 go_wp2_with fail
 refine (HY.out _ HB2.out).mono ?_
 rintro e w3 ⟨rfl,hb3⟩
 have HB3:=Zh (HB1.out.trans ((HB2.out.trans (hb3.mono HB2.out.size)).mono HB1.out.size))
 have q1:IntKind.i64.wrap ((3:Int) + (T2:Int)) = ((3 + T2:Nat):Int):=by rw [IntWalk.i64_in _ (by omega)];omega
 have q2:IntKind.i64.wrap (((3 + T2:Nat):Int) + (sn:Int)) = ((3 + T2 + sn:Nat):Int):=by rw [IntWalk.i64_in _ (by omega)];omega
 clear HY hb3
 go_wp2
 go_ret2
 exact ⟨by rw [HD.out];simp only [Int.natCast_add];rfl,HB3.out⟩
end Go.Proofs.YtendielanacflaaGreat

namespace Go.Proofs.YtendielanacflaaGreat
open Go.RowKit Go.Shelf M01 M04 M05 M06 M07 M08 M09 M10 M17
theorem Zkq (f:List Nat) (hl:f.length <= 286):weight (limL f 15) <= 2 ^ 20:=by
 obtain ⟨h15,h⟩:=Zcp f hl
 have hm:May (limL f 15):=⟨fun x hx=>Nat.le_trans (h15 x hx) (by decide),by rw [Zas];omega⟩
 have hc:(clsE (limL f 15)).1 = cls (limL f 15):=by unfold clsE;rw [if_pos hm]
 rw [hc] at h
 rcases h with (h | h) | ⟨h,_⟩
 ·unfold cls at h
  split at h
  ·omega
  ·split at h
   ·omega
   ·split at h
    ·omega
    ·omega
 ·unfold singleB at h
  simp only [decide_eq_true_eq] at h
  obtain ⟨h1,h2⟩:=h
  generalize limL f 15 = l at *
  have:weight l <= 2 ^ 19 * l.sum:=by
   clear h2 hm hc h15
   induction l with
   | nil=>exact Nat.zero_le _
   | cons x l ih =>
    have ih:=ih (fun y hy=>h1 y (by simp [hy]))
    have hx:=h1 x (by simp)
    unfold weight at ih ⊢
    rw [List.map_cons,List.sum_cons,List.sum_cons,Nat.mul_add]
    have:wt x <= 2 ^ 19 * x:=by
     rcases (show x = 0 \/ x = 1 by omega) with rfl | rfl
     ·simp [wt]
     ·simp [wt]
    omega
  rw [h2] at this
  exact Nat.le_trans this (by decide)
 ·unfold cls at h
  split at h
  ·omega
  ·split at h
   ·omega
   ·split at h <;> omega
theorem Zwt (l:List Tok):(∀ x ∈ codF l,x <= 15) /\ weight (codF l) <= 2 ^ 20:=by
 unfold codF bestF
 have h1:=(Zcp (cntU false 286 (useU l)) (by rw [Zaj];decide)).1
 have h2:=Zkq (cntU false 286 (useU l)) (by rw [Zaj];decide)
 exact ⟨fun x hx=>h1 x (List.mem_of_mem_take hx),by rw [Zhf (Zdw _ _)];exact h2⟩
theorem Zwu (l:List Tok):(∀ x ∈ codO l,x <= 15) /\ weight (codO l) <= 2 ^ 20:=by
 unfold codO bestO
 have h1:=(Zcp (cntU true 30 (useU l)) (by rw [Zaj];decide)).1
 have h2:=Zkq (cntU true 30 (useU l)) (by rw [Zaj];decide)
 exact ⟨fun x hx=>h1 x (List.mem_of_mem_take hx),by rw [Zhf (Zdw _ _)];exact h2⟩
end Go.Proofs.YtendielanacflaaGreat

namespace Go.Proofs.YtendielanacflaaGreat.M18
open Go.RowKit Go.Shelf M01 M04 M05 M06 M07 M08 M09 M10 M17
def bestK (a b c:Nat):Nat:=if b < a then (if c < b then 2 else 1) else if c < a then 2 else 0
def stoN (n at_:Nat):Nat:=st n at_ - at_
def kindK (l:List Tok) (n at_:Nat):Nat:=bestK (stoN n at_) (fixOut l).1 (dynOut l).1
def fixW (s:Wst) (last:Bool) (l:List Tok):Wst:=layBlk fixF fixD (begW s last 1) l
def dynW (s:Wst) (last:Bool) (l:List Tok):Wst:=layBlk (codF l) (codO l) (hputW (begW s last 2) (codF l) (codO l)) l
def partW (s:Wst) (last:Bool) (l:List Tok) (x:List Nat):Wst :=
 if kindK l x.length s.2 = 0 then stoW s last x else if kindK l x.length s.2 = 1 then fixW s last l else dynW s last l
def Oks (l:List Tok):Prop:=(∀ t ∈ l,tokOk t) /\ ∀ t ∈ l,t.byte < 256
theorem Oks.take {l:List Tok} (h:Oks l) (n:Nat):Oks (l.take n):=⟨fun t ht=>h.1 t (List.mem_of_mem_take ht),fun t ht=>h.2 t (List.mem_of_mem_take ht)⟩
theorem Oks.drop {l:List Tok} (h:Oks l) (n:Nat):Oks (l.drop n):=⟨fun t ht=>h.1 t (List.mem_of_mem_drop ht),fun t ht=>h.2 t (List.mem_of_mem_drop ht)⟩
theorem codW (l:List Tok):Cod (codF l) (codO l):=by
 have h1:=Zhu l
 have h2:=Zhv l
 exact ⟨Zfg l,Zfh l,(Zwt l).2,(Zwu l).2,by omega,by omega⟩
theorem codHas {l:List Tok} (h:Oks l):HasW (codF l) (codO l) l:=⟨h.1,h.2,fun r hr=>(Zwv l h.2 h.1 r hr).2⟩
theorem Zaie {s:Wst} (h:WG s) (last:Bool) (l:List Tok):WG (fixW s last l) /\ ExtW s (fixW s last l):=by
 have h1:=Zcn h last 1
 have h2:=Zib h1.1 fixF fixD l
 exact ⟨h2.1,h1.2.1.trans h2.2⟩
theorem Zahy {s:Wst} (h:WG s) (last:Bool) (l:List Tok):WG (dynW s last l) /\ ExtW s (dynW s last l):=by
 have h1:=Zcn h last 2
 have h2:=Zqr h1.1 (codF l) (codO l)
 have h3:=Zib h2.1 (codF l) (codO l) l
 exact ⟨h3.1,h1.2.1.trans (h2.2.trans h3.2)⟩
theorem Zjh {s:Wst} (h:WG s) (last:Bool) (l:List Tok) (x:List Nat):WG (partW s last l x) /\ ExtW s (partW s last l x):=by
 unfold partW
 split
 ·have:=Zgd x.length x s last (Nat.le_refl _) h
  exact ⟨this.1,this.2.1⟩
 ·split
  ·exact Zaie h last l
  ·exact Zahy h last l
theorem Zaic:∀ s,s < 30 -> fixO.getD s 0 = fixD.getD s 0:=by decide +kernel
theorem Zqo {l:List Tok} (h:Oks l):fixOut l = (3 + (symOut fixF fixD l).1,0):=by
 have e:symU fixF fixO (useU l) 0 = symU fixF fixD (useU l) 0:=by
  refine Zaef _ _ _ _ _ 0 (fun r hr _=>?_)
  obtain ⟨_,_,h3⟩:=M17.Zde l h.1 h.2 r hr
  unfold lensOf
  cases hf:r.far with
  | false=>rfl
  | true=>rw [hf] at h3;simp only [if_true] at h3 ⊢;exact Zaic _ h3
 obtain ⟨m,hm⟩:=Zaae fixF fixD (useU l) 0 (fun r hr=>⟨(M17.Zde l h.1 h.2 r hr).1,(fixHas h.1 h.2).2.2 r hr⟩)
 unfold fixOut symOut
 rw [e,hm]
theorem Zaby {s:Wst} (h:WG s) (last:Bool) {l:List Tok} (ho:Oks l):(fixW s last l).2 = s.2 + (fixOut l).1:=by
 have h1:=Zcn h last 1
 unfold fixW
 rw [Zwh h1.1 l ho.1 (fun r hr=>⟨(M17.Zde l ho.1 ho.2 r hr).1,(fixHas ho.1 ho.2).2.2 r hr⟩),h1.2.2,Zqo ho]
 simp only
 omega
theorem Zqk {l:List Tok} (h:Oks l):dynOut l = (3 + headN l + (symOut (codF l) (codO l) l).1,0):=by unfold dynOut;rw [Zws h.1];rfl
theorem Zabn {s:Wst} (h:WG s) (last:Bool) {l:List Tok} (ho:Oks l):(dynW s last l).2 = s.2 + (dynOut l).1:=by
 have h1:=Zcn h last 2
 have h2:=Zqr h1.1 (codF l) (codO l)
 unfold dynW
 rw [Zwh h2.1 l ho.1 (Zwv l ho.2 ho.1),Zacf,h1.2.2,Zqk ho]
 unfold headN
 simp only
 omega
theorem Zafi (n at_:Nat):at_ <= st n at_:=by have:=(Zkc n at_).1;omega
theorem Zki (a b c:Nat):(bestK a b c = 0 /\ min (min a b) c = a) \/ (bestK a b c = 1 /\ min (min a b) c = b) \/ (bestK a b c = 2 /\ min (min a b) c = c):=by
 unfold bestK
 by_cases h1:b < a
 ·by_cases h2:c < b
  ·rw [if_pos h1,if_pos h2];omega
  ·rw [if_pos h1,if_neg h2];omega
 ·by_cases h2:c < a
  ·rw [if_neg h1,if_pos h2];omega
  ·rw [if_neg h1,if_neg h2];omega
theorem Zfz {s:Wst} (h:WG s) (last:Bool) {l:List Tok} (ho:Oks l) (x:List Nat):(partW s last l x).2 = s.2 + min (min (stoN x.length s.2) (fixOut l).1) (dynOut l).1:=by
 have e0:=(Zgd x.length x s last (Nat.le_refl _) h).2.2
 have e1:=Zaby h last ho
 have e2:=Zabn h last ho
 have e3:=Zafi x.length s.2
 have hs:=Zki (stoN x.length s.2) (fixOut l).1 (dynOut l).1
 unfold partW kindK
 rcases hs with ⟨hk,hm⟩ | ⟨hk,hm⟩ | ⟨hk,hm⟩
 ·rw [hk,hm,if_pos rfl,e0];unfold stoN;omega
 ·rw [hk,hm,if_neg (by decide),if_pos rfl,e1]
 ·rw [hk,hm,if_neg (by decide),if_neg (by decide),e2]
theorem Zkv {s t:Wst} (h:WG s) (hk:WG t) (last:Bool) {l:List Tok} (ho:Oks l) (x out:List Nat) (hx:∀ c ∈ x,c < 256) (he:expL out l = some (out ++ x)) (ht:ExtW (partW s last l x) t):Rd last t s (partW s last l x) out (out ++ x):=by
 have hlen:=Zfz h last ho x
 have hmin:1 <= min (min (stoN x.length s.2) (fixOut l).1) (dynOut l).1:=by
  rw [Zqo ho,Zqk ho]
  have:=(Zkc x.length s.2).1
  unfold stoN
  simp only
  omega
 unfold partW at ht hlen ⊢
 split at ht
 ·next hk0 =>
  rw [if_pos hk0]
  exact Zpk x.length x s t last out (Nat.le_refl _) h hk hx ht
 ·next hk0 =>
  rw [if_neg hk0] at hlen ⊢
  split at ht
  ·next hk1 =>
   rw [if_pos hk1] at hlen ⊢
   exact Rd.one (by omega) (fun g=>Zxk h hk last l codFix (fixHas ho.1 ho.2) ht out (out ++ x) he g)
  ·next hk1 =>
   rw [if_neg hk1] at hlen ⊢
   exact Rd.one (by omega) (fun g=>Zxg h hk last l (codF l) (codO l) (Zqd l ho.1) (codW l) (codHas ho) ht out (out ++ x) he g)
def emA (s:Wst) (l:List Tok) (x:List Nat):Wst :=
 if l.length <= 1024 then partW s true l x else emA (partW s false (l.take 1024) (x.take (sizL (l.take 1024)))) (l.drop 1024) (x.drop (sizL (l.take 1024)))
termination_by l.length
decreasing_by rw [List.length_drop]; omega
theorem Zgq (s:Wst) (l:List Tok) (x:List Nat) (h:l.length <= 1024):emA s l x = partW s true l x:=by rw [emA,if_pos h]
theorem Zhy (s:Wst) (l:List Tok) (x:List Nat) (h:1024 < l.length):emA s l x = emA (partW s false (l.take 1024) (x.take (sizL (l.take 1024)))) (l.drop 1024) (x.drop (sizL (l.take 1024))):=by rw [emA,if_neg (by omega)]
theorem Zabo:∀ (n:Nat) (l:List Tok) (s:Wst) (x:List Nat),l.length <= n -> WG s -> WG (emA s l x) /\ ExtW s (emA s l x):=by
 intro n
 induction n using Nat.strongRecOn with
 | _ n ih =>
  intro l s x hn h
  by_cases hl:l.length <= 1024
  ·rw [Zgq s l x hl];exact Zjh h true l x
  ·rw [Zhy s l x (by omega)]
   have h1:=Zjh h false (l.take 1024) (x.take (sizL (l.take 1024)))
   have h2:=ih (n - 1) (by omega) (l.drop 1024) _ (x.drop (sizL (l.take 1024))) (by rw [List.length_drop];omega) h1.1
   exact ⟨h2.1,h1.2.trans h2.2⟩
theorem Zabp:∀ (n:Nat) (l:List Tok) (s t:Wst) (x out:List Nat),l.length <= n -> WG s -> WG t -> Oks l -> (∀ c ∈ x,c < 256) -> expL out l = some (out ++ x) -> ExtW (emA s l x) t -> RdEnd t s (emA s l x) out (out ++ x):=by
 intro n
 induction n using Nat.strongRecOn with
 | _ n ih =>
  intro l s t x out hn h hk ho hx he ht
  by_cases hl:l.length <= 1024
  ·rw [Zgq s l x hl] at ht ⊢
   have:=Zkv h hk true ho x out hx he ht
   unfold Rd at this
   rw [if_pos rfl] at this
   exact this
  ·rw [Zhy s l x (by omega)] at ht ⊢
   rw [<- List.take_append_drop 1024 l] at he
   obtain ⟨e1,e2,e3⟩:=Zul he
   have h1:=Zjh h false (l.take 1024) (x.take (sizL (l.take 1024)))
   have h2:=Zabo l.length (l.drop 1024) _ (x.drop (sizL (l.take 1024))) (by rw [List.length_drop];omega) h1.1
   have r1:=Zkv h hk false (ho.take 1024) _ out (fun c hc=>hx c (List.mem_of_mem_take hc)) e1 (h2.2.trans ht)
   have r2:=ih (n - 1) (by omega) (l.drop 1024) _ t (x.drop (sizL (l.take 1024))) (out ++ x.take (sizL (l.take 1024))) (by rw [List.length_drop];omega) h1.1 hk (ho.drop 1024) (fun c hc=>hx c (List.mem_of_mem_drop hc)) e2 ht
   have r3:Rd true t (partW s false (l.take 1024) (x.take (sizL (l.take 1024)))) (emA (partW s false (l.take 1024) (x.take (sizL (l.take 1024)))) (l.drop 1024) (x.drop (sizL (l.take 1024)))) (out ++ x.take (sizL (l.take 1024))) ((out ++ x.take (sizL (l.take 1024))) ++ x.drop (sizL (l.take 1024))):=by
    unfold Rd;rw [if_pos rfl];exact r2
   have:=Rd.join (by unfold Rd at r1;rw [if_neg (by decide)] at r1;exact r1) r3
   unfold Rd at this
   rw [if_pos rfl,List.append_assoc,List.take_append_drop] at this
   exact this
def emN (l:List Tok) (at_:Nat):Nat :=
 if l.length <= 1024 then at_ + min (min (stoN (sizL l) at_) (fixOut l).1) (dynOut l).1
 else emN (l.drop 1024) (at_ + min (min (stoN (sizL (l.take 1024)) at_) (fixOut (l.take 1024)).1) (dynOut (l.take 1024)).1)
termination_by l.length
decreasing_by rw [List.length_drop]; omega
theorem Zxi (l:List Tok) (at_:Nat) (h:l.length <= 1024):emN l at_ = at_ + min (min (stoN (sizL l) at_) (fixOut l).1) (dynOut l).1:=by rw [emN,if_pos h]
theorem Zsj (l:List Tok) (at_:Nat) (h:1024 < l.length):emN l at_ = emN (l.drop 1024) (at_ + min (min (stoN (sizL (l.take 1024)) at_) (fixOut (l.take 1024)).1) (dynOut (l.take 1024)).1):=by rw [emN,if_neg (by omega)]
theorem Zafy:∀ (n:Nat) (l:List Tok) (s:Wst) (x:List Nat),l.length <= n -> WG s -> Oks l -> x.length = sizL l -> (emA s l x).2 = emN l s.2:=by
 intro n
 induction n using Nat.strongRecOn with
 | _ n ih =>
  intro l s x hn h ho hx
  by_cases hl:l.length <= 1024
  ·rw [Zgq s l x hl,Zxi l s.2 hl,Zfz h true ho,hx]
  ·have h1:=Zjh h false (l.take 1024) (x.take (sizL (l.take 1024)))
   have hs:sizL l = sizL (l.take 1024) + sizL (l.drop 1024):=by rw [<- Zmv,List.take_append_drop]
   have e1:(x.take (sizL (l.take 1024))).length = sizL (l.take 1024):=by rw [List.length_take];omega
   rw [Zhy s l x (by omega),Zsj l s.2 (by omega),ih (n - 1) (by omega) (l.drop 1024) _ _ (by rw [List.length_drop];omega) h1.1 (ho.drop 1024) (by rw [List.length_drop];omega),Zfz h false (ho.take 1024),e1]
def plainN (n:Nat):Nat:=n + 5 * max 1 ((n + 65534) / 65535)
theorem Zaga (b:Nat):ev 0 b = b * 524320:=by
 induction b with
 | zero=>rfl
 | succ b ih=>simp only [ev,ih];unfold align;omega
theorem Zadx (n:Nat):st n 0 = 8 * plainN n:=by
 unfold plainN
 by_cases h0:n = 0
 ·subst h0;rw [Zaha];rfl
 ·obtain ⟨b,hb⟩:∃ b,(n + 65534) / 65535 = b + 1:=⟨(n + 65534) / 65535 - 1,by omega⟩
  rw [Zaiu b n 0 hb,Zaga,hb]
  have h1:65535 * b <= n:=by omega
  unfold align
  omega
def plainW (x:List Nat):Wst:=stoW ([],0) true x
theorem Zgw (x:List Nat):(plainW x).2 = 8 * plainN x.length /\ (plainW x).1.length = plainN x.length:=by
 have h:=Zgd x.length x ([],0) true (Nat.le_refl _) Zbv
 have e:(plainW x).2 = 8 * plainN x.length:=by rw [<- Zadx];exact h.2.2
 refine ⟨e,?_⟩
 have:=h.1.1.1
 unfold plainW at *
 omega
def deflB (l:List Tok) (x:List Nat):List Nat:=if (plainW x).2 < (emA ([],0) l x).2 /\ (plainW x).1.length < (emA ([],0) l x).1.length then (plainW x).1 else (emA ([],0) l x).1
theorem Zabj {l:List Tok} {x:List Nat} (ho:Oks l) (he:expL [] l = some x):(deflB l x).length = min ((emN l 0 + 7) / 8) (plainN x.length):=by
 have hx:x.length = sizL l:=by have:=(Zfr l he).2;simpa using this
 have h1:=Zgw x
 have h2:=Zafy l.length l ([],0) x (Nat.le_refl _) Zbv ho hx
 have h3:=(Zabo l.length l ([],0) x (Nat.le_refl _) Zbv).1.1.1
 simp only at h2
 unfold deflB
 split
 ·omega
 ·omega
theorem Zsk {t s:Wst} {x:List Nat} (h:RdEnd t ([],0) s [] x) (hs:s.2 <= t.2) (ht:WG t):inflB t.1 = some (s.2,x):=by
 obtain ⟨m,h1,h2⟩:=h
 have h3:=ht.1.1
 unfold inflB
 simp only at h1
 obtain ⟨f,hf⟩:∃ f,8 * t.1.length + 1 = m + f:=⟨8 * t.1.length + 1 - m,by omega⟩
 rw [hf]
 exact h2 f
theorem Zxd {l:List Tok} {x:List Nat} (ho:Oks l) (he:expL [] l = some x) (beh:List Nat) (hb:∀ c ∈ beh,c < 256):∃ at2,inflB (deflB l x ++ beh) = some (at2,x) /\ (at2 + 7) / 8 = (deflB l x).length:=by
 have hx:=Znx l [] x ho.2 (by simp) he
 unfold deflB
 split
 ·have hg:=(Zgd x.length x ([],0) true (Nat.le_refl _) Zbv).1
  have ht:=Zaai (s:=plainW x) hg beh hb
  have hr:=Zpk x.length x ([],0) (tailW (plainW x) beh) true [] (Nat.le_refl _) Zbv ht.1 hx ht.2
  unfold Rd at hr
  rw [if_pos rfl] at hr
  exact ⟨(plainW x).2,Zsk hr ht.2.1 ht.1,Zlj hg⟩
 ·have hg:=(Zabo l.length l ([],0) x (Nat.le_refl _) Zbv).1
  have ht:=Zaai hg beh hb
  have hr:=Zabp l.length l ([],0) (tailW (emA ([],0) l x) beh) x [] (Nat.le_refl _) Zbv ht.1 ho hx (by rw [he];rfl) ht.2
  exact ⟨(emA ([],0) l x).2,Zsk hr ht.2.1 ht.1,Zlj hg⟩
theorem Zxc {l:List Tok} {x:List Nat}:∀ c ∈ deflB l x,c < 256:=by
 have h1:=(Zgd x.length x ([],0) true (Nat.le_refl _) Zbv).1.1.2
 have h2:=(Zabo l.length l ([],0) x (Nat.le_refl _) Zbv).1.1.2
 unfold deflB
 split
 ·exact h1
 ·exact h2
end Go.Proofs.YtendielanacflaaGreat.M18

namespace Go.Proofs.YtendielanacflaaGreat
open Go.RowKit Go.Shelf M01 M09 M10 M17 M18
theorem Zdo (n k:Nat) (h1:1 <= n) (h2:n <= 1000) (w:World) :
  Calls Tryz.prog 106 #[.int .i64 n,.int .u8 k] w fun e w'=>∃ g,e = .returned (.slice (some ⟨g,0,none⟩) n n) /\ RowN .u8 w' (some ⟨g,0,none⟩) n (List.replicate n k) /\ Below w.heap.size w w':=by
 go_enter Tryz.func106,Tryz.ntmps106
 go_wp2_with fail
 refine (Zbp n k _ h1 h2 _ ?h1 ?h2).mono ?_
 case h1=>exact cell_of_one (World.alloc_heap_new _ _)
 case h2=>simp
 rintro e w1 ⟨g,rfl,hr,hb⟩
 have HR:=Zh hr
 have HB:=Zh hb
 clear hr hb
 go_wp2
 go_ret
 exact ⟨g,rfl,HR.out,(Zcu _ _).trans (HB.out.mono (by simp))⟩
theorem fldP0 (R:Nat) (w:World):(Instr.fieldAt 64 (.pointer (some ⟨R,0,none⟩)) 0).run Tryz.prog w = .ok (.pointer (some ⟨R,0,none⟩)) w:=by kernel_rfl
theorem ldTok (p:Addr) (v:Value) (w:World) (h:w.cell? p = some v):(Instr.loadAt 22 (.pointer (some p))).run Tryz.prog w = .ok v w:=by
 simp [Instr.loadAt,Instr.sureAddr,loadVar,isAgg,run_underlying Tryz.underlying22,h,go_sem]
theorem bld4 (g1 g2 g3 g4:Nat) (w:World):(Instr.buildSlice 181 4 #[(0,.slice (some ⟨g1,0,none⟩) 144 144),(1,.slice (some ⟨g2,0,none⟩) 112 112),(2,.slice (some ⟨g3,0,none⟩) 24 24),(3,.slice (some ⟨g4,0,none⟩) 8 8)]).run Tryz.prog w = .ok (.slice (some ⟨w.heap.size,0,none⟩) 4 4) (w.alloc (.cells #[.slice (some ⟨g1,0,none⟩) 144 144,.slice (some ⟨g2,0,none⟩) 112 112,.slice (some ⟨g3,0,none⟩) 24 24,.slice (some ⟨g4,0,none⟩) 8 8] 24)):=by kernel_rfl
theorem Zabw:fixD.length = 32:=by simp [fixD]
abbrev VFix (p tb:Nat) (a:Option Addr) (cap:Nat) (l:List Tok) (j:Nat) (v:Value) (A:World):Prop:=match j with
 | 0=>v = .pointer (some ⟨p,0,none⟩)
 | 1=>v = .pointer (some ⟨tb,0,none⟩)
 | 2=>v = .slice a l.length cap
 | 3=>v = .func (.func 106) #[] #[]
 | 5=>v = .func (.func 106) #[] #[]
 | 7=>v = .func (.func 106) #[] #[]
 | 9=>v = .func (.func 106) #[] #[]
 | 13=>v = .func (.func 106) #[] #[]
 | 4=>∃ g,v = .slice (some ⟨g,0,none⟩) 144 144 /\ RowN .u8 A (some ⟨g,0,none⟩) 144 (List.replicate 144 8)
 | 6=>∃ g,v = .slice (some ⟨g,0,none⟩) 112 112 /\ RowN .u8 A (some ⟨g,0,none⟩) 112 (List.replicate 112 9)
 | 8=>∃ g,v = .slice (some ⟨g,0,none⟩) 24 24 /\ RowN .u8 A (some ⟨g,0,none⟩) 24 (List.replicate 24 7)
 | 10=>∃ g,v = .slice (some ⟨g,0,none⟩) 8 8 /\ RowN .u8 A (some ⟨g,0,none⟩) 8 (List.replicate 8 8)
 | 14=>∃ g,v = .slice (some ⟨g,0,none⟩) 32 32 /\ RowN .u8 A (some ⟨g,0,none⟩) 32 (fixD)
 | 11=>∃ a9 g1 g2 g3 g4,v = .slice a9 4 4 /\ RowS encSl A a9 4 (four4 g1 g2 g3 g4) /\ ∀ x ∈ four4 g1 g2 g3 g4,RowN .u8 A x.1 x.2.1 x.2.2
 | 12=>∃ a9 c9,v = .slice a9 288 c9 /\ RowN .u8 A a9 c9 fixF
 | _=>True
theorem VFix.below {p tb:Nat} {a:Option Addr} {cap:Nat} {l:List Tok} {j:Nat} {v:Value} {A B:World} (h:VFix p tb a cap l j v A) (hb:Below A.heap.size A B):VFix p tb a cap l j v B:=by
 unfold VFix at *
 split at h <;> first
  | exact h
  | (obtain ⟨g,e,r⟩:=h;exact ⟨g,e,r.below hb⟩)
  | (obtain ⟨a9,g1,g2,g3,g4,e,r,rr⟩:=h;exact ⟨a9,g1,g2,g3,g4,e,r.below hb,fun x hx=>(rr x hx).below hb⟩)
  | (obtain ⟨a9,c9,e,r⟩:=h;exact ⟨a9,c9,e,r.below hb⟩)
set_option maxRecDepth 100000 in
set_option maxHeartbeats 3200000 in
theorem Zuh {P:Nat -> Prop} {w:World} {p:Nat} {s:Wst} (hW:Wr P w p s) (hg:WG s) (a:Option Addr) (cap:Nat) (l:List Tok) (ta:Option Addr) (tn tc:Nat) (last:Bool) (hr:RowS encT w a cap l) (hby:∀ t ∈ l,t.byte < 256)
  (hQ:∀ x,0 < l.length -> a = some x -> ¬ P x.block) (hQ2:∀ x,0 < l.length -> a = some x -> x.block < w.heap.size) (hl:l.length <= 1100) (hs:s.2 <= 9000000) :
  Calls Tryz.prog 65 #[.pointer (some ⟨p,0,none⟩),.agg #[.slice a l.length cap,.slice ta tn tc,.bool last]] w fun e w'=>e = .returned (.tuple #[]) /\ Only P w w' /\ Wr P w' p (fixW s last l):=by
 have hbx:=Zai w (.cells #[.slice a l.length cap,.slice ta tn tc,.bool last] 64)
 have htc:=World.alloc_heap_new w (.cells #[.slice a l.length cap,.slice ta tn tc,.bool last] 64)
 have hsx:w.heap.size < (w.alloc (.cells #[.slice a l.length cap,.slice ta tn tc,.bool last] 64)).heap.size:=by simp
 have HWX:=Zh (hW.narrow hbx)
 have HRX:=Zh (hr.below hbx)
 have HTC:Hid (∀ A,Only (Sub P w.heap.size (w.alloc (.cells #[.slice a l.length cap,.slice ta tn tc,.bool last] 64)).heap.size) (w.alloc (.cells #[.slice a l.length cap,.slice ta tn tc,.bool last] 64)) A -> A.cell? ⟨w.heap.size,0,none⟩ = some (.slice a l.length cap) /\ A.cell? ⟨w.heap.size,2,none⟩ = some (.bool last)):=Zh (fun A hA=>by
  have g:=(hA.block w.heap.size hsx (fun h=>h.2 ⟨Nat.le_refl _,hsx⟩)).trans htc
  exact ⟨(cells3 g).1,(cells3 g).2.2⟩)
 have HWD:Hid (∀ A st',Only (Sub P w.heap.size (w.alloc (.cells #[.slice a l.length cap,.slice ta tn tc,.bool last] 64)).heap.size) (w.alloc (.cells #[.slice a l.length cap,.slice ta tn tc,.bool last] 64)) A -> Wr (Sub P w.heap.size (w.alloc (.cells #[.slice a l.length cap,.slice ta tn tc,.bool last] 64)).heap.size) A p st' -> Only P w A /\ Wr P A p st'):=Zh (fun A st' g1 g2=>⟨(Only.ofBelow hbx).trans g1.widen,g2.widen⟩)
 have HQX:Hid (∀ x,0 < l.length -> a = some x -> ¬ Sub P w.heap.size (w.alloc (.cells #[.slice a l.length cap,.slice ta tn tc,.bool last] 64)).heap.size x.block /\ x.block < (w.alloc (.cells #[.slice a l.length cap,.slice ta tn tc,.bool last] 64)).heap.size):=Zh (fun x h0 ha=>⟨fun h=>hQ x h0 ha h.1,Nat.lt_trans (hQ2 x h0 ha) hsx⟩)
 have HBY:=Zh hby
 have hbz:(begW s last 1).2 <= 10000000:=by have:=(Zcn hg last 1).2.2;omega
 have HTB:Hid (∀ A B,Only (Sub P w.heap.size (w.alloc (.cells #[.slice a l.length cap,.slice ta tn tc,.bool last] 64)).heap.size) (w.alloc (.cells #[.slice a l.length cap,.slice ta tn tc,.bool last] 64)) A -> Below A.heap.size A B -> B.cell? ⟨w.heap.size,0,none⟩ = some (.slice a l.length cap)):=Zh (fun A B hA hB=>(HTC.out B (hA.trans (Only.ofBelow hB))).1)
 have hxl:=hr.len
 have hcap:=hr.1
 obtain ⟨k0,k1⟩:=HTC.out _ (Only.refl _ _)
 obtain ⟨F,hF⟩:∃ F,fixW s last l = F:=⟨_,rfl⟩
 have HF:=Zh hF
 rw [hF]
 clear hW hg hr hby hQ hQ2 hbx htc hsx hF
 go_enter Tryz.func65,Tryz.ntmps65
 go_wp2_with fail
 obtain ⟨tb,htb⟩:∃ tb,w.heap.size = tb:=⟨_,rfl⟩
 rw [htb] at HWX HQX HTC HTB HWD k0 k1
 generalize Sub P tb (w.alloc (.cells #[.slice a l.length cap,.slice ta tn tc,.bool last] 64)).heap.size = Q at *
 generalize w.alloc (.cells #[.slice a l.length cap,.slice ta tn tc,.bool last] 64) = W1 at *
 have HBG:=Zh (Zcv HWX.out last 1 (by decide) (by omega))
 clear HWX
 go_wp2_with fail
 refine HBG.out.mono ?_
 rintro e W2 ⟨rfl,ho2,hw2⟩
 have HO2:=Zh ho2
 have HW2:=Zh hw2
 clear ho2 hw2 HBG
 have HR2:=Zh (HRX.out.same HO2.out.size (fun x h0 ha=>HO2.out.block x.block (HQX.out x h0 ha).2 (HQX.out x h0 ha).1))
 go_wp2
 refine Zbn [9,10,11,12,13,14,15,16,17,18,19,20,21,22,23,24] (fun _=>false) (fun listed A=>if listed.getD 15 false = true then (Only Q W1 A /\ Wr Q A p F) else Below W2.heap.size W2 A) (fun j v A=>VFix p tb a cap l j v A) (fun _ _ _ _=>True) (by kernel_rfl) (by kernel_rfl) (OneEach.mk' (by kernel_rfl) (by kernel_rfl)) (by kernel_rfl) (by kernel_rfl) (by rw [if_neg (by decide)];exact ⟨rfl,rfl,rfl,Nat.le_refl _,fun _ _=>rfl⟩) ?_ ?_
 ·intro i0 o hi0 listed a1 w1 hR hil hunf hdes hanc hout hold hdep
  have hsz:i0 < 16:=(Array.getElem?_eq_some_iff.1 hi0).1
  have hall:i0 = 0 \/ i0 = 1 \/ i0 = 2 \/ i0 = 3 \/ i0 = 4 \/ i0 = 5 \/ i0 = 6 \/ i0 = 7 \/ i0 = 8 \/ i0 = 9 \/ i0 = 10 \/ i0 = 11 \/ i0 = 12 \/ i0 = 13 \/ i0 = 14 \/ i0 = 15:=by omega
  clear hsz
  rcases hall with rfl | rfl | rfl | rfl | rfl | rfl | rfl | rfl | rfl | rfl | rfl | rfl | rfl | rfl | rfl | rfl <;> simp only [List.getElem?_toArray,List.getElem?_cons_zero,List.getElem?_cons_succ,Option.some.injEq] at hi0 <;> subst hi0
  ·have h15:listed.getD 15 false = false:=hdes 15 (by kernel_rfl)
   rw [h15,if_neg (by decide)] at hR
   have f0:a1.eval (.tmp 0) = .pointer (some ⟨p,0,none⟩):=hout 0 (by decide)
   refine Zab (v:=.pointer (some ⟨p,0,none⟩)) (w':=w1) (by simp [execOp,f0]) ⟨_,rfl,by rw [Zaa (by decide),h15,if_neg (by decide)];exact hR,fun j u hu hV _=>⟨hV,trivial,trivial⟩,rfl⟩
  ·have h15:listed.getD 15 false = false:=hdes 15 (by kernel_rfl)
   rw [h15,if_neg (by decide)] at hR
   have f3:a1.eval (.tmp 3) = .pointer (some ⟨tb,0,none⟩):=hout 3 (by decide)
   refine Zab (v:=.pointer (some ⟨tb,0,none⟩)) (w':=w1) (by simp [execOp,f3,fldP0]) ⟨_,rfl,by rw [Zaa (by decide),h15,if_neg (by decide)];exact hR,fun j u hu hV _=>⟨hV,trivial,trivial⟩,rfl⟩
  ·have h15:listed.getD 15 false = false:=hdes 15 (by kernel_rfl)
   rw [h15,if_neg (by decide)] at hR
   have e10:a1.eval (.tmp 10) = .pointer (some ⟨tb,0,none⟩):=hdep ⟨1,.data⟩ (by simp) rfl _ rfl
   have hc:=HTB.out _ _ HO2.out hR
   refine Zab (v:=.slice a l.length cap) (w':=w1) (by simp [execOp,e10,ldTok _ _ _ hc]) ⟨_,rfl,by rw [Zaa (by decide),h15,if_neg (by decide)];exact hR,fun j u hu hV _=>⟨hV,trivial,trivial⟩,rfl⟩
  ·have h15:listed.getD 15 false = false:=hdes 15 (by kernel_rfl)
   rw [h15,if_neg (by decide)] at hR
   have f4:a1.eval (.tmp 4) = .func (.func 106) #[] #[]:=hout 4 (by decide)
   refine Zab (v:=.func (.func 106) #[] #[]) (w':=w1) (by simp [execOp,f4]) ⟨_,rfl,by rw [Zaa (by decide),h15,if_neg (by decide)];exact hR,fun j u hu hV _=>⟨hV,trivial,trivial⟩,rfl⟩
  ·have h15:listed.getD 15 false = false:=hdes 15 (by kernel_rfl)
   rw [h15,if_neg (by decide)] at hR
   have e12:a1.eval (.tmp 12) = .func (.func 106) #[] #[]:=hdep ⟨3,.data⟩ (by simp) rfl _ rfl
   have x12:a1.tmps[12]?.getD undef = .func (.func 106) #[] #[]:=by simpa [Act.eval] using e12
   refine Zam (f:=106) (args:=_) (by simp [x12,go_sem]) ((Zdo 144 8 (by decide) (by decide) w1).mono ?_)
   rintro e w9 ⟨g,rfl,hr9,hb9⟩
   exact ⟨_,rfl,_,rfl,by rw [Zaa (by decide),h15,if_neg (by decide)];exact hR.trans (hb9.mono hR.size),fun j u hu hV _=>⟨VFix.below hV hb9,trivial,trivial⟩,g,rfl,hr9⟩
  ·have h15:listed.getD 15 false = false:=hdes 15 (by kernel_rfl)
   rw [h15,if_neg (by decide)] at hR
   have f4:a1.eval (.tmp 4) = .func (.func 106) #[] #[]:=hout 4 (by decide)
   refine Zab (v:=.func (.func 106) #[] #[]) (w':=w1) (by simp [execOp,f4]) ⟨_,rfl,by rw [Zaa (by decide),h15,if_neg (by decide)];exact hR,fun j u hu hV _=>⟨hV,trivial,trivial⟩,rfl⟩
  ·have h15:listed.getD 15 false = false:=hdes 15 (by kernel_rfl)
   rw [h15,if_neg (by decide)] at hR
   have e14:a1.eval (.tmp 14) = .func (.func 106) #[] #[]:=hdep ⟨5,.data⟩ (by simp) rfl _ rfl
   have x14:a1.tmps[14]?.getD undef = .func (.func 106) #[] #[]:=by simpa [Act.eval] using e14
   refine Zam (f:=106) (args:=_) (by simp [x14,go_sem]) ((Zdo 112 9 (by decide) (by decide) w1).mono ?_)
   rintro e w9 ⟨g,rfl,hr9,hb9⟩
   exact ⟨_,rfl,_,rfl,by rw [Zaa (by decide),h15,if_neg (by decide)];exact hR.trans (hb9.mono hR.size),fun j u hu hV _=>⟨VFix.below hV hb9,trivial,trivial⟩,g,rfl,hr9⟩
  ·have h15:listed.getD 15 false = false:=hdes 15 (by kernel_rfl)
   rw [h15,if_neg (by decide)] at hR
   have f4:a1.eval (.tmp 4) = .func (.func 106) #[] #[]:=hout 4 (by decide)
   refine Zab (v:=.func (.func 106) #[] #[]) (w':=w1) (by simp [execOp,f4]) ⟨_,rfl,by rw [Zaa (by decide),h15,if_neg (by decide)];exact hR,fun j u hu hV _=>⟨hV,trivial,trivial⟩,rfl⟩
  ·have h15:listed.getD 15 false = false:=hdes 15 (by kernel_rfl)
   rw [h15,if_neg (by decide)] at hR
   have e16:a1.eval (.tmp 16) = .func (.func 106) #[] #[]:=hdep ⟨7,.data⟩ (by simp) rfl _ rfl
   have x16:a1.tmps[16]?.getD undef = .func (.func 106) #[] #[]:=by simpa [Act.eval] using e16
   refine Zam (f:=106) (args:=_) (by simp [x16,go_sem]) ((Zdo 24 7 (by decide) (by decide) w1).mono ?_)
   rintro e w9 ⟨g,rfl,hr9,hb9⟩
   exact ⟨_,rfl,_,rfl,by rw [Zaa (by decide),h15,if_neg (by decide)];exact hR.trans (hb9.mono hR.size),fun j u hu hV _=>⟨VFix.below hV hb9,trivial,trivial⟩,g,rfl,hr9⟩
  ·have h15:listed.getD 15 false = false:=hdes 15 (by kernel_rfl)
   rw [h15,if_neg (by decide)] at hR
   have f4:a1.eval (.tmp 4) = .func (.func 106) #[] #[]:=hout 4 (by decide)
   refine Zab (v:=.func (.func 106) #[] #[]) (w':=w1) (by simp [execOp,f4]) ⟨_,rfl,by rw [Zaa (by decide),h15,if_neg (by decide)];exact hR,fun j u hu hV _=>⟨hV,trivial,trivial⟩,rfl⟩
  ·have h15:listed.getD 15 false = false:=hdes 15 (by kernel_rfl)
   rw [h15,if_neg (by decide)] at hR
   have e18:a1.eval (.tmp 18) = .func (.func 106) #[] #[]:=hdep ⟨9,.data⟩ (by simp) rfl _ rfl
   have x18:a1.tmps[18]?.getD undef = .func (.func 106) #[] #[]:=by simpa [Act.eval] using e18
   refine Zam (f:=106) (args:=_) (by simp [x18,go_sem]) ((Zdo 8 8 (by decide) (by decide) w1).mono ?_)
   rintro e w9 ⟨g,rfl,hr9,hb9⟩
   exact ⟨_,rfl,_,rfl,by rw [Zaa (by decide),h15,if_neg (by decide)];exact hR.trans (hb9.mono hR.size),fun j u hu hV _=>⟨VFix.below hV hb9,trivial,trivial⟩,g,rfl,hr9⟩
  ·have h15:listed.getD 15 false = false:=hdes 15 (by kernel_rfl)
   rw [h15,if_neg (by decide)] at hR
   obtain ⟨g1,e13,r1⟩:∃ g,a1.eval (.tmp 13) = .slice (some ⟨g,0,none⟩) 144 144 /\ RowN .u8 w1 (some ⟨g,0,none⟩) 144 (List.replicate 144 8):=hdep ⟨4,.data⟩ (by simp) rfl _ rfl
   have x13:a1.tmps[13]?.getD undef = .slice (some ⟨g1,0,none⟩) 144 144:=by simpa [Act.eval] using e13
   obtain ⟨g2,e15,r2⟩:∃ g,a1.eval (.tmp 15) = .slice (some ⟨g,0,none⟩) 112 112 /\ RowN .u8 w1 (some ⟨g,0,none⟩) 112 (List.replicate 112 9):=hdep ⟨6,.data⟩ (by simp) rfl _ rfl
   have x15:a1.tmps[15]?.getD undef = .slice (some ⟨g2,0,none⟩) 112 112:=by simpa [Act.eval] using e15
   obtain ⟨g3,e17,r3⟩:∃ g,a1.eval (.tmp 17) = .slice (some ⟨g,0,none⟩) 24 24 /\ RowN .u8 w1 (some ⟨g,0,none⟩) 24 (List.replicate 24 7):=hdep ⟨8,.data⟩ (by simp) rfl _ rfl
   have x17:a1.tmps[17]?.getD undef = .slice (some ⟨g3,0,none⟩) 24 24:=by simpa [Act.eval] using e17
   obtain ⟨g4,e19,r4⟩:∃ g,a1.eval (.tmp 19) = .slice (some ⟨g,0,none⟩) 8 8 /\ RowN .u8 w1 (some ⟨g,0,none⟩) 8 (List.replicate 8 8):=hdep ⟨10,.data⟩ (by simp) rfl _ rfl
   have x19:a1.tmps[19]?.getD undef = .slice (some ⟨g4,0,none⟩) 8 8:=by simpa [Act.eval] using e19
   have hb9:=Zcu w1 (.cells #[.slice (some ⟨g1,0,none⟩) 144 144,.slice (some ⟨g2,0,none⟩) 112 112,.slice (some ⟨g3,0,none⟩) 24 24,.slice (some ⟨g4,0,none⟩) 8 8] 24)
   refine Zab (v:=.slice (some ⟨w1.heap.size,0,none⟩) 4 4) (w':=w1.alloc (.cells #[.slice (some ⟨g1,0,none⟩) 144 144,.slice (some ⟨g2,0,none⟩) 112 112,.slice (some ⟨g3,0,none⟩) 24 24,.slice (some ⟨g4,0,none⟩) 8 8] 24)) (by simp [execOp,x13,x15,x17,x19,e13,e15,e17,e19,bld4]) ⟨_,rfl,by rw [Zaa (by decide),h15,if_neg (by decide)];exact hR.trans (hb9.mono hR.size),fun j u hu hV _=>⟨VFix.below hV hb9,trivial,trivial⟩,_,g1,g2,g3,g4,rfl,RowS.lit encSl w1 (four4 g1 g2 g3 g4) 24 _ _ rfl (Zir g1 g2 g3 g4).symm (by simp [four4]),?_⟩
   intro y hy
   simp only [four4,List.mem_cons,List.not_mem_nil,or_false] at hy
   rcases hy with rfl | rfl | rfl | rfl
   ·exact r1.below hb9
   ·exact r2.below hb9
   ·exact r3.below hb9
   ·exact r4.below hb9
  ·have h15:listed.getD 15 false = false:=hdes 15 (by kernel_rfl)
   rw [h15,if_neg (by decide)] at hR
   obtain ⟨a9,g1,g2,g3,g4,e20,rs,rr⟩:∃ a9 g1 g2 g3 g4,a1.eval (.tmp 20) = .slice a9 4 4 /\ RowS encSl w1 a9 4 (four4 g1 g2 g3 g4) /\ ∀ x ∈ four4 g1 g2 g3 g4,RowN .u8 w1 x.1 x.2.1 x.2.2:=hdep ⟨11,.data⟩ (by simp) rfl _ rfl
   have x20:a1.tmps[20]?.getD undef = .slice a9 4 4:=by simpa [Act.eval] using e20
   have hcc:=Zef a9 4 (four4 g1 g2 g3 g4) w1 rs rr (by rw [Zcw,Zdg];decide) (by rw [Zcw,Zdg];decide) (by simp [four4])
   rw [Zcw,Zdg] at hcc
   refine Zam (f:=92) (args:=#[.slice a9 4 4]) (by simp [x20,go_sem]) (hcc.mono ?_)
   rintro e w9 ⟨a8,c8,rfl,hr9,hb9⟩
   exact ⟨_,rfl,_,rfl,by rw [Zaa (by decide),h15,if_neg (by decide)];exact hR.trans (hb9.mono hR.size),fun j u hu hV _=>⟨VFix.below hV hb9,trivial,trivial⟩,a8,c8,rfl,hr9⟩
  ·have h15:listed.getD 15 false = false:=hdes 15 (by kernel_rfl)
   rw [h15,if_neg (by decide)] at hR
   have f4:a1.eval (.tmp 4) = .func (.func 106) #[] #[]:=hout 4 (by decide)
   refine Zab (v:=.func (.func 106) #[] #[]) (w':=w1) (by simp [execOp,f4]) ⟨_,rfl,by rw [Zaa (by decide),h15,if_neg (by decide)];exact hR,fun j u hu hV _=>⟨hV,trivial,trivial⟩,rfl⟩
  ·have h15:listed.getD 15 false = false:=hdes 15 (by kernel_rfl)
   rw [h15,if_neg (by decide)] at hR
   have e22:a1.eval (.tmp 22) = .func (.func 106) #[] #[]:=hdep ⟨13,.data⟩ (by simp) rfl _ rfl
   have x22:a1.tmps[22]?.getD undef = .func (.func 106) #[] #[]:=by simpa [Act.eval] using e22
   refine Zam (f:=106) (args:=_) (by simp [x22,go_sem]) ((Zdo 32 5 (by decide) (by decide) w1).mono ?_)
   rintro e w9 ⟨g,rfl,hr9,hb9⟩
   exact ⟨_,rfl,_,rfl,by rw [Zaa (by decide),h15,if_neg (by decide)];exact hR.trans (hb9.mono hR.size),fun j u hu hV _=>⟨VFix.below hV hb9,trivial,trivial⟩,g,rfl,hr9⟩
  ·rw [hunf,if_neg (by decide)] at hR
   have e9:a1.eval (.tmp 9) = .pointer (some ⟨p,0,none⟩):=hdep ⟨0,.data⟩ (by simp) rfl _ rfl
   have x9:a1.tmps[9]?.getD undef = .pointer (some ⟨p,0,none⟩):=by simpa [Act.eval] using e9
   have e11:a1.eval (.tmp 11) = .slice a l.length cap:=hdep ⟨2,.data⟩ (by simp) rfl _ rfl
   have x11:a1.tmps[11]?.getD undef = .slice a l.length cap:=by simpa [Act.eval] using e11
   obtain ⟨a5,c5,e21,r5⟩:∃ a9 c9,a1.eval (.tmp 21) = .slice a9 288 c9 /\ RowN .u8 w1 a9 c9 fixF:=hdep ⟨12,.data⟩ (by simp) rfl _ rfl
   have x21:a1.tmps[21]?.getD undef = .slice a5 288 c5:=by simpa [Act.eval] using e21
   obtain ⟨g6,e23,r6⟩:∃ g,a1.eval (.tmp 23) = .slice (some ⟨g,0,none⟩) 32 32 /\ RowN .u8 w1 (some ⟨g,0,none⟩) 32 fixD:=hdep ⟨14,.data⟩ (by simp) rfl _ rfl
   have x23:a1.tmps[23]?.getD undef = .slice (some ⟨g6,0,none⟩) 32 32:=by simpa [Act.eval] using e23
   have hwn:=HW2.out.narrow hR
   refine Zam (f:=107) (args:=_) (by simp [x9,x11,x21,x23,Zdg,Zabw,go_sem]) ((Zhj hwn a a5 (some ⟨g6,0,none⟩) cap c5 32 l fixF fixD (HR2.out.below hR) HBY.out (fun x h0 ha h=>(HQX.out x h0 ha).1 h.1) (fun x h0 ha=>Nat.lt_of_lt_of_le (HQX.out x h0 ha).2 (Nat.le_trans HO2.out.size hR.size)) r5 r6 (by decide +kernel) (by decide +kernel) hl hbz).mono ?_)
   rintro e w9 ⟨rfl,ho9,hw9⟩
   refine ⟨_,rfl,_,rfl,?_,fun j u hu hV _=>?_,trivial⟩
   ·rw [if_pos (Zad hil)]
    refine ⟨HO2.out.trans ((Only.ofBelow hR).trans ho9.widen),?_⟩
    rw [<- HF.out]
    exact hw9.widen
   ·have hm:=Zcr (by kernel_rfl) (fun _ h=>by cases h) hu [] (by kernel_rfl)
    cases hm
 ·intro listed fv w1 hR hall hV
  rw [if_pos (hall 15 (by decide))] at hR
  have HE:=Zh (HWD.out _ _ hR.1 hR.2)
  simp only [spread,List.contains_cons,List.contains_nil,Nat.reduceBEq,Bool.or_false,Bool.or_true,cond_true,cond_false,Nat.reduceAdd,Nat.zero_add]
  go_wp2
  go_end0
  exact ⟨rfl,HE.out⟩
end Go.Proofs.YtendielanacflaaGreat
