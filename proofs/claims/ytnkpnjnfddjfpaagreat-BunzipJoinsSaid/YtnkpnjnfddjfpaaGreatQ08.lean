/- rotate.walk, rotate.Back: contracts. block.numbers: contract. Plain: what bunzip.Bunzip reads (marks, parts of a stream, streams). The references of layers 26, 27: bits, text: contracts. pressworkref26.Numbers: contract. A range over a function whose iterator keeps memory of its own through all rounds, and may panic: a round writes only old blocks that are named. block.mask: contract as an iterator. Plain mathematics of layer 3: a byte at once is eight bits, one by one. crc.steps, crc.Fold: contracts. pressworkref26.Masked: contract. -/
import Derived.Test.YtnkpnjnfddjfpaaGreatQ01
import Derived.Test.YtnkpnjnfddjfpaaGreatQ06
import Derived.Test.YtnkpnjnfddjfpaaGreatQ07
import Derived.Test.YtnkpnjnfddjfpaaGreatQ02
import Derived.Great.BuildSlice
import Derived.Laws.Tables
import Derived.Laws.Rows
set_option linter.unusedVariables false
set_option linter.unusedSimpArgs false
namespace Go.Proofs.YtnkpnjnfddjfpaaGreat
open Go.RowKit Go.Shelf M01 M02 M27
attribute [local go_sem] Oper.semAt_some
theorem Zwm (p:Addr) (v:Value) (w:World) (h:w.cell? p = some v):(Instr.loadAt 22 (.pointer (some p))).run Tryz.prog w = .ok v w:=by
 simp [Instr.loadAt,Instr.sureAddr,loadVar,isAgg,run_underlying Tryz.underlying22,h,go_sem]
theorem Zabi (p:Addr) (a:Option Addr) (n c:Nat) (u:Value) (w:World) (h:w.cell? p = some u) (hf:w.frozen? p = false):(Instr.storeAt 22 (.pointer (some p)) (.slice a n c)).run Tryz.prog w = .ok () (w.setCell p (.slice a n c)):=by
 simp [Instr.storeAt,Instr.sureAddr,storeVar,isAgg,run_underlying Tryz.underlying22,h,hf,go_sem]
theorem Zabh (p:Addr) (v:Value) (w:World) (h:w.cell? p = some v):(Instr.loadAt 5 (.pointer (some p))).run Tryz.prog w = .ok v w:=by
 simp [Instr.loadAt,Instr.sureAddr,loadVar,isAgg,run_underlying Tryz.underlying5,h,go_sem]
theorem Zabx (b off k N c:Nat) (h:k < N) (w:World):(Instr.indexAt 22 (.slice (some ⟨b,off,none⟩) N c) (.int .i64 (k:Nat))).run Tryz.prog w = .ok (.pointer (some ⟨b,off + k,none⟩)) w:=by
 have hsz:(Tryz.prog.info? 5).map (·.size) = some 1:=by kernel_rfl
 cases h5:Tryz.prog.info? 5 with
 | none=>rw [h5] at hsz;cases hsz
 | some ie =>
  simp only [h5,Option.map_some,Option.some.injEq] at hsz
  simp [Instr.indexAt,run_underlying Tryz.underlying22,sizeOf,typeInfo,h5,hsz,asIntOf,go_sem,h,Addr.add]
theorem Zabg (x:Int) (w:World):(Instr.buildSlice 22 1 #[(0,.int .u8 x)]).run Tryz.prog w = .ok (.slice (some ⟨w.heap.size,0,none⟩) 1 1) (w.alloc (.cells #[.int .u8 x] 5)):=by
 have hie:(Tryz.prog.info? 5).map (fun i=>(i.zero,i.size)) = some (some (.int .u8 0),1):=by kernel_rfl
 cases h5:Tryz.prog.info? 5 with
 | none=>rw [h5] at hie;cases hie
 | some ie =>
  simp only [h5,Option.map_some,Option.some.injEq,Prod.mk.injEq] at hie
  exact run_buildSlice w 22 5 1 _ _ ie (.int .u8 0) Tryz.underlying22 h5 hie.1 (by rw [hie.2];decide) (by rw [hie.2];decide) (by rw [hie.2];exact Great.fill_flat [Value.int .u8 x] _ (fun v hv=>by rw [List.mem_singleton.1 hv];rfl) (by simp))
theorem Zam {l:Array Bool} {i k:Nat} (h:i ≠ k):(l.setIfInBounds i true).getD k false = l.getD k false:=by
 simp [Array.getD_eq_getD_getElem?,Array.getElem?_setIfInBounds_ne h]
theorem Zfe {l:Array Bool} {i:Nat} (h:i < l.size):(l.setIfInBounds i true).getD i false = true:=by
 simp [h]
theorem Zye (w:World) (a:Option Addr) (n cap:Nat) (at_:Nat) :
  Calls Tryz.prog 129 #[.slice a n cap,.int .i64 (at_:Nat)] w fun e w' =>
   e = .returned (.func (.func 184) #[] #[.pointer (some ⟨w.heap.size,0,none⟩),.pointer (some ⟨w.heap.size + 1,0,none⟩)]) ∧
   w' = (w.alloc (.cells #[.slice a n cap] 36)).alloc (.cells #[.int .i64 (at_:Nat)] 3):=by
 have hmf:∀ (fn:Fn) (first cap:Array Value) (w:World),(Instr.makeFunc fn first cap).run Tryz.prog w = .ok (.func fn first cap) w:=fun _ _ _ _=>rfl
 go_enter Tryz.func129,Tryz.ntmps129
 go_wp2
 go_ret
 exact ⟨rfl,rfl⟩
def walkRow (W:List Nat) (at_ i:Nat):Array Value:=#[.int .i64 (walkAt W at_ (i + 1):Nat)]
def walkS (g B:Nat) (b:Nat):Prop:=b = B \/ b = B + 1 \/ b = g
theorem RowN.sameAt {k:IntKind} {A B:World} {g off cap:Nat} {l:List Nat} (h:RowN k A (some ⟨g,off,none⟩) cap l) (hz:A.heap.size <= B.heap.size) (he:B.heap[g]? = A.heap[g]?):RowN k B (some ⟨g,off,none⟩) cap l :=
 h.same hz (fun x _ hx=>by cases hx;exact he)
set_option maxHeartbeats 1600000 in
theorem Zoh (last:List Nat) (at_ g cap B:Nat) (w:World) (hl:last.length <= 1000000) (h256:∀ x ∈ last,x < 256) (ha:at_ < last.length) (hr:RowN .i64 w (some ⟨g,0,none⟩) cap (wayL last)) (hg:g < B)
  (h1:w.heap[B]? = some (.cells #[.slice (some ⟨g,0,none⟩) last.length cap] 36 (0,0))) (h2:w.heap[B + 1]? = some (.cells #[.int .i64 (at_:Nat)] 3 (0,0))) :
  Yields Tryz.prog 184 #[.pointer (some ⟨B,0,none⟩),.pointer (some ⟨B + 1,0,none⟩)] last.length (walkRow (wayL last) at_) (walkS g B) (fun b=>b = B + 1) w:=by
 intro y J Jx W hsame hJ hJx hY h0
 have HY:=Zh hY
 have HJ:=Zh hJ
 have e1:=(hsame.same B (.inl rfl)).trans h1
 have e2:=(hsame.same (B + 1) (.inr (.inl rfl))).trans h2
 have er:=hr.sameAt hsame.size (hsame.same g (.inr (.inr rfl)))
 have hwl:=Zdw last h256
 have HWL:=Zh (Zem last h256 at_ ha)
 have c1:=cell_of_one e1
 clear hJ hJx hY h1 h2 hr
 refine callsIn_of_wp Tryz.func184 rfl trivial ?_ rfl
 simp only [Tryz.ntmps184,List.size_toArray,List.length_cons,List.length_nil,Nat.reduceAdd,Nat.reduceSub,Array.replicate_succ,Array.replicate_zero,List.push_toArray,List.append_toArray,List.nil_append,List.cons_append]
 generalize hW:wayL last = V at *
 clear hW
 gi_wp2
 gi_loopw [6] (fun i A=>∃ k:Nat,k <= last.length /\ i = .int .i64 k /\ A.heap[B]? = some (.cells #[.slice (some ⟨g,0,none⟩) last.length cap] 36 (0,0)) /\ A.heap[B + 1]? = some (.cells #[.int .i64 (walkAt V at_ k:Nat)] 3 (0,0)) /\ RowN .i64 A (some ⟨g,0,none⟩) cap V /\ J k A) (fun i _=>last.length - (intOf i).toNat)
 case atStart=>exact ⟨0,by omega,rfl,e1,e2,er,h0⟩
 case round =>
  clear hsame e1 e2 er c1 h0
  obtain ⟨k,hk,rfl,e1,e2,er,hJA⟩:=hrel
  have c1:=cell_of_one e1
  have c2:=cell_of_one e2
  have z2:=free_of_one e2
  by_cases hlt:k < last.length
  ·have hx:=HWL.out k
   have hx2:walkAt V at_ (k + 1) = V.getD (walkAt V at_ k) 0:=rfl
   obtain ⟨b,off,hb,_,hcc⟩:=er.at (i:=walkAt V at_ k) (by omega)
   simp only [Option.some.injEq,Addr.mk.injEq,and_true] at hb
   obtain ⟨rfl,rfl⟩:=hb
   rw [<- Zbf,<- hx2,Nat.zero_add] at hcc
   have E1:=Zh ((Below.heap_setCell wr ⟨B + 1,0,none⟩ (.int .i64 (walkAt V at_ (k + 1):Nat)) B (by show B ≠ B + 1;omega)).trans e1)
   have E2:=Zh (one_setCell (u:=.int .i64 (walkAt V at_ (k + 1):Nat)) e2)
   have ER:=Zh (er.sameAt (B:=wr.setCell ⟨B + 1,0,none⟩ (.int .i64 (walkAt V at_ (k + 1):Nat))) (by simp [World.setCell]) (Below.heap_setCell _ _ _ _ (by show g ≠ B + 1;omega)))
   have HJ2:=Zh (HJ.out _ _ _ hJA (Only.setCell (T:=fun b=>b = B + 1) (p:=⟨B + 1,0,none⟩) (Only.refl _ _) (.inl rfl) (.int .i64 (walkAt V at_ (k + 1):Nat))))
   obtain ⟨fn,tmps,assign,body,hy,hR⟩:=HY.out _ _ hlt HJ2.out
   have HR:=Zh hR
   unfold walkRow at hy
   clear hR hJA hx2 e1 e2 er HJ2
   have c3:=cell_of_one E2.out
   generalize hy2:walkAt V at_ (k + 1) = y2 at *
   have HY2:=Zh hy2
   clear hy2
   generalize walkAt V at_ k = y1 at *
   have t1:(y1:Int) < (last.length:Int):=by omega
   gi_wp2
   refine (Zex HR.out).mono ?_
   rintro e W' (⟨rfl,hJ',hk'⟩ | ⟨rfl,hJx'⟩)
   ·have f1:=(hk'.same B (.inl rfl)).trans E1.out
    have f2:=(hk'.same (B + 1) (.inr (.inl rfl))).trans E2.out
    have fr:=ER.out.sameAt hk'.size (hk'.same g (.inr (.inr rfl)))
    have HJ':=Zh hJ'
    have F1:=Zh f1
    have F2:=Zh f2
    have FR:=Zh fr
    clear hJ' hk' hy f1 f2 fr E1 E2 ER c1 c2 c3 z2 hcc
    gi_wp2
    go_roundw
    case rel=>exact ⟨k + 1,by omega,by go_num,F1.out,by rw [HY2.out];exact F2.out,FR.out,HJ'.out⟩
    case measure=>simp [intOf];omega
   ·gi_wp2
    refine bodyPost_ret (results_none rfl _ _ _) rfl ?_
    exact ⟨⟨_,rfl⟩,.inr ⟨_,hlt,hJx'⟩⟩
  ·obtain rfl:k = last.length:=by omega
   have HJ':=Zh hJA
   clear hJA
   gi_wp2
   go_end0
   exact ⟨⟨_,rfl⟩,.inl HJ'.out⟩
theorem Zrw (w:World) (a:Option Addr) (cap:Nat) (l:List Nat) (at_:Nat) (ha:l.length <= at_) (hl:l.length <= 1000000) (h32:at_ < 4294967296) :
  Calls Tryz.prog 83 #[.slice a l.length cap,.int .i64 (at_:Nat)] w fun e w'=>e = .returned (.tuple #[.slice none 0 0,.int .i64 2]) /\ Below w.heap.size w w':=by
 have t1:decide ((at_:Int) < 0) = false:=by simp
 have t2:decide (l.length <= at_) = true:=by simp;omega
 go_enter Tryz.func83,Tryz.ntmps83
 go_wp2
 go_ret2
 exact ⟨rfl,Zai w _⟩
set_option maxRecDepth 100000 in
set_option maxHeartbeats 3200000 in
theorem Zyd (w:World) (a:Option Addr) (cap:Nat) (l:List Nat) (at_:Nat) (hr:RowN .u8 w a cap l) (hl:l.length <= 1000000) (h256:∀ x ∈ l,x < 256) (h32:at_ < 4294967296) :
  Calls Tryz.prog 83 #[.slice a l.length cap,.int .i64 (at_:Nat)] w fun e w'=>RowMay w (backG l at_) e w':=by
 by_cases ha:at_ < l.length
 case neg=>exact (Zrw w a cap l at_ (by omega) hl h32).mono fun e w' h=>by rw [h.1];exact RowMay.none (by unfold backG;rw [if_neg ha]) h.2
 have HG:Hid (backG l at_ = some (walked l at_ l.length)):=by unfold Hid backG;rw [if_pos ha,Zdv]
 have t1:decide ((at_:Int) < 0) = false:=by simp
 have t2:decide (l.length <= at_) = false:=by simp;omega
 have H256:=Zh h256
 have HR:=Zh hr
 refine (callsIn_wide (n:=9)).1 ?_
 refine callsIn_of_wp_marks Tryz.func83 rfl trivial ?_ rfl
 simp only [Tryz.ntmps83,List.size_toArray,List.length_cons,List.length_nil,Nat.reduceAdd,Nat.reduceSub,Array.replicate_succ,Array.replicate_zero,List.push_toArray,List.append_toArray,List.nil_append,List.cons_append]
 gi_wp2_with fail
 refine ⟨trivial,?_⟩
 have hb2:Below w.heap.size w ((w.alloc (.cells #[.slice a l.length cap] 22)).alloc (.cells #[.slice none 0 0] 22)):=(Zai w _).trans ((Zai _ _).mono (by simp))
 have hc0:=(Below.heap_alloc (w.alloc (.cells #[.slice a l.length cap] 22)) (.cells #[.slice none 0 0] 22) w.heap.size (by simp)).trans (World.alloc_heap_new w _)
 have hc1:=World.alloc_heap_new (w.alloc (.cells #[.slice a l.length cap] 22)) (.cells #[.slice none 0 0] 22)
 rw [show (w.alloc (.cells #[.slice a l.length cap] 22)).heap.size = w.heap.size + 1 by simp] at hc1
 have hs2:((w.alloc (.cells #[.slice a l.length cap] 22)).alloc (.cells #[.slice none 0 0] 22)).heap.size = w.heap.size + 2:=by simp
 generalize (w.alloc (.cells #[.slice a l.length cap] 22)).alloc (.cells #[.slice none 0 0] 22) = w2 at *
 have HB2:=Zh hb2
 have HC0:=Zh hc0
 have HC1:=Zh hc1
 clear hc0 hc1
 refine (callsIn_wide.2 (Zaak w2 a cap l (hr.below hb2) hl h256)).mono ?_
 rintro e w3 ⟨a3,c3,rfl,ho3,hb3⟩
 obtain ⟨g,rfl,hg1,hg2⟩:∃ g,a3 = some ⟨g,0,none⟩ /\ w2.heap.size <= g /\ g < w3.heap.size:=by
  rcases ho3.form with ⟨_,_,h⟩ | h
  ·have:=congrArg List.length h
   rw [Zdw l h256,List.length_nil] at this
   omega
  ·exact h
 have HO3:=Zh ho3
 have HB3:=Zh hb3
 have hz3:=hb3.size
 clear ho3 hb3 hb2 hr
 gi_wp2_with fail
 refine ⟨trivial,?_⟩
 refine (callsIn_wide.2 (Zye w3 (some ⟨g,0,none⟩) l.length c3 at_)).mono ?_
 rintro e w4 ⟨rfl,hw4⟩
 have HW4:=Zh hw4
 clear hw4
 gi_wp2_with fail
 have hz4:w4.heap.size = w3.heap.size + 2:=by rw [HW4.out];simp
 have hb4:Below w3.heap.size w3 w4:=by rw [HW4.out];exact (Zai w3 _).trans ((Zai _ _).mono (by simp))
 have hB1:w4.heap[w3.heap.size]? = some (.cells #[.slice (some ⟨g,0,none⟩) l.length c3] 36 (0,0)):=by
  rw [HW4.out]
  exact (Below.heap_alloc _ _ _ (by simp)).trans (World.alloc_heap_new w3 _)
 have hB2:w4.heap[w3.heap.size + 1]? = some (.cells #[.int .i64 (at_:Nat)] 3 (0,0)):=by
  rw [HW4.out]
  have:=World.alloc_heap_new (w3.alloc (.cells #[.slice (some ⟨g,0,none⟩) l.length c3] 36)) (.cells #[.int .i64 (at_:Nat)] 3)
  rwa [show (w3.alloc (.cells #[.slice (some ⟨g,0,none⟩) l.length c3] 36)).heap.size = w3.heap.size + 1 by simp] at this
 clear HW4
 obtain ⟨B,hB⟩:∃ B,w3.heap.size = B:=⟨_,rfl⟩
 have hwz:w.heap.size + 2 <= B:=by have:=HB3.out.size;omega
 simp only [hB] at hB1 hB2 hb4 hz4 hg2
 have HO4:=Zh (HO3.out.below (by rw [hB];exact hb4))
 have H0:=Zh (show Below (w.heap.size + 2) w2 w4 from (HB3.out.mono (by omega)).trans (hb4.mono hwz))
 have c0:w4.heap[w.heap.size]? = some (.cells #[.slice a l.length cap] 22 (0,0)):=(H0.out.block _ (by omega)).trans HC0.out
 have c1:w4.heap[w.heap.size + 1]? = some (.cells #[.slice none 0 0] 22 (0,0)):=(H0.out.block _ (by omega)).trans HC1.out
 have HBW:=Zh (show Below w.heap.size w w4 from HB2.out.trans (H0.out.mono (by omega)))
 simp only [hB]
 have hgw:w.heap.size + 2 <= g:=by omega
 clear hB HO3 HB3 HC0 HC1 hb4 hz3 H0 HB2 hs2
 have hlen:=Zdw l h256
 have hrow:RowN .i64 w4 (some ⟨g,0,none⟩) c3 (wayL l):=HO4.out.row
 have HY:=Zh (Zoh l at_ g c3 B w4 hl h256 ha hrow (by omega) hB1 hB2)
 have HRW:=Zh (HR.out.below HBW.out)
 refine Zmc (g:=.tmp 19) (gf:=184) (lb:=#[.pointer (some ⟨B,0,none⟩),.pointer (some ⟨B + 1,0,none⟩)]) rfl (enters_of Tryz.func184 (by kernel_rfl) rfl)
  HY.out (SameOn.refl _ _) ?hS ?hT (fun _=>rfl)
  (fun i A=>A.heap[w.heap.size]? = some (.cells #[.slice a l.length cap] 22 (0,0)) /\ RowN .u8 A a cap l /\ Below w.heap.size w A /\ w4.heap.size <= A.heap.size /\ ∃ a2 c2,A.heap[w.heap.size + 1]? = some (.cells #[.slice a2 i c2] 22 (0,0)) /\ OwnN 5 .u8 A w4.heap.size a2 c2 (walked l at_ i))
  (fun _ _ _=>False) ?hI ?hIp (fun _ _ _ _ h _=>h) (fun _ _ _ _ _ _ h _ _ _=>h) ?h0 ?a1 ?assign ?body ?done (fun _ _ _ _ h _=>h.elim)
 case hS =>
  rintro b (rfl | rfl | rfl)
  ·omega
  ·omega
  ·omega
 case hT =>
  rintro b rfl
  omega
 case hI =>
  rintro i A B' ⟨h1,h2,h3,h4,a2,c2,h5,h6⟩ ho
  have h7:Below w.heap.size w B':=Below.only h3 ho (Nat.le_refl _) (fun b hb=>by omega)
  exact ⟨Zad h1 ho (by show w.heap.size ≠ B + 1;omega),HR.out.below h7,h7,Nat.le_trans h4 ho.size,a2,c2,Zad h5 ho (by show w.heap.size + 1 ≠ B + 1;omega),h6.only ho (fun b hb=>by show b ≠ B + 1;omega)⟩
 case hIp =>
  rintro i A r o o' ⟨h1,h2,h3,h4,a2,c2,h5,h6⟩ hr0 hro hoc
  have h7:Below w.heap.size w (A.putObj r o'):=Below.put h3 (Nat.le_refl _) hro (by omega) _
  exact ⟨Zgn h1 hro hoc,HR.out.below h7,h7,by rw [World.putObj_size];exact h4,a2,c2,Zgn h5 hro hoc,h6.put hro hoc _⟩
 case h0=>exact ⟨c0,HRW.out,HBW.out,Nat.le_refl _,none,0,c1,OwnN.nil _ _ _ _⟩
 case assign =>
  intro y i W K hK
  simp only [walkRow]
  gi_wp2
  exact hK
 case body =>
  rintro y i hi A hz2 ⟨h1,h2,h3,h4,a2,c2,h5,h6⟩
  have hx:=Zem l h256 at_ ha (i + 1)
  have HWS:=Zh (Ziw l at_ i)
  have hwl:=Zgz l at_ i
  generalize walkAt (wayL l) at_ (i + 1) = p at *
  have HX:=Zh (Zbf hx)
  obtain ⟨sb,soff,rfl,hsb,hsc⟩:=h2.at hx
  generalize l[p] = x at *
  have d1:=cell_of_one h1
  have d5:=cell_of_one h5
  have f5:=free_of_one h5
  have H6:=Zh h6
  have H3:=Zh h3
  have H2:=Zh h2
  clear h6 h2 h3
  have hpi:(p:Int) < (l.length:Int):=by omega
  have hn1:=Zh (show i + 1 <= 9223372036854775807 by omega)
  have hn2:=Zh (show (i + 1) * 1 <= 140737488355328 by omega)
  obtain ⟨a3,c3',W3,ho3,hb3,hg3,_,happ⟩:=app1Eq (E':=5) Zaz x 22 H6.out.drew hwl.symm hn1.out hn2.out h4
  have d6:W3.cell? ⟨w.heap.size + 1,0,none⟩ = some (.slice a2 i c2):=Zbd (A:=A.drew) d5 hb3 (by show w.heap.size + 1 < w4.heap.size;omega)
  have f6:W3.frozen? ⟨w.heap.size + 1,0,none⟩ = false:=by
   unfold World.frozen? at f5 ⊢
   rw [hb3.block _ (by show w.heap.size + 1 < w4.heap.size;omega)]
   exact f5
  have HO3:=Zh ho3
  have HB3:=Zh hb3
  have HAPP:=Zh happ
  have HKO:Hid (KeepsOthers A W3):=Zh ((KeepsOthers.drew A).trans (KeepsOthers.of_grownBy hg3 (fun j o hj hob=>by
   rcases H6.out.drew.2 with ⟨e,_⟩ | ⟨g',c',cur,e,_,e2,_⟩
   ·rw [hwl] at e;rw [e] at hj;cases hj
   ·rw [hwl] at e;rw [e] at hj;cases hj;rw [e2] at hob;cases hob;rfl)))
  clear happ hg3
  have HD:Hid (∀ q:Bool,(if q = true then A.drew.alloc (.cells #[.int .u8 (x:Nat)] 5) else A.drew).cell? ⟨w.heap.size,0,none⟩ = some (.slice (some ⟨sb,soff,none⟩) l.length cap) /\ (if q = true then A.drew.alloc (.cells #[.int .u8 (x:Nat)] 5) else A.drew).cell? ⟨w.heap.size + 1,0,none⟩ = some (.slice a2 i c2) /\ (if q = true then A.drew.alloc (.cells #[.int .u8 (x:Nat)] 5) else A.drew).cell? ⟨sb,soff + p,none⟩ = some (.int .u8 (x:Nat))):=Zh (fun q=>by
   cases q with
   | false=>exact ⟨d1,d5,hsc⟩
   | true=>exact ⟨Zbd (A:=A.drew) d1 (Zai A.drew _) (World.cell?_ltH d1),Zbd (A:=A.drew) d5 (Zai A.drew _) (World.cell?_ltH d5),Zbd (A:=A.drew) hsc (Zai A.drew _) (World.cell?_ltH hsc)⟩)
  have HPI:=Zh hx
  clear ho3 hb3 hx
  gi_wp2
  refine Zhb [21,22,23,24,25,26,27] (fun _=>false) (fun listed w1=>w1 = if listed.getD 7 false = true then W3.setCell ⟨w.heap.size + 1,0,none⟩ (.slice a3 (i + 1) c3') else if listed.getD 6 false = true then W3 else if listed.getD 5 false = true then A.drew.alloc (.cells #[.int .u8 (x:Nat)] 5) else A.drew)
   (fun j v _=>match j with | 0=>v = .slice a2 i c2 | 1=>v = .slice (some ⟨sb,soff,none⟩) l.length cap | 2=>v = .int .i64 (p:Nat) | 3=>v = .pointer (some ⟨sb,soff + p,none⟩) | 4=>v = .int .u8 (x:Nat) | 5=>v = .slice (some ⟨A.heap.size,0,none⟩) 1 1 | 6=>v = .slice a3 (i + 1) c3' | _=>True) (fun _ _ _ _=>True) (by kernel_rfl) (by kernel_rfl) (OneEach.mk' (by kernel_rfl) (by kernel_rfl)) (by kernel_rfl) (by kernel_rfl) (by simp) ?_ ?_
  ·intro i0 o hi0 listed a1 w1 hR hil hunf hdes hanc hout hdep
   have hsz:i0 < 8:=(Array.getElem?_eq_some_iff.1 hi0).1
   obtain ⟨q1,q2,q3⟩:=HD.out (listed.getD 5 false)
   have hall:i0 = 0 \/ i0 = 1 \/ i0 = 2 \/ i0 = 3 \/ i0 = 4 \/ i0 = 5 \/ i0 = 6 \/ i0 = 7:=by omega
   clear hsz
   rcases hall with rfl | rfl | rfl | rfl | rfl | rfl | rfl | rfl <;> simp only [List.getElem?_toArray,List.getElem?_cons_zero,List.getElem?_cons_succ,Option.some.injEq] at hi0 <;> subst hi0
   ·have h7:listed.getD 7 false = false:=hdes 7 (by kernel_rfl)
    have h6:listed.getD 6 false = false:=hdes 6 (by kernel_rfl)
    rw [h7,h6,if_neg (by decide),if_neg (by decide)] at hR
    rw [<- hR] at q1 q2 q3
    have f1:a1.eval (.tmp 6) = .pointer (some ⟨w.heap.size + 1,0,none⟩):=hout 6 (by decide)
    refine Zcg (by intro c h;cases h) (v:=.slice a2 i c2) (w':=w1) (by simp [execOp,f1,Zwm _ _ _ q2]) ⟨_,rfl,by rw [Zam (by decide),Zam (by decide),Zam (by decide),h7,h6,if_neg (by decide),if_neg (by decide)];exact hR,fun j u hu hV _=>⟨hV,trivial,trivial⟩,rfl⟩
   ·have h7:listed.getD 7 false = false:=hdes 7 (by kernel_rfl)
    have h6:listed.getD 6 false = false:=hdes 6 (by kernel_rfl)
    rw [h7,h6,if_neg (by decide),if_neg (by decide)] at hR
    rw [<- hR] at q1 q2 q3
    have f1:a1.eval (.tmp 2) = .pointer (some ⟨w.heap.size,0,none⟩):=hout 2 (by decide)
    refine Zcg (by intro c h;cases h) (v:=.slice (some ⟨sb,soff,none⟩) l.length cap) (w':=w1) (by simp [execOp,f1,Zwm _ _ _ q1]) ⟨_,rfl,by rw [Zam (by decide),Zam (by decide),Zam (by decide),h7,h6,if_neg (by decide),if_neg (by decide)];exact hR,fun j u hu hV _=>⟨hV,trivial,trivial⟩,rfl⟩
   ·have f1:a1.eval (.tmp 7) = .int .i64 (p:Nat):=hout 7 (by decide)
    refine Zcg (by intro c h;cases h) (v:=.int .i64 (p:Nat)) (w':=w1) (by simp [execOp,f1]) ⟨_,rfl,by rw [Zam (by decide),Zam (by decide),Zam (by decide)];exact hR,fun j u hu hV _=>⟨hV,trivial,trivial⟩,rfl⟩
   ·have e22:a1.eval (.tmp 22) = .slice (some ⟨sb,soff,none⟩) l.length cap:=hdep ⟨1,.data⟩ (by simp) rfl _ rfl
    have e23:a1.eval (.tmp 23) = .int .i64 (p:Nat):=hdep ⟨2,.data⟩ (by simp) rfl _ rfl
    refine Zcg (by intro c h;cases h) (v:=.pointer (some ⟨sb,soff + p,none⟩)) (w':=w1) (by simp [execOp,e22,e23,Zabx sb soff p _ _ HPI.out]) ⟨_,rfl,by rw [Zam (by decide),Zam (by decide),Zam (by decide)];exact hR,fun j u hu hV _=>⟨hV,trivial,trivial⟩,rfl⟩
   ·have h7:listed.getD 7 false = false:=hdes 7 (by kernel_rfl)
    have h6:listed.getD 6 false = false:=hdes 6 (by kernel_rfl)
    rw [h7,h6,if_neg (by decide),if_neg (by decide)] at hR
    rw [<- hR] at q1 q2 q3
    have e24:a1.eval (.tmp 24) = .pointer (some ⟨sb,soff + p,none⟩):=hdep ⟨3,.data⟩ (by simp) rfl _ rfl
    refine Zcg (by intro c h;cases h) (v:=.int .u8 (x:Nat)) (w':=w1) (by simp [execOp,e24,Zabh _ _ _ q3]) ⟨_,rfl,by rw [Zam (by decide),Zam (by decide),Zam (by decide),h7,h6,if_neg (by decide),if_neg (by decide)];exact hR,fun j u hu hV _=>⟨hV,trivial,trivial⟩,rfl⟩
   ·have h7:listed.getD 7 false = false:=hdes 7 (by kernel_rfl)
    have h6:listed.getD 6 false = false:=hdes 6 (by kernel_rfl)
    rw [h7,h6,hunf,if_neg (by decide),if_neg (by decide),if_neg (by decide)] at hR
    have e25:a1.eval (.tmp 25) = .int .u8 (x:Nat):=hdep ⟨4,.data⟩ (by simp) rfl _ rfl
    refine Zcg (by intro c h;cases h) (v:=.slice (some ⟨A.heap.size,0,none⟩) 1 1) (w':=A.drew.alloc (.cells #[.int .u8 (x:Nat)] 5)) (by rw [hR];show _ = Result.ok (Next.value (.slice (some ⟨A.drew.heap.size,0,none⟩) 1 1)) _;simp [execOp,e25,Zabg]) ⟨_,rfl,by rw [Zam (by decide),Zam (by decide),Zfe hil,h7,h6,if_neg (by decide),if_neg (by decide),if_pos rfl],fun j u hu hV _=>⟨hV,trivial,trivial⟩,rfl⟩
   ·have h7:listed.getD 7 false = false:=hdes 7 (by kernel_rfl)
    have h5:listed.getD 5 false = true:=hanc 5 (by kernel_rfl)
    rw [h7,hunf,h5,if_neg (by decide),if_neg (by decide),if_pos rfl] at hR
    have e21:a1.eval (.tmp 21) = .slice a2 i c2:=hdep ⟨0,.data⟩ (by simp) rfl _ rfl
    have e26:a1.eval (.tmp 26) = .slice (some ⟨A.heap.size,0,none⟩) 1 1:=hdep ⟨5,.data⟩ (by simp) rfl _ rfl
    refine Zcg (by intro c h;cases h) (v:=.slice a3 (i + 1) c3') (w':=W3) (by rw [hR];exact HAPP.out a1 _ (.tmp 21) (.tmp 26) rfl rfl e21 e26) ⟨_,rfl,by rw [Zam (by decide),Zfe hil,h7,if_neg (by decide),if_pos rfl],fun j u hu hV _=>⟨hV,trivial,trivial⟩,rfl⟩
   ·have h6:listed.getD 6 false = true:=hanc 6 (by kernel_rfl)
    rw [hunf,h6,if_neg (by decide),if_pos rfl] at hR
    have e27:a1.eval (.tmp 27) = .slice a3 (i + 1) c3':=hdep ⟨6,.data⟩ (by simp) rfl _ rfl
    have f1:a1.eval (.tmp 6) = .pointer (some ⟨w.heap.size + 1,0,none⟩):=hout 6 (by decide)
    refine Zod (by intro c h;cases h) (w':=W3.setCell ⟨w.heap.size + 1,0,none⟩ (.slice a3 (i + 1) c3')) (by rw [hR];simp only [execOp,e27,f1];rw [Sem.run_bind,Zabi _ _ _ _ _ _ d6 f6];rfl) ⟨undef,rfl,by rw [Zfe hil,if_pos rfl],fun j u hu hV _=>⟨hV,trivial,trivial⟩,trivial⟩
  ·intro listed fv w1 hR hall hV
   rw [if_pos (hall 7 (by decide))] at hR
   rw [hR]
   have HSET:=Zh (one_setCell (w:=W3) (u:=.slice a3 (i + 1) c3') ((HB3.out.block _ (by show w.heap.size + 1 < w4.heap.size;omega)).trans (show A.drew.heap[w.heap.size + 1]? = _ from h5)))
   refine ⟨(HKO.out.trans (KeepsOthers.setCell _ _ _)).from _,⟨?_,?_⟩,?_,?_,?_,?_,a3,c3',HSET.out,?_⟩
   ·have:=HKO.out.size
    simpa [World.setCell] using this
   ·intro b hb
    have hbb:b < w4.heap.size /\ b ≠ w.heap.size + 1:=by rcases hb with rfl | rfl | rfl <;> omega
    rw [Below.heap_setCell _ _ _ _ (by show b ≠ w.heap.size + 1;omega)]
    exact HB3.out.block b hbb.1
   ·rw [Below.heap_setCell _ _ _ _ (by show w.heap.size ≠ w.heap.size + 1;omega)]
    exact (HB3.out.block _ (by show w.heap.size < w4.heap.size;omega)).trans h1
   ·exact HR.out.below ((H3.out.trans (show Below w.heap.size A W3 from ((Below.refl _ A).drew.trans (HB3.out.mono (by omega))))).setCell (by show w.heap.size <= w.heap.size + 1;omega) _)
   ·exact (H3.out.trans (show Below w.heap.size A W3 from ((Below.refl _ A).drew.trans (HB3.out.mono (by omega))))).setCell (by show w.heap.size <= w.heap.size + 1;omega) _
   ·have:=HKO.out.size
    have:w4.heap.size <= W3.heap.size:=by omega
    simpa [World.setCell] using this
   ·rw [HWS.out,HX.out]
    exact HO3.out.other (fun g' hg'=>by
     show w.heap.size + 1 ≠ g'
     rcases HO3.out.form with ⟨h,_⟩ | ⟨g2,h,hb,_⟩
     ·rw [h] at hg';cases hg'
     ·rw [h] at hg';cases hg';omega) _
 case done =>
  rintro A ⟨h1,h2,h3,h4,a2,c2,h5,h6⟩ hD
  have d5:=cell_of_one h5
  have H6:=Zh h6
  have H3:=Zh h3
  clear h1 h2 h3 h5 h6
  gi_wp2
  refine ⟨by simp,.inl ⟨_,_,rfl,run_takeDeferred hD,?_⟩⟩
  refine ⟨_,results_tmp2 rfl _ _ _,?_⟩
  have hl2:=Zgz l at_ l.length
  rw [HG.out]
  refine ⟨Below.put H3.out (Nat.le_refl _) hD (by omega) _,a2,c2,?_,(H6.out.put hD rfl _).mono (by omega)⟩
  rw [hl2]
  rfl
end Go.Proofs.YtnkpnjnfddjfpaaGreat

namespace Go.Proofs.YtnkpnjnfddjfpaaGreat
open Go.RowKit Go.Shelf M01 M02 M27
def numsI:List Int:=nums.map fun (n:Nat)=>(n:Int)
theorem Zlw:numsI.map (Value.int .i64) = nums.map fun (n:Nat)=>Value.int .i64 n:=by
 unfold numsI
 generalize nums = L
 rw [List.map_map]
 rfl
theorem Zlv:512 = numsI.length:=by
 unfold numsI
 rw [List.length_map,Zfv]
set_option maxRecDepth 1000000 in
set_option maxHeartbeats 0 in
theorem Znf (w:World):Calls Tryz.prog 132 #[] w fun e w'=>e = .returned (.slice (some ⟨w.heap.size,0,none⟩) 512 512) /\ w' = w.alloc (.cells (nums.map fun (n:Nat)=>Value.int .i64 n).toArray 3):=by
 rw [<- Zlw]
 go_enter Tryz.func132,Tryz.ntmps132
 apply wp_seq
 apply wp_region_lit
 refine wpList_plain rfl fun K hK=>?_
 unfold Oper.wp
 rw [show (execOp (Act.mk #[undef,undef] []).eval _).run Tryz.prog w = .ok (.value (.slice none 0 0)) w from rfl]
 apply hK
 apply wpList_nil
 show Code.wp _ _ _ _ _
 apply wp_seq
 apply wp_region_lit
 refine wpList_buildFlat rfl 36 3 512 _ rfl .i64 numsI (by kernel_rfl) (by kernel_rfl) (by kernel_rfl) Zlv (by decide) (by decide) (by kernel_rfl) ?_
 clear hK K
 refine wpList_plain rfl fun K hK=>?_
 unfold Oper.wp
 refine (show K _ _ from ?_)
 apply hK
 apply wpList_nil
 show Code.wp _ _ _ _ _
 apply wp_ret
 clear hK K
 refine bodyPost_ret (results_tmp rfl _ _ _) rfl ?_
 exact ⟨rfl,rfl⟩
end Go.Proofs.YtnkpnjnfddjfpaaGreat

namespace Go.Proofs.YtnkpnjnfddjfpaaGreat.M27
open M01 M02
def bytesG (B:List Nat):Nat -> Nat -> List Nat -> Option (List Nat × Nat)
 | 0,at_,out=>some (out,at_)
 | n + 1,at_,out=>(numG B at_ 8).bind fun p=>bytesG B n p.2 (out ++ [p.1])
def blockM:List Nat:=[49,65,89,38,83,89]
def endM:List Nat:=[23,114,69,56,80,144]
def partsG (B:List Nat) (most:Nat):Nat -> Nat -> List (List Nat × Nat) × Option Nat
 | 0,_=>([],none)
 | f + 1,at_ =>
  match bytesG B 6 at_ [] with
  | none=>([],none)
  | some (m,a2) =>
   if m = blockM then
    match blkG B a2 most with
    | none=>([],none)
    | some (l,s,a3)=>((l,s) :: (partsG B most f a3).1,(partsG B most f a3).2)
   else if m = endM then ([],some a2) else ([],none)
def strmG (B:List Nat) (at_:Nat):List (List Nat × Nat) × Option Nat :=
 match bytesG B 4 at_ [] with
 | none=>([],none)
 | some (h,a2)=>if h.take 3 = [66,90,104] /\ 49 <= h.getD 3 0 /\ h.getD 3 0 <= 57 then partsG B ((h.getD 3 0 - 48) * 100000) (nb B + 1) a2 else ([],none)
structure BzF where
 bytes:List Nat
 size:Nat
 wrong:Bool
def partF (keep:Nat) (s:BzF × Nat) (p:List Nat × Nat):BzF × Nat :=
 let all:=say p.1
 let left:=keep - s.1.bytes.length
 let got:=all.take left
 ({ bytes:=s.1.bytes ++ got,size:=s.1.size + all.length,wrong:=s.1.wrong || (decide (all.length <= left) && !(crcHigh got == p.2)) },foldS s.2 p.2)
def bzG (B:List Nat) (keep:Nat):Nat -> Nat -> BzF -> Option BzF
 | 0,_,_=>none
 | f + 1,at_,F =>
  (strmG B at_).2.bind fun a2=>(numG B a2 32).bind fun c =>
   let r:=(strmG B at_).1.foldl (partF keep) (F,0)
   let F2:BzF:={ r.1 with wrong:=r.1.wrong || !(c.1 == r.2) }
   let a3:=(c.2 + 7) / 8 * 8
   if a3 < nb B then bzG B keep f a3 F2 else some F2
theorem Zce {B:List Nat}:∀ {n at_:Nat} {out r:List Nat} {a2:Nat},bytesG B n at_ out = some (r,a2) -> r.length = out.length + n /\ a2 = at_ + 8 * n
 | 0,at_,out,r,a2,h=>by
  unfold bytesG at h
  cases h
  exact ⟨rfl,rfl⟩
 | n + 1,at_,out,r,a2,h=>by
  unfold bytesG numG at h
  split at h
  ·have:=Zce (n:=n) (by simpa using h)
   simp at this
   omega
  ·cases h
end Go.Proofs.YtnkpnjnfddjfpaaGreat.M27

namespace Go.Proofs.YtnkpnjnfddjfpaaGreat
open Go.RowKit M01 M02 M10 M27
set_option maxRecDepth 100000 in
set_option maxHeartbeats 1600000 in
theorem Zqw (a:Option Addr) (cap:Nat) (B:List Nat) (w:World) (hr:RowB w a cap (bitL B)) (hl:B.length <= 1000) :
  Calls Tryz.prog 89 #[.slice a (bitL B).length cap] w fun e w'=>∃ g c,e = .returned (.slice g (bitL B).length c) /\ OwnN 5 .u8 w' w.heap.size g c (bitL B) /\ Below w.heap.size w w':=by
 have hll:(bitL B).length = 8 * B.length:=Zbo B
 have HR:=Zh hr
 have HLT:=Zh (Zkm B)
 have hL8:(bitL B).length <= 8000:=by omega
 obtain ⟨q,hq⟩:∃ q,w.heap.size = q:=⟨_,rfl⟩
 rw [hq]
 have HQ:=Zh hq
 generalize bitL B = L at *
 clear hr hll hq
 go_enter Tryz.func89,Tryz.ntmps89
 go_wp2
 go_loopw [3,4] (fun x iv A=>∃ (i:Nat) (o:List Nat) (g:Option Addr) (c:Nat),i <= L.length /\ iv = .int .i64 (i:Nat) /\ x = .slice g o.length c /\ o.length = i /\ OwnN 5 .u8 A q g c o /\ Below q w A /\ Hid (o = L.take i)) (fun x iv _=>L.length - (intOf iv).toNat)
 case atStart=>exact ⟨0,[],none,0,by omega,rfl,rfl,rfl,OwnN.nil _ _ _ _,Below.refl _ _,rfl⟩
 case round =>
  obtain ⟨i,o,g,c,hi,rfl,rfl,hol,hown,hbe,HF⟩:=hrel
  have HO:=Zh hown
  have HE:=Zh hbe
  have HOL:=Zh hol
  have hol2:o.length <= 8000:=by omega
  have hwr:q <= wr.heap.size:=by have:=HE.out.size;have:=HQ.out;omega
  have HWR:=Zh hwr
  clear hown hbe hol hwr
  by_cases hlt:i < L.length
  ·have t0:decide (i < L.length) = true:=by simp;omega
   obtain ⟨b,off,rfl,hb,hc0⟩:=(HR.out.below (HQ.out ▸ HE.out)).atB hlt
   have hx2:=HLT.out L[i] (List.getElem_mem hlt)
   have HTK:Hid (L.take (i + 1) = L.take i ++ [L[i]]):=M04.Zbm L i hlt
   generalize L[i] = x at *
   rcases (show x = 0 \/ x = 1 by omega) with rfl | rfl
   ·rw [show ((0:Nat) == 1) = false from rfl] at hc0
    go_wp2_with (at_builtin;refine app1N (y:=0) Zaz rfl (.tmp 16) (.tmp 18) rfl rfl HO.out rfl (by omega) (by omega) (by omega) (by omega) HWR.out ?_;intro a' c' w2 hown hg hb2;replace hown:=Zh hown;replace hb2:=Zh (HE.out.trans hb2);clear hg)
    go_wp2
    go_roundw
    case rel=>exact ⟨i + 1,o ++ [0],a',c',by omega,by go_num,by rw [List.length_append];rfl,by rw [List.length_append,HOL.out];rfl,hown.out,hb2.out,by unfold Hid;rw [HTK.out,HF.out]⟩
    case measure=>simp [intOf];omega
   ·rw [show ((1:Nat) == 1) = true from rfl] at hc0
    go_wp2_with (at_builtin;refine app1N (y:=1) Zaz rfl (.tmp 16) (.tmp 18) rfl rfl HO.out rfl (by omega) (by omega) (by omega) (by omega) HWR.out ?_;intro a' c' w2 hown hg hb2;replace hown:=Zh hown;replace hb2:=Zh (HE.out.trans hb2);clear hg)
    go_wp2
    go_roundw
    case rel=>exact ⟨i + 1,o ++ [1],a',c',by omega,by go_num,by rw [List.length_append];rfl,by rw [List.length_append,HOL.out];rfl,hown.out,hb2.out,by unfold Hid;rw [HTK.out,HF.out]⟩
    case measure=>simp [intOf];omega
  ·obtain rfl:i = L.length:=by omega
   have t0:decide (L.length < L.length) = false:=by simp
   have HOE:Hid (o = L):=by unfold Hid;rw [HF.out,List.take_length]
   go_wp2
   go_ret
   exact ⟨g,c,by rw [HOE.out];rfl,by have:=HO.out;rwa [HOE.out] at this,HE.out⟩
end Go.Proofs.YtnkpnjnfddjfpaaGreat

namespace Go.Proofs.YtnkpnjnfddjfpaaGreat
open Go.RowKit Go.Shelf M01 M02 M27
set_option maxRecDepth 1000000 in
set_option maxHeartbeats 0 in
theorem Zkx (w:World):Calls Tryz.prog 142 #[] w fun e w'=>e = .returned (.slice (some ⟨w.heap.size,0,none⟩) 512 512) /\ w' = w.alloc (.cells (nums.map fun (n:Nat)=>Value.int .i64 n).toArray 3):=by
 rw [<- Zlw]
 go_enter Tryz.func142,Tryz.ntmps142
 apply wp_seq
 apply wp_region_lit
 refine wpList_plain rfl fun K hK=>?_
 unfold Oper.wp
 rw [show (execOp (Act.mk #[undef,undef] []).eval _).run Tryz.prog w = .ok (.value (.slice none 0 0)) w from rfl]
 apply hK
 apply wpList_nil
 show Code.wp _ _ _ _ _
 apply wp_seq
 apply wp_region_lit
 refine wpList_buildFlat rfl 36 3 512 _ rfl .i64 numsI (by kernel_rfl) (by kernel_rfl) (by kernel_rfl) Zlv (by decide) (by decide) (by kernel_rfl) ?_
 clear hK K
 refine wpList_plain rfl fun K hK=>?_
 unfold Oper.wp
 refine (show K _ _ from ?_)
 apply hK
 apply wpList_nil
 show Code.wp _ _ _ _ _
 apply wp_ret
 clear hK K
 refine bodyPost_ret (results_tmp rfl _ _ _) rfl ?_
 exact ⟨rfl,rfl⟩
end Go.Proofs.YtnkpnjnfddjfpaaGreat

namespace Go.Proofs.YtnkpnjnfddjfpaaGreat
open Go.RowKit
def Yields4 (P:Program) (gf:Nat) (lb:Array Value) (n:Nat) (row:Nat -> Array Value) (S T:Nat -> Prop) (Fin:Ending -> World -> Prop) (w:World):Prop :=
 ∀ (l:Nat) (J Jx:Nat -> World -> Prop) (W:World) (U:Nat -> Prop),SameOn S w W -> (∀ b,U b -> b < W.heap.size /\ ¬ S b) →
  (∀ i A B,J i A -> Only T A B -> J i B) -> (∀ i A B,Jx i A -> Only T A B -> Jx i B) →
  (∀ i A,i < n -> J i A -> W.heap.size <= A.heap.size -> YieldAt Fence.wide 9 P l (row i) A fun e B =>
   (e = .returned (.bool true) /\ J (i + 1) B /\ Only U A B) \/ (e = .returned (.bool false) /\ Jx (i + 1) B)) →
  J 0 W →
  CallsIn Fence.wide 9 P gf (#[.func (.yield l) #[] #[]] ++ lb) W fun e B=>(J n B /\ Fin e B) \/ (∃ i,i < n /\ Jx (i + 1) B /\ ∃ v,e = .returned v)
def roundEnds4 (U:Nat -> Prop) (I:Nat -> World -> Prop) (Ix:Code -> Nat -> World -> Prop) (i:Nat) (A:World):Exit -> Act -> World -> Prop
 | .normal,_,B=>Only U A B /\ I (i + 1) B
 | .ret,_,B=>Only U A B /\ Ix .ret (i + 1) B
 | .exit id,_,B=>Only U A B /\ Ix (.exit id) (i + 1) B
 | .goto t,_,B=>Only U A B /\ Ix (.goto t) (i + 1) B
 | .panic _,_,_=>False
 | .outgrown,_,_=>False
theorem Only.putLoop {T:Nat -> Prop} {A B:World} (h:Only T A B) {r:Nat} (hr:T r) (o:Obj):Only T A (B.putObj r o) :=
 ⟨h.os,h.tape,h.output,by rw [World.putObj_size];exact h.size,fun k hk hT=>(World.putObj_heap_other (by intro e;exact hT (e ▸ hr))).trans (h.block k hk hT)⟩
theorem Zqq {P:Program} {g:Operand} {ps:Array Tmp} {assign body:Code} {Q:Exit -> Act -> World -> Prop} {a:Act} {w:World}
  {gf:Nat} {lb:Array Value} (hg:a.eval g = .func (.func gf) #[] lb) (eg:∀ args w,(callFunc gf args).run P w = .ok (.enter gf args) w)
  {n:Nat} {row:Nat -> Array Value} {S T:Nat -> Prop} {Fin:Ending -> World -> Prop} {w0:World} (hy:Yields4 P gf lb n row S T Fin w0) (U:Nat -> Prop) (hsame:SameOn S w0 w) (hS:∀ b,S b -> b < w.heap.size) (hT:∀ b,T b -> b < w.heap.size) (hU:∀ b,U b -> b < w.heap.size /\ ¬ S b)
  (hps:∀ i,(row i).size = ps.size)
  (I:Nat -> World -> Prop) (Ix:Code -> Nat -> World -> Prop)
  (hI:∀ i A B,I i A -> Only T A B -> I i B) (hIp:∀ i A l o o',I i A -> w.heap.size <= l -> A.heap[l]? = some o -> o.isCells = false -> I i (A.putObj l o'))
  (hX:∀ c i A B,Ix c i A -> Only T A B -> Ix c i B) (hXp:∀ c i A l o o',Ix c i A -> w.heap.size <= l -> A.heap[l]? = some o -> o.isCells = false -> Ix c i (A.putObj l o'))
  (hFp:∀ e A l o o',Fin e A -> w.heap.size <= l -> A.heap[l]? = some o -> o.isCells = false -> Fin e (A.putObj l o')) (hFo:∀ A,¬ Fin .outgrown A)
  (h0:I 0 w) (Ax:Nat -> Act -> World -> Prop)
  (hAp:∀ i a' A l o o',Ax i a' A -> w.heap.size <= l -> A.heap[l]? = some o -> o.isCells = false -> Ax i a' (A.putObj l o'))
  (hassign:∀ (l i:Nat) (W:World) (K:Act -> World -> Prop),i < n -> w.heap.size + 2 <= W.heap.size -> I i W -> (∀ a' W',Only U W W' -> Ax i a' W' -> K a' W') →
   assign.wpIn (Fence.wide.inRound l) 9 P (Exit.then K (fun _ _ _=>False)) { tmps:=(ps.zip (row i)).foldl (fun t (p,v)=>t.setIfInBounds p v) a.tmps,defers:=[] } W)
  (hbody:∀ (l i:Nat) (hi:i < n) (a':Act) (A:World),w.heap.size + 2 <= A.heap.size -> Ax i a' A -> body.wpIn (Fence.wide.inRound l) 9 P (roundEnds4 U I Ix i A) a' A)
  (hdone:∀ (v:Value) (A:World),I n A -> Fin (.returned v) A -> A.heap[w.heap.size]? = some (.deferred (some [])) -> Q .normal { a with defers:={ target:=.collected w.heap.size,args:=#[] } :: a.defers } A)
  (hpanic:∀ (c:List PanicEntry) (A:World),I n A -> Fin (.panicked c) A -> A.heap[w.heap.size]? = some (.deferred (some [])) -> Q (.panic c) { a with defers:={ target:=.collected w.heap.size,args:=#[] } :: a.defers } A)
  (hstop:∀ (c:Code) (i:Nat) (A:World),i < n -> Ix c (i + 1) A -> A.heap[w.heap.size]? = some (.deferred (some [])) -> c.wpIn Fence.wide 9 P Q { a with defers:={ target:=.collected w.heap.size,args:=#[] } :: a.defers } A) :
  (Code.rangeFunc g ps assign body).wpIn Fence.wide 9 P Q a w:=by
 refine wpIn_rangeFunc ?_
 intro fn hfn
 obtain ⟨rec,hrec⟩:∃ rec:LoopState -> Option Code -> Loop,rec = fun st pe=>{ state:=st,pending:=pe,fn,tmps:=a.tmps,params:=ps,assign,body,defers:=w.heap.size }:=⟨_,rfl⟩
 obtain ⟨W1,hW1⟩:∃ W1,(w.alloc (.deferred (some []))).alloc (.loop (rec .ready none)) = W1:=⟨_,rfl⟩
 have hs1:W1.heap.size = w.heap.size + 2:=by rw [<- hW1];simp
 have hL1:W1.heap[w.heap.size + 1]? = some (.loop (rec .ready none)):=by
  rw [<- hW1];have:=World.alloc_heap_new (w.alloc (.deferred (some []))) (.loop (rec .ready none));rwa [World.size_alloc] at this
 have hK1:W1.heap[w.heap.size]? = some (.deferred (some [])):=by
  rw [<- hW1];exact (Below.heap_alloc _ _ _ (by simp)).trans (World.alloc_heap_new w _)
 have hI1:I 0 W1:=hI 0 w W1 h0 (by rw [<- hW1];exact ((Only.refl T w).alloc _).alloc _)
 have hsame1:SameOn S w0 W1:=⟨by have:=hsame.size;omega,fun b hb=>by
  rw [<- hW1,Below.heap_alloc _ _ _ (by have:=hS b hb;simp;omega),Below.heap_alloc _ _ _ (hS b hb)]
  exact hsame.same b hb⟩
 refine ⟨w.heap.size + 1,[{ target:=.collected w.heap.size,args:=#[] }],W1,{ target:=.fn (.func gf) lb,args:=#[.func (.yield (w.heap.size + 1)) #[] #[]] },W1,gf,
  #[.func (.yield (w.heap.size + 1)) #[] #[]] ++ lb,W1,?_,?_,?_,?_,fun h=>by simp [Fence.wide] at h,?_⟩
 ·rw [<- hW1,hrec];exact run_enterLoop_outer _ _ _ _ _
 ·simp only [resolve,hg]
  simp [go_sem]
 ·intro f' hf';trivial
 ·simp [invoke,go_sem,eg]
 ·have hyy:=hy (w.heap.size + 1)
   (fun i A=>I i A /\ w.heap.size + 2 <= A.heap.size /\ A.heap[w.heap.size + 1]? = some (.loop (rec .ready none)) /\ A.heap[w.heap.size]? = some (.deferred (some [])))
   (fun i A=>∃ c,Ix c i A /\ A.heap[w.heap.size + 1]? = some (.loop (rec .done (some c))) /\ A.heap[w.heap.size]? = some (.deferred (some [])))
   W1 (fun b=>U b \/ b = w.heap.size + 1) hsame1 (fun b hb=>by
    rcases hb with hb | rfl
    ·exact ⟨by have:=(hU b hb).1;omega,(hU b hb).2⟩
    ·exact ⟨by omega,fun h=>by have:=hS _ h;omega⟩)
   (fun i A B h ho=>⟨hI i A B h.1 ho,Nat.le_trans h.2.1 ho.size,Zad h.2.2.1 ho (fun t=>by have:=hT _ t;omega),Zad h.2.2.2 ho (fun t=>by have:=hT _ t;omega)⟩)
   (fun i A B h ho=>by
    obtain ⟨c,hc,hl,hk⟩:=h
    exact ⟨c,hX c i A B hc ho,Zad hl ho (fun t=>by have:=hT _ t;omega),Zad hk ho (fun t=>by have:=hT _ t;omega)⟩)
   ?_ ⟨hI1,by omega,hL1,hK1⟩
  ·refine (callsIn_wide.2 (callsIn_wide.1 hyy)).mono ?_
   rintro e W2 (⟨⟨hi,_,hl,hk⟩,hfin⟩ | ⟨i,hlt,⟨c,hi,hl,hk⟩,v,rfl⟩)
   ·cases e with
    | returned v=>exact ⟨none,_,by have:=run_endLoop (P:=P) hl (by rw [hrec];simp);rw [hrec] at this;exact this,hdone v _ (hIp _ _ _ _ _ hi (by omega) hl rfl) (hFp _ _ _ _ _ hfin (by omega) hl rfl) ((World.putObj_heap_other (by omega)).trans hk)⟩
    | panicked ch=>exact hpanic ch W2 hi hfin hk
    | outgrown=>exact absurd hfin (hFo W2)
   ·exact ⟨some c,_,by have:=run_endLoop (P:=P) hl (by rw [hrec];simp);rw [hrec] at this;exact this,hstop c i _ hlt (hXp _ _ _ _ _ _ hi (by omega) hl rfl) ((World.putObj_heap_other (by omega)).trans hk)⟩
  ·rintro i W hi ⟨hii,hsz,hl,hk⟩ _
   have hy':=run_yield (P:=P) (args:=row i) hl (by rw [hrec];exact hps _)
   rw [hrec] at hy'
   have hUo:∀ {A B:World},Only U A B -> Only (fun b=>U b \/ b = w.heap.size + 1) A B:=fun h=>h.mono (fun k _ hk=>.inl hk)
   refine Zha (n:=9) ⟨fn,_,assign,body,hy',roundIn_of_wpIn hfn (hassign _ i W _ hi hsz hii fun a' W' hk0 hax=>⟨_,run_beginRound (Zad hl hk0 (fun t=>by have:=(hU _ t).1;omega)) (by rw [hrec]),?_⟩)⟩
   replace hl:=Zad hl hk0 (fun t=>by have:=(hU _ t).1;omega)
   replace hk:=Zad hk hk0 (fun t=>by have:=(hU _ t).1;omega)
   have hlt:w.heap.size + 1 < W'.heap.size:=by have:=hk0.size;omega
   have hl2:(W'.putObj (w.heap.size + 1) (.loop { rec .ready none with state:=.busy })).heap[w.heap.size + 1]? = some (.loop { rec .ready none with state:=.busy }):=World.putObj_heap_same hlt
   have hk2:(W'.putObj (w.heap.size + 1) (.loop { rec .ready none with state:=.busy })).heap[w.heap.size]? = some (.deferred (some [])):=(World.putObj_heap_other (by omega)).trans hk
   have hO2:Only (fun b=>U b \/ b = w.heap.size + 1) W (W'.putObj (w.heap.size + 1) (.loop { rec .ready none with state:=.busy })):=(hUo hk0).putLoop (.inr rfl) _
   refine wpIn_mono (hbody _ i hi _ _ (by rw [World.putObj_size];omega) (hAp _ _ _ _ _ _ hax (by omega) hl rfl)) ?_
   have fin:∀ (jump:Option Code) (W3:World),Only U (W'.putObj (w.heap.size + 1) (.loop { rec .ready none with state:=.busy })) W3 →
     (Instr.endRound (w.heap.size + 1) jump).run P W3 = .ok (.bool jump.isNone) (W3.putObj (w.heap.size + 1) (.loop (rec (if jump.isNone then .ready else .done) jump))) ∧
     W3.heap[w.heap.size + 1]? = some (.loop { rec .ready none with state:=.busy }) ∧
     (W3.putObj (w.heap.size + 1) (.loop (rec (if jump.isNone then .ready else .done) jump))).heap[w.heap.size + 1]? = some (.loop (rec (if jump.isNone then .ready else .done) jump)) ∧
     (W3.putObj (w.heap.size + 1) (.loop (rec (if jump.isNone then .ready else .done) jump))).heap[w.heap.size]? = some (.deferred (some [])) /\ w.heap.size + 2 <= (W3.putObj (w.heap.size + 1) (.loop (rec (if jump.isNone then .ready else .done) jump))).heap.size ∧
     Only (fun b=>U b \/ b = w.heap.size + 1) W (W3.putObj (w.heap.size + 1) (.loop (rec (if jump.isNone then .ready else .done) jump))):=fun jump W3 hk3=>by
    have hl3:=Zad hl2 hk3 (fun t=>by have:=(hU _ t).1;omega)
    have:=run_endRound (P:=P) jump hl3
    rw [hrec] at this ⊢
    exact ⟨this,by rw [hrec] at hl3;exact hl3,World.putObj_heap_same (Array.getElem?_eq_some_iff.1 hl3).1,(World.putObj_heap_other (by omega)).trans (Zad hk2 hk3 (fun t=>by have:=(hU _ t).1;omega)),by rw [World.putObj_size];have:=(Array.getElem?_eq_some_iff.1 hl3).1;omega,by
     rw [hrec] at hO2
     rw [hrec] at hk3
     exact (hO2.trans (hUo hk3)).putLoop (.inr rfl) _⟩
   rintro e a3 W3 hp
   cases e with
   | normal =>
    obtain ⟨hk3,hi3⟩:=hp
    obtain ⟨hr,hl3,hl4,hk4,hz4,ho4⟩:=fin none W3 hk3
    exact ⟨_,_,hr,.inl ⟨rfl,⟨hIp _ _ _ _ _ hi3 (by omega) hl3 rfl,hz4,hl4,hk4⟩,ho4⟩⟩
   | ret =>
    obtain ⟨hk3,hi3⟩:=hp
    obtain ⟨hr,hl3,hl4,hk4,_⟩:=fin (some .ret) W3 hk3
    exact ⟨_,_,hr,.inr ⟨rfl,.ret,hXp _ _ _ _ _ _ hi3 (by omega) hl3 rfl,hl4,hk4⟩⟩
   | exit id =>
    obtain ⟨hk3,hi3⟩:=hp
    obtain ⟨hr,hl3,hl4,hk4,_⟩:=fin (some (.exit id)) W3 hk3
    exact ⟨_,_,hr,.inr ⟨rfl,.exit id,hXp _ _ _ _ _ _ hi3 (by omega) hl3 rfl,hl4,hk4⟩⟩
   | goto t =>
    obtain ⟨hk3,hi3⟩:=hp
    obtain ⟨hr,hl3,hl4,hk4,_⟩:=fin (some (.goto t)) W3 hk3
    exact ⟨_,_,hr,.inr ⟨rfl,.goto t,hXp _ _ _ _ _ _ hi3 (by omega) hl3 rfl,hl4,hk4⟩⟩
   | panic ch=>exact hp.elim
   | outgrown=>exact hp.elim
end Go.Proofs.YtnkpnjnfddjfpaaGreat

namespace Go.Proofs.YtnkpnjnfddjfpaaGreat
open Go.RowKit Go.Shelf M01 M02 M27
attribute [local go_sem] Oper.semAt_some
theorem Zwp (w:World) (n:Nat) :
  Calls Tryz.prog 85 #[.int .i64 (n:Nat)] w fun e w' =>
   e = .returned (.func (.func 131) #[] #[.pointer (some ⟨w.heap.size,0,none⟩)]) /\ w' = w.alloc (.cells #[.int .i64 (n:Nat)] 3):=by
 have hmf:∀ (fn:Fn) (first cap:Array Value) (w:World),(Instr.makeFunc fn first cap).run Tryz.prog w = .ok (.func fn first cap) w:=fun _ _ _ _=>rfl
 go_enter Tryz.func85,Tryz.ntmps85
 go_wp2
 go_ret
 exact ⟨rfl,rfl⟩
def maskRow (i:Nat):Array Value:=#[.int .i64 (maskAt i:Nat)]
theorem Zqf (n i:Nat) (h:∀ j,j < i -> maskAt j < n):maskSum i <= n + 1:=by
 cases i with
 | zero=>exact Nat.zero_le _
 | succ i =>
  have:=h i (by omega)
  have:=Zbx i
  unfold maskAt at *
  omega
theorem Zmp (k:IntKind) (w:World) (l:List Nat) (E:TypeId) (c:Array Value) (B:Nat) (hB:B = w.heap.size) (hc:c = (l.map fun (n:Nat)=>Value.int k n).toArray) (hl:l.length <= 9223372036854775807) :
  RowN k (w.alloc (.cells c E)) (some ⟨B,0,none⟩) l.length l:=by
 subst hc hB
 refine ⟨Nat.le_refl _,⟨hl,fun hn=>by cases hn⟩,.inr ⟨w.heap.size,0,rfl,by simp,fun i hi=>?_⟩⟩
 rw [Nat.zero_add,World.cell?_alloc_at _ _ _ _ rfl]
 simp [hi]
theorem Ztr (n i:Nat) (h:∀ j,j < i -> maskAt j < n) (h1:maskAt i < n):i < maskCnt n:=by
 rcases Nat.lt_or_ge i (maskCnt n) with h2 | h2
 ·exact h2
 ·have h3:=Zju n
  rcases Nat.lt_or_ge (maskCnt n) i with h4 | h4
  ·have:=h _ h4;omega
  ·obtain e:maskCnt n = i:=by omega
   rw [e] at h3
   omega
theorem Zou (w:World):RowN .i64 (w.alloc (.cells (nums.map fun (n:Nat)=>Value.int .i64 n).toArray 3)) (some ⟨w.heap.size,0,none⟩) 512 nums:=by
 have hl:=Zfv
 generalize nums = L at *
 have:=Zmp .i64 w L 3 _ w.heap.size rfl rfl (by omega)
 rw [hl] at this
 exact this
set_option maxRecDepth 100000 in
set_option maxHeartbeats 3200000 in
theorem Znp (n B:Nat) (w:World) (hn:n <= 1000000) (h1:w.heap[B]? = some (.cells #[.int .i64 (n:Nat)] 3 (0,0))) :
  Yields4 Tryz.prog 131 #[.pointer (some ⟨B,0,none⟩)] (maskCnt n) maskRow (fun b=>b = B) (fun _=>False) (fun e _=>∃ v,e = .returned v) w:=by
 intro y J Jx W U hsame hU hJ hJx hY h0
 have HY:=Zh hY
 have HJ:=Zh hJ
 have HU:=Zh hU
 have e1:=(hsame.same B rfl).trans h1
 have hNL:=Zfv
 have hNR:=Zou
 have hNA:=Zty
 have hSM:=Zqf
 have hnm:∀ w,Calls Tryz.prog 132 #[] w fun e w'=>∃ g,e = .returned (.slice (some ⟨g,0,none⟩) 512 512) /\ RowN .i64 w' (some ⟨g,0,none⟩) 512 nums /\ w.heap.size <= g /\ Below w.heap.size w w':=fun w =>
  (Znf w).mono fun e w' h=>by
   obtain ⟨rfl,rfl⟩:=h
   exact ⟨_,rfl,hNR w,Nat.le_refl _,Zai w _⟩
 have HN:=Zh hnm
 have HL:=Zh hNL
 have hstep:∀ i,i % 512 < 512 /\ maskSum (i + 1) = maskSum i + nums.getD (i % 512) 0:=fun i=>⟨by omega,rfl⟩
 have HST:=Zh hstep
 have HNA:=Zh hNA
 have HSM:=Zh hSM
 have hB:=lt_of_block e1
 clear hJ hJx hY h1 hU hNR hNL hnm hstep hNA hSM
 generalize nums = L at *
 refine callsIn_of_wp Tryz.func131 rfl trivial ?_ rfl
 simp only [Tryz.ntmps131,List.size_toArray,List.length_cons,List.length_nil,Nat.reduceAdd,Nat.reduceSub,Array.replicate_succ,Array.replicate_zero,List.push_toArray,List.append_toArray,List.nil_append,List.cons_append]
 gi_wp2
 gi_loopw [3] (fun av A=>∃ r:Nat,av = .int .i64 (maskSum (512 * r):Nat) /\ W.heap.size <= A.heap.size /\ A.heap[B]? = some (.cells #[.int .i64 (n:Nat)] 3 (0,0)) /\ J (512 * r) A /\ ∀ j,j < 512 * r -> maskAt j < n) (fun av _=>n + 2 - (intOf av).toNat)
 case atStart=>exact ⟨0,rfl,Nat.le_refl _,e1,h0,fun j hj=>by omega⟩
 case round =>
  clear hsame e1 h0
  obtain ⟨r,rfl,hz,e1,hJA,hlow⟩:=hrel
  have hms:=HSM.out n (512 * r) hlow
  have HE1:=Zh e1
  have HJA:=Zh hJA
  have HLOW:=Zh hlow
  have HRE:=Zh (show (512 * r) % 512 = 0 by omega)
  clear e1 hJA hlow
  gi_wp2_with fail
  refine ⟨trivial,?_⟩
  refine (callsIn_wide.2 (HN.out wr)).mono ?_
  rintro e w2 ⟨g,rfl,hrow,hg,hb2⟩
  have HR2:=Zh hrow
  have HE2:=Zh ((hb2.block B (by omega)).trans HE1.out)
  have HJ2:=Zh (HJ.out _ _ _ HJA.out (Only.ofBelow hb2))
  have hz2:=Nat.le_trans hz hb2.size
  clear hrow hb2 HE1 HJA
  gi_wp2_with fail
  gi_loopw [3,8] (fun av iv A=>∃ i:Nat,iv = .int .i64 (i:Nat) /\ i <= 512 /\ av = .int .i64 (maskSum (512 * r + i):Nat) /\ W.heap.size <= A.heap.size /\ A.heap[B]? = some (.cells #[.int .i64 (n:Nat)] 3 (0,0)) /\ RowN .i64 A (some ⟨g,0,none⟩) 512 L /\ J (512 * r + i) A /\ Hid (∀ j,j < 512 * r + i -> maskAt j < n)) (fun _ iv _=>512 - (intOf iv).toNat)
  case atStart=>exact ⟨0,rfl,by omega,rfl,hz2,HE2.out,HR2.out,HJ2.out,HLOW.out⟩
  case round =>
   clear HR2 HE2 HJ2 hz2
   obtain ⟨i,rfl,hi,rfl,hz3,e1,hrow,hJA,HL3⟩:=hrel
   have hms3:=HSM.out n (512 * r + i) HL3.out
   have c1:=cell_of_one e1
   have HE3:=Zh e1
   have HR3:=Zh hrow
   have HJ3:=Zh hJA
   clear e1 hJA
   by_cases hlt:i < 512
   ·have t0:decide ((i:Int) < 512) = true:=by simp;omega
    have hiL:i < L.length:=by rw [HL.out];exact hlt
    obtain ⟨b,off,hb,_,hcc⟩:=hrow.at (i:=i) hiL
    simp only [Option.some.injEq,Addr.mk.injEq,and_true] at hb
    obtain ⟨rfl,rfl⟩:=hb
    have hst:=(HST.out (512 * r + i)).2
    rw [show (512 * r + i) % 512 = i by omega] at hst
    have hna:=HNA.out i hlt
    rw [<- Zbf hiL,Nat.zero_add] at hcc
    have HMA:=Zh (show maskAt (512 * r + i) = maskSum (512 * r + i + 1) - 2 from rfl)
    have HS3:=Zh (show 512 * r + i + 1 = 512 * r + (i + 1) by omega)
    generalize L.getD i 0 = k at *
    generalize hs0:maskSum (512 * r + i) = s0 at *
    generalize hs1:maskSum (512 * r + i + 1) = s1 at *
    have HS1:=Zh hs1
    have v1:IntKind.i64.wrap ((s0:Int) + (k:Int)) = (s1:Int):=by rw [IntWalk.i64_in _ (by omega)];omega
    have v2:((s0:Int) + (k:Int)) = (s1:Int):=by omega
    obtain ⟨m,hm⟩:∃ m,s1 - 2 = m:=⟨_,rfl⟩
    have v3:IntKind.i64.wrap ((s1:Int) - 2) = (m:Int):=by rw [IntWalk.i64_in _ (by omega)];omega
    have v4:((s1:Int) - 2) = (m:Int):=by omega
    rw [hm] at HMA
    clear hrow hs0 hs1 hst
    by_cases hge:n <= m
    ·have v5:decide (n <= m) = true:=decide_eq_true hge
     have HFN:=Zh (Zjw HL3.out (by rw [HMA.out];exact hge))
     clear hm
     gi_wp2_with fail
     refine ⟨fun _ h=>(by cases h),?_⟩
     gi_wp2_with fail
     refine bodyPost_ret (results_none rfl _ _ _) rfl ?_
     exact .inl ⟨by rw [<- HFN.out];exact HJ3.out,_,rfl⟩
    ·have v5:decide (n <= m) = false:=decide_eq_false hge
     have hmore:=Ztr n (512 * r + i) HL3.out (by rw [HMA.out];omega)
     obtain ⟨fn,tmps,assign,body,hy,hR⟩:=HY.out _ _ hmore HJ3.out hz3
     have HR:=Zh hR
     unfold maskRow at hy
     rw [HMA.out] at hy
     clear hR hm
     gi_wp2_with fail
     refine (Zex HR.out).mono ?_
     rintro e W' (⟨rfl,hJ',hk'⟩ | ⟨rfl,hJx'⟩)
     ·have HE4:=Zh (Zad HE3.out hk' (fun t=>(HU.out _ t).2 rfl))
      have HR4:=Zh (HR3.out.sameAt hk'.size (hk'.block g (by omega) (fun t=>by have:=(HU.out _ t).1;omega)))
      have HJ4:=Zh hJ'
      have hz4:=Nat.le_trans hz3 hk'.size
      clear hJ' hk' hy
      gi_wp2_with fail
      go_roundw
      case rel =>
       refine ⟨i + 1,by go_num,by omega,by rw [<- HS3.out,HS1.out],hz4,HE4.out,HR4.out,by rw [<- HS3.out];exact HJ4.out,fun j hj=>?_⟩
       rcases Nat.lt_or_ge j (512 * r + i) with h | h
       ·exact HL3.out j h
       ·obtain rfl:j = 512 * r + i:=by omega
        rw [HMA.out];omega
      case measure=>simp [intOf];omega
     ·gi_wp2_with fail
      refine bodyPost_ret (results_none rfl _ _ _) rfl ?_
      exact .inr ⟨_,hmore,hJx',_,rfl⟩
   ·obtain rfl:i = 512:=by omega
    have HS3:=Zh (show 512 * r + 512 = 512 * (r + 1) by omega)
    have hgrow:=Zhf (show 512 * r + 1 <= 512 * r + 512 by omega)
    have hgrow2:=(Zbx (512 * r)).1
    clear hrow hlt hi
    gi_wp2_with fail
    go_roundw
    case rel=>exact ⟨r + 1,by rw [HS3.out],hz3,HE3.out,by rw [<- HS3.out];exact HJ3.out,by rw [<- HS3.out];exact HL3.out⟩
    case measure=>simp [intOf];omega
end Go.Proofs.YtnkpnjnfddjfpaaGreat

namespace Go.Proofs.YtnkpnjnfddjfpaaGreat.M27
theorem Zlc (v:Nat):2 * v % 4294967296 = (v <<< 1) % 2 ^ 32:=by
 rw [Nat.shiftLeft_eq,Nat.mul_comm]
theorem Zvv (a b:Nat):2 * (a ^^^ b) % 4294967296 = (2 * a % 4294967296) ^^^ (2 * b % 4294967296):=by
 rw [Zlc,Zlc,Zlc,Nat.shiftLeft_xor_distrib,Nat.xor_mod_two_pow]
theorem Zvu {v:Nat} (h:v < 4294967296):decide (2147483648 <= v) = v.testBit 31:=by
 rw [Nat.testBit_eq_decide_div_mod_eq]
 have:v / 2 ^ 31 = v / 2147483648:=rfl
 by_cases h1:2147483648 <= v
 ·have e:v / 2147483648 = 1:=by omega
  rw [this,e];simp [h1]
 ·have e:v / 2147483648 = 0:=by omega
  rw [this,e];simp [h1]
theorem Zed {v:Nat} (h:v < 4294967296):crcBit v = (2 * v % 4294967296) ^^^ (if v.testBit 31 = true then 79764919 else 0):=by
 unfold crcBit
 rw [<- Zvu h]
 by_cases h1:2147483648 <= v
 ·simp only [h1,if_true,decide_true];rfl
 ·simp only [h1,if_false,decide_false];simp
theorem Zbu {a b:Nat} (ha:a < 4294967296) (hb:b < 4294967296):a ^^^ b < 4294967296:=Nat.xor_lt_two_pow (n:=32) ha hb
theorem Zal {v:Nat} (h:v < 4294967296):crcBit v < 4294967296:=by
 rw [Zed h]
 exact Zbu (by omega) (by split <;> omega)
theorem Zbj {a b:Nat} (ha:a < 4294967296) (hb:b < 4294967296):crcBit (a ^^^ b) = crcBit a ^^^ crcBit b:=by
 rw [Zed ha,Zed hb,Zed (Zbu ha hb),Zvv,Nat.testBit_xor]
 generalize 2 * a % 4294967296 = x
 generalize 2 * b % 4294967296 = y
 cases a.testBit 31 <;> cases b.testBit 31 <;> simp only [Bool.false_eq_true,if_false,if_true,Bool.xor_false,Bool.false_xor,Bool.xor_self,Bool.bne_false,Bool.bne_true,Bool.not_false,Bool.not_true,Nat.xor_zero]
 ·exact Nat.xor_assoc _ _ _
 ·rw [Nat.xor_assoc,Nat.xor_comm y,<- Nat.xor_assoc]
 ·rw [Nat.xor_assoc x,Nat.xor_comm 79764919 (y ^^^ 79764919),Nat.xor_assoc y,Nat.xor_self,Nat.xor_zero]
def it8 (v:Nat):Nat:=crcBit (crcBit (crcBit (crcBit (crcBit (crcBit (crcBit (crcBit v)))))))
theorem Ztm {a b:Nat} (ha:a < 4294967296) (hb:b < 4294967296):it8 (a ^^^ b) = it8 a ^^^ it8 b:=by
 have a1:=Zal ha
 have a2:=Zal a1
 have a3:=Zal a2
 have a4:=Zal a3
 have a5:=Zal a4
 have a6:=Zal a5
 have a7:=Zal a6
 have b1:=Zal hb
 have b2:=Zal b1
 have b3:=Zal b2
 have b4:=Zal b3
 have b5:=Zal b4
 have b6:=Zal b5
 have b7:=Zal b6
 unfold it8
 rw [Zbj ha hb,Zbj a1 b1,Zbj a2 b2,Zbj a3 b3,Zbj a4 b4,Zbj a5 b5,Zbj a6 b6,Zbj a7 b7]
theorem Ztl {v:Nat} (h:v < 4294967296):it8 v < 4294967296:=Zal (Zal (Zal (Zal (Zal (Zal (Zal (Zal h)))))))
theorem Zbw {v:Nat} (h:v < 2147483648):crcBit v = 2 * v:=by
 unfold crcBit;rw [if_neg (by omega)];omega
theorem Zzw {v:Nat} (h:v < 16777216):it8 v = v * 256:=by
 unfold it8
 rw [Zbw (v:=v) (by omega),Zbw (v:=2 * v) (by omega),Zbw (v:=2 * (2 * v)) (by omega),Zbw (v:=2 * (2 * (2 * v))) (by omega),Zbw (v:=2 * (2 * (2 * (2 * v)))) (by omega),
  Zbw (v:=2 * (2 * (2 * (2 * (2 * v))))) (by omega),Zbw (v:=2 * (2 * (2 * (2 * (2 * (2 * v)))))) (by omega),Zbw (v:=2 * (2 * (2 * (2 * (2 * (2 * (2 * v))))))) (by omega)]
 omega
theorem split24 (v:Nat):v = (v / 16777216 * 16777216) ^^^ (v % 16777216):=by
 apply Nat.eq_of_testBit_eq
 intro i
 have e:(16777216:Nat) = 2 ^ 24:=rfl
 rw [Nat.testBit_xor,e,Nat.testBit_mul_two_pow,Nat.testBit_mod_two_pow,Nat.testBit_div_two_pow]
 by_cases h:i < 24
 ·simp [h,show ¬ 24 <= i by omega]
 ·simp [h,show 24 <= i by omega]
theorem Zwd (a b:Nat):(a ^^^ b) * 16777216 = (a * 16777216) ^^^ (b * 16777216):=by
 have h:=Nat.shiftLeft_xor_distrib (a:=a) (b:=b) (i:=24)
 rw [Nat.shiftLeft_eq,Nat.shiftLeft_eq,Nat.shiftLeft_eq] at h
 exact h
theorem Zlm (c:Nat):crcTab c = it8 (c * 16777216):=rfl
theorem Zjp {v c:Nat} (hv:v < 4294967296) (hc:c < 256):crcStep v c = it8 v ^^^ it8 (c * 16777216):=by
 have h1:it8 v = it8 (v / 16777216 * 16777216) ^^^ (v % 16777216 * 256):=by
  have:=split24 v
  rw [<- Zzw (v:=v % 16777216) (by omega),<- Ztm (by omega) (by omega),<- this]
 have hd:v / 16777216 < 2 ^ 8:=by omega
 have hx:(v / 16777216) ^^^ c < 256:=Nat.xor_lt_two_pow (n:=8) hd hc
 show (v * 256 % 4294967296) ^^^ crcTab ((v / 16777216) ^^^ c) = _
 rw [Zlm,Zwd,Ztm (by omega) (by omega),h1,show v * 256 % 4294967296 = v % 16777216 * 256 by omega]
 rw [<- Nat.xor_assoc,Nat.xor_comm (v % 16777216 * 256)]
theorem Zqb {v c:Nat} (hv:v < 4294967296) (hc:c < 256):crcStep v c < 4294967296:=by
 rw [Zjp hv hc];exact Zbu (Ztl hv) (Ztl (by omega))
def crcOne (c k v:Nat):Nat:=if (c / 2 ^ k + v / 2147483648) % 2 = 1 then (2 * v % 4294967296) ^^^ 79764919 else 2 * v % 4294967296
def crcRun (c:Nat):Nat -> Nat -> Nat
 | 0,v=>v
 | k + 1,v=>crcRun c k (crcOne c k v)
theorem Zig {c k v:Nat} (h:v < 4294967296):crcOne c k v = crcBit (v ^^^ ((c / 2 ^ k % 2) * 2147483648)):=by
 have hb:(c / 2 ^ k % 2) * 2147483648 < 4294967296:=by omega
 rw [Zbj h hb,Zed h]
 have ht:=Zvu h
 unfold crcOne
 generalize c / 2 ^ k = d at *
 rcases (by omega:d % 2 = 0 \/ d % 2 = 1) with h0 | h0
 ·rw [h0]
  have e:crcBit (0 * 2147483648) = 0:=by decide
  rw [e,Nat.xor_zero]
  by_cases h1:2147483648 <= v
  ·rw [if_pos (by omega),if_pos (by rw [<- ht];simpa using h1)]
  ·rw [if_neg (by omega),if_neg (by rw [<- ht];simpa using h1),Nat.xor_zero]
 ·rw [h0]
  have e:crcBit (1 * 2147483648) = 79764919:=by decide
  rw [e]
  by_cases h1:2147483648 <= v
  ·rw [if_neg (by omega),if_pos (by rw [<- ht];simpa using h1),Nat.xor_assoc,Nat.xor_self,Nat.xor_zero]
  ·rw [if_pos (by omega),if_neg (by rw [<- ht];simpa using h1),Nat.xor_zero]
theorem Zsn {c k v:Nat} (h:v < 4294967296):crcOne c k v < 4294967296:=by
 rw [Zig h];exact Zal (Zbu h (by omega))
def itN:Nat -> Nat -> Nat
 | 0,v=>v
 | k + 1,v=>itN k (crcBit v)
theorem Zjo (c:Nat):∀ k u v,u < 4294967296 -> v < 4294967296 -> crcRun c k (u ^^^ v) = itN k u ^^^ crcRun c k v
 | 0,u,v,_,_=>rfl
 | k + 1,u,v,hu,hv=>by
  have e:crcOne c k (u ^^^ v) = crcBit u ^^^ crcOne c k v:=by
   rw [Zig (Zbu hu hv),Zig hv,Nat.xor_assoc,Zbj hu (Zbu hv (by omega))]
  show crcRun c k (crcOne c k (u ^^^ v)) = itN k (crcBit u) ^^^ crcRun c k (crcOne c k v)
  rw [e,Zjo c k _ _ (Zal hu) (Zsn hv)]
def byteOk (c:Nat):Bool:=crcRun c 8 0 == it8 (c * 16777216)
set_option maxRecDepth 100000 in
theorem Zwr:(List.range 256).all byteOk = true:=by decide +kernel
theorem Zso {v c:Nat} (hv:v < 4294967296) (hc:c < 256):crcRun c 8 v = crcStep v c:=by
 have h:=Zjo c 8 v 0 hv (by omega)
 rw [Nat.xor_zero] at h
 have hb:crcRun c 8 0 = it8 (c * 16777216):=by
  have:=(List.all_eq_true.1 Zwr) c (List.mem_range.2 hc)
  simpa [byteOk] using this
 rw [h,hb,Zjp hv hc]
 rfl
theorem Zpz (l:List Nat) (h:∀ x ∈ l,x < 256):∀ v,v < 4294967296 -> l.foldl crcStep v < 4294967296:=by
 induction l with
 | nil=>intro v hv;exact hv
 | cons a l ih =>
  intro v hv
  exact ih (fun x hx=>h x (List.mem_cons_of_mem _ hx)) _ (Zqb hv (h a (List.mem_cons_self ..)))
theorem Zqa (l:List Nat):crcHigh l < 4294967296:=by unfold crcHigh;omega
def crcAt (l:List Nat) (i:Nat):Nat:=(l.take i).foldl crcStep 4294967295
theorem Zjn (l:List Nat) (i:Nat) (hi:i < l.length):crcAt l (i + 1) = crcStep (crcAt l i) l[i]:=by
 unfold crcAt
 rw [List.take_succ_eq_append_getElem hi,List.foldl_append]
 rfl
theorem Zfl (l:List Nat) (h:∀ x ∈ l,x < 256) (i:Nat):crcAt l i < 4294967296:=Zpz _ (fun x hx=>h x (List.mem_of_mem_take hx)) _ (by decide)
theorem Zlk (l:List Nat):crcHigh l = 4294967295 - crcAt l l.length:=by unfold crcHigh crcAt;rw [List.take_length]
theorem Zer {a b:Nat} (ha:a < 4294967296) (hb:b < 4294967296):foldS a b < 4294967296:=Zbu (Zbu (by omega) (by omega)) hb
end Go.Proofs.YtnkpnjnfddjfpaaGreat.M27

namespace Go.Proofs.YtnkpnjnfddjfpaaGreat
open Go.RowKit Go.Shelf M01 M02 M27
theorem Zar (a b:Nat) (ha:a < 4294967296) (hb:b < 4294967296):bits .xor .u32 (a:Int) (b:Int) = ((a ^^^ b:Nat):Int):=by
 have hx:a ^^^ b < 2 ^ 32:=Nat.xor_lt_two_pow (by omega) (by omega)
 have h1:(BitVec.ofInt 32 (a:Int)).toNat = a:=by
  rw [BitVec.ofInt_natCast,BitVec.toNat_ofNat];exact Nat.mod_eq_of_lt (by omega)
 have h2:(BitVec.ofInt 32 (b:Int)).toNat = b:=by
  rw [BitVec.ofInt_natCast,BitVec.toNat_ofNat];exact Nat.mod_eq_of_lt (by omega)
 show IntKind.u32.wrap ((BitVec.ofInt 32 (a:Int) ^^^ BitVec.ofInt 32 (b:Int)).toNat:Int) = _
 rw [BitVec.toNat_xor,h1,h2,IntKind.wrap_u32]
 omega
theorem Zdn (a b:Nat) (ha:a < 256) (hb:b < 256):bits .xor .u8 (a:Int) (b:Int) = ((a ^^^ b:Nat):Int):=by
 have hx:a ^^^ b < 2 ^ 8:=Nat.xor_lt_two_pow (by omega) (by omega)
 have h1:(BitVec.ofInt 8 (a:Int)).toNat = a:=by
  rw [BitVec.ofInt_natCast,BitVec.toNat_ofNat];exact Nat.mod_eq_of_lt (by omega)
 have h2:(BitVec.ofInt 8 (b:Int)).toNat = b:=by
  rw [BitVec.ofInt_natCast,BitVec.toNat_ofNat];exact Nat.mod_eq_of_lt (by omega)
 show IntKind.u8.wrap ((BitVec.ofInt 8 (a:Int) ^^^ BitVec.ofInt 8 (b:Int)).toNat:Int) = _
 rw [BitVec.toNat_xor,h1,h2,IntKind.wrap_u8]
 omega
theorem Zsq (c:Nat) (hc:c < 256) (w:World):Calls Tryz.prog 46 #[.int .u32 (c:Nat)] w fun e w'=>e = .returned (.int .u32 (c * 16777216:Nat)) /\ w' = w:=by
 have h1:(c:Int) * 16777216 % 4294967296 = ((c * 16777216:Nat):Int):=by omega
 go_enter Tryz.func46,Tryz.ntmps46
 go_wp2
 go_ret
 exact ⟨by simp [h1],rfl⟩
theorem Zni (v:Nat) (hv:v < 4294967296):bits .xor .u32 (2 * (v:Int) % 4294967296) (bits .and .u32 79764919 (-((v:Int) / 2147483648) % 4294967296)) = (crcBit v:Nat):=by
 have h1:2 * (v:Int) % 4294967296 = ((2 * v % 4294967296:Nat):Int):=by omega
 unfold crcBit
 by_cases h:2147483648 <= v
 ·rw [if_pos h]
  have h2:-((v:Int) / 2147483648) % 4294967296 = ((4294967295:Nat):Int):=by omega
  have h3:bits .and .u32 (79764919:Int) ((4294967295:Nat):Int) = ((79764919:Nat):Int):=Zcx 79764919 4294967295 (by omega) (by omega)
  rw [h2,h3,h1,Zar _ _ (by omega) (by omega)]
  rfl
 ·rw [if_neg h]
  have h2:-((v:Int) / 2147483648) % 4294967296 = ((0:Nat):Int):=by omega
  have h3:bits .and .u32 (79764919:Int) ((0:Nat):Int) = ((0:Nat):Int):=Zcx 79764919 0 (by omega) (by omega)
  rw [h2,h3,h1,Zar _ _ (by omega) (by omega),Nat.xor_zero]
theorem Zzn (v:Nat) (hv:v < 4294967296) (w:World):Calls Tryz.prog 47 #[.int .u32 (v:Nat)] w fun e w'=>e = .returned (.int .u32 (crcBit v:Nat)) /\ w' = w:=by
 have h1:(v:Int) * 2 % 4294967296 = ((2 * v % 4294967296:Nat):Int):=by omega
 go_enter Tryz.func47,Tryz.ntmps47
 go_wp2
 go_ret
 exact ⟨Zit (Zni v hv),rfl⟩
theorem Zxg (a b:Nat) (ha:a < 4294967296) (hb:b < 4294967296):bits .xor .u32 (bits .xor .u32 ((a:Int) * 2 % 4294967296) ((a:Int) / 2147483648)) (b:Int) = (foldS a b:Nat):=by
 have h1:(a:Int) * 2 % 4294967296 = ((2 * a % 4294967296:Nat):Int):=by omega
 have h2:(a:Int) / 2147483648 = ((a / 2147483648:Nat):Int):=by omega
 rw [h1,h2,Zar _ _ (by omega) (by omega),Zar _ _ (Zbu (by omega) (by omega)) hb]
 rfl
theorem Zwx (a b:Nat) (ha:a < 4294967296) (hb:b < 4294967296) (w:World):Calls Tryz.prog 23 #[.int .u32 (a:Nat),.int .u32 (b:Nat)] w fun e w'=>e = .returned (.int .u32 (foldS a b:Nat)) /\ w' = w:=by
 go_enter Tryz.func23,Tryz.ntmps23
 go_wp2
 go_ret
 exact ⟨Zit (Zxg a b ha hb),rfl⟩
def crcCells (i:Nat):List Value:=(List.range 256).map fun k=>Value.int .u32 ((if k < i then crcTab k else 0:Nat):Nat)
theorem zeros256:Tryz.zeroCells92 = (crcCells 0).toArray:=by kernel_rfl
theorem Zbl (i:Nat):(crcCells i).length = 256:=by simp [crcCells]
theorem Zll (i:Nat) (hi:i < 256):((crcCells i).toArray.setIfInBounds i (.int .u32 (crcTab i:Nat))) = (crcCells (i + 1)).toArray:=by
 apply Array.ext'
 simp only [List.setIfInBounds_toArray]
 apply List.ext_getElem?
 intro j
 rcases Nat.lt_or_ge j 256 with hj | hj
 ·by_cases hjk:j = i
  ·subst hjk
   rw [List.getElem?_set_self (by rw [Zbl];exact hj)]
   simp [crcCells,hj]
  ·rw [List.getElem?_set_ne (by omega)]
   simp only [crcCells,List.getElem?_map,List.getElem?_range hj,Option.map_some]
   by_cases h:j < i
   ·rw [if_pos h,if_pos (by omega)]
   ·rw [if_neg h,if_neg (by omega)]
 ·rw [List.getElem?_eq_none (by rw [List.length_set,Zbl];exact hj),List.getElem?_eq_none (by rw [Zbl];exact hj)]
theorem Zif (i k:Nat) (hk:k < 256):(crcCells i)[k]? = some (.int .u32 ((if k < i then crcTab k else 0:Nat):Nat)):=by
 simp [crcCells,hk]
theorem Zsp (c:Nat) (hc:c < 256):crcTab c < 4294967296:=by rw [Zlm];exact Ztl (by omega)
theorem info256:(Tryz.prog.info? 92).map (·.size) = some 256:=by kernel_rfl
def itJ:Nat -> Nat -> Nat
 | 0,v=>v
 | j + 1,v=>crcBit (itJ j v)
theorem Zyw:∀ j v,v < 4294967296 -> itJ j v < 4294967296
 | 0,v,h=>h
 | j + 1,v,h=>Zal (Zyw j v h)
theorem ld256 (w:World) (b:Nat) (cs:Array Value) (hc:cs.size = 256) (h:w.heap[b]? = some (.cells cs 92 (0,0))):(Instr.loadAt 92 (.pointer (some ⟨b,0,none⟩))).run Tryz.prog w = .ok (.agg cs) w:=by
 have:=run_loadVar_row (P:=Tryz.prog) w b 92 92 cs (0,0) _ h Tryz.underlying92 rfl (by rw [hc];exact info256)
 simp [Instr.loadAt,Instr.sureAddr,this]
theorem Zys {o:Oper} {a:Act} {w:World} {K:Act -> World -> Prop} {Q:Exit -> Act -> World -> Prop} (x:Operand) (b:Nat) (cs:Array Value) (ho:o.op = .load 92 x) (hx:a.eval x = .pointer (some ⟨b,0,none⟩)) (hc:cs.size = 256) (h:w.heap[b]? = some (.cells cs 92 (0,0)))
  (hK:K (a.put o.dst (.agg cs)) w):o.wp Tryz.prog a w K Q:=by
 unfold Oper.wp execOp
 simp only [ho,hx,Sem.run_bind,ld256 w b cs hc h,Result.andThen]
 exact hK
theorem stc256 (w:World) (b:Nat) (t:TypeId) (old cs:Array Value) (ho:old.size = cs.size) (h1:cs.all (·.oneCell') = true) (h:w.heap[b]? = some (.cells old t (0,0))):(storeCells ⟨b,0,none⟩ cs.toList).run Tryz.prog w = .ok () (w.setRow b cs):=by
 have:=run_storeCells_from (P:=Tryz.prog) b t cs.toList 0 old w h (by simp;omega) (fun v hv=>(Array.all_eq_true_iff_forall_mem.1 h1) v (by simpa using hv))
 simpa using this
theorem Zhd (i:Nat):(crcCells i).toArray.all (·.oneCell') = true:=by
 rw [Array.all_eq_true_iff_forall_mem]
 intro x hx
 simp only [crcCells,List.mem_toArray] at hx
 obtain ⟨k,_,rfl⟩:=List.mem_map.1 hx
 rfl
theorem below_setRow {n:Nat} {w A:World} (h:Below n w A) {b:Nat} (hb:n <= b) (cs:Array Value):Below n w (A.setRow b cs) :=
 ⟨h.os,h.tape,h.output,by simpa [World.setRow] using h.size,fun k hk=>by
  show (A.heap.modify b _)[k]? = _
  rw [Array.getElem?_modify,if_neg (by omega)]
  exact h.block k hk⟩
set_option maxRecDepth 100000 in
set_option maxHeartbeats 6400000 in
theorem Zsr (w:World):Calls Tryz.prog 45 #[.func (Fn.func 46) #[] #[],.func (Fn.func 47) #[] #[]] w fun e w'=>e = .returned (.agg (crcCells 256).toArray) /\ Below w.heap.size w w':=by
 obtain ⟨fb,hfb⟩:∃ fb,w.heap.size = fb:=⟨_,rfl⟩
 have HFB:=Zh hfb
 go_enter Tryz.func45,Tryz.ntmps45
 go_wp2_with fail
 have hb0:Below fb w ((w.alloc (.cells Tryz.zeroCells92 92)).alloc (.cells Tryz.zeroCells92 92)):=by rw [<- hfb];exact (Zai w _).trans ((Zai _ _).mono (by simp))
 have h0:((w.alloc (.cells Tryz.zeroCells92 92)).alloc (.cells Tryz.zeroCells92 92)).heap[fb]? = some (.cells (crcCells 0).toArray 92 (0,0)):=by
  rw [<- zeros256,<- hfb]
  exact (Below.heap_alloc _ _ _ (by simp)).trans (World.alloc_heap_new w _)
 have h1:((w.alloc (.cells Tryz.zeroCells92 92)).alloc (.cells Tryz.zeroCells92 92)).heap[fb + 1]? = some (.cells (crcCells 0).toArray 92 (0,0)):=by
  rw [<- zeros256]
  have:=World.alloc_heap_new (w.alloc (.cells Tryz.zeroCells92 92)) (.cells Tryz.zeroCells92 92)
  rwa [show (w.alloc (.cells Tryz.zeroCells92 92)).heap.size = fb + 1 by simp [hfb]] at this
 generalize (w.alloc (.cells Tryz.zeroCells92 92)).alloc (.cells Tryz.zeroCells92 92) = w1 at *
 have HB0:=Zh hb0
 have H0:=Zh h0
 have H1:=Zh h1
 clear hb0 h0 h1 hfb
 go_loopw [8] (fun iv A=>∃ i:Nat,iv = .int .i64 (i:Nat) /\ i <= 256 /\ A.heap[fb]? = some (.cells (crcCells 0).toArray 92 (0,0)) /\ A.heap[fb + 1]? = some (.cells (crcCells i).toArray 92 (0,0)) /\ Below fb w A) (fun iv _=>256 - (intOf iv).toNat)
 case atStart=>exact ⟨0,rfl,by omega,H0.out,H1.out,HB0.out⟩
 case round =>
  clear H0 H1 HB0
  obtain ⟨i,rfl,hi,h0,h1,hb⟩:=hrel
  have HB:=Zh hb
  clear hb
  by_cases hlt:i < 256
  ·have t0:decide ((i:Int) < 256) = true:=by simp;omega
   have t1:(i:Int) % 4294967296 = (i:Int):=by omega
   have t2:(i:Int) < 256:=by omega
   have hlt0:i * 16777216 < 4294967296:=by omega
   have H0:=Zh h0
   have H1:=Zh h1
   clear h0 h1
   go_wp2_with fail
   refine (Zsq i hlt _).mono ?_
   rintro e w2 ⟨rfl,h2⟩
   rw [h2]
   clear h2 w2
   generalize hv0:i * 16777216 = v0 at *
   have HV0:=Zh hv0
   clear hv0
   go_wp2_with fail
   go_loopw [7,15] (fun vv jv A=>∃ j:Nat,jv = .int .i64 (j:Nat) /\ j <= 8 /\ vv = .int .u32 (itJ j v0:Nat) /\ A = wr) (fun _ jv _=>8 - (intOf jv).toNat)
   case atStart=>exact ⟨0,rfl,by omega,rfl,rfl⟩
   case round =>
    obtain ⟨j,rfl,hj,rfl,hwr⟩:=hrel
    subst hwr
    by_cases hlj:j < 8
    ·have t3:decide ((j:Int) < 8) = true:=by simp;omega
     have hjl:=Zyw j v0 hlt0
     have HJ:=Zh (show itJ (j + 1) v0 = crcBit (itJ j v0) from rfl)
     generalize itJ j v0 = v at *
     go_wp2_with fail
     refine (Zzn v hjl _).mono ?_
     rintro e w2 ⟨rfl,h2⟩
     rw [h2]
     clear h2 w2
     generalize crcBit v = v1 at *
     go_wp2
     go_roundw
     case rel=>exact ⟨j + 1,by go_num,by omega,by rw [HJ.out],trivial⟩
     case measure=>simp [intOf];omega
    ·obtain rfl:j = 8:=by omega
     have HT:=Zh (show itJ 8 v0 = crcTab i by rw [<- HV0.out];rfl)
     rw [HT.out]
     have hc1:=H1.out
     have c1:wr.cell? ⟨fb + 1,i,none⟩ = some (.int .u32 0):=by
      have:=Zif i i hlt
      rw [if_neg (by omega)] at this
      simp [World.cell?,H1.out,this]
     have d1:wr.frozen? ⟨fb + 1,i,none⟩ = false:=by simp [World.frozen?,H1.out]
     have HS:=Zh (Zao (i:=i) (x:=.int .u32 (crcTab i:Nat)) H1.out)
     rw [Zll i hlt] at HS
     clear hc1 HT hlj hj
     generalize crcTab i = tv at *
     go_wp2_with fail
     go_roundw
     case rel=>exact ⟨i + 1,by go_num,by omega,(Below.heap_setCell _ _ _ _ (by show fb ≠ fb + 1;omega)).trans H0.out,HS.out,HB.out.setCell (by show fb <= fb + 1;omega) _⟩
     case measure=>simp [intOf];omega
  ·obtain rfl:i = 256:=by omega
   have HR:=Zh (setRow_heap wr fb _ (crcCells 256).toArray _ _ h0)
   have HB2:=Zh (below_setRow HB.out (Nat.le_refl fb) (crcCells 256).toArray)
   have H0:=Zh h0
   have H1:=Zh h1
   have hs1:(crcCells 256).toArray.size = 256:=by simp [Zbl]
   have hs0:(crcCells 0).toArray.size = 256:=by simp [Zbl]
   have ho1:=Zhd 256
   clear h0 h1
   obtain ⟨cs,hcs⟩:∃ cs,(crcCells 256).toArray = cs:=⟨_,rfl⟩
   have HCS:=Zh hcs
   rw [hcs] at hs1 ho1 HR HB2 H1
   clear hcs
   generalize (crcCells 0).toArray = cs0 at *
   go_wp2_with fail
   refine Zys (.tmp 5) (fb + 1) cs rfl rfl hs1 H1.out ?_
   have hst:=stc256 wr fb _ cs0 cs (by omega) ho1 H0.out
   go_wp2_with fail
   refine bodyPost_ret (results_cell_row (P:=Tryz.prog) rfl _ _ fb 92 cs (0,0) _ rfl HR.out Tryz.underlying92 rfl (by rw [hs1];exact info256)) rfl ?_
   exact ⟨by rw [HCS.out],by rw [HFB.out];exact HB2.out⟩
end Go.Proofs.YtnkpnjnfddjfpaaGreat

namespace Go.Proofs.YtnkpnjnfddjfpaaGreat.M27
def MSt (i lf p t:Nat):Prop:=maskSum i = p + lf /\ ((t = i /\ lf <= 1) \/ (t + 1 = i /\ 2 <= lf /\ maskSum t <= p))
theorem Zaca:MSt 0 0 0 0:=⟨rfl,.inl ⟨rfl,by omega⟩⟩
theorem Zxp (i p t : Nat) (h : MSt i 0 p t) : t = i ∧ ∃ y, nums.getD (i % 512) 0 = y + 1 ∧ 1 ≤ y ∧ y ≤ 999 ∧ (y = 1 → maskAt t = p ∧ MSt (i + 1) y (p + 1) (t + 1)) ∧ (y ≠ 1 → MSt (i + 1) y (p + 1) t) := by
  obtain ⟨h1, h2⟩ := h
  have h3 := Zbx i
  have e : maskSum (i + 1) = maskSum i + nums.getD (i % 512) 0 := rfl
  rw [e] at h3
  obtain ⟨y, hy⟩ : ∃ y, nums.getD (i % 512) 0 = y + 1 := ⟨nums.getD (i % 512) 0 - 1, by omega⟩
  rw [hy] at h3 e
  refine ⟨by omega, y, hy, by omega, by omega, fun h => ?_, fun h => ?_⟩
  · obtain rfl : t = i := by omega
    refine ⟨by unfold maskAt; omega, by omega, .inl ⟨rfl, by omega⟩⟩
  · exact ⟨by omega, .inr ⟨by omega, by omega, by obtain rfl : t = i := by omega
                                                  omega⟩⟩
theorem Zaad {i lf p t:Nat} (h:MSt i (lf + 1) p t):(lf = 1 -> maskAt t = p /\ MSt i lf (p + 1) (t + 1)) /\ (lf ≠ 1 -> MSt i lf (p + 1) t):=by
 obtain ⟨h1,h2⟩:=h
 refine ⟨fun h=>?_,fun h=>⟨by omega,?_⟩⟩
 ·obtain rfl:i = t + 1:=by omega
  exact ⟨by unfold maskAt;omega,by omega,.inl ⟨rfl,by omega⟩⟩
 ·rcases h2 with ⟨h2,h3⟩ | ⟨h2,h3,h4⟩
  ·exact .inl ⟨h2,by omega⟩
  ·exact .inr ⟨h2,by omega,by omega⟩
theorem Zaac {i lf n t:Nat} (h:MSt i lf n t):t = maskCnt n:=by
 obtain ⟨h1,h2⟩:=h
 refine Zjw (fun j hj=>?_) ?_
 ·have h3:=Zhf (show j + 1 <= t by omega)
  have h4:=Zgr (j + 1)
  unfold maskAt
  rcases h2 with ⟨rfl,h2⟩ | ⟨h2,h5,h6⟩ <;> omega
 ·have h3:=Zbx t
  unfold maskAt
  rcases h2 with ⟨rfl,h2⟩ | ⟨rfl,h5,h6⟩ <;> omega
end Go.Proofs.YtnkpnjnfddjfpaaGreat.M27
namespace Go.Proofs.YtnkpnjnfddjfpaaGreat
open Go.RowKit M01 M02 M10 M27
set_option maxRecDepth 100000 in
set_option maxHeartbeats 3200000 in
theorem Zhi (a:Option Addr) (cap:Nat) (bl:List Nat) (w:World) (hr:RowN .u8 w a cap bl) (hb:∀ x ∈ bl,x < 256) (hl:bl.length <= 1000000) :
  Calls Tryz.prog 93 #[.slice a bl.length cap] w fun e w'=>∃ g c,e = .returned (.slice g bl.length c) /\ OwnN 5 .u8 w' w.heap.size g c (masked bl) /\ Below w.heap.size w w':=by
 have HR:=Zh hr
 have HB:=Zh hb
 obtain ⟨q,hq⟩:∃ q,w.heap.size = q:=⟨_,rfl⟩
 rw [hq]
 have HQ:=Zh hq
 have HNL:=Zh Zfv
 have HZ:=Zh Zxp
 have hnm:∀ w,Calls Tryz.prog 142 #[] w fun e w'=>∃ g,e = .returned (.slice (some ⟨g,0,none⟩) 512 512) /\ RowN .i64 w' (some ⟨g,0,none⟩) 512 nums /\ w.heap.size <= g /\ g < w'.heap.size /\ Below w.heap.size w w':=fun w =>
  (Zkx w).mono fun e w' h=>by
   obtain ⟨rfl,rfl⟩:=h
   exact ⟨_,rfl,Zou w,Nat.le_refl _,by simp,Zai w _⟩
 have HN:=Zh hnm
 clear hr hb hq hnm
 generalize nums = L at *
 go_enter Tryz.func93,Tryz.ntmps93
 go_wp2_with (at_builtin;refine appAnyN Zaz rfl (.tmp 8) (.tmp 9) rfl (a:=some ⟨w.heap.size,0,none⟩) (cap:=0) (l:=[]) (ys:=bl) (base:=w.heap.size) rfl (OwnN.lit0 _ _ _ _ (Nat.le_refl _)) rfl rfl (HR.out.below (Zai w _)) (by simp;omega) (by simp;omega) (by simp) ?_;intro a1 cap1 w1 hown1 hg1 hb1;simp only [List.nil_append] at hown1;simp only [List.length_nil,Nat.zero_add];have HO1:=Zh (HQ.out ▸ hown1:OwnN 5 .u8 w1 q a1 cap1 bl);have HB1:=Zh (HQ.out ▸ ((Zai w _).trans hb1):Below q w w1);clear hown1 hg1 hb1)
 go_wp2_with fail
 refine (HN.out _).mono ?_
 rintro e w2 ⟨nb,rfl,hrow,hg,hg2,hb2⟩
 have hq1:q <= w1.heap.size:=by have:=HB1.out.size;have:=HQ.out;omega
 have HNR:=Zh hrow
 have HNB:=Zh hg2
 have HE:=Zh (HB1.out.trans (hb2.mono hq1))
 have HO:=Zh (HO1.out.below hb2)
 have HGN:Hid (∀ g,a1 = some ⟨g,0,none⟩ -> g < nb):=fun g h=>by
  rcases HO1.out.form with ⟨h1,_⟩ | ⟨g0,h1,_,h2⟩
  ·rw [h1] at h;cases h
  ·rw [h1] at h;cases h;omega
 clear hrow hg hg2 hb2 hq1 HO1 HB1
 go_wp2_with fail
 go_loopw [5,6,7] (fun iv lv pv A=>∃ p i lf t:Nat,p <= bl.length /\ i <= p /\ lf <= 1000 /\ iv = .int .i64 (i:Nat) /\ lv = .int .i64 (lf:Nat) /\ pv = .int .i64 (p:Nat) /\ Hid (MSt i lf p t) /\ Hid (OwnN 5 .u8 A q a1 cap1 (turnAt bl t)) /\ Hid (RowN .i64 A (some ⟨nb,0,none⟩) 512 L /\ nb < A.heap.size) /\ Hid (Below q w A)) (fun _ _ pv _=>bl.length - (intOf pv).toNat)
 case atStart=>exact ⟨0,0,0,0,Nat.zero_le _,Nat.zero_le _,Nat.zero_le _,rfl,rfl,rfl,Zaca,HO.out,⟨HNR.out,HNB.out⟩,HE.out⟩
 case round =>
  clear HO HNR HNB HE
  obtain ⟨p,i,lf,t,hp,hip,hlf,rfl,rfl,rfl,HM,HO,HNRB,HE⟩:=hrel
  have HNR:=Zh HNRB.out.1
  have HNB:=Zh HNRB.out.2
  clear HNRB
  have HTL:=Zh (Zbc bl t)
  have HTB:=Zh (Zdl bl HB.out t)
  by_cases hlt:p < bl.length
  case neg =>
   obtain rfl:p = bl.length:=by omega
   have t0:decide (bl.length < bl.length) = false:=by simp
   go_wp2_with fail
   go_ret
   refine ⟨a1,cap1,rfl,?_,HE.out⟩
   have:=HO.out
   rw [Zaac HM.out] at this
   exact this
  have t0:decide (p < bl.length) = true:=by simp;omega
  cases lf with
  | zero =>
   obtain ⟨hti,y,hy,hy1,hy9,hm1,hm2⟩:=HZ.out i p t HM.out
   obtain ⟨k,hk⟩:∃ k,i % 512 = k:=⟨_,rfl⟩
   have hk5:k < 512:=by omega
   have tk:Int.tmod (i:Int) 512 = (k:Int):=by rw [Int.tmod_eq_emod_of_nonneg (by omega)];omega
   obtain ⟨nb2,off2,e2,_,hcn⟩:=HNR.out.at (i:=k) (by rw [HNL.out];exact hk5)
   cases e2
   rw [hk,List.getD_eq_getElem?_getD,List.getElem?_eq_getElem (by rw [HNL.out];exact hk5)] at hy
   rw [show L[k]'(by rw [HNL.out];exact hk5) = y + 1 from hy,Nat.zero_add] at hcn
   have hyi:(((y + 1:Nat):Int)) - 1 = (y:Int):=by omega
   by_cases h1:y = 1
   ·subst h1
    obtain ⟨hmp,hms⟩:=hm1 rfl
    have HMP:=Zh hmp
    have HM2:=Zh hms
    clear hy hm1 hm2 hk hmp hms hti
    obtain ⟨g,rfl,hg1,hg2,hc,hf⟩:=HO.out.at (i:=p) (by rw [HTL.out];exact hlt)
    have hst:=HO.out.stored p ((turnAt bl t).getD p 0 ^^^ 1)
    rw [<- Zbf (by rw [HTL.out];exact hlt)] at hc
    have hx1:(turnAt bl t).getD p 0 < 256:=by rw [Zbf (by rw [HTL.out];exact hlt)];exact HTB.out _ (List.getElem_mem _)
    have HT1:Hid (turnAt bl (t + 1) = (turnAt bl t).set p ((turnAt bl t).getD p 0 ^^^ 1)):=by unfold Hid;rw [<- HMP.out];rfl
    have hbx:bits .xor .u8 (((turnAt bl t).getD p 0:Nat):Int) 1 = (((turnAt bl t).getD p 0 ^^^ 1:Nat):Int):=Zdn _ 1 hx1 (by decide)
    have HST:=Zh hst
    have HG1:=Zh hg1
    have HGN1:=Zh (HGN.out g rfl)
    clear hst hx1 hg1 hg2
    generalize (turnAt bl t).getD p 0 ^^^ 1 = y1 at *
    generalize (turnAt bl t).getD p 0 = x1 at *
    go_wp2_with fail
    go_roundw
    case rel =>
     refine ⟨p + 1,i + 1,1,t + 1,by omega,by omega,by omega,by go_num,by go_num,by go_num,HM2.out,?_,?_,?_⟩
     ·rw [HT1.out];exact HST.out.1
     ·refine ⟨HNR.out.same HST.out.2.size (fun x h0 hx=>HST.out.2.block _ (by cases hx;exact HNB.out) (fun e=>by cases hx;cases e;exact absurd HGN1.out (Nat.lt_irrefl _))),Nat.lt_of_lt_of_le HNB.out HST.out.2.size⟩
     ·exact HE.out.setCell (HG1.out) _
    case measure=>simp [intOf];omega
   ·have HM2:=Zh (hm2 h1)
    have ty:((y:Int) == 1) = false:=beq_eq_false_iff_ne.2 (by omega)
    clear hy hm1 hm2 hk hti
    go_wp2_with fail
    go_roundw
    case rel=>exact ⟨p + 1,i + 1,y,t,by omega,by omega,by omega,by go_num,by go_num,by go_num,HM2.out,HO.out,⟨HNR.out,HNB.out⟩,HE.out⟩
    case measure=>simp [intOf];omega
  | succ lf =>
   obtain ⟨hm1,hm2⟩:=Zaad HM.out
   have tz:(((lf + 1:Nat):Int) == 0) = false:=beq_eq_false_iff_ne.2 (by omega)
   have hli:(((lf + 1:Nat):Int)) - 1 = (lf:Int):=by omega
   by_cases h1:lf = 1
   ·subst h1
    obtain ⟨hmp,hms⟩:=hm1 rfl
    have HMP:=Zh hmp
    have HM2:=Zh hms
    clear hm1 hm2 hmp hms
    obtain ⟨g,rfl,hg1,hg2,hc,hf⟩:=HO.out.at (i:=p) (by rw [HTL.out];exact hlt)
    have hst:=HO.out.stored p ((turnAt bl t).getD p 0 ^^^ 1)
    rw [<- Zbf (by rw [HTL.out];exact hlt)] at hc
    have hx1:(turnAt bl t).getD p 0 < 256:=by rw [Zbf (by rw [HTL.out];exact hlt)];exact HTB.out _ (List.getElem_mem _)
    have HT1:Hid (turnAt bl (t + 1) = (turnAt bl t).set p ((turnAt bl t).getD p 0 ^^^ 1)):=by unfold Hid;rw [<- HMP.out];rfl
    have hbx:bits .xor .u8 (((turnAt bl t).getD p 0:Nat):Int) 1 = (((turnAt bl t).getD p 0 ^^^ 1:Nat):Int):=Zdn _ 1 hx1 (by decide)
    have HST:=Zh hst
    have HG1:=Zh hg1
    have HGN1:=Zh (HGN.out g rfl)
    clear hst hx1 hg1 hg2
    generalize (turnAt bl t).getD p 0 ^^^ 1 = y1 at *
    generalize (turnAt bl t).getD p 0 = x1 at *
    go_wp2_with fail
    go_roundw
    case rel =>
     refine ⟨p + 1,i,1,t + 1,by omega,by omega,by omega,by go_num,by go_num,by go_num,HM2.out,?_,?_,?_⟩
     ·rw [HT1.out];exact HST.out.1
     ·refine ⟨HNR.out.same HST.out.2.size (fun x h0 hx=>HST.out.2.block _ (by cases hx;exact HNB.out) (fun e=>by cases hx;cases e;exact absurd HGN1.out (Nat.lt_irrefl _))),Nat.lt_of_lt_of_le HNB.out HST.out.2.size⟩
     ·exact HE.out.setCell (HG1.out) _
    case measure=>simp [intOf];omega
   ·have HM2:=Zh (hm2 h1)
    have ty:((lf:Int) == 1) = false:=beq_eq_false_iff_ne.2 (by omega)
    clear hm1 hm2
    go_wp2_with fail
    go_roundw
    case rel=>exact ⟨p + 1,i,lf,t,by omega,by omega,by omega,by go_num,by go_num,by go_num,HM2.out,HO.out,⟨HNR.out,HNB.out⟩,HE.out⟩
    case measure=>simp [intOf];omega
end Go.Proofs.YtnkpnjnfddjfpaaGreat
