/- layer 5: rows of the work: first, put, next: contracts. Plain mathematics of layer 5: the lengths, round by round. layer 5: Lengths' look at its frequencies: contracts. layer 5: rarest: contract (below 20 symbols). layer 5: the rows of the work as a slice of structs: making. layer 5: limit.Lengths: contract (below 20 used symbols). -/
import Derived.Test.YtendielanacflaaGreatB02
import Derived.Test.YtendielanacflaaGreatB04
import Derived.Test.YtendielanacflaaGreatB05
import Derived.Test.YtendielanacflaaGreatB01
import Derived.Test.YtendielanacflaaGreatB06
import Derived.Test.YtendielanacflaaGreatB07
import Derived.StillTailTactics
set_option linter.unusedVariables false
set_option linter.unusedSimpArgs false
namespace Go.Proofs.YtendielanacflaaGreat
open Go.RowKit Go.Shelf M04 M05
attribute [local go_sem] Oper.semAt_some
def prefS (r:List M05.Item):List Nat:=(List.range r.length).map fun t=>symN r (t + 1)
theorem Zow (r:List M05.Item):(prefS r).length = r.length:=by simp [prefS]
theorem Zes (r:List M05.Item):(wts r).length = r.length:=by simp [wts]
theorem Zaee (r:List M05.Item) (x:M05.Item) (t:Nat) (h:t <= r.length):symN (r ++ [x]) t = symN r t:=by
 unfold symN
 rw [List.take_append_of_le_length h]
theorem Zpo (r:List M05.Item) (x:M05.Item):symN (r ++ [x]) (r.length + 1) = symN r r.length + x.2:=by
 unfold symN
 rw [List.take_of_length_le (by simp),List.take_of_length_le (Nat.le_refl _)]
 simp
theorem Zyv (r:List M05.Item) (x:M05.Item):prefS (r ++ [x]) = prefS r ++ [symN r r.length + x.2]:=by
 unfold prefS
 rw [List.length_append,List.length_singleton,List.range_succ,List.map_append,List.map_singleton,Zpo]
 congr 1
 exact List.map_congr_left (fun t ht=>Zaee r x (t + 1) (by have:=List.mem_range.1 ht;omega))
theorem Zve (r:List M05.Item) (t:Nat) (h:t < (prefS r).length):(prefS r)[t] = symN r (t + 1):=by simp [prefS]
theorem Zaht (r:List M05.Item) (x:M05.Item):wts (r ++ [x]) = wts r ++ [x.1]:=by simp [wts]
set_option maxRecDepth 100000 in
theorem Zjo (w:World) (pb po:Nat) (a:Option Addr) (c:Nat) (r:List M05.Item) (k:Nat) (hc:w.cell? ⟨pb,po + 1,none⟩ = some (.slice a r.length c)) (hr:RowN .i64 w a c (prefS r)) (hk:k <= r.length) (hl:r.length <= 100000) :
  Calls Tryz.prog 86 #[.pointer (some ⟨pb,po,none⟩),.int .i64 (k:Nat)] w fun e w'=>e = .returned (.int .i64 (symN r k:Nat)) /\ w' = w:=by
 by_cases h0:k = 0
 ·have hrr:Hid (Ending.returned (.int .i64 0) = Ending.returned (.int .i64 (symN r k:Nat))):=by subst h0;unfold Hid;rw [Zgg];rfl
  have t0:((k:Int) == 0) = true:=beq_iff_eq.2 (by omega)
  clear h0
  go_enter Tryz.func86,Tryz.ntmps86
  go_wp2
  go_ret
  exact ⟨hrr.out,rfl⟩
 ·obtain ⟨j,rfl⟩:∃ j,k = j + 1:=⟨k - 1,by omega⟩
  have t0:(((j + 1:Nat):Int) == 0) = false:=beq_eq_false_iff_ne.2 (by omega)
  obtain ⟨b,off,rfl,hlt,hck⟩:=hr.at (show j < (prefS r).length by rw [Zow];omega)
  rw [Zve] at hck
  have q1:((j + 1:Nat):Int) - 1 = (j:Int):=by omega
  have q2:(j:Int) < (r.length:Int):=by omega
  generalize hn:symN r (j + 1) = n at *
  have hjl:j + 1 <= 100000:=by omega
  clear h0 hr hn
  generalize hjk:j + 1 = k at *
  clear hjk
  go_enter Tryz.func86,Tryz.ntmps86
  go_wp2
  go_ret
  trivial
def RowW (w:World) (q base:Nat) (r:List M05.Item):Prop :=
 ∃ a c a2 c2,w.heap[q]? = some (.cells #[.slice a r.length c,.slice a2 r.length c2] 144 (0,0)) /\ OwnN 3 .i64 w base a c (wts r) /\ OwnN 3 .i64 w base a2 c2 (prefS r) /\ (∀ g,a = some ⟨g,0,none⟩ -> a2 ≠ some ⟨g,0,none⟩)
theorem Zoz {w w7:World} {q base c n m:Nat} {a a7:Option Addr} {l:List Nat} {L:List Nat} {u v:Value} (h1:w.heap[q]? = some (.cells #[u,v] 144 (0,0))) (h2:OwnN 3 .i64 w base a c l) (hq:q < base)
  (hn:l.length = n) (hown:OwnN 3 .i64 w7 base a7 m L) (hg:w.grownBy w7 (Value.slice a n c).ownBlock) :
  w7.heap[q]? = some (.cells #[u,v] 144 (0,0)) /\ (∀ k y,OwnN 3 .i64 (w7.setCell ⟨q,k,none⟩ y) base a7 m L) /\ (∀ k y,Only (fun b=>b = q \/ base <= b) w (w7.setCell ⟨q,k,none⟩ y)) ∧
   (∀ a2 c2 l2,OwnN 3 .i64 w base a2 c2 l2 -> (∀ g,a = some ⟨g,0,none⟩ -> a2 ≠ some ⟨g,0,none⟩) -> ∀ k y,OwnN 3 .i64 (w7.setCell ⟨q,k,none⟩ y) base a2 c2 l2):=by
 subst hn
 have hgb:∀ g,(Value.slice a l.length c).ownBlock = some g -> base <= g /\ a = some ⟨g,0,none⟩:=by
  intro g hgg
  rcases h2.form with ⟨rfl,_⟩ | ⟨g',rfl,hb,_⟩
  ·simp [Value.ownBlock] at hgg
  ·simp [Value.ownBlock] at hgg
   subst hgg
   exact ⟨hb,rfl⟩
 have hX:w7.heap[q]? = _:=(hg.block q (Array.getElem?_eq_some_iff.1 h1).1 (fun e=>by have:=(hgb q e.symm).1;omega)).trans h1
 have hne:∀ {a':Option Addr} {m':Nat} {L':List Nat} {w':World},OwnN 3 .i64 w' base a' m' L' -> ∀ g,a' = some ⟨g,0,none⟩ -> q ≠ g:=by
  intro a' m' L' w' ho g e
  rcases ho.form with ⟨h,_⟩ | ⟨g',h,hb,_⟩
  ·rw [h] at e;cases e
  ·rw [h] at e;cases e;omega
 refine ⟨hX,fun k y=>hown.other (fun g e=>hne hown g e) _,fun k y=>⟨hg.os,hg.tape,hg.output,by have:=hg.size;simp [World.setCell];omega,fun b hb hnt=>?_⟩,fun a2 c2 l2 h3 hd k y=>(h3.kept hg (fun g e he=>hd g ((hgb g he).2) e)).other (fun g e=>hne h3 g e) _⟩
 exact (Below.heap_setCell _ _ _ _ (fun e=>hnt (.inl e))).trans (hg.block b hb (fun e=>hnt (.inr (hgb b e.symm).1)))
theorem app1Run {P:Program} {T E:TypeId} {k:IntKind} {bytes:Nat} (et:ElemTy P T E k bytes) {w:World} {base:Nat} {a:Option Addr} {cap:Nat} {l:List Nat} (y:Nat) {E':TypeId} (ty:TypeId) (hown:OwnN E k w base a cap l)
  (hn:l.length + 1 <= 9223372036854775807) (hbytes:(l.length + 1) * bytes <= 140737488355328) (hbase:base <= w.heap.size) :
  ∃ a' cap' w',OwnN E k w' base a' cap' (l ++ [y]) /\ w.grownBy w' (Value.slice a l.length cap).ownBlock /\ (∀ g,a' = some ⟨g,0,none⟩ -> a = some ⟨g,0,none⟩ \/ w.heap.size <= g) ∧
   ∀ (ac:Act) (o:Oper) (s x:Operand),o.op = .call { callee:=.builtin .append,args:=#[s,x],argTypes:=#[T,T] } -> o.type = ty -> ac.eval s = .slice a l.length cap -> ac.eval x = .slice (some ⟨w.heap.size,0,none⟩) 1 1 →
    (execOp ac.eval o).run P (w.alloc (.cells #[.int k y] E')) = .ok (.value (.slice a' (l.length + 1) cap')) w':=by
 obtain ⟨i,h2,h3,h4,h5⟩:=info_parts et.info
 have hy:RowN k (w.alloc (.cells #[.int k y] E')) (some ⟨w.heap.size,0,none⟩) 1 [y]:=by
  refine ⟨by simp,⟨by decide,fun hn=>by cases hn⟩,.inr ⟨w.heap.size,0,rfl,by simp,fun i hi=>?_⟩⟩
  obtain rfl:i = 0:=by simp at hi;omega
  simp [World.cell?_alloc_at]
 obtain ⟨v',w',hr,h6,h7,h8,h9⟩:=run_append_own_at (P:=P) (w.alloc (.cells #[.int k y] E')) base T ty E i (.int k 0) 1 bytes et.und h2 h3 h4 h5 rfl (by decide) _ l.length _ (hown.alloc (.cells #[.int k y] E')) ⟨w.heap.size,0,none⟩ 1 1 ([y].map fun (n:Nat)=>Value.int k n) (by simp)
  (Zbr hy _ rfl) (by intro u hu;simp only [List.mem_map] at hu;obtain ⟨n,_,rfl⟩:=hu;rfl) (by simpa [maxLen] using hn) hbytes (by simp;omega)
 have hv:∃ a' cap',v' = .slice a' (l.length + 1) cap':=by
  rcases h6.2 with ⟨h9,h10⟩ | ⟨g,c',cur,h9,_⟩
  ·exact ⟨none,0,by rw [h9,h10]⟩
  ·exact ⟨_,_,h9⟩
 obtain ⟨a',cap',rfl⟩:=hv
 have hown':OwnN E k w' base a' cap' (l ++ [y]):=by
  unfold OwnN;rw [List.length_append,List.map_append];exact h6
 refine ⟨a',cap',w',hown',⟨h7.os,h7.tape,h7.output,Nat.le_trans (by simp) h7.size,fun q hq hr=>(h7.block q (by simp;omega) hr).trans (Below.heap_alloc _ _ _ hq)⟩,?_,fun ac o s x ho hty hs hx=>?_⟩
 ·rintro g rfl
  rcases h9 with h9 | h9
  ·left
   rcases hown.form with ⟨rfl,_,_⟩ | ⟨g',rfl,_⟩
   ·simp [Value.ownBlock] at h9
   ·simp [Value.ownBlock] at h9
    rw [h9]
  ·right
   simp [Value.ownBlock] at h9
   omega
 ·subst hty
  simp [execOp,ho,resolve,invoke,builtin,hs,hx,hr,Result.andThen]
theorem ldInts (p:Addr) (v:Value) (w:World) (h:w.cell? p = some v):(Instr.loadAt 88 (.pointer (some p))).run Tryz.prog w = .ok v w:=by
 simp [Instr.loadAt,Instr.sureAddr,loadVar,isAgg,run_underlying Tryz.underlying88,h,go_sem]
theorem stInts (p:Addr) (a:Option Addr) (n c:Nat) (u:Value) (w:World) (h:w.cell? p = some u) (hf:w.frozen? p = false):(Instr.storeAt 88 (.pointer (some p)) (.slice a n c)).run Tryz.prog w = .ok () (w.setCell p (.slice a n c)):=by
 have hsz:(Tryz.prog.info? 88).map (·.size) = some 1:=by kernel_rfl
 cases h5:Tryz.prog.info? 88 with
 | none=>rw [h5] at hsz;cases hsz
 | some ie =>
  have hs:ie.size = 1:=by simpa [h5] using hsz
  simp [Instr.storeAt,Instr.sureAddr,storeVar,sizeOf,typeInfo,h5,hs,Value.cells,storeCells,h,hf,go_sem]
def Ph3 (W0 W1 W2 W3:World):Bool -> Bool -> Bool -> World
 | _,_,true=>W3
 | _,true,false=>W2
 | true,false,false=>W1
 | false,false,false=>W0
theorem Ph3.cell {W0 W1 W2 W3 w:World} {b:Bool} {p:Addr} {v:Value} (h:w = Ph3 W0 W1 W2 W3 b false false) (h0:W0.cell? p = some v) (h1:W1.cell? p = some v):w.cell? p = some v:=by
 subst h
 cases b
 ·exact h0
 ·exact h1
set_option maxRecDepth 100000 in
theorem Zmq (w:World) (q base:Nat) (r:List M05.Item) (x y:Nat) (hR:RowW w q base r) (hq:q < base) (hbs:base <= w.heap.size) (hy:y <= 1) (hl:r.length <= 2000) (hs:symN r r.length <= 2000) :
  Calls Tryz.prog 121 #[.pointer (some ⟨q,0,none⟩),.int .i64 (x:Nat),.int .i64 (y:Nat)] w fun e w'=>e = .returned (.tuple #[]) /\ RowW w' q base (r ++ [(x,y)]) /\ Only (fun b=>b = q \/ base <= b) w w':=by
 obtain ⟨a,c,a2,c2,h1,h2,h3,h4⟩:=hR
 obtain ⟨k0,k1,k2,k3⟩:=Zae h1
 have hwl:=Zes r
 have hpl:=Zow r
 have H1:=Zh h1
 have H2:=Zh h2
 have H3:=Zh h3
 have H4:=Zh h4
 clear h1 h2 h3 h4
 go_enter Tryz.func121,Tryz.ntmps121
 go_wp2_with (first | (at_builtin;refine app1AtN Zfc rfl (.tmp 10) (.tmp 12) rfl (base:=base) (y:=x) (show Value.slice a r.length c = .slice a (wts r).length c from by rw [Zes]) H2.out rfl (Nat.le_refl _) (by decide) (by omega) (by omega) hbs ?_;rw [hwl];intro a7 c7 w7 hown7 hg7 hat7;have HP:=Zh (Zoz H1.out H2.out hq hwl hown7 hg7);obtain ⟨v0,v1,v2,v3⟩:=Zae HP.out.1))
 have HX:=Zh (show ({ w7.setCell ⟨q,0,none⟩ (.slice a7 (r.length + 1) c7) with drawn:=(w7.setCell ⟨q,0,none⟩ (.slice a7 (r.length + 1) c7)).drawn + 1 }:World) = (w7.setCell ⟨q,0,none⟩ (.slice a7 (r.length + 1) c7)).drew from rfl)
 obtain ⟨W0,hW0⟩:∃ W0,W0 = (w7.setCell ⟨q,0,none⟩ (.slice a7 (r.length + 1) c7)).drew:=⟨_,rfl⟩
 have HW0:Hid ((w7.setCell ⟨q,0,none⟩ (.slice a7 (r.length + 1) c7)).drew = W0):=hW0.symm
 have hc0:W0.heap[q]? = some (.cells #[.slice a7 (r.length + 1) c7,.slice a2 r.length c2] 144 (0,0)):=by rw [hW0];exact (Zaq (w:=w7) HP.out.1).1
 have ho0:OwnN 3 .i64 W0 base a2 c2 (prefS r):=by rw [hW0];exact (HP.out.2.2.2 a2 c2 (prefS r) H3.out H4.out 0 _).drew
 have ho1:OwnN 3 .i64 W0 base a7 c7 (wts r ++ [x]):=by rw [hW0];exact (HP.out.2.1 0 _).drew
 have hon:Only (fun b=>b = q \/ base <= b) w W0:=by rw [hW0];have h:=HP.out.2.2.1 0 (.slice a7 (r.length + 1) c7);exact ⟨h.os,h.tape,h.output,h.size,h.block⟩
 obtain ⟨d0,d1,d2,d3⟩:=Zae hc0
 have HFI:=Zh (Zjo W0 q 0 a2 c2 r r.length d1 ho0.row (Nat.le_refl _) (by omega))
 obtain ⟨sn,hsn⟩:∃ sn,symN r r.length = sn:=⟨_,rfl⟩
 rw [hsn] at HFI hs
 obtain ⟨tt,htt⟩:∃ tt,sn + y = tt:=⟨_,rfl⟩
 have qtt:(sn:Int) + (y:Int) = (tt:Int):=by omega
 have qwr:IntKind.i64.wrap (tt:Int) = (tt:Int):=IntWalk.i64_in _ (by omega)
 have hbs0:base <= W0.heap.size:=Nat.le_trans hbs hon.size
 obtain ⟨a8,c8,W2,ho8,hg8,hat8,hrun⟩:=app1Run (E':=3) Zfc tt 88 ho0 (by rw [hpl];omega) (by rw [hpl];omega) hbs0
 obtain ⟨W1,hW1⟩:∃ W1,W1 = W0.alloc (.cells #[.int .i64 (tt:Nat)] 3):=⟨_,rfl⟩
 have HW1:Hid (W0.alloc (.cells #[.int .i64 (tt:Nat)] 3) = W1):=hW1.symm
 have hc1:W1.cell? ⟨q,1,none⟩ = some (.slice a2 r.length c2):=by rw [hW1];exact (World.cell?_of_block (a:=⟨q,1,none⟩) (Below.heap_alloc _ _ _ (Zqb d1))).trans d1
 rw [<- hW1] at hrun
 have HP2:=Zh (Zoz hc0 ho0 hq hpl ho8 (by rw [hpl] at hg8;exact hg8))
 obtain ⟨f0,f1,f2,f3⟩:=Zae HP2.out.1
 obtain ⟨W3,hW3⟩:∃ W3,W3 = W2.setCell ⟨q,1,none⟩ (.slice a8 (r.length + 1) c8):=⟨_,rfl⟩
 have HW3:Hid (W2.setCell ⟨q,1,none⟩ (.slice a8 (r.length + 1) c8) = W3):=hW3.symm
 have hlt2:∀ g,a2 = some ⟨g,0,none⟩ -> g < w.heap.size:=by
  intro g hg
  rcases H3.out.form with ⟨h,_⟩ | ⟨g',h,_,h5⟩
  ·rw [h] at hg;cases hg
  ·rw [h] at hg;cases hg;exact h5
 have hlt7:∀ g,a7 = some ⟨g,0,none⟩ -> g < W0.heap.size:=by
  intro g hg
  rcases ho1.form with ⟨h,_⟩ | ⟨g',h,_,h5⟩
  ·rw [h] at hg;cases hg
  ·rw [h] at hg;cases hg;exact h5
 have hd7:∀ g,a2 = some ⟨g,0,none⟩ -> a7 ≠ some ⟨g,0,none⟩:=by
  intro g hg h7
  rcases hat7 g h7 with h | h
  ·exact H4.out g h hg
  ·have:=hlt2 g hg;omega
 have HEND:Hid (RowW W3 q base (r ++ [(x,y)]) /\ Only (fun b=>b = q \/ base <= b) w W3):=by
  refine ⟨⟨a7,c7,a8,c8,?_,?_,?_,?_⟩,?_⟩
  ·rw [hW3,List.length_append]
   exact (Zaq HP2.out.1).2
  ·rw [Zaht,hW3]
   exact HP2.out.2.2.2 a7 c7 _ ho1 hd7 1 _
  ·rw [Zyv,hsn,htt,hW3]
   exact HP2.out.2.1 1 _
  ·intro g h7 h8
   rcases hat8 g h8 with h | h
   ·exact hd7 g h h7
   ·have:=hlt7 g h7;omega
  ·rw [hW3];exact hon.trans (HP2.out.2.2.1 1 _)
 rw [hpl] at hrun
 have HRUN:=Zh hrun
 have HC0:=Zh d1
 have HC1:=Zh hc1
 have HC2:=Zh f1
 have HC3:=Zh f3
 -- region begins
 refine Zao [16,17,18,19,20,21,22,23,24,25,26,27,28,29,30,31,32,33] (fun j=>false) (fun listed w1=>w1 = Ph3 W0 W1 W2 W3 (listed.getD 14 false) (listed.getD 15 false) (listed.getD 18 false)) (fun j v _=>match j with | 0=>v = .pointer (some ⟨q,0,none⟩) | 1=>v = .pointer (some ⟨q,0,none⟩) | 2=>v = .pointer (some ⟨q,0,none⟩) | 3=>v = .pointer (some ⟨q,1,none⟩) | 4=>v = .slice a2 r.length c2 | 5=>v = .pointer (some ⟨q,0,none⟩) | 6=>v = .pointer (some ⟨q,0,none⟩) | 7=>v = .pointer (some ⟨q,0,none⟩) | 8=>v = .pointer (some ⟨q,1,none⟩) | 9=>v = .slice a2 r.length c2 | 10=>v = .int .i64 (r.length:Nat) | 11=>v = .int .i64 (sn:Nat) | 12=>v = .int .i64 (y:Nat) | 13=>v = .int .i64 (tt:Nat) | 14=>v = .slice (some ⟨W0.heap.size,0,none⟩) 1 1 | 15=>v = .slice a8 (r.length + 1) c8 | 16=>v = .pointer (some ⟨q,0,none⟩) | 17=>v = .pointer (some ⟨q,1,none⟩) | _=>True) (fun _ _ _ _=>True) (by kernel_rfl) (by kernel_rfl) (OneEach.mk' (by kernel_rfl) (by kernel_rfl)) (by kernel_rfl) (by kernel_rfl) (by exact HW0.out) ?_ ?_
 ·intro i0 o hi0 listed a1 w1 hR hil hunf hdes hanc hout hdep
  have hsz:i0 < 19:=(Array.getElem?_eq_some_iff.1 hi0).1
  have hall:i0 = 0 \/ i0 = 1 \/ i0 = 2 \/ i0 = 3 \/ i0 = 4 \/ i0 = 5 \/ i0 = 6 \/ i0 = 7 \/ i0 = 8 \/ i0 = 9 \/ i0 = 10 \/ i0 = 11 \/ i0 = 12 \/ i0 = 13 \/ i0 = 14 \/ i0 = 15 \/ i0 = 16 \/ i0 = 17 \/ i0 = 18:=by omega
  clear hsz
  rcases hall with rfl | rfl | rfl | rfl | rfl | rfl | rfl | rfl | rfl | rfl | rfl | rfl | rfl | rfl | rfl | rfl | rfl | rfl | rfl <;> simp only [List.getElem?_toArray,List.getElem?_cons_zero,List.getElem?_cons_succ,Option.some.injEq] at hi0 <;> subst hi0
  ·have f0:a1.eval (.tmp 0) = .pointer (some ⟨q,0,none⟩):=hout 0 (by decide)
   refine Zab (v:=.pointer (some ⟨q,0,none⟩)) (w':=w1) (by simp [execOp,f0]) ⟨_,rfl,?_,fun j u hu hV _=>⟨hV,trivial,trivial⟩,rfl⟩
   rw [Zaa (by decide),Zaa (by decide),Zaa (by decide)];exact hR
  ·have f0:a1.eval (.tmp 0) = .pointer (some ⟨q,0,none⟩):=hout 0 (by decide)
   refine Zab (v:=.pointer (some ⟨q,0,none⟩)) (w':=w1) (by simp [execOp,f0]) ⟨_,rfl,?_,fun j u hu hV _=>⟨hV,trivial,trivial⟩,rfl⟩
   rw [Zaa (by decide),Zaa (by decide),Zaa (by decide)];exact hR
  ·have e17:a1.eval (.tmp 17) = .pointer (some ⟨q,0,none⟩):=hdep ⟨1,.data⟩ (by simp) rfl _ rfl
   have x17:a1.tmps[17]?.getD undef = .pointer (some ⟨q,0,none⟩):=by simpa [Act.eval] using e17
   refine Zab (v:=.pointer (some ⟨q,0,none⟩)) (w':=w1) (by simp [execOp,x17,go_sem]) ⟨_,rfl,?_,fun j u hu hV _=>⟨hV,trivial,trivial⟩,rfl⟩
   rw [Zaa (by decide),Zaa (by decide),Zaa (by decide)];exact hR
  ·have e18:a1.eval (.tmp 18) = .pointer (some ⟨q,0,none⟩):=hdep ⟨2,.data⟩ (by simp) rfl _ rfl
   have x18:a1.tmps[18]?.getD undef = .pointer (some ⟨q,0,none⟩):=by simpa [Act.eval] using e18
   refine Zab (v:=.pointer (some ⟨q,1,none⟩)) (w':=w1) (by simp [execOp,x18,go_sem]) ⟨_,rfl,?_,fun j u hu hV _=>⟨hV,trivial,trivial⟩,rfl⟩
   rw [Zaa (by decide),Zaa (by decide),Zaa (by decide)];exact hR
  ·have e19:a1.eval (.tmp 19) = .pointer (some ⟨q,1,none⟩):=hdep ⟨3,.data⟩ (by simp) rfl _ rfl
   have x19:a1.tmps[19]?.getD undef = .pointer (some ⟨q,1,none⟩):=by simpa [Act.eval] using e19
   have hc:w1.cell? ⟨q,1,none⟩ = some (.slice a2 r.length c2):=Ph3.cell (by rw [hR,hdes 15 (by kernel_rfl),hdes 18 (by kernel_rfl)]) HC0.out HC1.out
   refine Zab (v:=.slice a2 r.length c2) (w':=w1) (by simp [execOp,e19,ldInts _ _ _ hc]) ⟨_,rfl,?_,fun j u hu hV _=>⟨hV,trivial,trivial⟩,rfl⟩
   rw [Zaa (by decide),Zaa (by decide),Zaa (by decide)];exact hR
  ·have f0:a1.eval (.tmp 0) = .pointer (some ⟨q,0,none⟩):=hout 0 (by decide)
   refine Zab (v:=.pointer (some ⟨q,0,none⟩)) (w':=w1) (by simp [execOp,f0]) ⟨_,rfl,?_,fun j u hu hV _=>⟨hV,trivial,trivial⟩,rfl⟩
   rw [Zaa (by decide),Zaa (by decide),Zaa (by decide)];exact hR
  ·have f0:a1.eval (.tmp 0) = .pointer (some ⟨q,0,none⟩):=hout 0 (by decide)
   refine Zab (v:=.pointer (some ⟨q,0,none⟩)) (w':=w1) (by simp [execOp,f0]) ⟨_,rfl,?_,fun j u hu hV _=>⟨hV,trivial,trivial⟩,rfl⟩
   rw [Zaa (by decide),Zaa (by decide),Zaa (by decide)];exact hR
  ·have e22:a1.eval (.tmp 22) = .pointer (some ⟨q,0,none⟩):=hdep ⟨6,.data⟩ (by simp) rfl _ rfl
   have x22:a1.tmps[22]?.getD undef = .pointer (some ⟨q,0,none⟩):=by simpa [Act.eval] using e22
   refine Zab (v:=.pointer (some ⟨q,0,none⟩)) (w':=w1) (by simp [execOp,x22,go_sem]) ⟨_,rfl,?_,fun j u hu hV _=>⟨hV,trivial,trivial⟩,rfl⟩
   rw [Zaa (by decide),Zaa (by decide),Zaa (by decide)];exact hR
  ·have e23:a1.eval (.tmp 23) = .pointer (some ⟨q,0,none⟩):=hdep ⟨7,.data⟩ (by simp) rfl _ rfl
   have x23:a1.tmps[23]?.getD undef = .pointer (some ⟨q,0,none⟩):=by simpa [Act.eval] using e23
   refine Zab (v:=.pointer (some ⟨q,1,none⟩)) (w':=w1) (by simp [execOp,x23,go_sem]) ⟨_,rfl,?_,fun j u hu hV _=>⟨hV,trivial,trivial⟩,rfl⟩
   rw [Zaa (by decide),Zaa (by decide),Zaa (by decide)];exact hR
  ·have e24:a1.eval (.tmp 24) = .pointer (some ⟨q,1,none⟩):=hdep ⟨8,.data⟩ (by simp) rfl _ rfl
   have x24:a1.tmps[24]?.getD undef = .pointer (some ⟨q,1,none⟩):=by simpa [Act.eval] using e24
   have hc:w1.cell? ⟨q,1,none⟩ = some (.slice a2 r.length c2):=Ph3.cell (by rw [hR,hdes 15 (by kernel_rfl),hdes 18 (by kernel_rfl)]) HC0.out HC1.out
   refine Zab (v:=.slice a2 r.length c2) (w':=w1) (by simp [execOp,e24,ldInts _ _ _ hc]) ⟨_,rfl,?_,fun j u hu hV _=>⟨hV,trivial,trivial⟩,rfl⟩
   rw [Zaa (by decide),Zaa (by decide),Zaa (by decide)];exact hR
  ·have e25:a1.eval (.tmp 25) = .slice a2 r.length c2:=hdep ⟨9,.data⟩ (by simp) rfl _ rfl
   have x25:a1.tmps[25]?.getD undef = .slice a2 r.length c2:=by simpa [Act.eval] using e25
   refine Zab (v:=.int .i64 (r.length:Nat)) (w':=w1) (by simp [execOp,x25,go_sem]) ⟨_,rfl,?_,fun j u hu hV _=>⟨hV,trivial,trivial⟩,rfl⟩
   rw [Zaa (by decide),Zaa (by decide),Zaa (by decide)];exact hR
  ·have e21:a1.eval (.tmp 21) = .pointer (some ⟨q,0,none⟩):=hdep ⟨5,.data⟩ (by simp) rfl _ rfl
   have x21:a1.tmps[21]?.getD undef = .pointer (some ⟨q,0,none⟩):=by simpa [Act.eval] using e21
   have e26:a1.eval (.tmp 26) = .int .i64 (r.length:Nat):=hdep ⟨10,.data⟩ (by simp) rfl _ rfl
   have x26:a1.tmps[26]?.getD undef = .int .i64 (r.length:Nat):=by simpa [Act.eval] using e26
   rw [hdes 14 (by kernel_rfl),hdes 15 (by kernel_rfl),hdes 18 (by kernel_rfl)] at hR
   obtain rfl:w1 = W0:=hR
   refine Zam (f:=86) (args:=#[.pointer (some ⟨q,0,none⟩),.int .i64 (r.length:Nat)]) (by simp [x21,x26,go_sem]) ((HFI.out).mono ?_)
   rintro e w9 ⟨rfl,rfl⟩
   refine ⟨_,rfl,_,rfl,?_,fun j u hu hV _=>⟨hV,trivial,trivial⟩,rfl⟩
   rw [Zaa (by decide),Zaa (by decide),Zaa (by decide),hdes 14 (by kernel_rfl),hdes 15 (by kernel_rfl),hdes 18 (by kernel_rfl)]
   rfl
  ·have f2:a1.eval (.tmp 2) = .int .i64 (y:Nat):=hout 2 (by decide)
   refine Zab (v:=.int .i64 (y:Nat)) (w':=w1) (by simp [execOp,f2]) ⟨_,rfl,?_,fun j u hu hV _=>⟨hV,trivial,trivial⟩,rfl⟩
   rw [Zaa (by decide),Zaa (by decide),Zaa (by decide)];exact hR
  ·have e27:a1.eval (.tmp 27) = .int .i64 (sn:Nat):=hdep ⟨11,.data⟩ (by simp) rfl _ rfl
   have e28:a1.eval (.tmp 28) = .int .i64 (y:Nat):=hdep ⟨12,.data⟩ (by simp) rfl _ rfl
   refine Zab (v:=.int .i64 (tt:Nat)) (w':=w1) (by simp [execOp,e27,e28,addI,qtt,qwr,eqgA]) ⟨_,rfl,?_,fun j u hu hV _=>⟨hV,trivial,trivial⟩,rfl⟩
   rw [Zaa (by decide),Zaa (by decide),Zaa (by decide)];exact hR
  ·have e29:a1.eval (.tmp 29) = .int .i64 (tt:Nat):=hdep ⟨13,.data⟩ (by simp) rfl _ rfl
   have x29:a1.tmps[29]?.getD undef = .int .i64 (tt:Nat):=by simpa [Act.eval] using e29
   rw [hunf,hdes 15 (by kernel_rfl),hdes 18 (by kernel_rfl)] at hR
   obtain rfl:w1 = W0:=hR
   refine Zab (v:=.slice (some ⟨w1.heap.size,0,none⟩) 1 1) (w':=W1) (by simp [execOp,x29,HW1.out,go_sem]) ⟨_,rfl,?_,fun j u hu hV _=>⟨hV,trivial,trivial⟩,rfl⟩
   rw [Zad hil,Zaa (by decide),Zaa (by decide),hdes 15 (by kernel_rfl),hdes 18 (by kernel_rfl)]
   rfl
  ·have e20:a1.eval (.tmp 20) = .slice a2 r.length c2:=hdep ⟨4,.data⟩ (by simp) rfl _ rfl
   have x20:a1.tmps[20]?.getD undef = .slice a2 r.length c2:=by simpa [Act.eval] using e20
   have e30:a1.eval (.tmp 30) = .slice (some ⟨W0.heap.size,0,none⟩) 1 1:=hdep ⟨14,.data⟩ (by simp) rfl _ rfl
   have x30:a1.tmps[30]?.getD undef = .slice (some ⟨W0.heap.size,0,none⟩) 1 1:=by simpa [Act.eval] using e30
   rw [hanc 14 (by kernel_rfl),hunf,hdes 18 (by kernel_rfl)] at hR
   obtain rfl:w1 = W1:=hR
   refine Zab (v:=.slice a8 (r.length + 1) c8) (w':=W2) (HRUN.out a1 _ (.tmp 20) (.tmp 30) rfl rfl e20 e30) ⟨_,rfl,?_,fun j u hu hV _=>⟨hV,trivial,trivial⟩,rfl⟩
   rw [Zad hil,Zaa (by decide),Zaa (by decide),hdes 18 (by kernel_rfl)]
   rfl
  ·have e16:a1.eval (.tmp 16) = .pointer (some ⟨q,0,none⟩):=hdep ⟨0,.data⟩ (by simp) rfl _ rfl
   have x16:a1.tmps[16]?.getD undef = .pointer (some ⟨q,0,none⟩):=by simpa [Act.eval] using e16
   refine Zab (v:=.pointer (some ⟨q,0,none⟩)) (w':=w1) (by simp [execOp,x16,go_sem]) ⟨_,rfl,?_,fun j u hu hV _=>⟨hV,trivial,trivial⟩,rfl⟩
   rw [Zaa (by decide),Zaa (by decide),Zaa (by decide)];exact hR
  ·have e32:a1.eval (.tmp 32) = .pointer (some ⟨q,0,none⟩):=hdep ⟨16,.data⟩ (by simp) rfl _ rfl
   have x32:a1.tmps[32]?.getD undef = .pointer (some ⟨q,0,none⟩):=by simpa [Act.eval] using e32
   refine Zab (v:=.pointer (some ⟨q,1,none⟩)) (w':=w1) (by simp [execOp,x32,go_sem]) ⟨_,rfl,?_,fun j u hu hV _=>⟨hV,trivial,trivial⟩,rfl⟩
   rw [Zaa (by decide),Zaa (by decide),Zaa (by decide)];exact hR
  ·have e33:a1.eval (.tmp 33) = .pointer (some ⟨q,1,none⟩):=hdep ⟨17,.data⟩ (by simp) rfl _ rfl
   have x33:a1.tmps[33]?.getD undef = .pointer (some ⟨q,1,none⟩):=by simpa [Act.eval] using e33
   have e31:a1.eval (.tmp 31) = .slice a8 (r.length + 1) c8:=hdep ⟨15,.data⟩ (by simp) rfl _ rfl
   have x31:a1.tmps[31]?.getD undef = .slice a8 (r.length + 1) c8:=by simpa [Act.eval] using e31
   rw [hanc 14 (by kernel_rfl),hanc 15 (by kernel_rfl),hunf] at hR
   obtain rfl:w1 = W2:=hR
   refine Zan (w':=W3) (by simp [execOp,e33,e31,stInts _ _ _ _ _ w1 HC2.out HC3.out,HW3.out]) ⟨undef,rfl,?_,fun j u hu hV _=>⟨hV,trivial,trivial⟩,trivial⟩
   rw [Zad hil,Zaa (by decide),Zaa (by decide),hanc 14 (by kernel_rfl),hanc 15 (by kernel_rfl)]
   rfl
 ·intro listed fv w1 hR hall hV
  rw [hall 14 (by decide),hall 15 (by decide),hall 18 (by decide)] at hR
  obtain rfl:w1 = W3:=hR
  go_end0
  have h3:=HEND.out
  first | exact ⟨rfl,h3⟩ | (rw [HW3.out];exact ⟨rfl,h3⟩)
 -- region ends
theorem RowW.drewN {w:World} {q base:Nat} {r:List M05.Item} (h:RowW w q base r) (n:Nat):RowW (w.drewN n) q base r:=h
theorem RowW.nil (w:World) (q base:Nat) (h:w.heap[q]? = some (.cells #[.slice none 0 0,.slice none 0 0] 144 (0,0))):RowW w q base [] :=
 ⟨none,0,none,0,h,OwnN.nil _ _ _ _,OwnN.nil _ _ _ _,fun g h=>by cases h⟩
theorem Zaw {α:Type} (l:List α) (t:Nat) (h:t < l.length):l.take (t + 1) = l.take t ++ [l[t]]:=by
 rw [List.take_succ_eq_append_getElem h]
theorem Zaac (r:List M05.Item) (t:Nat):symN (r.take t) (r.take t).length = symN r t:=by
 unfold symN
 rw [List.take_of_length_le (Nat.le_refl _)]
def NxI (W0:World) (q base:Nat) (R:List M05.Item) (x y:Value) (A:World):Prop :=
 ∃ t,t <= R.length /\ x = .int .i64 (symN R t:Nat) /\ y = .int .i64 (2 * (t - symN R t):Nat) /\ RowW A q base (R.take t) /\ Only (fun b=>b = q \/ base <= b) W0 A
set_option maxRecDepth 100000 in
set_option maxHeartbeats 3200000 in
theorem Zkr (w:World) (sa la la2:Option Addr) (sc lc lm lc2:Nat) (sy last:List Nat) (h1:RowN .i64 w sa sc sy) (h2:RowN .i64 w la lc last) (hs:∀ x ∈ sy,x <= 288230376151711744) (hl:∀ x ∈ last,x <= 288230376151711744) (hsl:sy.length <= 600) (hll:last.length <= 1200) :
  Calls Tryz.prog 85 #[.slice sa sy.length sc,.agg #[.slice la last.length lc,.slice la2 lm lc2]] w fun e w'=>∃ a c a2 c2,e = .returned (.agg #[.slice a (nextR sy last).length c,.slice a2 (nextR sy last).length c2]) ∧
   OwnN 3 .i64 w' w.heap.size a c (wts (nextR sy last)) /\ OwnN 3 .i64 w' w.heap.size a2 c2 (prefS (nextR sy last)) /\ Below w.heap.size w w':=by
 obtain ⟨R,hR⟩:∃ R,nextR sy last = R:=⟨_,rfl⟩
 have HST:=Zh (Zbd sy last)
 have HIT:=Zh (Zds sy last)
 have HSY:=Zh (Zfn sy last)
 have hlen:=Zdi sy last
 rw [hR] at HST HIT HSY hlen
 rw [hR]
 clear hR
 have H1:=Zh h1
 have H2:=Zh h2
 have HS:=Zh hs
 have HL:=Zh hl
 clear h1 h2 hs hl
 go_enter Tryz.func85,Tryz.ntmps85
 go_wp2
 have hb0:=World.alloc_heap_new w (.cells #[.slice la last.length lc,.slice la2 lm lc2] 144)
 have hB:=((Zav w (.cells #[.slice la last.length lc,.slice la2 lm lc2] 144)).trans ((Zav (w.alloc (.cells #[.slice la last.length lc,.slice la2 lm lc2] 144)) (.cells #[.slice none 0 0,.slice none 0 0] 144)).mono (by simp))).trans ((Zav ((w.alloc (.cells #[.slice la last.length lc,.slice la2 lm lc2] 144)).alloc (.cells #[.slice none 0 0,.slice none 0 0] 144)) (.cells #[.slice none 0 0,.slice none 0 0] 144)).mono (by simp;omega))
 have hz:(((w.alloc (.cells #[.slice la last.length lc,.slice la2 lm lc2] 144)).alloc (.cells #[.slice none 0 0,.slice none 0 0] 144)).alloc (.cells #[.slice none 0 0,.slice none 0 0] 144)).heap.size = w.heap.size + 3:=by simp
 have hc0:(((w.alloc (.cells #[.slice la last.length lc,.slice la2 lm lc2] 144)).alloc (.cells #[.slice none 0 0,.slice none 0 0] 144)).alloc (.cells #[.slice none 0 0,.slice none 0 0] 144)).heap[w.heap.size]? = some (.cells #[.slice la last.length lc,.slice la2 lm lc2] 144 (0,0)) :=
  (Below.heap_alloc _ _ _ (by simp;omega)).trans ((Below.heap_alloc _ _ _ (by simp)).trans hb0)
 have hc1:(((w.alloc (.cells #[.slice la last.length lc,.slice la2 lm lc2] 144)).alloc (.cells #[.slice none 0 0,.slice none 0 0] 144)).alloc (.cells #[.slice none 0 0,.slice none 0 0] 144)).heap[w.heap.size + 1]? = some (.cells #[.slice none 0 0,.slice none 0 0] 144 (0,0)):=by
  have:=World.alloc_heap_new (w.alloc (.cells #[.slice la last.length lc,.slice la2 lm lc2] 144)) (.cells #[.slice none 0 0,.slice none 0 0] 144)
  rw [World.size_alloc] at this
  exact (Below.heap_alloc _ _ _ (by simp)).trans this
 have hc2:(((w.alloc (.cells #[.slice la last.length lc,.slice la2 lm lc2] 144)).alloc (.cells #[.slice none 0 0,.slice none 0 0] 144)).alloc (.cells #[.slice none 0 0,.slice none 0 0] 144)).heap[w.heap.size + 1 + 1]? = some (.cells #[.slice none 0 0,.slice none 0 0] 144 (0,0)):=by
  have:=World.alloc_heap_new ((w.alloc (.cells #[.slice la last.length lc,.slice la2 lm lc2] 144)).alloc (.cells #[.slice none 0 0,.slice none 0 0] 144)) (.cells #[.slice none 0 0,.slice none 0 0] 144)
  rw [World.size_alloc,World.size_alloc] at this
  exact this
 clear hb0
 generalize (((w.alloc (.cells #[.slice la last.length lc,.slice la2 lm lc2] 144)).alloc (.cells #[.slice none 0 0,.slice none 0 0] 144)).alloc (.cells #[.slice none 0 0,.slice none 0 0] 144)) = W0 at *
 have HB:=Zh hB
 have HC0:=Zh hc0
 have HC1:=Zh hc1
 have HC2:=Zh hc2
 clear hB hc0 hc1 hc2
 go_loopw [6,7,8,16,51] (fun x y _ _ _ A=>NxI W0 (w.heap.size + 1 + 1) (w.heap.size + 3) R x y A) (fun x y _ _ _ _=>2 * R.length + 2 - (2 * (intOf x).toNat + (intOf y).toNat))
 case atStart=>exact ⟨0,Nat.zero_le _,by rw [Zgg];rfl,by rw [Zgg];rfl,RowW.nil _ _ _ HC2.out,.refl _ _⟩
 case round =>
  obtain ⟨t,ht,rfl,rfl,hrw,hon⟩:=hrel
  obtain ⟨_,hst2,hst3,hst4⟩:=HST.out t ht
  have HRW:=Zh hrw
  have HON:=Zh hon
  have hszA:w.heap.size + 3 <= wr.heap.size:=by have:=hon.size;omega
  have hslow:Only (fun b=>¬ b < w.heap.size) w wr:=(Only.ofBelow HB.out).trans (hon.mono (fun k hk h=>by omega))
  have hbx:=Zck ((hon.block w.heap.size (by omega) (by omega)).trans HC0.out)
  obtain ⟨e0,e1⟩:=hbx
  have HSA:=Zh (H1.out.same hslow.size (fun x h0 hx=>hslow.block _ (by obtain ⟨b',off,he,hlt,_⟩:=H1.out.at h0;rw [hx] at he;cases he;exact hlt) (by obtain ⟨b',off,he,hlt,_⟩:=H1.out.at h0;rw [hx] at he;cases he;exact fun h=>h hlt)))
  have HLA:=Zh (H2.out.same hslow.size (fun x h0 hx=>hslow.block _ (by obtain ⟨b',off,he,hlt,_⟩:=H2.out.at h0;rw [hx] at he;cases he;exact hlt) (by obtain ⟨b',off,he,hlt,_⟩:=H2.out.at h0;rw [hx] at he;cases he;exact fun h=>h hlt)))
  have hsr:=Zaac R t
  have hsle:symN R t <= 2000:=by omega
  have hrl:(R.take t).length = t:=by rw [List.length_take];omega
  clear hrw hon hslow
  obtain ⟨S,hS⟩:∃ S,symN R t = S:=⟨_,rfl⟩
  obtain ⟨p,hp⟩:∃ p,t - S = p:=⟨_,rfl⟩
  have HI:=Zh (HIT.out t)
  rw [hS] at hst2 hst3 hst4 hsle hsr HI
  rw [hp] at hst4 HI
  simp only [hS,hp]
  obtain ⟨k,hk⟩:∃ k,2 * p = k:=⟨_,rfl⟩
  obtain ⟨k1,hk1⟩:∃ k1,k + 1 = k1:=⟨_,rfl⟩
  have qk1:(k:Int) + 1 = (k1:Int):=by omega
  have hk3:k <= 1200:=by omega
  have hS3:S <= 600:=by omega
  by_cases c1:S < sy.length
  ·skip
   obtain ⟨sb,so,hse,hsb,hsc⟩:=HSA.out.at c1
   have hxb:=HS.out _ (List.getElem_mem c1)
   have HX:=Zh (show sy.getD S 0 = sy[S] from by rw [List.getD_eq_getElem?_getD,List.getElem?_eq_getElem c1];rfl)
   generalize sy[S] = x at *
   subst hse
   have qs:(S:Int) < (sy.length:Int):=by omega
   have b2:decide (S < sy.length) = true:=by simp;omega
   by_cases c2:k1 < last.length
   ·skip
    obtain ⟨lb,lo,hle,hlb,hc3⟩:=HLA.out.at (show k < last.length by omega)
    obtain ⟨lb',lo',hle',_,hc4⟩:=HLA.out.at c2
    have hub:=HL.out _ (List.getElem_mem (show k < last.length by omega))
    have hvb:=HL.out _ (List.getElem_mem c2)
    have PK:=Zh (show pkg last p = last[k]'(by omega) + last[k1] from by
     unfold pkg
     subst hk
     subst hk1
     rw [List.getD_eq_getElem?_getD,List.getD_eq_getElem?_getD,List.getElem?_eq_getElem c2,List.getElem?_eq_getElem (show 2 * p < last.length by omega)];rfl)
    generalize last[k]'(by omega) = u at *
    generalize last[k1] = v at *
    have quv:(u:Int) + (v:Int) = ((u + v:Nat):Int):=by omega
    obtain ⟨uv,huv⟩:∃ uv,u + v = uv:=⟨_,rfl⟩
    rw [huv] at quv PK
    have huvb:uv <= 576460752303423488:=by omega
    subst hle
    simp only [Option.some.injEq,Addr.mk.injEq,and_true] at hle'
    obtain ⟨rfl,rfl⟩:=hle'
    have qk:(k:Int) < (last.length:Int):=by omega
    have qk2:(k1:Int) < (last.length:Int):=by omega
    have b1:decide (k1 < last.length) = true:=by simp;omega
    by_cases c3:x <= uv
    ·have b3:decide (x <= uv) = true:=by simp;omega
     have htl:t < R.length:=by omega
     have HTK:=Zh (Zaw R t htl)
     have HSN:=Zh (Zcj R t htl)
     have hR1:R[t] = (x,1):=by
      rcases HI.out htl with ⟨h,_⟩ | ⟨_,h,h'⟩
      ·rw [h,HX.out]
      ·exfalso
       have:=h' c1
       rw [HX.out] at this
       have h3:=PK.out;omega
     rw [hR1] at HTK HSN
     rw [hS] at HSN
     have HY:=Zh (show 2 * (t + 1 - symN R (t + 1)) = k from by rw [HSN.out];show 2 * (t + 1 - (S + 1)) = k;omega)
     have HZ:=Zh (show symN R (t + 1) = S + 1 from HSN.out)
     have hmm:2 * S + k + 2 <= 2 * R.length + 1:=by omega
     rw [hk]
     clear HI hR1 HSN c1 c2 hk hk1 hp hS hst2 PK huv c3
     go_wp2
     go_quiet (fail)
     go_wp2_with (go_at_call 121;refine (Zmq (wr.drewN nq) (w.heap.size + 1 + 1) (w.heap.size + 3) (R.take t) x 1 (show RowW (wr.drewN nq) _ _ _ from HRW.out) (by omega) hszA (by decide) (by omega) (by rw [hsr];omega)).mono ?_;rintro e w9 ⟨rfl,hrw9,hon9⟩;have HRW9:=Zh hrw9;have HON9:=Zh (HON.out.trans (Only.trans (show Only _ wr (wr.drewN nq) from ⟨rfl,rfl,rfl,Nat.le_refl _,fun _ _ _=>rfl⟩) hon9));clear hrw9 hon9)
     go_roundw
     case rel=>exact ⟨t + 1,by omega,by rw [HZ.out];go_num,by rw [HY.out],by rw [HTK.out];exact HRW9.out,HON9.out⟩
     case measure=>simp [intOf];omega
    ·have b3:decide (x <= uv) = false:=by simp;omega
     have htl:t < R.length:=by omega
     have HTK:=Zh (Zaw R t htl)
     have HSN:=Zh (Zcj R t htl)
     have hR1:R[t] = (uv,0):=by
      rcases HI.out htl with ⟨_,h,h'⟩ | ⟨h,_⟩
      ·exfalso
       have h3:=h' (by omega);rw [HX.out,PK.out] at h3;omega
      ·rw [h,PK.out]
     rw [hR1] at HTK HSN
     rw [hS] at HSN
     have HY:=Zh (show 2 * (t + 1 - symN R (t + 1)) = k + 2 from by rw [HSN.out];show 2 * (t + 1 - (S + 0)) = k + 2;omega)
     have HZ:=Zh (show symN R (t + 1) = S from HSN.out)
     have hmm:2 * S + k + 2 <= 2 * R.length + 1:=by omega
     rw [hk]
     clear HI hR1 HSN huv c1 c2 hk hk1 hp hS hst2 c3
     go_wp2
     go_quiet (fail)
     go_wp2_with fail
     have e0':(wr.drewN nq).cell? ⟨w.heap.size,0,none⟩ = _:=e0
     have hc3':(wr.drewN nq).cell? _ = _:=hc3
     have hc4':(wr.drewN nq).cell? _ = _:=hc4
     have HRW':Hid (RowW (wr.drewN nq) (w.heap.size + 1 + 1) (w.heap.size + 3) (R.take t)):=HRW
     have HON':=Zh (HON.out.trans (show Only _ wr (wr.drewN nq) from ⟨rfl,rfl,rfl,Nat.le_refl _,fun _ _ _=>rfl⟩))
     have hsz':w.heap.size + 3 <= (wr.drewN nq).heap.size:=hszA
     have qw1:IntKind.i64.wrap (k1:Int) = (k1:Int):=IntWalk.i64_in _ (by omega)
     have qw2:IntKind.i64.wrap (uv:Int) = (uv:Int):=IntWalk.i64_in _ (by omega)
     generalize wr.drewN nq = wq at *
     go_still_tail 12,(by kernel_rfl)
     go_wp2_with (go_at_call 121;refine (Zmq (wq.drew) (w.heap.size + 1 + 1) (w.heap.size + 3) (R.take t) uv 0 (show RowW (wq.drew) _ _ _ from HRW'.out) (by omega) hsz' (by decide) (by omega) (by rw [hsr];omega)).mono ?_;rintro e w9 ⟨rfl,hrw9,hon9⟩;have HRW9:=Zh hrw9;have HON9:=Zh (HON'.out.trans (Only.trans (show Only _ wq (wq.drew) from ⟨rfl,rfl,rfl,Nat.le_refl _,fun _ _ _=>rfl⟩) hon9));clear hrw9 hon9)
     go_roundw
     case rel=>exact ⟨t + 1,by omega,by rw [HZ.out],by rw [HY.out];go_num,by rw [HTK.out];exact HRW9.out,HON9.out⟩
     case measure=>simp [intOf];omega
   ·have b1:decide (k1 < last.length) = false:=by simp;omega
    have htl:t < R.length:=by omega
    have HTK:=Zh (Zaw R t htl)
    have HSN:=Zh (Zcj R t htl)
    have hR1:R[t] = (x,1):=by
     rcases HI.out htl with ⟨h,_⟩ | ⟨_,h,h'⟩
     ·rw [h,HX.out]
     ·exfalso
      have:=h' c1
      rw [HX.out] at this
      omega
    rw [hR1] at HTK HSN
    rw [hS] at HSN
    have HY:=Zh (show 2 * (t + 1 - symN R (t + 1)) = k from by rw [HSN.out];show 2 * (t + 1 - (S + 1)) = k;omega)
    have HZ:=Zh (show symN R (t + 1) = S + 1 from HSN.out)
    have hmm:2 * S + k + 2 <= 2 * R.length + 1:=by omega
    rw [hk]
    clear HI hR1 HSN c1 c2 hk hk1 hp hS hst2
    go_wp2
    go_quiet (fail)
    go_wp2_with (go_at_call 121;refine (Zmq (wr.drewN nq) (w.heap.size + 1 + 1) (w.heap.size + 3) (R.take t) x 1 (show RowW (wr.drewN nq) _ _ _ from HRW.out) (by omega) hszA (by decide) (by omega) (by rw [hsr];omega)).mono ?_;rintro e w9 ⟨rfl,hrw9,hon9⟩;have HRW9:=Zh hrw9;have HON9:=Zh (HON.out.trans (Only.trans (show Only _ wr (wr.drewN nq) from ⟨rfl,rfl,rfl,Nat.le_refl _,fun _ _ _=>rfl⟩) hon9));clear hrw9 hon9)
    go_roundw
    case rel=>exact ⟨t + 1,by omega,by rw [HZ.out];go_num,by rw [HY.out],by rw [HTK.out];exact HRW9.out,HON9.out⟩
    case measure=>simp [intOf];omega
  ·have b2:decide (S < sy.length) = false:=by simp;omega
   by_cases c2:k1 < last.length
   ·skip
    obtain ⟨lb,lo,hle,hlb,hc3⟩:=HLA.out.at (show k < last.length by omega)
    obtain ⟨lb',lo',hle',_,hc4⟩:=HLA.out.at c2
    have hub:=HL.out _ (List.getElem_mem (show k < last.length by omega))
    have hvb:=HL.out _ (List.getElem_mem c2)
    have PK:=Zh (show pkg last p = last[k]'(by omega) + last[k1] from by
     unfold pkg
     subst hk
     subst hk1
     rw [List.getD_eq_getElem?_getD,List.getD_eq_getElem?_getD,List.getElem?_eq_getElem c2,List.getElem?_eq_getElem (show 2 * p < last.length by omega)];rfl)
    generalize last[k]'(by omega) = u at *
    generalize last[k1] = v at *
    have quv:(u:Int) + (v:Int) = ((u + v:Nat):Int):=by omega
    obtain ⟨uv,huv⟩:∃ uv,u + v = uv:=⟨_,rfl⟩
    rw [huv] at quv PK
    have huvb:uv <= 576460752303423488:=by omega
    subst hle
    simp only [Option.some.injEq,Addr.mk.injEq,and_true] at hle'
    obtain ⟨rfl,rfl⟩:=hle'
    have qk:(k:Int) < (last.length:Int):=by omega
    have qk2:(k1:Int) < (last.length:Int):=by omega
    have b1:decide (k1 < last.length) = true:=by simp;omega
    have htl:t < R.length:=by omega
    have HTK:=Zh (Zaw R t htl)
    have HSN:=Zh (Zcj R t htl)
    have hR1:R[t] = (uv,0):=by
     rcases HI.out htl with ⟨_,h,h'⟩ | ⟨h,_⟩
     ·exfalso
      omega
     ·rw [h,PK.out]
    rw [hR1] at HTK HSN
    rw [hS] at HSN
    have HY:=Zh (show 2 * (t + 1 - symN R (t + 1)) = k + 2 from by rw [HSN.out];show 2 * (t + 1 - (S + 0)) = k + 2;omega)
    have HZ:=Zh (show symN R (t + 1) = S from HSN.out)
    have hmm:2 * S + k + 2 <= 2 * R.length + 1:=by omega
    rw [hk]
    clear HI hR1 HSN huv c1 c2 hk hk1 hp hS hst2
    go_wp2
    go_quiet (fail)
    go_wp2_with fail
    have e0':(wr.drewN nq).cell? ⟨w.heap.size,0,none⟩ = _:=e0
    have hc3':(wr.drewN nq).cell? _ = _:=hc3
    have hc4':(wr.drewN nq).cell? _ = _:=hc4
    have HRW':Hid (RowW (wr.drewN nq) (w.heap.size + 1 + 1) (w.heap.size + 3) (R.take t)):=HRW
    have HON':=Zh (HON.out.trans (show Only _ wr (wr.drewN nq) from ⟨rfl,rfl,rfl,Nat.le_refl _,fun _ _ _=>rfl⟩))
    have hsz':w.heap.size + 3 <= (wr.drewN nq).heap.size:=hszA
    have qw1:IntKind.i64.wrap (k1:Int) = (k1:Int):=IntWalk.i64_in _ (by omega)
    have qw2:IntKind.i64.wrap (uv:Int) = (uv:Int):=IntWalk.i64_in _ (by omega)
    generalize wr.drewN nq = wq at *
    go_still_tail 12,(by kernel_rfl)
    go_wp2_with (go_at_call 121;refine (Zmq (wq.drew) (w.heap.size + 1 + 1) (w.heap.size + 3) (R.take t) uv 0 (show RowW (wq.drew) _ _ _ from HRW'.out) (by omega) hsz' (by decide) (by omega) (by rw [hsr];omega)).mono ?_;rintro e w9 ⟨rfl,hrw9,hon9⟩;have HRW9:=Zh hrw9;have HON9:=Zh (HON'.out.trans (Only.trans (show Only _ wq (wq.drew) from ⟨rfl,rfl,rfl,Nat.le_refl _,fun _ _ _=>rfl⟩) hon9));clear hrw9 hon9)
    go_roundw
    case rel=>exact ⟨t + 1,by omega,by rw [HZ.out],by rw [HY.out];go_num,by rw [HTK.out];exact HRW9.out,HON9.out⟩
    case measure=>simp [intOf];omega
   ·have b1:decide (k1 < last.length) = false:=by simp;omega
    have hRR:t = R.length:=by omega
    obtain ⟨a,c,a2,c2',g1,g2,g3,g4⟩:=HRW.out
    rw [hrl] at g1
    rw [hRR,List.take_of_length_le (Nat.le_refl _)] at g2 g3
    rw [hRR] at g1
    obtain ⟨d0,d1,d2,d3⟩:=Zae g1
    obtain ⟨r0,r1,r2,r3⟩:=Zae ((HON.out.block (w.heap.size + 1) (by omega) (by omega)).trans HC1.out)
    have HRS:=Zh ((HON.out.block (w.heap.size + 1) (by omega) (by omega)).trans HC1.out)
    have G2:=Zh g2
    have G3:=Zh g3
    rw [hk]
    clear HI c1 c2 hk hk1 g1 g2 g3 g4
    go_wp2
    go_quiet (fail)
    go_wp2
    have z1:=(Zaq (w:=wr.drewN nq) (x:=.slice a (sy.length + last.length / 2) c) HRS.out).1
    have z2:=(Zaq (x:=.slice a2 (sy.length + last.length / 2) c2') z1).2
    obtain ⟨y0,y1⟩:=Zck z2
    refine bodyPost_ret (v:=.agg #[.slice a (sy.length + last.length / 2) c,.slice a2 (sy.length + last.length / 2) c2']) (by simp [results,Tryz.results85,go_sem,y0,y1]) rfl ?_
    have hne:∀ {a':Option Addr} {m':Nat} {L':List Nat} {w':World},OwnN 3 .i64 w' (w.heap.size + 3) a' m' L' -> ∀ g,a' = some ⟨g,0,none⟩ -> w.heap.size + 1 ≠ g:=by
     intro a' m' L' w' ho g e
     rcases ho.form with ⟨h,_⟩ | ⟨g',h,hb,_⟩
     ·rw [h] at e;cases e
     ·rw [h] at e;cases e;omega
    have o2:OwnN 3 .i64 (wr.drewN nq) (w.heap.size + 3) a c (wts R):=G2.out
    have o3:OwnN 3 .i64 (wr.drewN nq) (w.heap.size + 3) a2 c2' (prefS R):=G3.out
    have bl:Below w.heap.size w (wr.drewN nq):=Below.only HB.out (show Only (fun b=>b = w.heap.size + 1 + 1 \/ w.heap.size + 3 <= b) W0 (wr.drewN nq) from HON.out.trans ⟨rfl,rfl,rfl,Nat.le_refl _,fun _ _ _=>rfl⟩) (Nat.le_refl _) (fun k h=>by omega)
    exact ⟨a,c,a2,c2',by rw [hlen],((o2.other (fun g e=>hne o2 g e) _).other (fun g e=>hne o2 g e) _).mono (by omega),((o3.other (fun g e=>hne o3 g e) _).other (fun g e=>hne o3 g e) _).mono (by omega),(bl.setCell (by show w.heap.size <= w.heap.size + 1;omega) _).setCell (by show w.heap.size <= w.heap.size + 1;omega) _⟩
end Go.Proofs.YtendielanacflaaGreat

namespace Go.Proofs.YtendielanacflaaGreat.M05
def lenUp (f:List Nat) (lim i s:Nat):Nat:=if f.getD s 0 = 0 then 0 else (if (rar f).length = 1 then 1 else 0) + ((List.range i).filter fun i'=>decide ((rar f).idxOf s < cnt (symW f) lim i')).length
def lenIn (f:List Nat) (lim i t s:Nat):Nat:=lenUp f lim i s + (if f.getD s 0 ≠ 0 /\ (rar f).idxOf s < t then 1 else 0)
def lenInL (f:List Nat) (lim i t:Nat):List Nat:=(List.range f.length).map (lenIn f lim i t)
theorem Zbz (f:List Nat) (lim i t:Nat):(lenInL f lim i t).length = f.length:=by simp [lenInL]
theorem Zgv (f:List Nat) (lim:Nat):lenInL f lim lim 0 = limL f lim:=by
 unfold lenInL limL
 refine List.map_congr_left (fun s _=>?_)
 unfold lenIn lenUp limS lenJ
 simp
theorem Zfj (f:List Nat) (lim i:Nat):lenInL f lim i (cnt (symW f) lim i) = lenInL f lim (i + 1) 0:=by
 unfold lenInL
 refine List.map_congr_left (fun s _=>?_)
 unfold lenIn lenUp
 rw [List.range_succ,List.filter_append,List.length_append]
 have hf:((List.filter (fun i'=>decide ((rar f).idxOf s < cnt (symW f) lim i')) [i]).length) = if (rar f).idxOf s < cnt (symW f) lim i then 1 else 0:=by
  by_cases h1:(rar f).idxOf s < cnt (symW f) lim i
  ·simp [h1]
  ·simp [h1]
 rw [hf,if_neg (show ¬ (f.getD s 0 ≠ 0 /\ (rar f).idxOf s < 0) from fun h=>by omega)]
 by_cases h0:f.getD s 0 = 0
 ·rw [if_pos h0,if_pos h0,if_neg (fun h=>h.1 h0)]
 ·rw [if_neg h0,if_neg h0]
  by_cases h1:(rar f).idxOf s < cnt (symW f) lim i
  ·rw [if_pos (show f.getD s 0 ≠ 0 /\ (rar f).idxOf s < cnt (symW f) lim i from ⟨h0,h1⟩),if_pos h1];omega
  ·rw [if_neg (show ¬ (f.getD s 0 ≠ 0 /\ (rar f).idxOf s < cnt (symW f) lim i) from fun h=>h1 h.2),if_neg h1];omega
theorem Zjd (f:List Nat) (lim i t:Nat) (ht:t < (rar f).length):lenInL f lim i (t + 1) = (lenInL f lim i t).set (rar f)[t] ((lenInL f lim i t).getD (rar f)[t] 0 + 1):=by
 have hm:=(Zcb f _).1 (List.getElem_mem ht)
 have hidx:(rar f).idxOf (rar f)[t] = t:=(Zpa f).idxOf_getElem t ht
 apply List.ext_getElem
 ·simp [lenInL]
 ·intro s h1 h2
  rw [Zbz] at h1
  have hg:∀ t' (h:s < (lenInL f lim i t').length),(lenInL f lim i t')[s] = lenIn f lim i t' s:=by intro t' h;simp [lenInL]
  rw [hg]
  by_cases hs:s = (rar f)[t]
  ·have hgd:(lenInL f lim i t).getD (rar f)[t] 0 = lenIn f lim i t (rar f)[t]:=by
    rw [List.getD_eq_getElem?_getD,List.getElem?_eq_getElem (by rw [Zbz];exact hm.1)]
    simp [lenInL]
   rw [List.getElem_set,if_pos hs.symm,hgd,hs]
   unfold lenIn
   rw [hidx,if_pos ⟨by omega,by omega⟩,if_neg (fun h=>by omega)]
  ·rw [List.getElem_set,if_neg (fun e=>hs e.symm),hg]
   unfold lenIn
   by_cases h0:f.getD s 0 = 0
   ·rw [if_neg (fun h=>h.1 h0),if_neg (fun h=>h.1 h0)]
   ·have hne:(rar f).idxOf s ≠ t:=by
     intro e
     have hmem:s ∈ rar f:=(Zcb f s).2 ⟨h1,by omega⟩
     have:=List.getElem_idxOf (List.idxOf_lt_length_of_mem hmem)
     apply hs
     rw [<- this]
     simp [e]
    by_cases h3:(rar f).idxOf s < t
    ·rw [if_pos ⟨h0,by omega⟩,if_pos ⟨h0,h3⟩]
    ·rw [if_neg (fun h=>by omega),if_neg (fun h=>by omega)]
theorem Zrx (sy:List Nat) (lim:Nat) (h:sy.length = 1):∀ i,tkn sy lim i = 0:=by
 intro i
 induction i with
 | zero=>show 2 * sy.length - 2 = 0;omega
 | succ i ih=>show 2 * (tkn sy lim i - _) = 0;rw [ih];simp
theorem Zpu (sy:List Nat) (lim:Nat) (h1:1 <= sy.length) (hl:sy.length <= 2 ^ lim) (h0:1 <= lim) (i:Nat) (hi:i < lim):tkn sy lim i <= (rowS sy (lim - 1 - i)).length:=by
 by_cases h:sy.length = 1
 ·rw [Zrx sy lim h];exact Nat.zero_le _
 ·exact Zgi sy lim (by omega) hl h0 i hi
theorem Zwr (sy:List Nat) (lim:Nat) (h1:1 <= sy.length) (hl:sy.length <= 2 ^ lim) (h0:1 <= lim) (i:Nat) (hi:i < lim):cnt sy lim i <= sy.length:=by
 by_cases h:sy.length = 1
 ·have:=Zim sy lim i
  rw [Zrx sy lim h] at this;omega
 ·exact Zkk sy lim (by omega) hl h0 i hi
theorem Zact (f:List Nat) (lim i t s:Nat):lenIn f lim i t s <= i + 2:=by
 unfold lenIn lenUp
 have h1:((List.range i).filter fun i'=>decide ((rar f).idxOf s < cnt (symW f) lim i')).length <= i:=by
  refine Nat.le_trans (List.length_filter_le _ _) (by simp)
 split <;> split <;> (try split) <;> omega
theorem Zok (f:List Nat) (lim i t:Nat):∀ x ∈ lenInL f lim i t,x <= i + 2:=by
 intro x hx
 unfold lenInL at hx
 obtain ⟨s,_,rfl⟩:=List.mem_map.1 hx
 exact Zact f lim i t s
def len0 (f:List Nat):List Nat:=if (rar f).length = 1 then (List.replicate f.length 0).set ((rar f).getD 0 0) 1 else List.replicate f.length 0
theorem Zacs (f:List Nat):(len0 f).length = f.length:=by unfold len0;split <;> simp
theorem Zfk (f:List Nat) (lim:Nat):lenInL f lim 0 0 = len0 f:=by
 apply List.ext_getElem
 ·rw [Zbz,Zacs]
 ·intro s h1 h2
  rw [Zbz] at h1
  have hg:(lenInL f lim 0 0)[s]'(by rw [Zbz];exact h1) = lenIn f lim 0 0 s:=by simp [lenInL]
  rw [hg]
  unfold lenIn lenUp
  rw [if_neg (show ¬ (f.getD s 0 ≠ 0 /\ (rar f).idxOf s < 0) from fun h=>by omega)]
  simp only [List.range_zero,List.filter_nil,List.length_nil,Nat.add_zero]
  by_cases h:(rar f).length = 1
  ·have hl:len0 f = (List.replicate f.length 0).set ((rar f).getD 0 0) 1:=by unfold len0;rw [if_pos h]
   simp only [hl]
   rw [List.getElem_set,if_pos h]
   obtain ⟨s0,hs0⟩:=List.length_eq_one_iff.1 h
   have hm:=Zcb f s
   have hgd:(rar f).getD 0 0 = s0:=by rw [hs0];rfl
   rw [hs0,List.mem_singleton] at hm
   simp only [hgd]
   by_cases hz:f.getD s 0 = 0
   ·rw [if_pos hz,if_neg (fun e=>by have:=(hm.1 e.symm).2;omega),List.getElem_replicate]
   ·rw [if_neg hz,if_pos (hm.2 ⟨h1,by omega⟩).symm]
  ·have hl:len0 f = List.replicate f.length 0:=by unfold len0;rw [if_neg h]
   simp only [hl]
   rw [if_neg h,List.getElem_replicate];split <;> rfl
end Go.Proofs.YtendielanacflaaGreat.M05

namespace Go.Proofs.YtendielanacflaaGreat
open Go.RowKit Go.Shelf M04 M05
attribute [local go_sem] Oper.semAt_some
set_option maxRecDepth 100000 in
theorem Zagm (x:Nat) (w:World) (hx:x <= 1099511627776):Calls Tryz.prog 82 #[.int .i64 (x:Nat)] w fun e w'=>e = .returned (.bool false) /\ w' = w:=by
 have b1:decide ((x:Int) < 0) = false:=by simp
 have b2:decide (1099511627776 < x) = false:=by simp;omega
 have b3:decide ((1099511627776:Int) < (x:Int)) = false:=by simp;omega
 clear hx
 go_enter Tryz.func82,Tryz.ntmps82
 go_wp2
 go_ret
 trivial
set_option maxRecDepth 100000 in
theorem Zxv (a:Option Addr) (cap:Nat) (l:List Nat) (w:World) (hr:RowN .i64 w a cap l) (hx:∀ x ∈ l,x <= 1099511627776) :
  Calls Tryz.prog 93 #[.slice a l.length cap,.func (Fn.func 82) #[] #[]] w fun e w'=>e = .returned (.int .i64 (-1)) /\ w' = w:=by
 have hlen:=hr.len
 have HX:=Zh hx
 have HBD:=Zh (fun x (h:x ∈ l) w=>Zagm x w (HX.out x h))
 clear hx
 go_enter Tryz.func93,Tryz.ntmps93
 go_wp2_with fail
 go_loop [5,8] (fun _ i=>∃ k:Nat,k <= l.length /\ i = .int .i64 k) (fun _ i=>l.length - (intOf i).toNat)
 case atStart=>exact ⟨0,by omega,rfl⟩
 case round =>
  obtain ⟨k,hk,rfl⟩:=hrel
  by_cases hlt:k < l.length
  ·obtain ⟨b,off,rfl,hb,hck⟩:=hr.at hlt
   clear hr
   have HM:=Zh (fun w=>HBD.out _ (List.getElem_mem hlt) w)
   generalize l[k] = x at *
   go_wp2_with (go_at_call 82;refine (HM.out _).mono ?_;rintro e w' ⟨rfl,rfl⟩)
   go_round
   case rel=>exact ⟨k + 1,by omega,by go_num⟩
   case measure=>simp [intOf];omega
  ·have b1:decide (k < l.length) = false:=by simp;omega
   go_wp2
   go_ret
   trivial
set_option maxRecDepth 100000 in
theorem Zoj (a:Option Addr) (cap:Nat) (l:List Nat) (w:World) (hr:RowN .i64 w a cap l) (hx:∀ x ∈ l,x <= 1099511627776) :
  Calls Tryz.prog 83 #[.slice a l.length cap,.func (Fn.func 82) #[] #[]] w fun e w'=>e = .returned (.bool false) /\ w' = w:=by
 have HC:=Zh (Zxv a cap l w hr hx)
 clear hr hx
 go_enter Tryz.func83,Tryz.ntmps83
 go_wp2_with (go_at_call 93;refine HC.out.mono ?_;rintro e w' ⟨rfl,rfl⟩)
 go_ret
 trivial
end Go.Proofs.YtendielanacflaaGreat
namespace Go.Proofs.YtendielanacflaaGreat
open Go.RowKit Go.Shelf M04 M05
attribute [local go_sem] Oper.semAt_some
set_option maxRecDepth 100000 in
theorem Zagi (A:World) (fv:Value):Calls Tryz.prog 155 #[.slice none 0 0,.int .i64 0,.int .i64 0,fv] A fun e w'=>e = .returned (.tuple #[]) /\ w' = A:=by
 go_enter Tryz.func155,Tryz.ntmps155
 go_wp2
 go_loopw [8,9] (fun x _ A'=>x = .int .i64 1 /\ A' = A) (fun _ _ _=>0)
 case atStart=>exact ⟨rfl,rfl⟩
 case round =>
  obtain ⟨rfl,rfl⟩:=hrel
  go_wp2
  go_end0
  trivial
set_option maxRecDepth 100000 in
theorem Zvq (A:World) (fv:Value):Calls Tryz.prog 146 #[.slice none 0 0,.int .i64 0,fv] A fun e w'=>e = .returned (.tuple #[]) /\ w' = A:=by
 have HINS:=Zh (Zagi A fv)
 go_enter Tryz.func146,Tryz.ntmps146
 go_wp2
 go_loopw [7,8] (fun x y A'=>x = .int .i64 0 /\ y = .int .i64 20 /\ A' = A) (fun x y _=>0)
 case atStart=>exact ⟨rfl,rfl,rfl⟩
 case round =>
  obtain ⟨rfl,rfl,rfl⟩:=hrel
  go_wp2_with (go_at_call 155;refine HINS.out.mono ?_;rintro e w' ⟨rfl,rfl⟩)
  go_loopw [6,7,8,9] (fun x _ _ _ A'=>x = .int .i64 20 /\ A' = w') (fun _ _ _ _ _=>0)
  case atStart=>exact ⟨rfl,rfl⟩
  case round =>
   obtain ⟨rfl,rfl⟩:=hrel
   go_wp2
   go_end0
   trivial
set_option maxRecDepth 100000 in
theorem Zadw (A:World) (fv:Value):Calls Tryz.prog 118 #[.slice none 0 0,fv] A fun e w'=>e = .returned (.tuple #[]) /\ w' = A:=by
 have HST:=Zh (Zvq A fv)
 go_enter Tryz.func118,Tryz.ntmps118
 go_wp2_with (go_at_call 146;refine HST.out.mono ?_;rintro e w' ⟨rfl,rfl⟩)
 go_end0
 trivial
def usedT (f:List Nat) (k:Nat):List Nat:=(List.range k).filter fun s=>decide (0 < f.getD s 0)
theorem Zvz (f:List Nat) (k:Nat):usedT f (k + 1) = if 0 < f.getD k 0 then usedT f k ++ [k] else usedT f k:=by
 unfold usedT
 rw [List.range_succ,List.filter_append]
 by_cases h:0 < f.getD k 0
 ·rw [if_pos h]
  congr 1
  simp only [List.filter_cons,List.filter_nil]
  rw [if_pos (by simpa using h)]
 ·rw [if_neg h]
  have:List.filter (fun s=>decide (0 < f.getD s 0)) [k] = []:=by
   simp only [List.filter_cons,List.filter_nil]
   rw [if_neg (by simpa using h)]
  rw [this,List.append_nil]
theorem Zaar (f:List Nat):usedT f f.length = used f:=rfl
theorem Zaas (f:List Nat) (k:Nat):(usedT f k).length <= k:=by
 unfold usedT
 exact Nat.le_trans (List.length_filter_le _ _) (by simp)
end Go.Proofs.YtendielanacflaaGreat
namespace Go.Proofs.YtendielanacflaaGreat
open Go.RowKit Go.Shelf M04 M05
attribute [local go_sem] Oper.semAt_some
abbrev Row2:=(Option Addr × Nat × Nat) × (Option Addr × Nat × Nat)
def encRw:Enc Row2 where
 sz:=2
 cells x:=[.slice x.1.1 x.1.2.1 x.1.2.2,.slice x.2.1 x.2.2.1 x.2.2.2]
 len _:=rfl
 one x u hu:=by
  simp only [List.mem_cons,List.not_mem_nil,or_false] at hu
  rcases hu with rfl | rfl <;> rfl
 pos:=by decide
def row0:Row2:=((none,0,0),(none,0,0))
theorem Zacw (u v:Value) (n:Nat):(madeCells #[u,v] (n * 2)).toList = (List.replicate n ()).flatMap (fun _=>[u,v]):=by
 unfold madeCells
 rw [Array.toList_map,Array.toList_range]
 induction n with
 | zero=>rfl
 | succ n ih =>
  rw [show (n + 1) * 2 = n * 2 + 1 + 1 by omega,List.range_succ,List.range_succ,List.map_append,List.map_append,ih,List.replicate_succ',List.flatMap_append,List.append_assoc]
  congr 1
  have h1:n * 2 % 2 = 0:=by omega
  have h2:(n * 2 + 1) % 2 = 1:=by omega
  simp [h1,h2]
theorem Zxn (n:Nat):(List.replicate n ()).flatMap (fun _=>[Value.slice none 0 0,Value.slice none 0 0]) = flat encRw (List.replicate n row0):=by
 unfold flat
 induction n with
 | zero=>rfl
 | succ n ih=>rw [List.replicate_succ,List.replicate_succ,List.flatMap_cons,List.flatMap_cons,ih];rfl
theorem Ztj:ElemS Tryz.prog 142 144 encRw (.agg #[.slice none 0 0,.slice none 0 0]) 48:=⟨Tryz.underlying142,by kernel_rfl,by kernel_rfl⟩
theorem makeRw {P:Program} {T E:TypeId} {bytes:Nat} (et:ElemS P T E encRw (.agg #[.slice none 0 0,.slice none 0 0]) bytes) {w:World} {ops:Array Oper} {rest:List Oper} {o:Oper} {a:Act} {Q:Exit -> Act -> World -> Prop}
  (hg:o.guard = none) (lo c:Operand) (hop:o.op = Op.makeSlice T lo c) (base:Nat) {kl kc:IntKind} {n:Nat} (hl:a.eval lo = .int kl n) (hc:a.eval c = .int kc n)
  (hb:bytes * n <= 281474976710656) (hn:n <= 9223372036854775807) (hbase:base <= w.heap.size)
  (hK:∀ w',OwnS encRw E w' base (some ⟨w.heap.size,0,none⟩) n (List.replicate n row0) -> w.grownBy w' none -> wpList P ops Q rest (a.put o.dst (.slice (some ⟨w.heap.size,0,none⟩) n n)) w') :
  wpList P ops Q (o :: rest) a w:=by
 obtain ⟨i,h2,h3,h4,h5⟩:=info_parts et.info
 refine wpList_plain (by assumption) fun K hK'=>?_
 obtain ⟨w',hrun,r1,r2⟩:=run_make_full (P:=P) w base T E i (.agg #[.slice none 0 0,.slice none 0 0]) 2 et.und h2 h3 h4 kl kc n (by rw [h5];exact hb) (by simpa [maxLen] using hn) hbase
 unfold Oper.wp
 simp [execOp,hop,hl,hc,hrun,Result.andThen]
 refine hK' _ _ (hK w' ?_ r2)
 unfold OwnS
 have hm:(madeCells (Value.agg #[.slice none 0 0,.slice none 0 0]).cells (n * 2)).toList = flat encRw (List.replicate n row0):=by
  show (madeCells #[.slice none 0 0,.slice none 0 0] (n * 2)).toList = _
  rw [Zacw,Zxn]
 rw [List.length_replicate,<- hm]
 exact r1
theorem Zxo:∀ (l:List Row2) (i:Nat) (x:Row2),i < l.length -> flat encRw (l.set i x) = ((flat encRw l).set (2 * i) (.slice x.1.1 x.1.2.1 x.1.2.2)).set (2 * i + 1) (.slice x.2.1 x.2.2.1 x.2.2.2):=by
 intro l
 induction l with
 | nil=>intro i x h;simp at h
 | cons y l ih =>
  intro i x h
  have hy:flat encRw (y :: l) = .slice y.1.1 y.1.2.1 y.1.2.2 :: .slice y.2.1 y.2.2.1 y.2.2.2 :: flat encRw l:=rfl
  rw [hy]
  cases i with
  | zero=>rfl
  | succ i =>
   rw [List.set_cons_succ]
   show flat encRw (y :: l.set i x) = _
   have hy2:flat encRw (y :: l.set i x) = .slice y.1.1 y.1.2.1 y.1.2.2 :: .slice y.2.1 y.2.2.1 y.2.2.2 :: flat encRw (l.set i x):=rfl
   rw [hy2,ih i x (by simpa using h),show 2 * (i + 1) = 2 * i + 1 + 1 by omega,show 2 * i + 1 + 1 + 1 = (2 * i + 1) + 1 + 1 by omega]
   simp only [List.set_cons_succ]
theorem OwnS.storedRw {E:TypeId} {w:World} {base g cap:Nat} {l:List Row2} (h:OwnS encRw E w base (some ⟨g,0,none⟩) cap l) (i:Nat) (x:Row2) (hi:i < l.length) :
  OwnS encRw E ((w.setCell ⟨g,2 * i,none⟩ (.slice x.1.1 x.1.2.1 x.1.2.2)).setCell ⟨g,2 * i + 1,none⟩ (.slice x.2.1 x.2.2.1 x.2.2.2)) base (some ⟨g,0,none⟩) cap (l.set i x) ∧
   w.grownBy (w.setCell ⟨g,2 * i,none⟩ (.slice x.1.1 x.1.2.1 x.1.2.2)) (some g) /\ (w.setCell ⟨g,2 * i,none⟩ (.slice x.1.1 x.1.2.1 x.1.2.2)).grownBy ((w.setCell ⟨g,2 * i,none⟩ (.slice x.1.1 x.1.2.1 x.1.2.2)).setCell ⟨g,2 * i + 1,none⟩ (.slice x.2.1 x.2.2.1 x.2.2.2)) (some g):=by
 obtain ⟨h1,h2⟩:=World.ownsRow.stored h (2 * i) (.slice x.1.1 x.1.2.1 x.1.2.2)
 obtain ⟨h3,h4⟩:=World.ownsRow.stored h1 (2 * i + 1) (.slice x.2.1 x.2.2.1 x.2.2.2)
 refine ⟨?_,h2,h4⟩
 unfold OwnS
 rw [Zxo l i x hi,List.length_set]
 exact h3
theorem OwnS.atRw {E:TypeId} {w:World} {base g cap:Nat} {l:List Row2} (h:OwnS encRw E w base (some ⟨g,0,none⟩) cap l) {i:Nat} (hi:i < l.length) :
  w.cell? ⟨g,2 * i,none⟩ = some (.slice l[i].1.1 l[i].1.2.1 l[i].1.2.2) /\ w.cell? ⟨g,2 * i + 1,none⟩ = some (.slice l[i].2.1 l[i].2.2.1 l[i].2.2.2) /\ w.frozen? ⟨g,2 * i,none⟩ = false /\ w.frozen? ⟨g,2 * i + 1,none⟩ = false:=by
 have hget:∀ (l:List Row2) (i:Nat) (hi:i < l.length),(flat encRw l)[2 * i]? = some (.slice l[i].1.1 l[i].1.2.1 l[i].1.2.2) /\ (flat encRw l)[2 * i + 1]? = some (.slice l[i].2.1 l[i].2.2.1 l[i].2.2.2):=by
  intro l
  induction l with
  | nil=>intro i hi;simp at hi
  | cons y l ih =>
   intro i hi
   have hy:flat encRw (y :: l) = .slice y.1.1 y.1.2.1 y.1.2.2 :: .slice y.2.1 y.2.2.1 y.2.2.2 :: flat encRw l:=rfl
   rw [hy]
   cases i with
   | zero=>exact ⟨rfl,rfl⟩
   | succ i =>
    have:=ih i (by simpa using hi)
    rw [show 2 * (i + 1) = 2 * i + 1 + 1 by omega]
    simp only [List.getElem?_cons_succ,List.getElem_cons_succ]
    exact this
 have hl:(flat encRw l).length = l.length * 2:=Zbw l
 obtain ⟨g1,g2⟩:=hget l i hi
 have c1:=World.ownsRow.cellAt h (2 * i) (by show 2 * i < l.length * 2;omega)
 have c2:=World.ownsRow.cellAt h (2 * i + 1) (by show 2 * i + 1 < l.length * 2;omega)
 exact ⟨c1.trans g1,c2.trans g2,World.ownsRow.frozenAt h _,World.ownsRow.frozenAt h _⟩
theorem Zat {l:List Nat} {M:Nat} (h:∀ x ∈ l,x <= M) (i:Nat):l.getD i 0 <= M:=by
 by_cases hi:i < l.length
 ·rw [List.getD_eq_getElem?_getD,List.getElem?_eq_getElem hi];exact h _ (List.getElem_mem hi)
 ·rw [List.getD_eq_getElem?_getD,List.getElem?_eq_none (by omega)];exact Nat.zero_le _
theorem Zhm (sy last:List Nat) (M:Nat) (h1:∀ x ∈ sy,x <= 2 * M) (h2:∀ x ∈ last,x <= M):∀ y ∈ wts (nextR sy last),y <= 2 * M:=by
 intro y hy
 obtain ⟨t,ht,rfl⟩:=List.getElem_of_mem hy
 rw [Zes] at ht
 have he:(wts (nextR sy last))[t]'(by rw [Zes];exact ht) = ((nextR sy last)[t]).1:=by simp [wts]
 rw [he]
 rcases Zds sy last t ht with ⟨h,_⟩ | ⟨h,_⟩
 ·rw [h];exact Zat h1 _
 ·rw [h]
  show pkg last _ <= _
  unfold pkg
  have a:=Zat h2 (2 * (t - symN (nextR sy last) t))
  have b:=Zat h2 (2 * (t - symN (nextR sy last) t) + 1)
  omega
theorem Zjn (sy:List Nat) (M:Nat) (h:∀ x ∈ sy,x <= M):∀ k,∀ y ∈ wts (rowS sy k),y <= M * 2 ^ (k + 1):=by
 intro k
 induction k with
 | zero =>
  show ∀ y ∈ wts (nextR sy []),_
  have:=Zhm sy [] M (fun x hx=>by have:=h x hx;omega) (by simp)
  intro y hy
  have:=this y hy
  omega
 | succ k ih =>
  show ∀ y ∈ wts (nextR sy (wts (rowS sy k))),_
  have hp:M <= M * 2 ^ (k + 1):=Nat.le_mul_of_pos_right _ (Nat.pos_of_ne_zero (by simp))
  have:=Zhm sy (wts (rowS sy k)) (M * 2 ^ (k + 1)) (fun x hx=>by have:=h x hx;omega) ih
  intro y hy
  have:=this y hy
  rw [Nat.pow_succ]
  rw [<- Nat.mul_assoc]
  omega
theorem Zaaf (f:List Nat) (M:Nat) (h:∀ x ∈ f,x <= M):∀ x ∈ symW f,x <= M:=by
 intro x hx
 unfold symW at hx
 obtain ⟨s,_,rfl⟩:=List.mem_map.1 hx
 exact Zat h s
def RwAt (A:World) (lo:Nat) (x:Row2) (r:List M05.Item):Prop :=
 x.1.2.1 = r.length /\ x.2.2.1 = r.length /\ RowN .i64 A x.1.1 x.1.2.2 (wts r) /\ RowN .i64 A x.2.1 x.2.2.2 (prefS r) /\ (∀ b,x.1.1 = some b -> lo <= b.block /\ b.block < A.heap.size) /\ (∀ b,x.2.1 = some b -> lo <= b.block /\ b.block < A.heap.size)
theorem RwAt.only {T:Nat -> Prop} {A B:World} {lo:Nat} {x:Row2} {r:List M05.Item} (h:RwAt A lo x r) (ho:Only T A B) (hT:∀ b,lo <= b -> b < A.heap.size -> ¬ T b):RwAt B lo x r:=by
 obtain ⟨h1,h2,h3,h4,h5,h6⟩:=h
 have hs:=ho.size
 refine ⟨h1,h2,h3.same hs (fun b h0 hb=>?_),h4.same hs (fun b h0 hb=>?_),fun b hb=>?_,fun b hb=>?_⟩
 ·have:=h5 b hb;exact ho.block _ this.2 (hT _ this.1 this.2)
 ·have:=h6 b hb;exact ho.block _ this.2 (hT _ this.1 this.2)
 ·have:=h5 b hb;omega
 ·have:=h6 b hb;omega
end Go.Proofs.YtendielanacflaaGreat
namespace Go.Proofs.YtendielanacflaaGreat
open Go.RowKit Go.Shelf M04 M05
attribute [local go_sem] Oper.semAt_some
theorem cutInts (b off m n c:Nat) (h:m <= c) (w:World):(Instr.sliceAt 88 (.slice (some ⟨b,off,none⟩) n c) none (some (.int .i64 (m:Nat))) none).run Tryz.prog w = .ok (.slice (some ⟨b,off,none⟩) m c) w:=by
 have hz:(Tryz.prog.info? 3).map (·.size) = some 1:=by kernel_rfl
 cases h5:Tryz.prog.info? 3 with
 | none=>rw [h5] at hz;cases hz
 | some ie =>
  simp [Instr.sliceAt,Instr.slice,Instr.sliceBounds,Instr.sliceBound,run_underlying Tryz.underlying88,asIntOf,sizeOf,typeInfo,h5,go_sem,h,Addr.add]
theorem Zom (f:List Nat) (lim:Nat) (h:(rar f).length = 0):limL f lim = List.replicate f.length 0:=by
 apply List.ext_getElem
 ·rw [Zas];simp
 ·intro i h1 h2
  rw [Zas] at h1
  have hg:=Zfv f lim i h1
  rw [List.getD_eq_getElem?_getD,List.getElem?_eq_getElem (by rw [Zas];exact h1)] at hg
  simp only [Option.getD_some] at hg
  rw [hg,List.getElem_replicate]
  unfold limS
  have h0:f.getD i 0 = 0:=by
   rcases Nat.eq_zero_or_pos (f.getD i 0) with h3 | h3
   ·exact h3
   ·have hmem:=(Zcb f i).2 ⟨h1,h3⟩
    rw [List.length_eq_zero_iff.1 h] at hmem
    cases hmem
  rw [if_pos h0]
theorem Zadi (lim P:Nat) (h:lim <= 17) (hP:2 ^ lim = P):wrap64 ((2:Int) ^ lim) = (P:Int):=by
 have hall:∀ k:Fin 18,wrap64 ((2:Int) ^ k.val) = ((2 ^ k.val:Nat):Int):=by decide +kernel
 subst hP
 exact hall ⟨lim,by omega⟩
end Go.Proofs.YtendielanacflaaGreat
