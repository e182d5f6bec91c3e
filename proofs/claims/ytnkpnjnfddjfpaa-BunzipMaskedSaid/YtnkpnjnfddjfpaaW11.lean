/- block.Get: contract. -/
import Derived.Test.YtnkpnjnfddjfpaaW01
import Derived.Test.YtnkpnjnfddjfpaaW02
import Derived.Test.YtnkpnjnfddjfpaaW07
import Derived.Test.YtnkpnjnfddjfpaaW10
set_option linter.unusedVariables false
set_option linter.unusedSimpArgs false
namespace Go.Proofs.Ytnkpnjnfddjfpaa
open Go.RowKit Go.Shelf M01 M02 M04 M27 M10
def BlkOut (w:World) (rp:Nat) (bs:List Nat) (R:Option (List Nat × Nat × Nat)) (e:Ending) (w':World):Prop :=
 Only (fun b=>b = rp) w w' /\ match R with
 | some (l,sum,at2)=>∃ a c,e = .returned (.tuple #[.slice a l.length c,.int .u32 (sum:Nat),.int .i64 0]) /\ OwnN 5 .u8 w' w.heap.size a c l /\ RdM w' rp bs at2
 | none=>e = .returned (.tuple #[.slice none 0 0,.int .u32 0,.int .i64 2])
theorem BlkOut.none {w w':World} {rp:Nat} {bs:List Nat} {R:Option (List Nat × Nat × Nat)} (hR:R = none) (h:Only (fun b=>b = rp) w w'):BlkOut w rp bs R (.returned (.tuple #[.slice none 0 0,.int .u32 0,.int .i64 2])) w':=by
 subst hR;exact ⟨h,rfl⟩
theorem Zav {w A:World} {q rp:Nat} {x y z:Value} {bs:List Nat} {R:Option (List Nat × Nat × Nat)} {tmps:Array Value} (hR:R = none) (h:Res3 q A x y z) (ho:Only (fun b=>b = rp) w A) (hq:w.heap.size <= q) (t4:tmps.getD 4 undef = .pointer (some ⟨q,0,none⟩)) (t5:tmps.getD 5 undef = .pointer (some ⟨q + 1,0,none⟩)) (t6:tmps.getD 6 undef = .pointer (some ⟨q + 2,0,none⟩)) :
  bodyPostC Try.prog Try.f63 (BlkOut w rp bs R) (.panic formP) { tmps:=tmps,defers:=blkDef q } A :=
 Zpj h t4 t5 t6 (BlkOut.none hR (((ho.setCell (p:=⟨q,0,none⟩) (.inr hq) _).setCell (p:=⟨q + 1,0,none⟩) (.inr (Nat.le_succ_of_le hq)) _).setCell (p:=⟨q + 2,0,none⟩) (.inr (Nat.le_succ_of_le (Nat.le_succ_of_le hq))) _))
theorem Zcf {bs:List Nat} {at_ n:Nat} (h:at_ + n <= 8 * bs.length):numG (rv bs) at_ n = some (numH (rv bs) at_ n,at_ + n):=by
 unfold numG nb;rw [Zap,if_pos h]
theorem Zce {bs:List Nat} {at_ n:Nat} (h:¬ at_ + n <= 8 * bs.length):numG (rv bs) at_ n = none:=by
 unfold numG nb;rw [Zap,if_neg h]
theorem Zep {w A B:World} {rp n:Nat} (h:Only (fun b=>b = rp) w A) (k:Only (fun b=>b = rp \/ n <= b) A B) (hn:w.heap.size <= n):Only (fun b=>b = rp) w B :=
 ⟨k.os.trans h.os,k.tape.trans h.tape,k.output.trans h.output,Nat.le_trans h.size k.size,fun b hb hT=>(k.block b (Nat.lt_of_lt_of_le hb h.size) (fun hx=>hx.elim hT (fun hx=>by omega))).trans (h.block b hb hT)⟩
theorem OwnN.onlyG2 {T:Nat -> Prop} {E:TypeId} {k:IntKind} {A B:World} {base cap:Nat} {a:Option Addr} {l:List Nat} (h:OwnN E k A base a cap l) (ho:Only T A B) (hT:∀ g,a = some ⟨g,0,none⟩ -> ¬ T g):OwnN E k B base a cap l:=by
 refine ⟨h.1,?_⟩
 rcases h.2 with h2 | ⟨g,c,cur,h1,h2,h3,h4⟩
 ·exact .inl h2
 ·exact .inr ⟨g,c,cur,h1,h2,Zac h3 ho (hT g (by cases h1;rfl)),h4⟩
theorem Zrb {w A:World} {z rp s at_ c:Nat} {bs l:List Nat} {a:Option Addr} {tmps:Array Value} {R:Option (List Nat × Nat × Nat)} (hR:R = some (l,s,at_)) (hz:w.heap.size = z) (h:Res3 (z + 1) A (.slice a l.length c) (.int .u32 (s:Nat)) (.int .i64 0)) (ho:Only (fun b=>b = rp) w A) (hk:OwnN 5 .u8 A (z + 4) a c l) (hrd:RdM A rp bs at_)
  (t4:tmps.getD 4 undef = .pointer (some ⟨z + 1,0,none⟩)) (t5:tmps.getD 5 undef = .pointer (some ⟨z + 1 + 1,0,none⟩)) (t6:tmps.getD 6 undef = .pointer (some ⟨z + 1 + 2,0,none⟩)) :
  LeavesC Try.prog Try.f63 tmps (BlkOut w rp bs R) (blkDef (z + 1)) .returning A:=by
 subst hR
 exact Zuz h t4 t5 t6 rfl ⟨ho,a,c,rfl,hk.mono (by omega),hrd⟩
theorem Zuy {w A:World} {z rp s at_ c r:Nat} {bs l:List Nat} {a:Option Addr} {tmps:Array Value} {R:Option (List Nat × Nat × Nat)} (hR:R = some (l,s,at_)) (hz:w.heap.size = z) (h:Res3 (z + 1) A (.slice a l.length c) (.int .u32 (s:Nat)) (.int .i64 0)) (ho:Only (fun b=>b = rp) w A) (hk:OwnN 5 .u8 A (z + 4) a c l) (hrd:RdM A rp bs at_)
  (t4:tmps.getD 4 undef = .pointer (some ⟨z + 1,0,none⟩)) (t5:tmps.getD 5 undef = .pointer (some ⟨z + 1 + 1,0,none⟩)) (t6:tmps.getD 6 undef = .pointer (some ⟨z + 1 + 2,0,none⟩))
  (hr:A.heap[r]? = some (.deferred (some []))) (hrz:z + 4 <= r) (hrp:rp < z) (hra:∀ g,a = some ⟨g,0,none⟩ -> g ≠ r) :
  LeavesC Try.prog Try.f63 tmps (BlkOut w rp bs R) ({ target:=.collected r,args:=#[] } :: blkDef (z + 1)) .returning A:=by
 have hO:Only (fun b=>b = r) A (A.putObj r (.deferred none)):=(Only.refl (fun b=>b = r) A).putLoop (r:=r) rfl _
 refine ⟨by simp,.inl ⟨r,_,rfl,run_takeDeferred hr,?_⟩⟩
 exact Zrb hR hz (h.only hO (by omega) (by omega) (by omega)) (Zep ho (hO.mono (T':=fun b=>b = rp \/ z <= b) (fun b _ hb=>.inr (by have hb:b = r:=hb;omega))) (by omega)) (hk.onlyG2 hO hra) (hrd.only hO (fun b hb=>by show b ≠ r;omega)) t4 t5 t6
def MaskI (w:World) (z rp s at_ mb c:Nat) (bs bl:List Nat) (a:Option Addr) (i:Nat) (A:World):Prop :=
 Res3 (z + 1) A (.slice a bl.length c) (.int .u32 (s:Nat)) (.int .i64 0) /\ Only (fun b=>b = rp) w A /\ RdM A rp bs at_ /\ OwnN 5 .u8 A (z + 4) a c (turnAt bl i) /\ mb < A.heap.size
theorem MaskI.only {w A B:World} {T:Nat -> Prop} {z rp s at_ mb c i:Nat} {bs bl:List Nat} {a:Option Addr} (h:MaskI w z rp s at_ mb c bs bl a i A) (ho:Only T A B) (hw:w.heap.size = z) (hrp:rp < z) (hT:∀ b,T b -> mb < b) (hm:z + 4 <= mb) (ha:∀ g,a = some ⟨g,0,none⟩ -> g < mb) :
  MaskI w z rp s at_ mb c bs bl a i B:=by
 obtain ⟨h1,h2,h3,h4,h5⟩:=h
 refine ⟨h1.only ho (fun h=>by have:=hT _ h;omega) (fun h=>by have:=hT _ h;omega) (fun h=>by have:=hT _ h;omega),Zep h2 (ho.mono (T':=fun b=>b = rp \/ z <= b) (fun b _ hb=>.inr (by have:=hT b hb;omega))) (by omega),h3.only ho (fun b hb h=>by have:=hT _ h;omega),h4.onlyG2 ho (fun g hg h=>by have:=hT _ h;have:=ha g hg;omega),Nat.lt_of_lt_of_le h5 ho.size⟩
theorem MaskI.step {w A:World} {z rp s at_ mb c i g p:Nat} {bs bl:List Nat} {v:Value} (h:MaskI w z rp s at_ mb c bs bl (some ⟨g,0,none⟩) i A) (hs:OwnN 5 .u8 (A.setCell ⟨g,p,none⟩ v) (z + 4) (some ⟨g,0,none⟩) c (turnAt bl (i + 1))) (hg:z + 4 <= g) (hw:w.heap.size = z) (hrp:rp < z) :
  MaskI w z rp s at_ mb c bs bl (some ⟨g,0,none⟩) (i + 1) (A.setCell ⟨g,p,none⟩ v):=by
 have hO:Only (fun b=>b = g) A (A.setCell ⟨g,p,none⟩ v):=(Only.refl (fun b=>b = g) A).setCell (p:=⟨g,p,none⟩) (.inl rfl) _
 obtain ⟨h1,h2,h3,h4,h5⟩:=h
 exact ⟨h1.only hO (by omega) (by omega) (by omega),Zep h2 (hO.mono (T':=fun b=>b = rp \/ z <= b) (fun b _ hb=>.inr (by omega))) (by omega),h3.only hO (fun b hb h=>by omega),hs,Nat.lt_of_lt_of_le h5 hO.size⟩
theorem Zxm {k:IntKind} {A B:World} {rp n c:Nat} {a:Option Addr} {l:List Nat} (h:RowN k A a c l) (ho:Only (fun b=>b = rp \/ n <= b) A B) (hb:∀ x,a = some x -> x.block ≠ rp /\ x.block < n) (hn:n <= A.heap.size):RowN k B a c l :=
 h.same ho.size (fun x h0 hx=>ho.block _ (Nat.lt_of_lt_of_le (hb x hx).2 hn) (fun hy=>hy.elim (hb x hx).1 (fun hy=>absurd (hb x hx).2 (by omega))))
theorem Zyx {α:Type} {e:Enc α} {A B:World} {rp n c:Nat} {a:Option Addr} {l:List α} (h:RowS e A a c l) (ho:Only (fun b=>b = rp \/ n <= b) A B) (hb:∀ x,a = some x -> x.block ≠ rp /\ x.block < n) (hn:n <= A.heap.size):RowS e B a c l :=
 h.same ho.size (fun x h0 hx=>ho.block _ (Nat.lt_of_lt_of_le (hb x hx).2 hn) (fun hy=>hy.elim (hb x hx).1 (fun hy=>absurd (hb x hx).2 (by omega))))
def slN:Option Value -> Nat
 | some (.slice _ n _)=>n
 | _=>0
attribute [local go_sem] Oper.semAt_some
set_option maxRecDepth 100000 in
set_option maxHeartbeats 12800000 in
theorem Zxw (w:World) (rp:Nat) (bs:List Nat) (at_ most:Nat) (hrd:RdM w rp bs at_) (hm1:1 <= most) (hm:most <= 900000) :
  Calls Try.prog 63 #[.pointer (some ⟨rp,0,none⟩),.int .i64 (most:Nat)] w (BlkOut w rp bs (blkG (rv bs) at_ most)):=by
 obtain ⟨R,hR0⟩:∃ R,R = blkG (rv bs) at_ most:=⟨_,rfl⟩
 rw [<- hR0]
 replace hR0:=Zh hR0
 have hrp:=hrd.lt
 have t1:decide ((most:Int) < 1) = false:=by simp;omega
 have t2:decide ((900000:Int) < (most:Int)) = false:=by simp;omega
 have hmf:∀ (fn:Fn) (first cap:Array Value) (w:World),(Instr.makeFunc fn first cap).run Try.prog w = .ok (.func fn first cap) w:=fun _ _ _ _=>rfl
 have hnil:∀ (x:Addr) (w:World),(binOp .eql 52 (.pointer (some x)) (.pointer none)).run Try.prog w = .ok (.bool false) w:=by
  intro x w
  kernel_rfl
 refine Zcv Try.func63 rfl ?_
 simp only [Try.ntmps63,List.size_toArray,List.length_cons,List.length_nil,Nat.reduceAdd,Nat.reduceSub,Array.replicate_succ,Array.replicate_zero,List.push_toArray,List.append_toArray,List.nil_append,List.cons_append]
 go_wp2_with fail
 obtain ⟨z0,z1,z2,z3,z4,zb⟩:=four w (.cells #[.pointer (some ⟨rp,0,none⟩)] 52) (.cells #[.slice none 0 0] 22) (.cells #[.int .u32 0] 54) (.cells #[.int .i64 0] 25)
 have HON0:Hid (Only (fun b=>b = rp) w ((((w.alloc (.cells #[.pointer (some ⟨rp,0,none⟩)] 52)).alloc (.cells #[.slice none 0 0] 22)).alloc (.cells #[.int .u32 0] 54)).alloc (.cells #[.int .i64 0] 25))):=Zh (Only.ofBelow zb)
 have HRD0:=Zh (hrd.below zb)
 obtain ⟨z,hz⟩:∃ z,w.heap.size = z:=⟨_,rfl⟩
 have HRES0:Hid (Res3 (z + 1) ((((w.alloc (.cells #[.pointer (some ⟨rp,0,none⟩)] 52)).alloc (.cells #[.slice none 0 0] 22)).alloc (.cells #[.int .u32 0] 54)).alloc (.cells #[.int .i64 0] 25)) (.slice none 0 0) (.int .u32 0) (.int .i64 0)):=Zh ⟨by rw [<- hz];exact z2,by rw [<- hz];exact z3,by rw [<- hz];exact z4⟩
 have HBX0:Hid (((((w.alloc (.cells #[.pointer (some ⟨rp,0,none⟩)] 52)).alloc (.cells #[.slice none 0 0] 22)).alloc (.cells #[.int .u32 0] 54)).alloc (.cells #[.int .i64 0] 25)).heap[z]? = some (.cells #[.pointer (some ⟨rp,0,none⟩)] 52 (0,0))):=Zh (by rw [<- hz];exact z1)
 have HZ:=Zh hz
 rw [hz] at z0 hrp
 simp only [hz]
 clear hmf hnil t1 t2 zb z1 z2 z3 z4 hrd hz
 generalize (((w.alloc (.cells #[.pointer (some ⟨rp,0,none⟩)] 52)).alloc (.cells #[.slice none 0 0] 22)).alloc (.cells #[.int .u32 0] 54)).alloc (.cells #[.int .i64 0] 25) = A0 at *
 have hz0:z + 4 <= A0.heap.size:=by omega
 by_cases h1:at_ + 32 <= 8 * bs.length
 case neg =>
  have HR:Hid (R = none):=by unfold Hid;rw [hR0.out];unfold blkG;rw [Zce h1];rfl
  refine (Zaq A0 rp bs (at_) 32 (by decide) HRD0.out (by omega)).mono ?_
  rintro e w1 ⟨rfl,n1,rfl⟩
  clear h1
  go_wp2_with fail
  refine (Zev (.int .u32 0) 2 (by decide) _).mono ?_
  rintro e w2 ⟨rfl,rfl⟩
  exact Zav HR.out (HRES0.out.only (Zah (fun _=>False) _ _) id id id) (HON0.out.trans (Zah _ _ _)) (by rw [HZ.out];omega) rfl rfl rfl
 refine (Zbn A0 rp bs (at_) 32 (by decide) HRD0.out h1).mono ?_
 rintro e A1 ⟨rfl,hr1,ho1⟩
 have HF1:Hid (R = blk1 (rv bs) most (numH (rv bs) (at_) 32) (at_ + 32)):=Zh (by rw [hR0.out];unfold blkG;rw [Zcf h1];rfl)
 have hx1:=Zbq (rv bs) (at_) 32
 generalize numH (rv bs) (at_) 32 = s at *
 have HRD1:=Zh hr1
 have HRES1:=Zh (HRES0.out.only ho1 (by show ¬ z + 1 = rp;omega) (by show ¬ z + 1 + 1 = rp;omega) (by show ¬ z + 1 + 2 = rp;omega))
 have HON1:=Zh (HON0.out.trans ho1)
 have HBX1:=Zh (Zac HBX0.out ho1 (by show ¬ z = rp;omega))
 have hz1:=Nat.le_trans hz0 ho1.size
 have c1:=cell_of_one HBX1.out
 clear hr1 ho1 hR0 HRD0 HRES0 HON0 HBX0
 go_wp2_with fail
 refine (Zew _ A1).mono ?_
 rintro e w2 ⟨rfl,h2⟩
 rw [h2]
 clear h2 w2
 obtain ⟨r1,r2,r3⟩:=HRES1.out
 have c1s:=cell_of_one r2
 have f1s:=Zam r2
 have HRES2:Hid (Res3 (z + 1) (A1.setCell ⟨z + 1 + 1,0,none⟩ (.int .u32 (s:Nat))) (.slice none 0 0) (.int .u32 (s:Nat)) (.int .i64 0)):=Zh ⟨(Below.heap_setCell _ _ _ _ (by show z + 1 ≠ z + 1 + 1;omega)).trans r1,one_setCell r2,(Below.heap_setCell _ _ _ _ (by show z + 1 + 2 ≠ z + 1 + 1;omega)).trans r3⟩
 have HBX2:Hid ((A1.setCell ⟨z + 1 + 1,0,none⟩ (.int .u32 (s:Nat))).heap[z]? = _):=Zh ((Below.heap_setCell _ _ _ _ (by show z ≠ z + 1 + 1;omega)).trans HBX1.out)
 have HON2:=Zh (HON1.out.setCell (p:=⟨z + 1 + 1,0,none⟩) (.inr (by rw [HZ.out];show z <= z + 1 + 1;omega)) (.int .u32 (s:Nat)))
 have HRD2:=Zh (HRD1.out.only (T:=fun b=>b = z + 1 + 1) ((Only.refl (fun b=>b = z + 1 + 1) A1).setCell (p:=⟨z + 1 + 1,0,none⟩) (.inl rfl) (.int .u32 (s:Nat))) (fun b hb=>by show b ≠ z + 1 + 1;omega))
 have hz2:z + 4 <= (A1.setCell ⟨z + 1 + 1,0,none⟩ (.int .u32 (s:Nat))).heap.size:=by simpa [World.setCell] using hz1
 have c2':=cell_of_one HBX2.out
 have HF2:=HF1
 clear r1 r2 r3 HRES1 HBX1 HON1 HRD1 HF1
 go_wp2_with fail
 clear c1 c1s f1s
 generalize A1.setCell ⟨z + 1 + 1,0,none⟩ (.int .u32 (s:Nat)) = A2 at *
 by_cases h3:at_ + 32 + 1 <= 8 * bs.length
 case neg =>
  have HR:Hid (R = none):=by unfold Hid;rw [HF2.out];unfold blk1;rw [Zce h3];rfl
  refine (Zaq A2 rp bs (at_ + 32) 1 (by decide) HRD2.out (by omega)).mono ?_
  rintro e w1 ⟨rfl,n1,rfl⟩
  clear h3
  go_wp2_with fail
  refine (Zev (.int .u32 0) 2 (by decide) _).mono ?_
  rintro e w2 ⟨rfl,rfl⟩
  exact Zav HR.out (HRES2.out.only (Zah (fun _=>False) _ _) id id id) (HON2.out.trans (Zah _ _ _)) (by rw [HZ.out];omega) rfl rfl rfl
 refine (Zbn A2 rp bs (at_ + 32) 1 (by decide) HRD2.out h3).mono ?_
 rintro e A3 ⟨rfl,hr1,ho1⟩
 have HF3:Hid (R = blk2 (rv bs) most s (numH (rv bs) (at_ + 32) 1) (at_ + 32 + 1)):=Zh (by rw [HF2.out];unfold blk1;rw [Zcf h3];rfl)
 have hx3:=Zbq (rv bs) (at_ + 32) 1
 generalize numH (rv bs) (at_ + 32) 1 = m at *
 have HRD3:=Zh hr1
 have HRES3:=Zh (HRES2.out.only ho1 (by show ¬ z + 1 = rp;omega) (by show ¬ z + 1 + 1 = rp;omega) (by show ¬ z + 1 + 2 = rp;omega))
 have HON3:=Zh (HON2.out.trans ho1)
 have HBX3:=Zh (Zac HBX2.out ho1 (by show ¬ z = rp;omega))
 have hz3:=Nat.le_trans hz2 ho1.size
 have c3:=cell_of_one HBX3.out
 clear hr1 ho1 HF2 HRD2 HRES2 HON2 HBX2
 go_wp2_with fail
 refine (Zew _ A3).mono ?_
 rintro e w2 ⟨rfl,h2⟩
 rw [h2]
 clear h2 w2
 go_wp2_with fail
 by_cases h4:at_ + 32 + 1 + 24 <= 8 * bs.length
 case neg =>
  have HR:Hid (R = none):=by unfold Hid;rw [HF3.out];unfold blk2;rw [Zce h4];rfl
  refine (Zaq A3 rp bs (at_ + 32 + 1) 24 (by decide) HRD3.out (by omega)).mono ?_
  rintro e w1 ⟨rfl,n1,rfl⟩
  clear h4
  go_wp2_with fail
  refine (Zev (.int .u32 0) 2 (by decide) _).mono ?_
  rintro e w2 ⟨rfl,rfl⟩
  exact Zav HR.out (HRES3.out.only (Zah (fun _=>False) _ _) id id id) (HON3.out.trans (Zah _ _ _)) (by rw [HZ.out];omega) rfl rfl rfl
 refine (Zbn A3 rp bs (at_ + 32 + 1) 24 (by decide) HRD3.out h4).mono ?_
 rintro e A4 ⟨rfl,hr1,ho1⟩
 have HF4:Hid (R = blk3 (rv bs) most s m (numH (rv bs) (at_ + 32 + 1) 24) (at_ + 32 + 1 + 24)):=Zh (by rw [HF3.out];unfold blk2;rw [Zcf h4];rfl)
 have hx4:=Zbq (rv bs) (at_ + 32 + 1) 24
 generalize numH (rv bs) (at_ + 32 + 1) 24 = pl at *
 have HRD4:=Zh hr1
 have HRES4:=Zh (HRES3.out.only ho1 (by show ¬ z + 1 = rp;omega) (by show ¬ z + 1 + 1 = rp;omega) (by show ¬ z + 1 + 2 = rp;omega))
 have HON4:=Zh (HON3.out.trans ho1)
 have HBX4:=Zh (Zac HBX3.out ho1 (by show ¬ z = rp;omega))
 have hz4:=Nat.le_trans hz3 ho1.size
 have c4:=cell_of_one HBX4.out
 clear hr1 ho1 HF3 HRD3 HRES3 HON3 HBX3
 go_wp2_with fail
 refine (Zew _ A4).mono ?_
 rintro e w2 ⟨rfl,h2⟩
 rw [h2]
 clear h2 w2
 have u1:IntKind.i64.wrap (pl:Int) = (pl:Int):=IntWalk.i64_in _ (by omega)
 go_wp2_with fail
 refine (Zwj A4 rp bs (at_ + 32 + 1 + 24) HRD4.out).mono ?_
 rintro e A5 ⟨ho1,hout⟩
 have HON5:=Zh (HON4.out.trans ho1)
 have HRES5:=Zh (HRES4.out.only ho1 (by show ¬ z + 1 = rp;omega) (by show ¬ z + 1 + 1 = rp;omega) (by show ¬ z + 1 + 2 = rp;omega))
 have HBX5:=Zh (Zac HBX4.out ho1 (by show ¬ z = rp;omega))
 have hz5:=Nat.le_trans hz4 ho1.size
 have HF5:Hid (R = (pickG (rv bs) (at_ + 32 + 1 + 24)).bind fun u=>blk4 (rv bs) most s m pl u.1 u.2):=Zh HF4.out
 have HPK:=Zh (fun l a2=>@Zos (rv bs) (at_ + 32 + 1 + 24) a2 l)
 have c5:=cell_of_one HBX5.out
 clear ho1 HF4 HRD4 HRES4 HON4 HBX4 c4
 generalize pickG (rv bs) (at_ + 32 + 1 + 24) = PK at *
 rcases PK with _ | ⟨used,at6⟩
 ·have HR:Hid (R = none):=HF5.out
  obtain rfl:e = _:=hout
  clear HPK
  go_wp2_with fail
  refine (Zeu (.slice none 0 0) 2 (by decide) _).mono ?_
  rintro e w2 ⟨rfl,rfl⟩
  exact Zav HR.out HRES5.out HON5.out (by rw [HZ.out];omega) rfl rfl rfl
 obtain ⟨ua,uc,rfl,huo,hrd5⟩:=hout
 obtain ⟨hu0,hur,hul,hu256⟩:=HPK.out used at6 rfl
 have HF6:Hid (R = blk4 (rv bs) most s m pl used at6):=HF5.out
 have HUO5:=Zh huo
 have HRD5:=Zh hrd5
 have HU0:=Zh hu0
 have HUR:=Zh hur
 have HU256:=Zh hu256
 obtain ⟨ub,hub⟩:∃ ub,A4.heap.size = ub:=⟨_,rfl⟩
 rw [hub] at HUO5
 have hubz:z + 4 <= ub:=by omega
 clear huo hrd5 hu0 hur hu256 HPK HF5 hub
 go_wp2_with fail
 refine (Zdi _ A5).mono ?_
 rintro e w2 ⟨rfl,h2⟩
 rw [h2]
 clear h2 w2
 go_wp2_with fail
 by_cases h6:at6 + 3 <= 8 * bs.length
 case neg =>
  have HR:Hid (R = none):=by unfold Hid;rw [HF6.out];unfold blk4;rw [Zce h6];rfl
  refine (Zaq A5 rp bs at6 3 (by decide) HRD5.out (by omega)).mono ?_
  rintro e w1 ⟨rfl,n1,rfl⟩
  clear h6
  go_wp2_with fail
  refine (Zev (.int .u32 0) 2 (by decide) _).mono ?_
  rintro e w2 ⟨rfl,rfl⟩
  exact Zav HR.out (HRES5.out.only (Zah (fun _=>False) _ _) id id id) (HON5.out.trans (Zah _ _ _)) (by rw [HZ.out];omega) rfl rfl rfl
 refine (Zbn A5 rp bs at6 3 (by decide) HRD5.out h6).mono ?_
 rintro e A6 ⟨rfl,hr1,ho1⟩
 have HF7:Hid (R = blk5 (rv bs) most s m pl used (numH (rv bs) at6 3) (at6 + 3)):=Zh (by rw [HF6.out];unfold blk4;rw [Zcf h6];rfl)
 have hx6:=Zbq (rv bs) at6 3
 generalize numH (rv bs) at6 3 = mn at *
 have HRD6:=Zh hr1
 have HRES6:=Zh (HRES5.out.only ho1 (by show ¬ z + 1 = rp;omega) (by show ¬ z + 1 + 1 = rp;omega) (by show ¬ z + 1 + 2 = rp;omega))
 have HON6:=Zh (HON5.out.trans ho1)
 have HBX6:=Zh (Zac HBX5.out ho1 (by show ¬ z = rp;omega))
 have HUO6:=Zh (HUO5.out.only ho1 (fun b hb=>by show b ≠ rp;omega))
 have hz6:=Nat.le_trans hz5 ho1.size
 have c6:=cell_of_one HBX6.out
 clear hr1 ho1 HF6 HRD5 HRES5 HON5 HBX5 HUO5 c5
 have u2:IntKind.i64.wrap (mn:Int) = (mn:Int):=IntWalk.i64_in _ (by omega)
 go_wp2_with fail
 refine (Zew _ A6).mono ?_
 rintro e w2 ⟨rfl,h2⟩
 rw [h2]
 clear h2 w2
 go_wp2_with fail
 by_cases hmn:mn < 2 \/ 6 < mn
 ·have HR:Hid (R = none):=by unfold Hid;rw [HF7.out];unfold blk5;rw [if_pos hmn]
  refine (Zem A6 rp mn hmn).mono ?_
  rintro e w2 ⟨rfl,h2⟩
  rw [h2]
  clear h2 w2
  go_wp2_with fail
  refine (Zkx (.slice none 0 0) 5 (by decide) _).mono ?_
  rintro e w2 ⟨rfl,rfl⟩
  exact Zav HR.out HRES6.out HON6.out (by rw [HZ.out];omega) rfl rfl rfl
 have hmn2:2 <= mn /\ mn <= 6:=by omega
 have HF8:Hid (R = (selG (rv bs) (at6 + 3) mn).bind fun g=>blk6 (rv bs) most s m pl used mn g.1 g.2):=Zh (by rw [HF7.out];unfold blk5;rw [if_neg hmn])
 have HSG:=Zh (fun l a2=>@Zyz (rv bs) (at6 + 3) a2 mn l hmn2.1 hmn2.2)
 refine (Zgy A6 rp bs (at6 + 3) mn hmn2.1 hmn2.2 HRD6.out).mono ?_
 rintro e A7 ⟨ho1,hout⟩
 have HON7:=Zh (HON6.out.trans ho1)
 have HRES7:=Zh (HRES6.out.only ho1 (by show ¬ z + 1 = rp;omega) (by show ¬ z + 1 + 1 = rp;omega) (by show ¬ z + 1 + 2 = rp;omega))
 have HBX7:=Zh (Zac HBX6.out ho1 (by show ¬ z = rp;omega))
 have HUO7:=Zh (HUO6.out.only ho1 (fun b hb=>by show b ≠ rp;omega))
 have hz7:=Nat.le_trans hz6 ho1.size
 have hzz7:=ho1.size
 have c7:=cell_of_one HBX7.out
 clear ho1 HF7 HRD6 HRES6 HON6 HBX6 HUO6 c6 hmn
 generalize selG (rv bs) (at6 + 3) mn = SG at *
 rcases SG with _ | ⟨group,at8⟩
 ·have HR:Hid (R = none):=HF8.out
  obtain ⟨xv,rfl⟩:=hout
  clear HSG
  go_wp2_with fail
  refine (Zkx xv 2 (by decide) _).mono ?_
  rintro e w2 ⟨rfl,rfl⟩
  exact Zav HR.out HRES7.out HON7.out (by rw [HZ.out];omega) rfl rfl rfl
 obtain ⟨gA,gC,rfl,hgo,hrd7⟩:=hout
 obtain ⟨hg0,hg1,hg2⟩:=HSG.out group at8 rfl
 have HF9:Hid (R = blk6 (rv bs) most s m pl used mn group at8):=HF8.out
 have HGO7:=Zh hgo
 have HRD7:=Zh hrd7
 have HG2:=Zh hg2
 clear hgo hrd7 hg2 HSG HF8
 go_wp2_with fail
 refine (Zrd _ A7).mono ?_
 rintro e w2 ⟨rfl,h2⟩
 rw [h2]
 clear h2 w2
 go_wp2_with fail
 have hb8:Below A7.heap.size A7 ((A7.alloc (.cells #[.slice gA group.length gC] 103)).alloc (.cells #[.slice none 0 0] 146)):=(Zai A7 _).trans ((Zai _ _).mono (by simp))
 have hg8:((A7.alloc (.cells #[.slice gA group.length gC] 103)).alloc (.cells #[.slice none 0 0] 146)).heap[A7.heap.size]? = some (.cells #[.slice gA group.length gC] 103 (0,0)):=(Below.heap_alloc _ _ _ (by simp)).trans (World.alloc_heap_new A7 _)
 have hc8:=World.alloc_heap_new (A7.alloc (.cells #[.slice gA group.length gC] 103)) (.cells #[.slice none 0 0] 146)
 rw [show (A7.alloc (.cells #[.slice gA group.length gC] 103)).heap.size = A7.heap.size + 1 by simp] at hc8
 have hs8:((A7.alloc (.cells #[.slice gA group.length gC] 103)).alloc (.cells #[.slice none 0 0] 146)).heap.size = A7.heap.size + 2:=by simp
 have hub8:∀ x,ua = some x -> x.block ≠ rp /\ x.block < A7.heap.size:=fun x hx=>by
  rcases HUO7.out.form with ⟨h,_⟩ | ⟨g,h,h1,h2⟩
  ·rw [h] at hx;cases hx
  ·rw [h] at hx;cases hx;exact ⟨by show g ≠ rp;omega,h2⟩
 have hgb8:∀ x,gA = some x -> x.block ≠ rp /\ x.block < A7.heap.size:=fun x hx=>by
  rcases HGO7.out.form with ⟨h,_⟩ | ⟨g,h,h1,h2⟩
  ·rw [h] at hx;cases hx
  ·rw [h] at hx;cases hx;exact ⟨by show g ≠ rp;omega,h2⟩
 obtain ⟨gb,hgb⟩:∃ gb,A7.heap.size = gb:=⟨_,rfl⟩
 have HUR8:=Zh (HUO7.out.row.below hb8)
 have HGR8:=Zh (HGO7.out.row.below hb8)
 have HRD8:=Zh (HRD7.out.below hb8)
 have HRES8:=Zh (HRES7.out.belowAt hb8 (by omega))
 have HON8:=Zh (HON7.out.trans (Only.ofBelow hb8))
 have HBX8:=Zh ((hb8.block z (by omega)).trans HBX7.out)
 have HG8:=Zh hg8
 have HC8:=Zh hc8
 have HUB:=Zh hub8
 have HGB:=Zh hgb8
 simp only [hgb] at HG8 HC8 HUB HGB hs8 hz7
 simp only [hgb]
 clear hb8 hg8 hc8 hub8 hgb8 HUO7 HGO7 HRD7 HRES7 HON7 HBX7 c7 hgb hzz7
 generalize (A7.alloc (.cells #[.slice gA group.length gC] 103)).alloc (.cells #[.slice none 0 0] 146) = A8 at *
 obtain ⟨cb,hcb⟩:∃ cb,gb + 1 = cb:=⟨_,rfl⟩
 obtain ⟨CB,hCBe⟩:∃ CB,gb + 2 = CB:=⟨_,rfl⟩
 obtain ⟨nn,hnn⟩:∃ nn,used.length + 2 = nn:=⟨_,rfl⟩
 have NNW:Hid (IntKind.i64.wrap ((used.length:Int) + 2) = (nn:Int)):=Zh (by rw [IntWalk.i64_in _ (by omega)];omega)
 rw [hcb] at HC8
 simp only [hcb]
 have hcbg:gb < cb /\ cb < CB /\ CB = gb + 2:=by omega
 rw [hCBe] at hs8
 have HF10:Hid (R = (tabsL (rv bs) nn (mn - 0) at8 []).bind fun t=>blk7 (rv bs) most s m pl used group t.1 t.2):=Zh (by rw [<- hnn];exact HF9.out)
 have hnn3:3 <= nn /\ nn <= 258:=by have:=List.length_pos_iff.2 HU0.out;omega
 clear hcb hCBe hnn HF9
 go_loopw [62] (fun iv A=>∃ (i at2:Nat) (tabs:List (List Nat)) (ps:List Nat) (ca:Option Addr) (cc:Nat),iv = .int .i64 (i:Nat) /\ i <= mn /\ tabs.length = i /\ RdM A rp bs at2 /\ A.heap[gb]? = some (.cells #[.slice gA group.length gC] 103 (0,0)) /\ A.heap[cb]? = some (.cells #[.slice ca ps.length cc] 146 (0,0)) /\ OwnS encP 111 A CB ca cc ps /\ TabsOk A CB ca ps tabs ∧
  Res3 (z + 1) A (.slice none 0 0) (.int .u32 (s:Nat)) (.int .i64 0) /\ A.heap[z]? = some (.cells #[.pointer (some ⟨rp,0,none⟩)] 52 (0,0)) /\ Only (fun b=>b = rp) w A /\ RowN .u8 A ua uc used /\ RowN .i64 A gA gC group /\ CB <= A.heap.size ∧
  Hid (R = (tabsL (rv bs) nn (mn - i) at2 tabs).bind fun t=>blk7 (rv bs) most s m pl used group t.1 t.2)) (fun iv _=>mn - (intOf iv).toNat)
 case atStart=>exact ⟨0,at8,[],[],none,0,rfl,by omega,rfl,HRD8.out,HG8.out,HC8.out,OwnS.nil _ _ _ _,TabsOk.nil _ _,HRES8.out,HBX8.out,HON8.out,HUR8.out,HGR8.out,by omega,HF10.out⟩
 case round =>
  clear HRD8 HG8 HC8 HRES8 HBX8 HON8 HUR8 HGR8 HF10 hs8 A8
  obtain ⟨i,at2,tabs,ps,ca,cc,rfl,hi,htl,hrd,hg,hc,hco,hto,hres,hbx,hon,hur,hgr,hCB,HF⟩:=hrel
  have HRD:=Zh hrd
  have HG:=Zh hg
  have HC:=Zh hc
  have HCO:=Zh hco
  have HTO:=Zh hto
  have HRS:=Zh hres
  have HBX:=Zh hbx
  have HOL:=Zh hon
  have HURW:=Zh hur
  have HGRW:=Zh hgr
  have HTL:=Zh htl
  have hpl2:ps.length = i:=by rw [hto.1,htl]
  have QC:=Zh (cell_of_one hc)
  have QB:=Zh (cell_of_one hbx)
  have HCL:Hid (∀ g,ca = some ⟨g,0,none⟩ -> CB <= g /\ g < wr.heap.size):=Zh (fun g hg=>by
   rcases hco.form with ⟨h,_⟩ | ⟨g2,h,h1,h2⟩
   ·rw [h] at hg;cases hg
   ·rw [h] at hg;cases hg;exact ⟨h1,h2⟩)
  have hcbs:cb < wr.heap.size:=lt_of_block hc
  clear hrd hg hc hco hto hres hbx hon hur hgr htl
  by_cases hlt:i < mn
  ·have t0:decide (i < mn) = true:=decide_eq_true hlt
   have hps6:ps.length <= 6:=by omega
   have HN1:=Zh (show ps.length + 1 <= 9223372036854775807 by omega)
   have HN2:=Zh (show (ps.length + 1) * 8 <= 140737488355328 by omega)
   have HPL:=Zh hpl2
   obtain ⟨k,hk⟩:∃ k,mn - i = k + 1:=⟨mn - i - 1,by omega⟩
   have hk2:mn - (i + 1) = k:=by omega
   rw [hk] at HF
   have HKM:=Zh hk2
   unfold tabsL at HF
   have HGL0:=Zh (Ziu wr.drew rp bs at2 nn hnn3.1 hnn3.2 HRD.out)
   have HLG:=Zh (fun l a2=>@Zyh (rv bs) at2 a2 nn l)
   clear hk hk2 hpl2
   generalize lenG (rv bs) at2 nn = LG at *
   rcases LG with _ | ⟨lens,at3⟩
   ·have HRN:Hid (R = none):=HF.out
    have HGL:Hid (Calls Try.prog 117 #[.pointer (some ⟨rp,0,none⟩),.int .i64 (nn:Nat)] wr.drew fun e w'=>Only (fun b=>b = rp) wr.drew w' /\ ∃ x,e = .returned (.tuple #[x,.int .i64 2])):=HGL0.out
    clear HF HLG HGL0
    go_wp2_with fail
    refine Zbb [64,65,66,67,68,69,70,71,72,73,74,75,76,77,78] (fun j=>false) (fun listed w1=>(if listed.getD 5 false = true then (Only (fun b=>b = rp) wr w1 /\ True) else w1 = wr.drew) /\ listed.getD 8 false = false) (tabA (.slice ca ps.length cc) rp (.slice ua used.length uc) used.length nn) (fun _ _ _ _=>True) (by kernel_rfl) (by kernel_rfl) (OneEach.mk' (by kernel_rfl) (by kernel_rfl)) (by kernel_rfl) (by kernel_rfl) ⟨by simp,by simp⟩ ?_ ?_
    ·intro i0 o hi0 listed a1 w1 hR hil hunf hdes hanc hout hdf hdep
     have hsz:i0 < 16:=(Array.getElem?_eq_some_iff.1 hi0).1
     have hall:i0 = 0 \/ i0 = 1 \/ i0 = 2 \/ i0 = 3 \/ i0 = 4 \/ i0 = 5 \/ i0 = 6 \/ i0 = 7 \/ i0 = 8 \/ i0 = 9 \/ i0 = 10 \/ i0 = 11 \/ i0 = 12 \/ i0 = 13 \/ i0 = 14 \/ i0 = 15:=by omega
     clear hsz
     rcases hall with rfl | rfl | rfl | rfl | rfl | rfl | rfl | rfl | rfl | rfl | rfl | rfl | rfl | rfl | rfl | rfl <;> simp only [List.getElem?_toArray,List.getElem?_cons_zero,List.getElem?_cons_succ,Option.some.injEq] at hi0 <;> subst hi0
     ·have f12:a1.eval (.tmp 12) = .pointer (some ⟨cb,0,none⟩):=hout 12 (by decide)
      have hq:w1.cell? ⟨cb,0,none⟩ = some (.slice ca ps.length cc):=by
       replace hR:=hR.1
       by_cases h5:listed.getD 5 false = true
       ·rw [if_pos h5] at hR;exact Zbk (A:=wr) QC.out hR.1 (by show cb ≠ rp;omega)
       ·rw [if_neg h5] at hR
        subst hR
        exact QC.out
      refine Zab (v:=.slice ca ps.length cc) (w':=w1) (by simp only [execOp,f12,Sem.run_bind,ldTs _ _ _ hq];rfl) ⟨_,rfl,?_,fun j u hu hV _=>⟨hV,trivial,trivial⟩,rfl⟩
      rw [Zaa (by decide),Zaa (by decide)];exact hR
     ·have f2:a1.eval (.tmp 2) = .pointer (some ⟨z,0,none⟩):=hout 2 (by decide)
      have hst:=hR.2
      replace hR:=hR.1
      rw [hdes 5 (by kernel_rfl),if_neg (by decide)] at hR
      subst hR
      refine Zab (v:=.pointer (some ⟨rp,0,none⟩)) (w':=wr.drew) (by simp only [execOp,f2,Sem.run_bind,ldR1 _ _ wr.drew QB.out];rfl) ⟨_,rfl,?_,fun j u hu hV _=>⟨hV,trivial,trivial⟩,rfl⟩
      refine ⟨?_,by rw [Zaa (by decide)];exact hst⟩
      rw [Zaa (by decide),hdes 5 (by kernel_rfl),if_neg (by decide)]
     ·have f9:a1.eval (.tmp 9) = .slice ua used.length uc:=hout 9 (by decide)
      refine Zab (v:=.slice ua used.length uc) (w':=w1) (by simp [execOp,f9]) ⟨_,rfl,?_,fun j u hu hV _=>⟨hV,trivial,trivial⟩,rfl⟩
      rw [Zaa (by decide),Zaa (by decide)];exact hR
     ·have e66:a1.eval (.tmp 66) = .slice ua used.length uc:=hdep ⟨2,.data⟩ (by simp) rfl _ rfl
      have x66:a1.tmps[66]?.getD undef = .slice ua used.length uc:=by simpa [Act.eval] using e66
      refine Zab (v:=.int .i64 (used.length:Nat)) (w':=w1) (by simp [execOp,x66,go_sem]) ⟨_,rfl,?_,fun j u hu hV _=>⟨hV,trivial,trivial⟩,rfl⟩
      rw [Zaa (by decide),Zaa (by decide)];exact hR
     ·have e67:a1.eval (.tmp 67) = .int .i64 (used.length:Nat):=hdep ⟨3,.data⟩ (by simp) rfl _ rfl
      refine Zab (v:=.int .i64 (nn:Nat)) (w':=w1) (by simp [execOp,e67,evalC,eqgA,addI,NNW.out]) ⟨_,rfl,?_,fun j u hu hV _=>⟨hV,trivial,trivial⟩,rfl⟩
      rw [Zaa (by decide),Zaa (by decide)];exact hR
     ·have e65:a1.eval (.tmp 65) = .pointer (some ⟨rp,0,none⟩):=hdep ⟨1,.data⟩ (by simp) rfl _ rfl
      have x65:a1.tmps[65]?.getD undef = .pointer (some ⟨rp,0,none⟩):=by simpa [Act.eval] using e65
      have e68:a1.eval (.tmp 68) = .int .i64 (nn:Nat):=hdep ⟨4,.data⟩ (by simp) rfl _ rfl
      have x68:a1.tmps[68]?.getD undef = .int .i64 (nn:Nat):=by simpa [Act.eval] using e68
      have hst:=hR.2
      replace hR:=hR.1
      rw [hunf,if_neg (by decide)] at hR
      subst hR
      refine Zan (f:=117) (args:=#[.pointer (some ⟨rp,0,none⟩),.int .i64 (nn:Nat)]) (by simp [x65,x68,go_sem]) ((HGL.out).mono ?_)
      rintro e w6 ⟨hon,xv,rfl⟩
      have hon':Only (fun b=>b = rp) wr w6:=((Only.refl _ wr).drew).trans hon
      refine ⟨_,rfl,_,rfl,?_,fun j u hu hV _=>⟨(by
        have hj16:=Zih (by kernel_rfl) (fun j h=>by cases h) hu
        by_cases hj:j < 5
        ·exact Zwu hj hV
        ·have hj2:j = 5 \/ j = 6 \/ j = 7 \/ j = 8 \/ j = 9 \/ j = 10 \/ j = 11 \/ j = 12 \/ j = 13 \/ j = 14 \/ j = 15:=by
          have:j < 16:=hj16
          omega
         rcases hj2 with rfl | rfl | rfl | rfl | rfl | rfl | rfl | rfl | rfl | rfl | rfl <;> (cases (show true = false from hu.symm.trans (by kernel_rfl)))),trivial,trivial⟩,⟨xv,rfl⟩⟩
      refine ⟨?_,by rw [Zaa (by decide)];exact hst⟩
      rw [Zag hil,if_pos rfl];exact ⟨hon',trivial⟩
     ·obtain ⟨xv,e69⟩:=hdep ⟨5,.data⟩ (by simp) rfl _ rfl
      have e69':a1.eval (.tmp 69) = .tuple #[xv,.int .i64 2]:=e69
      refine Zab (v:=xv) (w':=w1) (by simp [execOp,e69',exT0]) ⟨_,rfl,?_,fun j u hu hV _=>⟨hV,trivial,trivial⟩,trivial⟩
      rw [Zaa (by decide),Zaa (by decide)];exact hR
     ·obtain ⟨xv,e69⟩:=hdep ⟨5,.data⟩ (by simp) rfl _ rfl
      have e69':a1.eval (.tmp 69) = .tuple #[xv,.int .i64 2]:=e69
      refine Zab (v:=.int .i64 2) (w':=w1) (by simp [execOp,e69',exT1]) ⟨_,rfl,?_,fun j u hu hV _=>⟨hV,trivial,trivial⟩,rfl⟩
      rw [Zaa (by decide),Zaa (by decide)];exact hR
     ·have hst:=hR.2
      replace hR:=hR.1
      rw [hanc 5 (by kernel_rfl),if_pos rfl] at hR
      have e71:a1.eval (.tmp 71) = .int .i64 2:=hdep ⟨7,.data⟩ (by simp) rfl _ rfl
      have x71:a1.tmps[71]?.getD undef = .int .i64 2:=by simpa [Act.eval] using e71
      refine Zcb (ch:=formP) (f:=112) (args:=#[a1.tmps[70]?.getD undef,.int .i64 2]) (by simp [x71,go_sem]) ((Zeu _ 2 (by decide) w1).mono ?_)
      rintro e w6 ⟨rfl,rfl⟩
      refine ⟨rfl,?_⟩
      have b4:a1.tmps.getD 4 undef = .pointer (some ⟨z + 1,0,none⟩):=by have:=hout 4 (by decide);simpa [Act.eval] using this
      have b5:a1.tmps.getD 5 undef = .pointer (some ⟨z + 1 + 1,0,none⟩):=by have:=hout 5 (by decide);simpa [Act.eval] using this
      have b6:a1.tmps.getD 6 undef = .pointer (some ⟨z + 1 + 2,0,none⟩):=by have:=hout 6 (by decide);simpa [Act.eval] using this
      have hpp:=Zav (tmps:=a1.tmps) (bs:=bs) HRN.out (HRS.out.only hR.1 (by show ¬ z + 1 = rp;omega) (by show ¬ z + 1 + 1 = rp;omega) (by show ¬ z + 1 + 2 = rp;omega)) (HOL.out.trans hR.1) (by rw [HZ.out];omega) b4 b5 b6
      have e1:a1 = { tmps:=a1.tmps,defers:=blkDef (z + 1) }:=by
       obtain ⟨at1,ad1⟩:=a1
       simp only at hdf
       subst hdf
       rfl
      rw [e1]
      exact hpp
     ·have hst:=hR.2
      rw [hanc 8 (by kernel_rfl)] at hst
      cases hst
     ·have hst:=hR.2
      rw [hanc 8 (by kernel_rfl)] at hst
      cases hst
     ·have hst:=hR.2
      rw [hanc 8 (by kernel_rfl)] at hst
      cases hst
     ·have hst:=hR.2
      rw [hanc 8 (by kernel_rfl)] at hst
      cases hst
     ·have hst:=hR.2
      rw [hanc 8 (by kernel_rfl)] at hst
      cases hst
     ·have hst:=hR.2
      rw [hanc 8 (by kernel_rfl)] at hst
      cases hst
     ·have hst:=hR.2
      rw [hanc 8 (by kernel_rfl)] at hst
      cases hst
    ·intro listed fv w1 hR hall hV
     have hst:=hall 8 (by decide)
     rw [hR.2] at hst
     cases hst
   ·obtain ⟨hl1,hl2⟩:=HLG.out lens at3 rfl
    have HL20:Hid (∀ x ∈ lens,x <= 20):=Zh (fun x hx=>(hl2 x hx).2)
    have HGL:Hid (Calls Try.prog 117 #[.pointer (some ⟨rp,0,none⟩),.int .i64 (nn:Nat)] wr.drew fun e w'=>Only (fun b=>b = rp) wr.drew w' /\ ∃ a c,e = .returned (.tuple #[.slice a lens.length c,.int .i64 0]) /\ OwnN 5 .u8 w' wr.drew.heap.size a c lens /\ RdM w' rp bs at3):=HGL0.out
    have HFL:Hid (R = (if (wordsE lens).2 = 0 then tabsL (rv bs) nn k at3 (tabs ++ [lens]) else none).bind fun t=>blk7 (rv bs) most s m pl used group t.1 t.2):=HF.out
    clear HF HLG HGL0 hl1 hl2
    by_cases hee:(wordsE lens).2 = 0
    ·rw [if_pos hee] at HFL
     have HEE:=Zh hee
     clear hee
     go_wp2_with fail
     refine Zbb [64,65,66,67,68,69,70,71,72,73,74,75,76,77,78] (fun j=>false) (fun listed w1=>if listed.getD 15 false = true then (∃ p a7 c7 lo hi,w1.heap[cb]? = some (.cells #[.slice a7 (ps.length + 1) c7] 146 (0,0)) /\ OwnS encP 111 w1 CB a7 c7 (ps ++ [p]) /\ Tb lo hi w1 p lens /\ wr.heap.size <= lo /\ (∀ g,a7 = some ⟨g,0,none⟩ -> ca = some ⟨g,0,none⟩ \/ hi <= g) /\ RdM w1 rp bs at3 /\ Only (fun b=>b = rp \/ b = cb \/ ca = some ⟨b,0,none⟩) wr w1) else if listed.getD 14 false = true then (w1.heap[cb]? = wr.heap[cb]? /\ RdM w1 rp bs at3 /\ Only (fun b=>b = rp \/ b = cb \/ ca = some ⟨b,0,none⟩) wr w1) else if listed.getD 5 false = true then (Only (fun b=>b = rp) wr w1 /\ RdM w1 rp bs at3) else w1 = wr.drew) (tabV (.slice ca ps.length cc) rp (.slice ua used.length uc) used.length nn wr.heap.size CB ps.length (wordsE lens).2 ps lens ca) (fun _ _ _ _=>True) (by kernel_rfl) (by kernel_rfl) (OneEach.mk' (by kernel_rfl) (by kernel_rfl)) (by kernel_rfl) (by kernel_rfl) (by simp) ?_ ?_
     ·intro i0 o hi0 listed a1 w1 hR hil hunf hdes hanc hout hdf hdep
      have hsz:i0 < 16:=(Array.getElem?_eq_some_iff.1 hi0).1
      have hall:i0 = 0 \/ i0 = 1 \/ i0 = 2 \/ i0 = 3 \/ i0 = 4 \/ i0 = 5 \/ i0 = 6 \/ i0 = 7 \/ i0 = 8 \/ i0 = 9 \/ i0 = 10 \/ i0 = 11 \/ i0 = 12 \/ i0 = 13 \/ i0 = 14 \/ i0 = 15:=by omega
      clear hsz
      rcases hall with rfl | rfl | rfl | rfl | rfl | rfl | rfl | rfl | rfl | rfl | rfl | rfl | rfl | rfl | rfl | rfl <;> simp only [List.getElem?_toArray,List.getElem?_cons_zero,List.getElem?_cons_succ,Option.some.injEq] at hi0 <;> subst hi0
      ·have f12:a1.eval (.tmp 12) = .pointer (some ⟨cb,0,none⟩):=hout 12 (by decide)
       have hq:w1.cell? ⟨cb,0,none⟩ = some (.slice ca ps.length cc):=by
        rw [hdes 15 (by kernel_rfl),hdes 14 (by kernel_rfl),if_neg (by decide),if_neg (by decide)] at hR
        by_cases h5:listed.getD 5 false = true
        ·rw [if_pos h5] at hR;exact Zbk (A:=wr) QC.out hR.1 (by show cb ≠ rp;omega)
        ·rw [if_neg h5] at hR
         subst hR
         exact QC.out
       refine Zab (v:=.slice ca ps.length cc) (w':=w1) (by simp only [execOp,f12,Sem.run_bind,ldTs _ _ _ hq];rfl) ⟨_,rfl,?_,fun j u hu hV _=>⟨hV,trivial,trivial⟩,rfl⟩
       rw [Zaa (by decide),Zaa (by decide),Zaa (by decide)];exact hR
      ·have f2:a1.eval (.tmp 2) = .pointer (some ⟨z,0,none⟩):=hout 2 (by decide)
       rw [hdes 15 (by kernel_rfl),hdes 14 (by kernel_rfl),hdes 5 (by kernel_rfl),if_neg (by decide),if_neg (by decide),if_neg (by decide)] at hR
       subst hR
       refine Zab (v:=.pointer (some ⟨rp,0,none⟩)) (w':=wr.drew) (by simp only [execOp,f2,Sem.run_bind,ldR1 _ _ wr.drew QB.out];rfl) ⟨_,rfl,?_,fun j u hu hV _=>⟨hV,trivial,trivial⟩,rfl⟩
       rw [Zaa (by decide),Zaa (by decide),Zaa (by decide),hdes 15 (by kernel_rfl),hdes 14 (by kernel_rfl),hdes 5 (by kernel_rfl),if_neg (by decide),if_neg (by decide),if_neg (by decide)]
      ·have f9:a1.eval (.tmp 9) = .slice ua used.length uc:=hout 9 (by decide)
       refine Zab (v:=.slice ua used.length uc) (w':=w1) (by simp [execOp,f9]) ⟨_,rfl,?_,fun j u hu hV _=>⟨hV,trivial,trivial⟩,rfl⟩
       rw [Zaa (by decide),Zaa (by decide),Zaa (by decide)];exact hR
      ·have e66:a1.eval (.tmp 66) = .slice ua used.length uc:=hdep ⟨2,.data⟩ (by simp) rfl _ rfl
       have x66:a1.tmps[66]?.getD undef = .slice ua used.length uc:=by simpa [Act.eval] using e66
       refine Zab (v:=.int .i64 (used.length:Nat)) (w':=w1) (by simp [execOp,x66,go_sem]) ⟨_,rfl,?_,fun j u hu hV _=>⟨hV,trivial,trivial⟩,rfl⟩
       rw [Zaa (by decide),Zaa (by decide),Zaa (by decide)];exact hR
      ·have e67:a1.eval (.tmp 67) = .int .i64 (used.length:Nat):=hdep ⟨3,.data⟩ (by simp) rfl _ rfl
       refine Zab (v:=.int .i64 (nn:Nat)) (w':=w1) (by simp [execOp,e67,evalC,eqgA,addI,NNW.out]) ⟨_,rfl,?_,fun j u hu hV _=>⟨hV,trivial,trivial⟩,rfl⟩
       rw [Zaa (by decide),Zaa (by decide),Zaa (by decide)];exact hR
      ·have e65:a1.eval (.tmp 65) = .pointer (some ⟨rp,0,none⟩):=hdep ⟨1,.data⟩ (by simp) rfl _ rfl
       have x65:a1.tmps[65]?.getD undef = .pointer (some ⟨rp,0,none⟩):=by simpa [Act.eval] using e65
       have e68:a1.eval (.tmp 68) = .int .i64 (nn:Nat):=hdep ⟨4,.data⟩ (by simp) rfl _ rfl
       have x68:a1.tmps[68]?.getD undef = .int .i64 (nn:Nat):=by simpa [Act.eval] using e68
       rw [hdes 15 (by kernel_rfl),hdes 14 (by kernel_rfl),hunf,if_neg (by decide),if_neg (by decide),if_neg (by decide)] at hR
       subst hR
       refine Zan (f:=117) (args:=#[.pointer (some ⟨rp,0,none⟩),.int .i64 (nn:Nat)]) (by simp [x65,x68,go_sem]) ((HGL.out).mono ?_)
       rintro e w6 ⟨hon,la,lc,rfl,hlo,hrd⟩
       have hon':Only (fun b=>b = rp) wr w6:=((Only.refl _ wr).drew).trans hon
       refine ⟨_,rfl,_,rfl,?_,fun j u hu hV _=>⟨(by
         have hj16:=Zih (by kernel_rfl) (fun j h=>by cases h) hu
         by_cases hj:j < 5
         ·exact Zhn hj hV
         ·have hj2:j = 5 \/ j = 6 \/ j = 7 \/ j = 8 \/ j = 9 \/ j = 10 \/ j = 11 \/ j = 12 \/ j = 13 \/ j = 14 \/ j = 15:=by
           have:j < 16:=hj16
           omega
          rcases hj2 with rfl | rfl | rfl | rfl | rfl | rfl | rfl | rfl | rfl | rfl | rfl <;> (cases (show true = false from hu.symm.trans (by kernel_rfl)))),trivial,trivial⟩,⟨la,lc,rfl,hlo.row⟩⟩
       rw [Zaa (by decide),Zaa (by decide),Zag hil,hdes 15 (by kernel_rfl),hdes 14 (by kernel_rfl),if_neg (by decide),if_neg (by decide),if_pos rfl];exact ⟨hon',hrd⟩
      ·obtain ⟨la,lc,e69,hlr⟩:=hdep ⟨5,.data⟩ (by simp) rfl _ rfl
       have e69':a1.eval (.tmp 69) = .tuple #[.slice la lens.length lc,.int .i64 0]:=e69
       refine Zab (v:=.slice la lens.length lc) (w':=w1) (by simp [execOp,e69',exT0]) ⟨_,rfl,?_,fun j u hu hV _=>⟨hV,trivial,trivial⟩,la,lc,rfl,hlr⟩
       rw [Zaa (by decide),Zaa (by decide),Zaa (by decide)];exact hR
      ·obtain ⟨la,lc,e69,hlr⟩:=hdep ⟨5,.data⟩ (by simp) rfl _ rfl
       have e69':a1.eval (.tmp 69) = .tuple #[.slice la lens.length lc,.int .i64 0]:=e69
       refine Zab (v:=.int .i64 0) (w':=w1) (by simp [execOp,e69',exT1]) ⟨_,rfl,?_,fun j u hu hV _=>⟨hV,trivial,trivial⟩,rfl⟩
       rw [Zaa (by decide),Zaa (by decide),Zaa (by decide)];exact hR
      ·obtain ⟨la,lc,e70,hlr⟩:=hdep ⟨6,.data⟩ (by simp) rfl _ rfl
       have e70':a1.eval (.tmp 70) = .slice la lens.length lc:=e70
       have e71:a1.eval (.tmp 71) = .int .i64 0:=hdep ⟨7,.data⟩ (by simp) rfl _ rfl
       have x70:a1.tmps[70]?.getD undef = .slice la lens.length lc:=by simpa [Act.eval] using e70'
       have x71:a1.tmps[71]?.getD undef = .int .i64 0:=by simpa [Act.eval] using e71
       refine Zan (f:=112) (args:=#[.slice la lens.length lc,.int .i64 0]) (by simp [x70,x71,go_sem]) ((Zdi _ w1).mono ?_)
       rintro e w6 ⟨rfl,rfl⟩
       refine ⟨_,rfl,_,rfl,?_,fun j u hu hV _=>⟨hV,trivial,trivial⟩,la,lc,rfl,hlr⟩
       rw [Zaa (by decide),Zaa (by decide),Zaa (by decide)];exact hR
      ·rw [hdes 15 (by kernel_rfl),hdes 14 (by kernel_rfl),hanc 5 (by kernel_rfl),if_neg (by decide),if_neg (by decide),if_pos rfl] at hR
       obtain ⟨la,lc,e72,hlr⟩:=hdep ⟨8,.data⟩ (by simp) rfl _ rfl
       have e72':a1.eval (.tmp 72) = .slice la lens.length lc:=e72
       have x72:a1.tmps[72]?.getD undef = .slice la lens.length lc:=by simpa [Act.eval] using e72'
       refine Zan (f:=80) (args:=#[.slice la lens.length lc]) (by simp [x72,go_sem]) ((Zjq la lc lens w1 hlr).mono ?_)
       rintro e w6 ⟨hb6,hnew⟩
       have hz1:=hR.1.size
       rw [if_pos HEE.out] at hnew
       obtain ⟨p,rfl,htb⟩:=hnew
       refine ⟨_,rfl,_,rfl,?_,fun j u hu hV _=>⟨Zgk hb6 hV,trivial,trivial⟩,_,(by rw [HEE.out];rfl),fun _=>⟨p,rfl,w1.heap.size,w6.heap.size,htb,hz1⟩⟩
       rw [Zaa (by decide),Zaa (by decide),Zaa (by decide),hdes 15 (by kernel_rfl),hdes 14 (by kernel_rfl),hanc 5 (by kernel_rfl),if_neg (by decide),if_neg (by decide),if_pos rfl]
       exact ⟨hR.1.below hb6,hR.2.below hb6⟩
      ·obtain ⟨xv,e73,hxv⟩:=hdep ⟨9,.data⟩ (by simp) rfl _ rfl
       have e73':a1.eval (.tmp 73) = .tuple #[xv,.int .i64 ((wordsE lens).2:Nat)]:=e73
       refine Zab (v:=xv) (w':=w1) (by simp only [execOp,e73',Sem.run_bind,exT0];rfl) ⟨_,rfl,?_,fun j u hu hV _=>⟨hV,trivial,trivial⟩,hxv⟩
       rw [Zaa (by decide),Zaa (by decide),Zaa (by decide)];exact hR
      ·obtain ⟨xv,e73,hxv⟩:=hdep ⟨9,.data⟩ (by simp) rfl _ rfl
       have e73':a1.eval (.tmp 73) = .tuple #[xv,.int .i64 ((wordsE lens).2:Nat)]:=e73
       refine Zab (v:=.int .i64 ((wordsE lens).2:Nat)) (w':=w1) (by simp only [execOp,e73',Sem.run_bind,exT1];rfl) ⟨_,rfl,?_,fun j u hu hV _=>⟨hV,trivial,trivial⟩,rfl⟩
       rw [Zaa (by decide),Zaa (by decide),Zaa (by decide)];exact hR
      ·obtain ⟨p,e74,htx⟩:=hdep ⟨10,.data⟩ (by simp) rfl _ rfl HEE.out
       have e74':a1.eval (.tmp 74) = .pointer (some ⟨p,0,none⟩):=e74
       have e75:a1.eval (.tmp 75) = .int .i64 ((wordsE lens).2:Nat):=hdep ⟨11,.data⟩ (by simp) rfl _ rfl
       have x74:a1.tmps[74]?.getD undef = .pointer (some ⟨p,0,none⟩):=by simpa [Act.eval] using e74'
       have x75:a1.tmps[75]?.getD undef = .int .i64 0:=by rw [show ((wordsE lens).2:Nat) = 0 from HEE.out] at e75;simpa [Act.eval] using e75
       refine Zan (f:=116) (args:=#[.pointer (some ⟨p,0,none⟩),.int .i64 0]) (by simp [x74,x75,go_sem]) ((Zrh _ w1).mono ?_)
       rintro e w6 ⟨rfl,rfl⟩
       refine ⟨_,rfl,_,rfl,?_,fun j u hu hV _=>⟨hV,trivial,trivial⟩,p,rfl,htx⟩
       rw [Zaa (by decide),Zaa (by decide),Zaa (by decide)];exact hR
      ·rw [hdes 15 (by kernel_rfl),hdes 14 (by kernel_rfl),hanc 5 (by kernel_rfl),if_neg (by decide),if_neg (by decide),if_pos rfl] at hR
       obtain ⟨p,e76,htx⟩:=hdep ⟨12,.data⟩ (by simp) rfl _ rfl
       have e76':a1.eval (.tmp 76) = .pointer (some ⟨p,0,none⟩):=e76
       refine Zab (v:=.slice (some ⟨w1.heap.size,0,none⟩) 1 1) (w':=w1.alloc (.cells #[.pointer (some ⟨p,0,none⟩)] 111)) (by have hh:=bsT p w1;simp only [execOp];simp [e76',hh]) ⟨_,rfl,?_,fun j u hu hV _=>⟨Zgk (Zai w1 _) hV,trivial,trivial⟩,p,w1.heap.size,rfl,RowS.lit encP w1 [p] 111 _ w1.heap.size rfl rfl (by simp),htx.below (Zai w1 _)⟩
       rw [Zaa (by decide),Zaa (by decide),Zaa (by decide),hdes 15 (by kernel_rfl),hdes 14 (by kernel_rfl),hanc 5 (by kernel_rfl),if_neg (by decide),if_neg (by decide),if_pos rfl]
       exact ⟨hR.1.alloc _,hR.2.below (Zai w1 _)⟩
      ·rw [hdes 15 (by kernel_rfl),hunf,hanc 5 (by kernel_rfl),if_neg (by decide),if_neg (by decide),if_pos rfl] at hR
       have e64:a1.eval (.tmp 64) = .slice ca ps.length cc:=hdep ⟨0,.data⟩ (by simp) rfl _ rfl
       obtain ⟨p,lb,e77,hr6,lo,hi,htb,hlo⟩:=hdep ⟨13,.data⟩ (by simp) rfl _ rfl
       have e77':a1.eval (.tmp 77) = .slice (some ⟨lb,0,none⟩) 1 1:=e77
       have hz1:=hR.1.size
       have how:OwnS encP 111 w1 CB ca cc ps:=HCO.out.only hR.1 (fun b hb=>by show b ≠ rp;omega)
       obtain ⟨a7,c7,w7,ho7,hb7,hg7,happ⟩:=appSEq (m:=1) Zzu 146 how rfl (ys:=[p]) rfl hr6 HN1.out HN2.out (Nat.le_trans hCB hz1)
       refine Zab (v:=.slice a7 (ps.length + 1) c7) (w':=w7) (by simp [execOp,resolve,invoke,builtin,e64,e77',happ,Result.andThen]) ⟨_,rfl,?_,fun j u hu hV _=>⟨(by
         have hj16:=Zih (by kernel_rfl) (fun j h=>by cases h) hu
         by_cases hj:j < 5
         ·exact Zhn hj hV
         ·have hj2:j = 5 \/ j = 6 \/ j = 7 \/ j = 8 \/ j = 9 \/ j = 10 \/ j = 11 \/ j = 12 \/ j = 13 \/ j = 14 \/ j = 15:=by
           have:j < 16:=hj16
           omega
          rcases hj2 with rfl | rfl | rfl | rfl | rfl | rfl | rfl | rfl | rfl | rfl | rfl <;> (cases (show true = false from hu.symm.trans (by kernel_rfl)))),trivial,trivial⟩,p,a7,c7,rfl,ho7,lo,hi,htb.only hb7 (fun b h1 h2=>by
         intro h3
         have:=HCL.out b h3
         omega),hlo,fun g hg=>by
          rcases hg7 g hg with h | h
          ·exact .inl h
          ·exact .inr (Nat.le_trans htb.hi_le h)⟩
       rw [Zaa (by decide),Zag hil,hdes 15 (by kernel_rfl),if_neg (by decide),if_pos rfl]
       refine ⟨(hb7.block cb (by omega) (fun h=>by have:=HCL.out _ h;omega)).trans (hR.1.block cb hcbs (by show cb ≠ rp;omega)),hR.2.only hb7 (fun b hb h=>by have:=HCL.out _ h;omega),?_⟩
       exact (hR.1.mono (fun k _ h=>.inl h)).trans (hb7.mono (fun k _ h=>.inr (.inr h)))
      ·rw [hunf,hanc 14 (by kernel_rfl),if_neg (by decide),if_pos rfl] at hR
       obtain ⟨hR1,hR2,hR3⟩:=hR
       have f12:a1.eval (.tmp 12) = .pointer (some ⟨cb,0,none⟩):=hout 12 (by decide)
       obtain ⟨p,a7,c7,e78,ho7,lo,hi,htb,hlo,hg7⟩:=hdep ⟨14,.data⟩ (by simp) rfl _ rfl
       have e78':a1.eval (.tmp 78) = .slice a7 (ps.length + 1) c7:=e78
       have hf7:w1.heap[cb]? = some (.cells #[.slice ca ps.length cc] 146 (0,0)):=hR1.trans HC.out
       have hOs:Only (fun b=>b = cb) w1 (w1.setCell ⟨cb,0,none⟩ (.slice a7 (ps.length + 1) c7)):=(Only.refl (fun b=>b = cb) w1).setCell (p:=⟨cb,0,none⟩) (.inl rfl) _
       refine Zbw (w':=w1.setCell ⟨cb,0,none⟩ (.slice a7 (ps.length + 1) c7)) (by simp only [execOp,f12,e78'];rw [Sem.run_bind,stTs _ _ _ _ _ _ (cell_of_one hf7) (Zam hf7)];rfl) ⟨undef,rfl,?_,fun j u hu hV _=>⟨(by
         have hj16:=Zih (by kernel_rfl) (fun j h=>by cases h) hu
         by_cases hj:j < 5
         ·exact Zhn hj hV
         ·have hj2:j = 5 \/ j = 6 \/ j = 7 \/ j = 8 \/ j = 9 \/ j = 10 \/ j = 11 \/ j = 12 \/ j = 13 \/ j = 14 \/ j = 15:=by
           have:j < 16:=hj16
           omega
          rcases hj2 with rfl | rfl | rfl | rfl | rfl | rfl | rfl | rfl | rfl | rfl | rfl <;> (cases (show true = false from hu.symm.trans (by kernel_rfl)))),trivial,trivial⟩,trivial⟩
       rw [Zag hil,if_pos rfl]
       exact ⟨p,a7,c7,lo,hi,one_setCell hf7,ho7.only hOs (fun b hb=>by show b ≠ cb;omega),htb.only hOs (fun b h1 h2=>by show b ≠ cb;omega),hlo,hg7,hR2.only hOs (fun b hb=>by show b ≠ cb;omega),hR3.trans (hOs.mono (fun k _ h=>.inr (.inl h)))⟩
     ·intro listed fv w1 hR hall hV
      rw [if_pos (hall 15 (by decide))] at hR
      obtain ⟨p,a7,c7,lo,hi,k1,k2,k3,k4,k5,k6,k7⟩:=hR
      simp only [spread,List.contains_cons,List.contains_nil,Nat.reduceBEq,Bool.or_false,Bool.or_true,cond_true,cond_false,Nat.reduceAdd,Nat.zero_add]
      have HK1:=Zh k1
      have HK2:=Zh k2
      have HK6:=Zh k6
      have HK7:=Zh k7
      have HTN:=Zh (HTO.out.next k7 (show rp < CB by omega) (show cb < CB by omega) k3 k4 hCB k5 (fun g hg=>by have:=HCL.out g hg;omega) HL20.out)
      clear k1 k2 k3 k4 k5 k6 k7 hall hV
      have HNT:Hid (∀ b,b <= gb -> b ≠ rp -> ¬ (b = rp \/ b = cb \/ ca = some ⟨b,0,none⟩)):=Zh (fun b h1 h2 h3=>by
       rcases h3 with h3 | h3 | h3
       ·exact h2 h3
       ·omega
       ·have:=(HCL.out b h3).1;omega)
      have hz1:=HK7.out.size
      go_wp2_with fail
      go_roundw
      case rel =>
       refine ⟨i + 1,at3,tabs ++ [lens],ps ++ [p],a7,c7,by go_num,by omega,by rw [List.length_append,HTL.out];rfl,HK6.out,Zac HG.out HK7.out (HNT.out gb (Nat.le_refl _) (by omega)),by rw [List.length_append];exact HK1.out,HK2.out,HTN.out,HRS.out.only HK7.out (HNT.out _ (by omega) (by omega)) (HNT.out _ (by omega) (by omega)) (HNT.out _ (by omega) (by omega)),Zac HBX.out HK7.out (HNT.out _ (by omega) (by omega)),?_,?_,?_,by omega,by rw [HKM.out];exact HFL.out⟩
       ·exact ⟨HK7.out.os.trans HOL.out.os,HK7.out.tape.trans HOL.out.tape,HK7.out.output.trans HOL.out.output,Nat.le_trans HOL.out.size hz1,fun b hb hT=>(HK7.out.block b (Nat.lt_of_lt_of_le hb HOL.out.size) (HNT.out b (by rw [HZ.out] at hb;omega) hT)).trans (HOL.out.block b hb hT)⟩
       ·exact HURW.out.same hz1 (fun x h0 hx=>HK7.out.block _ (by have:=(HUB.out x hx).2;omega) (HNT.out _ (by have:=(HUB.out x hx).2;omega) (HUB.out x hx).1))
       ·exact HGRW.out.same hz1 (fun x h0 hx=>HK7.out.block _ (by have:=(HGB.out x hx).2;omega) (HNT.out _ (by have:=(HGB.out x hx).2;omega) (HGB.out x hx).1))
      case measure=>simp [intOf];omega
    ·rw [if_neg hee] at HFL
     have HRN:Hid (R = none):=HFL.out
     have HEE:=Zh hee
     clear hee HFL
     go_wp2_with fail
     refine Zbb [64,65,66,67,68,69,70,71,72,73,74,75,76,77,78] (fun j=>false) (fun listed w1=>(if listed.getD 5 false = true then (Only (fun b=>b = rp) wr w1 /\ RdM w1 rp bs at3) else w1 = wr.drew) /\ listed.getD 12 false = false) (tabV (.slice ca ps.length cc) rp (.slice ua used.length uc) used.length nn wr.heap.size CB ps.length (wordsE lens).2 ps lens ca) (fun _ _ _ _=>True) (by kernel_rfl) (by kernel_rfl) (OneEach.mk' (by kernel_rfl) (by kernel_rfl)) (by kernel_rfl) (by kernel_rfl) ⟨by simp,by simp⟩ ?_ ?_
     ·intro i0 o hi0 listed a1 w1 hR hil hunf hdes hanc hout hdf hdep
      have hsz:i0 < 16:=(Array.getElem?_eq_some_iff.1 hi0).1
      have hall:i0 = 0 \/ i0 = 1 \/ i0 = 2 \/ i0 = 3 \/ i0 = 4 \/ i0 = 5 \/ i0 = 6 \/ i0 = 7 \/ i0 = 8 \/ i0 = 9 \/ i0 = 10 \/ i0 = 11 \/ i0 = 12 \/ i0 = 13 \/ i0 = 14 \/ i0 = 15:=by omega
      clear hsz
      rcases hall with rfl | rfl | rfl | rfl | rfl | rfl | rfl | rfl | rfl | rfl | rfl | rfl | rfl | rfl | rfl | rfl <;> simp only [List.getElem?_toArray,List.getElem?_cons_zero,List.getElem?_cons_succ,Option.some.injEq] at hi0 <;> subst hi0
      ·have f12:a1.eval (.tmp 12) = .pointer (some ⟨cb,0,none⟩):=hout 12 (by decide)
       have hq:w1.cell? ⟨cb,0,none⟩ = some (.slice ca ps.length cc):=by
        replace hR:=hR.1
        by_cases h5:listed.getD 5 false = true
        ·rw [if_pos h5] at hR;exact Zbk (A:=wr) QC.out hR.1 (by show cb ≠ rp;omega)
        ·rw [if_neg h5] at hR
         subst hR
         exact QC.out
       refine Zab (v:=.slice ca ps.length cc) (w':=w1) (by simp only [execOp,f12,Sem.run_bind,ldTs _ _ _ hq];rfl) ⟨_,rfl,?_,fun j u hu hV _=>⟨hV,trivial,trivial⟩,rfl⟩
       rw [Zaa (by decide),Zaa (by decide)];exact hR
      ·have f2:a1.eval (.tmp 2) = .pointer (some ⟨z,0,none⟩):=hout 2 (by decide)
       have hst:=hR.2
       replace hR:=hR.1
       rw [hdes 5 (by kernel_rfl),if_neg (by decide)] at hR
       subst hR
       refine Zab (v:=.pointer (some ⟨rp,0,none⟩)) (w':=wr.drew) (by simp only [execOp,f2,Sem.run_bind,ldR1 _ _ wr.drew QB.out];rfl) ⟨_,rfl,?_,fun j u hu hV _=>⟨hV,trivial,trivial⟩,rfl⟩
       refine ⟨?_,by rw [Zaa (by decide)];exact hst⟩
       rw [Zaa (by decide),hdes 5 (by kernel_rfl),if_neg (by decide)]
      ·have f9:a1.eval (.tmp 9) = .slice ua used.length uc:=hout 9 (by decide)
       refine Zab (v:=.slice ua used.length uc) (w':=w1) (by simp [execOp,f9]) ⟨_,rfl,?_,fun j u hu hV _=>⟨hV,trivial,trivial⟩,rfl⟩
       rw [Zaa (by decide),Zaa (by decide)];exact hR
      ·have e66:a1.eval (.tmp 66) = .slice ua used.length uc:=hdep ⟨2,.data⟩ (by simp) rfl _ rfl
       have x66:a1.tmps[66]?.getD undef = .slice ua used.length uc:=by simpa [Act.eval] using e66
       refine Zab (v:=.int .i64 (used.length:Nat)) (w':=w1) (by simp [execOp,x66,go_sem]) ⟨_,rfl,?_,fun j u hu hV _=>⟨hV,trivial,trivial⟩,rfl⟩
       rw [Zaa (by decide),Zaa (by decide)];exact hR
      ·have e67:a1.eval (.tmp 67) = .int .i64 (used.length:Nat):=hdep ⟨3,.data⟩ (by simp) rfl _ rfl
       refine Zab (v:=.int .i64 (nn:Nat)) (w':=w1) (by simp [execOp,e67,evalC,eqgA,addI,NNW.out]) ⟨_,rfl,?_,fun j u hu hV _=>⟨hV,trivial,trivial⟩,rfl⟩
       rw [Zaa (by decide),Zaa (by decide)];exact hR
      ·have e65:a1.eval (.tmp 65) = .pointer (some ⟨rp,0,none⟩):=hdep ⟨1,.data⟩ (by simp) rfl _ rfl
       have x65:a1.tmps[65]?.getD undef = .pointer (some ⟨rp,0,none⟩):=by simpa [Act.eval] using e65
       have e68:a1.eval (.tmp 68) = .int .i64 (nn:Nat):=hdep ⟨4,.data⟩ (by simp) rfl _ rfl
       have x68:a1.tmps[68]?.getD undef = .int .i64 (nn:Nat):=by simpa [Act.eval] using e68
       have hst:=hR.2
       replace hR:=hR.1
       rw [hunf,if_neg (by decide)] at hR
       subst hR
       refine Zan (f:=117) (args:=#[.pointer (some ⟨rp,0,none⟩),.int .i64 (nn:Nat)]) (by simp [x65,x68,go_sem]) ((HGL.out).mono ?_)
       rintro e w6 ⟨hon,la,lc,rfl,hlo,hrd⟩
       have hon':Only (fun b=>b = rp) wr w6:=((Only.refl _ wr).drew).trans hon
       refine ⟨_,rfl,_,rfl,?_,fun j u hu hV _=>⟨(by
         have hj16:=Zih (by kernel_rfl) (fun j h=>by cases h) hu
         by_cases hj:j < 5
         ·exact Zhn hj hV
         ·have hj2:j = 5 \/ j = 6 \/ j = 7 \/ j = 8 \/ j = 9 \/ j = 10 \/ j = 11 \/ j = 12 \/ j = 13 \/ j = 14 \/ j = 15:=by
           have:j < 16:=hj16
           omega
          rcases hj2 with rfl | rfl | rfl | rfl | rfl | rfl | rfl | rfl | rfl | rfl | rfl <;> (cases (show true = false from hu.symm.trans (by kernel_rfl)))),trivial,trivial⟩,⟨la,lc,rfl,hlo.row⟩⟩
       refine ⟨?_,by rw [Zaa (by decide)];exact hst⟩
       rw [Zag hil,if_pos rfl];exact ⟨hon',hrd⟩
      ·obtain ⟨la,lc,e69,hlr⟩:=hdep ⟨5,.data⟩ (by simp) rfl _ rfl
       have e69':a1.eval (.tmp 69) = .tuple #[.slice la lens.length lc,.int .i64 0]:=e69
       refine Zab (v:=.slice la lens.length lc) (w':=w1) (by simp [execOp,e69',exT0]) ⟨_,rfl,?_,fun j u hu hV _=>⟨hV,trivial,trivial⟩,la,lc,rfl,hlr⟩
       rw [Zaa (by decide),Zaa (by decide)];exact hR
      ·obtain ⟨la,lc,e69,hlr⟩:=hdep ⟨5,.data⟩ (by simp) rfl _ rfl
       have e69':a1.eval (.tmp 69) = .tuple #[.slice la lens.length lc,.int .i64 0]:=e69
       refine Zab (v:=.int .i64 0) (w':=w1) (by simp [execOp,e69',exT1]) ⟨_,rfl,?_,fun j u hu hV _=>⟨hV,trivial,trivial⟩,rfl⟩
       rw [Zaa (by decide),Zaa (by decide)];exact hR
      ·obtain ⟨la,lc,e70,hlr⟩:=hdep ⟨6,.data⟩ (by simp) rfl _ rfl
       have e70':a1.eval (.tmp 70) = .slice la lens.length lc:=e70
       have e71:a1.eval (.tmp 71) = .int .i64 0:=hdep ⟨7,.data⟩ (by simp) rfl _ rfl
       have x70:a1.tmps[70]?.getD undef = .slice la lens.length lc:=by simpa [Act.eval] using e70'
       have x71:a1.tmps[71]?.getD undef = .int .i64 0:=by simpa [Act.eval] using e71
       refine Zan (f:=112) (args:=#[.slice la lens.length lc,.int .i64 0]) (by simp [x70,x71,go_sem]) ((Zdi _ w1).mono ?_)
       rintro e w6 ⟨rfl,rfl⟩
       refine ⟨_,rfl,_,rfl,?_,fun j u hu hV _=>⟨hV,trivial,trivial⟩,la,lc,rfl,hlr⟩
       rw [Zaa (by decide),Zaa (by decide)];exact hR
      ·have hst:=hR.2
       replace hR:=hR.1
       rw [hanc 5 (by kernel_rfl),if_pos rfl] at hR
       obtain ⟨la,lc,e72,hlr⟩:=hdep ⟨8,.data⟩ (by simp) rfl _ rfl
       have e72':a1.eval (.tmp 72) = .slice la lens.length lc:=e72
       have x72:a1.tmps[72]?.getD undef = .slice la lens.length lc:=by simpa [Act.eval] using e72'
       refine Zan (f:=80) (args:=#[.slice la lens.length lc]) (by simp [x72,go_sem]) ((Zjq la lc lens w1 hlr).mono ?_)
       rintro e w6 ⟨hb6,hnew⟩
       have hz1:=hR.1.size
       rw [if_neg HEE.out] at hnew
       subst hnew
       refine ⟨_,rfl,_,rfl,?_,fun j u hu hV _=>⟨Zgk hb6 hV,trivial,trivial⟩,_,rfl,fun e=>absurd e HEE.out⟩
       refine ⟨?_,by rw [Zaa (by decide)];exact hst⟩
       rw [Zaa (by decide),hanc 5 (by kernel_rfl),if_pos rfl]
       exact ⟨hR.1.below hb6,hR.2.below hb6⟩
      ·obtain ⟨xv,e73,hxv⟩:=hdep ⟨9,.data⟩ (by simp) rfl _ rfl
       have e73':a1.eval (.tmp 73) = .tuple #[xv,.int .i64 ((wordsE lens).2:Nat)]:=e73
       refine Zab (v:=xv) (w':=w1) (by simp only [execOp,e73',Sem.run_bind,exT0];rfl) ⟨_,rfl,?_,fun j u hu hV _=>⟨hV,trivial,trivial⟩,hxv⟩
       rw [Zaa (by decide),Zaa (by decide)];exact hR
      ·obtain ⟨xv,e73,hxv⟩:=hdep ⟨9,.data⟩ (by simp) rfl _ rfl
       have e73':a1.eval (.tmp 73) = .tuple #[xv,.int .i64 ((wordsE lens).2:Nat)]:=e73
       refine Zab (v:=.int .i64 ((wordsE lens).2:Nat)) (w':=w1) (by simp only [execOp,e73',Sem.run_bind,exT1];rfl) ⟨_,rfl,?_,fun j u hu hV _=>⟨hV,trivial,trivial⟩,rfl⟩
       rw [Zaa (by decide),Zaa (by decide)];exact hR
      ·have hst:=hR.2
       replace hR:=hR.1
       rw [hanc 5 (by kernel_rfl),if_pos rfl] at hR
       have e75:a1.eval (.tmp 75) = .int .i64 ((wordsE lens).2:Nat):=hdep ⟨11,.data⟩ (by simp) rfl _ rfl
       have x75:a1.tmps[75]?.getD undef = .int .i64 ((wordsE lens).2:Nat):=by simpa [Act.eval] using e75
       refine Zcb (ch:=formP) (f:=116) (args:=#[a1.tmps[74]?.getD undef,.int .i64 ((wordsE lens).2:Nat)]) (by simp [x75,go_sem]) ((Zrg _ (wordsE lens).2 HEE.out w1).mono ?_)
       rintro e w6 ⟨rfl,rfl⟩
       refine ⟨rfl,?_⟩
       have b4:a1.tmps.getD 4 undef = .pointer (some ⟨z + 1,0,none⟩):=by have:=hout 4 (by decide);simpa [Act.eval] using this
       have b5:a1.tmps.getD 5 undef = .pointer (some ⟨z + 1 + 1,0,none⟩):=by have:=hout 5 (by decide);simpa [Act.eval] using this
       have b6:a1.tmps.getD 6 undef = .pointer (some ⟨z + 1 + 2,0,none⟩):=by have:=hout 6 (by decide);simpa [Act.eval] using this
       have hpp:=Zav (tmps:=a1.tmps) (bs:=bs) HRN.out (HRS.out.only hR.1 (by show ¬ z + 1 = rp;omega) (by show ¬ z + 1 + 1 = rp;omega) (by show ¬ z + 1 + 2 = rp;omega)) (HOL.out.trans hR.1) (by rw [HZ.out];omega) b4 b5 b6
       have e1:a1 = { tmps:=a1.tmps,defers:=blkDef (z + 1) }:=by
        obtain ⟨at1,ad1⟩:=a1
        simp only at hdf
        subst hdf
        rfl
       rw [e1]
       exact hpp
      ·have hst:=hR.2
       rw [hanc 12 (by kernel_rfl)] at hst
       cases hst
      ·have hst:=hR.2
       rw [hanc 12 (by kernel_rfl)] at hst
       cases hst
      ·have hst:=hR.2
       rw [hanc 12 (by kernel_rfl)] at hst
       cases hst
     ·intro listed fv w1 hR hall hV
      have hst:=hall 12 (by decide)
      rw [hR.2] at hst
      cases hst
  ·obtain rfl:i = mn:=by omega
   have HF11:Hid (R = blk7 (rv bs) most s m pl used group tabs at2):=by unfold Hid;rw [HF.out,Nat.sub_self];rfl
   clear HF hlt hi
   go_wp2_with fail
   obtain ⟨sb,hsb⟩:∃ sb,wr.heap.size = sb:=⟨_,rfl⟩
   obtain ⟨W1,hW1⟩:∃ W1,W1 = wr.alloc (.cells #[.slice none 0 0] 103):=⟨_,rfl⟩
   have HSB0:Hid (W1.heap[sb]? = some (.cells #[.slice none 0 0] 103 (0,0))):=Zh (by rw [hW1,<- hsb];exact World.alloc_heap_new wr _)
   have hs1:W1.heap.size = sb + 1:=by rw [hW1,<- hsb];simp
   have HNo:Hid (Only (fun _=>False) wr W1):=Zh (by rw [hW1];exact (Only.refl _ _).alloc _)
   have HRD1:Hid (RdM W1 rp bs at2):=Zh (HRD.out.only HNo.out (fun _ _ h=>h))
   have HG1:Hid (W1.heap[gb]? = some (.cells #[.slice gA group.length gC] 103 (0,0))):=Zh (Zac HG.out HNo.out id)
   have HC1:Hid (W1.heap[cb]? = some (.cells #[.slice ca ps.length cc] 146 (0,0))):=Zh (Zac HC.out HNo.out id)
   have HCR1:Hid (RowS encP W1 ca cc ps):=Zh (OwnS.only HCO.out HNo.out (fun _ _ h=>h)).row
   have HCX:Hid (∀ x,ca = some x -> x.block ≠ rp /\ x.block < sb):=Zh (fun x hx=>by
    rcases HCO.out.form with ⟨h,_⟩ | ⟨g,h,h1,h2⟩
    ·rw [h] at hx;cases hx
    ·rw [h] at hx;cases hx;exact ⟨by show g ≠ rp;omega,by show g < sb;omega⟩)
   have HT1:Hid (∀ k (hk:k < ps.length),∃ lo hi,Tb lo hi W1 ps[k] (tabs.getD k []) /\ rp < lo /\ hi <= sb):=Zh (fun k hk=>by
    obtain ⟨lo,hi,q1,q2,q3⟩:=HTO.out.2.2 k hk
    exact ⟨lo,hi,q1.only HNo.out (fun _ _ _ h=>h),by omega,by have:=q1.hi_le;omega⟩)
   have H20:Hid (∀ l ∈ tabs,∀ x ∈ l,x <= 20):=Zh HTO.out.2.1
   have HPT:Hid (ps.length = tabs.length):=Zh HTO.out.1
   have HRS1:Hid (Res3 (z + 1) W1 (.slice none 0 0) (.int .u32 (s:Nat)) (.int .i64 0)):=Zh (HRS.out.only HNo.out id id id)
   have HBX1:Hid (W1.heap[z]? = some (.cells #[.pointer (some ⟨rp,0,none⟩)] 52 (0,0))):=Zh (Zac HBX.out HNo.out id)
   have HOL1:Hid (Only (fun b=>b = rp) w W1):=Zh (by rw [hW1];exact HOL.out.alloc _)
   have HUR1:Hid (RowN .u8 W1 ua uc used):=Zh (HURW.out.same HNo.out.size (fun x h0 hx=>HNo.out.block _ (by have:=(HUB.out x hx).2;omega) id))
   have HGR1:Hid (RowN .i64 W1 gA gC group):=Zh (HGRW.out.same HNo.out.size (fun x h0 hx=>HNo.out.block _ (by have:=(HGB.out x hx).2;omega) id))
   have HG3:Hid (∀ x ∈ group,x < ps.length):=Zh (by rw [hpl2];exact HG2.out)
   rw [<- hW1]
   simp only [hsb]
   have hsbb:CB <= sb:=by omega
   clear HRD HG HC HCO HTO HRS HBX HOL HURW HGRW QC QB HCL HNo hW1 HG2 hCB hcbs hpl2 HTL hsb
   obtain ⟨ee,hee⟩:∃ ee,used.length + 1 = ee:=⟨_,rfl⟩
   have EEW:IntKind.i64.wrap ((used.length:Int) + 1) = (ee:Int):=by rw [IntWalk.i64_in _ (by omega)];omega
   have HF12:Hid (R = (symsG (rv bs) tabs group ee (50 * group.length + 1 - 0) at2 []).bind fun y=>blk8 (rv bs) most s m pl used y.1 y.2):=Zh (by rw [HF11.out,<- hee];rfl)
   have HEE:=Zh hee
   clear HF11 hee
   clear wr
   go_loopw [] (fun A=>∃ (at3:Nat) (out:List Nat) (a:Option Addr) (c:Nat),A.heap[sb]? = some (.cells #[.slice a out.length c] 103 (0,0)) /\ OwnN 3 .i64 A (sb + 1) a c out /\ RdM A rp bs at3 /\ Only (fun b=>b = rp \/ sb <= b) W1 A /\ sb + 1 <= A.heap.size /\ out.length <= 50 * group.length ∧
    Hid (R = (symsG (rv bs) tabs group ee (50 * group.length + 1 - out.length) at3 out).bind fun y=>blk8 (rv bs) most s m pl used y.1 y.2)) (fun A=>50 * group.length + 1 - slN (A.cell? ⟨sb,0,none⟩))
   case atStart=>exact ⟨at2,[],none,0,HSB0.out,OwnN.nil _ _ _ _,HRD1.out,Only.refl _ _,by omega,by simp,HF12.out⟩
   case round =>
    clear HSB0 HRD1 HF12
    obtain ⟨at3,out,a,c,hs,ho,hrd,hon,hsz,hol,HF⟩:=hrel
    obtain ⟨f,hf⟩:∃ f,50 * group.length + 1 - out.length = f + 1:=⟨50 * group.length - out.length,by omega⟩
    have hf2:50 * group.length + 1 - (out.length + 1) = f:=by omega
    rw [hf] at HF
    unfold symsG at HF
    have HON:=Zh hon
    have hlow:∀ b,b < sb -> b ≠ rp -> ¬ (b = rp \/ sb <= b):=fun b h1 h2 h3=>by omega
    have HNX:Hid (Calls Try.prog 118 #[.pointer (some ⟨sb,0,none⟩),.pointer (some ⟨gb,0,none⟩),.pointer (some ⟨cb,0,none⟩),.pointer (some ⟨z,0,none⟩)] wr (NextOut wr rp sb (sb + 1) bs out (nextG (rv bs) tabs group out.length at3))):=Zh (Zvb wr sb gb cb z rp (sb + 1) at3 bs out group ps tabs a gA ca c gC cc hs ho (by omega) (by omega)
     (Zac HG1.out hon (hlow _ (by omega) (by omega))) (Zxm HGR1.out hon (fun x hx=>⟨(HGB.out x hx).1,by have:=(HGB.out x hx).2;omega⟩) (by omega)) HG3.out
     (Zac HC1.out hon (hlow _ (by omega) (by omega))) (Zyx HCR1.out hon HCX.out (by omega)) HPT.out
     (fun k hk=>by
      obtain ⟨lo,hi,q1,q2,q3⟩:=HT1.out k hk
      exact ⟨lo,hi,q1.only hon (fun b b1 b2 hb=>by omega),q2⟩) H20.out
     (Zac HBX1.out hon (hlow _ (by omega) (by omega))) hrd (by omega) (by omega) hsz (by omega))
    have HS:=Zh hs
    have HF2:=Zh hf2
    have HOL:=Zh hol
    have HNL:Hid (∀ q,nextG (rv bs) tabs group out.length at3 = some q -> out.length < 50 * group.length):=Zh (fun q hq=>by
     unfold nextG at hq
     split at hq
     ·omega
     ·cases hq)
    clear hs ho hrd hon hlow hf hf2 hol
    generalize nextG (rv bs) tabs group out.length at3 = N at *
    rcases N with _ | ⟨sy,at4⟩
    ·have HRN:Hid (R = none):=HF.out
     clear HF
     have HNX2:Hid (Calls Try.prog 118 #[.pointer (some ⟨sb,0,none⟩),.pointer (some ⟨gb,0,none⟩),.pointer (some ⟨cb,0,none⟩),.pointer (some ⟨z,0,none⟩)] wr fun e w'=>e = .panicked formP /\ Only (fun b=>b = rp) wr w'):=HNX.out
     clear HNX
     go_wp2_with fail
     refine HNX2.out.mono ?_
     rintro e w2 ⟨rfl,k2⟩
     go_wp2_with fail
     exact Zav HRN.out ((HRS1.out.only HON.out (by omega) (by omega) (by omega)).only k2 (by omega) (by omega) (by omega)) ((Zep HOL1.out HON.out (by rw [HZ.out];omega)).trans k2) (by rw [HZ.out];omega) rfl rfl rfl
    ·have HNX2:Hid (Calls Try.prog 118 #[.pointer (some ⟨sb,0,none⟩),.pointer (some ⟨gb,0,none⟩),.pointer (some ⟨cb,0,none⟩),.pointer (some ⟨z,0,none⟩)] wr fun e w'=>e = .returned (.int .i64 (sy:Nat)) /\ (∃ a7 c7,w'.heap[sb]? = some (.cells #[.slice a7 (out.length + 1) c7] 103 (0,0)) /\ OwnN 3 .i64 w' (sb + 1) a7 c7 (out ++ [sy])) /\ RdM w' rp bs at4 /\ Only (fun b=>b = rp \/ b = sb \/ sb + 1 <= b) wr w'):=HNX.out
     have HFB:Hid (R = (if sy = ee then some (out ++ [sy],at4) else symsG (rv bs) tabs group ee f at4 (out ++ [sy])).bind fun y=>blk8 (rv bs) most s m pl used y.1 y.2):=HF.out
     clear HF HNX
     by_cases hse:sy = ee
     ·rw [if_pos hse] at HFB
      have t1:((sy:Int) == (ee:Int)) = true:=by simp [hse]
      have t2:(!((sy:Int) == (ee:Int))) = false:=by simp [hse]
      clear hse
      go_wp2_with fail
      refine HNX2.out.mono ?_
      rintro e w2 ⟨rfl,⟨a7,c7,k1,k2⟩,k3,k4⟩
      have K1:=Zh k1
      have K2:=Zh k2
      have K3:=Zh k3
      have K4:=Zh (HON.out.trans (k4.mono (T':=fun b=>b = rp \/ sb <= b) (fun b _ hb=>by omega)))
      have ksz:=Nat.le_trans hsz k4.size
      clear k1 k2 k3 k4 HNX2
      obtain ⟨syms,hsy⟩:∃ syms,out ++ [sy] = syms:=⟨_,rfl⟩
      have hsl:out.length + 1 = syms.length:=by rw [<- hsy];simp
      have hlt2:=HNL.out _ rfl
      have hsm:syms.length <= 100000000:=by omega
      have HFC:Hid (R = blk8 (rv bs) most s m pl used syms at4):=Zh (by rw [<- hsy];exact HFB.out)
      rw [hsl] at K1
      rw [hsy] at K2
      have qs:=cell_of_one K1.out
      have HRS2:=Zh (HRS1.out.only K4.out (by omega) (by omega) (by omega))
      have HOL2:=Zh (Zep HOL1.out K4.out (by rw [HZ.out];omega))
      have HUR2:=Zh (Zxm HUR1.out K4.out (fun x hx=>⟨(HUB.out x hx).1,by have:=(HUB.out x hx).2;omega⟩) (by omega))
      have hz2:z + 4 <= w2.heap.size:=by omega
      have HFG:=Zh (Zse w2 ua a7 uc c7 used syms most HUR2.out K2.out.row HU0.out HUR.out hul hsm hm)
      have HFO:=Zh (fun r=>@Zlj used syms r most HU0.out)
      clear K1 K2 K4 HFB hsl hsy hsm HUR1 HRS1 HOL1 HG1 HC1 HCR1 HCX HT1 H20 HPT HBX1 HGR1 HG3 HF2 HOL HNL HS HUB HGB HUR2 HON HEE ksz hsz
      unfold blk8 at HFC
      generalize frontG used syms most = FR at *
      go_wp2_with fail
      clear qs
      rcases FR with _ | fl
      ·have HRN:Hid (R = none):=HFC.out
       refine HFG.out.mono ?_
       rintro e w3 ⟨hb3,rfl⟩
       clear HFG HFC
       go_wp2_with fail
       refine (Zeu (.slice none 0 0) 2 (by decide) _).mono ?_
       rintro e w4 ⟨rfl,h4⟩
       rw [h4]
       clear h4 w4
       go_wp2_with fail
       exact Zav HRN.out (HRS2.out.belowAt hb3 (by omega)) (HOL2.out.trans (Only.ofBelow hb3)) (by rw [HZ.out];omega) rfl rfl rfl
      obtain ⟨hfl,hf256⟩:=HFO.out fl rfl
      have HF256:Hid (∀ x ∈ fl,x < 256):=Zh (fun x hx=>HU256.out x (hf256 x hx))
      have HFD:Hid (R = (backG fl pl).bind fun b=>some (if m = 1 then masked b else b,s,at4)):=HFC.out
      refine HFG.out.mono ?_
      rintro e w3 ⟨hb3,a8,c8,rfl,k3⟩
      have K3':=Zh k3
      have HB3:=Zh hb3
      have hz3:z + 4 <= w3.heap.size:=Nat.le_trans hz2 hb3.size
      have HRS3:=Zh (HRS2.out.belowAt hb3 (by omega))
      have HOL3:=Zh (HOL2.out.trans (Only.ofBelow hb3))
      have HRD3:=Zh (K3.out.below hb3)
      clear HFG HFC hf256 k3 hb3 HFO
      go_wp2_with fail
      refine (Zdi _ _).mono ?_
      rintro e w4 ⟨rfl,h4⟩
      rw [h4]
      clear h4 w4
      go_wp2_with fail
      have HRB:=Zh (Zwo w3 a8 c8 fl pl K3'.out.row (by omega) HF256.out (by omega))
      have HBO:=Zh (fun r=>@Zny fl r pl HF256.out)
      generalize backG fl pl = BR at *
      rcases BR with _ | bl
      ·have HRN:Hid (R = none):=HFD.out
       refine HRB.out.mono ?_
       rintro e w5 ⟨hb5,rfl⟩
       clear HRB HFD
       go_wp2_with fail
       refine (Zeu (.slice none 0 0) 2 (by decide) _).mono ?_
       rintro e w6 ⟨rfl,h4⟩
       rw [h4]
       clear h4 w6
       go_wp2_with fail
       exact Zav HRN.out (HRS3.out.belowAt hb5 (by omega)) (HOL3.out.trans (Only.ofBelow hb5)) (by rw [HZ.out];omega) rfl rfl rfl
      obtain ⟨hbl,hb256⟩:=HBO.out bl rfl
      have HB256:=Zh hb256
      have hbl2:bl.length <= 900000:=by omega
      clear hbl
      have HFE:Hid (R = some (if m = 1 then masked bl else bl,s,at4)):=HFD.out
      refine HRB.out.mono ?_
      rintro e w5 ⟨hb5,a9,c9,rfl,k9⟩
      have K9:=Zh (k9.mono (show z + 4 <= w3.heap.size from hz3))
      have hz5:z + 4 <= w5.heap.size:=Nat.le_trans hz3 hb5.size
      have HRS5:=Zh (HRS3.out.belowAt hb5 (by omega))
      have HOL5:=Zh (HOL3.out.trans (Only.ofBelow hb5))
      have HRD5:=Zh (HRD3.out.below hb5)
      clear HRB HFD hb256 k9 hb5 HBO K3' K3 HB3 HRS3 HOL3 HRD3 HRS2 HOL2 hz2 hz3 HF256
      go_wp2_with fail
      refine (Zdi _ _).mono ?_
      rintro e w6 ⟨rfl,h4⟩
      rw [h4]
      clear h4 w6
      have qf:=Zam HRS5.out.1
      have qc:=cell_of_one HRS5.out.1
      have hO6:Only (fun b=>b = z + 1) w5 (w5.setCell ⟨z + 1,0,none⟩ (.slice a9 bl.length c9)):=(Only.refl (fun b=>b = z + 1) w5).setCell (p:=⟨z + 1,0,none⟩) (.inl rfl) _
      have HRS6:Hid (Res3 (z + 1) (w5.setCell ⟨z + 1,0,none⟩ (.slice a9 bl.length c9)) (.slice a9 bl.length c9) (.int .u32 (s:Nat)) (.int .i64 0)):=Zh ⟨one_setCell HRS5.out.1,Zac HRS5.out.2.1 hO6 (by show ¬ z + 1 + 1 = z + 1;omega),HRS5.out.2.2.only hO6 (by show ¬ z + 1 + 2 = z + 1;omega)⟩
      have HOL6:Hid (Only (fun b=>b = rp) w (w5.setCell ⟨z + 1,0,none⟩ (.slice a9 bl.length c9))):=Zh (HOL5.out.setCell (p:=⟨z + 1,0,none⟩) (.inr (by rw [HZ.out];show z <= z + 1;omega)) _)
      have HRD6:Hid (RdM (w5.setCell ⟨z + 1,0,none⟩ (.slice a9 bl.length c9)) rp bs at4):=Zh (HRD5.out.only hO6 (fun b hb=>by show ¬ b = z + 1;omega))
      have K10:Hid (OwnN 5 .u8 (w5.setCell ⟨z + 1,0,none⟩ (.slice a9 bl.length c9)) (z + 4) a9 c9 bl):=Zh (K9.out.only hO6 (fun b hb=>by show ¬ b = z + 1;omega))
      have hz6:z + 4 <= (w5.setCell ⟨z + 1,0,none⟩ (.slice a9 bl.length c9)).heap.size:=Nat.le_trans hz5 hO6.size
      clear hO6 HRS5 HOL5 HRD5 K9
      by_cases hmm:m = 1
      case neg =>
       have t7:((m:Int) == 1) = false:=by simp;omega
       have hm1':=hmm
       clear hmm
       have HFX:Hid (R = some (bl,s,at4)):=Zh (by rw [HFE.out,if_neg hm1'])
       clear HFE hm1'
       go_wp2_with fail
       generalize w5.setCell ⟨z + 1,0,none⟩ (.slice a9 bl.length c9) = W6 at *
       have q1:=cell_of_one HRS6.out.1
       have q2:=cell_of_one HRS6.out.2.1
       have q3:=Zam HRS6.out.1
       have q4:=Zam HRS6.out.2.1
       have q5:W6.frozen? ⟨z + 1 + 1 + 1,0,none⟩ = false:=Zam HRS6.out.2.2
       have q6:W6.cell? ⟨z + 1 + 1 + 1,0,none⟩ = some (.int .i64 0):=cell_of_one HRS6.out.2.2
       have HS7:=Zh (HRS6.out.set (.slice a9 bl.length c9) (.int .u32 (s:Nat)) (.int .i64 0))
       have hO7:Only (fun b=>b = z + 1 \/ b = z + 1 + 1 \/ b = z + 1 + 2) W6 (((W6.setCell ⟨z + 1,0,none⟩ (.slice a9 bl.length c9)).setCell ⟨z + 1 + 1,0,none⟩ (.int .u32 (s:Nat))).setCell ⟨z + 1 + 2,0,none⟩ (.int .i64 0)) :=
        (((Only.refl (fun b=>b = z + 1 \/ b = z + 1 + 1 \/ b = z + 1 + 2) W6).setCell (p:=⟨z + 1,0,none⟩) (.inl (.inl rfl)) _).setCell (p:=⟨z + 1 + 1,0,none⟩) (.inl (.inr (.inl rfl))) _).setCell (p:=⟨z + 1 + 2,0,none⟩) (.inl (.inr (.inr rfl))) _
       have HOL7:Hid (Only (fun b=>b = rp) w (((W6.setCell ⟨z + 1,0,none⟩ (.slice a9 bl.length c9)).setCell ⟨z + 1 + 1,0,none⟩ (.int .u32 (s:Nat))).setCell ⟨z + 1 + 2,0,none⟩ (.int .i64 0))):=Zh (Zep HOL6.out (hO7.mono (T':=fun b=>b = rp \/ z <= b) (fun b _ hb=>.inr (by omega))) (by rw [HZ.out];exact Nat.le_refl _))
       have HK7:=Zh (K10.out.only hO7 (fun b hb=>by omega))
       have HRD7:=Zh (HRD6.out.only hO7 (fun b hb=>by omega))
       go_region
       clear q1 q2 q3 q4 q5 q6 hO7
       change Hid (Res3 (z + 1) (((W6.setCell ⟨z + 1,0,none⟩ (.slice a9 bl.length c9)).setCell ⟨z + 1 + 1,0,none⟩ (.int .u32 (s:Nat))).setCell ⟨z + 1 + 1 + 1,0,none⟩ (.int .i64 0)) (.slice a9 bl.length c9) (.int .u32 (s:Nat)) (.int .i64 0)) at HS7
       change Hid (Only (fun b=>b = rp) w (((W6.setCell ⟨z + 1,0,none⟩ (.slice a9 bl.length c9)).setCell ⟨z + 1 + 1,0,none⟩ (.int .u32 (s:Nat))).setCell ⟨z + 1 + 1 + 1,0,none⟩ (.int .i64 0))) at HOL7
       change Hid (OwnN 5 .u8 (((W6.setCell ⟨z + 1,0,none⟩ (.slice a9 bl.length c9)).setCell ⟨z + 1 + 1,0,none⟩ (.int .u32 (s:Nat))).setCell ⟨z + 1 + 1 + 1,0,none⟩ (.int .i64 0)) (z + 4) a9 c9 bl) at HK7
       change Hid (RdM (((W6.setCell ⟨z + 1,0,none⟩ (.slice a9 bl.length c9)).setCell ⟨z + 1 + 1,0,none⟩ (.int .u32 (s:Nat))).setCell ⟨z + 1 + 1 + 1,0,none⟩ (.int .i64 0)) rp bs at4) at HRD7
       generalize ((W6.setCell ⟨z + 1,0,none⟩ (.slice a9 bl.length c9)).setCell ⟨z + 1 + 1,0,none⟩ (.int .u32 (s:Nat))).setCell ⟨z + 1 + 1 + 1,0,none⟩ (.int .i64 0) = W8 at *
       go_wp2_with fail
       exact Zrb (A:=W8.drew) HFX.out HZ.out HS7.out HOL7.out.drew HK7.out.drew (HRD7.out.drewN 1) rfl rfl rfl
      have t7:((m:Int) == 1) = true:=by simp [hmm]
      have HFX:Hid (R = some (masked bl,s,at4)):=Zh (by rw [HFE.out,if_pos hmm])
      clear HFE hmm
      have q1:=cell_of_one HRS6.out.1
      go_wp2_with fail
      generalize w5.setCell ⟨z + 1,0,none⟩ (.slice a9 bl.length c9) = W6 at *
      clear hz5
      refine (Zva _ _).mono ?_
      rintro e w7 ⟨rfl,h7⟩
      have HW7:=Zh h7
      clear h7
      go_wp2_with fail
      clear q1
      obtain ⟨mb,hmb⟩:∃ mb,W6.heap.size = mb:=⟨_,rfl⟩
      have hM7:w7.heap[mb]? = some (.cells #[.int .i64 (bl.length:Nat)] 3 (0,0)):=by rw [HW7.out,<- hmb];exact World.alloc_heap_new W6 _
      have hs7:w7.heap.size = mb + 1:=by rw [HW7.out,<- hmb];simp
      have hO7:Only (fun _=>False) W6 w7:=by rw [HW7.out];exact (Only.refl _ _).alloc _
      have HA9:Hid (∀ g,a9 = some ⟨g,0,none⟩ -> z + 4 <= g /\ g < mb):=Zh (fun g hg=>by
       rcases K10.out.form with ⟨h,_⟩ | ⟨g2,h,h1,h2⟩
       ·rw [h] at hg;cases hg
       ·rw [h] at hg;cases hg;exact ⟨h1,by omega⟩)
      have HMI:Hid (MaskI w z rp s at4 mb c9 bs bl a9 0 w7):=Zh ⟨HRS6.out.only hO7 id id id,by rw [HW7.out];exact HOL6.out.alloc _,HRD6.out.only hO7 (fun _ _ h=>h),K10.out.only hO7 (fun _ _ h=>h),by omega⟩
      simp only [hmb]
      have hmz:z + 4 <= mb:=by omega
      clear HRS6 HOL6 HRD6 K10 hO7 HW7 hmb hz6
      have hMY:=Znf bl.length mb w7 (by omega) hM7
      generalize hact:Act.mk _ _ = a0
      refine (wpIn_wide (n:=9)).1 ?_
      refine Zqd (g:=.tmp 102) (gf:=160) (lb:=#[.pointer (some ⟨mb,0,none⟩)]) (by rw [<- hact];rfl) (enters_of Try.func160 (by kernel_rfl) rfl)
       hMY (fun b=>a9 = some ⟨b,0,none⟩) (SameOn.refl _ _) ?hS (fun _ h=>h.elim) ?hU (fun _=>rfl)
       (MaskI w z rp s at4 mb c9 bs bl a9) (fun _ _ _=>False) ?hI ?hIp (fun _ _ _ _ h _=>h) (fun _ _ _ _ _ _ h _ _ _=>h) (fun _ _ _ _ _ h _ _ _=>h) (fun _ h=>by obtain ⟨v,hv⟩:=h;cases hv) HMI.out
       (fun i a' A=>MaskI w z rp s at4 mb c9 bs bl a9 i A /\ a' = { tmps:=(a0.tmps.setIfInBounds 103 (.int .i64 (maskAt i:Nat))).setIfInBounds 15 (.int .i64 (maskAt i:Nat)),defers:=[] }) ?hAp ?assign ?body ?done (fun _ _ _ h _=>by obtain ⟨v,hv⟩:=h;cases hv) (fun _ _ _ _ h _=>h.elim)
      case hS=>rintro b rfl;omega
      case hU =>
       intro b hb
       have:=HA9.out b hb
       exact ⟨by omega,by omega⟩
      case hI =>
       rintro i A B h ho
       exact h.only ho HZ.out hrp (fun _ h=>h.elim) hmz (fun g hg=>(HA9.out g hg).2)
      case hIp =>
       rintro i A r ob o' h h0 h1 h2
       exact h.only ((Only.refl (fun b=>b = r) A).putLoop (r:=r) rfl o') HZ.out hrp (fun b hb=>by have hb:b = r:=hb;omega) hmz (fun g hg=>(HA9.out g hg).2)
      case hAp =>
       rintro i a' A r ob o' ⟨h,h3⟩ h0 h1 h2
       exact ⟨h.only ((Only.refl (fun b=>b = r) A).putLoop (r:=r) rfl o') HZ.out hrp (fun b hb=>by have hb:b = r:=hb;omega) hmz (fun g hg=>(HA9.out g hg).2),h3⟩
      case assign =>
       rintro y i W K hi hsz hI hK
       have HK:=Zh hK
       have HI:=Zh hI
       clear hK hI HMI hMY
       subst hact
       simp only [maskRow]
       simp only [List.zip_toArray,List.zip_cons_cons,List.zip_nil_left,List.foldl_toArray',List.foldl_cons,List.foldl_nil,List.size_toArray,List.setIfInBounds_toArray,List.set_cons_succ,List.set_cons_zero]
       gi_wp2
       refine HK.out _ _ (Only.refl _ _) ⟨HI.out,?_⟩
       simp only [List.setIfInBounds_toArray,List.set_cons_succ,List.set_cons_zero]
      case body =>
       rintro y i hi a' A hsz ⟨hI,rfl⟩
       have hp:=Zgb _ _ hi
       have hx:=Zch bl HB256.out i
       obtain ⟨g,hg9,hg1,hg2,hc,hf⟩:=hI.2.2.2.1.at (i:=maskAt i) (by rw [Zaw];exact hp)
       have HP:=Zh hp
       have hst:=hI.2.2.2.1
       rw [hg9] at hst
       have hgm:=(HA9.out g hg9).2
       have hst2:=hst.stored (maskAt i) ((turnAt bl i).getD (maskAt i) 0 ^^^ 1)
       rw [<- Zba (by rw [Zaw];exact hp)] at hc
       have hx1:(turnAt bl i).getD (maskAt i) 0 < 256:=by rw [Zba (by rw [Zaw];exact hp)];exact hx _ (List.getElem_mem _)
       have HT1:Hid (turnAt bl (i + 1) = (turnAt bl i).set (maskAt i) ((turnAt bl i).getD (maskAt i) 0 ^^^ 1)):=Zh rfl
       have hbx:=Zdb _ 1 hx1 (by decide)
       have hbx2:bits .xor .u8 (((turnAt bl i).getD (maskAt i) 0:Nat):Int) 1 = (((turnAt bl i).getD (maskAt i) 0 ^^^ 1:Nat):Int):=hbx
       have q1:=cell_of_one hI.1.1
       have HST:=Zh hst2
       have HI:=Zh hI
       have tt:decide (maskAt i < bl.length) = true:=by simp;exact hp
       clear hI hst hst2 hx hbx hx1 hi HMI hMY hM7
       subst hg9
       subst hact
       generalize (turnAt bl i).getD (maskAt i) 0 ^^^ 1 = y1 at *
       generalize (turnAt bl i).getD (maskAt i) 0 = x1 at *
       generalize maskAt i = p at *
       simp only [List.setIfInBounds_toArray,List.set_cons_succ,List.set_cons_zero]
       gi_wp2_with fail
       exact ⟨(Only.refl (fun b=>some (⟨g,0,none⟩:Addr) = some ⟨b,0,none⟩) A).setCell (p:=⟨g,p,none⟩) (.inl rfl) _,HI.out.step (by rw [HT1.out];exact HST.out.1) hg1 HZ.out hrp⟩
      case done =>
       rintro v A hI hF hd
       subst hact
       have HMA:Hid (OwnN 5 .u8 A (z + 4) a9 c9 (masked bl)):=Zh hI.2.2.2.1
       have HRS6:=Zh hI.1
       have HOL6:=Zh hI.2.1
       have HRD6:=Zh hI.2.2.1
       have HML:Hid ((masked bl).length = bl.length):=Zh (Zaw _ _)
       have HD:=Zh hd
       clear hI hF hd HMI hMY
       have HS7:=Zh (HRS6.out.set (.slice a9 bl.length c9) (.int .u32 (s:Nat)) (.int .i64 0))
       have hO7:Only (fun b=>b = z + 1 \/ b = z + 1 + 1 \/ b = z + 1 + 2) A (((A.setCell ⟨z + 1,0,none⟩ (.slice a9 bl.length c9)).setCell ⟨z + 1 + 1,0,none⟩ (.int .u32 (s:Nat))).setCell ⟨z + 1 + 2,0,none⟩ (.int .i64 0)) :=
        (((Only.refl (fun b=>b = z + 1 \/ b = z + 1 + 1 \/ b = z + 1 + 2) A).setCell (p:=⟨z + 1,0,none⟩) (.inl (.inl rfl)) _).setCell (p:=⟨z + 1 + 1,0,none⟩) (.inl (.inr (.inl rfl))) _).setCell (p:=⟨z + 1 + 2,0,none⟩) (.inl (.inr (.inr rfl))) _
       have HOL7:Hid (Only (fun b=>b = rp) w (((A.setCell ⟨z + 1,0,none⟩ (.slice a9 bl.length c9)).setCell ⟨z + 1 + 1,0,none⟩ (.int .u32 (s:Nat))).setCell ⟨z + 1 + 2,0,none⟩ (.int .i64 0))):=Zh (Zep HOL6.out (hO7.mono (T':=fun b=>b = rp \/ z <= b) (fun b _ hb=>.inr (by omega))) (by rw [HZ.out];exact Nat.le_refl _))
       have HK7:=Zh (HMA.out.only hO7 (fun b hb=>by omega))
       have HRD7:=Zh (HRD6.out.only hO7 (fun b hb=>by omega))
       have HD7:=Zh (Zac HD.out hO7 (by omega))
       have q1:=cell_of_one HRS6.out.1
       have q2:=cell_of_one HRS6.out.2.1
       have q3:=Zam HRS6.out.1
       have q4:=Zam HRS6.out.2.1
       have q5:A.frozen? ⟨z + 1 + 1 + 1,0,none⟩ = false:=Zam HRS6.out.2.2
       have q6:A.cell? ⟨z + 1 + 1 + 1,0,none⟩ = some (.int .i64 0):=cell_of_one HRS6.out.2.2
       go_wp2_with fail
       go_region
       clear q1 q2 q3 q4 q5 q6 hO7
       change Hid (Res3 (z + 1) (((A.setCell ⟨z + 1,0,none⟩ (.slice a9 bl.length c9)).setCell ⟨z + 1 + 1,0,none⟩ (.int .u32 (s:Nat))).setCell ⟨z + 1 + 1 + 1,0,none⟩ (.int .i64 0)) (.slice a9 bl.length c9) (.int .u32 (s:Nat)) (.int .i64 0)) at HS7
       change Hid (Only (fun b=>b = rp) w (((A.setCell ⟨z + 1,0,none⟩ (.slice a9 bl.length c9)).setCell ⟨z + 1 + 1,0,none⟩ (.int .u32 (s:Nat))).setCell ⟨z + 1 + 1 + 1,0,none⟩ (.int .i64 0))) at HOL7
       change Hid (OwnN 5 .u8 (((A.setCell ⟨z + 1,0,none⟩ (.slice a9 bl.length c9)).setCell ⟨z + 1 + 1,0,none⟩ (.int .u32 (s:Nat))).setCell ⟨z + 1 + 1 + 1,0,none⟩ (.int .i64 0)) (z + 4) a9 c9 (masked bl)) at HK7
       change Hid (RdM (((A.setCell ⟨z + 1,0,none⟩ (.slice a9 bl.length c9)).setCell ⟨z + 1 + 1,0,none⟩ (.int .u32 (s:Nat))).setCell ⟨z + 1 + 1 + 1,0,none⟩ (.int .i64 0)) rp bs at4) at HRD7
       change Hid ((((A.setCell ⟨z + 1,0,none⟩ (.slice a9 bl.length c9)).setCell ⟨z + 1 + 1,0,none⟩ (.int .u32 (s:Nat))).setCell ⟨z + 1 + 1 + 1,0,none⟩ (.int .i64 0)).heap[w7.heap.size]? = _) at HD7
       generalize ((A.setCell ⟨z + 1,0,none⟩ (.slice a9 bl.length c9)).setCell ⟨z + 1 + 1,0,none⟩ (.int .u32 (s:Nat))).setCell ⟨z + 1 + 1 + 1,0,none⟩ (.int .i64 0) = W8 at *
       go_wp2_with fail
       exact Zuy (A:=W8.drew) (r:=w7.heap.size) (c:=c9) HFX.out HZ.out (by rw [HML.out];exact HS7.out) HOL7.out.drew HK7.out.drew (HRD7.out.drewN 1) rfl rfl rfl HD7.out (by omega) hrp (fun g hg=>by have:=(HA9.out g hg).2;omega)
     ·rw [if_neg hse] at HFB
      have t1:((sy:Int) == (ee:Int)) = false:=by simp;omega
      have t2:(!((sy:Int) == (ee:Int))) = true:=by simp;omega
      clear hse
      go_wp2_with fail
      refine HNX2.out.mono ?_
      rintro e w2 ⟨rfl,⟨a7,c7,k1,k2⟩,k3,k4⟩
      have K1:=Zh k1
      have K2:=Zh k2
      have K3:=Zh k3
      have K4:=Zh (HON.out.trans (k4.mono (T':=fun b=>b = rp \/ sb <= b) (fun b _ hb=>by omega)))
      have ksz:=Nat.le_trans hsz k4.size
      have HLT:Hid (out.length < 50 * group.length):=Zh (HNL.out _ rfl)
      clear k1 k2 k3 k4 HNX2
      go_wp2_with fail
      go_roundw
      case rel=>exact ⟨at4,out ++ [sy],a7,c7,by rw [List.length_append];exact K1.out,K2.out,K3.out,K4.out,ksz,by rw [List.length_append];exact HLT.out,by rw [List.length_append];show Hid (R = (symsG (rv bs) tabs group ee (50 * group.length + 1 - (out.length + 1)) at4 (out ++ [sy])).bind fun y=>blk8 (rv bs) most s m pl used y.1 y.2);rw [HF2.out];exact HFB.out⟩
      case measure =>
       rw [show wr.cell? ⟨sb,0,none⟩ = some (.slice a out.length c) from cell_of_one HS.out,show w2.cell? ⟨sb,0,none⟩ = some (.slice a7 (out.length + 1) c7) from cell_of_one K1.out]
       simp only [slN]
       have:=HLT.out
       omega
end Go.Proofs.Ytnkpnjnfddjfpaa
