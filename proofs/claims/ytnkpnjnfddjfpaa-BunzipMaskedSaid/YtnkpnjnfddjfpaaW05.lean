/- tables.mover, chosen, GetSelectors: contracts. tables.chosen, GetSelectors: contracts. front.mover: contracts. rotate.way: contract. A region whose order is drawn, by an invariant over what has come up: each operation leaves its own value, whatever else has come up (plain, and in a fence). -/
import Derived.Test.YtnkpnjnfddjfpaaW01
import Derived.Test.YtnkpnjnfddjfpaaW04
import Derived.Test.YtnkpnjnfddjfpaaW02
import Derived.StillTailTactics
import Derived.Laws.CopyRow
import Derived.Laws.IdiomCopy
import Derived.Laws.EntriesVeiled
import Derived.Orders
import Derived.OrdersIn
import Derived.Tactics
import Derived.TacticsIn
import Derived.OwnWalkIn
set_option linter.unusedVariables false
set_option linter.unusedSimpArgs false
namespace Go.Proofs.Ytnkpnjnfddjfpaa
open Go.RowKit Go.Shelf M01 M02 M27
def Lst (w:World) (mb:Nat) (l:List Nat):Prop:=w.heap[mb]? = some (.cells (l.map fun (n:Nat)=>Value.int .i64 n).toArray 212 (0,0)) /\ l.length = 6
theorem Lst.cell {w:World} {mb:Nat} {l:List Nat} (h:Lst w mb l) {i:Nat} (hi:i < 6):w.cell? ⟨mb,i,none⟩ = some (.int .i64 (l.getD i 0:Nat)):=by
 have hl:i < l.length:=by rw [h.2];exact hi
 simp [World.cell?,h.1,hl]
theorem Zuw (mb k:Nat) (hk:k < 6) (w:World):(Instr.sliceAt 212 (.pointer (some ⟨mb,0,none⟩)) (some (.int .i64 1)) (some (.int .i64 ((k:Int) + 1))) none).run Try.prog w = .ok (.slice (some ⟨mb,1,none⟩) k 5) w:=by
 have hsz:(Try.prog.info? 3).map (·.size) = some 1:=by kernel_rfl
 have hu:Try.prog.underlying 212 = some (.array 6 3):=by kernel_rfl
 have h1:(k:Int) + 1 <= 6:=by omega
 have h2:(0:Int) <= (k:Int) + 1:=by omega
 have h3:((k:Int) + 1).toNat = k + 1:=by omega
 have h4:¬ ((k:Int) + 1 < 1):=by omega
 have h6:(1:Int) <= (k:Int) + 1:=by omega
 cases h5:Try.prog.info? 3 with
 | none=>rw [h5] at hsz;cases hsz
 | some ie =>
  simp only [h5,Option.map_some,Option.some.injEq] at hsz
  simp [Instr.sliceAt,Instr.sureAddr,Instr.sliceBounds,Instr.sliceBound,run_underlying hu,asIntOf,sizeOf,typeInfo,h5,go_sem,h1,h2,h3,h4,h6,hsz,Addr.add]
theorem Zuv (mb k:Nat) (hk:k < 6) (w:World):(Instr.sliceAt 212 (.pointer (some ⟨mb,0,none⟩)) none (some (.int .i64 (k:Nat))) none).run Try.prog w = .ok (.slice (some ⟨mb,0,none⟩) k 6) w:=by
 have hsz:(Try.prog.info? 3).map (·.size) = some 1:=by kernel_rfl
 have hu:Try.prog.underlying 212 = some (.array 6 3):=by kernel_rfl
 have h1:k <= 6:=by omega
 cases h5:Try.prog.info? 3 with
 | none=>rw [h5] at hsz;cases hsz
 | some ie =>
  simp only [h5,Option.map_some,Option.some.injEq] at hsz
  simp [Instr.sliceAt,Instr.sureAddr,Instr.sliceBounds,Instr.sliceBound,run_underlying hu,asIntOf,sizeOf,typeInfo,h5,go_sem,h1,hsz,Addr.add]
theorem Zjd (l:List Value) (k:Nat) (hk:k < l.length) (z:Value):(l.take 1 ++ l.take k ++ l.drop (1 + k)).set 0 (l.getD k z) = l.getD k z :: (l.take k ++ l.drop (k + 1)):=by
 cases l with
 | nil=>simp at hk
 | cons a l=>simp [Nat.add_comm]
theorem Zpv (w:World) (dT e:TypeId) (mb k t:Nat) (ds sc:Nat) (l:List Nat) (K:IntKind) (v:Value) (hv:v = .int K (l.getD k 0:Nat)) (hu:Try.prog.underlying dT = some (.slice e)) (hs:(Try.prog.info? e).map (·.size) = some 1) (hk:k < l.length)
  (h:w.heap[mb]? = some (.cells (l.map fun (n:Nat)=>Value.int K n).toArray t (0,0))) :
  ∃ w1,(∀ ty,(Builtin.copy_ #[dT,dT] ty #[.slice (some ⟨mb,1,none⟩) k ds,.slice (some ⟨mb,0,none⟩) k sc]).run Try.prog w = .ok (goInt k) w1) /\ Only (fun b=>b = mb) w w1 /\ (∃ z,w1.cell? ⟨mb,0,none⟩ = some z) /\ w1.frozen? ⟨mb,0,none⟩ = false ∧
   (w1.setCell ⟨mb,0,none⟩ v).heap[mb]? = some (.cells ((toFront l k).map fun (n:Nat)=>Value.int K n).toArray t (0,0)):=by
 obtain ⟨vs,hvs⟩:∃ vs,(l.map fun (n:Nat)=>Value.int K n) = vs:=⟨_,rfl⟩
 have hlen:vs.length = l.length:=by rw [<- hvs];simp
 have hrun:=fun ty=>run_copy_row (P:=Try.prog) w dT dT ty e mb 1 k ds ⟨mb,0,none⟩ k sc vs.toArray t (vs.take k) hu hs (by rw [<- hvs];exact h) (by simp;omega) (by
  intro j x hj
  have hjk:j < k:=by have:=(List.getElem?_eq_some_iff.1 hj).1;simp at this;omega
  have hjv:vs[j]? = some x:=by rw [<- hj,List.getElem?_take_of_lt hjk]
  rw [hvs] at h
  have:(⟨mb,0,none⟩:Addr).add j = ⟨mb,j,none⟩:=by unfold Addr.add;split <;> simp_all
  rw [this]
  simp [World.cell?,h,hjv]) (by simp;omega) (by
  intro x hx
  have hx2:=List.mem_of_mem_take hx
  rw [<- hvs] at hx2
  obtain ⟨n,_,rfl⟩:=List.mem_map.1 hx2
  rfl)
 have hl1:(vs.take k).length = k:=by simp;omega
 rw [hl1] at hrun
 rw [hvs] at h
 have hrow:=setRow_heap w mb vs.toArray (vs.toArray.toList.take 1 ++ vs.take k ++ vs.toArray.toList.drop (1 + k)).toArray t (0,0) h
 have hfl:=Zjd vs k (by omega) v
 have hgv:vs.getD k v = v:=by rw [<- hvs,hv];simp [List.getElem?_eq_getElem hk]
 have htf:(toFront l k).map (fun (n:Nat)=>Value.int K n) = v :: (vs.take k ++ vs.drop (k + 1)):=by
  unfold toFront
  rw [<- hvs,hv]
  simp [List.map_take,List.map_drop]
 refine ⟨_,hrun,?_,?_,?_,?_⟩
 ·refine ⟨rfl,rfl,rfl,by simp [World.setRow],fun b hb hn=>?_⟩
  show (w.heap.modify mb _)[b]? = _
  rw [Array.getElem?_modify,if_neg (by intro e;exact hn e.symm)]
 ·cases hc:(vs.toArray.toList.take 1 ++ vs.take k ++ vs.toArray.toList.drop (1 + k)) with
  | nil =>
   have:=congrArg List.length hc
   simp at this
   have h0:vs.length = 0:=by rw [this.1];rfl
   omega
  | cons z zs=>exact ⟨z,by rw [hc] at hrow;simp [World.cell?,hrow]⟩
 ·unfold World.frozen?
  rw [hrow]
  rfl
 ·rw [hgv] at hfl
  rw [Zbc hrow,htf,<- hfl]
  simp
set_option maxRecDepth 100000 in
set_option maxHeartbeats 1600000 in
theorem Zzi (w:World) (pb mb:Nat) (l:List Nat) (k:Nat) (hk:k < 6) (hp:w.cell? ⟨pb,0,none⟩ = some (.pointer (some ⟨mb,0,none⟩))) (hpm:pb ≠ mb) (h:Lst w mb l) :
  Calls Try.prog 181 #[.int .i64 (k:Nat),.pointer (some ⟨pb,0,none⟩)] w fun e w'=>e = .returned (.int .i64 (l.getD k 0:Nat)) /\ Lst w' mb (toFront l k) /\ Only (fun b=>b = mb) w w':=by
 have hc:=h.cell hk
 have hlen:=h.2
 have hl2:(toFront l k).length = 6:=by unfold toFront;simp;omega
 obtain ⟨w1,hrun,ho1,⟨z,hz⟩,hfr,hset⟩:=Zpv w.drew 103 3 mb k 212 5 6 l .i64 (.int .i64 (l.getD k 0:Nat)) rfl Try.underlying103 (by kernel_rfl) (by omega) h.1
 have HRUN:=Zh hrun
 have HO1:=Zh (Only.trans ((Only.refl (fun b=>b = mb) w).drew) ho1)
 have HSET:=Zh hset
 have HL2:=Zh hl2
 have hp1:w1.cell? ⟨pb,0,none⟩ = some (.pointer (some ⟨mb,0,none⟩)):=by
  have hlt:pb < w.heap.size:=by
   unfold World.cell? at hp
   rcases Nat.lt_or_ge pb w.heap.size with h1 | h1
   ·exact h1
   ·rw [Array.getElem?_eq_none h1] at hp;simp at hp
  have:=ho1.block pb hlt hpm
  unfold World.cell? at hp ⊢
  rw [this]
  exact hp
 clear h hrun ho1 hset hl2 hlen
 generalize l.getD k 0 = v at *
 have hk1:IntKind.i64.wrap ((k:Int) + 1) = (k:Int) + 1:=IntWalk.i64_in _ (by omega)
 have hk2:(k:Int) < 6:=by omega
 have hs1:=Zuw mb k hk
 have hs2:=Zuv mb k hk
 go_enter Try.func181,Try.ntmps181
 go_wp2_with fail
 go_still_tail 9,(by kernel_rfl)
 go_wp2_with fail
 rw [HRUN.out]
 simp only [goInt]
 go_wp2
 go_ret
 exact ⟨rfl,⟨HSET.out,HL2.out⟩,HO1.out.setCell (p:=⟨mb,0,none⟩) (.inl rfl) _⟩
theorem Zwx (w:World):Calls Try.prog 173 #[] w fun e w'=>∃ pb mb,e = .returned (.tuple #[.pointer (some ⟨mb,0,none⟩),.func (Fn.func 181) #[] #[.pointer (some ⟨pb,0,none⟩)]]) /\ w'.cell? ⟨pb,0,none⟩ = some (.pointer (some ⟨mb,0,none⟩)) /\ pb ≠ mb /\ Lst w' mb [0,1,2,3,4,5] /\ Below w.heap.size w w' /\ w.heap.size <= pb /\ w.heap.size <= mb:=by
 go_enter Try.func173,Try.ntmps173
 go_wp2_with fail
 have hH:=World.alloc_heap_new w (.cells #[.pointer (some ⟨w.heap.size + 1,0,none⟩)] 206)
 have hL:=World.alloc_heap_new (w.alloc (.cells #[.pointer (some ⟨w.heap.size + 1,0,none⟩)] 206)) (.cells #[.int .i64 0,.int .i64 1,.int .i64 2,.int .i64 3,.int .i64 4,.int .i64 5] 212)
 rw [show (w.alloc (.cells #[.pointer (some ⟨w.heap.size + 1,0,none⟩)] 206)).heap.size = w.heap.size + 1 by simp] at hL
 have hB:Below w.heap.size w ((w.alloc (.cells #[.pointer (some ⟨w.heap.size + 1,0,none⟩)] 206)).alloc (.cells #[.int .i64 0,.int .i64 1,.int .i64 2,.int .i64 3,.int .i64 4,.int .i64 5] 212)):=(Zai w _).trans ((Zai _ _).mono (by simp))
 have hP:((w.alloc (.cells #[.pointer (some ⟨w.heap.size + 1,0,none⟩)] 206)).alloc (.cells #[.int .i64 0,.int .i64 1,.int .i64 2,.int .i64 3,.int .i64 4,.int .i64 5] 212)).cell? ⟨w.heap.size,0,none⟩ = some (.pointer (some ⟨w.heap.size + 1,0,none⟩)):=by
  refine cell_of_one (t:=206) ?_
  rw [Below.heap_alloc _ _ _ (by simp)]
  exact hH
 generalize (w.alloc (.cells #[.pointer (some ⟨w.heap.size + 1,0,none⟩)] 206)).alloc (.cells #[.int .i64 0,.int .i64 1,.int .i64 2,.int .i64 3,.int .i64 4,.int .i64 5] 212) = w1 at *
 refine bodyPost_ret (v:=.tuple #[.pointer (some ⟨w.heap.size + 1,0,none⟩),.func (Fn.func 181) #[] #[.pointer (some ⟨w.heap.size,0,none⟩)]]) (by simp [results,Try.results173,go_sem,hP]) rfl ?_
 exact ⟨w.heap.size,w.heap.size + 1,rfl,hP,by omega,⟨hL,rfl⟩,hB,by omega,by omega⟩
end Go.Proofs.Ytnkpnjnfddjfpaa

namespace Go.Proofs.Ytnkpnjnfddjfpaa
open Go.RowKit Go.Shelf M01 M02 M27
def SelOut (w:World) (rp:Nat) (bs:List Nat) (R:Option (List Nat × Nat)) (e:Ending) (w':World):Prop :=
 Only (fun b=>b = rp) w w' /\ match R with
 | some (l,at2)=>∃ a c,e = .returned (.tuple #[.slice a l.length c,.int .i64 0]) /\ OwnN 3 .i64 w' w.heap.size a c l /\ RdM w' rp bs at2
 | none=>∃ x,e = .returned (.tuple #[x,.int .i64 2])
theorem SelOut.some {w w':World} {rp at2:Nat} {bs l:List Nat} {e:Ending} {R:Option (List Nat × Nat)} (hR:R = some (l,at2)) (h:Only (fun b=>b = rp) w w') (h2:∃ a c,e = .returned (.tuple #[.slice a l.length c,.int .i64 0]) /\ OwnN 3 .i64 w' w.heap.size a c l /\ RdM w' rp bs at2):SelOut w rp bs R e w':=by
 subst hR;exact ⟨h,h2⟩
theorem SelOut.none {w w':World} {rp:Nat} {bs:List Nat} {x:Value} {R:Option (List Nat × Nat)} (hR:R = none) (h:Only (fun b=>b = rp) w w'):SelOut w rp bs R (.returned (.tuple #[x,.int .i64 2])) w':=by
 subst hR;exact ⟨h,x,rfl⟩
theorem Zea {w A:World} {q rp:Nat} {z:Value} {bs:List Nat} {R:Option (List Nat × Nat)} {tmps:Array Value} (hR:R = none) (h:OneR q A z) (ho:Only (fun b=>b = rp) w A) (hq:w.heap.size = q) (t5:tmps.getD 5 undef = .pointer (some ⟨q,0,none⟩)) :
  bodyPostD Try.prog Try.f154 (SelOut w rp bs R) (.panic formP) { tmps:=tmps,defers:=choDef q } A :=
 Zpl h t5 fun x=>SelOut.none hR (ho.setCell (p:=⟨q,0,none⟩) (.inr (by show w.heap.size <= q;omega)) _)
theorem Zvz {T:Nat -> Prop} {mb:Nat} {w A B:World} (h:Only T w A) (k:Only (fun b=>b = mb) A B) (hm:w.heap.size <= mb):Only T w B :=
 ⟨k.os.trans h.os,k.tape.trans h.tape,k.output.trans h.output,Nat.le_trans h.size k.size,fun b hb hT=>(k.block b (Nat.lt_of_lt_of_le hb h.size) (by show b ≠ mb;omega)).trans (h.block b hb hT)⟩
theorem Zbk {T:Nat -> Prop} {A B:World} {p:Addr} {v:Value} (h:A.cell? p = some v) (ho:Only T A B) (hT:¬ T p.block):B.cell? p = some v:=by
 have hlt:=World.cell?_ltH h
 unfold World.cell? at h ⊢
 rw [ho.block _ hlt hT]
 exact h
theorem Zax {n:Nat} {A B:World} {p:Addr} {v:Value} (h:A.cell? p = some v) (ho:Below n A B) (hn:p.block < n):B.cell? p = some v:=by
 unfold World.cell? at h ⊢
 rw [ho.block _ hn]
 exact h
theorem Lst.only {T:Nat -> Prop} {A B:World} {mb:Nat} {l:List Nat} (h:Lst A mb l) (ho:Only T A B) (hT:¬ T mb):Lst B mb l:=⟨Zac h.1 ho hT,h.2⟩
theorem Lst.belowAt {n:Nat} {A B:World} {mb:Nat} {l:List Nat} (h:Lst A mb l) (ho:Below n A B) (hn:mb < n):Lst B mb l:=⟨(ho.block mb hn).trans h.1,h.2⟩
theorem Zif (l:List Nat) (k:Nat) (hk:k < l.length):(toFront l k).length = l.length:=by unfold toFront;simp;omega
set_option maxRecDepth 100000 in
set_option maxHeartbeats 3200000 in
theorem Zqq (w:World) (rp:Nat) (bs:List Nat) (at_ n:Nat) (hn0:2 <= n) (hn:n <= 6) (h:RdM w rp bs at_) :
  Calls Try.prog 154 #[.pointer (some ⟨rp,0,none⟩),.int .i64 (n:Nat)] w fun e w'=>SelOut w rp bs (selG (rv bs) at_ n) e w':=by
 have hrp:=h.lt
 have hlen:=Zap bs
 have H:=Zh (h.below (Zai w (.cells #[.int .i64 0] 25)))
 have HONE:=Zh (OneR.new w (.int .i64 0))
 have HO0:=Zh (Only.ofBelow (T:=fun b=>b = rp) (Zai w (.cells #[.int .i64 0] 25)))
 have hsz:(w.alloc (.cells #[.int .i64 0] 25)).heap.size = w.heap.size + 1:=by simp
 clear h
 obtain ⟨R,hR0⟩:∃ R,R = selG (rv bs) at_ n:=⟨_,rfl⟩
 rw [<- hR0]
 replace hR0:=Zh hR0
 have hmf:∀ (fn:Fn) (first cap:Array Value) (w:World),(Instr.makeFunc fn first cap).run Try.prog w = .ok (.func fn first cap) w:=fun _ _ _ _=>rfl
 go_enter_defers Try.func154,Try.ntmps154
 go_wp2_with fail
 generalize w.alloc (.cells #[.int .i64 0] 25) = w0 at *
 obtain ⟨q,hq⟩:∃ q,w.heap.size = q:=⟨_,rfl⟩
 simp only [hq] at HONE hsz hrp ⊢
 have HQ:=Zh hq
 clear hmf hq
 by_cases h1:at_ + 15 <= 8 * bs.length
 case neg =>
  have HR:Hid (R = none):=by unfold Hid;rw [hR0.out];unfold selG numG nb;rw [if_neg (by omega)];rfl
  refine (Zaq w0 rp bs at_ 15 (by decide) H.out (by omega)).mono ?_
  rintro e w1 ⟨rfl,n1,rfl⟩
  clear h1
  go_wp2_with fail
  refine (Zfr (.int .u32 0) _).mono ?_
  rintro e w2 ⟨rfl,rfl⟩
  exact Zea HR.out (HONE.out.only (Zah (fun _=>False) _ _) id) (HO0.out.trans (Zah _ _ _)) HQ.out rfl
 refine (Zbn w0 rp bs at_ 15 (by decide) H.out h1).mono ?_
 rintro e w1 ⟨rfl,hr1,ho1⟩
 have HR1:=Zh hr1
 have HO1:=Zh (HO0.out.trans ho1)
 have HQ1:=Zh (HONE.out.only ho1 (by show q ≠ rp;omega))
 have hx:=Zbq (rv bs) at_ 15
 have HF:Hid (R = if numH (rv bs) at_ 15 = 0 then none else selL (rv bs) n (numH (rv bs) at_ 15) [0,1,2,3,4,5] (at_ + 15) []):=by
  unfold Hid;rw [hR0.out];unfold selG numG nb;rw [if_pos (by omega)];rfl
 have hz1:=ho1.size
 clear hR0 hr1 ho1 H HO0 HONE
 generalize numH (rv bs) at_ 15 = x at *
 go_wp2_with fail
 refine (Zfs x (by omega) w1).mono ?_
 rintro e w1' ⟨rfl,h1'⟩
 rw [h1']
 clear h1' w1'
 by_cases hx0:x = 0
 ·have t1:((x:Int) == 0) = true:=by simp [hx0]
  have HR:Hid (R = none):=by unfold Hid;rw [HF.out,if_pos hx0]
  clear HF hx0
  go_wp2
  exact Zea HR.out HQ1.out HO1.out HQ.out rfl
 have t1:((x:Int) == 0) = false:=by simp [hx0]
 rw [if_neg hx0] at HF
 go_wp2_with fail
 refine (Zwx w1).mono ?_
 rintro e w2 ⟨pb,mb,rfl,hpb,hpm,hls,hbw,hpb1,hmb1⟩
 have HPB:=Zh hpb
 have HLS:=Zh hls
 have HR2:=Zh (HR1.out.below hbw)
 have HO2:=Zh (HO1.out.below hbw)
 have HQ2:=Zh (HQ1.out.below hbw)
 have hz2:=hbw.size
 have hpb2:pb < w2.heap.size:=World.cell?_ltH hpb
 have hmb2:mb < w2.heap.size:=(Array.getElem?_eq_some_iff.1 hls.1).1
 clear hpb hls hbw HR1 HO1 HQ1
 obtain ⟨B0,hB0⟩:∃ B0,w2.heap.size = B0:=⟨_,rfl⟩
 simp only [hB0] at hz2 hpb2 hmb2
 have HB0:=Zh hB0
 clear hB0
 go_wp2_with fail
 go_loopw [4,9] (fun ov kv A=>∃ (at2:Nat) (a':Option Addr) (c':Nat) (out lst:List Nat),ov = .slice a' out.length c' /\ out.length <= x /\ OwnN 3 .i64 A B0 a' c' out /\ RdM A rp bs at2 /\ OneR q A (.int .i64 0) /\ A.cell? ⟨pb,0,none⟩ = some (.pointer (some ⟨mb,0,none⟩)) /\ Lst A mb lst /\ Only (fun b=>b = rp) w A /\ B0 <= A.heap.size /\ R = selL (rv bs) n (x - out.length) lst at2 out) (fun ov _ _=>x - lnV ov)
 case atStart=>exact ⟨at_ + 15,none,0,[],[0,1,2,3,4,5],rfl,by simp,OwnN.nil _ _ _ _,HR2.out,HQ2.out,HPB.out,HLS.out,HO2.out,by rw [HB0.out];exact Nat.le_refl _,HF.out⟩
 case round =>
  obtain ⟨at2,a1,c1,out,lst,rfl,hol,how,hrd,hon,hpb,hls,honly,hzA,heq⟩:=hrel
  have HW:=Zh how
  have HR2:=Zh hrd
  have HN:=Zh hon
  have HP:=Zh hpb
  have HLS:=Zh hls
  have HL:=Zh honly
  have HE:=Zh heq
  clear how hrd hon hpb hls honly heq HF
  by_cases hlt:out.length < x
  ·have t1:decide (out.length < x) = true:=decide_eq_true hlt
   obtain ⟨m,hm⟩:∃ m,x - out.length = m + 1:=⟨x - out.length - 1,by omega⟩
   rw [hm] at HE
   have HE2:Hid (R = (onesG (rv bs) n (8 - 0) 0 at2).bind fun p=>selL (rv bs) n m (toFront lst p.1) p.2 (out ++ [lst.getD p.1 0])):=HE
   clear HE
   go_wp2_with fail
   go_loopw [9] (fun kv A=>∃ (k at2:Nat),kv = .int .i64 (k:Nat) /\ k < n /\ OwnN 3 .i64 A B0 a1 c1 out /\ RdM A rp bs at2 /\ OneR q A (.int .i64 0) /\ A.cell? ⟨pb,0,none⟩ = some (.pointer (some ⟨mb,0,none⟩)) /\ Lst A mb lst /\ Only (fun b=>b = rp) w A /\ B0 <= A.heap.size /\ R = (onesG (rv bs) n (8 - k) k at2).bind fun p=>selL (rv bs) n m (toFront lst p.1) p.2 (out ++ [lst.getD p.1 0])) (fun _ A=>8 * bs.length - rdAtM A rp)
   case atStart=>exact ⟨0,at2,rfl,by omega,HW.out,HR2.out,HN.out,HP.out,HLS.out,HL.out,hzA,HE2.out⟩
   case round =>
    clear HW HR2 HN HL HE2 HP HLS hzA
    obtain ⟨k,at2,rfl,hkn,how,hrd,hon,hpb,hls,honly,hzA,heq⟩:=hrel
    have HW:=Zh how
    have HR2:=Zh hrd
    have HN:=Zh hon
    have HP:=Zh hpb
    have HLS:=Zh hls
    have HL:=Zh honly
    have hat:=hrd.le
    have hrdA:=Zhh hrd
    obtain ⟨f,hf⟩:∃ f,8 - k = f + 1:=⟨7 - k,by omega⟩
    have hf2:8 - (k + 1) = f:=by omega
    have HE:=Zh heq
    rw [hf] at HE
    unfold onesG at HE
    clear how hrd hon hpb hls honly heq
    by_cases h2:at2 + 1 <= 8 * bs.length
    case neg =>
     have HR:Hid (R = none):=by unfold Hid;rw [HE.out,if_pos (by unfold nb;omega)];rfl
     have HG:=Zh (Zaq wr rp bs at2 1 (by decide) HR2.out (by omega))
     clear HE hf hf2
     go_wp2_with fail
     refine HG.out.mono ?_
     rintro e w2 ⟨rfl,n1,rfl⟩
     clear HG
     go_wp2_with fail
     refine (Zfr (.int .u32 0) _).mono ?_
     rintro e w3 ⟨rfl,rfl⟩
     exact Zea HR.out (HN.out.only (Zah (fun _=>False) _ _) id) (HL.out.trans (Zah _ _ _)) HQ.out rfl
    have HG:=Zh (Zbn wr rp bs at2 1 (by decide) HR2.out h2)
    rw [if_neg (by unfold nb;omega)] at HE
    rw [Zkf] at HG
    have hbl:=Zgq (rv bs) at2
    generalize hbv:bit (rv bs) at2 = b at *
    have HF2:=Zh hf2
    clear hbv hf hf2
    go_wp2_with fail
    refine HG.out.mono ?_
    rintro e w3 ⟨rfl,hr3,ho3⟩
    have HR3:=Zh hr3
    have HO3:=Zh (HL.out.trans ho3)
    have HN3:=Zh (HN.out.only ho3 (by show q ≠ rp;omega))
    have HW3:=Zh (HW.out.only ho3 (fun b hb=>by show b ≠ rp;omega))
    have HP3:=Zh (Zbk HP.out ho3 (by show pb ≠ rp;omega))
    have HLS3:=Zh (HLS.out.only ho3 (by show mb ≠ rp;omega))
    have hz3:=Nat.le_trans hzA ho3.size
    have hrd3:=Zhh hr3
    clear hr3 ho3 HG HR2 HL HN HW HP HLS
    go_wp2_with fail
    refine (Zfs b (by omega) w3).mono ?_
    rintro e w4 ⟨rfl,h4⟩
    rw [h4]
    clear h4 w4
    by_cases hb:b = 0
    ·subst hb
     rw [if_pos rfl] at HE
     have HE2:Hid (R = selL (rv bs) n m (toFront lst k) (at2 + 1) (out ++ [lst.getD k 0])):=HE
     have HAT:=Zh (Zzi w3 pb mb lst k (by omega) HP3.out hpm HLS3.out)
     generalize lst.getD k 0 = y at *
     clear HE
     go_wp2_with fail
     refine HAT.out.mono ?_
     rintro e w5 ⟨rfl,hls5,ho5⟩
     have HLS5:=Zh hls5
     have HO5:=Zh ho5
     have HW5:=Zh (HW3.out.only ho5 (fun b hb=>by show b ≠ mb;omega))
     have hz5:=Nat.le_trans hz3 ho5.size
     clear hls5 ho5 HAT
     go_wp2_with (at_builtin;refine app1N Zaz rfl (.tmp 39) (.tmp 43) rfl (y:=y) (l:=out) (base:=B0) rfl HW5.out rfl (Nat.le_refl _) (by decide) (by omega) (by omega) hz5 ?_;intro a6 c6 w6 o6 hg6 hb6)
     go_roundw
     case rel=>exact ⟨at2 + 1,a6,c6,out ++ [y],toFront lst k,by rw [List.length_append];rfl,by rw [List.length_append];simp;omega,o6,(HR3.out.only HO5.out (fun b hb=>by show b ≠ mb;omega)).belowAt hb6 (by omega),(HN3.out.only HO5.out (by show q ≠ mb;omega)).belowAt hb6 (by omega),Zax (Zbk HP3.out HO5.out hpm) hb6 hpb2,HLS5.out.belowAt hb6 hmb2,(Zvz HO3.out HO5.out (by rw [HQ.out];omega)).belowAt2 hb6 (by rw [HQ.out];omega),Nat.le_trans hz5 hb6.size,by rw [HE2.out,List.length_append];exact congrArg (fun t=>selL (rv bs) n t (toFront lst k) (at2 + 1) (out ++ [y])) (by show m = x - (out.length + 1);omega)⟩
     case measure=>simp [lnV];omega
    ·obtain rfl:b = 1:=by omega
     rw [if_neg (by decide)] at HE
     by_cases hkt:k + 1 = n
     ·have HR:Hid (R = none):=by unfold Hid;rw [HE.out,if_pos hkt];rfl
      have hw1:IntKind.i64.wrap ((k:Int) + 1) = (k:Int) + 1:=IntWalk.i64_in _ (by omega)
      have t3:((k:Int) + 1 == (n:Int)) = true:=by simp;omega
      clear HE hkt
      go_wp2
      exact Zea HR.out HN3.out HO3.out HQ.out rfl
     ·rw [if_neg hkt,<- HF2.out] at HE
      obtain ⟨k1,hk1⟩:∃ k1,k + 1 = k1:=⟨_,rfl⟩
      have hw1:IntKind.i64.wrap ((k:Int) + 1) = (k1:Int):=by rw [IntWalk.i64_in _ (by omega)];omega
      have t3:((k1:Int) == (n:Int)) = false:=by simp;omega
      have hk1n:k1 < n:=by omega
      rw [hk1] at HE
      clear hkt hk1 hkn
      go_wp2
      go_roundw
      case rel=>exact ⟨k1,at2 + 1,rfl,hk1n,HW3.out,HR3.out,HN3.out,HP3.out,HLS3.out,HO3.out,hz3,HE.out⟩
      case measure=>rw [hrd3,hrdA];omega
  ·have t1:decide (out.length < x) = false:=decide_eq_false hlt
   have hx2:x - out.length = 0:=by omega
   rw [hx2] at HE
   have HE2:Hid (R = some (out,at2)):=HE
   have hfr:wr.frozen? ⟨q,0,none⟩ = false:=Zam HN.out
   have hce:wr.cell? ⟨q,0,none⟩ = some (.int .i64 0):=cell_of_one HN.out
   clear HE hx2
   go_wp2
   refine Zvg (x:=.slice a1 out.length c1) (HN.out.set (.int .i64 0)) rfl rfl ?_
   exact SelOut.some HE2.out (HL.out.setCell (p:=⟨q,0,none⟩) (.inr (by show w.heap.size <= q;rw [HQ.out];exact Nat.le_refl _)) _) ⟨a1,c1,rfl,((HW.out.other (p:=⟨q,0,none⟩) (fun g hg=>by show q ≠ g;rcases HW.out.form with ⟨h,_⟩ | ⟨g',h,hb,_⟩ <;> (rw [h] at hg;cases hg);omega) _).mono (by rw [HQ.out];omega)),HR2.out.only (T:=fun b=>b = q) ((Only.refl (fun b=>b = q) _).setCell (p:=⟨q,0,none⟩) (.inl rfl) _) (fun b hb=>by show b ≠ q;omega)⟩
theorem Zgy (w:World) (rp:Nat) (bs:List Nat) (at_ n:Nat) (hn0:2 <= n) (hn:n <= 6) (h:RdM w rp bs at_) :
  Calls Try.prog 115 #[.pointer (some ⟨rp,0,none⟩),.int .i64 (n:Nat)] w fun e w'=>SelOut w rp bs (selG (rv bs) at_ n) e w':=by
 have HT:=Zh (Zqq w rp bs at_ n hn0 hn h)
 have t1:decide ((n:Int) < 2) = false:=by simp;omega
 have t2:decide ((6:Int) < (n:Int)) = false:=by simp;omega
 clear h
 generalize hR:selG (rv bs) at_ n = R at *
 clear hR
 go_enter Try.func115,Try.ntmps115
 go_wp2_with fail
 refine HT.out.mono ?_
 rintro e w1 h
 rcases R with _ | ⟨l,at2⟩
 ·obtain ⟨ho,x,rfl⟩:=h
  have HO:=Zh ho
  clear ho HT
  go_wp2
  go_ret2
  exact SelOut.none rfl HO.out
 ·obtain ⟨ho,a,c,rfl,hl,hr⟩:=h
  have HO:=Zh ho
  have HL:=Zh hl
  have HR:=Zh hr
  clear ho hl hr HT
  go_wp2
  go_ret2
  exact SelOut.some rfl HO.out ⟨a,c,rfl,HL.out,HR.out⟩
theorem Zem (w:World) (rp:Nat) (n:Nat) (hn:n < 2 \/ 6 < n) :
  Calls Try.prog 115 #[.pointer (some ⟨rp,0,none⟩),.int .i64 (n:Nat)] w fun e w'=>e = .returned (.tuple #[.slice none 0 0,.int .i64 5]) /\ w' = w:=by
 rcases hn with hn | hn
 ·have t1:decide ((n:Int) < 2) = true:=by simp;omega
  go_enter Try.func115,Try.ntmps115
  go_wp2
  go_ret2
  exact ⟨rfl,rfl⟩
 ·have t1:decide ((n:Int) < 2) = false:=by simp;omega
  have t2:decide ((6:Int) < (n:Int)) = true:=by simp;omega
  go_enter Try.func115,Try.ntmps115
  go_wp2
  go_ret2
  exact ⟨rfl,rfl⟩
end Go.Proofs.Ytnkpnjnfddjfpaa

namespace Go.Proofs.Ytnkpnjnfddjfpaa
open Go.RowKit Go.Shelf M01 M02 M27
set_option maxRecDepth 100000 in
theorem Zmx (w:World) (a:Option Addr) (cap:Nat) (l:List Nat) (hr:RowN .u8 w a cap l) (hl:l.length <= 100000000) (h0:l ≠ []) :
  Calls Try.prog 176 #[.slice a l.length cap] w fun e w'=>∃ g c',e = .returned (.slice (some ⟨g,0,none⟩) l.length c') /\ OwnN 5 .u8 w' w.heap.size (some ⟨g,0,none⟩) c' l /\ Below w.heap.size w w':=by
 have hx:∃ x,a = some x:=by
  rcases hr.2.2 with h | ⟨b,off,h,_⟩
  ·exact absurd h h0
  ·exact ⟨_,h⟩
 obtain ⟨x,rfl⟩:=hx
 have H0:=Zh h0
 clear h0
 go_enter Try.func176,Try.ntmps176
 go_wp2_with fail
 rw [eqNilF]
 go_wp2_with (at_builtin;refine appAnyN Zbl rfl (.tmp 5) (.tmp 6) rfl (a:=some ⟨w.heap.size,0,none⟩) (cap:=0) (l:=[]) (ys:=l) (base:=w.heap.size) rfl (OwnN.lit0 _ _ _ _ (Nat.le_refl _)) rfl rfl (hr.below ((Below.refl _ _).alloc (Nat.le_refl _) _)) (by simp;omega) (by simp;omega) (by simp) ?_;intro a1 cap1 w1 hown1 hg1 hb1;simp only [List.nil_append] at hown1;simp only [List.length_nil,Nat.zero_add])
 go_ret
 rcases hown1.form with ⟨_,_,h⟩ | ⟨g,rfl,_⟩
 ·exact absurd h H0.out
 ·exact ⟨g,cap1,rfl,hown1,(Zai w _).trans hb1⟩
theorem Zng (w:World) (dT e:TypeId) (mb k t:Nat) (vs:List Value) (v:Value) (hv:vs.getD k v = v) (h1:∀ x ∈ vs.take k,x.oneCell' = true) (hu:Try.prog.underlying dT = some (.slice e)) (hs:(Try.prog.info? e).map (·.size) = some 1) (hk:k < vs.length)
  (h:w.heap[mb]? = some (.cells vs.toArray t (0,0))) :
  ∃ w1,(∀ ty,∀ ds sc,(Builtin.copy_ #[dT,dT] ty #[.slice (some ⟨mb,1,none⟩) k ds,.slice (some ⟨mb,0,none⟩) k sc]).run Try.prog w = .ok (goInt k) w1) /\ Only (fun b=>b = mb) w w1 /\ (∃ z,w1.cell? ⟨mb,0,none⟩ = some z) /\ w1.frozen? ⟨mb,0,none⟩ = false ∧
   (w1.setCell ⟨mb,0,none⟩ v).heap[mb]? = some (.cells (v :: (vs.take k ++ vs.drop (k + 1))).toArray t (0,0)):=by
 have hrun:=fun ty ds sc=>run_copy_row (P:=Try.prog) w dT dT ty e mb 1 k ds ⟨mb,0,none⟩ k sc vs.toArray t (vs.take k) hu hs h (by simp;omega) (by
  intro j x hj
  have hjk:j < k:=by have:=(List.getElem?_eq_some_iff.1 hj).1;simp at this;omega
  have hjv:vs[j]? = some x:=by rw [<- hj,List.getElem?_take_of_lt hjk]
  have:(⟨mb,0,none⟩:Addr).add j = ⟨mb,j,none⟩:=by unfold Addr.add;split <;> simp_all
  rw [this]
  simp [World.cell?,h,hjv]) (by simp;omega) h1
 have hl1:(vs.take k).length = k:=by simp;omega
 rw [hl1] at hrun
 have hrow:=setRow_heap w mb vs.toArray (vs.toArray.toList.take 1 ++ vs.take k ++ vs.toArray.toList.drop (1 + k)).toArray t (0,0) h
 have hfl:=Zjd vs k (by omega) v
 refine ⟨_,hrun,?_,?_,?_,?_⟩
 ·refine ⟨rfl,rfl,rfl,by simp [World.setRow],fun b hb hn=>?_⟩
  show (w.heap.modify mb _)[b]? = _
  rw [Array.getElem?_modify,if_neg (by intro e;exact hn e.symm)]
 ·cases hc:(vs.toArray.toList.take 1 ++ vs.take k ++ vs.toArray.toList.drop (1 + k)) with
  | nil =>
   have:=congrArg List.length hc
   simp at this
   have h0:vs.length = 0:=by rw [this.1];rfl
   omega
  | cons z zs=>exact ⟨z,by rw [hc] at hrow;simp [World.cell?,hrow]⟩
 ·unfold World.frozen?
  rw [hrow]
  rfl
 ·rw [hv] at hfl
  rw [Zbc hrow,<- hfl]
  simp
def FrSt (w:World) (lb g cap:Nat) (l:List Nat):Prop:=w.heap[lb]? = some (.cells #[.slice (some ⟨g,0,none⟩) l.length cap] 22 (0,0)) /\ OwnN 5 .u8 w g (some ⟨g,0,none⟩) cap l /\ lb ≠ g
theorem Zzb (g k n c:Nat) (hk:0 < k) (hn:k < n) (hc:n <= c) (w:World):(Instr.sliceAt 22 (.slice (some ⟨g,0,none⟩) n c) (some (.int .i64 1)) (some (.int .i64 ((k:Int) + 1))) none).run Try.prog w = .ok (.slice (some ⟨g,1,none⟩) k (c - 1)) w:=by
 have hsz:(Try.prog.info? 5).map (·.size) = some 1:=by kernel_rfl
 have h1:(k:Int) + 1 <= (c:Int):=by omega
 have h2:(0:Int) <= (k:Int) + 1:=by omega
 have h3:((k:Int) + 1).toNat = k + 1:=by omega
 have h6:(1:Int) <= (k:Int) + 1:=by omega
 have h7:¬ c = 1:=by omega
 cases h5:Try.prog.info? 5 with
 | none=>rw [h5] at hsz;cases hsz
 | some ie =>
  simp only [h5,Option.map_some,Option.some.injEq] at hsz
  simp [Instr.sliceAt,Instr.slice,Instr.sliceBounds,Instr.sliceBound,run_underlying Try.underlying22,asIntOf,sizeOf,typeInfo,h5,go_sem,h1,h2,h3,h6,h7,hsz,Addr.add]
theorem Zza (g n c:Nat) (hn:0 < n) (hc:n <= c):∃ a,∀ w,(Instr.sliceAt 22 (.slice (some ⟨g,0,none⟩) n c) (some (.int .i64 1)) (some (.int .i64 1)) none).run Try.prog w = .ok (.slice a 0 (c - 1)) w:=by
 have hsz:(Try.prog.info? 5).map (·.size) = some 1:=by kernel_rfl
 have h1:(1:Int) <= (c:Int):=by omega
 have h1':1 <= c:=by omega
 cases h5:Try.prog.info? 5 with
 | none=>rw [h5] at hsz;cases hsz
 | some ie =>
  simp only [h5,Option.map_some,Option.some.injEq] at hsz
  refine ⟨some (if c = 1 then ⟨g,0,none⟩ else ⟨g,1,none⟩),fun w=>?_⟩
  simp [Instr.sliceAt,Instr.slice,Instr.sliceBounds,Instr.sliceBound,run_underlying Try.underlying22,asIntOf,sizeOf,typeInfo,h5,go_sem,h1,h1',hsz,Addr.add]
  split <;> rfl
theorem Zty (g k n c:Nat) (hk:k <= c) (hn:0 < c) (w:World):(Instr.sliceAt 22 (.slice (some ⟨g,0,none⟩) n c) none (some (.int .i64 (k:Nat))) none).run Try.prog w = .ok (.slice (some ⟨g,0,none⟩) k c) w:=by
 have hsz:(Try.prog.info? 5).map (·.size) = some 1:=by kernel_rfl
 have h7:¬ c = 0:=by omega
 cases h5:Try.prog.info? 5 with
 | none=>rw [h5] at hsz;cases hsz
 | some ie =>
  simp only [h5,Option.map_some,Option.some.injEq] at hsz
  simp [Instr.sliceAt,Instr.slice,Instr.sliceBounds,Instr.sliceBound,run_underlying Try.underlying22,asIntOf,sizeOf,typeInfo,h5,go_sem,hk,h7,hsz,Addr.add]
theorem FrSt.take {w:World} {lb g cap:Nat} {l:List Nat} (h:FrSt w lb g cap l):∃ vs:List Value,w.heap[g]? = some (.cells vs.toArray 5 (0,0)) /\ vs.take l.length = l.map (fun (n:Nat)=>Value.int .u8 n) /\ l.length <= cap /\ cap <= maxLen /\ vs.length = cap:=by
 obtain ⟨_,⟨h1,h2⟩,_⟩:=h
 rcases h2 with ⟨h2,_⟩ | ⟨g',c,cur,h2,h3,h4,h5,h6,h7,h8⟩
 ·cases h2
 ·simp only [Value.slice.injEq,Option.some.injEq,Addr.mk.injEq,and_true,true_and] at h2
  obtain ⟨rfl,rfl⟩:=h2
  exact ⟨cur.toList,by simpa using h4,by simpa using h8,h5,h6,by simpa using h7⟩
theorem Zps (vs:List Value) (k n:Nat) (hk:k < n) (hn:n <= vs.length) (v:Value):(v :: (vs.take k ++ vs.drop (k + 1))).take n = v :: ((vs.take n).take k ++ (vs.take n).drop (k + 1)):=by
 obtain ⟨m,rfl⟩:∃ m,n = m + 1:=⟨n - 1,by omega⟩
 rw [List.take_succ_cons,List.take_append,List.take_take,List.take_take,List.length_take,List.drop_take]
 rw [show min m k = k by omega,show min k (m + 1) = k by omega,show m - min k vs.length = m - k by omega,show m + 1 - (k + 1) = m - k by omega]
theorem FrSt.front {w:World} {lb g cap:Nat} {l:List Nat} (h:FrSt w lb g cap l) (k:Nat) (hk:k < l.length):∃ w1,(∀ ty,∀ ds sc,(Builtin.copy_ #[22,22] ty #[.slice (some ⟨g,1,none⟩) k ds,.slice (some ⟨g,0,none⟩) k sc]).run Try.prog w = .ok (goInt k) w1) /\ Only (fun b=>b = g) w w1 /\ (∃ z,w1.cell? ⟨g,0,none⟩ = some z) /\ w1.frozen? ⟨g,0,none⟩ = false /\ FrSt (w1.setCell ⟨g,0,none⟩ (.int .u8 (l.getD k 0:Nat))) lb g cap (toFront l k):=by
 obtain ⟨vs,h1,h2,h3,h4,h5⟩:=h.take
 have hgv:vs.getD k (.int .u8 (l.getD k 0:Nat)) = .int .u8 (l.getD k 0:Nat):=by
  have e:vs[k]? = (vs.take l.length)[k]?:=(List.getElem?_take_of_lt hk).symm
  rw [List.getD_eq_getElem?_getD,e,h2]
  simp [List.getElem?_eq_getElem hk]
 have hone:∀ x ∈ vs.take k,x.oneCell' = true:=by
  intro x hx
  have:vs.take k = (vs.take l.length).take k:=by rw [List.take_take,show min k l.length = k by omega]
  rw [this] at hx
  have hx2:=List.mem_of_mem_take hx
  rw [h2] at hx2
  obtain ⟨n,_,rfl⟩:=List.mem_map.1 hx2
  rfl
 obtain ⟨w1,m1,m2,m3,m4,m5⟩:=Zng w 22 5 g k 5 vs (.int .u8 (l.getD k 0:Nat)) hgv hone Try.underlying22 (by kernel_rfl) (by omega) h1
 obtain ⟨hl,ho,hne⟩:=h
 have hl2:(toFront l k).length = l.length:=Zif l k hk
 refine ⟨w1,m1,m2,m3,m4,?_,⟨?_,.inr ⟨g,cap,(Value.int .u8 (l.getD k 0:Nat) :: (vs.take k ++ vs.drop (k + 1))).toArray,rfl,Nat.le_refl _,m5,?_,h4,?_,?_⟩⟩,hne⟩
 ·rw [Below.heap_setCell _ _ _ _ (by show lb ≠ g;exact hne),m2.block lb (Array.getElem?_eq_some_iff.1 hl).1 hne,hl,hl2]
 ·simp
 ·rw [hl2];exact h3
 ·simp;omega
 ·rw [hl2,Nat.mul_one]
  show (Value.int .u8 (l.getD k 0:Nat) :: (vs.take k ++ vs.drop (k + 1))).take l.length = _
  rw [Zps vs k l.length hk (by omega),h2]
  unfold toFront
  simp [List.map_take,List.map_drop]
theorem FrSt.front0 {w:World} {lb g cap:Nat} {l:List Nat} (h:FrSt w lb g cap l) (h0:0 < l.length):FrSt (w.setCell ⟨g,0,none⟩ (.int .u8 (l.getD 0 0:Nat))) lb g cap (toFront l 0):=by
 have e:toFront l 0 = l.set 0 (l.getD 0 0):=by
  cases l with
  | nil=>simp at h0
  | cons a l=>simp [toFront]
 obtain ⟨hl,ho,hne⟩:=h
 rw [e]
 refine ⟨?_,(ho.stored 0 _).1,hne⟩
 rw [Below.heap_setCell _ _ _ _ (by show lb ≠ g;exact hne),hl]
 simp
theorem FrSt.drew {w:World} {lb g cap:Nat} {l:List Nat} (h:FrSt w lb g cap l):FrSt w.drew lb g cap l:=h
set_option maxRecDepth 100000 in
set_option maxHeartbeats 1600000 in
theorem Zsb (w:World) (lb g cap:Nat) (l:List Nat) (k:Nat) (hk:k < l.length) (hkm:k < 100000000) (h:FrSt w lb g cap l) :
  Calls Try.prog 177 #[.int .i64 (k:Nat),.pointer (some ⟨lb,0,none⟩)] w fun e w'=>e = .returned (.int .u8 (l.getD k 0:Nat)) /\ FrSt w' lb g cap (toFront l k) /\ Only (fun b=>b = g) w w':=by
 have hcaps:=h.2.1.caps
 have hl:=cell_of_one h.1
 obtain ⟨g',hg',_,_,hc,hf⟩:=h.2.1.at hk
 simp only [Option.some.injEq,Addr.mk.injEq,and_true] at hg'
 subst hg'
 have hgd:l.getD k 0 = l[k]:=by rw [List.getD_eq_getElem?_getD,List.getElem?_eq_getElem hk];rfl
 rw [<- hgd] at hc
 have hk1:IntKind.i64.wrap ((k:Int) + 1) = (k:Int) + 1:=IntWalk.i64_in _ (by omega)
 have hki:(k:Int) < (l.length:Int):=by omega
 have h0i:(0:Int) < (l.length:Int):=by omega
 have hne:=h.2.2
 by_cases hk0:k = 0
 ·subst hk0
  obtain ⟨a,hs1⟩:=Zza g l.length cap (by omega) hcaps.1
  have hs2:∀ w,(Instr.sliceAt 22 (.slice (some ⟨g,0,none⟩) l.length cap) none (some (.int .i64 0)) none).run Try.prog w = .ok (.slice (some ⟨g,0,none⟩) 0 cap) w:=Zty g 0 l.length cap (by omega) (by omega)
  have hw1:IntKind.i64.wrap 1 = 1:=rfl
  have HRUN:=Zh (fun ty=>run_copy_none (P:=Try.prog) w.drew 22 22 ty 5 a (some ⟨g,0,none⟩) 0 (cap - 1) 0 cap Try.underlying22 (by kernel_rfl) rfl)
  have HSET:=Zh (h.drew.front0 (by omega))
  have hz:w.drew.cell? ⟨g,0,none⟩ = some (.int .u8 (l.getD 0 0:Nat)):=hc
  have hfr:w.drew.frozen? ⟨g,0,none⟩ = false:=hf
  have hl1:w.drew.cell? ⟨lb,0,none⟩ = some (.slice (some ⟨g,0,none⟩) l.length cap):=hl
  clear h hgd hk1
  generalize l.getD 0 0 = v at *
  go_enter Try.func177,Try.ntmps177
  go_wp2_with fail
  go_still_tail 7,(by kernel_rfl)
  go_wp2_with fail
  rw [HRUN.out]
  simp only [goInt]
  go_wp2
  go_ret
  exact ⟨rfl,HSET.out,((Only.refl (fun b=>b = g) w).drew).setCell (p:=⟨g,0,none⟩) (.inl rfl) _⟩
 ·have hs1:=Zzb g k l.length cap (by omega) hk hcaps.1
  have hs2:=Zty g k l.length cap (by omega) (by omega)
  obtain ⟨w1,hrun,ho1,⟨z,hz⟩,hfr,hset⟩:=h.drew.front k hk
  have HRUN:=Zh hrun
  have HO1:=Zh (Only.trans ((Only.refl (fun b=>b = g) w).drew) ho1)
  have hl1:w1.cell? ⟨lb,0,none⟩ = some (.slice (some ⟨g,0,none⟩) l.length cap):=Zbk hl HO1.out hne
  have HSET:=Zh hset
  clear h hgd hrun ho1 hset
  generalize l.getD k 0 = v at *
  go_enter Try.func177,Try.ntmps177
  go_wp2_with fail
  go_still_tail 7,(by kernel_rfl)
  go_wp2_with fail
  rw [HRUN.out]
  simp only [goInt]
  go_wp2
  go_ret
  exact ⟨rfl,HSET.out,HO1.out.setCell (p:=⟨g,0,none⟩) (.inl rfl) _⟩
theorem Zvl (w:World) (a:Option Addr) (cap:Nat) (l:List Nat) (hr:RowN .u8 w a cap l) (hl:l.length <= 100000000) (h0:l ≠ []):Calls Try.prog 159 #[.slice a l.length cap] w fun e w'=>∃ f0 lb g c',e = .returned (.tuple #[f0,.func (Fn.func 177) #[] #[.pointer (some ⟨lb,0,none⟩)]]) /\ FrSt w' lb g c' l /\ Below w.heap.size w w' /\ w.heap.size <= lb /\ w.heap.size <= g:=by
 go_enter Try.func159,Try.ntmps159
 go_wp2_with fail
 refine (Zmx _ a cap l (hr.below (Zai w _)) hl h0).mono ?_
 rintro e w1 ⟨g,c1,rfl,ho,hb⟩
 have HO:=Zh ho
 have HB:=Zh ((Zai w (.cells #[.nilFunc] 194)).trans (hb.mono (by simp)))
 have hz:w.heap.size < w1.heap.size:=by have:=hb.size;simp at this;omega
 have hF:w1.heap[w.heap.size]? = some (.cells #[.nilFunc] 194 (0,0)):=(hb.block _ (by simp)).trans (World.alloc_heap_new _ _)
 have hgl:w.heap.size + 1 <= g /\ g < w1.heap.size:=by
  rcases ho.form with ⟨h,_⟩ | ⟨g',h,h1,h2⟩
  ·cases h
  ·simp only [Option.some.injEq,Addr.mk.injEq,and_true] at h
   subst h
   simp at h1
   exact ⟨h1,h2⟩
 have hF1:(w1.alloc (.cells #[.slice (some ⟨g,0,none⟩) l.length c1] 22)).heap[w.heap.size]? = some (.cells #[.nilFunc] 194 (0,0)):=by rw [Below.heap_alloc _ _ _ hz];exact hF
 have hF2:∀ v,(w1.setCell ⟨w.heap.size,0,none⟩ v).heap[w.heap.size]? = some (.cells #[v] 194 (0,0)):=fun v=>by rw [Zbc hF];rfl
 have hF3:∀ v,((w1.setCell ⟨w.heap.size,0,none⟩ v).alloc (.cells #[.slice (some ⟨g,0,none⟩) l.length c1] 22)).heap[w.heap.size]? = some (.cells #[v] 194 (0,0)):=fun v=>by rw [Below.heap_alloc _ _ _ (by simpa [World.setCell] using hz)];exact hF2 v
 have hL1:∀ v,((w1.setCell ⟨w.heap.size,0,none⟩ v).alloc (.cells #[.slice (some ⟨g,0,none⟩) l.length c1] 22)).heap[w1.heap.size]? = some (.cells #[.slice (some ⟨g,0,none⟩) l.length c1] 22 (0,0)):=fun v=>by
  have:=World.alloc_heap_new (w1.setCell ⟨w.heap.size,0,none⟩ v) (.cells #[.slice (some ⟨g,0,none⟩) l.length c1] 22)
  simpa [World.setCell] using this
 have hO2:∀ v,Only (fun b=>b = w.heap.size) w1 ((w1.setCell ⟨w.heap.size,0,none⟩ v).alloc (.cells #[.slice (some ⟨g,0,none⟩) l.length c1] 22)):=fun v=>((Only.refl (fun b=>b = w.heap.size) w1).setCell (p:=⟨w.heap.size,0,none⟩) (.inl rfl) v).alloc _
 have hc1:=cell_of_one hF1
 have hf1:=Zam hF1
 have HL1:=Zh hL1
 have HF3:=Zh hF3
 have HO2:=Zh hO2
 clear hr hl ho hb h0 hF hF1 hF2 hF3 hL1 hO2
 go_wp2_with fail
 clear hc1 hf1
 obtain ⟨A2,hA2⟩:∃ A,A = (w1.setCell ⟨w.heap.size,0,none⟩ (.func (Fn.func 177) #[] #[.pointer (some ⟨w1.heap.size,0,none⟩)])).alloc (.cells #[.slice (some ⟨g,0,none⟩) l.length c1] 22):=⟨_,rfl⟩
 have hF4:=HF3.out (.func (Fn.func 177) #[] #[.pointer (some ⟨w1.heap.size,0,none⟩)])
 have HL2:=Zh (HL1.out (.func (Fn.func 177) #[] #[.pointer (some ⟨w1.heap.size,0,none⟩)]))
 have HO2':=Zh (HO2.out (.func (Fn.func 177) #[] #[.pointer (some ⟨w1.heap.size,0,none⟩)]))
 rw [<- hA2] at hF4 HL2 HO2'
 rw [<- hA2]
 have hc1:=cell_of_one hF4
 have hf1:=Zam hF4
 have HF4:=Zh hF4
 clear hA2 HF3 HL1 HO2 hF4
 go_region
 generalize hA3:(A2.setCell ⟨w.heap.size,0,none⟩ (.func (Fn.func 177) #[] #[.pointer (some ⟨w1.heap.size,0,none⟩)])).drew = A3
 have hc3:A3.cell? ⟨w.heap.size,0,none⟩ = some (.func (Fn.func 177) #[] #[.pointer (some ⟨w1.heap.size,0,none⟩)]):=by
  rw [<- hA3]
  exact cell_of_one (t:=194) (by show (A2.setCell _ _).heap[_]? = _;rw [Zbc HF4.out];rfl)
 have hO3:Only (fun b=>b = w.heap.size) w1 A3:=by
  rw [<- hA3]
  exact (HO2'.out.setCell (p:=⟨w.heap.size,0,none⟩) (.inl rfl) _).drew
 have hL3:A3.heap[w1.heap.size]? = some (.cells #[.slice (some ⟨g,0,none⟩) l.length c1] 22 (0,0)):=by
  rw [<- hA3]
  show (A2.setCell _ _).heap[_]? = _
  rw [Below.heap_setCell _ _ _ _ (by show w1.heap.size ≠ w.heap.size;omega)]
  exact HL2.out
 clear hA3
 go_wp2_with fail
 refine bodyPost_ret (v:=.tuple #[.func (Fn.func 178) #[] #[.pointer (some ⟨w1.heap.size,0,none⟩),.pointer (some ⟨w.heap.size,0,none⟩)],.func (Fn.func 177) #[] #[.pointer (some ⟨w1.heap.size,0,none⟩)]]) (by simp [results,Try.results159,go_sem,hc3]) rfl ?_
 have hOW:=(HO.out.only hO3 (fun b hb=>by show b ≠ w.heap.size;simp at hb;omega)).form
 refine ⟨_,w1.heap.size,g,c1,rfl,⟨hL3,?_,by omega⟩,Below.only HB.out hO3 (Nat.le_refl _) (fun b hb=>by show w.heap.size <= b;omega),by omega,by omega⟩
 obtain ⟨h1,h2⟩:=HO.out.only hO3 (fun b hb=>by show b ≠ w.heap.size;simp at hb;omega)
 refine ⟨h1,?_⟩
 rcases h2 with h2 | ⟨g',c,cur,e1,e2,e3⟩
 ·exact .inl h2
 ·refine .inr ⟨g',c,cur,e1,?_,e3⟩
  simp only [Value.slice.injEq,Option.some.injEq,Addr.mk.injEq,and_true] at e1
  omega
end Go.Proofs.Ytnkpnjnfddjfpaa

namespace Go.Proofs.Ytnkpnjnfddjfpaa
open Go.RowKit Go.Shelf M01 M02 M27
def FnC (A:World) (b n:Nat) (t:TypeId) (F:Nat -> Nat):Prop:=A.heap[b]? = some (.cells ((List.range n).map fun k=>Value.int .i64 (F k:Nat)).toArray t (0,0))
theorem FnC.cell {A:World} {b n:Nat} {t:TypeId} {F:Nat -> Nat} (h:FnC A b n t F) {k:Nat} (hk:k < n):A.cell? ⟨b,k,none⟩ = some (.int .i64 (F k:Nat)) /\ A.frozen? ⟨b,k,none⟩ = false:=by
 unfold FnC at h
 exact ⟨by simp [World.cell?,h,hk],by simp [World.frozen?,h]⟩
theorem FnC.set {A:World} {b n:Nat} {t:TypeId} {F G:Nat -> Nat} (h:FnC A b n t F) {k v:Nat} (hk:k < n) (hG:∀ j,j < n -> G j = if j = k then v else F j):FnC (A.setCell ⟨b,k,none⟩ (.int .i64 (v:Nat))) b n t G:=by
 unfold FnC at h ⊢
 rw [Zbc h]
 congr 2
 apply Array.ext'
 simp only [List.setIfInBounds_toArray]
 apply List.ext_getElem?
 intro j
 rcases Nat.lt_or_ge j n with hj | hj
 ·have hg:=hG j hj
  by_cases hjk:j = k
  ·subst hjk
   rw [if_pos rfl] at hg
   simp [hj,hg]
  ·rw [if_neg hjk] at hg
   rw [List.getElem?_set_ne (by omega)]
   simp [hj,hg]
 ·rw [List.getElem?_eq_none (by simpa using hj),List.getElem?_eq_none (by simpa using hj)]
theorem FnC.only {A B:World} {b n:Nat} {t:TypeId} {F:Nat -> Nat} {T:Nat -> Prop} (h:FnC A b n t F) (ho:Only T A B) (hT:¬ T b):FnC B b n t F:=Zac h ho hT
theorem FnC.belowAt {A B:World} {b n m:Nat} {t:TypeId} {F:Nat -> Nat} (h:FnC A b n t F) (ho:Below m A B) (hb:b < m):FnC B b n t F:=(ho.block b hb).trans h
theorem zeros257:Try.zeroCells209 = ((List.range 257).map fun k=>Value.int .i64 ((fun _=>0:Nat -> Nat) k:Nat)).toArray:=by kernel_rfl
theorem Zqx (last:List Nat) (n K:Nat):below last n K <= n:=by
 induction n with
 | zero =>
  induction K with
  | zero=>simp [below]
  | succ K ih=>simp only [below,cnt];omega
 | succ n ih=>rw [Zfw];split <;> omega
theorem Zba {l:List Nat} {i:Nat} (hi:i < l.length):l.getD i 0 = l[i]:=by rw [List.getD_eq_getElem?_getD,List.getElem?_eq_getElem hi];rfl
set_option maxRecDepth 100000 in
set_option maxHeartbeats 12800000 in
theorem Zyv (w:World) (a:Option Addr) (cap:Nat) (l:List Nat) (hr:RowN .u8 w a cap l) (hl:l.length <= 1000000) (h256:∀ x ∈ l,x < 256) :
  Calls Try.prog 158 #[.slice a l.length cap] w fun e w'=>∃ a' c',e = .returned (.slice a' l.length c') /\ OwnN 3 .i64 w' w.heap.size a' c' (wayL l) /\ Below w.heap.size w w':=by
 have HR:=Zh hr
 have H256:=Zh h256
 obtain ⟨fb,hfb⟩:∃ fb,w.heap.size = fb:=⟨_,rfl⟩
 have HFB:=Zh hfb
 clear hr h256
 go_enter Try.func158,Try.ntmps158
 go_wp2_with fail
 have hz:FnC (w.alloc (.cells Try.zeroCells209 209)) fb 257 209 (fun _=>0):=by
  unfold FnC
  rw [<- zeros257,<- hfb]
  exact World.alloc_heap_new _ _
 have hb0:Below fb w (w.alloc (.cells Try.zeroCells209 209)):=by rw [<- hfb];exact Zai w _
 have hs0:(w.alloc (.cells Try.zeroCells209 209)).heap.size = fb + 1:=by simp [hfb]
 generalize w.alloc (.cells Try.zeroCells209 209) = w1 at *
 have HZ:=Zh hz
 have HB0:=Zh hb0
 clear hz hb0 hfb
 go_loopw [12] (fun iv A=>∃ i:Nat,iv = .int .i64 (i:Nat) /\ i <= l.length /\ FnC A fb 257 209 (fun k=>if k = 0 then 0 else cnt l (k - 1) i) /\ Below fb w A /\ A.heap.size = fb + 1) (fun iv _=>l.length - (intOf iv).toNat)
 case atStart =>
  have e:(fun k=>if k = 0 then 0 else cnt l (k - 1) 0) = fun _=>0:=by
   funext k
   simp [cnt]
  refine ⟨0,rfl,by omega,?_,HB0.out,hs0⟩
  rw [e]
  exact HZ.out
 case round =>
  clear HZ HB0
  obtain ⟨i,rfl,hi,hF,hbw,hsz⟩:=hrel
  have HF:=Zh hF
  have HBW:=Zh hbw
  clear hF hbw
  by_cases hlt:i < l.length
  ·have t0:decide (i < l.length) = true:=decide_eq_true hlt
   obtain ⟨sb,soff,rfl,hsb,hsc⟩:=(HR.out.below (by rw [HFB.out];exact HBW.out)).at hlt
   have hc256:=H256.out _ (List.getElem_mem hlt)
   have hgd:=Zba hlt
   have hcnt:cnt l l[i] (i + 1) = cnt l l[i] i + 1:=by show cnt l l[i] i + (if l.getD i 0 = l[i] then 1 else 0) = _;rw [if_pos hgd]
   have hcle:=Zro l l[i] i
   obtain ⟨c1,d1⟩:=HF.out.cell (k:=l[i] + 1) (by omega)
   simp only [Nat.add_sub_cancel,if_neg (Nat.succ_ne_zero _)] at c1
   have HS:=Zh (HF.out.set (G:=fun k=>if k = 0 then 0 else cnt l (k - 1) (i + 1)) (k:=l[i] + 1) (v:=cnt l l[i] i + 1) (by omega) (by
    intro j hj
    by_cases h0:j = 0
    ·simp [h0]
    ·rw [if_neg h0,if_neg h0]
     by_cases h1:j = l[i] + 1
     ·rw [if_pos h1,h1,Nat.add_sub_cancel,hcnt]
     ·rw [if_neg h1]
      show cnt l (j - 1) i + (if l.getD i 0 = j - 1 then 1 else 0) = _
      rw [if_neg (by rw [hgd];omega)]
      rfl))
   generalize cnt l l[i] i = m at *
   generalize l[i] = c at *
   have t1:IntKind.i64.wrap ((c:Int) + 1) = ((c + 1:Nat):Int):=by rw [IntWalk.i64_in _ (by omega)];omega
   have t2:IntKind.i64.wrap ((m:Int) + 1) = ((m + 1:Nat):Int):=by rw [IntWalk.i64_in _ (by omega)];omega
   have t3:((c:Int) + 1) = ((c + 1:Nat):Int):=by omega
   have t4:((m:Int) + 1) = ((m + 1:Nat):Int):=by omega
   have t5:IntKind.i64.wrap (c:Int) = (c:Int):=IntWalk.i64_in _ (by omega)
   have t6:((c + 1:Nat):Int) < 257:=by omega
   clear hcnt hgd
   obtain ⟨c1',hc1'⟩:∃ c1',c + 1 = c1':=⟨_,rfl⟩
   obtain ⟨m1,hm1⟩:∃ m1,m + 1 = m1:=⟨_,rfl⟩
   simp only [hc1',hm1] at *
   clear hc1' hm1
   go_wp2_with fail
   go_roundw
   case rel=>exact ⟨i + 1,by go_num,by omega,HS.out,HBW.out.setCell (Nat.le_refl _) _,by simpa [World.setCell] using hsz⟩
   case measure=>simp [intOf];omega
  ·obtain rfl:i = l.length:=by omega
   clear hlt hi
   have h1:=HF.out
   go_wp2_with fail
   go_loopw [24] (fun iv A=>∃ i:Nat,iv = .int .i64 (i:Nat) /\ i <= 256 /\ FnC A fb 257 209 (fun k=>if k <= i then below l l.length k else cnt l (k - 1) l.length) /\ Below fb w A /\ A.heap.size = fb + 1) (fun iv _=>256 - (intOf iv).toNat)
   case atStart =>
    refine ⟨0,rfl,by omega,?_,HBW.out,hsz⟩
    have e:(fun k=>if k <= 0 then below l l.length k else cnt l (k - 1) l.length) = fun k=>if k = 0 then 0 else cnt l (k - 1) l.length:=by
     funext k
     by_cases h:k = 0
     ·subst h;rfl
     ·rw [if_neg (by omega),if_neg h]
    rw [e]
    exact HF.out
   case round =>
    clear HF HBW h1 hsz
    obtain ⟨i,rfl,hi,hF,hbw,hsz⟩:=hrel
    have HF:=Zh hF
    have HBW:=Zh hbw
    clear hF hbw
    by_cases hlt:i < 256
    ·have t0:decide ((i:Int) < 256) = true:=by simp;omega
     obtain ⟨c1,d1⟩:=HF.out.cell (k:=i + 1) (by omega)
     obtain ⟨c2,d2⟩:=HF.out.cell (k:=i) (by omega)
     simp only [Nat.add_sub_cancel,if_pos (Nat.le_refl i),if_neg (show ¬ (i + 1 <= i) by omega)] at c1 c2
     have HS:=Zh (HF.out.set (G:=fun k=>if k <= i + 1 then below l l.length k else cnt l (k - 1) l.length) (k:=i + 1) (v:=cnt l i l.length + below l l.length i) (by omega) (by
      intro j hj
      by_cases h1:j = i + 1
      ·rw [if_pos h1,if_pos (by omega),h1];exact Nat.add_comm _ _
      ·rw [if_neg h1]
       by_cases h2:j <= i
       ·rw [if_pos h2,if_pos (by omega)]
       ·rw [if_neg h2,if_neg (by omega)]))
     have hcl:=Zro l i l.length
     have hbl:below l l.length i <= l.length:=by
      exact Zqx l l.length i
     generalize cnt l i l.length = m at *
     generalize below l l.length i = b at *
     have t1:IntKind.i64.wrap ((i:Int) + 1) = ((i + 1:Nat):Int):=by rw [IntWalk.i64_in _ (by omega)];omega
     have t2:IntKind.i64.wrap ((m:Int) + (b:Int)) = ((m + b:Nat):Int):=by rw [IntWalk.i64_in _ (by omega)];omega
     have t3:((i:Int) + 1) = ((i + 1:Nat):Int):=by omega
     have t4:((m:Int) + (b:Int)) = ((m + b:Nat):Int):=by omega
     have t6:((i + 1:Nat):Int) < 257:=by omega
     have t7:(i:Int) < 257:=by omega
     obtain ⟨i1,hi1⟩:∃ i1,i + 1 = i1:=⟨_,rfl⟩
     obtain ⟨s1,hs1⟩:∃ s1,m + b = s1:=⟨_,rfl⟩
     simp only [hi1,hs1] at *
     have HI1:=Zh hi1
     have t8:IntKind.i64.wrap (i1:Int) = (i1:Int):=IntWalk.i64_in _ (by omega)
     have t9:IntKind.i64.wrap (s1:Int) = (s1:Int):=IntWalk.i64_in _ (by omega)
     clear hi1 hs1
     go_wp2_with fail
     go_still_tail 9,(by kernel_rfl)
     go_wp2_with fail
     go_roundw
     case rel=>exact ⟨i1,by go_num,by omega,HS.out,HBW.out.drew.setCell (Nat.le_refl _) _,by simpa [World.setCell] using hsz⟩
     case measure=>simp [intOf];omega
    ·obtain rfl:i = 256:=by omega
     clear hlt hi
     obtain ⟨n,hn⟩:∃ n,l.length = n:=⟨_,rfl⟩
     have HN:=Zh hn
     rw [hn] at hl
     simp only [hn]
     have hwz:w.heap.size <= wr.heap.size:=HBW.out.size
     go_wp2_with (at_make;refine makeN Zaz rfl _ _ rfl fb rfl rfl (by omega) (by omega) (by omega) ?_;intro w3 hown hg)
     have HB3:=Zh (HBW.out.trans (Below.of_grown (B:=fb) hg (by omega) (fun k e=>by cases e)))
     have HF3:=Zh (show FnC w3 fb 257 209 _ from (hg.block fb (by omega) (by simp)).trans HF.out)
     have HO3:=Zh hown
     clear hown hg HF HBW
     simp only [hsz] at *
     clear hsz hwz
     go_loopw [42] (fun iv A=>∃ (i:Nat) (o:List Nat),iv = .int .i64 (i:Nat) /\ i <= n /\ FnC A fb 257 209 (fun k=>below l n k + if k < 256 then cnt l k i else 0) /\ OwnN 3 .i64 A fb (some ⟨fb + 1,0,none⟩) n o /\ o.length = n /\ Hid (∀ j,j < i -> o[posW l j]? = some j) /\ Below fb w A) (fun iv _=>n - (intOf iv).toNat)
     case atStart =>
      refine ⟨0,List.replicate n 0,rfl,by omega,?_,HO3.out,List.length_replicate ..,fun j hj=>by omega,HB3.out⟩
      have e:(fun k=>below l n k + if k < 256 then cnt l k 0 else 0) = fun k=>below l n k:=by
       funext k
       simp [cnt]
      rw [e]
      unfold FnC
      rw [HF3.out]
      congr 3
      apply List.map_congr_left
      intro k hk
      rw [List.mem_range] at hk
      show Value.int .i64 ((if k <= 256 then below l l.length k else cnt l (k - 1) l.length:Nat):Int) = Value.int .i64 ((below l n k:Nat):Int)
      rw [if_pos (by omega),HN.out]
     case round =>
      clear HF3 HO3 HB3
      obtain ⟨i,o,rfl,hi,hF,how,hol,HP,hbw⟩:=hrel
      have HF:=Zh hF
      have HBW:=Zh hbw
      have HOW:=Zh how
      have HOL:=Zh hol
      clear hF hbw how hol
      by_cases hlt:i < n
      ·have t0:decide (i < n) = true:=decide_eq_true hlt
       have hlt':i < l.length:=by rw [HN.out];exact hlt
       obtain ⟨sb,soff,rfl,hsb,hsc⟩:=(HR.out.below (by rw [HFB.out];exact HBW.out)).at hlt'
       have hc256:=H256.out _ (List.getElem_mem hlt')
       have hgd:=Zba hlt'
       have hpos:posW l i = below l n l[i] + cnt l l[i] i:=by unfold posW;rw [hgd,HN.out]
       have hpl:=Zys l H256.out hlt'
       rw [HN.out] at hpl
       obtain ⟨c1,d1⟩:=HF.out.cell (k:=l[i]) (by omega)
       simp only [if_pos hc256,<- hpos] at c1
       have HS:=Zh (fun A (h:FnC A fb 257 209 (fun k=>below l n k + if k < 256 then cnt l k i else 0))=>h.set (G:=fun k=>below l n k + if k < 256 then cnt l k (i + 1) else 0) (k:=l[i]) (v:=posW l i + 1) (by omega) (by
        intro j hj
        by_cases h1:j = l[i]
        ·rw [if_pos h1,h1,if_pos hc256]
         show below l n l[i] + (cnt l l[i] i + if l.getD i 0 = l[i] then 1 else 0) = _
         rw [if_pos hgd,hpos]
         omega
        ·rw [if_neg h1]
         by_cases h2:j < 256
         ·rw [if_pos h2,if_pos h2]
          show below l n j + (cnt l j i + if l.getD i 0 = j then 1 else 0) = _
          rw [if_neg (by rw [hgd];omega)]
          rfl
         ·rw [if_neg h2,if_neg h2]))
       have HNE:=Zh (fun j (hj:j < i)=>Zyt l H256.out (i:=j) (j:=i) (by omega) hlt' (by omega))
       have hop:posW l i < o.length:=by rw [HOL.out];exact hpl
       obtain ⟨g',hg',_,_,oc,od⟩:=HOW.out.at hop
       simp only [Option.some.injEq,Addr.mk.injEq,and_true] at hg'
       subst hg'
       clear hpos
       generalize hm:posW l i = m at *
       have HPE:=Zh hm
       clear hm
       generalize l[i] = c at *
       have t1:(m:Int) < (n:Int):=by omega
       have t2:IntKind.i64.wrap ((m:Int) + 1) = ((m + 1:Nat):Int):=by rw [IntWalk.i64_in _ (by omega)];omega
       have t4:((m:Int) + 1) = ((m + 1:Nat):Int):=by omega
       have t6:(c:Int) < 257:=by omega
       obtain ⟨m1,hm1⟩:∃ m1,m + 1 = m1:=⟨_,rfl⟩
       simp only [hm1] at *
       have t9:IntKind.i64.wrap (m1:Int) = (m1:Int):=IntWalk.i64_in _ (by omega)
       have c2:(wr.setCell ⟨fb + 1,m,none⟩ (.int .i64 (i:Nat))).cell? ⟨fb,c,none⟩ = some (.int .i64 (m:Nat)):=by
        unfold World.cell? at c1 ⊢
        rw [Below.heap_setCell _ _ _ _ (by show fb ≠ fb + 1;omega)]
        exact c1
       have d2:(wr.setCell ⟨fb + 1,m,none⟩ (.int .i64 (i:Nat))).frozen? ⟨fb,c,none⟩ = false:=by
        unfold World.frozen? at d1 ⊢
        rw [Below.heap_setCell _ _ _ _ (by show fb ≠ fb + 1;omega)]
        exact d1
       clear hm1
       go_wp2_with fail
       go_roundw
       case rel =>
        refine ⟨i + 1,o.set m i,by go_num,by omega,HS.out _ (HF.out.only ((Only.refl (fun b=>b = fb + 1) wr).setCell (p:=⟨fb + 1,m,none⟩) (.inl rfl) _) (by show fb ≠ fb + 1;omega)),((HOW.out.stored m i).1).other (fun g hg=>by cases hg;show fb ≠ fb + 1;omega) _,by rw [List.length_set];exact HOL.out,?_,(HBW.out.setCell (by show fb <= fb + 1;omega) _).setCell (Nat.le_refl _) _⟩
        intro j hj
        by_cases h1:j = i
        ·subst h1
         rw [HPE.out,List.getElem?_set_self hop]
        ·rw [List.getElem?_set_ne (fun e=>HNE.out j (by omega) e.symm)]
         exact HP.out j (by omega)
       case measure=>simp [intOf];omega
      ·obtain rfl:i = n:=by omega
       have HW2:=Zh (show o = wayL l from Zzm l o H256.out (by rw [HN.out];exact HOL.out) (by rw [HN.out];exact HP.out))
       clear hlt hi HP
       go_wp2_with fail
       go_ret
       refine ⟨some ⟨fb + 1,0,none⟩,i,by rw [HN.out];rfl,?_,?_⟩
       ·rw [<- HW2.out,HFB.out];exact HOW.out
       ·rw [HFB.out];exact HBW.out
end Go.Proofs.Ytnkpnjnfddjfpaa

namespace Go.Proofs.Ytnkpnjnfddjfpaa
open Go
section
variable {P : Program} {ops : Array Oper} {Q : Exit → Act → World → Prop} {md : Region.Mode}
def leftOf (ops:Array Oper) (listed:Array Bool):Nat:=((List.range ops.size).filter fun i=>!listed.getD i true).length
theorem Zhx {listed:Array Bool} (h:leftOf ops listed = 0):Region.ready md ops listed = []:=by
 have h1:((List.range ops.size).filter fun i=>!listed.getD i true) = []:=List.eq_nil_of_length_eq_zero h
 rw [List.filter_eq_nil_iff] at h1
 unfold Region.ready
 rw [List.filter_eq_nil_iff]
 intro i hi hc
 rw [Bool.and_eq_true] at hc
 exact h1 i hi hc.1
theorem Zrx {α:Type _} (p q:α -> Bool):∀ (l:List α),(∀ x ∈ l,q x = true -> p x = true) -> (∃ x ∈ l,p x = true /\ q x = false) -> (l.filter q).length < (l.filter p).length:=by
 intro l
 induction l with
 | nil=>rintro - ⟨x,hx,-⟩;cases hx
 | cons y t ih =>
  intro h hex
  have hle:(t.filter q).length <= (t.filter p).length:=by
   clear ih hex
   have h':∀ x ∈ t,q x = true -> p x = true:=fun x hx=>h x (by simp [hx])
   clear h
   induction t with
   | nil=>simp
   | cons z t ih =>
    have h1:=h' z (by simp)
    have h2:=ih (fun x hx=>h' x (by simp [hx]))
    simp only [List.filter_cons]
    cases hq:q z <;> cases hp:p z <;> simp_all <;> omega
  have hy:=h y (by simp)
  by_cases hc:p y = true /\ q y = false
  ·simp only [List.filter_cons,hc.1,hc.2];simp;omega
  ·obtain ⟨x,hx,hpx⟩:=hex
   have hxt:x ∈ t:=by
    rcases List.mem_cons.1 hx with rfl | hx
    ·exact absurd hpx hc
    ·exact hx
   have:=ih (fun x hx=>h x (by simp [hx])) ⟨x,hxt,hpx⟩
   simp only [List.filter_cons]
   cases hq:q y <;> cases hp:p y <;> simp_all
theorem Zjf {listed:Array Bool} {i:Nat} (hi:i ∈ Region.ready md ops listed):leftOf ops (listed.setIfInBounds i true) < leftOf ops listed:=by
 have hm:=hi
 unfold Region.ready at hm
 rw [List.mem_filter,Bool.and_eq_true] at hm
 have h0:listed.getD i true = false:=by simpa using hm.2.1
 refine Zrx _ _ _ (fun x hx hq=>?_) ⟨i,hm.1,by rw [h0];rfl,?_⟩
 ·by_cases hxi:i = x
  ·subst hxi;rw [h0];rfl
  ·rw [getD_set_ne true hxi] at hq;exact hq
 ·have hlt:i < listed.size:=by
   rcases Nat.lt_or_ge i listed.size with h' | h'
   ·exact h'
   ·simp [Array.getElem?_eq_none h'] at h0
  simp [hlt]
theorem Zii (I:Array Bool -> Act -> World -> Prop)
  (step:∀ listed a w i,I listed a w -> i ∈ Region.ready md ops listed -> wpOp P ops Q i (I (listed.setIfInBounds i true)) a w)
  (done:∀ listed a w,I listed a w -> Region.ready md ops listed = [] -> Q .normal a w) :
  ∀ fuel listed a w,leftOf ops listed <= fuel -> I listed a w -> wpAny P md ops Q fuel listed a w:=by
 intro fuel
 induction fuel with
 | zero=>intro listed a w hl hI;have:=Zhx (md:=md) (ops:=ops) (listed:=listed) (by omega);exact ⟨this,done _ _ _ hI this⟩
 | succ fuel ih =>
  intro listed a w hl hI
  refine ⟨fun h=>done _ _ _ hI h,fun i hi=>?_⟩
  have:=Zjf hi
  exact wpOp_mono (fun a' w' h=>ih _ _ _ (by omega) h) (step _ _ _ _ hI hi)
theorem Znw {F:Fence} {n:Nat} (I:Array Bool -> Act -> World -> Prop)
  (step:∀ listed a w i,I listed a w -> i ∈ Region.ready md ops listed -> wpOpIn F n P ops Q i (I (listed.setIfInBounds i true)) a w)
  (done:∀ listed a w,I listed a w -> Region.ready md ops listed = [] -> Q .normal a w) :
  ∀ fuel listed a w,leftOf ops listed <= fuel -> I listed a w -> wpAnyIn F n P md ops Q fuel listed a w:=by
 intro fuel
 induction fuel with
 | zero=>intro listed a w hl hI;have:=Zhx (md:=md) (ops:=ops) (listed:=listed) (by omega);exact ⟨this,done _ _ _ hI this⟩
 | succ fuel ih =>
  intro listed a w hl hI
  refine ⟨fun h=>done _ _ _ hI h,fun i hi=>?_⟩
  have:=Zjf hi
  exact wpOpIn_mono (fun a' w' h=>ih _ _ _ (by omega) h) (step _ _ _ _ hI hi)
theorem Zcn (ops:Array Oper):leftOf ops (Array.replicate ops.size false) <= ops.size:=by
 unfold leftOf
 exact Nat.le_trans (List.length_filter_le _ _) (by simp)
def backB (md:Region.Mode) (ops:Array Oper):Bool:=(List.range ops.size).all fun i=>((ops[i]?).map fun o=>o.after.all fun e=>!Region.binds md e || decide (e.on < i)).getD true
theorem Zdy {listed:Array Bool} (hs:listed.size = ops.size) (hb:∀ (i:Nat) (o:Oper),ops[i]? = some o -> ∀ e ∈ o.after,Region.binds md e = true -> e.on < i)
  (hr:Region.ready md ops listed = []):∀ i,i < ops.size -> listed.getD i false = true:=by
 intro i
 induction i using Nat.strongRecOn with
 | ind i ih =>
  intro hi
  cases h:listed.getD i false with
  | true=>rfl
  | false =>
   exfalso
   have h1:i ∈ Region.ready md ops listed:=by
    rw [mem_ready]
    have hlt:i < listed.size:=by omega
    refine ⟨by simpa [hlt] using h,_,Array.getElem?_eq_getElem hi,fun e he hbe=>?_⟩
    have:=hb i _ (Array.getElem?_eq_getElem hi) e he hbe
    exact ih _ this (by omega)
   rw [hr] at h1;cases h1
def dstsL (ops:Array Oper):List Tmp:=ops.toList.filterMap (·.dst)
def spread (ds:List Nat) (f:Nat -> Value):Nat -> List Value -> List Value
 | _,[]=>[]
 | n,x :: t=>(bif ds.contains n then f n else x) :: spread ds f (n + 1) t
theorem Zct? (ds:List Nat) (f:Nat -> Value):∀ (l:List Value) (n t:Nat),(spread ds f n l)[t]? = (l[t]?).map fun x=>bif ds.contains (n + t) then f (n + t) else x
 | [],_,_=>by simp [spread]
 | x :: l,n,0=>by simp [spread]
 | x :: l,n,t + 1=>by
  simp only [spread,List.getElem?_cons_succ,Zct? ds f l (n + 1) t]
  rw [show n + 1 + t = n + (t + 1) from by omega]
def anc (md:Region.Mode) (ops:Array Oper) (i:Nat):Nat -> Nat -> Bool
 | 0,_=>false
 | fuel + 1,j=>((ops[j]?).map fun o=>o.after.any fun e=>Region.binds md e && (e.on == i || anc md ops i fuel e.on)).getD false
def Shut (md:Region.Mode) (ops:Array Oper) (listed:Array Bool):Prop :=
 ∀ (j:Nat) (o:Oper),ops[j]? = some o -> listed.getD j false = true -> ∀ e ∈ o.after,Region.binds md e = true -> listed.getD e.on false = true
theorem Shut.anc {listed:Array Bool} (h:Shut md ops listed) (i:Nat):∀ fuel j,anc md ops i fuel j = true -> listed.getD j false = true -> listed.getD i false = true:=by
 intro fuel
 induction fuel with
 | zero=>intro j hj;cases hj
 | succ fuel ih =>
  intro j hj hl
  unfold Go.Proofs.Ytnkpnjnfddjfpaa.anc at hj
  cases ho:ops[j]? with
  | none=>simp [ho] at hj
  | some o =>
   simp only [ho,Option.map_some,Option.getD_some] at hj
   obtain ⟨e,he,hb⟩:=Array.any_eq_true'.1 hj
   rw [Bool.and_eq_true,Bool.or_eq_true] at hb
   have h1:=h j o ho hl e he hb.1
   rcases hb.2 with h2 | h2
   ·rw [beq_iff_eq] at h2;rw [<- h2];exact h1
   ·exact ih _ h2 h1
theorem Shut.ready {listed:Array Bool} (h:Shut md ops listed) {i k:Nat} {o:Oper} (hi:ops[i]? = some o) (hw:∀ e ∈ o.after,Region.binds md e = true -> listed.getD e.on false = true) :
  ∀ fuel,Go.Proofs.Ytnkpnjnfddjfpaa.anc md ops k fuel i = true -> listed.getD k false = true:=by
 intro fuel hf
 cases fuel with
 | zero=>cases hf
 | succ fuel =>
  unfold Go.Proofs.Ytnkpnjnfddjfpaa.anc at hf
  simp only [hi,Option.map_some,Option.getD_some] at hf
  obtain ⟨e,he,hb⟩:=Array.any_eq_true'.1 hf
  rw [Bool.and_eq_true,Bool.or_eq_true] at hb
  have h1:=hw e he hb.1
  rcases hb.2 with h2 | h2
  ·rw [beq_iff_eq] at h2;rw [<- h2];exact h1
  ·exact h.anc k _ _ h2 h1
def wantE (md:Region.Mode) (e:Edge):Bool:=Region.binds md e && (match e.ground with | .data=>true | _=>false)
theorem Zay {e:Edge} (h:wantE md e = true):Region.binds md e = true:=by unfold wantE at h;rw [Bool.and_eq_true] at h;exact h.1
def usedB (md:Region.Mode) (ops:Array Oper) (fin:Nat -> Bool) (i j:Nat):Bool :=
 !(i == j) && !(anc md ops i ops.size j) && (fin j || (List.range ops.size).any fun k=>!(k == i) && !(anc md ops k ops.size i) && ((ops[k]?).map fun o=>o.after.any fun e=>wantE md e && e.on == j).getD false)
def Wants (md:Region.Mode) (ops:Array Oper) (fin:Nat -> Bool) (listed:Array Bool) (j:Nat):Prop :=
 fin j = true \/ ∃ (k:Nat) (o:Oper) (e:Edge),ops[k]? = some o /\ listed.getD k true = false /\ e ∈ o.after /\ wantE md e = true /\ e.on = j
theorem Wants.used {fin:Nat -> Bool} {listed:Array Bool} {i j:Nat} {oi:Oper} (hij:i ≠ j) (hoi:ops[i]? = some oi) (hwi:∀ e ∈ oi.after,Region.binds md e = true -> listed.getD e.on false = true) (hi:i < listed.size) (hsh:Shut md ops listed) (hun:listed.getD i true = false) (hlj:listed.getD j false = true) (h:Wants md ops fin (listed.setIfInBounds i true) j):Wants md ops fin listed j /\ usedB md ops fin i j = true:=by
 have hna:anc md ops i ops.size j = false:=by
  cases hc:anc md ops i ops.size j with
  | false=>rfl
  | true =>
   have:=hsh.anc i _ _ hc hlj
   simp [hi] at this hun
   rw [hun] at this;cases this
 have hij':(i == j) = false:=by simpa using hij
 unfold usedB
 rw [hna,hij',Bool.not_false,Bool.true_and,Bool.true_and]
 rcases h with h | ⟨k,o,e,hk,hl,he,hb,hj⟩
 ·exact ⟨.inl h,by simp [h]⟩
 ·have hki:k ≠ i:=fun hc=>by
   subst hc;simp [hi] at hl
  rw [getD_set_ne true (Ne.symm hki)] at hl
  have hnk:anc md ops k ops.size i = false:=by
   cases hc:anc md ops k ops.size i with
   | false=>rfl
   | true =>
    have h1:=hsh.ready hoi hwi _ hc
    have hk2:k < listed.size:=by
     rcases Nat.lt_or_ge k listed.size with h' | h'
     ·exact h'
     ·simp [Array.getElem?_eq_none h'] at h1
    simp [hk2] at h1 hl
    rw [h1] at hl;cases hl
  refine ⟨.inr ⟨k,o,e,hk,hl,he,hb,hj⟩,?_⟩
  rw [Bool.or_eq_true];right
  rw [List.any_eq_true]
  refine ⟨k,by simpa using (Array.getElem?_eq_some_iff.1 hk).1,?_⟩
  simp only [hk,Option.map_some,Option.getD_some,Bool.and_eq_true,Bool.not_eq_true',beq_eq_false_iff_ne]
  refine ⟨⟨hki,hnk⟩,?_⟩
  rw [Array.any_eq_true']
  exact ⟨e,he,by simp [hb,hj]⟩
def leftBy (a:Act) (o:Oper):Value:=match o.dst with | some d=>a.tmps.getD d undef | none=>undef
structure FlowAt (md:Region.Mode) (ops:Array Oper) (fin:Nat -> Bool) (R:Array Bool -> World -> Prop) (V:Nat -> Value -> World -> Prop) (D:Nat -> Nat -> Value -> Value -> Prop) (a0:Act) (listed:Array Bool) (a:Act) (w:World):Prop where
 rel:R listed w
 size:a.tmps.size = a0.tmps.size
 defers:a.defers = a0.defers
 out:∀ t,t ∉ dstsL ops -> a.tmps.getD t undef = a0.tmps.getD t undef
 old:∀ (j:Nat) (oj:Oper) (d:Tmp),ops[j]? = some oj -> oj.dst = some d -> listed.getD j false = false -> a.tmps.getD d undef = a0.tmps.getD d undef
 len:listed.size = ops.size
 shut:Shut md ops listed
 val:∀ (i:Nat) (o:Oper),ops[i]? = some o -> listed.getD i false = true -> Wants md ops fin listed i -> V i (leftBy a o) w
 apart:∀ (i j:Nat) (o o':Oper),ops[i]? = some o -> ops[j]? = some o' -> listed.getD i false = true -> listed.getD j false = true -> Wants md ops fin listed i -> Wants md ops fin listed j -> i ≠ j -> D i j (leftBy a o) (leftBy a o')
theorem Zdo {i:Nat} {o:Oper} {d:Tmp} (h:ops[i]? = some o) (hd:o.dst = some d):d ∈ dstsL ops:=by
 unfold dstsL
 rw [List.mem_filterMap]
 exact ⟨o,by simpa using Array.mem_of_getElem? h,hd⟩
structure OneEach (ops:Array Oper) (n:Nat):Prop where
 one:∀ (i j:Nat) (oi oj:Oper) (d:Tmp),ops[i]? = some oi -> ops[j]? = some oj -> oi.dst = some d -> oj.dst = some d -> i = j
 fits:∀ d ∈ dstsL ops,d < n
theorem OneEach.mk' {n:Nat} (h:((List.range ops.size).all fun i=>(List.range ops.size).all fun j=>i == j || (match (ops[i]?).bind (·.dst),(ops[j]?).bind (·.dst) with | some d,some e=>!(d == e) | _,_=>true)) = true)
  (hf:((dstsL ops).all fun d=>d < n) = true):OneEach ops n where
 one i j oi oj d hi hj di dj:=by
  rw [List.all_eq_true] at h
  have h1:=h i (by simpa using (Array.getElem?_eq_some_iff.1 hi).1)
  rw [List.all_eq_true] at h1
  have h2:=h1 j (by simpa using (Array.getElem?_eq_some_iff.1 hj).1)
  simpa [hi,hj,di,dj] using h2
 fits d hd:=by
  rw [List.all_eq_true] at hf
  simpa using hf d hd
theorem Zat {n:Nat} {a:Act} {i j:Nat} {o oj:Oper} {v:Value} (h1:OneEach ops n) (hi:ops[i]? = some o) (hj:ops[j]? = some oj) (hij:i ≠ j):leftBy (a.put o.dst v) oj = leftBy a oj:=by
 unfold leftBy
 cases hdj:oj.dst with
 | none=>rfl
 | some dj =>
  cases hd:o.dst with
  | none=>rfl
  | some d =>
   have:d ≠ dj:=fun e=>hij (h1.one i j o oj d hi hj hd (e ▸ hdj))
   simp [Act.put,Array.getElem?_setIfInBounds_ne this]
theorem Zbu {a:Act} {i:Nat} {o:Oper} {v:Value} (h1:OneEach ops a.tmps.size) (hi:ops[i]? = some o):leftBy (a.put o.dst v) o = (match o.dst with | some _=>v | none=>undef):=by
 unfold leftBy
 cases hd:o.dst with
 | none=>rfl
 | some d =>
  have hlt:d < a.tmps.size:=h1.fits d (Zdo hi hd)
  simp [Act.put,hlt]
theorem Zcq {listed:Array Bool} {i:Nat} (hi:i < listed.size):(listed.setIfInBounds i true).getD i false = true:=by simp [hi]
theorem FlowAt.next {fin:Nat -> Bool} {R:Array Bool -> World -> Prop} {V:Nat -> Value -> World -> Prop} {D:Nat -> Nat -> Value -> Value -> Prop} {a0 a:Act} {listed:Array Bool} {w w':World} {i:Nat} {o:Oper} {v:Value}
  (h1:OneEach ops a0.tmps.size) (h:FlowAt md ops fin R V D a0 listed a w) (hi:ops[i]? = some o) (hun:listed.getD i true = false)
  (hw:∀ e ∈ o.after,Region.binds md e = true -> listed.getD e.on false = true)
  (hR:R (listed.setIfInBounds i true) w')
  (hmono:∀ j u,usedB md ops fin i j = true -> V j u w -> (∀ e ∈ o.after,wantE md e = true -> e.on ≠ j -> ∀ oe,ops[e.on]? = some oe -> D e.on j (leftBy a oe) u /\ D j e.on u (leftBy a oe)) →
   V j u w' /\ D i j (match o.dst with | some _=>v | none=>undef) u /\ D j i u (match o.dst with | some _=>v | none=>undef))
  (hv:V i (match o.dst with | some _=>v | none=>undef) w'):FlowAt md ops fin R V D a0 (listed.setIfInBounds i true) (a.put o.dst v) w':=by
 have hil:i < listed.size:=by rw [h.len];exact (Array.getElem?_eq_some_iff.1 hi).1
 have h1a:OneEach ops a.tmps.size:=h.size ▸ h1
 have wi:∀ e ∈ o.after,wantE md e = true -> Wants md ops fin listed e.on:=fun e he hb=>.inr ⟨i,o,e,hi,hun,he,hb,rfl⟩
 have key:∀ (j:Nat) (oj:Oper),i ≠ j -> ops[j]? = some oj -> (listed.setIfInBounds i true).getD j false = true -> Wants md ops fin (listed.setIfInBounds i true) j →
   V j (leftBy a oj) w' /\ D i j (match o.dst with | some _=>v | none=>undef) (leftBy a oj) /\ D j i (leftBy a oj) (match o.dst with | some _=>v | none=>undef):=by
  intro j oj hij hj hl hn
  rw [getD_set_ne false hij] at hl
  obtain ⟨hn',hu⟩:=hn.used hij hi hw hil h.shut hun hl
  refine hmono j _ hu (h.val j oj hj hl hn') fun e he hb hne oe hoe=>?_
  exact ⟨h.apart _ _ _ _ hoe hj (hw e he (Zay hb)) hl (wi e he hb) hn' hne,h.apart _ _ _ _ hj hoe hl (hw e he (Zay hb)) hn' (wi e he hb) (Ne.symm hne)⟩
 refine ⟨hR,?_,?_,?_,?_,?_,?_,?_,?_⟩
 ·rw [<- h.size];cases o.dst <;> simp [Act.put]
 ·rw [<- h.defers];cases o.dst <;> simp [Act.put]
 ·intro t ht
  rw [<- h.out t ht]
  cases hd:o.dst with
  | none=>rfl
  | some d =>
   have:d ≠ t:=fun e=>ht (e ▸ Zdo hi hd)
   simp [Act.put,Array.getElem?_setIfInBounds_ne this]
 ·intro j oj d hj hd hl
  by_cases hij:i = j
  ·subst hij
   rw [Zcq hil] at hl;cases hl
  ·rw [getD_set_ne false hij] at hl
   rw [<- h.old j oj d hj hd hl]
   cases hd':o.dst with
   | none=>rfl
   | some d' =>
    have:d' ≠ d:=fun e=>hij (h1.one i j o oj d hi hj (e ▸ hd') hd)
    simp [Act.put,Array.getElem?_setIfInBounds_ne this]
 ·rw [<- h.len];simp
 ·intro j oj hj hl e he hb
  by_cases hij:i = j
  ·subst hij
   rw [hi] at hj;cases hj
   exact getD_set_true (hw e he hb)
  ·rw [getD_set_ne false hij] at hl
   exact getD_set_true (h.shut j oj hj hl e he hb)
 ·intro j oj hj hl hn
  by_cases hij:i = j
  ·subst hij
   rw [hi] at hj;cases hj
   rw [Zbu h1a hi];exact hv
  ·rw [Zat h1a hi hj hij]
   exact (key j oj hij hj hl hn).1
 ·intro j k oj ok hj hk hlj hlk hnj hnk hjk
  by_cases hij:i = j
  ·subst hij
   rw [hi] at hj;cases hj
   rw [Zbu h1a hi,Zat h1a hi hk hjk]
   exact (key k ok hjk hk hlk hnk).2.1
  ·rw [Zat h1a hi hj hij]
   by_cases hik:i = k
   ·subst hik
    rw [hi] at hk;cases hk
    rw [Zbu h1a hi]
    exact (key j oj hij hj hlj hnj).2.2
   ·rw [Zat h1a hi hk hik]
    rw [getD_set_ne false hij] at hlj
    rw [getD_set_ne false hik] at hlk
    exact h.apart _ _ _ _ hj hk hlj hlk (hnj.used hij hi hw hil h.shut hun hlj).1 (hnk.used hik hi hw hil h.shut hun hlk).1 hjk
theorem FlowAt.start {fin:Nat -> Bool} {R:Array Bool -> World -> Prop} {V:Nat -> Value -> World -> Prop} {D:Nat -> Nat -> Value -> Value -> Prop} {a0:Act} {w:World} (h:R (Array.replicate ops.size false) w):FlowAt md ops fin R V D a0 (Array.replicate ops.size false) a0 w where
 rel:=h
 size:=rfl
 defers:=rfl
 out _ _:=rfl
 old _ _ _ _ _ _:=rfl
 len:=by simp
 shut i o hi hl:=by
  exfalso
  have:=(Array.getElem?_eq_some_iff.1 hi).1
  simp [this] at hl
 val i o hi hl _:=by
  exfalso
  have:=(Array.getElem?_eq_some_iff.1 hi).1
  simp [this] at hl
 apart i j o o' hi hj hl _ _ _ _:=by
  exfalso
  have:=(Array.getElem?_eq_some_iff.1 hi).1
  simp [this] at hl
theorem FlowAt.end {fin:Nat -> Bool} {R:Array Bool -> World -> Prop} {V:Nat -> Value -> World -> Prop} {D:Nat -> Nat -> Value -> Value -> Prop} {l:List Value} {d:List Deferred} {listed:Array Bool} {a:Act} {w:World}
  (hb:∀ (i:Nat) (o:Oper),ops[i]? = some o -> ∀ e ∈ o.after,Region.binds md e = true -> e.on < i)
  (h:FlowAt md ops fin R V D ⟨l.toArray,d⟩ listed a w) (hr:Region.ready md ops listed = []) :
  R listed w /\ (∀ i,i < ops.size -> listed.getD i false = true) /\ (∀ (i:Nat) (o:Oper),ops[i]? = some o -> fin i = true -> V i (leftBy a o) w) ∧
  a = ⟨(spread (dstsL ops) (fun t=>a.tmps.getD t undef) 0 l).toArray,d⟩:=by
 refine ⟨h.rel,Zdy h.len hb hr,fun i o hi hf=>h.val i o hi (Zdy h.len hb hr i (Array.getElem?_eq_some_iff.1 hi).1) (.inl hf),?_⟩
 have h1:=h.size
 have h2:=h.defers
 have h3:=h.out
 cases a with
 | mk tm df =>
  simp only at h1 h2 h3 ⊢
  subst h2
  congr 1
  apply Array.ext_getElem?
  intro t
  have e2:(spread (dstsL ops) (fun t=>tm.getD t undef) 0 l).toArray[t]? = (spread (dstsL ops) (fun t=>tm.getD t undef) 0 l)[t]?:=by simp
  rw [e2,Zct?]
  simp only [Nat.zero_add]
  have hs:tm.size = l.length:=by simpa using h1
  by_cases ht:t < l.length
  ·have e1:tm[t]? = some (tm.getD t undef):=by simp [hs,ht]
   rw [e1,List.getElem?_eq_getElem ht]
   simp only [Option.map_some,Option.some.injEq]
   cases hc:(dstsL ops).contains t with
   | true=>rfl
   | false =>
    have:t ∉ dstsL ops:=fun hm=>by rw [List.contains_iff_mem.2 hm] at hc;cases hc
    have h4:=h3 t this
    rw [h4];simp [ht]
  ·rw [Array.getElem?_eq_none (by omega),List.getElem?_eq_none (by omega)];rfl
def StepTo (P:Program) (Q:Exit -> Act -> World -> Prop) (o:Oper) (a:Act) (w:World) (K:Act -> World -> Prop):Prop:=o.wp P a w K Q \/ (o.asks P a w /\ LetsOut Q)
theorem Oper.wp_then {P:Program} {Q:Exit -> Act -> World -> Prop} {o:Oper} {a:Act} {w:World} {K:Act -> World -> Prop} (h:o.wp P a w K (Exit.then K Q)):o.wp P a w K Q:=by
 unfold Oper.wp at *
 generalize (execOp a.eval o).run P w = r at *
 cases r with
 | ok n w' =>
  cases n <;> simp only [Oper.upon] at h ⊢ <;>
   first
    | exact h
    | exact Calls.mono h (fun e w'' he=>by cases e <;> exact he)
 | halt x w'=>cases x <;> simp only [Oper.upon] at h ⊢ <;> exact h
theorem Zdv {P:Program} {ops:Array Oper} {Q:Exit -> Act -> World -> Prop} {o:Oper} {a:Act} {w:World} {K:Act -> World -> Prop} (hg:o.guard = none)
  (h:wpList P ops (Exit.then K Q) [o] a w):StepTo P Q o a w K:=by
 have hw:Region.wanted o (yielded ops a.tmps) = true:=by simp [Region.wanted,hg]
 simp only [wpList,hw,if_true] at h
 rcases h with h | h
 ·exact .inl (Oper.wp_then h)
 ·exact .inr h
theorem Zab {Q:Exit -> Act -> World -> Prop} {o:Oper} {a:Act} {w w':World} {K:Act -> World -> Prop} {v:Value} (hr:(execOp a.eval o).run P w = .ok (.value v) w') (h:K (a.put o.dst v) w'):StepTo P Q o a w K:=by
 left;unfold Oper.wp;rw [hr];exact h
theorem Zbw {Q:Exit -> Act -> World -> Prop} {o:Oper} {a:Act} {w w':World} {K:Act -> World -> Prop} (hr:(execOp a.eval o).run P w = .ok .skip w') (h:K (a.put o.dst undef) w'):StepTo P Q o a w K:=by
 left;unfold Oper.wp;rw [hr];exact h
theorem Zan {Q:Exit -> Act -> World -> Prop} {o:Oper} {a:Act} {w:World} {K:Act -> World -> Prop} {f:FuncId} {args:Array Value} (hr:(execOp a.eval o).run P w = .ok (.enter f args) w)
  (hc:Calls P f args w fun e w'=>∃ v,e = .returned v /\ K (a.put o.dst v) w'):StepTo P Q o a w K:=by
 left;unfold Oper.wp;rw [hr,Oper.upon_enter]
 refine hc.mono ?_
 rintro e w' ⟨v,rfl,h⟩
 exact h
theorem Zwy {fin:Nat -> Bool} {i j:Nat} (hb:backB md ops = true)
  (hf:∀ j,fin j = true -> j < ops.size) (h:usedB md ops fin i j = true) (L:List Nat) (hL:(List.range ops.size).filter (usedB md ops fin i) = L):j ∈ L:=by
 rw [<- hL,List.mem_filter]
 refine ⟨?_,h⟩
 rw [List.mem_range]
 unfold usedB at h
 rw [Bool.and_eq_true,Bool.or_eq_true] at h
 rcases h.2 with h2 | h2
 ·exact hf j h2
 ·rw [List.any_eq_true] at h2
  obtain ⟨k,hk,h3⟩:=h2
  rw [Bool.and_eq_true] at h3
  cases ho:ops[k]? with
  | none=>rw [ho] at h3;simp at h3
  | some o =>
   rw [ho] at h3
   simp only [Option.map_some,Option.getD_some] at h3
   obtain ⟨e,he,h4⟩:=Array.any_eq_true'.1 h3.2
   rw [Bool.and_eq_true,beq_iff_eq] at h4
   unfold backB at hb
   rw [List.all_eq_true] at hb
   have h5:=hb k hk
   rw [ho] at h5
   simp only [Option.map_some,Option.getD_some] at h5
   rw [Array.all_eq_true_iff_forall_mem] at h5
   have h6:=h5 e he
   rw [Zay h4.1] at h6
   have:=List.mem_range.1 hk
   rw [<- h4.2]
   simp at h6
   omega
theorem Zbs {id:Nat} {l:List Value} {df:List Deferred} {w0:World} (ds:List Tmp) (fin:Nat -> Bool) (R:Array Bool -> World -> Prop) (V:Nat -> Value -> World -> Prop) (D:Nat -> Nat -> Value -> Value -> Prop)
  (hm:P.follows .mixedOrders = true) (hds:dstsL ops = ds) (h1:OneEach ops l.length) (hb:backB .any ops = true)
  (hg:(ops.all fun o=>o.guard.isNone) = true)
  (h0:R (Array.replicate ops.size false) { w0 with drawn:=w0.drawn + 1 })
  (step:∀ (i:Nat) (o:Oper),ops[i]? = some o -> ∀ (listed:Array Bool) (a:Act) (w:World),R listed w -> i < listed.size -> listed.getD i false = false -> (∀ j,anc .any ops i ops.size j = true -> listed.getD j false = false) -> (∀ j,anc .any ops j ops.size i = true -> listed.getD j false = true) -> (∀ t,t ∉ ds -> a.eval (.tmp t) = l.getD t undef) →
   (∀ (j:Nat) (oj:Oper) (d:Tmp),ops[j]? = some oj -> oj.dst = some d -> listed.getD j false = false -> a.eval (.tmp d) = l.getD d undef) →
   (∀ e ∈ o.after,wantE .any e = true -> ∀ oe,ops[e.on]? = some oe -> V e.on (leftBy a oe) w) →
   StepTo P Q o a w (fun a' w'=>∃ v,a' = a.put o.dst v /\ R (listed.setIfInBounds i true) w' /\ (∀ j u,usedB .any ops fin i j = true -> V j u w -> (∀ e ∈ o.after,wantE .any e = true -> e.on ≠ j -> ∀ oe,ops[e.on]? = some oe -> D e.on j (leftBy a oe) u /\ D j e.on u (leftBy a oe)) →
    V j u w' /\ D i j (match o.dst with | some _=>v | none=>undef) u /\ D j i u (match o.dst with | some _=>v | none=>undef)) /\ V i (match o.dst with | some _=>v | none=>undef) w'))
  (done:∀ (listed:Array Bool) (f:Nat -> Value) (w:World),R listed w -> (∀ i,i < ops.size -> listed.getD i false = true) -> (∀ (i:Nat) (o:Oper),ops[i]? = some o -> fin i = true -> V i (match o.dst with | some d=>f d | none=>undef) w) →
   Q .normal ⟨(spread ds f 0 l).toArray,df⟩ w) :
  (Code.region id ops true).wp P Q ⟨l.toArray,df⟩ w0:=by
 subst hds
 have hb':∀ (i:Nat) (o:Oper),ops[i]? = some o -> ∀ e ∈ o.after,Region.binds .any e = true -> e.on < i:=fun i o hi e he hbe=>by
  unfold backB at hb
  rw [List.all_eq_true] at hb
  have h2:=hb i (by simpa using (Array.getElem?_eq_some_iff.1 hi).1)
  rw [hi] at h2
  simp only [Option.map_some,Option.getD_some] at h2
  rw [Array.all_eq_true_iff_forall_mem] at h2
  have h3:=h2 e he
  rw [hbe] at h3
  simpa using h3
 have h1':OneEach ops (Act.mk l.toArray df).tmps.size:=by simpa using h1
 refine wp_region_any hm (Zii (FlowAt .any ops fin R V D ⟨l.toArray,df⟩) ?_ ?_ _ _ _ _ (Zcn ops) (FlowAt.start h0))
 ·intro listed a w i hI hi
  obtain ⟨hun,o,ho,hw⟩:=mem_ready.1 hi
  have hgo:o.guard = none:=by
   rw [Array.all_eq_true_iff_forall_mem] at hg
   simpa using hg o (Array.mem_of_getElem? ho)
  have hwant:Region.wanted o (yielded ops a.tmps) = true:=by simp [Region.wanted,hgo]
  unfold wpOp
  simp only [ho,hwant,if_true]
  have hil:i < listed.size:=by rw [hI.len];exact (Array.getElem?_eq_some_iff.1 ho).1
  have hunf:listed.getD i false = false:=by simp [hil] at hun ⊢;exact hun
  have hs:=step i o ho listed a w hI.rel hil hunf (fun j hj=>by
   cases hc:listed.getD j false with
   | false=>rfl
   | true=>have:=hI.shut.anc i _ _ hj hc;rw [hunf] at this;cases this) (fun j hj=>hI.shut.ready ho hw _ hj) (fun t ht=>by have:=hI.out t ht;simpa [Act.eval] using this) (fun j oj d hj hd hl=>by have:=hI.old j oj d hj hd hl;simpa [Act.eval] using this) (fun e he hbe oe hoe=>hI.val e.on oe hoe (hw e he (Zay hbe)) (.inr ⟨i,o,e,ho,hun,he,hbe,rfl⟩))
  exact hs.imp (Oper.wp_mono (fun a' w' h=>by
   obtain ⟨v,rfl,hR,hmono,hv⟩:=h
   exact hI.next h1' ho hun hw hR hmono hv)) (fun h=>h)
 ·intro listed a w hI hr
  obtain ⟨hR,hall,hV,ha⟩:=hI.end hb' hr
  rw [ha]
  exact done _ _ _ hR hall hV
theorem Zdx {id:Nat} {l:List Value} {df:List Deferred} {w0:World} (ds:List Tmp) (fin:Nat -> Bool) (R:Array Bool -> World -> Prop) (V:Nat -> Value -> World -> Prop) (D:Nat -> Nat -> Value -> Value -> Prop)
  (hm:P.follows .mixedOrders = true) (hds:dstsL ops = ds) (h1:OneEach ops l.length) (hb:backB .any ops = true)
  (hg:(ops.all fun o=>o.guard.isNone) = true)
  (h0:R (Array.replicate ops.size false) { w0 with drawn:=w0.drawn + 1 })
  (step:∀ (i:Nat) (o:Oper),ops[i]? = some o -> ∀ (listed:Array Bool) (a:Act) (w:World),R listed w -> i < listed.size -> listed.getD i false = false -> (∀ j,anc .any ops i ops.size j = true -> listed.getD j false = false) -> (∀ j,anc .any ops j ops.size i = true -> listed.getD j false = true) -> (∀ t,t ∉ ds -> a.eval (.tmp t) = l.getD t undef) →
   (∀ e ∈ o.after,wantE .any e = true -> ∀ oe,ops[e.on]? = some oe -> V e.on (leftBy a oe) w) →
   StepTo P Q o a w (fun a' w'=>∃ v,a' = a.put o.dst v /\ R (listed.setIfInBounds i true) w' /\ (∀ j u,usedB .any ops fin i j = true -> V j u w -> (∀ e ∈ o.after,wantE .any e = true -> e.on ≠ j -> ∀ oe,ops[e.on]? = some oe -> D e.on j (leftBy a oe) u /\ D j e.on u (leftBy a oe)) →
    V j u w' /\ D i j (match o.dst with | some _=>v | none=>undef) u /\ D j i u (match o.dst with | some _=>v | none=>undef)) /\ V i (match o.dst with | some _=>v | none=>undef) w'))
  (done:∀ (listed:Array Bool) (f:Nat -> Value) (w:World),R listed w -> (∀ i,i < ops.size -> listed.getD i false = true) -> (∀ (i:Nat) (o:Oper),ops[i]? = some o -> fin i = true -> V i (match o.dst with | some d=>f d | none=>undef) w) →
   Q .normal ⟨(spread ds f 0 l).toArray,df⟩ w) :
  (Code.region id ops true).wp P Q ⟨l.toArray,df⟩ w0 :=
 Zbs ds fin R V D hm hds h1 hb hg h0 (fun i o ho listed a w hR hil hu hd ha ht _ hv=>step i o ho listed a w hR hil hu hd ha ht hv) done
theorem Zgp {F:Fence} {n:Nat} {id:Nat} {l:List Value} {df:List Deferred} {w0:World} (ds:List Tmp) (fin:Nat -> Bool) (R:Array Bool -> World -> Prop) (V:Nat -> Value -> World -> Prop) (D:Nat -> Nat -> Value -> Value -> Prop)
  (hm:P.follows .mixedOrders = true) (hds:dstsL ops = ds) (h1:OneEach ops l.length) (hb:backB .any ops = true)
  (hg:(ops.all fun o=>o.guard.isNone) = true)
  (h0:R (Array.replicate ops.size false) { w0 with drawn:=w0.drawn + 1 })
  (step:∀ (i:Nat) (o:Oper),ops[i]? = some o -> ∀ (listed:Array Bool) (a:Act) (w:World),R listed w -> i < listed.size -> listed.getD i false = false -> (∀ j,anc .any ops i ops.size j = true -> listed.getD j false = false) -> (∀ j,anc .any ops j ops.size i = true -> listed.getD j false = true) -> (∀ t,t ∉ ds -> a.eval (.tmp t) = l.getD t undef) →
   (∀ (j:Nat) (oj:Oper) (d:Tmp),ops[j]? = some oj -> oj.dst = some d -> listed.getD j false = false -> a.eval (.tmp d) = l.getD d undef) →
   (∀ e ∈ o.after,wantE .any e = true -> ∀ oe,ops[e.on]? = some oe -> V e.on (leftBy a oe) w) →
   Oper.wpIn F n P o a w (fun a' w'=>∃ v,a' = a.put o.dst v /\ R (listed.setIfInBounds i true) w' /\ (∀ j u,usedB .any ops fin i j = true -> V j u w -> (∀ e ∈ o.after,wantE .any e = true -> e.on ≠ j -> ∀ oe,ops[e.on]? = some oe -> D e.on j (leftBy a oe) u /\ D j e.on u (leftBy a oe)) →
    V j u w' /\ D i j (match o.dst with | some _=>v | none=>undef) u /\ D j i u (match o.dst with | some _=>v | none=>undef)) /\ V i (match o.dst with | some _=>v | none=>undef) w') Q)
  (done:∀ (listed:Array Bool) (f:Nat -> Value) (w:World),R listed w -> (∀ i,i < ops.size -> listed.getD i false = true) -> (∀ (i:Nat) (o:Oper),ops[i]? = some o -> fin i = true -> V i (match o.dst with | some d=>f d | none=>undef) w) →
   Q .normal ⟨(spread ds f 0 l).toArray,df⟩ w) :
  (Code.region id ops true).wpIn F n P Q ⟨l.toArray,df⟩ w0:=by
 subst hds
 have hb':∀ (i:Nat) (o:Oper),ops[i]? = some o -> ∀ e ∈ o.after,Region.binds .any e = true -> e.on < i:=fun i o hi e he hbe=>by
  unfold backB at hb
  rw [List.all_eq_true] at hb
  have h2:=hb i (by simpa using (Array.getElem?_eq_some_iff.1 hi).1)
  rw [hi] at h2
  simp only [Option.map_some,Option.getD_some] at h2
  rw [Array.all_eq_true_iff_forall_mem] at h2
  have h3:=h2 e he
  rw [hbe] at h3
  simpa using h3
 have h1':OneEach ops (Act.mk l.toArray df).tmps.size:=by simpa using h1
 refine wpIn_region_any hm (Znw (FlowAt .any ops fin R V D ⟨l.toArray,df⟩) ?_ ?_ _ _ _ _ (Zcn ops) (FlowAt.start h0))
 ·intro listed a w i hI hi
  obtain ⟨hun,o,ho,hw⟩:=mem_ready.1 hi
  have hgo:o.guard = none:=by
   rw [Array.all_eq_true_iff_forall_mem] at hg
   simpa using hg o (Array.mem_of_getElem? ho)
  have hwant:Region.wanted o (yielded ops a.tmps) = true:=by simp [Region.wanted,hgo]
  unfold wpOpIn
  simp only [ho,hwant,if_true]
  have hil:i < listed.size:=by rw [hI.len];exact (Array.getElem?_eq_some_iff.1 ho).1
  have hunf:listed.getD i false = false:=by simp [hil] at hun ⊢;exact hun
  have hs:=step i o ho listed a w hI.rel hil hunf (fun j hj=>by
   cases hc:listed.getD j false with
   | false=>rfl
   | true=>have:=hI.shut.anc i _ _ hj hc;rw [hunf] at this;cases this) (fun j hj=>hI.shut.ready ho hw _ hj) (fun t ht=>by have:=hI.out t ht;simpa [Act.eval] using this) (fun j oj d hj hd hl=>by have:=hI.old j oj d hj hd hl;simpa [Act.eval] using this) (fun e he hbe oe hoe=>hI.val e.on oe hoe (hw e he (Zay hbe)) (.inr ⟨i,o,e,ho,hun,he,hbe,rfl⟩))
  exact (Oper.wpIn_mono (fun a' w' h=>by
   obtain ⟨v,rfl,hR,hmono,hv⟩:=h
   exact hI.next h1' ho hun hw hR hmono hv) hs)
 ·intro listed a w hI hr
  obtain ⟨hR,hall,hV,ha⟩:=hI.end hb' hr
  rw [ha]
  exact done _ _ _ hR hall hV
theorem Zgo {F:Fence} {n:Nat} {id:Nat} {l:List Value} {df:List Deferred} {w0:World} (ds:List Tmp) (fin:Nat -> Bool) (R:Array Bool -> World -> Prop) (V:Nat -> Value -> World -> Prop) (D:Nat -> Nat -> Value -> Value -> Prop)
  (hm:P.follows .mixedOrders = true) (hds:dstsL ops = ds) (h1:OneEach ops l.length) (hb:backB .any ops = true)
  (hg:(ops.all fun o=>o.guard.isNone) = true)
  (h0:R (Array.replicate ops.size false) { w0 with drawn:=w0.drawn + 1 })
  (step:∀ (i:Nat) (o:Oper),ops[i]? = some o -> ∀ (listed:Array Bool) (a:Act) (w:World),R listed w -> i < listed.size -> listed.getD i false = false -> (∀ j,anc .any ops i ops.size j = true -> listed.getD j false = false) -> (∀ j,anc .any ops j ops.size i = true -> listed.getD j false = true) -> (∀ t,t ∉ ds -> a.eval (.tmp t) = l.getD t undef) →
   (∀ e ∈ o.after,wantE .any e = true -> ∀ oe,ops[e.on]? = some oe -> V e.on (leftBy a oe) w) →
   Oper.wpIn F n P o a w (fun a' w'=>∃ v,a' = a.put o.dst v /\ R (listed.setIfInBounds i true) w' /\ (∀ j u,usedB .any ops fin i j = true -> V j u w -> (∀ e ∈ o.after,wantE .any e = true -> e.on ≠ j -> ∀ oe,ops[e.on]? = some oe -> D e.on j (leftBy a oe) u /\ D j e.on u (leftBy a oe)) →
    V j u w' /\ D i j (match o.dst with | some _=>v | none=>undef) u /\ D j i u (match o.dst with | some _=>v | none=>undef)) /\ V i (match o.dst with | some _=>v | none=>undef) w') Q)
  (done:∀ (listed:Array Bool) (f:Nat -> Value) (w:World),R listed w -> (∀ i,i < ops.size -> listed.getD i false = true) -> (∀ (i:Nat) (o:Oper),ops[i]? = some o -> fin i = true -> V i (match o.dst with | some d=>f d | none=>undef) w) →
   Q .normal ⟨(spread ds f 0 l).toArray,df⟩ w) :
  (Code.region id ops true).wpIn F n P Q ⟨l.toArray,df⟩ w0 :=
 Zgp ds fin R V D hm hds h1 hb hg h0 (fun i o ho listed a w hR hil hu hd ha ht _ hv=>step i o ho listed a w hR hil hu hd ha ht hv) done
end
end Go.Proofs.Ytnkpnjnfddjfpaa
