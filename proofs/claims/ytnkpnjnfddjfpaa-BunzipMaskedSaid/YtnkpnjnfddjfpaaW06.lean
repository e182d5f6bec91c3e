/- bytes.Repeat: contract. front.Get: contract. A drawn region inside a round: first operations that only read, in any order; then the rest, in the text's order. rotate.walk, rotate.Back: contracts. block.numbers: contract. Plain: what bunzip.Bunzip reads (marks, parts of a stream, streams). pressworkref26.Numbers: contract. -/
import Derived.Test.YtnkpnjnfddjfpaaW02
import Derived.Test.YtnkpnjnfddjfpaaW05
import Derived.Test.YtnkpnjnfddjfpaaW01
import Derived.Laws.CopyOwn
import Derived.Lib.MakeNoZero
import Derived.Maps.AppendAt
import Derived.StillTail
import Derived.OrdersIn
import Derived.OwnWalkIn
import Derived.StillTactics
import Derived.Great.BuildSlice
set_option linter.unusedVariables false
set_option linter.unusedSimpArgs false
namespace Go.Proofs.Ytnkpnjnfddjfpaa
open Go.RowKit Go.Shelf
def RepB (w:World) (g n k m:Nat):Prop:=∃ cs:List Value,w.heap[g]? = some (.cells cs.toArray 5 (0,0)) /\ cs.take m = List.replicate m (.int .u8 (k:Nat)) /\ n <= cs.length
theorem RepB.cell {w:World} {g n k m:Nat} (h:RepB w g n k m) (hm:m <= n) {j:Nat} (hj:j < m):w.cell? ⟨g,j,none⟩ = some (.int .u8 (k:Nat)):=by
 obtain ⟨cs,h1,h2,h3⟩:=h
 have:cs[j]? = some (.int .u8 (k:Nat)):=by
  rw [<- List.getElem?_take_of_lt hj,h2,List.getElem?_replicate,if_pos hj]
 simp [World.cell?,h1,this]
theorem RepB.drew {w:World} {g n k m:Nat} (h:RepB w g n k m):RepB w.drew g n k m:=h
theorem Zer (cs:List Value) (v:Value) (m c:Nat) (h:cs.take m = List.replicate m v) (hm:m + c <= cs.length):(splice cs m (List.replicate c v)).take (m + c) = List.replicate (m + c) v:=by
 unfold splice
 rw [h,<- List.append_assoc,List.replicate_append_replicate,List.take_left' (by simp)]
theorem cutHiB (g m n:Nat) (h:m < n) (w:World):(Instr.sliceAt 22 (.slice (some ⟨g,0,none⟩) n n) (some (.int .i64 (m:Nat))) none none).run Try.prog w = .ok (.slice (some ⟨g,m,none⟩) (n - m) (n - m)) w:=by
 have hsz:(Try.prog.info? 5).map (·.size) = some 1:=by kernel_rfl
 have h3:m <= n:=by omega
 have h4:¬ n = m:=by omega
 have h6:(if m = 0 then (⟨g,0,none⟩:Addr) else ⟨g,m,none⟩) = ⟨g,m,none⟩:=by
  split
  ·rename_i h;rw [h]
  ·rfl
 cases h5:Try.prog.info? 5 with
 | none=>rw [h5] at hsz;cases hsz
 | some ie =>
  simp only [h5,Option.map_some,Option.some.injEq] at hsz
  simp [Instr.sliceAt,Instr.slice,Instr.sliceBounds,Instr.sliceBound,run_underlying Try.underlying22,asIntOf,sizeOf,typeInfo,h5,hsz,go_sem,h3,h4,h6,Addr.add]
theorem cutLoB (g m n:Nat) (h:m <= n) (w:World):(Instr.sliceAt 22 (.slice (some ⟨g,0,none⟩) n n) none (some (.int .i64 (m:Nat))) none).run Try.prog w = .ok (.slice (some ⟨g,0,none⟩) m n) w:=by
 have hsz:(Try.prog.info? 5).map (·.size) = some 1:=by kernel_rfl
 cases h5:Try.prog.info? 5 with
 | none=>rw [h5] at hsz;cases hsz
 | some ie =>
  simp only [h5,Option.map_some,Option.some.injEq] at hsz
  simp [Instr.sliceAt,Instr.slice,Instr.sliceBounds,Instr.sliceBound,run_underlying Try.underlying22,asIntOf,sizeOf,typeInfo,h5,go_sem,h,Addr.add]
theorem cut3B (g m n c:Nat) (h:m <= c) (w:World):(Instr.sliceAt 22 (.slice (some ⟨g,0,none⟩) n c) none (some (.int .i64 (m:Nat))) (some (.int .i64 (m:Nat)))).run Try.prog w = .ok (.slice (some ⟨g,0,none⟩) m m) w:=by
 have hsz:(Try.prog.info? 5).map (·.size) = some 1:=by kernel_rfl
 cases h5:Try.prog.info? 5 with
 | none=>rw [h5] at hsz;cases hsz
 | some ie =>
  simp only [h5,Option.map_some,Option.some.injEq] at hsz
  simp [Instr.sliceAt,Instr.slice,Instr.sliceBounds,Instr.sliceBound,run_underlying Try.underlying22,asIntOf,sizeOf,typeInfo,h5,go_sem,h,Addr.add]
set_option maxRecDepth 100000 in
set_option maxHeartbeats 3200000 in
theorem Zdj (n k b:Nat) (h2:n <= 1000000) (w:World) (hr:w.cell? ⟨b,0,none⟩ = some (.int .u8 (k:Nat))) (hb:b < w.heap.size) :
  Calls Try.prog 66 #[.slice (some ⟨b,0,none⟩) 1 1,.int .i64 (n:Nat)] w fun e w'=>∃ a,e = .returned (.slice a n n) /\ RowN .u8 w' a n (List.replicate n k) /\ Below w.heap.size w w':=by
 by_cases h1:n = 0
 ·subst h1
  go_enter Try.func66,Try.ntmps66
  go_wp2
  go_ret
  exact ⟨_,rfl,⟨by simp,⟨by omega,fun h=>by cases h⟩,.inl rfl⟩,Zai w _⟩
 have t1:((n:Int) == 0) = false:=by simp [h1]
 have t2:decide ((9223372036854775807:Int) < (n:Int)) = false:=by simp;omega
 obtain ⟨cs,hrunM,hle,hmx⟩:=Lib.run_makeNoZero (P:=Try.prog) w #[3] 22 5 Try.underlying22 n (by omega)
 obtain ⟨g,hg⟩:∃ g,w.heap.size = g:=⟨_,rfl⟩
 have HGD:=Zh hg
 obtain ⟨w1,hw1⟩:∃ w1,w.drew.drew.alloc (.cells cs 5) = w1:=⟨_,rfl⟩
 have hcall:(callFunc 124 #[.int .i64 (n:Int)]).run Try.prog w = .ok (.value (.slice (some ⟨g,0,none⟩) n cs.size)) w1:=by
  rw [run_callFunc_extern Try.func124 (by kernel_rfl) (by kernel_rfl) (by kernel_rfl) (e:=Extern.BytealgMakeNoZero.makeNoZero #[3] #[22]) (by kernel_rfl),hrunM,hw1,hg]
  rfl
 have hB1:Below w.heap.size w w1:=by rw [<- hw1];exact (belDN (belDN (Below.refl _ w) 1) 1).alloc (Nat.le_refl _) _
 have hrow0:w1.heap[g]? = some (.cells cs 5 (0,0)):=by rw [<- hw1,<- hg];exact World.alloc_heap_new _ _
 have hc1:w1.cell? ⟨b,0,none⟩ = some (.int .u8 (k:Nat)):=(hB1.cell (p:=⟨b,0,none⟩) hb).trans hr
 have hs3:=fun W=>cut3B g n n cs.size hle W
 have hs1:∀ j v,[Value.int .u8 (k:Nat)][j]? = some v -> w1.cell? ((⟨b,0,none⟩:Addr).add j) = some v:=by
  intro j v hj
  cases j with
  | zero=>simp only [List.getElem?_cons_zero,Option.some.injEq] at hj;subst hj;exact hc1
  | succ j=>simp at hj
 obtain ⟨w2,hrun,hR1,hB2⟩:∃ w2,(∀ ty,(Builtin.copy_ #[22,22] ty #[.slice (some ⟨g,0,none⟩) n n,.slice (some ⟨b,0,none⟩) 1 1]).run Try.prog w1 = .ok (goInt 1) w2) /\ RepB w2 g n k 1 /\ Below w.heap.size w w2:=by
  refine ⟨_,fun ty=>run_copy_row (P:=Try.prog) w1 22 22 ty 5 g 0 n n ⟨b,0,none⟩ 1 1 cs 5 [Value.int .u8 (k:Nat)] Try.underlying22 (by kernel_rfl) hrow0 (by show 1 = min 1 n;omega) hs1 (by simp;omega) (by intro v hv;simp at hv;subst hv;rfl),⟨_,setRow_heap w1 g _ _ _ _ hrow0,?_,?_⟩,below_setRow hB1 (by omega) _⟩
  ·simp
  ·simp;omega
 have HRUN:=Zh hrun
 have HR1:=Zh hR1
 have HB2:=Zh hB2
 clear hrun hR1 hB2 hrunM hw1 hB1 hrow0 hc1 hs1 hr hg hmx
 by_cases h8:n <= 8192
 ·have t3:decide ((8192:Int) < (n:Int)) = false:=by simp;omega
  go_enter Try.func66,Try.ntmps66
  go_wp2_with (first | (go_at_call 78;refine (Zob n h2 _).mono ?_;rintro e w' ⟨rfl,rfl⟩))
  rw [HRUN.out]
  simp only [goInt]
  clear HRUN hcall hs3
  go_wp2_with fail
  go_loopw [10,11] (fun i _ A=>∃ m:Nat,1 <= m /\ m <= n /\ i = .int .i64 m /\ RepB A g n k m /\ Below w.heap.size w A) (fun i _ _=>n - (intOf i).toNat)
  case atStart=>exact ⟨1,by omega,by omega,rfl,HR1.out,HB2.out⟩
  case round =>
   clear HR1 HB2
   obtain ⟨m,hm1,hmn',rfl,hcur,hbel⟩:=hrel
   by_cases hlt:m < n
   ·have hlI:(m:Int) < (n:Int):=by omega
    obtain ⟨c,hc⟩:∃ c,Nat.min m (n - m) = c:=⟨_,rfl⟩
    have hcc:c = min m (n - m):=hc.symm
    have hmn:m + c <= n:=by omega
    have hcm:c <= m:=by omega
    have hc1:1 <= c:=by omega
    have hcl:∀ w,(Instr.sliceAt 22 (.slice (some ⟨g,0,none⟩) n n) none (some (.int .i64 (m:Nat))) none).run Try.prog w = .ok (.slice (some ⟨g,0,none⟩) m n) w:=fun w=>cutLoB g m n (by omega) w
    have HCUR:=Zh hcur
    have HBEL:=Zh hbel
    have hw1:IntKind.i64.wrap ((m:Int) + (c:Int)) = (m:Int) + (c:Int):=IntWalk.i64_in _ (by omega)
    clear hcur hbel
    go_wp2_with fail
    have hcur:=HCUR.out
    have hbel:=HBEL.out
    refine Zbs [67,68,69,70,71,72,73,74,75,10] (fun j=>j == 9) (fun listed w1=>RepB w1 g n k (if listed.getD 7 false = true then m + c else m) /\ Below w.heap.size w w1) (fun j v _=>match j with | 0=>v = .int .i64 (m:Nat) | 1=>v = .slice (some ⟨g,0,none⟩) n n | 2=>v = .int .i64 (m:Nat) | 3=>v = .slice (some ⟨g,m,none⟩) (n - m) (n - m) | 4=>v = .slice (some ⟨g,0,none⟩) n n | 5=>v = .int .i64 (m:Nat) | 6=>v = .slice (some ⟨g,0,none⟩) m n | 7=>v = .int .i64 (c:Nat) | 8=>v = .int .i64 ((m + c:Nat):Int) | 9=>v = .int .i64 ((m + c:Nat):Int) | _=>True) (fun _ _ _ _=>True) (by kernel_rfl) (by kernel_rfl) (OneEach.mk' (by kernel_rfl) (by kernel_rfl)) (by kernel_rfl) (by kernel_rfl) ⟨by simpa using hcur.drew,belDN hbel 1⟩ ?_ ?_
    ·intro i0 o hi0 listed a1 w1 hR hil hunf hdes hanc hout hold hdep
     have hsz:i0 < 10:=(Array.getElem?_eq_some_iff.1 hi0).1
     have hall:i0 = 0 \/ i0 = 1 \/ i0 = 2 \/ i0 = 3 \/ i0 = 4 \/ i0 = 5 \/ i0 = 6 \/ i0 = 7 \/ i0 = 8 \/ i0 = 9:=by omega
     clear hsz
     rcases hall with rfl | rfl | rfl | rfl | rfl | rfl | rfl | rfl | rfl | rfl <;> simp only [List.getElem?_toArray,List.getElem?_cons_zero,List.getElem?_cons_succ,Option.some.injEq] at hi0 <;> subst hi0
     ·have f10:a1.eval (.tmp 10) = .int .i64 (m:Nat):=hold 9 _ 10 rfl rfl (hdes 9 (by kernel_rfl))
      refine Zab (v:=.int .i64 (m:Nat)) (w':=w1) (by simp [execOp,f10]) ⟨_,rfl,⟨?_,hR.2⟩,fun j u hu hV _=>⟨hV,trivial,trivial⟩,rfl⟩
      rw [Zaa (by decide)];exact hR.1
     ·have f9:a1.eval (.tmp 9) = .slice (some ⟨g,0,none⟩) n n:=hout 9 (by decide)
      refine Zab (v:=.slice (some ⟨g,0,none⟩) n n) (w':=w1) (by simp [execOp,f9]) ⟨_,rfl,⟨?_,hR.2⟩,fun j u hu hV _=>⟨hV,trivial,trivial⟩,rfl⟩
      rw [Zaa (by decide)];exact hR.1
     ·have f10:a1.eval (.tmp 10) = .int .i64 (m:Nat):=hold 9 _ 10 rfl rfl (hdes 9 (by kernel_rfl))
      refine Zab (v:=.int .i64 (m:Nat)) (w':=w1) (by simp [execOp,f10]) ⟨_,rfl,⟨?_,hR.2⟩,fun j u hu hV _=>⟨hV,trivial,trivial⟩,rfl⟩
      rw [Zaa (by decide)];exact hR.1
     ·have e68:a1.eval (.tmp 68) = .slice (some ⟨g,0,none⟩) n n:=hdep ⟨1,.data⟩ (by simp) rfl _ rfl
      have e69:a1.eval (.tmp 69) = .int .i64 (m:Nat):=hdep ⟨2,.data⟩ (by simp) rfl _ rfl
      refine Zab (v:=.slice (some ⟨g,m,none⟩) (n - m) (n - m)) (w':=w1) (by simp [execOp,e68,e69,cutHiB g m n hlt]) ⟨_,rfl,⟨?_,hR.2⟩,fun j u hu hV _=>⟨hV,trivial,trivial⟩,rfl⟩
      rw [Zaa (by decide)];exact hR.1
     ·have f9:a1.eval (.tmp 9) = .slice (some ⟨g,0,none⟩) n n:=hout 9 (by decide)
      refine Zab (v:=.slice (some ⟨g,0,none⟩) n n) (w':=w1) (by simp [execOp,f9]) ⟨_,rfl,⟨?_,hR.2⟩,fun j u hu hV _=>⟨hV,trivial,trivial⟩,rfl⟩
      rw [Zaa (by decide)];exact hR.1
     ·have f11:a1.eval (.tmp 11) = .int .i64 (m:Nat):=hout 11 (by decide)
      refine Zab (v:=.int .i64 (m:Nat)) (w':=w1) (by simp [execOp,f11]) ⟨_,rfl,⟨?_,hR.2⟩,fun j u hu hV _=>⟨hV,trivial,trivial⟩,rfl⟩
      rw [Zaa (by decide)];exact hR.1
     ·have e71:a1.eval (.tmp 71) = .slice (some ⟨g,0,none⟩) n n:=hdep ⟨4,.data⟩ (by simp) rfl _ rfl
      have e72:a1.eval (.tmp 72) = .int .i64 (m:Nat):=hdep ⟨5,.data⟩ (by simp) rfl _ rfl
      refine Zab (v:=.slice (some ⟨g,0,none⟩) m n) (w':=w1) (by simp [execOp,e71,e72,hcl]) ⟨_,rfl,⟨?_,hR.2⟩,fun j u hu hV _=>⟨hV,trivial,trivial⟩,rfl⟩
      rw [Zaa (by decide)];exact hR.1
     ·have e70:a1.eval (.tmp 70) = .slice (some ⟨g,m,none⟩) (n - m) (n - m):=hdep ⟨3,.data⟩ (by simp) rfl _ rfl
      have e73:a1.eval (.tmp 73) = .slice (some ⟨g,0,none⟩) m n:=hdep ⟨6,.data⟩ (by simp) rfl _ rfl
      rw [hunf] at hR
      simp only [Bool.false_eq_true,if_false] at hR
      obtain ⟨cs,hcs1,hcs2,hcs3⟩:=hR.1
      refine Zdv (ops:=#[]) rfl (wpList_copy_splice rfl (.tmp 70) (.tmp 73) 22 22 rfl 5 Try.underlying22 (by kernel_rfl) _ _ (n - m) (n - m) m n e70 e73 g m cs 5 hcs1 (List.replicate c (.int .u8 (k:Nat))) (by rw [List.length_replicate];exact hc.symm) (fun _=>⟨rfl,_,rfl,fun j v hj=>by
       have hjc:j < c:=by have:=(List.getElem?_eq_some_iff.1 hj).1;simpa using this
       rw [List.getElem?_replicate,if_pos hjc] at hj
       cases hj
       have e:(⟨g,0,none⟩:Addr).add j = ⟨g,j,none⟩:=by unfold Addr.add;split <;> simp_all
       rw [e]
       exact RepB.cell ⟨cs,hcs1,hcs2,hcs3⟩ hmn' (by omega)⟩) (by rw [List.length_replicate];omega) (by intro v hv;rw [(List.mem_replicate.1 hv).2];rfl) w.heap.size w hR.2 (by rw [HGD.out];exact Nat.le_refl _) ?_)
      intro w4 hg4 hb4
      refine ⟨_,rfl,⟨?_,hb4⟩,fun j u hu hV _=>⟨hV,trivial,trivial⟩,by simp [goInt]⟩
      rw [if_pos (Zag hil)]
      exact ⟨_,hg4.out,Zer cs _ m c hcs2 (by omega),by rw [length_splice cs m _ (by rw [List.length_replicate];omega)];exact hcs3⟩
     ·have e67:a1.eval (.tmp 67) = .int .i64 (m:Nat):=hdep ⟨0,.data⟩ (by simp) rfl _ rfl
      have e74:a1.eval (.tmp 74) = .int .i64 (c:Nat):=hdep ⟨7,.data⟩ (by simp) rfl _ rfl
      refine Zab (v:=.int .i64 ((m + c:Nat):Int)) (w':=w1) (by simp [execOp,e67,e74,eqgA,addI,hw1]) ⟨_,rfl,⟨?_,hR.2⟩,fun j u hu hV _=>⟨hV,trivial,trivial⟩,rfl⟩
      rw [Zaa (by decide)];exact hR.1
     ·have e75:a1.eval (.tmp 75) = .int .i64 ((m + c:Nat):Int):=hdep ⟨8,.data⟩ (by simp) rfl _ rfl
      refine Zab (v:=.int .i64 ((m + c:Nat):Int)) (w':=w1) (by simp [execOp,e75]) ⟨_,rfl,⟨?_,hR.2⟩,fun j u hu hV _=>⟨hV,trivial,trivial⟩,rfl⟩
      rw [Zaa (by decide)];exact hR.1
    ·intro listed f w1 hR hall hV
     have v9:f 10 = .int .i64 ((m + c:Nat):Int):=hV 9 _ rfl rfl
     rw [if_pos (hall 7 (by decide))] at hR
     simp only [spread,List.contains_cons,List.contains_nil,Nat.reduceBEq,Bool.or_false,Bool.or_true,cond_true,cond_false,Nat.reduceAdd,Nat.zero_add,v9]
     go_wp2
     go_roundw
     case rel=>exact ⟨m + c,by omega,hmn,rfl,hR.1,hR.2⟩
     case measure=>simp [intOf];omega
   ·obtain rfl:m = n:=by omega
    have HB:=Zh hbel
    have HC:=Zh hcur
    have HLT:=(Array.getElem?_eq_some_iff.1 hcur.choose_spec.1).1
    clear hcur hbel
    go_wp2
    go_ret
    refine ⟨_,rfl,⟨by simp,⟨by omega,fun h=>by cases h⟩,.inr ⟨g,0,rfl,HLT,fun i hi=>?_⟩⟩,HB.out⟩
    have hi':i < m:=by simpa using hi
    rw [Nat.zero_add,HC.out.cell (Nat.le_refl _) hi']
    simp
 ·have t3:decide ((8192:Int) < (n:Int)) = true:=by simp;omega
  go_enter Try.func66,Try.ntmps66
  go_wp2_with (first | (go_at_call 78;refine (Zob n h2 _).mono ?_;rintro e w' ⟨rfl,rfl⟩))
  rw [HRUN.out]
  simp only [goInt]
  clear HRUN hcall hs3
  go_wp2_with fail
  go_loopw [10,11] (fun i _ A=>∃ m:Nat,1 <= m /\ m <= n /\ i = .int .i64 m /\ RepB A g n k m /\ Below w.heap.size w A) (fun i _ _=>n - (intOf i).toNat)
  case atStart=>exact ⟨1,by omega,by omega,rfl,HR1.out,HB2.out⟩
  case round =>
   clear HR1 HB2
   obtain ⟨m,hm1,hmn',rfl,hcur,hbel⟩:=hrel
   by_cases hlt:m < n
   ·have hlI:(m:Int) < (n:Int):=by omega
    by_cases hmc:8192 < m
    ·have tm:(8192:Int) < (m:Int):=by omega
     obtain ⟨c,hc⟩:∃ c,Nat.min 8192 (n - m) = c:=⟨_,rfl⟩
     have hcc:c = min 8192 (n - m):=hc.symm
     have hmn:m + c <= n:=by omega
     have hcm:c <= m:=by omega
     have hc1:1 <= c:=by omega
     have hcl:∀ w,(Instr.sliceAt 22 (.slice (some ⟨g,0,none⟩) n n) none (some (.int .i64 8192)) none).run Try.prog w = .ok (.slice (some ⟨g,0,none⟩) 8192 n) w:=fun w=>cutLoB g 8192 n (by omega) w
     have HCUR:=Zh hcur
     have HBEL:=Zh hbel
     have hw1:IntKind.i64.wrap ((m:Int) + (c:Int)) = (m:Int) + (c:Int):=IntWalk.i64_in _ (by omega)
     clear hcur hbel
     go_wp2_with fail
     have hcur:=HCUR.out
     have hbel:=HBEL.out
     refine Zbs [67,68,69,70,71,72,73,74,75,10] (fun j=>j == 9) (fun listed w1=>RepB w1 g n k (if listed.getD 7 false = true then m + c else m) /\ Below w.heap.size w w1) (fun j v _=>match j with | 0=>v = .int .i64 (m:Nat) | 1=>v = .slice (some ⟨g,0,none⟩) n n | 2=>v = .int .i64 (m:Nat) | 3=>v = .slice (some ⟨g,m,none⟩) (n - m) (n - m) | 4=>v = .slice (some ⟨g,0,none⟩) n n | 5=>v = .int .i64 8192 | 6=>v = .slice (some ⟨g,0,none⟩) 8192 n | 7=>v = .int .i64 (c:Nat) | 8=>v = .int .i64 ((m + c:Nat):Int) | 9=>v = .int .i64 ((m + c:Nat):Int) | _=>True) (fun _ _ _ _=>True) (by kernel_rfl) (by kernel_rfl) (OneEach.mk' (by kernel_rfl) (by kernel_rfl)) (by kernel_rfl) (by kernel_rfl) ⟨by simpa using hcur.drew,belDN hbel 1⟩ ?_ ?_
     ·intro i0 o hi0 listed a1 w1 hR hil hunf hdes hanc hout hold hdep
      have hsz:i0 < 10:=(Array.getElem?_eq_some_iff.1 hi0).1
      have hall:i0 = 0 \/ i0 = 1 \/ i0 = 2 \/ i0 = 3 \/ i0 = 4 \/ i0 = 5 \/ i0 = 6 \/ i0 = 7 \/ i0 = 8 \/ i0 = 9:=by omega
      clear hsz
      rcases hall with rfl | rfl | rfl | rfl | rfl | rfl | rfl | rfl | rfl | rfl <;> simp only [List.getElem?_toArray,List.getElem?_cons_zero,List.getElem?_cons_succ,Option.some.injEq] at hi0 <;> subst hi0
      ·have f10:a1.eval (.tmp 10) = .int .i64 (m:Nat):=hold 9 _ 10 rfl rfl (hdes 9 (by kernel_rfl))
       refine Zab (v:=.int .i64 (m:Nat)) (w':=w1) (by simp [execOp,f10]) ⟨_,rfl,⟨?_,hR.2⟩,fun j u hu hV _=>⟨hV,trivial,trivial⟩,rfl⟩
       rw [Zaa (by decide)];exact hR.1
      ·have f9:a1.eval (.tmp 9) = .slice (some ⟨g,0,none⟩) n n:=hout 9 (by decide)
       refine Zab (v:=.slice (some ⟨g,0,none⟩) n n) (w':=w1) (by simp [execOp,f9]) ⟨_,rfl,⟨?_,hR.2⟩,fun j u hu hV _=>⟨hV,trivial,trivial⟩,rfl⟩
       rw [Zaa (by decide)];exact hR.1
      ·have f10:a1.eval (.tmp 10) = .int .i64 (m:Nat):=hold 9 _ 10 rfl rfl (hdes 9 (by kernel_rfl))
       refine Zab (v:=.int .i64 (m:Nat)) (w':=w1) (by simp [execOp,f10]) ⟨_,rfl,⟨?_,hR.2⟩,fun j u hu hV _=>⟨hV,trivial,trivial⟩,rfl⟩
       rw [Zaa (by decide)];exact hR.1
      ·have e68:a1.eval (.tmp 68) = .slice (some ⟨g,0,none⟩) n n:=hdep ⟨1,.data⟩ (by simp) rfl _ rfl
       have e69:a1.eval (.tmp 69) = .int .i64 (m:Nat):=hdep ⟨2,.data⟩ (by simp) rfl _ rfl
       refine Zab (v:=.slice (some ⟨g,m,none⟩) (n - m) (n - m)) (w':=w1) (by simp [execOp,e68,e69,cutHiB g m n hlt]) ⟨_,rfl,⟨?_,hR.2⟩,fun j u hu hV _=>⟨hV,trivial,trivial⟩,rfl⟩
       rw [Zaa (by decide)];exact hR.1
      ·have f9:a1.eval (.tmp 9) = .slice (some ⟨g,0,none⟩) n n:=hout 9 (by decide)
       refine Zab (v:=.slice (some ⟨g,0,none⟩) n n) (w':=w1) (by simp [execOp,f9]) ⟨_,rfl,⟨?_,hR.2⟩,fun j u hu hV _=>⟨hV,trivial,trivial⟩,rfl⟩
       rw [Zaa (by decide)];exact hR.1
      ·have f11:a1.eval (.tmp 11) = .int .i64 8192:=hout 11 (by decide)
       refine Zab (v:=.int .i64 8192) (w':=w1) (by simp [execOp,f11]) ⟨_,rfl,⟨?_,hR.2⟩,fun j u hu hV _=>⟨hV,trivial,trivial⟩,rfl⟩
       rw [Zaa (by decide)];exact hR.1
      ·have e71:a1.eval (.tmp 71) = .slice (some ⟨g,0,none⟩) n n:=hdep ⟨4,.data⟩ (by simp) rfl _ rfl
       have e72:a1.eval (.tmp 72) = .int .i64 8192:=hdep ⟨5,.data⟩ (by simp) rfl _ rfl
       refine Zab (v:=.slice (some ⟨g,0,none⟩) 8192 n) (w':=w1) (by simp [execOp,e71,e72,hcl]) ⟨_,rfl,⟨?_,hR.2⟩,fun j u hu hV _=>⟨hV,trivial,trivial⟩,rfl⟩
       rw [Zaa (by decide)];exact hR.1
      ·have e70:a1.eval (.tmp 70) = .slice (some ⟨g,m,none⟩) (n - m) (n - m):=hdep ⟨3,.data⟩ (by simp) rfl _ rfl
       have e73:a1.eval (.tmp 73) = .slice (some ⟨g,0,none⟩) 8192 n:=hdep ⟨6,.data⟩ (by simp) rfl _ rfl
       rw [hunf] at hR
       simp only [Bool.false_eq_true,if_false] at hR
       obtain ⟨cs,hcs1,hcs2,hcs3⟩:=hR.1
       refine Zdv (ops:=#[]) rfl (wpList_copy_splice rfl (.tmp 70) (.tmp 73) 22 22 rfl 5 Try.underlying22 (by kernel_rfl) _ _ (n - m) (n - m) 8192 n e70 e73 g m cs 5 hcs1 (List.replicate c (.int .u8 (k:Nat))) (by rw [List.length_replicate];exact hc.symm) (fun _=>⟨rfl,_,rfl,fun j v hj=>by
        have hjc:j < c:=by have:=(List.getElem?_eq_some_iff.1 hj).1;simpa using this
        rw [List.getElem?_replicate,if_pos hjc] at hj
        cases hj
        have e:(⟨g,0,none⟩:Addr).add j = ⟨g,j,none⟩:=by unfold Addr.add;split <;> simp_all
        rw [e]
        exact RepB.cell ⟨cs,hcs1,hcs2,hcs3⟩ hmn' (by omega)⟩) (by rw [List.length_replicate];omega) (by intro v hv;rw [(List.mem_replicate.1 hv).2];rfl) w.heap.size w hR.2 (by rw [HGD.out];exact Nat.le_refl _) ?_)
       intro w4 hg4 hb4
       refine ⟨_,rfl,⟨?_,hb4⟩,fun j u hu hV _=>⟨hV,trivial,trivial⟩,by simp [goInt]⟩
       rw [if_pos (Zag hil)]
       exact ⟨_,hg4.out,Zer cs _ m c hcs2 (by omega),by rw [length_splice cs m _ (by rw [List.length_replicate];omega)];exact hcs3⟩
      ·have e67:a1.eval (.tmp 67) = .int .i64 (m:Nat):=hdep ⟨0,.data⟩ (by simp) rfl _ rfl
       have e74:a1.eval (.tmp 74) = .int .i64 (c:Nat):=hdep ⟨7,.data⟩ (by simp) rfl _ rfl
       refine Zab (v:=.int .i64 ((m + c:Nat):Int)) (w':=w1) (by simp [execOp,e67,e74,eqgA,addI,hw1]) ⟨_,rfl,⟨?_,hR.2⟩,fun j u hu hV _=>⟨hV,trivial,trivial⟩,rfl⟩
       rw [Zaa (by decide)];exact hR.1
      ·have e75:a1.eval (.tmp 75) = .int .i64 ((m + c:Nat):Int):=hdep ⟨8,.data⟩ (by simp) rfl _ rfl
       refine Zab (v:=.int .i64 ((m + c:Nat):Int)) (w':=w1) (by simp [execOp,e75]) ⟨_,rfl,⟨?_,hR.2⟩,fun j u hu hV _=>⟨hV,trivial,trivial⟩,rfl⟩
       rw [Zaa (by decide)];exact hR.1
     ·intro listed f w1 hR hall hV
      have v9:f 10 = .int .i64 ((m + c:Nat):Int):=hV 9 _ rfl rfl
      rw [if_pos (hall 7 (by decide))] at hR
      simp only [spread,List.contains_cons,List.contains_nil,Nat.reduceBEq,Bool.or_false,Bool.or_true,cond_true,cond_false,Nat.reduceAdd,Nat.zero_add,v9]
      go_wp2
      go_roundw
      case rel=>exact ⟨m + c,by omega,hmn,rfl,hR.1,hR.2⟩
      case measure=>simp [intOf];omega
    ·have tm:¬ ((8192:Int) < (m:Int)):=by omega
     obtain ⟨c,hc⟩:∃ c,Nat.min m (n - m) = c:=⟨_,rfl⟩
     have hcc:c = min m (n - m):=hc.symm
     have hmn:m + c <= n:=by omega
     have hcm:c <= m:=by omega
     have hc1:1 <= c:=by omega
     have hcl:∀ w,(Instr.sliceAt 22 (.slice (some ⟨g,0,none⟩) n n) none (some (.int .i64 (m:Nat))) none).run Try.prog w = .ok (.slice (some ⟨g,0,none⟩) m n) w:=fun w=>cutLoB g m n (by omega) w
     have HCUR:=Zh hcur
     have HBEL:=Zh hbel
     have hw1:IntKind.i64.wrap ((m:Int) + (c:Int)) = (m:Int) + (c:Int):=IntWalk.i64_in _ (by omega)
     clear hcur hbel
     go_wp2_with fail
     have hcur:=HCUR.out
     have hbel:=HBEL.out
     refine Zbs [67,68,69,70,71,72,73,74,75,10] (fun j=>j == 9) (fun listed w1=>RepB w1 g n k (if listed.getD 7 false = true then m + c else m) /\ Below w.heap.size w w1) (fun j v _=>match j with | 0=>v = .int .i64 (m:Nat) | 1=>v = .slice (some ⟨g,0,none⟩) n n | 2=>v = .int .i64 (m:Nat) | 3=>v = .slice (some ⟨g,m,none⟩) (n - m) (n - m) | 4=>v = .slice (some ⟨g,0,none⟩) n n | 5=>v = .int .i64 (m:Nat) | 6=>v = .slice (some ⟨g,0,none⟩) m n | 7=>v = .int .i64 (c:Nat) | 8=>v = .int .i64 ((m + c:Nat):Int) | 9=>v = .int .i64 ((m + c:Nat):Int) | _=>True) (fun _ _ _ _=>True) (by kernel_rfl) (by kernel_rfl) (OneEach.mk' (by kernel_rfl) (by kernel_rfl)) (by kernel_rfl) (by kernel_rfl) ⟨by simpa using hcur.drew,belDN hbel 1⟩ ?_ ?_
     ·intro i0 o hi0 listed a1 w1 hR hil hunf hdes hanc hout hold hdep
      have hsz:i0 < 10:=(Array.getElem?_eq_some_iff.1 hi0).1
      have hall:i0 = 0 \/ i0 = 1 \/ i0 = 2 \/ i0 = 3 \/ i0 = 4 \/ i0 = 5 \/ i0 = 6 \/ i0 = 7 \/ i0 = 8 \/ i0 = 9:=by omega
      clear hsz
      rcases hall with rfl | rfl | rfl | rfl | rfl | rfl | rfl | rfl | rfl | rfl <;> simp only [List.getElem?_toArray,List.getElem?_cons_zero,List.getElem?_cons_succ,Option.some.injEq] at hi0 <;> subst hi0
      ·have f10:a1.eval (.tmp 10) = .int .i64 (m:Nat):=hold 9 _ 10 rfl rfl (hdes 9 (by kernel_rfl))
       refine Zab (v:=.int .i64 (m:Nat)) (w':=w1) (by simp [execOp,f10]) ⟨_,rfl,⟨?_,hR.2⟩,fun j u hu hV _=>⟨hV,trivial,trivial⟩,rfl⟩
       rw [Zaa (by decide)];exact hR.1
      ·have f9:a1.eval (.tmp 9) = .slice (some ⟨g,0,none⟩) n n:=hout 9 (by decide)
       refine Zab (v:=.slice (some ⟨g,0,none⟩) n n) (w':=w1) (by simp [execOp,f9]) ⟨_,rfl,⟨?_,hR.2⟩,fun j u hu hV _=>⟨hV,trivial,trivial⟩,rfl⟩
       rw [Zaa (by decide)];exact hR.1
      ·have f10:a1.eval (.tmp 10) = .int .i64 (m:Nat):=hold 9 _ 10 rfl rfl (hdes 9 (by kernel_rfl))
       refine Zab (v:=.int .i64 (m:Nat)) (w':=w1) (by simp [execOp,f10]) ⟨_,rfl,⟨?_,hR.2⟩,fun j u hu hV _=>⟨hV,trivial,trivial⟩,rfl⟩
       rw [Zaa (by decide)];exact hR.1
      ·have e68:a1.eval (.tmp 68) = .slice (some ⟨g,0,none⟩) n n:=hdep ⟨1,.data⟩ (by simp) rfl _ rfl
       have e69:a1.eval (.tmp 69) = .int .i64 (m:Nat):=hdep ⟨2,.data⟩ (by simp) rfl _ rfl
       refine Zab (v:=.slice (some ⟨g,m,none⟩) (n - m) (n - m)) (w':=w1) (by simp [execOp,e68,e69,cutHiB g m n hlt]) ⟨_,rfl,⟨?_,hR.2⟩,fun j u hu hV _=>⟨hV,trivial,trivial⟩,rfl⟩
       rw [Zaa (by decide)];exact hR.1
      ·have f9:a1.eval (.tmp 9) = .slice (some ⟨g,0,none⟩) n n:=hout 9 (by decide)
       refine Zab (v:=.slice (some ⟨g,0,none⟩) n n) (w':=w1) (by simp [execOp,f9]) ⟨_,rfl,⟨?_,hR.2⟩,fun j u hu hV _=>⟨hV,trivial,trivial⟩,rfl⟩
       rw [Zaa (by decide)];exact hR.1
      ·have f11:a1.eval (.tmp 11) = .int .i64 (m:Nat):=hout 11 (by decide)
       refine Zab (v:=.int .i64 (m:Nat)) (w':=w1) (by simp [execOp,f11]) ⟨_,rfl,⟨?_,hR.2⟩,fun j u hu hV _=>⟨hV,trivial,trivial⟩,rfl⟩
       rw [Zaa (by decide)];exact hR.1
      ·have e71:a1.eval (.tmp 71) = .slice (some ⟨g,0,none⟩) n n:=hdep ⟨4,.data⟩ (by simp) rfl _ rfl
       have e72:a1.eval (.tmp 72) = .int .i64 (m:Nat):=hdep ⟨5,.data⟩ (by simp) rfl _ rfl
       refine Zab (v:=.slice (some ⟨g,0,none⟩) m n) (w':=w1) (by simp [execOp,e71,e72,hcl]) ⟨_,rfl,⟨?_,hR.2⟩,fun j u hu hV _=>⟨hV,trivial,trivial⟩,rfl⟩
       rw [Zaa (by decide)];exact hR.1
      ·have e70:a1.eval (.tmp 70) = .slice (some ⟨g,m,none⟩) (n - m) (n - m):=hdep ⟨3,.data⟩ (by simp) rfl _ rfl
       have e73:a1.eval (.tmp 73) = .slice (some ⟨g,0,none⟩) m n:=hdep ⟨6,.data⟩ (by simp) rfl _ rfl
       rw [hunf] at hR
       simp only [Bool.false_eq_true,if_false] at hR
       obtain ⟨cs,hcs1,hcs2,hcs3⟩:=hR.1
       refine Zdv (ops:=#[]) rfl (wpList_copy_splice rfl (.tmp 70) (.tmp 73) 22 22 rfl 5 Try.underlying22 (by kernel_rfl) _ _ (n - m) (n - m) m n e70 e73 g m cs 5 hcs1 (List.replicate c (.int .u8 (k:Nat))) (by rw [List.length_replicate];exact hc.symm) (fun _=>⟨rfl,_,rfl,fun j v hj=>by
        have hjc:j < c:=by have:=(List.getElem?_eq_some_iff.1 hj).1;simpa using this
        rw [List.getElem?_replicate,if_pos hjc] at hj
        cases hj
        have e:(⟨g,0,none⟩:Addr).add j = ⟨g,j,none⟩:=by unfold Addr.add;split <;> simp_all
        rw [e]
        exact RepB.cell ⟨cs,hcs1,hcs2,hcs3⟩ hmn' (by omega)⟩) (by rw [List.length_replicate];omega) (by intro v hv;rw [(List.mem_replicate.1 hv).2];rfl) w.heap.size w hR.2 (by rw [HGD.out];exact Nat.le_refl _) ?_)
       intro w4 hg4 hb4
       refine ⟨_,rfl,⟨?_,hb4⟩,fun j u hu hV _=>⟨hV,trivial,trivial⟩,by simp [goInt]⟩
       rw [if_pos (Zag hil)]
       exact ⟨_,hg4.out,Zer cs _ m c hcs2 (by omega),by rw [length_splice cs m _ (by rw [List.length_replicate];omega)];exact hcs3⟩
      ·have e67:a1.eval (.tmp 67) = .int .i64 (m:Nat):=hdep ⟨0,.data⟩ (by simp) rfl _ rfl
       have e74:a1.eval (.tmp 74) = .int .i64 (c:Nat):=hdep ⟨7,.data⟩ (by simp) rfl _ rfl
       refine Zab (v:=.int .i64 ((m + c:Nat):Int)) (w':=w1) (by simp [execOp,e67,e74,eqgA,addI,hw1]) ⟨_,rfl,⟨?_,hR.2⟩,fun j u hu hV _=>⟨hV,trivial,trivial⟩,rfl⟩
       rw [Zaa (by decide)];exact hR.1
      ·have e75:a1.eval (.tmp 75) = .int .i64 ((m + c:Nat):Int):=hdep ⟨8,.data⟩ (by simp) rfl _ rfl
       refine Zab (v:=.int .i64 ((m + c:Nat):Int)) (w':=w1) (by simp [execOp,e75]) ⟨_,rfl,⟨?_,hR.2⟩,fun j u hu hV _=>⟨hV,trivial,trivial⟩,rfl⟩
       rw [Zaa (by decide)];exact hR.1
     ·intro listed f w1 hR hall hV
      have v9:f 10 = .int .i64 ((m + c:Nat):Int):=hV 9 _ rfl rfl
      rw [if_pos (hall 7 (by decide))] at hR
      simp only [spread,List.contains_cons,List.contains_nil,Nat.reduceBEq,Bool.or_false,Bool.or_true,cond_true,cond_false,Nat.reduceAdd,Nat.zero_add,v9]
      go_wp2
      go_roundw
      case rel=>exact ⟨m + c,by omega,hmn,rfl,hR.1,hR.2⟩
      case measure=>simp [intOf];omega
   ·obtain rfl:m = n:=by omega
    have HB:=Zh hbel
    have HC:=Zh hcur
    have HLT:=(Array.getElem?_eq_some_iff.1 hcur.choose_spec.1).1
    clear hcur hbel
    go_wp2
    go_ret
    refine ⟨_,rfl,⟨by simp,⟨by omega,fun h=>by cases h⟩,.inr ⟨g,0,rfl,HLT,fun i hi=>?_⟩⟩,HB.out⟩
    have hi':i < m:=by simpa using hi
    rw [Nat.zero_add,HC.out.cell (Nat.le_refl _) hi']
    simp
end Go.Proofs.Ytnkpnjnfddjfpaa

namespace Go.Proofs.Ytnkpnjnfddjfpaa
open Go.RowKit Go.Shelf M01 M02 M27
def RowMay (w:World) (R:Option (List Nat)) (e:Ending) (w':World):Prop :=
 Below w.heap.size w w' /\ match R with
 | some l=>∃ a c,e = .returned (.tuple #[.slice a l.length c,.int .i64 0]) /\ OwnN 5 .u8 w' w.heap.size a c l
 | none=>e = .returned (.tuple #[.slice none 0 0,.int .i64 2])
theorem RowMay.none {w w':World} {R:Option (List Nat)} (hR:R = none) (h:Below w.heap.size w w'):RowMay w R (.returned (.tuple #[.slice none 0 0,.int .i64 2])) w':=by
 subst hR;exact ⟨h,rfl⟩
theorem RowMay.some {w w':World} {R:Option (List Nat)} {l:List Nat} {a:Option Addr} {c:Nat} (hR:R = some l) (h:Below w.heap.size w w') (ho:OwnN 5 .u8 w' w.heap.size a c l):RowMay w R (.returned (.tuple #[.slice a l.length c,.int .i64 0])) w':=by
 subst hR;exact ⟨h,a,c,rfl,ho⟩
theorem Ztj {l:List Nat} (h:rising l = true):∀ i (hi:i + 1 < l.length),l[i] < l[i + 1]:=by
 induction l with
 | nil=>intro i hi;simp at hi
 | cons a l ih =>
  cases l with
  | nil=>intro i hi;simp at hi
  | cons b l =>
   simp only [rising,Bool.and_eq_true,decide_eq_true_eq] at h
   intro i hi
   cases i with
   | zero=>exact h.1
   | succ i=>exact ih h.2 i (by simpa using hi)
theorem Ziz {l:List Nat} {i:Nat} (hi:i < l.length):l.drop i = l[i] :: l.drop (i + 1):=List.drop_eq_getElem_cons hi
theorem FrSt.belowAt {w w':World} {lb g cap n:Nat} {l:List Nat} (h:FrSt w lb g cap l) (hb:Below n w w') (h1:lb < n) (h2:g < n):FrSt w' lb g cap l:=by
 obtain ⟨hl,ho,hne⟩:=h
 refine ⟨(hb.block lb h1).trans hl,?_,hne⟩
 refine ⟨ho.1,?_⟩
 rcases ho.2 with e | ⟨g',c,cur,e1,e2,e3,e4⟩
 ·exact .inl e
 ·simp only [Value.slice.injEq,Option.some.injEq,Addr.mk.injEq,and_true,true_and] at e1
  obtain ⟨rfl,rfl⟩:=e1
  exact .inr ⟨g,cap,cur,rfl,e2,(hb.block g h2).trans e3,e4⟩
theorem Zpr {l:List Nat} (h:l ≠ []):∃ x,l.getD 0 0 = x /\ toFront l 0 = l:=by
 cases l with
 | nil=>exact absurd rfl h
 | cons a l=>exact ⟨a,rfl,by simp [toFront]⟩
set_option maxRecDepth 100000 in
set_option maxHeartbeats 12800000 in
theorem Zse (w:World) (ua sa:Option Addr) (ucap scap:Nat) (used symbols:List Nat) (most:Nat) (hu:RowN .u8 w ua ucap used) (hs:RowN .i64 w sa scap symbols)
  (hu0:used ≠ []) (hur:rising used = true) (hu256:used.length <= 256) (hsl:symbols.length <= 100000000) (hm:most <= 900000) :
  Calls Try.prog 122 #[.slice ua used.length ucap,.slice sa symbols.length scap,.int .i64 (most:Nat)] w fun e w'=>RowMay w (frontG used symbols most) e w':=by
 obtain ⟨R,hR0⟩:∃ R,R = frontG used symbols most:=⟨_,rfl⟩
 rw [<- hR0]
 have HR0:Hid (R = frL used most symbols used [] 1):=hR0
 have hul:0 < used.length:=List.length_pos_iff.2 hu0
 have HU0:=Zh hu0
 have HS:=Zh hs
 have HRI:=Zh (Ztj hur)
 have t1:((used.length:Int) == 0) = false:=by simp;omega
 have t2:decide ((most:Int) < 0) = false:=by simp
 have t3:decide ((900000:Int) < (most:Int)) = false:=by simp;omega
 clear hR0 hs hu0 hur
 go_enter Try.func122,Try.ntmps122
 go_wp2_with fail
 go_loopw [8] (fun iv A=>∃ i:Nat,iv = .int .i64 (i:Nat) /\ 1 <= i /\ i <= used.length /\ ∃ q,A = w.drewN q) (fun iv _=>used.length - (intOf iv).toNat)
 case atStart=>exact ⟨1,rfl,by omega,hul,0,rfl⟩
 case round =>
  obtain ⟨i,rfl,hi1,hi2,q,rfl⟩:=hrel
  by_cases hlt:i < used.length
  ·have t4:decide (i < used.length) = true:=decide_eq_true hlt
   have hc:=HRI.out (i - 1) (by omega)
   obtain ⟨b,off,rfl,hb,c1⟩:=hu.at (i:=i - 1) (by omega)
   obtain ⟨b',off',hb',_,c2⟩:=hu.at hlt
   obtain ⟨j,rfl⟩:∃ j,i = j + 1:=⟨i - 1,by omega⟩
   simp only [Option.some.injEq,Addr.mk.injEq,and_true] at hb'
   obtain ⟨rfl,rfl⟩:=hb'
   simp only [Nat.add_sub_cancel] at hc c1
   generalize used[j + 1] = y at *
   generalize used[j] = x at *
   have t5:decide ((y:Int) <= (x:Int)) = false:=by simp;omega
   have t6:IntKind.i64.wrap (((j + 1:Nat):Int) - 1) = (j:Int):=by rw [IntWalk.i64_in _ (by omega)];omega
   have t7:(((j + 1:Nat):Int) - 1) = (j:Int):=by omega
   have t8:(j:Int) < (used.length:Int):=by omega
   have t9:((j:Int) + 1) < (used.length:Int):=by omega
   have t10:IntKind.i64.wrap ((j:Int) + 1) = (j:Int) + 1:=IntWalk.i64_in _ (by omega)
   go_wp2_with fail
   go_quiet (fail)
   go_wp2
   go_roundw
   case rel=>exact ⟨j + 1 + 1,by go_num,by omega,by omega,q + nq,rfl⟩
   case measure=>simp [intOf];omega
  ·obtain rfl:i = used.length:=by omega
   have t4:decide (used.length < used.length) = false:=by simp
   have HD:=Zh (Zah (fun _=>False) w q)
   have HB:=Zh (belDN (Below.refl w.heap.size w) q)
   have hu2:=hu.drewN q
   have HS2:=Zh (HS.out.drewN q)
   have hsz:(w.drewN q).heap.size = w.heap.size:=rfl
   clear hu HRI hi2 hi1 HD
   generalize w.drewN q = w1 at *
   go_wp2_with fail
   refine (Zvl w1 ua ucap used hu2 (by omega) HU0.out).mono ?_
   rintro e w2 ⟨f0,lb,g,c',rfl,hfr,hb2,hlb,hg⟩
   have HFR:=Zh hfr
   have HB2:=Zh (HB.out.trans (hb2.mono (by rw [hsz];exact Nat.le_refl _)))
   have hlb2:lb < w2.heap.size:=(Array.getElem?_eq_some_iff.1 hfr.1).1
   have hg2:g < w2.heap.size:=by
    obtain ⟨_,h,_⟩:=hfr.take
    exact (Array.getElem?_eq_some_iff.1 h).1
   have hww:w.heap.size <= w2.heap.size:=HB2.out.size
   obtain ⟨B0,hB0⟩:∃ B0,w2.heap.size = B0:=⟨_,rfl⟩
   simp only [hB0] at hlb2 hg2 hww
   have HB0:=Zh hB0
   rw [hsz] at hlb hg
   clear hfr hb2 HB HS2 hu2 hB0 hsz t1 t2 t3 t4
   have hwe:IntKind.i64.wrap ((used.length:Int) + 1) = (used.length:Int) + 1:=IntWalk.i64_in _ (by omega)
   obtain ⟨E,hE⟩:∃ E,used.length + 1 = E:=⟨_,rfl⟩
   have hwe2:(used.length:Int) + 1 = (E:Int):=by omega
   rw [hwe2] at hwe
   go_wp2_with fail
   go_loopw [12,13,55] (fun ov wv iv A=>∃ (i:Nat) (out l:List Nat) (worth:Nat) (a':Option Addr) (c2:Nat),iv = .int .i64 (i:Nat) /\ wv = .int .i64 (worth:Nat) /\ ov = .slice a' out.length c2 /\ i <= symbols.length /\ out.length <= most /\ 1 <= worth /\ worth <= 1800001 /\ l.length = used.length /\ OwnN 5 .u8 A B0 a' c2 out /\ FrSt A lb g c' l /\ Below w.heap.size w A /\ B0 <= A.heap.size /\ Hid ((i < symbols.length -> R = frL used most (symbols.drop i) l out worth) /\ (i = symbols.length -> 0 < symbols.length -> R = some out))) (fun _ _ iv _=>symbols.length - (intOf iv).toNat)
   case atStart=>exact ⟨0,[],used,1,none,0,rfl,rfl,rfl,by omega,by simp,by omega,by omega,rfl,OwnN.nil _ _ _ _,HFR.out,HB2.out,by rw [HB0.out];exact Nat.le_refl _,⟨fun _=>HR0.out,fun h1 h2=>absurd h1 (by omega)⟩⟩
   case round =>
    clear HFR HB2 HB0
    obtain ⟨i,out,l,worth,a1,c1,rfl,rfl,rfl,hi,hol,hw0,hwo,hll,how,hfr,hbw,hzA,HE⟩:=hrel
    have HW:=Zh how
    have HFR:=Zh hfr
    have HBW:=Zh hbw
    clear how hfr hbw
    by_cases hlt:i < symbols.length
    ·have t0:decide (i < symbols.length) = true:=decide_eq_true hlt
     have hE1:=HE.out.1 hlt
     rw [Ziz hlt] at hE1
     obtain ⟨sb,soff,rfl,hsb,hsc⟩:=(HS.out.below HBW.out).at hlt
     generalize symbols[i] = s at *
     have hrr:(symbols.drop (i + 1) = []) ↔ i + 1 = symbols.length:=by
      rw [List.drop_eq_nil_iff];omega
     unfold frL at hE1
     rw [hE] at hE1
     have HE1:=Zh hE1
     have HRR:=Zh hrr
     obtain ⟨N,hNN⟩:∃ N,symbols.length = N:=⟨_,rfl⟩
     have HNN:=Zh hNN
     rw [hNN] at t0 hlt hi hsl ⊢
     have hw1:IntKind.i64.wrap ((N:Int) - 1) = (N:Int) - 1:=IntWalk.i64_in _ (by omega)
     have hii:IntKind.i64.wrap ((i:Int) + 1) = ((i + 1:Nat):Int):=by rw [IntWalk.i64_in _ (by omega)];omega
     have hii2:(i:Int) + 1 = ((i + 1:Nat):Int):=by omega
     clear HE hE1 hrr hNN
     have f1:decide ((s:Int) < 0) = false:=by simp
     by_cases hs1:E < s
     ·have f2:decide ((E:Int) < (s:Int)) = true:=by simp;omega
      have HR:Hid (R = none):=by unfold Hid;rw [HE1.out,if_pos (.inl hs1)]
      clear HE1
      go_wp2
      go_ret2
      exact RowMay.none HR.out HBW.out
     have f2:decide ((E:Int) < (s:Int)) = false:=by simp;omega
     by_cases hlast:i + 1 = N
     ·have f4:((i:Int) == (N:Int) - 1) = true:=by simp;omega
      by_cases hse:s = E
      ·have f3:((s:Int) == (E:Int)) = true:=by simp [hse]
       have f5:((s:Int) == 1) = false:=by simp;omega
       have f6:((s:Int) == 0) = false:=by simp;omega
       have f7:decide ((s:Int) < (E:Int)) = false:=by simp;omega
       have f8:IntKind.i64.wrap ((most:Int) - (out.length:Int)) = (most:Int) - (out.length:Int):=IntWalk.i64_in _ (by omega)
       have f9:decide ((most:Int) - (out.length:Int) < 0) = false:=by simp;omega
       have f10:decide ((most:Int) < (out.length:Int)) = false:=by simp;omega
       have HR:Hid (R = some out):=by
        unfold Hid
        rw [HE1.out,if_neg (by rw [hse,HRR.out,HNN.out];simp [hlast]),if_neg (by omega),if_pos hse,if_neg (by omega)]
       clear HE1
       go_wp2
       go_roundw
       case rel=>exact ⟨i + 1,out,l,worth,a1,c1,by go_num,rfl,rfl,by omega,hol,hw0,hwo,hll,HW.out,HFR.out,HBW.out,hzA,⟨fun h=>absurd h (by omega),fun _ _=>HR.out⟩⟩
       case measure=>simp [intOf];omega
      ·have f3:((s:Int) == (E:Int)) = false:=by simp;omega
       have HR:Hid (R = none):=by
        unfold Hid
        rw [HE1.out,if_pos (.inr (by rw [HRR.out,HNN.out];simp [hlast,hse]))]
       clear HE1
       go_wp2
       go_ret2
       exact RowMay.none HR.out HBW.out
     have f4:((i:Int) == (N:Int) - 1) = false:=by simp;omega
     by_cases hse:s = E
     ·have f3:((s:Int) == (E:Int)) = true:=by simp [hse]
      have HR:Hid (R = none):=by
       unfold Hid
       rw [HE1.out,if_pos (.inr (by rw [HRR.out,HNN.out];simp [hlast,hse]))]
      clear HE1
      go_wp2
      go_ret2
      exact RowMay.none HR.out HBW.out
     have f3:((s:Int) == (E:Int)) = false:=by simp;omega
     rw [if_neg (by rw [HRR.out,HNN.out];simp [hlast,hse];omega)] at HE1
     have f7:decide ((s:Int) < (E:Int)) = true:=by simp;omega
     have f8:IntKind.i64.wrap ((most:Int) - (out.length:Int)) = (most:Int) - (out.length:Int):=IntWalk.i64_in _ (by omega)
     by_cases hs2:s <= 1
     ·rw [if_pos hs2] at HE1
      obtain ⟨m,hm1⟩:∃ m,worth * (s + 1) = m:=⟨_,rfl⟩
      rw [hm1] at HE1
      have hm0:m <= 2 * worth /\ 0 < m:=⟨by rw [<- hm1,Nat.mul_comm];exact Nat.mul_le_mul_right _ (by omega),by rw [<- hm1];exact Nat.mul_pos (by omega) (by omega)⟩
      have hm2:(s = 0 /\ m = worth) \/ (s = 1 /\ m = 2 * worth):=by
       rcases (by omega:s = 0 \/ s = 1) with rfl | rfl
       ·exact .inl ⟨rfl,by omega⟩
       ·exact .inr ⟨rfl,by omega⟩
      have g1:IntKind.i64.wrap (worth:Int) = (worth:Int):=IntWalk.i64_in _ (by omega)
      have g2:IntKind.i64.wrap ((worth:Int) * 2) = ((2 * worth:Nat):Int):=by rw [IntWalk.i64_in _ (by omega)];omega
      have g3:IntKind.i64.wrap ((worth:Int) + (worth:Int)) = ((2 * worth:Nat):Int):=by rw [IntWalk.i64_in _ (by omega)];omega
      have g4:((worth:Int) * 2) = ((2 * worth:Nat):Int):=by omega
      have g5:((worth:Int) + (worth:Int)) = ((2 * worth:Nat):Int):=by omega
      have hgt:0 < 2 * worth:=by omega
      have hwb:2 * worth <= 3600002:=by omega
      have q1:decide ((E:Int) < 0) = false:=by simp
      have q2:decide ((E:Int) < 1) = false:=by simp;omega
      have q3:((0:Int) == (E:Int)) = false:=by simp;omega
      have q4:((1:Int) == (E:Int)) = false:=by simp;omega
      obtain ⟨x0,hx0,htf⟩:=Zpr (l:=l) (by intro e;rw [e] at hll;simp at hll;omega)
      rw [hx0] at HE1
      obtain ⟨Lw,hLw⟩:∃ Lw,2 * worth = Lw:=⟨_,rfl⟩
      rw [hLw] at g2 g3 g4 g5 hgt hwb hm2 HE1
      have HLw:=Zh hLw
      clear hLw hm1 HRR
      by_cases hbig:most < out.length + m
      ·have HR:Hid (R = none):=by unfold Hid;rw [HE1.out,if_pos hbig]
       have f9:decide ((most:Int) - (out.length:Int) < (m:Int)) = true:=by simp;omega
       clear HE1
       rcases hm2 with ⟨rfl,rfl⟩ | ⟨rfl,rfl⟩
       ·go_wp2
        go_ret2
        exact RowMay.none HR.out HBW.out
       ·go_wp2
        go_ret2
        exact RowMay.none HR.out HBW.out
      ·rw [if_neg hbig] at HE1
       have f9:decide ((most:Int) - (out.length:Int) < (m:Int)) = false:=by simp;omega
       have f10:decide ((most:Int) < (out.length:Int)) = false:=by simp;omega
       have f11:decide ((0:Int) < (m:Int)) = true:=by simp;omega
       have HAT:=Zh (Zsb wr lb g c' l 0 (by omega) (by omega) HFR.out)
       rw [hx0,htf] at HAT
       have hmm:m <= 1000000:=by omega
       rcases hm2 with ⟨rfl,hmw⟩ | ⟨rfl,hmw⟩
       ·subst hmw
        go_wp2_with (refine HAT.out.mono ?_;rintro e w5 ⟨rfl,hls5,ho5⟩;have HLS5:=Zh hls5;have HO5:=Zh ho5;clear hls5 ho5 HAT)
        have hz5:=HO5.out.size
        have hcx:(w5.alloc (.cells #[.int .u8 (x0:Nat)] 5)).cell? ⟨w5.heap.size,0,none⟩ = some (.int .u8 (x0:Nat)):=cell_of_one (World.alloc_heap_new _ _)
        refine (Zdj m x0 w5.heap.size hmm _ hcx (by simp)).mono ?_
        rintro e w6 ⟨a6,rfl,hr6,hb6⟩
        have HR6:=Zh hr6
        have hb6':=(Zai w5 (.cells #[.int .u8 (x0:Nat)] 5)).trans (hb6.mono (by simp))
        have hz6:=hb6'.size
        have HB6:=Zh hb6'
        have HW6:=Zh ((HW.out.only HO5.out (fun b hb=>by show b ≠ g;omega)).below HB6.out)
        have HWB:=Zh hwb
        have HM:=Zh hm
        have HWO:=Zh hwo
        have HSL:=Zh hsl
        have hol3:out.length + m <= most:=by omega
        have hol4:=Zh (show out.length + m <= 9223372036854775807 by omega)
        have hol5:=Zh (show (out.length + m) * 1 <= 140737488355328 by omega)
        clear hr6 hb6 hb6' hcx hmm hwb hm hwo hsl
        go_wp2_with (at_builtin;refine appAnyN Zbl rfl (.tmp 120) (.tmp 124) rfl (base:=B0) (m:=m) (l:=out) (ys:=List.replicate m x0) rfl HW6.out (List.length_replicate ..).symm rfl HR6.out hol4.out hol5.out (by omega) ?_;intro a7 c7 w7 ho7 hg7 hb7;have HO7:=Zh ho7;have HB7:=Zh hb7;have hz7:=hb7.size;clear ho7 hb7 hg7 g1 g2 g3 g4 g5 hgt f8 f9 f10 f11 q1 q2 q3 q4 f1 f2 f3 f4 hw1 hu256 hwe hwe2 hii2)
        have hol2:(out ++ List.replicate m x0).length = out.length + m:=by rw [List.length_append,List.length_replicate]
        go_roundw
        case rel=>exact ⟨i + 1,out ++ List.replicate m x0,l,Lw,a7,c7,by go_num,rfl,by rw [hol2],by omega,by rw [hol2];omega,by have:=HLw.out;omega,by have:=HLw.out;have:=HM.out;omega,hll,HO7.out,(HLS5.out.belowAt HB6.out (by omega) (by omega)).belowAt HB7.out hlb2 hg2,((Below.only HBW.out HO5.out (Nat.le_refl _) (fun b hb=>by show w.heap.size <= b;omega)).trans (HB6.out.mono (by omega))).trans (HB7.out.mono hww),by omega,⟨fun _=>HE1.out,fun h1 h2=>absurd h1 (by omega)⟩⟩
        case measure=>simp [intOf];omega
       ·subst hmw
        go_wp2_with (refine HAT.out.mono ?_;rintro e w5 ⟨rfl,hls5,ho5⟩;have HLS5:=Zh hls5;have HO5:=Zh ho5;clear hls5 ho5 HAT)
        have hz5:=HO5.out.size
        have hcx:(w5.alloc (.cells #[.int .u8 (x0:Nat)] 5)).cell? ⟨w5.heap.size,0,none⟩ = some (.int .u8 (x0:Nat)):=cell_of_one (World.alloc_heap_new _ _)
        refine (Zdj m x0 w5.heap.size hmm _ hcx (by simp)).mono ?_
        rintro e w6 ⟨a6,rfl,hr6,hb6⟩
        have HR6:=Zh hr6
        have hb6':=(Zai w5 (.cells #[.int .u8 (x0:Nat)] 5)).trans (hb6.mono (by simp))
        have hz6:=hb6'.size
        have HB6:=Zh hb6'
        have HW6:=Zh ((HW.out.only HO5.out (fun b hb=>by show b ≠ g;omega)).below HB6.out)
        have HWB:=Zh hwb
        have HM:=Zh hm
        have HWO:=Zh hwo
        have HSL:=Zh hsl
        have hol3:out.length + m <= most:=by omega
        have hol4:=Zh (show out.length + m <= 9223372036854775807 by omega)
        have hol5:=Zh (show (out.length + m) * 1 <= 140737488355328 by omega)
        clear hr6 hb6 hb6' hcx hmm hwb hm hwo hsl
        go_wp2_with (at_builtin;refine appAnyN Zbl rfl (.tmp 120) (.tmp 124) rfl (base:=B0) (m:=m) (l:=out) (ys:=List.replicate m x0) rfl HW6.out (List.length_replicate ..).symm rfl HR6.out hol4.out hol5.out (by omega) ?_;intro a7 c7 w7 ho7 hg7 hb7;have HO7:=Zh ho7;have HB7:=Zh hb7;have hz7:=hb7.size;clear ho7 hb7 hg7 g1 g2 g3 g4 g5 hgt f8 f9 f10 f11 q1 q2 q3 q4 f1 f2 f3 f4 hw1 hu256 hwe hwe2 hii2)
        have hol2:(out ++ List.replicate m x0).length = out.length + m:=by rw [List.length_append,List.length_replicate]
        go_roundw
        case rel=>exact ⟨i + 1,out ++ List.replicate m x0,l,m,a7,c7,by go_num,rfl,by rw [hol2],by omega,by rw [hol2];omega,by have:=HLw.out;omega,by have:=HLw.out;have:=HM.out;omega,hll,HO7.out,(HLS5.out.belowAt HB6.out (by omega) (by omega)).belowAt HB7.out hlb2 hg2,((Below.only HBW.out HO5.out (Nat.le_refl _) (fun b hb=>by show w.heap.size <= b;omega)).trans (HB6.out.mono (by omega))).trans (HB7.out.mono hww),by omega,⟨fun _=>HE1.out,fun h1 h2=>absurd h1 (by omega)⟩⟩
        case measure=>simp [intOf];omega
     ·have hs3:2 <= s:=by omega
      rw [if_neg hs2,if_neg hse] at HE1
      have q5:((s:Int) == 1) = false:=by simp;omega
      have q6:((s:Int) == 0) = false:=by simp;omega
      obtain ⟨k,hk⟩:∃ k,s = k + 1:=⟨s - 1,by omega⟩
      have q7:IntKind.i64.wrap ((s:Int) - 1) = (k:Int):=by rw [IntWalk.i64_in _ (by omega)];omega
      have q8:((s:Int) - 1) = (k:Int):=by omega
      have hkl:k < l.length:=by omega
      have HAT:=Zh (Zsb wr lb g c' l k hkl (by omega) HFR.out)
      rw [show s - 1 = k by omega] at HE1
      clear hk
      have htl:=Zif l k hkl
      generalize l.getD k 0 = y at *
      have f10:decide ((most:Int) < (out.length:Int)) = false:=by simp;omega
      generalize htf:toFront l k = l2 at *
      rw [hll] at htl
      clear hii2
      go_wp2_with fail
      refine HAT.out.mono ?_
      rintro e w5 ⟨rfl,hls5,ho5⟩
      have HLS5:=Zh hls5
      have HO5:=Zh ho5
      have hz5:=ho5.size
      have hz6:=Nat.le_trans hzA hz5
      have HW5:=Zh (HW.out.only ho5 (fun b hb=>by show b ≠ g;omega))
      by_cases hbig:most < out.length + 1
      ·have HR:Hid (R = none):=by unfold Hid;rw [HE1.out,if_pos hbig]
       have hol4:=Zh (show out.length + 1 <= 9223372036854775807 by omega)
       have hol5:=Zh (show (out.length + 1) * 1 <= 140737488355328 by omega)
       have p1:IntKind.i64.wrap ((most:Int) - ((out.length + 1:Nat):Int)) = (most:Int) - ((out.length + 1:Nat):Int):=IntWalk.i64_in _ (by omega)
       have p2:decide ((most:Int) - ((out.length + 1:Nat):Int) < 0) = true:=by simp;omega
       have p3:IntKind.i64.wrap ((most:Int) - ((out.length:Int) + 1)) = (most:Int) - ((out.length:Int) + 1):=IntWalk.i64_in _ (by omega)
       have p4:decide ((most:Int) - ((out.length:Int) + 1) < 0) = true:=by simp;omega
       have HM:=Zh hm
       have HWO:=Zh hwo
       have HSL:=Zh hsl
       clear hm hwo hsl hls5 ho5 HAT HE1 f8
       go_wp2_with (at_builtin;refine app1N Zbl rfl (.tmp 97) (.tmp 102) rfl (y:=y) (l:=out) (base:=B0) rfl HW5.out rfl (Nat.le_refl _) (by decide) hol4.out hol5.out hz6 ?_;intro a7 c7 w7 ho7 hg7 hb7;have HB7:=Zh hb7;clear ho7 hb7 hg7)
       go_ret2
       exact RowMay.none HR.out ((Below.only HBW.out HO5.out (Nat.le_refl _) (fun b hb=>by show w.heap.size <= b;omega)).trans (HB7.out.mono hww))
      ·rw [if_neg hbig] at HE1
       have hol4:=Zh (show out.length + 1 <= 9223372036854775807 by omega)
       have hol5:=Zh (show (out.length + 1) * 1 <= 140737488355328 by omega)
       have p1:IntKind.i64.wrap ((most:Int) - ((out.length + 1:Nat):Int)) = (most:Int) - ((out.length + 1:Nat):Int):=IntWalk.i64_in _ (by omega)
       have p2:decide ((most:Int) - ((out.length + 1:Nat):Int) < 0) = false:=by simp;omega
       have p3:IntKind.i64.wrap ((most:Int) - ((out.length:Int) + 1)) = (most:Int) - ((out.length:Int) + 1):=IntWalk.i64_in _ (by omega)
       have p4:decide ((most:Int) - ((out.length:Int) + 1) < 0) = false:=by simp;omega
       have p5:decide ((most:Int) < ((out.length + 1:Nat):Int)) = false:=by simp;omega
       have p6:decide ((most:Int) < (out.length:Int) + 1) = false:=by simp;omega
       have HM:=Zh hm
       have HWO:=Zh hwo
       have HSL:=Zh hsl
       clear hm hwo hsl hls5 ho5 HAT f8
       go_wp2_with (at_builtin;refine app1N Zbl rfl (.tmp 97) (.tmp 102) rfl (y:=y) (l:=out) (base:=B0) rfl HW5.out rfl (Nat.le_refl _) (by decide) hol4.out hol5.out hz6 ?_;intro a7 c7 w7 ho7 hg7 hb7;have HO7:=Zh ho7;have HB7:=Zh hb7;have hz7:=hb7.size;clear ho7 hb7 hg7)
       have hol2:(out ++ [y]).length = out.length + 1:=by rw [List.length_append];rfl
       go_roundw
       case rel=>exact ⟨i + 1,out ++ [y],l2,1,a7,c7,by go_num,rfl,by rw [hol2],by omega,by rw [hol2];omega,by omega,by omega,htl,HO7.out,HLS5.out.belowAt HB7.out hlb2 hg2,(Below.only HBW.out HO5.out (Nat.le_refl _) (fun b hb=>by show w.heap.size <= b;omega)).trans (HB7.out.mono hww),by omega,⟨fun _=>HE1.out,fun h1 h2=>absurd h1 (by omega)⟩⟩
       case measure=>simp [intOf];omega
    ·obtain rfl:i = symbols.length:=by omega
     have t0:decide (symbols.length < symbols.length) = false:=by simp
     by_cases hn0:symbols.length = 0
     ·have t5:((symbols.length:Int) == 0) = true:=by simp [hn0]
      have HR:Hid (R = none):=by
       unfold Hid
       have e:symbols = []:=List.length_eq_zero_iff.1 hn0
       rw [HR0.out,e]
       rfl
      clear hn0 HE
      go_wp2
      go_ret2
      exact RowMay.none HR.out HBW.out
     ·have t5:((symbols.length:Int) == 0) = false:=by simp only [beq_eq_false_iff_ne,ne_eq];omega
      have HR:Hid (R = some out):=HE.out.2 rfl (by omega)
      clear hn0 HE
      go_wp2
      go_ret2
      exact RowMay.some HR.out HBW.out (HW.out.mono hww)
end Go.Proofs.Ytnkpnjnfddjfpaa

namespace Go.Proofs.Ytnkpnjnfddjfpaa
theorem Zmh {l n:Nat} {P:Program} {row:String} {args:Array Value} {w:World} {R:Value -> World -> Prop} (h:Rows P row args w R):RowsIn (Fence.wide.inRound l) n P row args w R:=by
 intro c cs _
 obtain ⟨v,w',hr,hs⟩:=h c cs
 exact ⟨v,w',hr,stepsIn_wide.2 hs⟩
theorem Zee {l n:Nat} {P:Program} {o:Oper} {a:Act} {w:World} {next:Act -> World -> Prop} {Q:Exit -> Act -> World -> Prop} (hd:∀ c,o.op ≠ .defer c) (h:o.wp P a w next Q):o.wpIn (Fence.wide.inRound l) n P a w next Q:=by
 unfold Oper.wp at h
 refine ⟨fun f _=>trivial,?_⟩
 rw [Oper.semAt_plain _ _ _ hd]
 generalize (execOp a.eval o).run P w = r at *
 cases r with
 | ok x w' =>
  cases x <;> simp only [Oper.upon,Oper.uponIn] at h ⊢ <;> try exact h
  ·exact ⟨fun h0=>(by cases h0),callsIn_wide.2 h⟩
  ·exact ⟨fun h0=>(by cases h0),Zmh h⟩
 | halt x w'=>cases x <;> simp only [Oper.upon,Oper.uponIn] at h ⊢ <;> exact h
def noDefer (ops:Array Oper):Bool:=ops.all fun o=>match o.op with | .defer _=>false | _=>true
theorem Zpw {ops:Array Oper} (h:noDefer ops = true) {i:Nat} {o:Oper} (ho:ops[i]? = some o):∀ c,o.op ≠ .defer c:=by
 intro c hc
 unfold noDefer at h
 rw [Array.all_eq_true_iff_forall_mem] at h
 have:=h o (Array.mem_of_getElem? ho)
 rw [hc] at this
 cases this
theorem Zci {l n:Nat} {P:Program} {ops:Array Oper} {Q:Exit -> Act -> World -> Prop} {md:Region.Mode} (hQ:¬ LetsOut Q) (hd:noDefer ops = true) :
  ∀ (fuel:Nat) (listed:Array Bool) (a:Act) (w:World),wpAny P md ops Q fuel listed a w -> wpAnyIn (Fence.wide.inRound l) n P md ops Q fuel listed a w
 | 0,listed,a,w,h=>h
 | fuel + 1,listed,a,w,h=>by
  refine ⟨h.1,fun i hi=>?_⟩
  have h2:=h.2 i hi
  unfold wpOp at h2
  unfold wpOpIn
  cases ho:ops[i]? with
  | none=>rw [ho] at h2;exact Zci hQ hd fuel _ _ _ h2
  | some o =>
   rw [ho] at h2
   simp only at h2 ⊢
   split
   ·rename_i hw
    rw [if_pos hw] at h2
    rcases h2 with h2 | h2
    ·exact Oper.wpIn_mono (fun a w=>Zci hQ hd fuel _ a w) (Zee (Zpw hd ho) h2)
    ·exact absurd h2.2 hQ
   ·rename_i hw
    rw [if_neg hw] at h2
    exact ⟨fun f _=>trivial,Zci hQ hd fuel _ _ _ h2⟩
theorem Zbv {y n:Nat} {P:Program} {Q:Exit -> Act -> World -> Prop} {o:Oper} {a:Act} {w w':World} {K:Act -> World -> Prop} {v:Value} (hd:∀ c,o.op ≠ .defer c)
  (hr:(execOp a.eval o).run P w = .ok (.value v) w') (h:K (a.put o.dst v) w'):Oper.wpIn (Fence.wide.inRound y) n P o a w K Q:=Zee hd (by unfold Oper.wp;rw [hr];exact h)
theorem Znp {y n:Nat} {P:Program} {Q:Exit -> Act -> World -> Prop} {o:Oper} {a:Act} {w w':World} {K:Act -> World -> Prop} (hd:∀ c,o.op ≠ .defer c)
  (hr:(execOp a.eval o).run P w = .ok .skip w') (h:K (a.put o.dst undef) w'):Oper.wpIn (Fence.wide.inRound y) n P o a w K Q:=Zee hd (by unfold Oper.wp;rw [hr];exact h)
open Go.RowKit in
theorem app1Eq {P:Program} {T E:TypeId} {k:IntKind} {bytes:Nat} (et:ElemTy P T E k bytes) {w:World} {base:Nat} {a:Option Addr} {cap n:Nat} {l:List Nat} (y:Nat) {E':TypeId} (ty:TypeId) (hown:OwnN E k w base a cap l) (hnl:n = l.length)
  (hn:n + 1 <= 9223372036854775807) (hbytes:(n + 1) * bytes <= 140737488355328) (hbase:base <= w.heap.size) :
  ∃ a' cap' w',OwnN E k w' base a' cap' (l ++ [y]) /\ Below base w w' /\ w.grownBy w' (Value.slice a n cap).ownBlock ∧
   (Builtin.append_ #[T,T] ty #[.slice a n cap,.slice (some ⟨w.heap.size,0,none⟩) 1 1]).run P (w.alloc (.cells #[.int k y] E')) = .ok (.slice a' (n + 1) cap') w' ∧
   ∀ (ac:Act) (o:Oper) (s x:Operand),o.op = .call { callee:=.builtin .append,args:=#[s,x],argTypes:=#[T,T] } -> o.type = ty -> ac.eval s = .slice a n cap -> ac.eval x = .slice (some ⟨w.heap.size,0,none⟩) 1 1 →
    (execOp ac.eval o).run P (w.alloc (.cells #[.int k y] E')) = .ok (.value (.slice a' (n + 1) cap')) w':=by
 subst hnl
 obtain ⟨i,h2,h3,h4,h5⟩:=info_parts et.info
 have hy:RowN k (w.alloc (.cells #[.int k y] E')) (some ⟨w.heap.size,0,none⟩) 1 [y]:=by
  refine ⟨by simp,⟨by decide,fun hn=>by cases hn⟩,.inr ⟨w.heap.size,0,rfl,by simp,fun i hi=>?_⟩⟩
  obtain rfl:i = 0:=by simp at hi;omega
  simp [World.cell?_alloc_at]
 obtain ⟨v',w',hr,h6,h7,h8,h9⟩:=run_append_own_at (P:=P) (w.alloc (.cells #[.int k y] E')) base T ty E i (.int k 0) 1 bytes et.und h2 h3 h4 h5 rfl (by decide) _ l.length _ (hown.alloc (.cells #[.int k y] E')) ⟨w.heap.size,0,none⟩ 1 1 ([y].map fun (n:Nat)=>Value.int k n) (by simp)
  (Zbi hy _ rfl) (by intro u hu;simp only [List.mem_map] at hu;obtain ⟨n,_,rfl⟩:=hu;rfl) (by simpa [maxLen] using hn) hbytes (by simp;omega)
 have hv:∃ a' cap',v' = .slice a' (l.length + 1) cap':=by
  rcases h6.2 with ⟨h9,h10⟩ | ⟨g,c',cur,h9,_⟩
  ·exact ⟨none,0,by rw [h9,h10]⟩
  ·exact ⟨_,_,h9⟩
 obtain ⟨a',cap',rfl⟩:=hv
 have hown':OwnN E k w' base a' cap' (l ++ [y]):=by
  unfold OwnN;rw [List.length_append,List.map_append];exact h6
 have hg:w.grownBy w' (Value.slice a l.length cap).ownBlock:=⟨h7.os,h7.tape,h7.output,Nat.le_trans (by simp) h7.size,fun q hq hr=>(h7.block q (by simp;omega) hr).trans (Below.heap_alloc _ _ _ hq)⟩
 refine ⟨a',cap',w',hown',Below.of_grown hg hbase (fun q hq=>?_),hg,hr,fun ac o s x ho hty hs hx=>by subst hty;simp [execOp,ho,resolve,invoke,builtin,hs,hx,hr,Result.andThen]⟩
 rcases hown.form with ⟨rfl,_⟩ | ⟨g,rfl,h1,_⟩
 ·cases hq
 ·simp only [Value.ownBlock] at hq
  cases hq
  exact h1
open Go.RowKit in
theorem appEq {P:Program} {T E:TypeId} {k:IntKind} {bytes:Nat} (et:ElemTy P T E k bytes) {w:World} {base:Nat} {a b:Option Addr} {cap n m c:Nat} {l ys:List Nat} (ty:TypeId) (hown:OwnN E k w base a cap l) (hnl:n = l.length) (hm:m = ys.length) (hy:RowN k w b c ys)
  (hn:n + m <= 9223372036854775807) (hbytes:(n + m) * bytes <= 140737488355328) (hbase:base <= w.heap.size) :
  ∃ a' cap' w',OwnN E k w' base a' cap' (l ++ ys) /\ Below base w w' /\ w.grownBy w' (Value.slice a n cap).ownBlock ∧
   (Builtin.append_ #[T,T] ty #[.slice a n cap,.slice b m c]).run P w = .ok (.slice a' (n + m) cap') w':=by
 subst hnl hm
 obtain ⟨i,h2,h3,h4,h5⟩:=info_parts et.info
 have hbel:∀ {w':World},w.grownBy w' (Value.slice a l.length cap).ownBlock -> Below base w w':=fun h7=>Below.of_grown h7 hbase (by
  intro g hg
  exact (World.ownsRow.lt hown g hg).1)
 by_cases hy0:0 < ys.length
 ·obtain ⟨bb,off,rfl,_⟩:=hy.at hy0
  obtain ⟨v',w',hr,h6,h7,h8⟩:=run_append_own (P:=P) w base T ty E i (.int k 0) 1 bytes et.und h2 h3 h4 h5 rfl (by decide) _ l.length _ hown ⟨bb,off,none⟩ ys.length c (ys.map fun (n:Nat)=>Value.int k n) (by simp)
   (Zbi hy _ rfl) (by intro u hu;simp only [List.mem_map] at hu;obtain ⟨n,_,rfl⟩:=hu;rfl) (by simpa [maxLen] using hn) hbytes hbase
  have hv:∃ a' cap',v' = .slice a' (l.length + ys.length) cap':=by
   rcases h6.2 with ⟨h9,h10⟩ | ⟨g,c',cur,h9,_⟩
   ·exact ⟨none,0,by rw [h9,h10]⟩
   ·exact ⟨_,_,h9⟩
  obtain ⟨a',cap',rfl⟩:=hv
  have hown':OwnN E k w' base a' cap' (l ++ ys):=by
   unfold OwnN;rw [List.length_append,List.map_append];exact h6
  exact ⟨a',cap',w',hown',hbel h7,h7,hr⟩
 obtain rfl:ys = []:=List.eq_nil_of_length_eq_zero (by omega)
 cases b with
 | none =>
  obtain rfl:c = 0:=hy.2.1.2 rfl
  have hr:=run_append_owned_none (P:=P) w base T ty E i 1 et.und h2 _ l.length _ hown
  exact ⟨a,cap,w,by simpa using hown,Below.refl _ _,World.grownBy.refl _ _,by simpa using hr⟩
 | some ad =>
  obtain ⟨v',w',hr,h6,h7,h8⟩:=run_append_own (P:=P) w base T ty E i (.int k 0) 1 bytes et.und h2 h3 h4 h5 rfl (by decide) _ l.length _ hown ad 0 c [] (by simp)
   (by simp) (by simp) (by simpa [maxLen] using hn) (by simpa using hbytes) hbase
  have hv:∃ a' cap',v' = .slice a' l.length cap':=by
   rcases h6.2 with ⟨h9,h10⟩ | ⟨g,c',cur,h9,_⟩
   ·exact ⟨none,0,by rw [h9];simp at h10;rw [h10];rfl⟩
   ·exact ⟨_,_,h9⟩
  obtain ⟨a',cap',rfl⟩:=hv
  have hown':OwnN E k w' base a' cap' l:=by
   unfold OwnN;simpa using h6
  exact ⟨a',cap',w',by simpa using hown',hbel h7,h7,by simpa using hr⟩
end Go.Proofs.Ytnkpnjnfddjfpaa

namespace Go.Proofs.Ytnkpnjnfddjfpaa
open Go.RowKit Go.Shelf M01 M02 M27
attribute [local go_sem] Oper.semAt_some
theorem Zux (p:Addr) (v:Value) (w:World) (h:w.cell? p = some v):(Instr.loadAt 22 (.pointer (some p))).run Try.prog w = .ok v w:=by
 simp [Instr.loadAt,Instr.sureAddr,loadVar,isAgg,run_underlying Try.underlying22,h,go_sem]
theorem Zzt (p:Addr) (a:Option Addr) (n c:Nat) (u:Value) (w:World) (h:w.cell? p = some u) (hf:w.frozen? p = false):(Instr.storeAt 22 (.pointer (some p)) (.slice a n c)).run Try.prog w = .ok () (w.setCell p (.slice a n c)):=by
 simp [Instr.storeAt,Instr.sureAddr,storeVar,isAgg,run_underlying Try.underlying22,h,hf,go_sem]
theorem Zzs (p:Addr) (v:Value) (w:World) (h:w.cell? p = some v):(Instr.loadAt 5 (.pointer (some p))).run Try.prog w = .ok v w:=by
 simp [Instr.loadAt,Instr.sureAddr,loadVar,isAgg,run_underlying Try.underlying5,h,go_sem]
theorem Zaag (b off k N c:Nat) (h:k < N) (w:World):(Instr.indexAt 22 (.slice (some ⟨b,off,none⟩) N c) (.int .i64 (k:Nat))).run Try.prog w = .ok (.pointer (some ⟨b,off + k,none⟩)) w:=by
 have hsz:(Try.prog.info? 5).map (·.size) = some 1:=by kernel_rfl
 cases h5:Try.prog.info? 5 with
 | none=>rw [h5] at hsz;cases hsz
 | some ie =>
  simp only [h5,Option.map_some,Option.some.injEq] at hsz
  simp [Instr.indexAt,run_underlying Try.underlying22,sizeOf,typeInfo,h5,hsz,asIntOf,go_sem,h,Addr.add]
theorem Zzr (x:Int) (w:World):(Instr.buildSlice 22 1 #[(0,.int .u8 x)]).run Try.prog w = .ok (.slice (some ⟨w.heap.size,0,none⟩) 1 1) (w.alloc (.cells #[.int .u8 x] 5)):=by
 have hie:(Try.prog.info? 5).map (fun i=>(i.zero,i.size)) = some (some (.int .u8 0),1):=by kernel_rfl
 cases h5:Try.prog.info? 5 with
 | none=>rw [h5] at hie;cases hie
 | some ie =>
  simp only [h5,Option.map_some,Option.some.injEq,Prod.mk.injEq] at hie
  exact run_buildSlice w 22 5 1 _ _ ie (.int .u8 0) Try.underlying22 h5 hie.1 (by rw [hie.2];decide) (by rw [hie.2];decide) (by rw [hie.2];exact Great.fill_flat [Value.int .u8 x] _ (fun v hv=>by rw [List.mem_singleton.1 hv];rfl) (by simp))
theorem Zak {l:Array Bool} {i k:Nat} (h:i ≠ k):(l.setIfInBounds i true).getD k false = l.getD k false:=by
 simp [Array.getD_eq_getD_getElem?,Array.getElem?_setIfInBounds_ne h]
theorem Zes {l:Array Bool} {i:Nat} (h:i < l.size):(l.setIfInBounds i true).getD i false = true:=by
 simp [h]
theorem Zwp (w:World) (a:Option Addr) (n cap:Nat) (at_:Nat) :
  Calls Try.prog 157 #[.slice a n cap,.int .i64 (at_:Nat)] w fun e w' =>
   e = .returned (.func (.func 175) #[] #[.pointer (some ⟨w.heap.size,0,none⟩),.pointer (some ⟨w.heap.size + 1,0,none⟩)]) ∧
   w' = (w.alloc (.cells #[.slice a n cap] 103)).alloc (.cells #[.int .i64 (at_:Nat)] 3):=by
 have hmf:∀ (fn:Fn) (first cap:Array Value) (w:World),(Instr.makeFunc fn first cap).run Try.prog w = .ok (.func fn first cap) w:=fun _ _ _ _=>rfl
 go_enter Try.func157,Try.ntmps157
 go_wp2
 go_ret
 exact ⟨rfl,rfl⟩
def walkRow (W:List Nat) (at_ i:Nat):Array Value:=#[.int .i64 (walkAt W at_ (i + 1):Nat)]
def walkS (g B:Nat) (b:Nat):Prop:=b = B \/ b = B + 1 \/ b = g
theorem RowN.sameAt {k:IntKind} {A B:World} {g off cap:Nat} {l:List Nat} (h:RowN k A (some ⟨g,off,none⟩) cap l) (hz:A.heap.size <= B.heap.size) (he:B.heap[g]? = A.heap[g]?):RowN k B (some ⟨g,off,none⟩) cap l :=
 h.same hz (fun x _ hx=>by cases hx;exact he)
set_option maxHeartbeats 1600000 in
theorem Zns (last:List Nat) (at_ g cap B:Nat) (w:World) (hl:last.length <= 1000000) (h256:∀ x ∈ last,x < 256) (ha:at_ < last.length) (hr:RowN .i64 w (some ⟨g,0,none⟩) cap (wayL last)) (hg:g < B)
  (h1:w.heap[B]? = some (.cells #[.slice (some ⟨g,0,none⟩) last.length cap] 103 (0,0))) (h2:w.heap[B + 1]? = some (.cells #[.int .i64 (at_:Nat)] 3 (0,0))) :
  Yields Try.prog 175 #[.pointer (some ⟨B,0,none⟩),.pointer (some ⟨B + 1,0,none⟩)] last.length (walkRow (wayL last) at_) (walkS g B) (fun b=>b = B + 1) w:=by
 intro y J Jx W hsame hJ hJx hY h0
 have HY:=Zh hY
 have HJ:=Zh hJ
 have e1:=(hsame.same B (.inl rfl)).trans h1
 have e2:=(hsame.same (B + 1) (.inr (.inl rfl))).trans h2
 have er:=hr.sameAt hsame.size (hsame.same g (.inr (.inr rfl)))
 have hwl:=Zel last h256
 have HWL:=Zh (Zft last h256 at_ ha)
 have c1:=cell_of_one e1
 clear hJ hJx hY h1 h2 hr
 refine callsIn_of_wp Try.func175 rfl trivial ?_ rfl
 simp only [Try.ntmps175,List.size_toArray,List.length_cons,List.length_nil,Nat.reduceAdd,Nat.reduceSub,Array.replicate_succ,Array.replicate_zero,List.push_toArray,List.append_toArray,List.nil_append,List.cons_append]
 generalize hW:wayL last = V at *
 clear hW
 gi_wp2
 gi_loopw [6] (fun i A=>∃ k:Nat,k <= last.length /\ i = .int .i64 k /\ A.heap[B]? = some (.cells #[.slice (some ⟨g,0,none⟩) last.length cap] 103 (0,0)) /\ A.heap[B + 1]? = some (.cells #[.int .i64 (walkAt V at_ k:Nat)] 3 (0,0)) /\ RowN .i64 A (some ⟨g,0,none⟩) cap V /\ J k A) (fun i _=>last.length - (intOf i).toNat)
 case atStart=>exact ⟨0,by omega,rfl,e1,e2,er,h0⟩
 case round =>
  clear hsame e1 e2 er c1 h0
  obtain ⟨k,hk,rfl,e1,e2,er,hJA⟩:=hrel
  have c1:=cell_of_one e1
  have c2:=cell_of_one e2
  have z2:=free_of_one e2
  by_cases hlt:k < last.length
  ·have hx:=HWL.out k
   have hx2:walkAt V at_ (k + 1) = V.getD (walkAt V at_ k) 0:=rfl
   obtain ⟨b,off,hb,_,hcc⟩:=er.at (i:=walkAt V at_ k) (by omega)
   simp only [Option.some.injEq,Addr.mk.injEq,and_true] at hb
   obtain ⟨rfl,rfl⟩:=hb
   rw [<- Zba,<- hx2,Nat.zero_add] at hcc
   have E1:=Zh ((Below.heap_setCell wr ⟨B + 1,0,none⟩ (.int .i64 (walkAt V at_ (k + 1):Nat)) B (by show B ≠ B + 1;omega)).trans e1)
   have E2:=Zh (one_setCell (u:=.int .i64 (walkAt V at_ (k + 1):Nat)) e2)
   have ER:=Zh (er.sameAt (B:=wr.setCell ⟨B + 1,0,none⟩ (.int .i64 (walkAt V at_ (k + 1):Nat))) (by simp [World.setCell]) (Below.heap_setCell _ _ _ _ (by show g ≠ B + 1;omega)))
   have HJ2:=Zh (HJ.out _ _ _ hJA (Only.setCell (T:=fun b=>b = B + 1) (p:=⟨B + 1,0,none⟩) (Only.refl _ _) (.inl rfl) (.int .i64 (walkAt V at_ (k + 1):Nat))))
   obtain ⟨fn,tmps,assign,body,hy,hR⟩:=HY.out _ _ hlt HJ2.out
   have HR:=Zh hR
   unfold walkRow at hy
   clear hR hJA hx2 e1 e2 er HJ2
   have c3:=cell_of_one E2.out
   generalize hy2:walkAt V at_ (k + 1) = y2 at *
   have HY2:=Zh hy2
   clear hy2
   generalize walkAt V at_ k = y1 at *
   have t1:(y1:Int) < (last.length:Int):=by omega
   gi_wp2
   refine (Zej HR.out).mono ?_
   rintro e W' (⟨rfl,hJ',hk'⟩ | ⟨rfl,hJx'⟩)
   ·have f1:=(hk'.same B (.inl rfl)).trans E1.out
    have f2:=(hk'.same (B + 1) (.inr (.inl rfl))).trans E2.out
    have fr:=ER.out.sameAt hk'.size (hk'.same g (.inr (.inr rfl)))
    have HJ':=Zh hJ'
    have F1:=Zh f1
    have F2:=Zh f2
    have FR:=Zh fr
    clear hJ' hk' hy f1 f2 fr E1 E2 ER c1 c2 c3 z2 hcc
    gi_wp2
    go_roundw
    case rel=>exact ⟨k + 1,by omega,by go_num,F1.out,by rw [HY2.out];exact F2.out,FR.out,HJ'.out⟩
    case measure=>simp [intOf];omega
   ·gi_wp2
    refine bodyPost_ret (results_none rfl _ _ _) rfl ?_
    exact ⟨⟨_,rfl⟩,.inr ⟨_,hlt,hJx'⟩⟩
  ·obtain rfl:k = last.length:=by omega
   have HJ':=Zh hJA
   clear hJA
   gi_wp2
   go_end0
   exact ⟨⟨_,rfl⟩,.inl HJ'.out⟩
theorem Zqv (w:World) (a:Option Addr) (cap:Nat) (l:List Nat) (at_:Nat) (ha:l.length <= at_) (hl:l.length <= 1000000) (h32:at_ < 4294967296) :
  Calls Try.prog 121 #[.slice a l.length cap,.int .i64 (at_:Nat)] w fun e w'=>e = .returned (.tuple #[.slice none 0 0,.int .i64 2]) /\ Below w.heap.size w w':=by
 have t1:decide ((at_:Int) < 0) = false:=by simp
 have t2:decide (l.length <= at_) = true:=by simp;omega
 go_enter Try.func121,Try.ntmps121
 go_wp2
 go_ret2
 exact ⟨rfl,Zai w _⟩
set_option maxRecDepth 100000 in
set_option maxHeartbeats 3200000 in
theorem Zwo (w:World) (a:Option Addr) (cap:Nat) (l:List Nat) (at_:Nat) (hr:RowN .u8 w a cap l) (hl:l.length <= 1000000) (h256:∀ x ∈ l,x < 256) (h32:at_ < 4294967296) :
  Calls Try.prog 121 #[.slice a l.length cap,.int .i64 (at_:Nat)] w fun e w'=>RowMay w (backG l at_) e w':=by
 by_cases ha:at_ < l.length
 case neg=>exact (Zqv w a cap l at_ (by omega) hl h32).mono fun e w' h=>by rw [h.1];exact RowMay.none (by unfold backG;rw [if_neg ha]) h.2
 have HG:Hid (backG l at_ = some (walked l at_ l.length)):=by unfold Hid backG;rw [if_pos ha,Zet]
 have t1:decide ((at_:Int) < 0) = false:=by simp
 have t2:decide (l.length <= at_) = false:=by simp;omega
 have H256:=Zh h256
 have HR:=Zh hr
 refine (callsIn_wide (n:=9)).1 ?_
 refine callsIn_of_wp_marks Try.func121 rfl trivial ?_ rfl
 simp only [Try.ntmps121,List.size_toArray,List.length_cons,List.length_nil,Nat.reduceAdd,Nat.reduceSub,Array.replicate_succ,Array.replicate_zero,List.push_toArray,List.append_toArray,List.nil_append,List.cons_append]
 gi_wp2_with fail
 refine ⟨trivial,?_⟩
 have hb2:Below w.heap.size w ((w.alloc (.cells #[.slice a l.length cap] 22)).alloc (.cells #[.slice none 0 0] 22)):=(Zai w _).trans ((Zai _ _).mono (by simp))
 have hc0:=(Below.heap_alloc (w.alloc (.cells #[.slice a l.length cap] 22)) (.cells #[.slice none 0 0] 22) w.heap.size (by simp)).trans (World.alloc_heap_new w _)
 have hc1:=World.alloc_heap_new (w.alloc (.cells #[.slice a l.length cap] 22)) (.cells #[.slice none 0 0] 22)
 rw [show (w.alloc (.cells #[.slice a l.length cap] 22)).heap.size = w.heap.size + 1 by simp] at hc1
 have hs2:((w.alloc (.cells #[.slice a l.length cap] 22)).alloc (.cells #[.slice none 0 0] 22)).heap.size = w.heap.size + 2:=by simp
 generalize (w.alloc (.cells #[.slice a l.length cap] 22)).alloc (.cells #[.slice none 0 0] 22) = w2 at *
 have HB2:=Zh hb2
 have HC0:=Zh hc0
 have HC1:=Zh hc1
 clear hc0 hc1
 refine (callsIn_wide.2 (Zyv w2 a cap l (hr.below hb2) hl h256)).mono ?_
 rintro e w3 ⟨a3,c3,rfl,ho3,hb3⟩
 obtain ⟨g,rfl,hg1,hg2⟩:∃ g,a3 = some ⟨g,0,none⟩ /\ w2.heap.size <= g /\ g < w3.heap.size:=by
  rcases ho3.form with ⟨_,_,h⟩ | h
  ·have:=congrArg List.length h
   rw [Zel l h256,List.length_nil] at this
   omega
  ·exact h
 have HO3:=Zh ho3
 have HB3:=Zh hb3
 have hz3:=hb3.size
 clear ho3 hb3 hb2 hr
 gi_wp2_with fail
 refine ⟨trivial,?_⟩
 refine (callsIn_wide.2 (Zwp w3 (some ⟨g,0,none⟩) l.length c3 at_)).mono ?_
 rintro e w4 ⟨rfl,hw4⟩
 have HW4:=Zh hw4
 clear hw4
 gi_wp2_with fail
 have hz4:w4.heap.size = w3.heap.size + 2:=by rw [HW4.out];simp
 have hb4:Below w3.heap.size w3 w4:=by rw [HW4.out];exact (Zai w3 _).trans ((Zai _ _).mono (by simp))
 have hB1:w4.heap[w3.heap.size]? = some (.cells #[.slice (some ⟨g,0,none⟩) l.length c3] 103 (0,0)):=by
  rw [HW4.out]
  exact (Below.heap_alloc _ _ _ (by simp)).trans (World.alloc_heap_new w3 _)
 have hB2:w4.heap[w3.heap.size + 1]? = some (.cells #[.int .i64 (at_:Nat)] 3 (0,0)):=by
  rw [HW4.out]
  have:=World.alloc_heap_new (w3.alloc (.cells #[.slice (some ⟨g,0,none⟩) l.length c3] 103)) (.cells #[.int .i64 (at_:Nat)] 3)
  rwa [show (w3.alloc (.cells #[.slice (some ⟨g,0,none⟩) l.length c3] 103)).heap.size = w3.heap.size + 1 by simp] at this
 clear HW4
 obtain ⟨B,hB⟩:∃ B,w3.heap.size = B:=⟨_,rfl⟩
 have hwz:w.heap.size + 2 <= B:=by have:=HB3.out.size;omega
 simp only [hB] at hB1 hB2 hb4 hz4 hg2
 have HO4:=Zh (HO3.out.below (by rw [hB];exact hb4))
 have H0:=Zh (show Below (w.heap.size + 2) w2 w4 from (HB3.out.mono (by omega)).trans (hb4.mono hwz))
 have c0:w4.heap[w.heap.size]? = some (.cells #[.slice a l.length cap] 22 (0,0)):=(H0.out.block _ (by omega)).trans HC0.out
 have c1:w4.heap[w.heap.size + 1]? = some (.cells #[.slice none 0 0] 22 (0,0)):=(H0.out.block _ (by omega)).trans HC1.out
 have HBW:=Zh (show Below w.heap.size w w4 from HB2.out.trans (H0.out.mono (by omega)))
 simp only [hB]
 have hgw:w.heap.size + 2 <= g:=by omega
 clear hB HO3 HB3 HC0 HC1 hb4 hz3 H0 HB2 hs2
 have hlen:=Zel l h256
 have hrow:RowN .i64 w4 (some ⟨g,0,none⟩) c3 (wayL l):=HO4.out.row
 have HY:=Zh (Zns l at_ g c3 B w4 hl h256 ha hrow (by omega) hB1 hB2)
 have HRW:=Zh (HR.out.below HBW.out)
 refine Zlw (g:=.tmp 19) (gf:=175) (lb:=#[.pointer (some ⟨B,0,none⟩),.pointer (some ⟨B + 1,0,none⟩)]) rfl (enters_of Try.func175 (by kernel_rfl) rfl)
  HY.out (SameOn.refl _ _) ?hS ?hT (fun _=>rfl)
  (fun i A=>A.heap[w.heap.size]? = some (.cells #[.slice a l.length cap] 22 (0,0)) /\ RowN .u8 A a cap l /\ Below w.heap.size w A /\ w4.heap.size <= A.heap.size /\ ∃ a2 c2,A.heap[w.heap.size + 1]? = some (.cells #[.slice a2 i c2] 22 (0,0)) /\ OwnN 5 .u8 A w4.heap.size a2 c2 (walked l at_ i))
  (fun _ _ _=>False) ?hI ?hIp (fun _ _ _ _ h _=>h) (fun _ _ _ _ _ _ h _ _ _=>h) ?h0 ?a1 ?assign ?body ?done (fun _ _ _ _ h _=>h.elim)
 case hS =>
  rintro b (rfl | rfl | rfl)
  ·omega
  ·omega
  ·omega
 case hT =>
  rintro b rfl
  omega
 case hI =>
  rintro i A B' ⟨h1,h2,h3,h4,a2,c2,h5,h6⟩ ho
  have h7:Below w.heap.size w B':=Below.only h3 ho (Nat.le_refl _) (fun b hb=>by omega)
  exact ⟨Zac h1 ho (by show w.heap.size ≠ B + 1;omega),HR.out.below h7,h7,Nat.le_trans h4 ho.size,a2,c2,Zac h5 ho (by show w.heap.size + 1 ≠ B + 1;omega),h6.only ho (fun b hb=>by show b ≠ B + 1;omega)⟩
 case hIp =>
  rintro i A r o o' ⟨h1,h2,h3,h4,a2,c2,h5,h6⟩ hr0 hro hoc
  have h7:Below w.heap.size w (A.putObj r o'):=Below.put h3 (Nat.le_refl _) hro (by omega) _
  exact ⟨Zfx h1 hro hoc,HR.out.below h7,h7,by rw [World.putObj_size];exact h4,a2,c2,Zfx h5 hro hoc,h6.put hro hoc _⟩
 case h0=>exact ⟨c0,HRW.out,HBW.out,Nat.le_refl _,none,0,c1,OwnN.nil _ _ _ _⟩
 case assign =>
  intro y i W K hK
  simp only [walkRow]
  gi_wp2
  exact hK
 case body =>
  rintro y i hi A hz2 ⟨h1,h2,h3,h4,a2,c2,h5,h6⟩
  have hx:=Zft l h256 at_ ha (i + 1)
  have HWS:=Zh (Znt l at_ i)
  have hwl:=Zgm l at_ i
  generalize walkAt (wayL l) at_ (i + 1) = p at *
  have HX:=Zh (Zba hx)
  obtain ⟨sb,soff,rfl,hsb,hsc⟩:=h2.at hx
  generalize l[p] = x at *
  have d1:=cell_of_one h1
  have d5:=cell_of_one h5
  have f5:=free_of_one h5
  have H6:=Zh h6
  have H3:=Zh h3
  have H2:=Zh h2
  clear h6 h2 h3
  have hpi:(p:Int) < (l.length:Int):=by omega
  have hn1:=Zh (show i + 1 <= 9223372036854775807 by omega)
  have hn2:=Zh (show (i + 1) * 1 <= 140737488355328 by omega)
  obtain ⟨a3,c3',W3,ho3,hb3,hg3,_,happ⟩:=app1Eq (E':=5) Zbl x 22 H6.out.drew hwl.symm hn1.out hn2.out h4
  have d6:W3.cell? ⟨w.heap.size + 1,0,none⟩ = some (.slice a2 i c2):=Zax (A:=A.drew) d5 hb3 (by show w.heap.size + 1 < w4.heap.size;omega)
  have f6:W3.frozen? ⟨w.heap.size + 1,0,none⟩ = false:=by
   unfold World.frozen? at f5 ⊢
   rw [hb3.block _ (by show w.heap.size + 1 < w4.heap.size;omega)]
   exact f5
  have HO3:=Zh ho3
  have HB3:=Zh hb3
  have HAPP:=Zh happ
  have HKO:Hid (KeepsOthers A W3):=Zh ((KeepsOthers.drew A).trans (KeepsOthers.of_grownBy hg3 (fun j o hj hob=>by
   rcases H6.out.drew.2 with ⟨e,_⟩ | ⟨g',c',cur,e,_,e2,_⟩
   ·rw [hwl] at e;rw [e] at hj;cases hj
   ·rw [hwl] at e;rw [e] at hj;cases hj;rw [e2] at hob;cases hob;rfl)))
  clear happ hg3
  have HD:Hid (∀ q:Bool,(if q = true then A.drew.alloc (.cells #[.int .u8 (x:Nat)] 5) else A.drew).cell? ⟨w.heap.size,0,none⟩ = some (.slice (some ⟨sb,soff,none⟩) l.length cap) /\ (if q = true then A.drew.alloc (.cells #[.int .u8 (x:Nat)] 5) else A.drew).cell? ⟨w.heap.size + 1,0,none⟩ = some (.slice a2 i c2) /\ (if q = true then A.drew.alloc (.cells #[.int .u8 (x:Nat)] 5) else A.drew).cell? ⟨sb,soff + p,none⟩ = some (.int .u8 (x:Nat))):=Zh (fun q=>by
   cases q with
   | false=>exact ⟨d1,d5,hsc⟩
   | true=>exact ⟨Zax (A:=A.drew) d1 (Zai A.drew _) (World.cell?_ltH d1),Zax (A:=A.drew) d5 (Zai A.drew _) (World.cell?_ltH d5),Zax (A:=A.drew) hsc (Zai A.drew _) (World.cell?_ltH hsc)⟩)
  have HPI:=Zh hx
  clear ho3 hb3 hx
  gi_wp2
  refine Zgo [21,22,23,24,25,26,27] (fun _=>false) (fun listed w1=>w1 = if listed.getD 7 false = true then W3.setCell ⟨w.heap.size + 1,0,none⟩ (.slice a3 (i + 1) c3') else if listed.getD 6 false = true then W3 else if listed.getD 5 false = true then A.drew.alloc (.cells #[.int .u8 (x:Nat)] 5) else A.drew)
   (fun j v _=>match j with | 0=>v = .slice a2 i c2 | 1=>v = .slice (some ⟨sb,soff,none⟩) l.length cap | 2=>v = .int .i64 (p:Nat) | 3=>v = .pointer (some ⟨sb,soff + p,none⟩) | 4=>v = .int .u8 (x:Nat) | 5=>v = .slice (some ⟨A.heap.size,0,none⟩) 1 1 | 6=>v = .slice a3 (i + 1) c3' | _=>True) (fun _ _ _ _=>True) (by kernel_rfl) (by kernel_rfl) (OneEach.mk' (by kernel_rfl) (by kernel_rfl)) (by kernel_rfl) (by kernel_rfl) (by simp) ?_ ?_
  ·intro i0 o hi0 listed a1 w1 hR hil hunf hdes hanc hout hdep
   have hsz:i0 < 8:=(Array.getElem?_eq_some_iff.1 hi0).1
   obtain ⟨q1,q2,q3⟩:=HD.out (listed.getD 5 false)
   have hall:i0 = 0 \/ i0 = 1 \/ i0 = 2 \/ i0 = 3 \/ i0 = 4 \/ i0 = 5 \/ i0 = 6 \/ i0 = 7:=by omega
   clear hsz
   rcases hall with rfl | rfl | rfl | rfl | rfl | rfl | rfl | rfl <;> simp only [List.getElem?_toArray,List.getElem?_cons_zero,List.getElem?_cons_succ,Option.some.injEq] at hi0 <;> subst hi0
   ·have h7:listed.getD 7 false = false:=hdes 7 (by kernel_rfl)
    have h6:listed.getD 6 false = false:=hdes 6 (by kernel_rfl)
    rw [h7,h6,if_neg (by decide),if_neg (by decide)] at hR
    rw [<- hR] at q1 q2 q3
    have f1:a1.eval (.tmp 6) = .pointer (some ⟨w.heap.size + 1,0,none⟩):=hout 6 (by decide)
    refine Zbv (by intro c h;cases h) (v:=.slice a2 i c2) (w':=w1) (by simp [execOp,f1,Zux _ _ _ q2]) ⟨_,rfl,by rw [Zak (by decide),Zak (by decide),Zak (by decide),h7,h6,if_neg (by decide),if_neg (by decide)];exact hR,fun j u hu hV _=>⟨hV,trivial,trivial⟩,rfl⟩
   ·have h7:listed.getD 7 false = false:=hdes 7 (by kernel_rfl)
    have h6:listed.getD 6 false = false:=hdes 6 (by kernel_rfl)
    rw [h7,h6,if_neg (by decide),if_neg (by decide)] at hR
    rw [<- hR] at q1 q2 q3
    have f1:a1.eval (.tmp 2) = .pointer (some ⟨w.heap.size,0,none⟩):=hout 2 (by decide)
    refine Zbv (by intro c h;cases h) (v:=.slice (some ⟨sb,soff,none⟩) l.length cap) (w':=w1) (by simp [execOp,f1,Zux _ _ _ q1]) ⟨_,rfl,by rw [Zak (by decide),Zak (by decide),Zak (by decide),h7,h6,if_neg (by decide),if_neg (by decide)];exact hR,fun j u hu hV _=>⟨hV,trivial,trivial⟩,rfl⟩
   ·have f1:a1.eval (.tmp 7) = .int .i64 (p:Nat):=hout 7 (by decide)
    refine Zbv (by intro c h;cases h) (v:=.int .i64 (p:Nat)) (w':=w1) (by simp [execOp,f1]) ⟨_,rfl,by rw [Zak (by decide),Zak (by decide),Zak (by decide)];exact hR,fun j u hu hV _=>⟨hV,trivial,trivial⟩,rfl⟩
   ·have e22:a1.eval (.tmp 22) = .slice (some ⟨sb,soff,none⟩) l.length cap:=hdep ⟨1,.data⟩ (by simp) rfl _ rfl
    have e23:a1.eval (.tmp 23) = .int .i64 (p:Nat):=hdep ⟨2,.data⟩ (by simp) rfl _ rfl
    refine Zbv (by intro c h;cases h) (v:=.pointer (some ⟨sb,soff + p,none⟩)) (w':=w1) (by simp [execOp,e22,e23,Zaag sb soff p _ _ HPI.out]) ⟨_,rfl,by rw [Zak (by decide),Zak (by decide),Zak (by decide)];exact hR,fun j u hu hV _=>⟨hV,trivial,trivial⟩,rfl⟩
   ·have h7:listed.getD 7 false = false:=hdes 7 (by kernel_rfl)
    have h6:listed.getD 6 false = false:=hdes 6 (by kernel_rfl)
    rw [h7,h6,if_neg (by decide),if_neg (by decide)] at hR
    rw [<- hR] at q1 q2 q3
    have e24:a1.eval (.tmp 24) = .pointer (some ⟨sb,soff + p,none⟩):=hdep ⟨3,.data⟩ (by simp) rfl _ rfl
    refine Zbv (by intro c h;cases h) (v:=.int .u8 (x:Nat)) (w':=w1) (by simp [execOp,e24,Zzs _ _ _ q3]) ⟨_,rfl,by rw [Zak (by decide),Zak (by decide),Zak (by decide),h7,h6,if_neg (by decide),if_neg (by decide)];exact hR,fun j u hu hV _=>⟨hV,trivial,trivial⟩,rfl⟩
   ·have h7:listed.getD 7 false = false:=hdes 7 (by kernel_rfl)
    have h6:listed.getD 6 false = false:=hdes 6 (by kernel_rfl)
    rw [h7,h6,hunf,if_neg (by decide),if_neg (by decide),if_neg (by decide)] at hR
    have e25:a1.eval (.tmp 25) = .int .u8 (x:Nat):=hdep ⟨4,.data⟩ (by simp) rfl _ rfl
    refine Zbv (by intro c h;cases h) (v:=.slice (some ⟨A.heap.size,0,none⟩) 1 1) (w':=A.drew.alloc (.cells #[.int .u8 (x:Nat)] 5)) (by rw [hR];show _ = Result.ok (Next.value (.slice (some ⟨A.drew.heap.size,0,none⟩) 1 1)) _;simp [execOp,e25,Zzr]) ⟨_,rfl,by rw [Zak (by decide),Zak (by decide),Zes hil,h7,h6,if_neg (by decide),if_neg (by decide),if_pos rfl],fun j u hu hV _=>⟨hV,trivial,trivial⟩,rfl⟩
   ·have h7:listed.getD 7 false = false:=hdes 7 (by kernel_rfl)
    have h5:listed.getD 5 false = true:=hanc 5 (by kernel_rfl)
    rw [h7,hunf,h5,if_neg (by decide),if_neg (by decide),if_pos rfl] at hR
    have e21:a1.eval (.tmp 21) = .slice a2 i c2:=hdep ⟨0,.data⟩ (by simp) rfl _ rfl
    have e26:a1.eval (.tmp 26) = .slice (some ⟨A.heap.size,0,none⟩) 1 1:=hdep ⟨5,.data⟩ (by simp) rfl _ rfl
    refine Zbv (by intro c h;cases h) (v:=.slice a3 (i + 1) c3') (w':=W3) (by rw [hR];exact HAPP.out a1 _ (.tmp 21) (.tmp 26) rfl rfl e21 e26) ⟨_,rfl,by rw [Zak (by decide),Zes hil,h7,if_neg (by decide),if_pos rfl],fun j u hu hV _=>⟨hV,trivial,trivial⟩,rfl⟩
   ·have h6:listed.getD 6 false = true:=hanc 6 (by kernel_rfl)
    rw [hunf,h6,if_neg (by decide),if_pos rfl] at hR
    have e27:a1.eval (.tmp 27) = .slice a3 (i + 1) c3':=hdep ⟨6,.data⟩ (by simp) rfl _ rfl
    have f1:a1.eval (.tmp 6) = .pointer (some ⟨w.heap.size + 1,0,none⟩):=hout 6 (by decide)
    refine Znp (by intro c h;cases h) (w':=W3.setCell ⟨w.heap.size + 1,0,none⟩ (.slice a3 (i + 1) c3')) (by rw [hR];simp only [execOp,e27,f1];rw [Sem.run_bind,Zzt _ _ _ _ _ _ d6 f6];rfl) ⟨undef,rfl,by rw [Zes hil,if_pos rfl],fun j u hu hV _=>⟨hV,trivial,trivial⟩,trivial⟩
  ·intro listed fv w1 hR hall hV
   rw [if_pos (hall 7 (by decide))] at hR
   rw [hR]
   have HSET:=Zh (one_setCell (w:=W3) (u:=.slice a3 (i + 1) c3') ((HB3.out.block _ (by show w.heap.size + 1 < w4.heap.size;omega)).trans (show A.drew.heap[w.heap.size + 1]? = _ from h5)))
   refine ⟨(HKO.out.trans (KeepsOthers.setCell _ _ _)).from _,⟨?_,?_⟩,?_,?_,?_,?_,a3,c3',HSET.out,?_⟩
   ·have:=HKO.out.size
    simpa [World.setCell] using this
   ·intro b hb
    have hbb:b < w4.heap.size /\ b ≠ w.heap.size + 1:=by rcases hb with rfl | rfl | rfl <;> omega
    rw [Below.heap_setCell _ _ _ _ (by show b ≠ w.heap.size + 1;omega)]
    exact HB3.out.block b hbb.1
   ·rw [Below.heap_setCell _ _ _ _ (by show w.heap.size ≠ w.heap.size + 1;omega)]
    exact (HB3.out.block _ (by show w.heap.size < w4.heap.size;omega)).trans h1
   ·exact HR.out.below ((H3.out.trans (show Below w.heap.size A W3 from ((Below.refl _ A).drew.trans (HB3.out.mono (by omega))))).setCell (by show w.heap.size <= w.heap.size + 1;omega) _)
   ·exact (H3.out.trans (show Below w.heap.size A W3 from ((Below.refl _ A).drew.trans (HB3.out.mono (by omega))))).setCell (by show w.heap.size <= w.heap.size + 1;omega) _
   ·have:=HKO.out.size
    have:w4.heap.size <= W3.heap.size:=by omega
    simpa [World.setCell] using this
   ·rw [HWS.out,HX.out]
    exact HO3.out.other (fun g' hg'=>by
     show w.heap.size + 1 ≠ g'
     rcases HO3.out.form with ⟨h,_⟩ | ⟨g2,h,hb,_⟩
     ·rw [h] at hg';cases hg'
     ·rw [h] at hg';cases hg';omega) _
 case done =>
  rintro A ⟨h1,h2,h3,h4,a2,c2,h5,h6⟩ hD
  have d5:=cell_of_one h5
  have H6:=Zh h6
  have H3:=Zh h3
  clear h1 h2 h3 h5 h6
  gi_wp2
  refine ⟨by simp,.inl ⟨_,_,rfl,run_takeDeferred hD,?_⟩⟩
  refine ⟨_,results_tmp2 rfl _ _ _,?_⟩
  have hl2:=Zgm l at_ l.length
  rw [HG.out]
  refine ⟨Below.put H3.out (Nat.le_refl _) hD (by omega) _,a2,c2,?_,(H6.out.put hD rfl _).mono (by omega)⟩
  rw [hl2]
  rfl
end Go.Proofs.Ytnkpnjnfddjfpaa

namespace Go.Proofs.Ytnkpnjnfddjfpaa
open Go.RowKit Go.Shelf M01 M02 M27
def numsI:List Int:=nums.map fun (n:Nat)=>(n:Int)
theorem Zlq:numsI.map (Value.int .i64) = nums.map fun (n:Nat)=>Value.int .i64 n:=by
 unfold numsI
 generalize nums = L
 rw [List.map_map]
 rfl
theorem Zlp:512 = numsI.length:=by
 unfold numsI
 rw [List.length_map,Zfg]
set_option maxRecDepth 1000000 in
set_option maxHeartbeats 0 in
theorem Zmv (w:World):Calls Try.prog 161 #[] w fun e w'=>e = .returned (.slice (some ⟨w.heap.size,0,none⟩) 512 512) /\ w' = w.alloc (.cells (nums.map fun (n:Nat)=>Value.int .i64 n).toArray 3):=by
 rw [<- Zlq]
 go_enter Try.func161,Try.ntmps161
 apply wp_seq
 apply wp_region_lit
 refine wpList_plain rfl fun K hK=>?_
 unfold Oper.wp
 rw [show (execOp (Act.mk #[undef,undef] []).eval _).run Try.prog w = .ok (.value (.slice none 0 0)) w from rfl]
 apply hK
 apply wpList_nil
 show Code.wp _ _ _ _ _
 apply wp_seq
 apply wp_region_lit
 refine wpList_buildFlat rfl 103 3 512 _ rfl .i64 numsI (by kernel_rfl) (by kernel_rfl) (by kernel_rfl) Zlp (by decide) (by decide) (by kernel_rfl) ?_
 clear hK K
 refine wpList_plain rfl fun K hK=>?_
 unfold Oper.wp
 refine (show K _ _ from ?_)
 apply hK
 apply wpList_nil
 show Code.wp _ _ _ _ _
 apply wp_ret
 clear hK K
 refine bodyPost_ret (results_tmp rfl _ _ _) rfl ?_
 exact ⟨rfl,rfl⟩
end Go.Proofs.Ytnkpnjnfddjfpaa

namespace Go.Proofs.Ytnkpnjnfddjfpaa.M27
open M01 M02
def bytesG (B:List Nat):Nat -> Nat -> List Nat -> Option (List Nat × Nat)
 | 0,at_,out=>some (out,at_)
 | n + 1,at_,out=>(numG B at_ 8).bind fun p=>bytesG B n p.2 (out ++ [p.1])
def blockM:List Nat:=[49,65,89,38,83,89]
def endM:List Nat:=[23,114,69,56,80,144]
def partsG (B:List Nat) (most:Nat):Nat -> Nat -> List (List Nat × Nat) × Option Nat
 | 0,_=>([],none)
 | f + 1,at_ =>
  match bytesG B 6 at_ [] with
  | none=>([],none)
  | some (m,a2) =>
   if m = blockM then
    match blkG B a2 most with
    | none=>([],none)
    | some (l,s,a3)=>((l,s) :: (partsG B most f a3).1,(partsG B most f a3).2)
   else if m = endM then ([],some a2) else ([],none)
def strmG (B:List Nat) (at_:Nat):List (List Nat × Nat) × Option Nat :=
 match bytesG B 4 at_ [] with
 | none=>([],none)
 | some (h,a2)=>if h.take 3 = [66,90,104] /\ 49 <= h.getD 3 0 /\ h.getD 3 0 <= 57 then partsG B ((h.getD 3 0 - 48) * 100000) (nb B + 1) a2 else ([],none)
structure BzF where
 bytes:List Nat
 size:Nat
 wrong:Bool
def partF (keep:Nat) (s:BzF × Nat) (p:List Nat × Nat):BzF × Nat :=
 let all:=say p.1
 let left:=keep - s.1.bytes.length
 let got:=all.take left
 ({ bytes:=s.1.bytes ++ got,size:=s.1.size + all.length,wrong:=s.1.wrong || (decide (all.length <= left) && !(crcHigh got == p.2)) },foldS s.2 p.2)
def bzG (B:List Nat) (keep:Nat):Nat -> Nat -> BzF -> Option BzF
 | 0,_,_=>none
 | f + 1,at_,F =>
  (strmG B at_).2.bind fun a2=>(numG B a2 32).bind fun c =>
   let r:=(strmG B at_).1.foldl (partF keep) (F,0)
   let F2:BzF:={ r.1 with wrong:=r.1.wrong || !(c.1 == r.2) }
   let a3:=(c.2 + 7) / 8 * 8
   if a3 < nb B then bzG B keep f a3 F2 else some F2
theorem Zdz {B:List Nat}:∀ {n at_:Nat} {out r:List Nat} {a2:Nat},bytesG B n at_ out = some (r,a2) -> r.length = out.length + n /\ a2 = at_ + 8 * n
 | 0,at_,out,r,a2,h=>by
  unfold bytesG at h
  cases h
  exact ⟨rfl,rfl⟩
 | n + 1,at_,out,r,a2,h=>by
  unfold bytesG numG at h
  split at h
  ·have:=Zdz (n:=n) (by simpa using h)
   simp at this
   omega
  ·cases h
end Go.Proofs.Ytnkpnjnfddjfpaa.M27

namespace Go.Proofs.Ytnkpnjnfddjfpaa
open Go.RowKit Go.Shelf M01 M02 M27
set_option maxRecDepth 1000000 in
set_option maxHeartbeats 0 in
theorem Zkj (w:World):Calls Try.prog 125 #[] w fun e w'=>e = .returned (.slice (some ⟨w.heap.size,0,none⟩) 512 512) /\ w' = w.alloc (.cells (nums.map fun (n:Nat)=>Value.int .i64 n).toArray 3):=by
 rw [<- Zlq]
 go_enter Try.func125,Try.ntmps125
 apply wp_seq
 apply wp_region_lit
 refine wpList_plain rfl fun K hK=>?_
 unfold Oper.wp
 rw [show (execOp (Act.mk #[undef,undef] []).eval _).run Try.prog w = .ok (.value (.slice none 0 0)) w from rfl]
 apply hK
 apply wpList_nil
 show Code.wp _ _ _ _ _
 apply wp_seq
 apply wp_region_lit
 refine wpList_buildFlat rfl 103 3 512 _ rfl .i64 numsI (by kernel_rfl) (by kernel_rfl) (by kernel_rfl) Zlp (by decide) (by decide) (by kernel_rfl) ?_
 clear hK K
 refine wpList_plain rfl fun K hK=>?_
 unfold Oper.wp
 refine (show K _ _ from ?_)
 apply hK
 apply wpList_nil
 show Code.wp _ _ _ _ _
 apply wp_ret
 clear hK K
 refine bodyPost_ret (results_tmp rfl _ _ _) rfl ?_
 exact ⟨rfl,rfl⟩
end Go.Proofs.Ytnkpnjnfddjfpaa
