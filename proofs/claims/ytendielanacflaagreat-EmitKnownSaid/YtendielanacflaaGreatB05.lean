/- bits.Mul, slices.Repeat, slices.Grow, slices.Concat at bytes; cost.fixed: contracts. repeat.Bits, times, Unpack: contracts. header.may, the deferred closure of header.Get: contracts. Plain mathematics of layers 6, 9, 10: reading by a code. Plain mathematics: bits of words, what a table of words holds. Plain mathematics of layer 9: a head. Plain mathematics of layer 7: signs that are packed say the lengths. -/
import Derived.Test.YtendielanacflaaGreatB02
import Derived.Test.YtendielanacflaaGreatB03
import Derived.Test.YtendielanacflaaGreatB04
import Derived.Test.YtendielanacflaaGreatB01
import Derived.Laws.CopyOwn
import Derived.Lib.AppendZerosOnto
import Derived.Laws.Bits64b
import Derived.Defers
import Derived.Recover
import Derived.Laws.Pointers
set_option linter.unusedVariables false
set_option linter.unusedSimpArgs false
namespace Go.Proofs.YtendielanacflaaGreat
open Go.RowKit Go.Shelf M08 M17
theorem Zaa {l:Array Bool} {i k:Nat} (h:i ≠ k):(l.setIfInBounds i true).getD k false = l.getD k false:=by
 simp [Array.getElem?_setIfInBounds_ne h]
theorem Zcu (w:World) (o:Obj):Below w.heap.size w (w.alloc o):=(Below.refl _ _).alloc (Nat.le_refl _) _
theorem maskN (a:Nat) (ha:a < 4294967296):bits .and .u64 (a:Int) 4294967295 = (a:Int):=by
 have h:=bits_and_u64_nat a 4294967295 (by omega) (by omega)
 have e:a &&& 4294967295 = a % 4294967296:=Nat.and_two_pow_sub_one_eq_mod a 32
 rw [e,Nat.mod_eq_of_lt ha] at h
 exact h
theorem mask0:bits .and .u64 0 4294967295 = 0:=by have:=maskN 0 (by omega);simpa using this
theorem mask1:bits .and .u64 1 4294967295 = 1:=by have:=maskN 1 (by omega);simpa using this
set_option maxHeartbeats 800000 in
theorem Zub (n:Nat) (hn:n <= 100000) (w:World) :
  Calls Tryz.prog 151 #[.int .u64 1,.int .u64 n] w fun e w'=>e = .returned (.tuple #[.int .u64 0,.int .u64 n]) /\ w = w':=by
 have h1:=maskN n (by omega)
 have h2:=mask1
 have h3:(n:Int) / 4294967296 = 0:=by omega
 go_enter Tryz.func151,Tryz.ntmps151
 go_wp2
 go_ret2
 exact ⟨by simp [mask0,IntKind.wrap_u64],rfl⟩
theorem Zabb (n:Nat) (hn:n <= 100000) (w:World) :
  Calls Tryz.prog 129 #[.int .u64 1,.int .u64 n] w fun e w'=>e = .returned (.tuple #[.int .u64 0,.int .u64 n]) /\ w = w':=by
 go_enter Tryz.func129,Tryz.ntmps129
 go_wp2_with (go_at_call 151;refine (Zub n hn _).mono ?_;rintro e w' ⟨rfl,rfl⟩)
 go_ret2
 exact ⟨rfl,rfl⟩
def repL (n k m:Nat):List Value:=List.replicate m (.int .u8 (k:Nat)) ++ List.replicate (n - m) (.int .u8 ((0:Nat):Int))
theorem Zla (n k m c:Nat) (h:m + c <= n):splice (repL n k m) m (List.replicate c (.int .u8 (k:Nat))) = repL n k (m + c):=by
 unfold splice repL
 rw [List.take_left' (by simp),List.length_replicate,List.drop_append,List.length_replicate,List.drop_of_length_le (by simp),List.nil_append,List.drop_replicate,<- List.append_assoc,List.replicate_append_replicate]
 congr 2
 omega
theorem Zado {w:World} {g n k m c:Nat} {t:TypeId} (h:w.heap[g]? = some (.cells (repL n k m).toArray t (0,0))) (hm:c <= m) (j:Nat) (v:Value) (hj:(List.replicate c (Value.int .u8 (k:Nat)))[j]? = some v):w.cell? ((⟨g,0,none⟩:Addr).add j) = some v:=by
 have hjc:j < c:=by have:=(List.getElem?_eq_some_iff.1 hj).1;simpa using this
 have e:(⟨g,0,none⟩:Addr).add j = ⟨g,j,none⟩:=by unfold Addr.add;split <;> simp_all
 rw [e]
 have:(repL n k m)[j]? = some v:=by
  unfold repL
  rw [List.getElem?_append_left (by simp;omega)]
  simp only [List.getElem?_replicate] at hj ⊢
  rw [if_pos hjc] at hj
  rw [if_pos (by omega)];exact hj
 simp [World.cell?,h,this]
theorem cutHi (g m n:Nat) (h:m < n) (w:World):(Instr.sliceAt 24 (.slice (some ⟨g,0,none⟩) n n) (some (.int .i64 (m:Nat))) none none).run Tryz.prog w = .ok (.slice (some ⟨g,m,none⟩) (n - m) (n - m)) w:=by
 have hsz:(Tryz.prog.info? 5).map (·.size) = some 1:=by kernel_rfl
 have h3:m <= n:=by omega
 have h4:¬ n = m:=by omega
 have h6:(if m = 0 then (⟨g,0,none⟩:Addr) else ⟨g,m,none⟩) = ⟨g,m,none⟩:=by
  split
  ·rename_i h;rw [h]
  ·rfl
 cases h5:Tryz.prog.info? 5 with
 | none=>rw [h5] at hsz;cases hsz
 | some ie =>
  simp only [h5,Option.map_some,Option.some.injEq] at hsz
  simp [Instr.sliceAt,Instr.slice,Instr.sliceBounds,Instr.sliceBound,run_underlying Tryz.underlying24,asIntOf,sizeOf,typeInfo,h5,hsz,go_sem,h3,h4,h6,Addr.add]
theorem cutLo (g m n:Nat) (h:m <= n) (w:World):(Instr.sliceAt 24 (.slice (some ⟨g,0,none⟩) n n) none (some (.int .i64 (m:Nat))) none).run Tryz.prog w = .ok (.slice (some ⟨g,0,none⟩) m n) w:=by
 have hsz:(Tryz.prog.info? 5).map (·.size) = some 1:=by kernel_rfl
 cases h5:Tryz.prog.info? 5 with
 | none=>rw [h5] at hsz;cases hsz
 | some ie =>
  simp only [h5,Option.map_some,Option.some.injEq] at hsz
  simp [Instr.sliceAt,Instr.slice,Instr.sliceBounds,Instr.sliceBound,run_underlying Tryz.underlying24,asIntOf,sizeOf,typeInfo,h5,go_sem,h,Addr.add]
theorem Zacc {E:TypeId} {k:IntKind} {w:World} {base g:Nat} {l:List Nat} (h:OwnN E k w base (some ⟨g,0,none⟩) l.length l):w.heap[g]? = some (.cells (l.map fun (n:Nat)=>Value.int k n).toArray E (0,0)):=by
 rcases h.2 with ⟨h1,h2⟩ | ⟨g',c,cur,h1,h2,h3,h4,h5,h6,h7⟩
 ·cases h1
 ·simp only [Value.slice.injEq,Option.some.injEq,Addr.mk.injEq,and_true,true_and] at h1
  obtain ⟨rfl,rfl⟩:=h1
  rw [List.take_of_length_le (by simp [h6])] at h7
  rw [h3,<- h7]
set_option maxRecDepth 100000 in
set_option maxHeartbeats 1600000 in
theorem Zbp (n k b:Nat) (h1:1 <= n) (h2:n <= 1000) (w:World) (hr:w.cell? ⟨b,0,none⟩ = some (.int .u8 (k:Nat))) (hb:b < w.heap.size) :
  Calls Tryz.prog 99 #[.slice (some ⟨b,0,none⟩) 1 1,.int .i64 n] w fun e w'=>∃ g,e = .returned (.slice (some ⟨g,0,none⟩) n n) /\ RowN .u8 w' (some ⟨g,0,none⟩) n (List.replicate n k) /\ Below w.heap.size w w':=by
 go_enter Tryz.func99,Tryz.ntmps99
 go_wp2_with (first | (go_at_call 129;refine (Zabb n (by omega) _).mono ?_;rintro e w' ⟨rfl,rfl⟩) | (at_make;refine makeN Zfb rfl _ _ rfl w.heap.size rfl rfl (by omega) (by omega) (Nat.le_refl _) ?_;intro w1 hown hg))
 have hB1:Below w.heap.size w w1:=Below.of_grown hg (Nat.le_refl _) (fun k e=>by cases e)
 have hrow:=Zacc (l:=List.replicate n 0) (by simpa using hown)
 have hc1:w1.cell? ⟨b,0,none⟩ = some (.int .u8 (k:Nat)):=(hB1.cell (p:=⟨b,0,none⟩) hb).trans hr
 have hrow0:w1.heap[w.heap.size]? = some (.cells (repL n k 0).toArray 5 (0,0)):=by rw [hrow];simp [repL]
 have hg0:w.heap.size <= w.heap.size:=Nat.le_refl _
 clear hown hg hrow
 have hn1:[Value.int .u8 (k:Nat)].length = Nat.min 1 n:=by show 1 = min 1 n;omega
 have hf1:0 + [Value.int .u8 (k:Nat)].length <= (repL n k 0).length:=by simp [repL];omega
 have ho1:∀ v ∈ [Value.int .u8 (k:Nat)],v.oneCell' = true:=by intro v hv;simp at hv;subst hv;rfl
 have hs1:∀ j v,[Value.int .u8 (k:Nat)][j]? = some v -> w1.cell? ((⟨b,0,none⟩:Addr).add j) = some v:=by
  intro j v hj
  cases j with
  | zero=>simp only [List.getElem?_cons_zero,Option.some.injEq] at hj;subst hj;exact hc1
  | succ j=>simp at hj
 have HN1:=Zh hn1
 have HF1:=Zh hf1
 have HO1:=Zh ho1
 have HS1:=Zh hs1
 clear hn1 hf1 ho1 hs1
 obtain ⟨w2,hrun,hrow1,hB2⟩:∃ w2,(∀ ty,(Builtin.copy_ #[24,24] ty #[.slice (some ⟨w.heap.size,0,none⟩) n n,.slice (some ⟨b,0,none⟩) 1 1]).run Tryz.prog w1 = .ok (goInt 1) w2) /\ w2.heap[w.heap.size]? = some (.cells (repL n k 1).toArray 5 (0,0)) /\ Below w.heap.size w w2:=by
  refine ⟨_,fun ty=>run_copy_row (P:=Tryz.prog) w1 24 24 ty 5 w.heap.size 0 n n ⟨b,0,none⟩ 1 1 (repL n k 0).toArray 5 [Value.int .u8 (k:Nat)] Tryz.underlying24 (by kernel_rfl) hrow0 HN1.out HS1.out (by simpa using HF1.out) HO1.out,?_,below_setRow hB1 (Nat.le_refl _) _⟩
  have h:=Zla n k 0 1 (by omega)
  have h':splice (repL n k 0) 0 [Value.int .u8 (k:Nat)] = repL n k 1:=h
  rw [<- h',setRow_heap w1 w.heap.size _ _ _ _ hrow0]
  simp [splice]
 have HRUN:=Zh hrun
 have HROW1:=Zh hrow1
 have HB2:=Zh hB2
 clear hrun hrow1 hB2
 go_wp2_with fail
 rw [HRUN.out]
 simp only [goInt]
 clear HRUN HN1 HF1 HO1 HS1
 generalize hgd:w.heap.size = g at *
 have HGD:=Zh hgd
 clear hgd
 clear hrow0 hc1 hB1
 go_wp2_with fail
 go_loopw [8] (fun i A=>∃ m:Nat,1 <= m /\ m <= n /\ i = .int .i64 m /\ A.heap[g]? = some (.cells (repL n k m).toArray 5 (0,0)) /\ Below g w A) (fun i _=>n - (intOf i).toNat)
 case atStart=>exact ⟨1,by omega,h1,rfl,HROW1.out,HB2.out⟩
 case round =>
  clear HROW1 HB2
  obtain ⟨m,hm1,hmn',rfl,hcur,hbel⟩:=hrel
  by_cases hlt:m < n
  ·obtain ⟨c,hc⟩:∃ c,min m (n - m) = c:=⟨_,rfl⟩
   have hmn:m + c <= n:=by rw [<- hc];omega
   have hcm:c <= m:=by rw [<- hc];omega
   have hc0:1 <= c:=by rw [<- hc];omega
   have HCUR:=Zh hcur
   have HBEL:=Zh hbel
   have hw1:IntKind.i64.wrap ((m:Int) + (c:Int)) = (m:Int) + (c:Int):=IntWalk.i64_in _ (by omega)
   clear hcur hbel
   go_wp2_with fail
   have hcur:=HCUR.out
   have hbel:=HBEL.out
   refine Zbn [38,39,40,41,42,43,44,45,46,8] (fun j=>j == 9) (fun listed w1=>w1.heap[g]? = some (.cells (if listed.getD 7 false = true then repL n k (m + c) else repL n k m).toArray 5 (0,0)) /\ Below g w w1) (fun j v _=>match j with | 0=>v = .int .i64 (m:Nat) | 1=>v = .slice (some ⟨g,0,none⟩) n n | 2=>v = .int .i64 (m:Nat) | 3=>v = .slice (some ⟨g,m,none⟩) (n - m) (n - m) | 4=>v = .slice (some ⟨g,0,none⟩) n n | 5=>v = .int .i64 (m:Nat) | 6=>v = .slice (some ⟨g,0,none⟩) m n | 7=>v = .int .i64 (c:Nat) | 8=>v = .int .i64 ((m + c:Nat):Int) | 9=>v = .int .i64 ((m + c:Nat):Int) | _=>True) (fun _ _ _ _=>True) (by kernel_rfl) (by kernel_rfl) (OneEach.mk' (by kernel_rfl) (by kernel_rfl)) (by kernel_rfl) (by kernel_rfl) ⟨by simpa using hcur,belDN hbel 1⟩ ?_ ?_
   ·intro i0 o hi0 listed a1 w1 hR hil hunf hdes hanc hout hold hdep
    have hsz:i0 < 10:=(Array.getElem?_eq_some_iff.1 hi0).1
    have hall:i0 = 0 \/ i0 = 1 \/ i0 = 2 \/ i0 = 3 \/ i0 = 4 \/ i0 = 5 \/ i0 = 6 \/ i0 = 7 \/ i0 = 8 \/ i0 = 9:=by omega
    clear hsz
    rcases hall with rfl | rfl | rfl | rfl | rfl | rfl | rfl | rfl | rfl | rfl <;> simp only [List.getElem?_toArray,List.getElem?_cons_zero,List.getElem?_cons_succ,Option.some.injEq] at hi0 <;> subst hi0
    ·have f8:a1.eval (.tmp 8) = .int .i64 (m:Nat):=hold 9 _ 8 rfl rfl (hdes 9 (by kernel_rfl))
     refine Zab (v:=.int .i64 (m:Nat)) (w':=w1) (by simp [execOp,f8]) ⟨_,rfl,⟨?_,hR.2⟩,fun j u hu hV _=>⟨hV,trivial,trivial⟩,rfl⟩
     rw [Zaa (by decide)];exact hR.1
    ·have f7:a1.eval (.tmp 7) = .slice (some ⟨g,0,none⟩) n n:=hout 7 (by decide)
     refine Zab (v:=.slice (some ⟨g,0,none⟩) n n) (w':=w1) (by simp [execOp,f7]) ⟨_,rfl,⟨?_,hR.2⟩,fun j u hu hV _=>⟨hV,trivial,trivial⟩,rfl⟩
     rw [Zaa (by decide)];exact hR.1
    ·have f8:a1.eval (.tmp 8) = .int .i64 (m:Nat):=hold 9 _ 8 rfl rfl (hdes 9 (by kernel_rfl))
     refine Zab (v:=.int .i64 (m:Nat)) (w':=w1) (by simp [execOp,f8]) ⟨_,rfl,⟨?_,hR.2⟩,fun j u hu hV _=>⟨hV,trivial,trivial⟩,rfl⟩
     rw [Zaa (by decide)];exact hR.1
    ·have e39:a1.eval (.tmp 39) = .slice (some ⟨g,0,none⟩) n n:=hdep ⟨1,.data⟩ (by simp) rfl _ rfl
     have e40:a1.eval (.tmp 40) = .int .i64 (m:Nat):=hdep ⟨2,.data⟩ (by simp) rfl _ rfl
     refine Zab (v:=.slice (some ⟨g,m,none⟩) (n - m) (n - m)) (w':=w1) (by simp [execOp,e39,e40,cutHi g m n hlt]) ⟨_,rfl,⟨?_,hR.2⟩,fun j u hu hV _=>⟨hV,trivial,trivial⟩,rfl⟩
     rw [Zaa (by decide)];exact hR.1
    ·have f7:a1.eval (.tmp 7) = .slice (some ⟨g,0,none⟩) n n:=hout 7 (by decide)
     refine Zab (v:=.slice (some ⟨g,0,none⟩) n n) (w':=w1) (by simp [execOp,f7]) ⟨_,rfl,⟨?_,hR.2⟩,fun j u hu hV _=>⟨hV,trivial,trivial⟩,rfl⟩
     rw [Zaa (by decide)];exact hR.1
    ·have f8:a1.eval (.tmp 8) = .int .i64 (m:Nat):=hold 9 _ 8 rfl rfl (hdes 9 (by kernel_rfl))
     refine Zab (v:=.int .i64 (m:Nat)) (w':=w1) (by simp [execOp,f8]) ⟨_,rfl,⟨?_,hR.2⟩,fun j u hu hV _=>⟨hV,trivial,trivial⟩,rfl⟩
     rw [Zaa (by decide)];exact hR.1
    ·have e42:a1.eval (.tmp 42) = .slice (some ⟨g,0,none⟩) n n:=hdep ⟨4,.data⟩ (by simp) rfl _ rfl
     have e43:a1.eval (.tmp 43) = .int .i64 (m:Nat):=hdep ⟨5,.data⟩ (by simp) rfl _ rfl
     refine Zab (v:=.slice (some ⟨g,0,none⟩) m n) (w':=w1) (by simp [execOp,e42,e43,cutLo g m n (Nat.le_of_lt hlt)]) ⟨_,rfl,⟨?_,hR.2⟩,fun j u hu hV _=>⟨hV,trivial,trivial⟩,rfl⟩
     rw [Zaa (by decide)];exact hR.1
    ·have e41:a1.eval (.tmp 41) = .slice (some ⟨g,m,none⟩) (n - m) (n - m):=hdep ⟨3,.data⟩ (by simp) rfl _ rfl
     have e44:a1.eval (.tmp 44) = .slice (some ⟨g,0,none⟩) m n:=hdep ⟨6,.data⟩ (by simp) rfl _ rfl
     rw [hunf] at hR
     simp only [Bool.false_eq_true,if_false] at hR
     refine Zpj (ops:=#[]) rfl (wpList_copy_splice rfl (.tmp 41) (.tmp 44) 24 24 rfl 5 Tryz.underlying24 (by kernel_rfl) _ _ (n - m) (n - m) m n e41 e44 g m (repL n k m) 5 hR.1 (List.replicate c (.int .u8 (k:Nat))) (by rw [List.length_replicate];exact hc.symm) (fun _=>⟨rfl,_,rfl,fun j v hj=>Zado hR.1 hcm j v hj⟩) (by simp [repL];omega) (by intro v hv;rw [(List.mem_replicate.1 hv).2];rfl) g w hR.2 (Nat.le_refl _) ?_)
     intro w4 hg4 hb4
     refine ⟨_,rfl,⟨?_,hb4⟩,fun j u hu hV _=>⟨hV,trivial,trivial⟩,by simp [goInt]⟩
     rw [if_pos (Zad hil)]
     rw [Zla n k m c hmn] at hg4
     exact hg4
    ·have e38:a1.eval (.tmp 38) = .int .i64 (m:Nat):=hdep ⟨0,.data⟩ (by simp) rfl _ rfl
     have e45:a1.eval (.tmp 45) = .int .i64 (c:Nat):=hdep ⟨7,.data⟩ (by simp) rfl _ rfl
     refine Zab (v:=.int .i64 ((m + c:Nat):Int)) (w':=w1) (by simp [execOp,e38,e45,eqgA,addI,hw1]) ⟨_,rfl,⟨?_,hR.2⟩,fun j u hu hV _=>⟨hV,trivial,trivial⟩,rfl⟩
     rw [Zaa (by decide)];exact hR.1
    ·have e46:a1.eval (.tmp 46) = .int .i64 ((m + c:Nat):Int):=hdep ⟨8,.data⟩ (by simp) rfl _ rfl
     refine Zab (v:=.int .i64 ((m + c:Nat):Int)) (w':=w1) (by simp [execOp,e46]) ⟨_,rfl,⟨?_,hR.2⟩,fun j u hu hV _=>⟨hV,trivial,trivial⟩,rfl⟩
     rw [Zaa (by decide)];exact hR.1
   ·intro listed f w1 hR hall hV
    have v9:f 8 = .int .i64 ((m + c:Nat):Int):=hV 9 _ rfl rfl
    rw [if_pos (hall 7 (by decide))] at hR
    simp only [spread,List.contains_cons,List.contains_nil,Nat.reduceBEq,Bool.or_false,Bool.or_true,cond_true,cond_false,Nat.reduceAdd,Nat.zero_add,v9]
    go_wp2
    go_roundw
    case rel=>exact ⟨m + c,by omega,hmn,rfl,hR.1,hR.2⟩
    case measure=>simp [intOf];omega
  ·obtain rfl:m = n:=by omega
   have HB:=Zh hbel
   have HC:=Zh hcur
   clear hcur hbel
   go_wp2
   go_ret
   refine ⟨g,rfl,?_,by rw [HGD.out];exact HB.out⟩
   refine ⟨by simp,⟨by omega,fun h=>by cases h⟩,.inr ⟨g,0,rfl,(Array.getElem?_eq_some_iff.1 HC.out).1,fun i hi=>?_⟩⟩
   have hi':i < m:=by simpa using hi
   simp [World.cell?,HC.out,repL,hi']
theorem Zzj (n:Nat) (h1:1 <= n) (h2:n <= 100000) (w:World) (ty:TypeId) :
  ∃ c w',n <= c /\ c <= 9223372036854775807 /\ (Builtin.append_ #[24,3] ty #[.slice none 0 0,.int .i64 (n:Nat)]).run Tryz.prog w = .ok (.slice (some ⟨w.heap.size,0,none⟩) n c) w' /\ OwnN 5 .u8 w' w.heap.size (some ⟨w.heap.size,0,none⟩) c [] /\ Below w.heap.size w w':=by
 have hT:(Tryz.prog.info? 5).map (fun i=>(i.zero,i.size,i.bytes)) = some (some (.int .u8 0),1,1):=by kernel_rfl
 obtain ⟨i,hi,hz,hsz,hby⟩:∃ i,Tryz.prog.info? 5 = some i /\ i.zero = some (.int .u8 0) /\ i.size = 1 /\ i.bytes = 1:=by
  cases h5:Tryz.prog.info? 5 with
  | none=>rw [h5] at hT;cases hT
  | some ie=>rw [h5] at hT;simp only [Option.map_some,Option.some.injEq,Prod.mk.injEq] at hT;exact ⟨ie,rfl,hT.1,hT.2.1,hT.2.2⟩
 have h:=Lib.run_append_grow_zeros (P:=Tryz.prog) w 24 3 ty 5 i (.int .u8 0) .i64 .i64 Tryz.underlying24 Tryz.underlying3 hi hz none 0 0 [] (by rw [hsz];exact run_firstCells_none w.drew 1 0 0 0) n (by omega) (by omega) (by omega) (by omega) (by rw [hby];omega) (by rw [Nat.zero_add];exact growslice_fits (by omega) (by rw [hby];omega))
 simp only [Nat.zero_add] at h
 have hge:=grownCap_ge w n 0 5
 have hle:=grownCap_le_maxLen w n 0 5 (by unfold maxLen;omega)
 generalize grownCap w n 0 5 = G at *
 refine ⟨G,_,hge,by simpa [maxLen] using hle,h,?_,?_⟩
 ·refine ⟨rfl,.inr ⟨w.heap.size,G,_,rfl,Nat.le_refl _,World.alloc_heap_new w.drew _,Nat.zero_le _,hle,?_,rfl⟩⟩
  simp [size_zeroCells,Value.cells];omega
 ·exact (belDN (Below.refl _ w) 1).alloc (Nat.le_refl _) _
theorem Zpy {ops:Array Oper} {rest:List Oper} {o:Oper} {ac:Act} {w:World} {Q:Exit -> Act -> World -> Prop} (hgd:o.guard = none) (s x:Operand)
  (ho:o.op = .call { callee:=.builtin .append,args:=#[s,x],argTypes:=#[24,3] }) (hs:ac.eval s = .slice none 0 0) {n:Nat} (hx:ac.eval x = .int .i64 (n:Nat)) (h1:1 <= n) (h2:n <= 100000)
  (h:∀ c w',n <= c -> c <= 9223372036854775807 -> OwnN 5 .u8 w' w.heap.size (some ⟨w.heap.size,0,none⟩) c [] -> Below w.heap.size w w' -> wpList Tryz.prog ops Q rest (ac.put o.dst (.slice (some ⟨w.heap.size,0,none⟩) n c)) w'):wpList Tryz.prog ops Q (o :: rest) ac w:=by
 refine wpList_plain hgd fun K hK=>?_
 obtain ⟨c,w',hc1,hc2,hrun,hown,hb⟩:=Zzj n h1 h2 w o.type
 unfold Oper.wp
 simp [execOp,ho,resolve,invoke,builtin,hs,hx,hrun,Result.andThen]
 exact hK _ _ (h c w' hc1 hc2 hown hb)
set_option maxRecDepth 100000 in
set_option maxHeartbeats 1600000 in
theorem Zrq (n:Nat) (h1:1 <= n) (h2:n <= 100000) (w:World) :
  Calls Tryz.prog 128 #[.slice none 0 0,.int .i64 n] w fun e w'=>∃ c,e = .returned (.slice (some ⟨w.heap.size,0,none⟩) 0 c) /\ OwnN 5 .u8 w' w.heap.size (some ⟨w.heap.size,0,none⟩) c [] /\ Below w.heap.size w w':=by
 go_enter Tryz.func128,Tryz.ntmps128
 go_wp2_with (at_builtin;refine Zpy rfl (.tmp 20) (.tmp 21) rfl rfl rfl h1 h2 ?_;intro c w1 hc1 hc2 hown hbel)
 go_ret
 exact ⟨c,rfl,hown,hbel⟩
def encSl:Enc (Option Addr × Nat × List Nat) where
 sz:=1
 cells x:=[.slice x.1 x.2.2.length x.2.1]
 len _:=rfl
 one x u hu:=by
  simp only [List.mem_cons,List.not_mem_nil,or_false] at hu
  subst hu;rfl
 pos:=by decide
theorem Zfs (es:List (Option Addr × Nat × List Nat)) (k:Nat) (hk:k < es.length):((es.take (k + 1)).flatMap fun x=>x.2.2) = ((es.take k).flatMap fun x=>x.2.2) ++ es[k].2.2:=by
 rw [List.take_succ_eq_append_getElem hk,List.flatMap_append];simp
theorem Ziq (es:List (Option Addr × Nat × List Nat)) (k:Nat):((es.take k).flatMap fun x=>x.2.2).length <= (es.flatMap fun x=>x.2.2).length:=by
 have:es.flatMap (fun x=>x.2.2) = (es.take k).flatMap (fun x=>x.2.2) ++ (es.drop k).flatMap (fun x=>x.2.2):=by rw [<- List.flatMap_append,List.take_append_drop]
 rw [this,List.length_append];omega
set_option maxRecDepth 100000 in
set_option maxHeartbeats 1600000 in
theorem Zef (a:Option Addr) (cap:Nat) (es:List (Option Addr × Nat × List Nat)) (w:World) (hr:RowS encSl w a cap es) (hrows:∀ x ∈ es,RowN .u8 w x.1 x.2.1 x.2.2) (h1:1 <= (es.flatMap fun x=>x.2.2).length) (h2:(es.flatMap fun x=>x.2.2).length <= 1000) (hes:es.length <= 100) :
  Calls Tryz.prog 92 #[.slice a es.length cap] w fun e w'=>∃ a' c',e = .returned (.slice a' (es.flatMap fun x=>x.2.2).length c') /\ RowN .u8 w' a' c' (es.flatMap fun x=>x.2.2) /\ Below w.heap.size w w':=by
 have HR:=Zh hrows
 clear hrows
 go_enter Tryz.func92,Tryz.ntmps92
 go_wp2
 go_loop [3,5,11] (fun s _ i=>∃ k:Nat,k <= es.length /\ i = .int .i64 k /\ s = .int .i64 ((es.take k).flatMap fun x=>x.2.2).length) (fun _ _ i=>es.length - (intOf i).toNat)
 case atStart=>exact ⟨0,by omega,rfl,by simp⟩
 case round =>
  obtain ⟨k,hk,rfl,rfl⟩:=hrel
  by_cases hlt:k < es.length
  ·obtain ⟨b,off,rfl,hb,hcl⟩:=hr.at hlt
   have c0:=hcl 0 _ rfl
   have hnx:=congrArg List.length (Zfs es k hlt)
   have hle:=Ziq es (k + 1)
   rw [List.length_append] at hnx
   clear hcl
   simp only [encSl,Nat.add_zero,Nat.mul_one] at c0
   generalize es[k] = x at *
   obtain ⟨xa,xc,xl⟩:=x
   simp only at hnx c0
   have HN:=Zh hnx
   generalize ((es.take k).flatMap fun x=>x.2.2).length = m at *
   have hm:m + xl.length <= 1000:=by omega
   clear hnx hle
   go_wp2
   go_round
   case rel=>exact ⟨k + 1,by omega,by go_num,by rw [HN.out];go_num⟩
   case measure=>simp [intOf];omega
  ·obtain rfl:k = es.length:=by omega
   rw [List.take_length]
   obtain ⟨m,hm⟩:∃ m,(es.flatMap fun x=>x.2.2).length = m:=⟨_,rfl⟩
   rw [hm] at h1 h2
   rw [hm]
   have HM:=Zh hm
   clear hm
   go_wp2_with (go_at_call 128;refine (Zrq m h1 (by omega) _).mono ?_;rintro e w1 ⟨c,rfl,hown,hbel⟩)
   have HO:=Zh hown
   have HB:=Zh hbel
   clear hown hbel
   go_loopw [6,8,27] (fun s _ i A=>∃ k:Nat,k <= es.length /\ i = .int .i64 k /\ ∃ b c,s = .slice b ((es.take k).flatMap fun x=>x.2.2).length c /\ OwnN 5 .u8 A w.heap.size b c ((es.take k).flatMap fun x=>x.2.2) /\ Below w.heap.size w A) (fun _ _ i _=>es.length - (intOf i).toNat)
   case atStart=>exact ⟨0,by omega,rfl,_,_,rfl,by simpa using HO.out,HB.out⟩
   case round =>
    clear HO HB
    obtain ⟨k,hk,rfl,b0,cb,rfl,hown,hbel⟩:=hrel
    by_cases hlt:k < es.length
    ·have hrA:=hr.below hbel
     obtain ⟨b,off,rfl,hb,hcl⟩:=hrA.at hlt
     have c0:=hcl 0 _ rfl
     have hx:=(HR.out _ (List.getElem_mem hlt)).below hbel
     have hnx:=Zfs es k hlt
     have hle:=Ziq es (k + 1)
     rw [HM.out,hnx,List.length_append] at hle
     clear hcl hrA
     simp only [encSl,Nat.add_zero,Nat.mul_one] at c0
     generalize es[k] = x at *
     obtain ⟨xa,xc,xl⟩:=x
     simp only at hnx c0 hx hle
     have HN:=Zh hnx
     have HBEL:=Zh hbel
     have HW:=Zh hbel.size
     clear hnx hbel
     generalize ((es.take k).flatMap fun x=>x.2.2) = L at *
     go_wp2_with (at_builtin;refine appAnyN Zfb rfl (.tmp 31) (.tmp 32) rfl rfl hown rfl rfl hx (by omega) (by omega) HW.out ?_;intro a3 cap3 w3 hown3 hg3 hb3)
     have HO3:=Zh hown3
     have HB3:=Zh (HBEL.out.trans hb3)
     clear hown3 hg3 hb3 hown
     go_wp2
     go_roundw
     case rel=>exact ⟨k + 1,by omega,by go_num,a3,cap3,by rw [HN.out,List.length_append],by rw [HN.out];exact HO3.out,HB3.out⟩
     case measure=>simp [intOf];omega
    ·obtain rfl:k = es.length:=by omega
     rw [List.take_length] at hown ⊢
     have HO:=Zh hown
     have HB:=Zh hbel
     clear hown hbel
     go_wp2
     go_ret
     exact ⟨_,_,by rw [HM.out];rfl,HO.out.row,HB.out⟩
def fixF:List Nat:=List.replicate 144 8 ++ (List.replicate 112 9 ++ (List.replicate 24 7 ++ List.replicate 8 8))
def fixO:List Nat:=List.replicate 30 5
theorem Zdp (n k:Nat) (h1:1 <= n) (h2:n <= 1000) (w:World) :
  Calls Tryz.prog 141 #[.int .i64 n,.int .u8 k] w fun e w'=>∃ g,e = .returned (.slice (some ⟨g,0,none⟩) n n) /\ RowN .u8 w' (some ⟨g,0,none⟩) n (List.replicate n k) /\ Below w.heap.size w w':=by
 go_enter Tryz.func141,Tryz.ntmps141
 go_wp2_with fail
 refine (Zbp n k _ h1 h2 _ ?h1 ?h2).mono ?_
 case h1=>exact cell_of_one (World.alloc_heap_new _ _)
 case h2=>simp
 rintro e w1 ⟨g,rfl,hr,hb⟩
 have HR:=Zh hr
 have HB:=Zh hb
 clear hr hb
 go_wp2
 go_ret
 exact ⟨g,rfl,HR.out,(Zcu _ _).trans (HB.out.mono (by simp))⟩
def four4 (g1 g2 g3 g4:Nat):List (Option Addr × Nat × List Nat):=[(some ⟨g1,0,none⟩,144,List.replicate 144 8),(some ⟨g2,0,none⟩,112,List.replicate 112 9),(some ⟨g3,0,none⟩,24,List.replicate 24 7),(some ⟨g4,0,none⟩,8,List.replicate 8 8)]
theorem Zcw (g1 g2 g3 g4:Nat):((four4 g1 g2 g3 g4).flatMap fun x=>x.2.2) = fixF:=by simp [four4,fixF]
theorem Zir (g1 g2 g3 g4:Nat):(flat encSl (four4 g1 g2 g3 g4)).toArray = #[.slice (some ⟨g1,0,none⟩) 144 144,.slice (some ⟨g2,0,none⟩) 112 112,.slice (some ⟨g3,0,none⟩) 24 24,.slice (some ⟨g4,0,none⟩) 8 8]:=by
 simp [four4,flat,encSl]
theorem Zdg:fixF.length = 288:=by unfold fixF;simp only [List.length_append,List.length_replicate,Nat.reduceAdd]
theorem concat4 (g1 g2 g3 g4:Nat) (w:World) (r1:RowN .u8 w (some ⟨g1,0,none⟩) 144 (List.replicate 144 8)) (r2:RowN .u8 w (some ⟨g2,0,none⟩) 112 (List.replicate 112 9)) (r3:RowN .u8 w (some ⟨g3,0,none⟩) 24 (List.replicate 24 7)) (r4:RowN .u8 w (some ⟨g4,0,none⟩) 8 (List.replicate 8 8)) :
  Calls Tryz.prog 92 #[.slice (some ⟨w.heap.size,0,none⟩) 4 4] (w.alloc (.cells #[.slice (some ⟨g1,0,none⟩) 144 144,.slice (some ⟨g2,0,none⟩) 112 112,.slice (some ⟨g3,0,none⟩) 24 24,.slice (some ⟨g4,0,none⟩) 8 8] 24)) fun e w' =>
   ∃ a c,e = .returned (.slice a 288 c) /\ RowN .u8 w' a c fixF /\ Below w.heap.size w w':=by
 have hb:=Zcu w (.cells #[.slice (some ⟨g1,0,none⟩) 144 144,.slice (some ⟨g2,0,none⟩) 112 112,.slice (some ⟨g3,0,none⟩) 24 24,.slice (some ⟨g4,0,none⟩) 8 8] 24)
 have hR:=RowS.lit encSl w (four4 g1 g2 g3 g4) 24 _ _ rfl (Zir g1 g2 g3 g4).symm (by simp [four4])
 have h:=Zef (some ⟨w.heap.size,0,none⟩) 4 (four4 g1 g2 g3 g4) _ hR ?_ (by rw [Zcw,Zdg];decide) (by rw [Zcw,Zdg];decide) (by simp [four4])
 ·rw [Zcw,Zdg] at h
  refine h.mono ?_
  rintro e w' ⟨a,c,rfl,hr,hb2⟩
  exact ⟨a,c,rfl,hr,hb.trans (hb2.mono (by simp))⟩
 ·intro x hx
  simp only [four4,List.mem_cons,List.not_mem_nil,or_false] at hx
  rcases hx with rfl | rfl | rfl | rfl
  ·exact r1.below hb
  ·exact r2.below hb
  ·exact r3.below hb
  ·exact r4.below hb
set_option maxRecDepth 100000 in
set_option maxHeartbeats 1600000 in
theorem Zuf (w:World) :
  Calls Tryz.prog 105 #[] w fun e w'=>∃ a1 c1 a2 c2,e = .returned (.tuple #[.slice a1 288 c1,.slice a2 30 c2]) /\ RowN .u8 w' a1 c1 fixF /\ RowN .u8 w' a2 c2 fixO /\ Below w.heap.size w w':=by
 go_enter Tryz.func105,Tryz.ntmps105
 go_wp2_with fail
 refine (Zdp 144 8 (by decide) (by decide) _).mono ?_
 rintro e w1 ⟨g1,rfl,r1,b1⟩
 go_wp2_with fail
 refine (Zdp 112 9 (by decide) (by decide) _).mono ?_
 rintro e w2 ⟨g2,rfl,r2,b2⟩
 go_wp2_with fail
 refine (Zdp 24 7 (by decide) (by decide) _).mono ?_
 rintro e w3 ⟨g3,rfl,r3,b3⟩
 go_wp2_with fail
 refine (Zdp 8 8 (by decide) (by decide) _).mono ?_
 rintro e w4 ⟨g4,rfl,r4,b4⟩
 have R1:=((r1.below b2).below b3).below b4
 have R2:=(r2.below b3).below b4
 have R3:=r3.below b4
 have B:=((b1.trans (b2.mono b1.size)).trans (b3.mono (b1.trans (b2.mono b1.size)).size)).trans (b4.mono ((b1.trans (b2.mono b1.size)).trans (b3.mono (b1.trans (b2.mono b1.size)).size)).size)
 have HR1:=Zh R1
 have HR2:=Zh R2
 have HR3:=Zh R3
 have HR4:=Zh r4
 have HB:=Zh B
 clear r1 r2 r3 r4 b1 b2 b3 b4 R1 R2 R3 B
 go_wp2_with fail
 refine (concat4 g1 g2 g3 g4 w4 HR1.out HR2.out HR3.out HR4.out).mono ?_
 rintro e w5 ⟨a5,c5,rfl,r5,b5⟩
 have HR5:=Zh r5
 have HB5:=Zh (HB.out.trans (b5.mono HB.out.size))
 clear r5 b5 HR1 HR2 HR3 HR4 HB
 go_wp2_with fail
 refine (Zdp 30 5 (by decide) (by decide) _).mono ?_
 rintro e w6 ⟨g6,rfl,r6,b6⟩
 have HR6:=Zh r6
 have HR7:=Zh (HR5.out.below b6)
 have HB6:=Zh (HB5.out.trans (b6.mono HB5.out.size))
 clear r6 b6 HR5 HB5
 go_wp2
 go_ret2
 exact ⟨a5,c5,_,30,rfl,HR7.out,HR6.out,HB6.out⟩
def fixD:List Nat:=List.replicate 32 5
end Go.Proofs.YtendielanacflaaGreat

namespace Go.Proofs.YtendielanacflaaGreat
open Go.RowKit Go.Shelf M07
def encSg:Enc Sg:=⟨2,fun s=>[.int .u8 (s.1:Nat),.int .u8 (s.2:Nat)],fun _=>rfl,fun _ u hu=>by simp at hu;rcases hu with rfl | rfl <;> rfl,by decide⟩
theorem Zaz:ElemS Tryz.prog 91 95 encSg (.agg #[.int .u8 0,.int .u8 0]) 2:=⟨Tryz.underlying91,by kernel_rfl,by kernel_rfl⟩
def sgV (s:Sg):Value:=.agg #[.int .u8 (s.1:Nat),.int .u8 (s.2:Nat)]
set_option maxRecDepth 100000 in
theorem Zec (c:Nat) (w:World):Calls Tryz.prog 49 #[.int .u8 (c:Nat)] w fun e w'=>e = .returned (.int .i64 (rbits c:Nat)) /\ w' = w:=by
 by_cases h1:c = 16
 ·subst h1
  go_enter Tryz.func49,Tryz.ntmps49
  go_wp2
  go_ret
  exact ⟨rfl,rfl⟩
 by_cases h2:c = 17
 ·subst h2
  go_enter Tryz.func49,Tryz.ntmps49
  go_wp2
  go_ret
  exact ⟨rfl,rfl⟩
 by_cases h3:c = 18
 ·subst h3
  go_enter Tryz.func49,Tryz.ntmps49
  go_wp2
  go_ret
  exact ⟨rfl,rfl⟩
 have hr:Hid (rbits c = 0):=by unfold Hid rbits;rw [if_neg h1,if_neg h2,if_neg h3]
 have t1:((c:Int) == 16) = false:=by simp;omega
 have t2:((c:Int) == 17) = false:=by simp;omega
 have t3:((c:Int) == 18) = false:=by simp;omega
 clear h1 h2 h3
 go_enter Tryz.func49,Tryz.ntmps49
 go_wp2
 go_ret
 exact ⟨by rw [hr.out];rfl,rfl⟩
set_option maxRecDepth 100000 in
theorem Zeq (s:Sg) (hs:SgOk s) (w:World):Calls Tryz.prog 127 #[sgV s] w fun e w'=>e = .returned (.int .i64 (times s:Nat)) /\ Below w.heap.size w w':=by
 have hx:=hs.lt
 obtain ⟨c,x⟩:=s
 unfold sgV
 have HB:=Zh (Zav w (.cells #[.int .u8 (c:Nat),.int .u8 (x:Nat)] 95))
 simp only at hx
 by_cases h1:c < 16
 ·have hr:Hid (times (c,x) = 1):=by unfold Hid times;rw [if_pos h1]
  have t1:decide ((c:Int) < 16) = true:=by simp;omega
  clear h1
  go_enter Tryz.func127,Tryz.ntmps127
  go_wp2
  go_ret
  exact ⟨by rw [hr.out];rfl,HB.out⟩
 by_cases h2:c < 18
 ·have hr:Hid (Ending.returned (.int .i64 (3 + (x:Int))) = Ending.returned (.int .i64 (times (c,x):Nat))):=by unfold Hid times;rw [if_neg h1,if_pos h2];rfl
  have t1:decide ((c:Int) < 16) = false:=by simp;omega
  have t2:decide ((c:Int) < 18) = true:=by simp;omega
  clear h1 h2
  go_enter Tryz.func127,Tryz.ntmps127
  go_wp2
  go_ret
  exact ⟨hr.out,HB.out⟩
 have hr:Hid (Ending.returned (.int .i64 (11 + (x:Int))) = Ending.returned (.int .i64 (times (c,x):Nat))):=by unfold Hid times;rw [if_neg h1,if_neg h2];rfl
 have t1:decide ((c:Int) < 16) = false:=by simp;omega
 have t2:decide ((c:Int) < 18) = false:=by simp;omega
 clear h1 h2
 go_enter Tryz.func127,Tryz.ntmps127
 go_wp2
 go_ret
 exact ⟨hr.out,HB.out⟩
theorem Zaba (n x:Nat) (h7:n <= 7) (h:x < 2 ^ n):decide (wrap64 ((2:Int) ^ n) <= (x:Int)) = false:=by
 have hall:∀ k:Fin 8,wrap64 ((2:Int) ^ k.val) = ((2 ^ k.val:Nat):Int):=by decide +kernel
 have:=hall ⟨n,by omega⟩
 simp only at this
 rw [this]
 simp only [decide_eq_false_iff_not]
 omega
theorem Zpz {B:Nat} {w w':World} (h:Below B w w') (q:Nat):Below B w (w'.drewN q):=⟨h.os,h.tape,h.output,h.size,h.block⟩
set_option maxRecDepth 100000 in
theorem Zvv (s:Sg) (hs:SgOk s) (w:World):Calls Tryz.prog 154 #[sgV s] w fun e w'=>e = .returned (.bool false) /\ Below w.heap.size w w':=by
 have hx:=hs.lt
 obtain ⟨c,x⟩:=s
 obtain ⟨hc,h2⟩:=hs
 unfold sgV
 simp only at hx hc h2
 have HB:=Zh (Zav w (.cells #[.int .u8 (c:Nat),.int .u8 (x:Nat)] 95))
 have t1:decide ((18:Int) < (c:Int)) = false:=by simp;omega
 have HBT:=Zh (fun A=>Zec c A)
 have hr7:rbits c <= 7:=by unfold rbits;(repeat' split) <;> omega
 clear hc
 generalize rbits c = n at *
 go_enter Tryz.func154,Tryz.ntmps154
 go_wp2_with fail
 obtain ⟨b0,b1⟩:=Zbo w (.int .u8 (c:Nat)) (.int .u8 (x:Nat)) 95
 generalize w.alloc (.cells #[.int .u8 (c:Nat),.int .u8 (x:Nat)] 95) = W at *
 go_quiet ((go_at_call 49;exact (HBT.out _).mono (fun _ _ h=>⟨h.1,_,h.2⟩)))
 have hd:decide (wrap64 ((2:Int) ^ n) <= (x:Int)) = false:=Zaba n x hr7 h2
 go_wp2_with fail
 simp only [hd]
 go_ret
 exact ⟨rfl,Zpz HB.out _⟩
set_option maxRecDepth 100000 in
theorem Zadu (a:Option Addr) (cap:Nat) (l:List Sg) (w:World) (hr:RowS encSg w a cap l) (hok:∀ s ∈ l,SgOk s) :
  Calls Tryz.prog 157 #[.slice a l.length cap,.func (Fn.func 154) #[] #[]] w fun e w'=>e = .returned (.int .i64 (-1)) /\ Below w.heap.size w w':=by
 have HOK:=Zh hok
 have hlen:=hr.len
 clear hok
 go_enter Tryz.func157,Tryz.ntmps157
 go_wp2_with fail
 go_loopw [5,8] (fun _ i A=>∃ k:Nat,k <= l.length /\ i = .int .i64 k /\ Below w.heap.size w A) (fun _ i _=>l.length - (intOf i).toNat)
 case atStart=>exact ⟨0,by omega,rfl,Below.refl _ _⟩
 case round =>
  obtain ⟨k,hk,rfl,hbel⟩:=hrel
  by_cases hlt:k < l.length
  ·have hrA:=hr.below hbel
   obtain ⟨b,off,rfl,hb,hcl⟩:=hrA.at hlt
   have c0:=hcl 0 _ rfl
   have c1:=hcl 1 _ rfl
   have hs:=HOK.out _ (List.getElem_mem hlt)
   have HBEL:=Zh hbel
   have HR:=Zh hr
   clear hrA hcl hbel hr
   generalize l[k] = s at *
   have HC:=Zh (Zvv s hs)
   clear hs
   obtain ⟨c,x⟩:=s
   simp only [encSg,Nat.add_zero] at c0 c1
   rw [<- Nat.add_assoc] at c1
   go_wp2_with fail
   refine (HC.out _).mono ?_
   rintro e w1 ⟨rfl,hb1⟩
   have HB1:=Zh (HBEL.out.trans (hb1.mono HBEL.out.size))
   clear hb1 HC HBEL c0 c1
   go_wp2
   go_roundw
   case rel=>exact ⟨k + 1,by omega,by go_num,HB1.out⟩
   case measure=>simp [intOf];omega
  ·obtain rfl:k = l.length:=by omega
   have HBEL:=Zh hbel
   clear hbel
   go_wp2
   go_ret
   exact ⟨rfl,HBEL.out⟩
theorem Zro (a:Option Addr) (cap:Nat) (l:List Sg) (w:World) (hr:RowS encSg w a cap l) (hok:∀ s ∈ l,SgOk s) :
  Calls Tryz.prog 153 #[.slice a l.length cap,.func (Fn.func 154) #[] #[]] w fun e w'=>e = .returned (.bool false) /\ Below w.heap.size w w':=by
 have HC:=Zh (Zadu a cap l w hr hok)
 clear hr hok
 go_enter Tryz.func153,Tryz.ntmps153
 go_wp2_with fail
 refine HC.out.mono ?_
 rintro e w1 ⟨rfl,hb⟩
 have HB:=Zh hb
 clear hb HC
 go_wp2
 go_ret
 exact ⟨rfl,HB.out⟩
def UnpOut (B n:Nat) (R:Option (List Nat)) (e:Ending) (w':World):Prop :=
 match R with
 | some o=>∃ a c,e = .returned (.tuple #[.slice a o.length c,.int .i64 0]) /\ OwnN 5 .u8 w' B a c o
 | none=>e = .returned (.tuple #[.slice none 0 0,.int .i64 2])
set_option maxRecDepth 100000 in
set_option maxHeartbeats 1600000 in
theorem Zmo (a:Option Addr) (cap:Nat) (l:List Sg) (n:Nat) (w:World) (hr:RowS encSg w a cap l) (hok:∀ s ∈ l,SgOk s) (hn:n <= 1000) (hl:l.length <= 100000) :
  Calls Tryz.prog 139 #[.slice a l.length cap,.int .i64 (n:Nat)] w fun e w'=>Below w.heap.size w w' /\ UnpOut w.heap.size n (unp n l []) e w':=by
 have HC:=Zh (Zro a cap l w hr hok)
 have HOK:=Zh hok
 have HR:=Zh hr
 clear hr hok
 obtain ⟨R,hR0⟩:∃ R,R = unp n l []:=⟨_,rfl⟩
 rw [<- hR0]
 replace hR0:=Zh hR0
 go_enter Tryz.func139,Tryz.ntmps139
 go_wp2_with fail
 refine HC.out.mono ?_
 rintro e w1 ⟨rfl,hb1⟩
 have HB1:=Zh hb1
 clear HC hb1
 go_wp2_with fail
 go_loopw [6,8,9,14] (fun s _ _ i A=>∃ k:Nat,k <= l.length /\ i = .int .i64 k /\ ∃ out b c,s = .slice b out.length c /\ OwnN 5 .u8 A w.heap.size b c out /\ Below w.heap.size w A /\ out.length <= n /\ R = unp n (l.drop k) out) (fun _ _ _ i _=>l.length - (intOf i).toNat)
 case atStart=>exact ⟨0,by omega,rfl,[],none,0,rfl,OwnN.nil _ _ _ _,HB1.out,by simp,hR0.out⟩
 case round =>
  clear HB1 hR0
  obtain ⟨k,hk,rfl,out,ob,oc,rfl,hown,hbel,hon,hR⟩:=hrel
  have HBEL:=Zh hbel
  by_cases hlt:k < l.length
  ·have hrA:=HR.out.below hbel
   obtain ⟨b,off,rfl,hb,hcl⟩:=hrA.at hlt
   have c0:=hcl 0 _ rfl
   have c1:=hcl 1 _ rfl
   have hs:=HOK.out _ (List.getElem_mem hlt)
   have hdrop:l.drop k = l[k] :: l.drop (k + 1):=List.drop_eq_getElem_cons hlt
   rw [hdrop] at hR
   clear hrA hcl hdrop hbel
   generalize l[k] = s at *
   have HT:=Zh (fun A=>Zeq s hs A)
   have htb:=Zfp hs
   have hx:=hs.lt
   have hc18:=hs.1
   clear hs
   unfold unp at hR
   obtain ⟨c,x⟩:=s
   simp only [encSg,Nat.add_zero] at c0 c1
   rw [<- Nat.add_assoc] at c1
   simp only at hR hx hc18
   have HOWN:=Zh hown
   clear hown
   by_cases h16:c = 16
   ·subst h16
    by_cases ho0:out.length = 0
    ·have HRR:Hid (R = none):=by
      rw [if_pos ⟨rfl,ho0⟩] at hR;exact hR
     clear hR
     have t0:((out.length:Int) == 0) = true:=by rw [ho0];rfl
     clear ho0
     go_wp2_with fail
     go_ret2
     rw [HRR.out]
     exact ⟨HBEL.out.trans ((Zav wr _).mono HBEL.out.size),rfl⟩
    ·rw [if_neg (fun h=>ho0 h.2)] at hR
     have t0:((out.length:Int) == 0) = false:=beq_eq_false_iff_ne.2 (by omega)
     have hil:out.length - 1 < out.length:=by omega
     obtain ⟨lb,rfl,hlb0,hlb,hcl,_⟩:=HOWN.out.at hil
     have hcl2:=((Zav wr (.cells #[.int .u8 16,.int .u8 (x:Nat)] 95)).cell (p:=⟨lb,out.length - 1,none⟩) hlb).trans hcl
     have hkv:kOf 16 out = out[out.length - 1]:=by unfold kOf;rw [if_pos rfl];simp [hil]
     rw [hkv] at hR
     have q1:(out.length:Int) - 1 = ((out.length - 1:Nat):Int):=by omega
     have q2:(out.length:Int) - 1 < (out.length:Int):=by omega
     have HR2:=Zh hR
     clear hR hkv ho0 hcl
     generalize out[out.length - 1] = kv at *
     generalize hix:out.length - 1 = ix at *
     generalize htm:times (16,x) = tm at *
     replace hix:=Zh hix
     replace htm:=Zh htm
     go_wp2_with fail
     obtain ⟨e0,e1⟩:=Zbo wr (.int .u8 (16:Nat)) (.int .u8 (x:Nat)) 95
     have HBW:=Zh (HBEL.out.trans ((Zav wr (.cells #[.int .u8 (16:Nat),.int .u8 (x:Nat)] 95)).mono HBEL.out.size))
     have HOW:=Zh (HOWN.out.below (Zav wr (.cells #[.int .u8 (16:Nat),.int .u8 (x:Nat)] 95)))
     have hnb:wr.heap.size < (wr.alloc (.cells #[.int .u8 (16:Nat),.int .u8 (x:Nat)] 95)).heap.size:=by simp
     clear HBEL HOWN c0 c1
     generalize wr.alloc (.cells #[.int .u8 (16:Nat),.int .u8 (x:Nat)] 95) = W at *
     generalize wr.heap.size = nb at *
     refine (HT.out W).mono ?_
     rintro e w3 ⟨rfl,hb3⟩
     have d0:=(hb3.cell (p:=⟨nb,0,none⟩) hnb).trans e0
     have d1:=(hb3.cell (p:=⟨nb,1,none⟩) hnb).trans e1
     have HB3:=Zh (HBW.out.trans (hb3.mono HBW.out.size))
     have HO3:=Zh (HOW.out.below hb3)
     have hnb3:nb < w3.heap.size:=Nat.lt_of_lt_of_le hnb hb3.size
     clear HBW HOW hb3 e0 e1 hnb
     by_cases hfit:n < out.length + tm
     ·have HRR:Hid (R = none):=by have:=HR2.out;rwa [if_pos hfit] at this
      have t5:decide ((n:Int) - (out.length:Int) < (tm:Int)) = true:=by simp;omega
      clear hfit
      go_wp2
      go_ret2
      rw [HRR.out]
      exact ⟨HB3.out,rfl⟩
     ·have HRR:Hid (R = unp n (l.drop (k + 1)) (out ++ List.replicate tm kv)):=by have:=HR2.out;rwa [if_neg hfit] at this
      have t5:decide ((n:Int) - (out.length:Int) < (tm:Int)) = false:=by simp;omega
      have hfit2:out.length + tm <= n:=by omega
      clear hfit HR2
      go_wp2_with fail
      have f0:=((Zav w3 (.cells #[.int .u8 (kv:Nat)] 5)).cell (p:=⟨nb,0,none⟩) hnb3).trans d0
      have f1:=((Zav w3 (.cells #[.int .u8 (kv:Nat)] 5)).cell (p:=⟨nb,1,none⟩) hnb3).trans d1
      have g0:(w3.alloc (.cells #[.int .u8 (kv:Nat)] 5)).cell? ⟨w3.heap.size,0,none⟩ = some (.int .u8 (kv:Nat)):=cell_of_one (World.alloc_heap_new _ _)
      have hgs:w3.heap.size < (w3.alloc (.cells #[.int .u8 (kv:Nat)] 5)).heap.size:=by simp
      have HB4:=Zh (HB3.out.trans ((Zav w3 (.cells #[.int .u8 (kv:Nat)] 5)).mono HB3.out.size))
      have HO4:=Zh (HO3.out.below (Zav w3 (.cells #[.int .u8 (kv:Nat)] 5)))
      clear HB3 HO3 d0 d1
      generalize w3.alloc (.cells #[.int .u8 (kv:Nat)] 5) = W4 at *
      generalize w3.heap.size = gs at *
      go_wp2_with fail
      refine (HT.out W4).mono ?_
      rintro e w5 ⟨rfl,hb5⟩
      have g5:=(hb5.cell (p:=⟨gs,0,none⟩) hgs).trans g0
      have hgs5:=Nat.lt_of_lt_of_le hgs hb5.size
      have HB5:=Zh (HB4.out.trans (hb5.mono HB4.out.size))
      have HO5:=Zh (HO4.out.below hb5)
      have HREP:=Zh (Zbp tm kv gs htb.1 (by omega) w5 g5 hgs5)
      clear HB4 HO4 hb5 f0 f1 g0 g5
      go_wp2_with fail
      refine HREP.out.mono ?_
      rintro e w6 ⟨g,rfl,hr6,hb6⟩
      have HB6:=Zh (HB5.out.trans (hb6.mono HB5.out.size))
      have HO6:=Zh (HO5.out.below hb6)
      have hl6:tm = (List.replicate tm kv).length:=by simp
      have HW6:=Zh (HB6.out.size)
      have HR6:=Zh hr6
      have hbd:out.length + tm <= 1000:=by omega
      have HL6:=Zh hl6
      clear hb6 HB5 HO5 HREP hr6 hl6
      go_wp2_with (at_builtin;refine appAnyN Zfb rfl (.tmp 47) (.tmp 52) rfl rfl HO6.out HL6.out rfl HR6.out (by omega) (by omega) HW6.out ?_;intro a7 cap7 w7 hown7 hg7 hb7;replace hown7:=Zh hown7;replace hb7:=Zh (HB6.out.trans hb7);clear hg7)
      go_wp2
      go_roundw
      case rel=>exact ⟨k + 1,by omega,by go_num,_,a7,cap7,by rw [List.length_append,List.length_replicate],hown7.out,hb7.out,by rw [List.length_append,List.length_replicate];omega,HRR.out⟩
      case measure=>simp [intOf];omega
   ·rw [if_neg (fun h=>h16 h.1)] at hR
    have t0:((c:Int) == 16) = false:=beq_eq_false_iff_ne.2 (by omega)
    by_cases hgt:16 < c
    ·have hkv:kOf c out = 0:=by unfold kOf;rw [if_neg h16,if_pos hgt]
     have t1:decide ((16:Int) < (c:Int)) = true:=by simp;omega
     rw [hkv] at hR
     have HR2:=Zh hR
     obtain ⟨kv,hkv0⟩:∃ kv,kv = 0:=⟨0,rfl⟩
     clear hR hkv h16 hgt
     generalize htm:times (c,x) = tm at *
     replace htm:=Zh htm
     rw [<- hkv0] at HR2
     subst hkv0
     go_wp2_with fail
     obtain ⟨e0,e1⟩:=Zbo wr (.int .u8 (c:Nat)) (.int .u8 (x:Nat)) 95
     have HBW:=Zh (HBEL.out.trans ((Zav wr (.cells #[.int .u8 (c:Nat),.int .u8 (x:Nat)] 95)).mono HBEL.out.size))
     have HOW:=Zh (HOWN.out.below (Zav wr (.cells #[.int .u8 (c:Nat),.int .u8 (x:Nat)] 95)))
     have hnb:wr.heap.size < (wr.alloc (.cells #[.int .u8 (c:Nat),.int .u8 (x:Nat)] 95)).heap.size:=by simp
     clear HBEL HOWN c0 c1
     generalize wr.alloc (.cells #[.int .u8 (c:Nat),.int .u8 (x:Nat)] 95) = W at *
     generalize wr.heap.size = nb at *
     refine (HT.out W).mono ?_
     rintro e w3 ⟨rfl,hb3⟩
     have d0:=(hb3.cell (p:=⟨nb,0,none⟩) hnb).trans e0
     have d1:=(hb3.cell (p:=⟨nb,1,none⟩) hnb).trans e1
     have HB3:=Zh (HBW.out.trans (hb3.mono HBW.out.size))
     have HO3:=Zh (HOW.out.below hb3)
     have hnb3:nb < w3.heap.size:=Nat.lt_of_lt_of_le hnb hb3.size
     clear HBW HOW hb3 e0 e1 hnb
     by_cases hfit:n < out.length + tm
     ·have HRR:Hid (R = none):=by have:=HR2.out;rwa [if_pos hfit] at this
      have t5:decide ((n:Int) - (out.length:Int) < (tm:Int)) = true:=by simp;omega
      clear hfit
      go_wp2
      go_ret2
      rw [HRR.out]
      exact ⟨HB3.out,rfl⟩
     ·have HRR:Hid (R = unp n (l.drop (k + 1)) (out ++ List.replicate tm 0)):=by have:=HR2.out;rwa [if_neg hfit] at this
      have t5:decide ((n:Int) - (out.length:Int) < (tm:Int)) = false:=by simp;omega
      have hfit2:out.length + tm <= n:=by omega
      clear hfit HR2
      go_wp2_with fail
      have f0:=((Zav w3 (.cells #[.int .u8 (0:Nat)] 5)).cell (p:=⟨nb,0,none⟩) hnb3).trans d0
      have f1:=((Zav w3 (.cells #[.int .u8 (0:Nat)] 5)).cell (p:=⟨nb,1,none⟩) hnb3).trans d1
      have g0:(w3.alloc (.cells #[.int .u8 (0:Nat)] 5)).cell? ⟨w3.heap.size,0,none⟩ = some (.int .u8 (0:Nat)):=cell_of_one (World.alloc_heap_new _ _)
      have hgs:w3.heap.size < (w3.alloc (.cells #[.int .u8 (0:Nat)] 5)).heap.size:=by simp
      have HB4:=Zh (HB3.out.trans ((Zav w3 (.cells #[.int .u8 (0:Nat)] 5)).mono HB3.out.size))
      have HO4:=Zh (HO3.out.below (Zav w3 (.cells #[.int .u8 (0:Nat)] 5)))
      clear HB3 HO3 d0 d1
      generalize w3.alloc (.cells #[.int .u8 (0:Nat)] 5) = W4 at *
      generalize w3.heap.size = gs at *
      go_wp2_with fail
      refine (HT.out W4).mono ?_
      rintro e w5 ⟨rfl,hb5⟩
      have g5:=(hb5.cell (p:=⟨gs,0,none⟩) hgs).trans g0
      have hgs5:=Nat.lt_of_lt_of_le hgs hb5.size
      have HB5:=Zh (HB4.out.trans (hb5.mono HB4.out.size))
      have HO5:=Zh (HO4.out.below hb5)
      have HREP:=Zh (Zbp tm 0 gs htb.1 (by omega) w5 g5 hgs5)
      clear HB4 HO4 hb5 f0 f1 g0 g5
      go_wp2_with fail
      refine HREP.out.mono ?_
      rintro e w6 ⟨g,rfl,hr6,hb6⟩
      have HB6:=Zh (HB5.out.trans (hb6.mono HB5.out.size))
      have HO6:=Zh (HO5.out.below hb6)
      have hl6:tm = (List.replicate tm 0).length:=by simp
      have HW6:=Zh (HB6.out.size)
      have HR6:=Zh hr6
      have hbd:out.length + tm <= 1000:=by omega
      have HL6:=Zh hl6
      clear hb6 HB5 HO5 HREP hr6 hl6
      go_wp2_with (at_builtin;refine appAnyN Zfb rfl (.tmp 47) (.tmp 52) rfl rfl HO6.out HL6.out rfl HR6.out (by omega) (by omega) HW6.out ?_;intro a7 cap7 w7 hown7 hg7 hb7;replace hown7:=Zh hown7;replace hb7:=Zh (HB6.out.trans hb7);clear hg7)
      go_wp2
      go_roundw
      case rel=>exact ⟨k + 1,by omega,by go_num,_,a7,cap7,by rw [List.length_append,List.length_replicate],hown7.out,hb7.out,by rw [List.length_append,List.length_replicate];omega,HRR.out⟩
      case measure=>simp [intOf];omega
    ·have hkv:kOf c out = c:=by unfold kOf;rw [if_neg h16,if_neg hgt]
     have t1:decide ((16:Int) < (c:Int)) = false:=by simp;omega
     rw [hkv] at hR
     have HR2:=Zh hR
     clear hR hkv h16 hgt
     generalize htm:times (c,x) = tm at *
     replace htm:=Zh htm
     go_wp2_with fail
     obtain ⟨e0,e1⟩:=Zbo wr (.int .u8 (c:Nat)) (.int .u8 (x:Nat)) 95
     have HBW:=Zh (HBEL.out.trans ((Zav wr (.cells #[.int .u8 (c:Nat),.int .u8 (x:Nat)] 95)).mono HBEL.out.size))
     have HOW:=Zh (HOWN.out.below (Zav wr (.cells #[.int .u8 (c:Nat),.int .u8 (x:Nat)] 95)))
     have hnb:wr.heap.size < (wr.alloc (.cells #[.int .u8 (c:Nat),.int .u8 (x:Nat)] 95)).heap.size:=by simp
     clear HBEL HOWN c0 c1
     generalize wr.alloc (.cells #[.int .u8 (c:Nat),.int .u8 (x:Nat)] 95) = W at *
     generalize wr.heap.size = nb at *
     refine (HT.out W).mono ?_
     rintro e w3 ⟨rfl,hb3⟩
     have d0:=(hb3.cell (p:=⟨nb,0,none⟩) hnb).trans e0
     have d1:=(hb3.cell (p:=⟨nb,1,none⟩) hnb).trans e1
     have HB3:=Zh (HBW.out.trans (hb3.mono HBW.out.size))
     have HO3:=Zh (HOW.out.below hb3)
     have hnb3:nb < w3.heap.size:=Nat.lt_of_lt_of_le hnb hb3.size
     clear HBW HOW hb3 e0 e1 hnb
     by_cases hfit:n < out.length + tm
     ·have HRR:Hid (R = none):=by have:=HR2.out;rwa [if_pos hfit] at this
      have t5:decide ((n:Int) - (out.length:Int) < (tm:Int)) = true:=by simp;omega
      clear hfit
      go_wp2
      go_ret2
      rw [HRR.out]
      exact ⟨HB3.out,rfl⟩
     ·have HRR:Hid (R = unp n (l.drop (k + 1)) (out ++ List.replicate tm c)):=by have:=HR2.out;rwa [if_neg hfit] at this
      have t5:decide ((n:Int) - (out.length:Int) < (tm:Int)) = false:=by simp;omega
      have hfit2:out.length + tm <= n:=by omega
      clear hfit HR2
      go_wp2_with fail
      have f0:=((Zav w3 (.cells #[.int .u8 (c:Nat)] 5)).cell (p:=⟨nb,0,none⟩) hnb3).trans d0
      have f1:=((Zav w3 (.cells #[.int .u8 (c:Nat)] 5)).cell (p:=⟨nb,1,none⟩) hnb3).trans d1
      have g0:(w3.alloc (.cells #[.int .u8 (c:Nat)] 5)).cell? ⟨w3.heap.size,0,none⟩ = some (.int .u8 (c:Nat)):=cell_of_one (World.alloc_heap_new _ _)
      have hgs:w3.heap.size < (w3.alloc (.cells #[.int .u8 (c:Nat)] 5)).heap.size:=by simp
      have HB4:=Zh (HB3.out.trans ((Zav w3 (.cells #[.int .u8 (c:Nat)] 5)).mono HB3.out.size))
      have HO4:=Zh (HO3.out.below (Zav w3 (.cells #[.int .u8 (c:Nat)] 5)))
      clear HB3 HO3 d0 d1
      generalize w3.alloc (.cells #[.int .u8 (c:Nat)] 5) = W4 at *
      generalize w3.heap.size = gs at *
      go_wp2_with fail
      refine (HT.out W4).mono ?_
      rintro e w5 ⟨rfl,hb5⟩
      have g5:=(hb5.cell (p:=⟨gs,0,none⟩) hgs).trans g0
      have hgs5:=Nat.lt_of_lt_of_le hgs hb5.size
      have HB5:=Zh (HB4.out.trans (hb5.mono HB4.out.size))
      have HO5:=Zh (HO4.out.below hb5)
      have HREP:=Zh (Zbp tm c gs htb.1 (by omega) w5 g5 hgs5)
      clear HB4 HO4 hb5 f0 f1 g0 g5
      go_wp2_with fail
      refine HREP.out.mono ?_
      rintro e w6 ⟨g,rfl,hr6,hb6⟩
      have HB6:=Zh (HB5.out.trans (hb6.mono HB5.out.size))
      have HO6:=Zh (HO5.out.below hb6)
      have hl6:tm = (List.replicate tm c).length:=by simp
      have HW6:=Zh (HB6.out.size)
      have HR6:=Zh hr6
      have hbd:out.length + tm <= 1000:=by omega
      have HL6:=Zh hl6
      clear hb6 HB5 HO5 HREP hr6 hl6
      go_wp2_with (at_builtin;refine appAnyN Zfb rfl (.tmp 47) (.tmp 52) rfl rfl HO6.out HL6.out rfl HR6.out (by omega) (by omega) HW6.out ?_;intro a7 cap7 w7 hown7 hg7 hb7;replace hown7:=Zh hown7;replace hb7:=Zh (HB6.out.trans hb7);clear hg7)
      go_wp2
      go_roundw
      case rel=>exact ⟨k + 1,by omega,by go_num,_,a7,cap7,by rw [List.length_append,List.length_replicate],hown7.out,hb7.out,by rw [List.length_append,List.length_replicate];omega,HRR.out⟩
      case measure=>simp [intOf];omega
  ·obtain rfl:k = l.length:=by omega
   rw [List.drop_length] at hR
   unfold unp at hR
   have HOWN:=Zh hown
   have HRR:=Zh hR
   clear hown hR hbel
   by_cases hln:out.length = n
   ·have t1:((out.length:Int) != (n:Int)) = false:=by rw [hln];simp
    have HRS:Hid (R = some out):=by have:=HRR.out;rwa [if_pos hln] at this
    clear HRR hln
    go_wp2
    go_ret2
    rw [HRS.out]
    exact ⟨HBEL.out,ob,oc,rfl,HOWN.out⟩
   ·have t1:((out.length:Int) != (n:Int)) = true:=by simp;omega
    have HRS:Hid (R = none):=by have:=HRR.out;rwa [if_neg hln] at this
    clear HRR hln
    go_wp2
    go_ret2
    rw [HRS.out]
    exact ⟨HBEL.out,rfl⟩
end Go.Proofs.YtendielanacflaaGreat

namespace Go.Proofs.YtendielanacflaaGreat
open Go.RowKit Go.Shelf M04
theorem Zafm (w:World):(Instr.typeAssert Value.nilIface 20 25 true).run Tryz.prog w = .ok (.tuple #[.int .i64 0,.bool false]) w:=by kernel_rfl
theorem Zafl (n:Int) (w:World):(Instr.typeAssert (.iface 25 (.int .i64 n)) 20 25 true).run Tryz.prog w = .ok (.tuple #[.int .i64 n,.bool true]) w:=by kernel_rfl
theorem Zxq (p q r:Nat) (x y z:Value) (w:World) (h1:w.heap[p]? = some (.cells #[x] 24 (0,0))) (h2:w.heap[q]? = some (.cells #[y] 24 (0,0))) (h3:w.heap[r]? = some (.cells #[z] 25 (0,0))) (hpq:p ≠ q) (hpr:p ≠ r) (hqr:q ≠ r) :
  CallsD Tryz.prog 135 #[.pointer (some ⟨p,0,none⟩),.pointer (some ⟨q,0,none⟩),.pointer (some ⟨r,0,none⟩)] (.panicking formP) w fun e u' w' =>
   e = .returned (.tuple #[]) /\ u' = .panicking [{ v:=.iface 25 (.int .i64 2),recovered:=true }] /\ w' = ((w.setCell ⟨p,0,none⟩ (.slice none 0 0)).setCell ⟨q,0,none⟩ (.slice none 0 0)).setCell ⟨r,0,none⟩ (.int .i64 2):=by
 unfold formP
 refine callsD_of_wpS Tryz.func135 rfl fun c₀ cs hu=>?_
 have f1:w.frozen? ⟨p,0,none⟩ = false:=by simp [World.frozen?,h1]
 have f2:w.frozen? ⟨q,0,none⟩ = false:=by simp [World.frozen?,h2]
 have f3:w.frozen? ⟨r,0,none⟩ = false:=by simp [World.frozen?,h3]
 have g1:w.cell? ⟨p,0,none⟩ = some x:=cell_of_one h1
 have g2:w.cell? ⟨q,0,none⟩ = some y:=cell_of_one h2
 have g3:w.cell? ⟨r,0,none⟩ = some z:=cell_of_one h3
 have te:=Zafl 2
 apply wpS_seq
 apply wpS_region
 simp [wpOpsS,go_sem,recoverD,hu,te,Tryz.ntmps135,Exit.thenS]
 apply wpS_seq
 apply wpS_region
 simp [wpOpsS,go_sem,Exit.thenS]
 refine wpS_cond (t:=true) (by simp [Act.eval,Array.replicate]) ?_
 simp only [if_true]
 apply wpS_region
 simp [wpOpsS,go_sem,g1,g2,g3,f1,f2,f3,bodyPostS,results,Tryz.results135]
theorem Zka (p q r:Nat) (w:World) :
  CallsD Tryz.prog 135 #[.pointer (some ⟨p,0,none⟩),.pointer (some ⟨q,0,none⟩),.pointer (some ⟨r,0,none⟩)] .returning w fun e u' w' =>
   e = .returned (.tuple #[]) /\ u' = .returning /\ w' = w:=by
 refine callsD_of_wpS Tryz.func135 rfl fun c₀ cs hu=>?_
 apply wpS_seq
 apply wpS_region
 have te:=Zafm
 simp [wpOpsS,go_sem,recoverD,hu,te,Tryz.ntmps135,Exit.thenS]
 apply wpS_seq
 apply wpS_region
 simp [wpOpsS,go_sem,Exit.thenS]
 refine wpS_cond (t:=false) (by simp [Act.eval,Array.replicate]) ?_
 simp only [Bool.false_eq_true,if_false]
 refine wpS_of_wp (wp_skip ?_)
 cases c₀
 simp_all [bodyPostS,results,Tryz.results135]
def long (l:List Nat):Bool:=l.any (fun x=>decide (15 < x))
def mayH (f o:List Nat):Bool :=
 decide (257 <= f.length) && decide (f.length <= 286) && decide (1 <= o.length) && decide (o.length <= 30) && decide (f.getD 256 0 ≠ 0) && !(long f) && !(long o) &&
  (decide ((clsE f).1 = 2) || singleB f) && (decide ((clsE o).1 = 2) || decide ((clsE o).1 = 0) || singleB o)
theorem Zsu (n:Nat) (w:World):Calls Tryz.prog 87 #[.int .u8 (n:Nat)] w fun e w'=>e = .returned (.bool (decide (15 < n))) /\ w' = w:=by
 go_enter Tryz.func87,Tryz.ntmps87
 go_wp2
 go_ret
 exact ⟨congrArg (fun b=>Ending.returned (.bool b)) (decide_eq_decide.2 (by omega)),rfl⟩
def IdxOut (l:List Nat) (e:Ending):Prop:=if long l then ∃ k:Nat,e = .returned (.int .i64 k) else e = .returned (.int .i64 (-1))
theorem Zaeo (a:Option Addr) (cap:Nat) (l:List Nat) (w:World) (hr:RowN .u8 w a cap l) :
  Calls Tryz.prog 122 #[.slice a l.length cap,.func (Fn.func 87) #[] #[]] w fun e w'=>IdxOut l e /\ w' = w:=by
 have hlen:=hr.len
 go_enter Tryz.func122,Tryz.ntmps122
 go_wp2_with fail
 go_loop [5,8] (fun _ i=>∃ k:Nat,k <= l.length /\ i = .int .i64 k /\ ∀ x ∈ l.take k,x <= 15) (fun _ i=>l.length - (intOf i).toNat)
 case atStart=>exact ⟨0,by omega,rfl,by simp⟩
 case round =>
  obtain ⟨k,hk,rfl,hall⟩:=hrel
  have HA:=Zh hall
  clear hall
  by_cases hlt:k < l.length
  ·obtain ⟨b,off,rfl,hb,hck⟩:=hr.at hlt
   clear hr
   have HM:=Zh (List.getElem_mem hlt)
   have HT:=Zh (Zaw l k hlt)
   generalize l[k] = x at *
   by_cases hx:15 < x
   ·have hd:decide (15 < x) = true:=by simpa using hx
    have HL:Hid (long l = true):=by
     unfold Hid long
     rw [List.any_eq_true]
     exact ⟨x,HM.out,hd⟩
    go_wp2_with (go_at_call 87;refine (Zsu x _).mono ?_;rintro e w' ⟨rfl,rfl⟩;rw [hd])
    go_ret
    exact ⟨by unfold IdxOut;rw [if_pos HL.out];exact ⟨k,rfl⟩,rfl⟩
   ·have hd:decide (15 < x) = false:=by simpa using hx
    go_wp2_with (go_at_call 87;refine (Zsu x _).mono ?_;rintro e w' ⟨rfl,rfl⟩;rw [hd])
    go_round
    case rel=>exact ⟨k + 1,by omega,by go_num,by rw [HT.out];intro y hy;rcases List.mem_append.1 hy with h | h;exact HA.out y h;simp at h;omega⟩
    case measure=>simp [intOf];omega
  ·have h2:l.take k = l:=List.take_of_length_le (by omega)
   rw [h2] at HA
   have HL:Hid (long l = false):=by
    unfold Hid long
    rw [List.any_eq_false]
    intro x hx
    have:=HA.out x hx
    simpa using this
   go_wp2
   go_ret
   exact ⟨by unfold IdxOut;rw [if_neg (by rw [HL.out];decide)];rfl,rfl⟩
theorem Zjw (a:Option Addr) (cap:Nat) (l:List Nat) (w:World) (hr:RowN .u8 w a cap l) :
  Calls Tryz.prog 88 #[.slice a l.length cap,.func (Fn.func 87) #[] #[]] w fun e w'=>e = .returned (.bool (long l)) /\ w' = w:=by
 have HC:=Zh (Zaeo a cap l w hr)
 clear hr
 go_enter Tryz.func88,Tryz.ntmps88
 go_wp2_with fail
 refine HC.out.mono ?_
 by_cases hl:long l = true
 ·have HL:=Zh hl
  rintro e w1 ⟨h,rfl⟩
  unfold IdxOut at h
  rw [if_pos hl] at h
  obtain ⟨k,rfl⟩:=h
  have t1:decide ((0:Int) <= (k:Int)) = true:=by simp
  clear hl HC
  go_wp2
  go_ret
  exact ⟨by rw [HL.out];rfl,rfl⟩
 ·have HL:=Zh (show long l = false by simpa using hl)
  rintro e w1 ⟨h,rfl⟩
  unfold IdxOut at h
  rw [if_neg hl] at h
  subst h
  clear hl HC
  go_wp2
  go_ret
  exact ⟨by rw [HL.out];rfl,rfl⟩
theorem Zoa (w:World):Calls Tryz.prog 48 #[] w fun e w'=>e = .returned (.slice (some ⟨w.heap.size,0,none⟩) 19 19) /\ w' = w.alloc (.cells #[.int .u8 16,.int .u8 17,.int .u8 18,.int .u8 0,.int .u8 8,.int .u8 7,.int .u8 9,.int .u8 6,.int .u8 10,.int .u8 5,.int .u8 11,.int .u8 4,.int .u8 12,.int .u8 3,.int .u8 13,.int .u8 2,.int .u8 14,.int .u8 1,.int .u8 15] 5):=by
 go_enter Tryz.func48,Tryz.ntmps48
 go_wp2
 go_ret
 exact ⟨rfl,rfl⟩
theorem Zci (v:Value) (w:World):Calls Tryz.prog 136 #[v,.int .i64 0] w fun e w'=>e = .returned v /\ w' = w:=by
 go_enter Tryz.func136,Tryz.ntmps136
 go_wp2
 go_ret
 exact ⟨rfl,rfl⟩
theorem Zch (v:Value) (c:Nat) (hc:0 < c) (w:World):Calls Tryz.prog 136 #[v,.int .i64 (c:Nat)] w fun e w'=>e = .panicked formP /\ w' = w:=by
 have t1:((c:Int) == 0) = false:=by simp;omega
 go_enter Tryz.func136,Tryz.ntmps136
 go_wp2
 exact ⟨rfl,rfl,rfl⟩
theorem Zoe (v:Value) (w:World):Calls Tryz.prog 137 #[v,.int .i64 0] w fun e w'=>e = .returned v /\ w' = w:=by
 go_enter Tryz.func137,Tryz.ntmps137
 go_wp2
 go_ret
 exact ⟨rfl,rfl⟩
theorem Zod (v:Value) (c:Nat) (hc:0 < c) (w:World):Calls Tryz.prog 137 #[v,.int .i64 (c:Nat)] w fun e w'=>e = .panicked formP /\ w' = w:=by
 have t1:((c:Int) == 0) = false:=by simp;omega
 go_enter Tryz.func137,Tryz.ntmps137
 go_wp2
 exact ⟨rfl,rfl,rfl⟩
theorem Zog (v:Value) (w:World):Calls Tryz.prog 138 #[v,.int .i64 0] w fun e w'=>e = .returned v /\ w' = w:=by
 go_enter Tryz.func138,Tryz.ntmps138
 go_wp2
 go_ret
 exact ⟨rfl,rfl⟩
theorem Zof (v:Value) (c:Nat) (hc:0 < c) (w:World):Calls Tryz.prog 138 #[v,.int .i64 (c:Nat)] w fun e w'=>e = .panicked formP /\ w' = w:=by
 have t1:((c:Int) == 0) = false:=by simp;omega
 go_enter Tryz.func138,Tryz.ntmps138
 go_wp2
 exact ⟨rfl,rfl,rfl⟩
end Go.Proofs.YtendielanacflaaGreat

namespace Go.Proofs.YtendielanacflaaGreat.M10
open M01 M04 M06
def rdN (bs:List Nat) (n at_:Nat):Option (Nat × Nat):=if at_ + n <= 8 * bs.length then some (num bs at_ n,at_ + n) else none
def decF (F:TF) (bs:List Nat):Nat -> Nat -> Nat -> Nat -> Option (Nat × Nat)
 | 0,_,_,_=>none
 | f + 1,x,k,at_=>match F x k with
  | none=>none
  | some s=>if 0 <= s then some (s.toNat,at_) else if at_ + 1 <= 8 * bs.length then decF F bs f (2 * x + bit bs at_) (k + 1) (at_ + 1) else none
def tabOf (l:List Nat):TF:=tabI l (words l) l.length
def sym (l bs:List Nat) (at_:Nat):Option (Nat × Nat):=decF (tabOf l) bs 22 0 0 at_
def Good (l:List Nat) (F:TF) (i:Nat):Prop :=
 ∀ x k v,F x k = some v -> k <= 20 /\ (v = -1 \/ ∃ s:Nat,v = s /\ s < i /\ x = (words l).getD s 0 /\ k = l.getD s 0 /\ 0 < k)
theorem Good.tabK {l:List Nat} {F:TF} {i:Nat} (h:Good l F i) (x n:Nat) (hn:n <= 20):∀ k,k <= n -> Good l (tabK x n F k) i:=by
 intro k
 induction k with
 | zero=>exact fun _=>h
 | succ k ih =>
  intro hk x' k' v hv
  unfold M06.tabK putF at hv
  split at hv
  ·next hc =>
   simp only [Option.some.injEq] at hv
   exact ⟨by omega,.inl hv.symm⟩
  ·exact ih (by omega) x' k' v hv
theorem Zxp (l:List Nat) (h20:∀ x ∈ l,x <= 20):∀ i,i <= l.length -> Good l (tabI l (words l) i) i:=by
 intro i
 induction i with
 | zero=>intro _ x k v hv;simp [tabI] at hv
 | succ i ih =>
  intro hi
  have h1:Good l (tabI l (words l) i) (i + 1):=fun x k v hv=>by
   obtain ⟨a,b⟩:=ih (by omega) x k v hv
   refine ⟨a,?_⟩
   rcases b with b | ⟨s,b1,b2,b3⟩
   ·exact .inl b
   ·exact .inr ⟨s,b1,by omega,b3⟩
  unfold tabI
  split
  ·exact h1
  ·next h0 =>
   have hle:l.getD i 0 <= 20:=Zat h20 i
   refine Good.tabK ?_ _ _ hle _ (Nat.le_refl _)
   intro x k v hv
   unfold putF at hv
   split at hv
   ·next hc =>
    simp only [Option.some.injEq] at hv
    exact ⟨by omega,.inr ⟨i,hv.symm,by omega,hc.1,hc.2,by omega⟩⟩
   ·exact h1 x k v hv
theorem Zsn (l:List Nat) (h20:∀ x ∈ l,x <= 20):Good l (tabOf l) l.length:=Zxp l h20 _ (Nat.le_refl _)
def repOut (d:Nat) (out:List Nat):Nat -> List Nat
 | 0=>out
 | n + 1=>repOut d out n ++ [(repOut d out n).getD ((repOut d out n).length - d) 0]
theorem Zdu (d:Nat) (out:List Nat) (n:Nat):(repOut d out n).length = out.length + n:=by
 induction n with
 | zero=>rfl
 | succ n ih=>simp [repOut,ih];omega
def stoL (bs:List Nat):Nat -> Nat -> List Nat -> Option (Nat × List Nat)
 | 0,at_,out=>some (at_,out)
 | n + 1,at_,out=>if at_ + 8 <= 8 * bs.length then stoL bs n (at_ + 8) (out ++ [num bs at_ 8]) else none
def stored0 (bs:List Nat) (at_:Nat) (out:List Nat):Option (Nat × List Nat) :=
 if at_ + 32 <= 8 * bs.length then if num bs (at_ + 16) 16 = 65535 - num bs at_ 16 then stoL bs (num bs at_ 16) (at_ + 32) out else none else none
def stoB (bs:List Nat) (at_:Nat) (out:List Nat):Option (Nat × List Nat):=stored0 bs ((at_ + 7) / 8 * 8) out
end Go.Proofs.YtendielanacflaaGreat.M10

namespace Go.Proofs.YtendielanacflaaGreat
open Go.RowKit M01 M04 M10
def hitF (l:List Nat) (x n j:Nat):Prop:=0 < l.getD j 0 /\ n <= l.getD j 0 /\ word l j / 2 ^ (l.getD j 0 - n) = x
instance (l:List Nat) (x n j:Nat):Decidable (hitF l x n j):=by unfold hitF;infer_instance
theorem Zahj (x n:Nat) (F:M06.TF) (x' k':Nat):∀ k,M06.tabK x n F k x' k' = if k' < k /\ x' = x / 2 ^ (n - k') then some (-1) else F x' k':=by
 intro k
 induction k with
 | zero=>simp [M06.tabK]
 | succ k ih =>
  unfold M06.tabK M06.putF
  rw [ih]
  by_cases h:x' = x / 2 ^ (n - k) /\ k' = k
  ·rw [if_pos h,if_pos (by obtain ⟨h1,rfl⟩:=h;exact ⟨by omega,h1⟩)]
  ·rw [if_neg h]
   by_cases h2:k' < k /\ x' = x / 2 ^ (n - k')
   ·rw [if_pos h2,if_pos ⟨by omega,h2.2⟩]
   ·rw [if_neg h2,if_neg]
    rintro ⟨h3,h4⟩
    by_cases e:k' = k
    ·subst e;exact h ⟨h4,rfl⟩
    ·exact h2 ⟨by omega,h4⟩
theorem Zahi (l:List Nat) (i x n:Nat) (hi:i < l.length):M06.tabI l (words l) (i + 1) x n =
  if n < l.getD i 0 /\ x = word l i / 2 ^ (l.getD i 0 - n) then some (-1) else if x = word l i /\ n = l.getD i 0 /\ 0 < l.getD i 0 then some (i:Int) else M06.tabI l (words l) i x n:=by
 have hw:(words l).getD i 0 = word l i:=by rw [List.getD_eq_getElem?_getD,List.getElem?_eq_getElem (by rw [Zbc];exact hi),Option.getD_some,Zbu]
 rw [M06.tabI]
 by_cases h0:l.getD i 0 = 0
 ·rw [if_pos h0,if_neg (by omega),if_neg (by omega)]
 ·rw [if_neg h0,Zahj,hw]
  unfold M06.putF
  by_cases h:n < l.getD i 0 /\ x = word l i / 2 ^ (l.getD i 0 - n)
  ·rw [if_pos h,if_pos h]
  ·rw [if_neg h,if_neg h]
   by_cases h2:x = word l i /\ n = l.getD i 0
   ·rw [if_pos h2,if_pos ⟨h2.1,h2.2,by omega⟩]
   ·rw [if_neg h2,if_neg (fun h3=>h2 ⟨h3.1,h3.2.1⟩)]
theorem Zaei (l:List Nat) (h20:∀ x ∈ l,x <= 20) (x n:Nat):∀ i,i <= l.length →
  (∀ j,j < i -> hitF l x n j -> M06.tabI l (words l) i x n = if n = l.getD j 0 then some (j:Int) else some (-1)) /\ ((∀ j,j < i -> ¬ hitF l x n j) -> M06.tabI l (words l) i x n = none):=by
 intro i
 induction i with
 | zero=>intro _;exact ⟨fun j hj=>by omega,fun _=>rfl⟩
 | succ i ih =>
  intro hi
  obtain ⟨ih1,ih2⟩:=ih (by omega)
  rw [Zahi l i x n hi]
  refine ⟨fun j hj hh=>?_,fun hn=>?_⟩
  ·obtain ⟨h1,h2,h3⟩:=hh
   by_cases e:j = i
   ·subst e
    by_cases hlt:n < l.getD j 0
    ·rw [if_pos ⟨hlt,h3.symm⟩,if_neg (by omega)]
    ·have hn:n = l.getD j 0:=by omega
     rw [if_neg (by omega),if_pos hn,if_pos ⟨by rw [<- h3,hn,Nat.sub_self,Nat.pow_zero,Nat.div_one],hn,h1⟩]
   ·by_cases hc1:n < l.getD i 0 /\ x = word l i / 2 ^ (l.getD i 0 - n)
    ·rw [if_pos hc1,if_neg]
     intro hn
     have:=Zll l j i (by omega) hi h20 (by omega) (by omega) (by omega)
     rw [<- hn,<- hc1.2] at this
     rw [<- hn,Nat.sub_self] at h3
     simp at h3
     exact this h3.symm
    ·rw [if_neg hc1,if_neg]
     ·exact ih1 j (by omega) ⟨h1,h2,h3⟩
     ·rintro ⟨h4,h5,h6⟩
      have:=Zll l i j hi (by omega) h20 (by omega) (by omega) (by omega)
      rw [<- h5,h3] at this
      exact this h4
  ·rw [if_neg (fun h=>hn i (by omega) ⟨by omega,by omega,h.2.symm⟩),if_neg (fun h=>hn i (by omega) ⟨h.2.2,by omega,by rw [h.2.1,Nat.sub_self];simp [h.1]⟩)]
   exact ih2 fun j hj=>hn j (by omega)
theorem Zpt (l:List Nat) (h20:∀ x ∈ l,x <= 20) (x n j:Nat) (hj:j < l.length) (h:hitF l x n j):tabOf l x n = if n = l.getD j 0 then some (j:Int) else some (-1) :=
 (Zaei l h20 x n _ (Nat.le_refl _)).1 j hj h
theorem Zabf (l bs:List Nat) (h20:∀ x ∈ l,x <= 20) (f x n at_ j:Nat) (hj:j < l.length) (h:hitF l x n j) (hn:n = l.getD j 0):decF (tabOf l) bs (f + 1) x n at_ = some (j,at_):=by
 unfold decF
 rw [Zpt l h20 x n j hj h,if_pos hn]
 simp
theorem Zafv (l bs:List Nat) (h20:∀ x ∈ l,x <= 20) (f x n at_ j:Nat) (hj:j < l.length) (h:hitF l x n j) (hn:n ≠ l.getD j 0):decF (tabOf l) bs (f + 1) x n at_ = if at_ + 1 <= 8 * bs.length then decF (tabOf l) bs f (2 * x + bit bs at_) (n + 1) (at_ + 1) else none:=by
 rw [decF,Zpt l h20 x n j hj h,if_neg hn]
 rfl
end Go.Proofs.YtendielanacflaaGreat

namespace Go.Proofs.YtendielanacflaaGreat.M09
open M01 M04 M06 M07 M10
def ordL:List Nat:=[16,17,18,0,8,7,9,6,10,5,11,4,12,3,13,2,14,1,15]
def lensL (bs:List Nat) (p:Nat):Nat -> List Nat
 | 0=>List.replicate 19 0
 | k + 1=>(lensL bs p k).set (ordL.getD k 0) (num bs (p + 3 * k) 3)
theorem Zeo (bs:List Nat) (p k:Nat):(lensL bs p k).length = 19:=by
 induction k with
 | zero=>rfl
 | succ k ih=>simp [lensL,ih]
def sgStep (lens bs:List Nat) (tot:Nat) (k:Nat -> Nat -> List Sg -> Option (List Sg × Nat)) (at_ said:Nat) (acc:List Sg):Option (List Sg × Nat) :=
 if said < tot then
  match sym lens bs at_ with
  | none=>none
  | some (c,a1)=>if a1 + rbits c <= 8 * bs.length then k (a1 + rbits c) (said + times (c,num bs a1 (rbits c))) (acc ++ [(c,num bs a1 (rbits c))]) else none
 else some (acc,at_)
def sgL (lens bs:List Nat) (tot:Nat):Nat -> Nat -> Nat -> List Sg -> Option (List Sg × Nat)
 | 0=>fun _ _ _=>none
 | f + 1=>sgStep lens bs tot (sgL lens bs tot f)
theorem Zed (lens bs:List Nat) (tot f at_ said:Nat) (acc:List Sg):sgL lens bs tot (f + 1) at_ said acc = sgStep lens bs tot (sgL lens bs tot f) at_ said acc:=rfl
def hdrE (a tot:Nat) (R:Option (List Sg × Nat)):Option ((List Nat × List Nat) × Nat) :=
 match R with
 | none=>none
 | some (l,at2)=>match unp tot l [] with
  | none=>none
  | some all=>if mayH (all.take a) (all.drop a) = true then some ((all.take a,all.drop a),at2) else none
def hdrB (bs:List Nat) (a b n p:Nat):Option ((List Nat × List Nat) × Nat) :=
 if 8 * bs.length < p + 3 * n then none else if (clsE (lensL bs p n)).1 ≠ 2 then none else hdrE a (a + b) (sgL (lensL bs p n) bs (a + b) 400 (p + 3 * n) 0 [])
def hdr (bs:List Nat) (at_:Nat):Option ((List Nat × List Nat) × Nat) :=
 if 8 * bs.length < at_ + 14 then none else hdrB bs (num bs at_ 5 + 257) (num bs (at_ + 5) 5 + 1) (num bs (at_ + 10) 4 + 4) (at_ + 14)
end Go.Proofs.YtendielanacflaaGreat.M09

namespace Go.Proofs.YtendielanacflaaGreat.M07
def exS:List Sg -> List Nat -> Option (List Nat)
 | [],out=>some out
 | s :: l,out=>if s.1 = 16 /\ out.length = 0 then none else exS l (out ++ List.replicate (times s) (kOf s.1 out))
theorem Zuk (l m:List Sg) (out:List Nat):exS (l ++ m) out = (exS l out).bind (exS m):=by
 induction l generalizing out with
 | nil=>rfl
 | cons s l ih =>
  simp only [List.cons_append,exS]
  split
  ·rfl
  ·exact ih _
theorem Zagb (l:List Sg) (out r:List Nat) (h:exS l out = some r):out.length <= r.length:=by
 induction l generalizing out with
 | nil=>simp [exS] at h;rw [h];exact Nat.le_refl _
 | cons s l ih =>
  simp only [exS] at h
  split at h
  ·cases h
  ·have:=ih _ h
   rw [List.length_append] at this
   omega
theorem Zahn (n:Nat) (l:List Sg) (out r:List Nat) (h:exS l out = some r) (hr:r.length = n):unp n l out = some r:=by
 induction l generalizing out with
 | nil=>simp [exS] at h;subst h;simp [unp,hr]
 | cons s l ih =>
  simp only [exS] at h
  split at h
  ·cases h
  ·next h0 =>
   have h1:=Zagb _ _ _ h
   rw [List.length_append,List.length_replicate] at h1
   rw [unp,if_neg h0,if_neg (by omega)]
   exact ih _ h
def runsF:Nat -> List Nat -> List (Nat × Nat)
 | 0,_=>[]
 | _ + 1,[]=>[]
 | f + 1,a :: l=>(a,1 + (l.takeWhile fun x=>x == a).length) :: runsF f (l.dropWhile fun x=>x == a)
def runs (l:List Nat):List (Nat × Nat):=runsF l.length l
theorem Zdx (a:Nat) (l:List Nat):(l.dropWhile fun x=>x == a).length <= l.length:=(List.dropWhile_sublist _).length_le
theorem Zvl (f:Nat):∀ (l:List Nat) (g:Nat),l.length <= f -> l.length <= g -> runsF f l = runsF g l:=by
 induction f with
 | zero =>
  intro l g h1 h2
  have:l = []:=List.eq_nil_of_length_eq_zero (by omega)
  subst this
  cases g <;> rfl
 | succ f ih =>
  intro l g h1 h2
  cases l with
  | nil=>cases g <;> rfl
  | cons a l =>
   cases g with
   | zero=>simp at h2
   | succ g =>
    simp only [List.length_cons] at h1 h2
    have:=Zdx a l
    simp only [runsF]
    rw [ih _ g (by omega) (by omega)]
theorem Zzk (a:Nat) (l:List Nat):runs (a :: l) = (a,1 + (l.takeWhile fun x=>x == a).length) :: runs (l.dropWhile fun x=>x == a):=by
 have:=Zdx a l
 unfold runs
 rw [List.length_cons,runsF]
 rw [Zvl l.length _ (l.dropWhile fun x=>x == a).length (by omega) (Nat.le_refl _)]
theorem Zafn (a:Nat) (n:Nat) (l:List Nat) (h:∀ x,l.head? = some x -> x ≠ a):((List.replicate n a ++ l).takeWhile fun x=>x == a) = List.replicate n a /\ ((List.replicate n a ++ l).dropWhile fun x=>x == a) = l:=by
 induction n with
 | zero =>
  cases l with
  | nil=>simp
  | cons b l =>
   have:=h b rfl
   simp [this]
 | succ n ih =>
  simp only [List.replicate_succ,List.cons_append]
  simp [ih.1,ih.2]
theorem Zzm (l:List Nat) (i n:Nat) (hn:0 < n) (hi:i + n <= l.length) (h:∀ j,j < n -> l.getD (i + j) 0 = l.getD i 0) (hend:i + n = l.length \/ l.getD (i + n) 0 ≠ l.getD i 0) :
  runs (l.drop i) = (l.getD i 0,n) :: runs (l.drop (i + n)):=by
 have hsp:l.drop i = List.replicate n (l.getD i 0) ++ l.drop (i + n):=by
  apply List.ext_getElem?
  intro j
  by_cases hj:j < n
  ·rw [List.getElem?_append_left (by simpa using hj),List.getElem?_replicate,if_pos hj,List.getElem?_drop]
   have:=h j hj
   rw [List.getD_eq_getElem?_getD,List.getElem?_eq_getElem (by omega),Option.getD_some] at this
   rw [List.getElem?_eq_getElem (by omega),this]
  ·rw [List.getElem?_append_right (by simpa using hj),List.length_replicate,List.getElem?_drop,List.getElem?_drop]
   congr 1;omega
 obtain ⟨m,rfl⟩:∃ m,n = m + 1:=⟨n - 1,by omega⟩
 have hd:∀ x,(l.drop (i + (m + 1))).head? = some x -> x ≠ l.getD i 0:=by
  intro x hx
  rw [List.head?_drop] at hx
  rcases hend with he | he
  ·rw [List.getElem?_eq_none (by omega)] at hx;cases hx
  ·rw [List.getD_eq_getElem?_getD,hx] at he
   exact he
 rw [hsp,List.replicate_succ,List.cons_append,Zzk,(Zafn _ m _ hd).1,(Zafn _ m _ hd).2,List.length_replicate,Nat.add_comm]
theorem Zmr (l:List Nat):∀ r ∈ runs l,0 < r.2:=by
 unfold runs
 generalize l.length = f
 induction f generalizing l with
 | zero=>intro r hr;simp [runsF] at hr
 | succ f ih =>
  cases l with
  | nil=>intro r hr;simp [runsF] at hr
  | cons a l =>
   intro r hr
   simp only [runsF,List.mem_cons] at hr
   rcases hr with rfl | hr
   ·show 0 < 1 + _;omega
   ·exact ih _ r hr
def unrun (r:List (Nat × Nat)):List Nat:=r.flatMap fun x=>List.replicate x.2 x.1
theorem Zex (l:List Nat):unrun (runs l) = l:=by
 unfold runs
 have:∀ f (l:List Nat),l.length <= f -> unrun (runsF f l) = l:=by
  intro f
  induction f with
  | zero =>
   intro l h
   have:l = []:=List.eq_nil_of_length_eq_zero (by omega)
   subst this;rfl
  | succ f ih =>
   intro l h
   cases l with
   | nil=>rfl
   | cons a l =>
    have h1:=Zdx a l
    simp only [List.length_cons] at h
    have h2:=ih (l.dropWhile fun x=>x == a) (by omega)
    have h3:l.takeWhile (fun x=>x == a) = List.replicate (l.takeWhile fun x=>x == a).length a:=by
     apply List.eq_replicate_of_mem
     intro x hx
     have:=List.all_eq_true.1 (List.all_takeWhile (l:=l) (p:=fun x=>x == a)) x hx
     simpa using this
    unfold unrun at *
    simp only [runsF,List.flatMap_cons,h2]
    rw [Nat.add_comm,List.replicate_succ,<- h3,List.cons_append,List.takeWhile_append_dropWhile]
 exact this _ _ (Nat.le_refl _)
def pickS (k m:Nat):Sg:=if k = 0 /\ 11 <= m then (18,min m 138 - 11) else if k = 0 /\ 3 <= m then (17,m - 3) else if 3 <= m then (16,min m 6 - 3) else (k,0)
theorem Zdd (k m:Nat) (hk:k <= 15) (hm:0 < m):times (pickS k m) <= m /\ 1 <= times (pickS k m) /\ SgOk (pickS k m):=by
 unfold pickS
 split
 ·next h=>simp only [times,SgOk,rbits];simp;omega
 ·split
  ·next h1 h=>simp only [times,SgOk,rbits];simp;omega
  ·split
   ·next h1 h2 h=>simp only [times,SgOk,rbits];simp;omega
   ·next h1 h2 h =>
    simp only [times,SgOk,rbits]
    rw [if_pos (by omega),if_neg (by omega),if_neg (by omega),if_neg (by omega)]
    simp;omega
theorem Zagr (k m:Nat) (hk:k <= 15) (o:List Nat) (ho:k ≠ 0 -> ∃ o',o = o' ++ [k]):¬ ((pickS k m).1 = 16 /\ o.length = 0 /\ k ≠ 0) /\ (k ≠ 0 \/ m < 3 \/ (pickS k m).1 ≠ 16) /\ ((pickS k m).1 = 16 -> k ≠ 0) /\ kOf (pickS k m).1 o = k:=by
 unfold pickS
 have hlast:k ≠ 0 -> o.getD (o.length - 1) 0 = k /\ o.length ≠ 0:=by
  intro h
  obtain ⟨o',rfl⟩:=ho h
  simp
 split
 ·next h=>refine ⟨by simp,by simp,by simp,?_⟩;unfold kOf;simp;omega
 ·split
  ·next h1 h=>refine ⟨by simp,by simp,by simp,?_⟩;unfold kOf;simp;omega
  ·split
   ·next h1 h2 h =>
    have hk0:k ≠ 0:=by omega
    obtain ⟨h3,h4⟩:=hlast hk0
    refine ⟨by simp [h4],.inl hk0,fun _=>hk0,?_⟩
    unfold kOf;simp only [if_true];exact h3
   ·next h1 h2 h =>
    refine ⟨by simp;omega,by omega,by simp;omega,?_⟩
    unfold kOf
    rw [if_neg (by show ¬ k = 16;omega),if_neg (by show ¬ 16 < k;omega)]
def packM (k:Nat):Nat -> Nat -> List Sg
 | 0,_=>[]
 | f + 1,m=>if m = 0 then [] else pickS k m :: packM k f (m - times (pickS k m))
theorem Zvb (k:Nat) (hk:k <= 15):∀ f g m,m <= f -> m <= g -> packM k f m = packM k g m:=by
 intro f
 induction f with
 | zero =>
  intro g m h1 h2
  obtain rfl:m = 0:=by omega
  cases g <;> simp [packM]
 | succ f ih =>
  intro g m h1 h2
  cases g with
  | zero =>
   obtain rfl:m = 0:=by omega
   simp [packM]
  | succ g =>
   simp only [packM]
   split
   ·rfl
   ·next h0 =>
    have:=Zdd k m hk (by omega)
    rw [ih g _ (by omega) (by omega)]
def packK (k m:Nat):List Sg:=packM k m m
theorem Zdt (k m:Nat) (hk:k <= 15) (hm:0 < m):packK k m = pickS k m :: packK k (m - times (pickS k m)):=by
 obtain ⟨n,rfl⟩:∃ n,m = n + 1:=⟨m - 1,by omega⟩
 have:=Zdd k (n + 1) hk hm
 unfold packK
 rw [packM,if_neg (by omega),Zvb k hk n (n + 1 - times (pickS k (n + 1))) _ (by omega) (Nat.le_refl _)]
def packR (r:Nat × Nat):List Sg:=if 0 < r.1 then (r.1,0) :: packK r.1 (r.2 - 1) else packK 0 r.2
def pack (l:List Nat):List Sg:=(runs l).flatMap packR
theorem Zta (k:Nat) (hk:k <= 15):∀ m (o:List Nat),(k ≠ 0 -> ∃ o',o = o' ++ [k]) -> exS (packK k m) o = some (o ++ List.replicate m k) /\ (∀ s ∈ packK k m,SgOk s) /\ (packK k m).length <= m:=by
 intro m
 induction m using Nat.strongRecOn with
 | ind m ih =>
  intro o ho
  by_cases hm:m = 0
  ·subst hm
   simp [packK,packM,exS]
  ·have h1:=Zdd k m hk (by omega)
   have h2:=Zagr k m hk o ho
   rw [Zdt k m hk (by omega)]
   have h3:=ih (m - times (pickS k m)) (by omega) (o ++ List.replicate (times (pickS k m)) k) (fun h=>⟨o ++ List.replicate (times (pickS k m) - 1) k,by
    rw [List.append_assoc]
    congr 1
    rw [show [k] = List.replicate 1 k from rfl,List.replicate_append_replicate,show times (pickS k m) - 1 + 1 = times (pickS k m) by omega]⟩)
   refine ⟨?_,?_,?_⟩
   ·rw [exS,if_neg,h2.2.2.2,h3.1,List.append_assoc,List.replicate_append_replicate,show times (pickS k m) + (m - times (pickS k m)) = m by omega]
    rintro ⟨h4,h5⟩
    exact h2.1 ⟨h4,h5,h2.2.2.1 h4⟩
   ·intro s hs
    rcases List.mem_cons.1 hs with rfl | hs
    ·exact h1.2.2
    ·exact h3.2.1 s hs
   ·rw [List.length_cons]
    have:=h3.2.2
    omega
theorem Zadg (r:Nat × Nat) (hk:r.1 <= 15) (hn:0 < r.2) (o:List Nat):exS (packR r) o = some (o ++ List.replicate r.2 r.1) /\ (∀ s ∈ packR r,SgOk s) /\ (packR r).length <= r.2:=by
 unfold packR
 split
 ·next h0 =>
  have h1:=Zta r.1 hk (r.2 - 1) (o ++ [r.1]) (fun _=>⟨o,rfl⟩)
  refine ⟨?_,?_,?_⟩
  ·have ht:times (r.1,0) = 1:=by unfold times;rw [if_pos (by show r.1 < 16;omega)]
   have hk2:kOf r.1 o = r.1:=by unfold kOf;rw [if_neg (by omega),if_neg (by omega)]
   rw [exS,if_neg (by show ¬ (r.1 = 16 /\ _);omega),ht]
   show exS (packK r.1 (r.2 - 1)) (o ++ List.replicate 1 (kOf r.1 o)) = _
   rw [hk2,show List.replicate 1 r.1 = [r.1] from rfl,h1.1,List.append_assoc]
   congr 2
   rw [show [r.1] = List.replicate 1 r.1 from rfl,List.replicate_append_replicate,show 1 + (r.2 - 1) = r.2 by omega]
  ·intro s hs
   rcases List.mem_cons.1 hs with rfl | hs
   ·unfold SgOk rbits
    refine ⟨by show r.1 <= 18;omega,?_⟩
    show 0 < 2 ^ _
    exact Nat.pos_of_ne_zero (by simp)
   ·exact h1.2.1 s hs
  ·rw [List.length_cons];have:=h1.2.2;omega
 ·next h0 =>
  have hr:r.1 = 0:=by omega
  have h1:=Zta 0 (by omega) r.2 o (fun h=>absurd rfl h)
  rw [hr]
  exact h1
theorem Ztb (rs:List (Nat × Nat)) (hk:∀ r ∈ rs,r.1 <= 15) (hn:∀ r ∈ rs,0 < r.2):∀ o,exS (rs.flatMap packR) o = some (o ++ unrun rs) /\ (∀ s ∈ rs.flatMap packR,SgOk s) /\ (rs.flatMap packR).length <= (unrun rs).length:=by
 induction rs with
 | nil=>intro o;simp [exS,unrun]
 | cons r rs ih =>
  intro o
  have h1:=Zadg r (hk r (by simp)) (hn r (by simp)) o
  have h2:=ih (fun x hx=>hk x (by simp [hx])) (fun x hx=>hn x (by simp [hx])) (o ++ List.replicate r.2 r.1)
  unfold unrun at *
  simp only [List.flatMap_cons]
  refine ⟨?_,?_,?_⟩
  ·rw [Zuk,h1.1,Option.bind_some,h2.1,List.append_assoc]
  ·intro s hs
   rcases List.mem_append.1 hs with hs | hs
   ·exact h1.2.1 s hs
   ·exact h2.2.1 s hs
  ·rw [List.length_append,List.length_append,List.length_replicate]
   have:=h1.2.2;have:=h2.2.2;omega
theorem Zti (l:List Nat) (h:∀ x ∈ l,x <= 15):∀ r ∈ runs l,r.1 <= 15:=by
 intro r hr
 have h1:=Zmr l r hr
 refine h r.1 ?_
 rw [<- Zex l]
 unfold unrun
 rw [List.mem_flatMap]
 exact ⟨r,hr,List.mem_replicate.2 ⟨by omega,rfl⟩⟩
theorem Zie (l:List Nat) (h:∀ x ∈ l,x <= 15):unp l.length (pack l) [] = some l /\ (∀ s ∈ pack l,SgOk s) /\ (pack l).length <= l.length:=by
 have h1:=Ztb (runs l) (Zti l h) (Zmr l) []
 rw [Zex,List.nil_append] at h1
 exact ⟨Zahn _ _ _ _ h1.1 rfl,h1.2⟩
end Go.Proofs.YtendielanacflaaGreat.M07
