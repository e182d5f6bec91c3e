/- kraft.Single: contract. Plain mathematics of layer 7: signs. bits.Mul, slices.Repeat, slices.Grow, slices.Concat at bytes; cost.fixed: contracts. repeat.Bits, times, Unpack: contracts. header.may, the deferred closure of header.Get: contracts. Plain mathematics of layers 6, 9, 10: reading by a code. A row of numbers that is filled from the left. Plain mathematics: bits of words, what a table of words holds. Plain mathematics of layer 9: a head. Plain mathematics of layer 7: signs that are packed say the lengths. header.signs: the first and the last frequency above 0: contracts. Plain mathematics of layers 1 and 6: bits that were laid are read back. Plain mathematics of layer 9: a head that is laid, and read back. Layer 10: blocks, a stream; and what is read depends on the bits that are read. Plain mathematics of layer 10: blocks that were laid are read back. Plain mathematics of layer 5: the insertion sort by frequency puts the rarest first. -/
import Derived.Test.YtendielanacflaaGreatS03
import Derived.Test.YtendielanacflaaGreatS02
import Derived.Test.YtendielanacflaaGreatS04
import Derived.Test.YtendielanacflaaGreatS01
import Derived.Lib.Hide
import Derived.Laws.CopyOwn
import Derived.Lib.AppendZerosOnto
import Derived.Laws.Bits64b
import Derived.Defers
import Derived.Recover
import Derived.Laws.Pointers
set_option linter.unusedVariables false
set_option linter.unusedSimpArgs false
namespace Go.Proofs.YtendielanacflaaGreat
open Go.RowKit M04
def singleB (l:List Nat):Bool:=decide ((∀ x ∈ l,x <= 1) /\ l.sum = 1)
theorem Zpr (l:List Nat) (k:Nat) (h:∀ x ∈ l.take k,x <= 1):(l.take k).sum <= k:=by
 have:∀ m:List Nat,(∀ x ∈ m,x <= 1) -> m.sum <= m.length:=by
  intro m hm
  induction m with
  | nil=>simp
  | cons a m ih =>
   have:=hm a (by simp)
   have:=ih fun x hx=>hm x (by simp [hx])
   simp only [List.sum_cons,List.length_cons];omega
 exact Nat.le_trans (this _ h) (by simp;omega)
set_option maxHeartbeats 400000 in
theorem Zgh (a:Option Addr) (cap:Nat) (l:List Nat) (w:World) (hr:RowN .u8 w a cap l) :
  Calls Tryz.prog 90 #[.slice a l.length cap] w fun e w'=>e = .returned (.bool (singleB l)) /\ w = w':=by
 have hlen:=hr.len
 go_enter Tryz.func90,Tryz.ntmps90
 go_wp2
 go_loop [3,8] (fun t i=>∃ k:Nat,k <= l.length /\ i = .int .i64 k /\ t = .int .i64 ((l.take k).sum:Nat) /\ ∀ x ∈ l.take k,x <= 1) (fun _ i=>l.length - (intOf i).toNat)
 case atStart=>exact ⟨0,Nat.zero_le _,rfl,by simp,by simp⟩
 case round =>
  obtain ⟨k,hk,rfl,rfl,hall⟩:=hrel
  have HA:=Zh hall
  have hs:=Zpr l k hall
  clear hall
  by_cases hlt:k < l.length
  ·obtain ⟨b,off,rfl,hb,hck⟩:=hr.at hlt
   clear hr
   have HS:Hid ((l.take (k + 1)).sum = (l.take k).sum + l[k]):=by rw [Hid,Zas l k hlt];simp only [List.sum_append,List.sum_cons,List.sum_nil];omega
   by_cases hx:l[k] <= 1
   ·have H:Hid (∀ x ∈ l.take (k + 1),x <= 1):=by
     rw [Hid,Zas l k hlt]
     intro x hm
     rcases List.mem_append.1 hm with hm | hm
     ·exact HA.out x hm
     ·simp at hm;omega
    generalize l[k] = x at *
    generalize (l.take k).sum = s at *
    go_wp2
    go_round
    case rel=>exact ⟨k + 1,by omega,by go_num,by rw [HS.out];go_num,H.out⟩
    case measure=>simp [intOf];omega
   ·have H:Hid (singleB l = false):=by
     show decide (_ /\ _) = false
     rw [decide_eq_false_iff_not]
     exact fun h=>hx (h.1 _ (List.getElem_mem hlt))
    generalize l[k] = x at *
    go_wp2
    go_ret
    exact ⟨Zat H.out.symm,rfl⟩
  ·have h2:l.take k = l:=List.take_of_length_le (by omega)
   rw [h2] at HA
   rw [h2] at hs
   rw [h2]
   have H:Hid (singleB l = ((l.sum:Int) == 1)):=by
    show decide (_ /\ _) = _
    rw [Bool.eq_iff_iff,decide_eq_true_eq,beq_iff_eq]
    constructor
    ·intro h;omega
    ·intro h;exact ⟨HA.out,by omega⟩
   go_wp2
   go_ret
   exact ⟨Zat H.out.symm,rfl⟩
theorem Zaar (k:IntKind) (w:World) (l:List Nat) (E:TypeId) (c:Array Value) (B:Nat) (hB:B = w.heap.size) (hc:c = (l.map fun (n:Nat)=>Value.int k n).toArray) (hl:l.length <= 9223372036854775807) :
  RowN k (w.alloc (.cells c E)) (some ⟨B,0,none⟩) l.length l:=by
 subst hc hB
 refine ⟨Nat.le_refl _,⟨hl,fun hn=>by cases hn⟩,.inr ⟨w.heap.size,0,rfl,by simp,fun i hi=>?_⟩⟩
 rw [Nat.zero_add,World.cell?_alloc_at _ _ _ _ rfl]
 simp [hi]
end Go.Proofs.YtendielanacflaaGreat

namespace Go.Proofs.YtendielanacflaaGreat.M07
abbrev Sg:=Nat × Nat
def rbits (c:Nat):Nat:=if c = 16 then 2 else if c = 17 then 3 else if c = 18 then 7 else 0
def times (s:Sg):Nat:=if s.1 < 16 then 1 else if s.1 < 18 then 3 + s.2 else 11 + s.2
def SgOk (s:Sg):Prop:=s.1 <= 18 /\ s.2 < 2 ^ rbits s.1
theorem SgOk.lt {s:Sg} (h:SgOk s):s.2 < 128:=by
 obtain ⟨h1,h2⟩:=h
 have:2 ^ rbits s.1 <= 2 ^ 7:=Nat.pow_le_pow_right (by decide) (by unfold rbits;(repeat' split) <;> omega)
 omega
def kOf (c:Nat) (out:List Nat):Nat:=if c = 16 then out.getD (out.length - 1) 0 else if 16 < c then 0 else c
def unp (n:Nat):List Sg -> List Nat -> Option (List Nat)
 | [],out=>if out.length = n then some out else none
 | s :: l,out=>if s.1 = 16 /\ out.length = 0 then none else if n < out.length + times s then none else unp n l (out ++ List.replicate (times s) (kOf s.1 out))
end Go.Proofs.YtendielanacflaaGreat.M07

namespace Go.Proofs.YtendielanacflaaGreat
open Go.RowKit Go.Shelf M08 M17
theorem Zaa {l:Array Bool} {i k:Nat} (h:i ≠ k):(l.setIfInBounds i true).getD k false = l.getD k false:=by
 simp [Array.getElem?_setIfInBounds_ne h]
theorem Zcr (w:World) (o:Obj):Below w.heap.size w (w.alloc o):=(Below.refl _ _).alloc (Nat.le_refl _) _
theorem maskN (a:Nat) (ha:a < 4294967296):bits .and .u64 (a:Int) 4294967295 = (a:Int):=by
 have h:=bits_and_u64_nat a 4294967295 (by omega) (by omega)
 have e:a &&& 4294967295 = a % 4294967296:=Nat.and_two_pow_sub_one_eq_mod a 32
 rw [e,Nat.mod_eq_of_lt ha] at h
 exact h
theorem mask0:bits .and .u64 0 4294967295 = 0:=by have:=maskN 0 (by omega);simpa using this
theorem mask1:bits .and .u64 1 4294967295 = 1:=by have:=maskN 1 (by omega);simpa using this
set_option maxHeartbeats 800000 in
theorem Zrz (n:Nat) (hn:n <= 100000) (w:World) :
  Calls Tryz.prog 151 #[.int .u64 1,.int .u64 n] w fun e w'=>e = .returned (.tuple #[.int .u64 0,.int .u64 n]) /\ w = w':=by
 have h1:=maskN n (by omega)
 have h2:=mask1
 have h3:(n:Int) / 4294967296 = 0:=by omega
 go_enter Tryz.func151,Tryz.ntmps151
 go_wp2
 go_ret2
 exact ⟨by simp [mask0,IntKind.wrap_u64],rfl⟩
theorem Zym (n:Nat) (hn:n <= 100000) (w:World) :
  Calls Tryz.prog 129 #[.int .u64 1,.int .u64 n] w fun e w'=>e = .returned (.tuple #[.int .u64 0,.int .u64 n]) /\ w = w':=by
 go_enter Tryz.func129,Tryz.ntmps129
 go_wp2_with (go_at_call 151;refine (Zrz n hn _).mono ?_;rintro e w' ⟨rfl,rfl⟩)
 go_ret2
 exact ⟨rfl,rfl⟩
def repL (n k m:Nat):List Value:=List.replicate m (.int .u8 (k:Nat)) ++ List.replicate (n - m) (.int .u8 ((0:Nat):Int))
theorem Zjo (n k m c:Nat) (h:m + c <= n):splice (repL n k m) m (List.replicate c (.int .u8 (k:Nat))) = repL n k (m + c):=by
 unfold splice repL
 rw [List.take_left' (by simp),List.length_replicate,List.drop_append,List.length_replicate,List.drop_of_length_le (by simp),List.nil_append,List.drop_replicate,<- List.append_assoc,List.replicate_append_replicate]
 congr 2
 omega
theorem Zaaq {w:World} {g n k m c:Nat} {t:TypeId} (h:w.heap[g]? = some (.cells (repL n k m).toArray t (0,0))) (hm:c <= m) (j:Nat) (v:Value) (hj:(List.replicate c (Value.int .u8 (k:Nat)))[j]? = some v):w.cell? ((⟨g,0,none⟩:Addr).add j) = some v:=by
 have hjc:j < c:=by have:=(List.getElem?_eq_some_iff.1 hj).1;simpa using this
 have e:(⟨g,0,none⟩:Addr).add j = ⟨g,j,none⟩:=by unfold Addr.add;split <;> simp_all
 rw [e]
 have:(repL n k m)[j]? = some v:=by
  unfold repL
  rw [List.getElem?_append_left (by simp;omega)]
  simp only [List.getElem?_replicate] at hj ⊢
  rw [if_pos hjc] at hj
  rw [if_pos (by omega)];exact hj
 simp [World.cell?,h,this]
theorem cutHi (g m n:Nat) (h:m < n) (w:World):(Instr.sliceAt 24 (.slice (some ⟨g,0,none⟩) n n) (some (.int .i64 (m:Nat))) none none).run Tryz.prog w = .ok (.slice (some ⟨g,m,none⟩) (n - m) (n - m)) w:=by
 have hsz:(Tryz.prog.info? 5).map (·.size) = some 1:=by kernel_rfl
 have h3:m <= n:=by omega
 have h4:¬ n = m:=by omega
 have h6:(if m = 0 then (⟨g,0,none⟩:Addr) else ⟨g,m,none⟩) = ⟨g,m,none⟩:=by
  split
  ·rename_i h;rw [h]
  ·rfl
 cases h5:Tryz.prog.info? 5 with
 | none=>rw [h5] at hsz;cases hsz
 | some ie =>
  simp only [h5,Option.map_some,Option.some.injEq] at hsz
  simp [Instr.sliceAt,Instr.slice,Instr.sliceBounds,Instr.sliceBound,run_underlying Tryz.underlying24,asIntOf,sizeOf,typeInfo,h5,hsz,go_sem,h3,h4,h6,Addr.add]
theorem cutLo (g m n:Nat) (h:m <= n) (w:World):(Instr.sliceAt 24 (.slice (some ⟨g,0,none⟩) n n) none (some (.int .i64 (m:Nat))) none).run Tryz.prog w = .ok (.slice (some ⟨g,0,none⟩) m n) w:=by
 have hsz:(Tryz.prog.info? 5).map (·.size) = some 1:=by kernel_rfl
 cases h5:Tryz.prog.info? 5 with
 | none=>rw [h5] at hsz;cases hsz
 | some ie =>
  simp only [h5,Option.map_some,Option.some.injEq] at hsz
  simp [Instr.sliceAt,Instr.slice,Instr.sliceBounds,Instr.sliceBound,run_underlying Tryz.underlying24,asIntOf,sizeOf,typeInfo,h5,go_sem,h,Addr.add]
theorem Zzh {E:TypeId} {k:IntKind} {w:World} {base g:Nat} {l:List Nat} (h:OwnN E k w base (some ⟨g,0,none⟩) l.length l):w.heap[g]? = some (.cells (l.map fun (n:Nat)=>Value.int k n).toArray E (0,0)):=by
 rcases h.2 with ⟨h1,h2⟩ | ⟨g',c,cur,h1,h2,h3,h4,h5,h6,h7⟩
 ·cases h1
 ·simp only [Value.slice.injEq,Option.some.injEq,Addr.mk.injEq,and_true,true_and] at h1
  obtain ⟨rfl,rfl⟩:=h1
  rw [List.take_of_length_le (by simp [h6])] at h7
  rw [h3,<- h7]
set_option maxRecDepth 100000 in
set_option maxHeartbeats 1600000 in
theorem Zfb (n k b:Nat) (h1:1 <= n) (h2:n <= 1000) (w:World) (hr:w.cell? ⟨b,0,none⟩ = some (.int .u8 (k:Nat))) (hb:b < w.heap.size) :
  Calls Tryz.prog 99 #[.slice (some ⟨b,0,none⟩) 1 1,.int .i64 n] w fun e w'=>∃ g,e = .returned (.slice (some ⟨g,0,none⟩) n n) /\ RowN .u8 w' (some ⟨g,0,none⟩) n (List.replicate n k) /\ Below w.heap.size w w':=by
 go_enter Tryz.func99,Tryz.ntmps99
 go_wp2_with (first | (go_at_call 129;refine (Zym n (by omega) _).mono ?_;rintro e w' ⟨rfl,rfl⟩) | (at_make;refine makeN Zhf rfl _ _ rfl w.heap.size rfl rfl (by omega) (by omega) (Nat.le_refl _) ?_;intro w1 hown hg))
 have hB1:Below w.heap.size w w1:=Below.of_grown hg (Nat.le_refl _) (fun k e=>by cases e)
 have hrow:=Zzh (l:=List.replicate n 0) (by simpa using hown)
 have hc1:w1.cell? ⟨b,0,none⟩ = some (.int .u8 (k:Nat)):=(hB1.cell (p:=⟨b,0,none⟩) hb).trans hr
 have hrow0:w1.heap[w.heap.size]? = some (.cells (repL n k 0).toArray 5 (0,0)):=by rw [hrow];simp [repL]
 have hg0:w.heap.size <= w.heap.size:=Nat.le_refl _
 clear hown hg hrow
 have hn1:[Value.int .u8 (k:Nat)].length = Nat.min 1 n:=by show 1 = min 1 n;omega
 have hf1:0 + [Value.int .u8 (k:Nat)].length <= (repL n k 0).length:=by simp [repL];omega
 have ho1:∀ v ∈ [Value.int .u8 (k:Nat)],v.oneCell' = true:=by intro v hv;simp at hv;subst hv;rfl
 have hs1:∀ j v,[Value.int .u8 (k:Nat)][j]? = some v -> w1.cell? ((⟨b,0,none⟩:Addr).add j) = some v:=by
  intro j v hj
  cases j with
  | zero=>simp only [List.getElem?_cons_zero,Option.some.injEq] at hj;subst hj;exact hc1
  | succ j=>simp at hj
 have HN1:=Zh hn1
 have HF1:=Zh hf1
 have HO1:=Zh ho1
 have HS1:=Zh hs1
 clear hn1 hf1 ho1 hs1
 obtain ⟨w2,hrun,hrow1,hB2⟩:∃ w2,(∀ ty,(Builtin.copy_ #[24,24] ty #[.slice (some ⟨w.heap.size,0,none⟩) n n,.slice (some ⟨b,0,none⟩) 1 1]).run Tryz.prog w1 = .ok (goInt 1) w2) /\ w2.heap[w.heap.size]? = some (.cells (repL n k 1).toArray 5 (0,0)) /\ Below w.heap.size w w2:=by
  refine ⟨_,fun ty=>run_copy_row (P:=Tryz.prog) w1 24 24 ty 5 w.heap.size 0 n n ⟨b,0,none⟩ 1 1 (repL n k 0).toArray 5 [Value.int .u8 (k:Nat)] Tryz.underlying24 (by kernel_rfl) hrow0 HN1.out HS1.out (by simpa using HF1.out) HO1.out,?_,below_setRow hB1 (Nat.le_refl _) _⟩
  have h:=Zjo n k 0 1 (by omega)
  have h':splice (repL n k 0) 0 [Value.int .u8 (k:Nat)] = repL n k 1:=h
  rw [<- h',setRow_heap w1 w.heap.size _ _ _ _ hrow0]
  simp [splice]
 have HRUN:=Zh hrun
 have HROW1:=Zh hrow1
 have HB2:=Zh hB2
 clear hrun hrow1 hB2
 go_wp2_with fail
 rw [HRUN.out]
 simp only [goInt]
 clear HRUN HN1 HF1 HO1 HS1
 generalize hgd:w.heap.size = g at *
 have HGD:=Zh hgd
 clear hgd
 clear hrow0 hc1 hB1
 go_wp2_with fail
 go_loopw [8] (fun i A=>∃ m:Nat,1 <= m /\ m <= n /\ i = .int .i64 m /\ A.heap[g]? = some (.cells (repL n k m).toArray 5 (0,0)) /\ Below g w A) (fun i _=>n - (intOf i).toNat)
 case atStart=>exact ⟨1,by omega,h1,rfl,HROW1.out,HB2.out⟩
 case round =>
  clear HROW1 HB2
  obtain ⟨m,hm1,hmn',rfl,hcur,hbel⟩:=hrel
  by_cases hlt:m < n
  ·obtain ⟨c,hc⟩:∃ c,min m (n - m) = c:=⟨_,rfl⟩
   have hmn:m + c <= n:=by rw [<- hc];omega
   have hcm:c <= m:=by rw [<- hc];omega
   have hc0:1 <= c:=by rw [<- hc];omega
   have HCUR:=Zh hcur
   have HBEL:=Zh hbel
   have hw1:IntKind.i64.wrap ((m:Int) + (c:Int)) = (m:Int) + (c:Int):=IntWalk.i64_in _ (by omega)
   clear hcur hbel
   go_wp2_with fail
   have hcur:=HCUR.out
   have hbel:=HBEL.out
   refine Zbb [38,39,40,41,42,43,44,45,46,8] (fun j=>j == 9) (fun listed w1=>w1.heap[g]? = some (.cells (if listed.getD 7 false = true then repL n k (m + c) else repL n k m).toArray 5 (0,0)) /\ Below g w w1) (fun j v _=>match j with | 0=>v = .int .i64 (m:Nat) | 1=>v = .slice (some ⟨g,0,none⟩) n n | 2=>v = .int .i64 (m:Nat) | 3=>v = .slice (some ⟨g,m,none⟩) (n - m) (n - m) | 4=>v = .slice (some ⟨g,0,none⟩) n n | 5=>v = .int .i64 (m:Nat) | 6=>v = .slice (some ⟨g,0,none⟩) m n | 7=>v = .int .i64 (c:Nat) | 8=>v = .int .i64 ((m + c:Nat):Int) | 9=>v = .int .i64 ((m + c:Nat):Int) | _=>True) (fun _ _ _ _=>True) (by kernel_rfl) (by kernel_rfl) (OneEach.mk' (by kernel_rfl) (by kernel_rfl)) (by kernel_rfl) (by kernel_rfl) ⟨by simpa using hcur,belDN hbel 1⟩ ?_ ?_
   ·intro i0 o hi0 listed a1 w1 hR hil hunf hdes hanc hout hold hdep
    have hsz:i0 < 10:=(Array.getElem?_eq_some_iff.1 hi0).1
    have hall:i0 = 0 \/ i0 = 1 \/ i0 = 2 \/ i0 = 3 \/ i0 = 4 \/ i0 = 5 \/ i0 = 6 \/ i0 = 7 \/ i0 = 8 \/ i0 = 9:=by omega
    clear hsz
    rcases hall with rfl | rfl | rfl | rfl | rfl | rfl | rfl | rfl | rfl | rfl <;> simp only [List.getElem?_toArray,List.getElem?_cons_zero,List.getElem?_cons_succ,Option.some.injEq] at hi0 <;> subst hi0
    ·have f8:a1.eval (.tmp 8) = .int .i64 (m:Nat):=hold 9 _ 8 rfl rfl (hdes 9 (by kernel_rfl))
     refine Zab (v:=.int .i64 (m:Nat)) (w':=w1) (by simp [execOp,f8]) ⟨_,rfl,⟨?_,hR.2⟩,fun j u hu hV _=>⟨hV,trivial,trivial⟩,rfl⟩
     rw [Zaa (by decide)];exact hR.1
    ·have f7:a1.eval (.tmp 7) = .slice (some ⟨g,0,none⟩) n n:=hout 7 (by decide)
     refine Zab (v:=.slice (some ⟨g,0,none⟩) n n) (w':=w1) (by simp [execOp,f7]) ⟨_,rfl,⟨?_,hR.2⟩,fun j u hu hV _=>⟨hV,trivial,trivial⟩,rfl⟩
     rw [Zaa (by decide)];exact hR.1
    ·have f8:a1.eval (.tmp 8) = .int .i64 (m:Nat):=hold 9 _ 8 rfl rfl (hdes 9 (by kernel_rfl))
     refine Zab (v:=.int .i64 (m:Nat)) (w':=w1) (by simp [execOp,f8]) ⟨_,rfl,⟨?_,hR.2⟩,fun j u hu hV _=>⟨hV,trivial,trivial⟩,rfl⟩
     rw [Zaa (by decide)];exact hR.1
    ·have e39:a1.eval (.tmp 39) = .slice (some ⟨g,0,none⟩) n n:=hdep ⟨1,.data⟩ (by simp) rfl _ rfl
     have e40:a1.eval (.tmp 40) = .int .i64 (m:Nat):=hdep ⟨2,.data⟩ (by simp) rfl _ rfl
     refine Zab (v:=.slice (some ⟨g,m,none⟩) (n - m) (n - m)) (w':=w1) (by simp [execOp,e39,e40,cutHi g m n hlt]) ⟨_,rfl,⟨?_,hR.2⟩,fun j u hu hV _=>⟨hV,trivial,trivial⟩,rfl⟩
     rw [Zaa (by decide)];exact hR.1
    ·have f7:a1.eval (.tmp 7) = .slice (some ⟨g,0,none⟩) n n:=hout 7 (by decide)
     refine Zab (v:=.slice (some ⟨g,0,none⟩) n n) (w':=w1) (by simp [execOp,f7]) ⟨_,rfl,⟨?_,hR.2⟩,fun j u hu hV _=>⟨hV,trivial,trivial⟩,rfl⟩
     rw [Zaa (by decide)];exact hR.1
    ·have f8:a1.eval (.tmp 8) = .int .i64 (m:Nat):=hold 9 _ 8 rfl rfl (hdes 9 (by kernel_rfl))
     refine Zab (v:=.int .i64 (m:Nat)) (w':=w1) (by simp [execOp,f8]) ⟨_,rfl,⟨?_,hR.2⟩,fun j u hu hV _=>⟨hV,trivial,trivial⟩,rfl⟩
     rw [Zaa (by decide)];exact hR.1
    ·have e42:a1.eval (.tmp 42) = .slice (some ⟨g,0,none⟩) n n:=hdep ⟨4,.data⟩ (by simp) rfl _ rfl
     have e43:a1.eval (.tmp 43) = .int .i64 (m:Nat):=hdep ⟨5,.data⟩ (by simp) rfl _ rfl
     refine Zab (v:=.slice (some ⟨g,0,none⟩) m n) (w':=w1) (by simp [execOp,e42,e43,cutLo g m n (Nat.le_of_lt hlt)]) ⟨_,rfl,⟨?_,hR.2⟩,fun j u hu hV _=>⟨hV,trivial,trivial⟩,rfl⟩
     rw [Zaa (by decide)];exact hR.1
    ·have e41:a1.eval (.tmp 41) = .slice (some ⟨g,m,none⟩) (n - m) (n - m):=hdep ⟨3,.data⟩ (by simp) rfl _ rfl
     have e44:a1.eval (.tmp 44) = .slice (some ⟨g,0,none⟩) m n:=hdep ⟨6,.data⟩ (by simp) rfl _ rfl
     rw [hunf] at hR
     simp only [Bool.false_eq_true,if_false] at hR
     refine Zny (ops:=#[]) rfl (wpList_copy_splice rfl (.tmp 41) (.tmp 44) 24 24 rfl 5 Tryz.underlying24 (by kernel_rfl) _ _ (n - m) (n - m) m n e41 e44 g m (repL n k m) 5 hR.1 (List.replicate c (.int .u8 (k:Nat))) (by rw [List.length_replicate];exact hc.symm) (fun _=>⟨rfl,_,rfl,fun j v hj=>Zaaq hR.1 hcm j v hj⟩) (by simp [repL];omega) (by intro v hv;rw [(List.mem_replicate.1 hv).2];rfl) g w hR.2 (Nat.le_refl _) ?_)
     intro w4 hg4 hb4
     refine ⟨_,rfl,⟨?_,hb4⟩,fun j u hu hV _=>⟨hV,trivial,trivial⟩,by simp [goInt]⟩
     rw [if_pos (Zad hil)]
     rw [Zjo n k m c hmn] at hg4
     exact hg4
    ·have e38:a1.eval (.tmp 38) = .int .i64 (m:Nat):=hdep ⟨0,.data⟩ (by simp) rfl _ rfl
     have e45:a1.eval (.tmp 45) = .int .i64 (c:Nat):=hdep ⟨7,.data⟩ (by simp) rfl _ rfl
     refine Zab (v:=.int .i64 ((m + c:Nat):Int)) (w':=w1) (by simp [execOp,e38,e45,eqgA,addI,hw1]) ⟨_,rfl,⟨?_,hR.2⟩,fun j u hu hV _=>⟨hV,trivial,trivial⟩,rfl⟩
     rw [Zaa (by decide)];exact hR.1
    ·have e46:a1.eval (.tmp 46) = .int .i64 ((m + c:Nat):Int):=hdep ⟨8,.data⟩ (by simp) rfl _ rfl
     refine Zab (v:=.int .i64 ((m + c:Nat):Int)) (w':=w1) (by simp [execOp,e46]) ⟨_,rfl,⟨?_,hR.2⟩,fun j u hu hV _=>⟨hV,trivial,trivial⟩,rfl⟩
     rw [Zaa (by decide)];exact hR.1
   ·intro listed f w1 hR hall hV
    have v9:f 8 = .int .i64 ((m + c:Nat):Int):=hV 9 _ rfl rfl
    rw [if_pos (hall 7 (by decide))] at hR
    simp only [spread,List.contains_cons,List.contains_nil,Nat.reduceBEq,Bool.or_false,Bool.or_true,cond_true,cond_false,Nat.reduceAdd,Nat.zero_add,v9]
    go_wp2
    go_roundw
    case rel=>exact ⟨m + c,by omega,hmn,rfl,hR.1,hR.2⟩
    case measure=>simp [intOf];omega
  ·obtain rfl:m = n:=by omega
   have HB:=Zh hbel
   have HC:=Zh hcur
   clear hcur hbel
   go_wp2
   go_ret
   refine ⟨g,rfl,?_,by rw [HGD.out];exact HB.out⟩
   refine ⟨by simp,⟨by omega,fun h=>by cases h⟩,.inr ⟨g,0,rfl,(Array.getElem?_eq_some_iff.1 HC.out).1,fun i hi=>?_⟩⟩
   have hi':i < m:=by simpa using hi
   simp [World.cell?,HC.out,repL,hi']
theorem Zwy (n:Nat) (h1:1 <= n) (h2:n <= 100000) (w:World) (ty:TypeId) :
  ∃ c w',n <= c /\ c <= 9223372036854775807 /\ (Builtin.append_ #[24,3] ty #[.slice none 0 0,.int .i64 (n:Nat)]).run Tryz.prog w = .ok (.slice (some ⟨w.heap.size,0,none⟩) n c) w' /\ OwnN 5 .u8 w' w.heap.size (some ⟨w.heap.size,0,none⟩) c [] /\ Below w.heap.size w w':=by
 have hT:(Tryz.prog.info? 5).map (fun i=>(i.zero,i.size,i.bytes)) = some (some (.int .u8 0),1,1):=by kernel_rfl
 obtain ⟨i,hi,hz,hsz,hby⟩:∃ i,Tryz.prog.info? 5 = some i /\ i.zero = some (.int .u8 0) /\ i.size = 1 /\ i.bytes = 1:=by
  cases h5:Tryz.prog.info? 5 with
  | none=>rw [h5] at hT;cases hT
  | some ie=>rw [h5] at hT;simp only [Option.map_some,Option.some.injEq,Prod.mk.injEq] at hT;exact ⟨ie,rfl,hT.1,hT.2.1,hT.2.2⟩
 have h:=Lib.run_append_grow_zeros (P:=Tryz.prog) w 24 3 ty 5 i (.int .u8 0) .i64 .i64 Tryz.underlying24 Tryz.underlying3 hi hz none 0 0 [] (by rw [hsz];exact run_firstCells_none w.drew 1 0 0 0) n (by omega) (by omega) (by omega) (by omega) (by rw [hby];omega) (by rw [Nat.zero_add];exact growslice_fits (by omega) (by rw [hby];omega))
 simp only [Nat.zero_add] at h
 have hge:=grownCap_ge w n 0 5
 have hle:=grownCap_le_maxLen w n 0 5 (by unfold maxLen;omega)
 generalize grownCap w n 0 5 = G at *
 refine ⟨G,_,hge,by simpa [maxLen] using hle,h,?_,?_⟩
 ·refine ⟨rfl,.inr ⟨w.heap.size,G,_,rfl,Nat.le_refl _,World.alloc_heap_new w.drew _,Nat.zero_le _,hle,?_,rfl⟩⟩
  simp [size_zeroCells,Value.cells];omega
 ·exact (belDN (Below.refl _ w) 1).alloc (Nat.le_refl _) _
theorem Zoi {ops:Array Oper} {rest:List Oper} {o:Oper} {ac:Act} {w:World} {Q:Exit -> Act -> World -> Prop} (hgd:o.guard = none) (s x:Operand)
  (ho:o.op = .call { callee:=.builtin .append,args:=#[s,x],argTypes:=#[24,3] }) (hs:ac.eval s = .slice none 0 0) {n:Nat} (hx:ac.eval x = .int .i64 (n:Nat)) (h1:1 <= n) (h2:n <= 100000)
  (h:∀ c w',n <= c -> c <= 9223372036854775807 -> OwnN 5 .u8 w' w.heap.size (some ⟨w.heap.size,0,none⟩) c [] -> Below w.heap.size w w' -> wpList Tryz.prog ops Q rest (ac.put o.dst (.slice (some ⟨w.heap.size,0,none⟩) n c)) w'):wpList Tryz.prog ops Q (o :: rest) ac w:=by
 refine wpList_plain hgd fun K hK=>?_
 obtain ⟨c,w',hc1,hc2,hrun,hown,hb⟩:=Zwy n h1 h2 w o.type
 unfold Oper.wp
 simp [execOp,ho,resolve,invoke,builtin,hs,hx,hrun,Result.andThen]
 exact hK _ _ (h c w' hc1 hc2 hown hb)
set_option maxRecDepth 100000 in
set_option maxHeartbeats 1600000 in
theorem Zpp (n:Nat) (h1:1 <= n) (h2:n <= 100000) (w:World) :
  Calls Tryz.prog 128 #[.slice none 0 0,.int .i64 n] w fun e w'=>∃ c,e = .returned (.slice (some ⟨w.heap.size,0,none⟩) 0 c) /\ OwnN 5 .u8 w' w.heap.size (some ⟨w.heap.size,0,none⟩) c [] /\ Below w.heap.size w w':=by
 go_enter Tryz.func128,Tryz.ntmps128
 go_wp2_with (at_builtin;refine Zoi rfl (.tmp 20) (.tmp 21) rfl rfl rfl h1 h2 ?_;intro c w1 hc1 hc2 hown hbel)
 go_ret
 exact ⟨c,rfl,hown,hbel⟩
def encSl:Enc (Option Addr × Nat × List Nat) where
 sz:=1
 cells x:=[.slice x.1 x.2.2.length x.2.1]
 len _:=rfl
 one x u hu:=by
  simp only [List.mem_cons,List.not_mem_nil,or_false] at hu
  subst hu;rfl
 pos:=by decide
theorem Zen (es:List (Option Addr × Nat × List Nat)) (k:Nat) (hk:k < es.length):((es.take (k + 1)).flatMap fun x=>x.2.2) = ((es.take k).flatMap fun x=>x.2.2) ++ es[k].2.2:=by
 rw [List.take_succ_eq_append_getElem hk,List.flatMap_append];simp
theorem Zhh (es:List (Option Addr × Nat × List Nat)) (k:Nat):((es.take k).flatMap fun x=>x.2.2).length <= (es.flatMap fun x=>x.2.2).length:=by
 have:es.flatMap (fun x=>x.2.2) = (es.take k).flatMap (fun x=>x.2.2) ++ (es.drop k).flatMap (fun x=>x.2.2):=by rw [<- List.flatMap_append,List.take_append_drop]
 rw [this,List.length_append];omega
set_option maxRecDepth 100000 in
set_option maxHeartbeats 1600000 in
theorem Zdg (a:Option Addr) (cap:Nat) (es:List (Option Addr × Nat × List Nat)) (w:World) (hr:RowS encSl w a cap es) (hrows:∀ x ∈ es,RowN .u8 w x.1 x.2.1 x.2.2) (h1:1 <= (es.flatMap fun x=>x.2.2).length) (h2:(es.flatMap fun x=>x.2.2).length <= 1000) (hes:es.length <= 100) :
  Calls Tryz.prog 92 #[.slice a es.length cap] w fun e w'=>∃ a' c',e = .returned (.slice a' (es.flatMap fun x=>x.2.2).length c') /\ RowN .u8 w' a' c' (es.flatMap fun x=>x.2.2) /\ Below w.heap.size w w':=by
 have HR:=Zh hrows
 clear hrows
 go_enter Tryz.func92,Tryz.ntmps92
 go_wp2
 go_loop [3,5,11] (fun s _ i=>∃ k:Nat,k <= es.length /\ i = .int .i64 k /\ s = .int .i64 ((es.take k).flatMap fun x=>x.2.2).length) (fun _ _ i=>es.length - (intOf i).toNat)
 case atStart=>exact ⟨0,by omega,rfl,by simp⟩
 case round =>
  obtain ⟨k,hk,rfl,rfl⟩:=hrel
  by_cases hlt:k < es.length
  ·obtain ⟨b,off,rfl,hb,hcl⟩:=hr.at hlt
   have c0:=hcl 0 _ rfl
   have hnx:=congrArg List.length (Zen es k hlt)
   have hle:=Zhh es (k + 1)
   rw [List.length_append] at hnx
   clear hcl
   simp only [encSl,Nat.add_zero,Nat.mul_one] at c0
   generalize es[k] = x at *
   obtain ⟨xa,xc,xl⟩:=x
   simp only at hnx c0
   have HN:=Zh hnx
   generalize ((es.take k).flatMap fun x=>x.2.2).length = m at *
   have hm:m + xl.length <= 1000:=by omega
   clear hnx hle
   go_wp2
   go_round
   case rel=>exact ⟨k + 1,by omega,by go_num,by rw [HN.out];go_num⟩
   case measure=>simp [intOf];omega
  ·obtain rfl:k = es.length:=by omega
   rw [List.take_length]
   obtain ⟨m,hm⟩:∃ m,(es.flatMap fun x=>x.2.2).length = m:=⟨_,rfl⟩
   rw [hm] at h1 h2
   rw [hm]
   have HM:=Zh hm
   clear hm
   go_wp2_with (go_at_call 128;refine (Zpp m h1 (by omega) _).mono ?_;rintro e w1 ⟨c,rfl,hown,hbel⟩)
   have HO:=Zh hown
   have HB:=Zh hbel
   clear hown hbel
   go_loopw [6,8,27] (fun s _ i A=>∃ k:Nat,k <= es.length /\ i = .int .i64 k /\ ∃ b c,s = .slice b ((es.take k).flatMap fun x=>x.2.2).length c /\ OwnN 5 .u8 A w.heap.size b c ((es.take k).flatMap fun x=>x.2.2) /\ Below w.heap.size w A) (fun _ _ i _=>es.length - (intOf i).toNat)
   case atStart=>exact ⟨0,by omega,rfl,_,_,rfl,by simpa using HO.out,HB.out⟩
   case round =>
    clear HO HB
    obtain ⟨k,hk,rfl,b0,cb,rfl,hown,hbel⟩:=hrel
    by_cases hlt:k < es.length
    ·have hrA:=hr.below hbel
     obtain ⟨b,off,rfl,hb,hcl⟩:=hrA.at hlt
     have c0:=hcl 0 _ rfl
     have hx:=(HR.out _ (List.getElem_mem hlt)).below hbel
     have hnx:=Zen es k hlt
     have hle:=Zhh es (k + 1)
     rw [HM.out,hnx,List.length_append] at hle
     clear hcl hrA
     simp only [encSl,Nat.add_zero,Nat.mul_one] at c0
     generalize es[k] = x at *
     obtain ⟨xa,xc,xl⟩:=x
     simp only at hnx c0 hx hle
     have HN:=Zh hnx
     have HBEL:=Zh hbel
     have HW:=Zh hbel.size
     clear hnx hbel
     generalize ((es.take k).flatMap fun x=>x.2.2) = L at *
     go_wp2_with (at_builtin;refine appAnyN Zhf rfl (.tmp 31) (.tmp 32) rfl rfl hown rfl rfl hx (by omega) (by omega) HW.out ?_;intro a3 cap3 w3 hown3 hg3 hb3)
     have HO3:=Zh hown3
     have HB3:=Zh (HBEL.out.trans hb3)
     clear hown3 hg3 hb3 hown
     go_wp2
     go_roundw
     case rel=>exact ⟨k + 1,by omega,by go_num,a3,cap3,by rw [HN.out,List.length_append],by rw [HN.out];exact HO3.out,HB3.out⟩
     case measure=>simp [intOf];omega
    ·obtain rfl:k = es.length:=by omega
     rw [List.take_length] at hown ⊢
     have HO:=Zh hown
     have HB:=Zh hbel
     clear hown hbel
     go_wp2
     go_ret
     exact ⟨_,_,by rw [HM.out];rfl,HO.out.row,HB.out⟩
def fixF:List Nat:=List.replicate 144 8 ++ (List.replicate 112 9 ++ (List.replicate 24 7 ++ List.replicate 8 8))
def fixO:List Nat:=List.replicate 30 5
theorem Zcu (n k:Nat) (h1:1 <= n) (h2:n <= 1000) (w:World) :
  Calls Tryz.prog 141 #[.int .i64 n,.int .u8 k] w fun e w'=>∃ g,e = .returned (.slice (some ⟨g,0,none⟩) n n) /\ RowN .u8 w' (some ⟨g,0,none⟩) n (List.replicate n k) /\ Below w.heap.size w w':=by
 go_enter Tryz.func141,Tryz.ntmps141
 go_wp2_with fail
 refine (Zfb n k _ h1 h2 _ ?h1 ?h2).mono ?_
 case h1=>exact cell_of_one (World.alloc_heap_new _ _)
 case h2=>simp
 rintro e w1 ⟨g,rfl,hr,hb⟩
 have HR:=Zh hr
 have HB:=Zh hb
 clear hr hb
 go_wp2
 go_ret
 exact ⟨g,rfl,HR.out,(Zcr _ _).trans (HB.out.mono (by simp))⟩
def four4 (g1 g2 g3 g4:Nat):List (Option Addr × Nat × List Nat):=[(some ⟨g1,0,none⟩,144,List.replicate 144 8),(some ⟨g2,0,none⟩,112,List.replicate 112 9),(some ⟨g3,0,none⟩,24,List.replicate 24 7),(some ⟨g4,0,none⟩,8,List.replicate 8 8)]
theorem Zcd (g1 g2 g3 g4:Nat):((four4 g1 g2 g3 g4).flatMap fun x=>x.2.2) = fixF:=by simp [four4,fixF]
theorem Zhi (g1 g2 g3 g4:Nat):(flat encSl (four4 g1 g2 g3 g4)).toArray = #[.slice (some ⟨g1,0,none⟩) 144 144,.slice (some ⟨g2,0,none⟩) 112 112,.slice (some ⟨g3,0,none⟩) 24 24,.slice (some ⟨g4,0,none⟩) 8 8]:=by
 simp [four4,flat,encSl]
theorem Zcl:fixF.length = 288:=by unfold fixF;simp only [List.length_append,List.length_replicate,Nat.reduceAdd]
theorem concat4 (g1 g2 g3 g4:Nat) (w:World) (r1:RowN .u8 w (some ⟨g1,0,none⟩) 144 (List.replicate 144 8)) (r2:RowN .u8 w (some ⟨g2,0,none⟩) 112 (List.replicate 112 9)) (r3:RowN .u8 w (some ⟨g3,0,none⟩) 24 (List.replicate 24 7)) (r4:RowN .u8 w (some ⟨g4,0,none⟩) 8 (List.replicate 8 8)) :
  Calls Tryz.prog 92 #[.slice (some ⟨w.heap.size,0,none⟩) 4 4] (w.alloc (.cells #[.slice (some ⟨g1,0,none⟩) 144 144,.slice (some ⟨g2,0,none⟩) 112 112,.slice (some ⟨g3,0,none⟩) 24 24,.slice (some ⟨g4,0,none⟩) 8 8] 24)) fun e w' =>
   ∃ a c,e = .returned (.slice a 288 c) /\ RowN .u8 w' a c fixF /\ Below w.heap.size w w':=by
 have hb:=Zcr w (.cells #[.slice (some ⟨g1,0,none⟩) 144 144,.slice (some ⟨g2,0,none⟩) 112 112,.slice (some ⟨g3,0,none⟩) 24 24,.slice (some ⟨g4,0,none⟩) 8 8] 24)
 have hR:=RowS.lit encSl w (four4 g1 g2 g3 g4) 24 _ _ rfl (Zhi g1 g2 g3 g4).symm (by simp [four4])
 have h:=Zdg (some ⟨w.heap.size,0,none⟩) 4 (four4 g1 g2 g3 g4) _ hR ?_ (by rw [Zcd,Zcl];decide) (by rw [Zcd,Zcl];decide) (by simp [four4])
 ·rw [Zcd,Zcl] at h
  refine h.mono ?_
  rintro e w' ⟨a,c,rfl,hr,hb2⟩
  exact ⟨a,c,rfl,hr,hb.trans (hb2.mono (by simp))⟩
 ·intro x hx
  simp only [four4,List.mem_cons,List.not_mem_nil,or_false] at hx
  rcases hx with rfl | rfl | rfl | rfl
  ·exact r1.below hb
  ·exact r2.below hb
  ·exact r3.below hb
  ·exact r4.below hb
set_option maxRecDepth 100000 in
set_option maxHeartbeats 1600000 in
theorem Zsd (w:World) :
  Calls Tryz.prog 105 #[] w fun e w'=>∃ a1 c1 a2 c2,e = .returned (.tuple #[.slice a1 288 c1,.slice a2 30 c2]) /\ RowN .u8 w' a1 c1 fixF /\ RowN .u8 w' a2 c2 fixO /\ Below w.heap.size w w':=by
 go_enter Tryz.func105,Tryz.ntmps105
 go_wp2_with fail
 refine (Zcu 144 8 (by decide) (by decide) _).mono ?_
 rintro e w1 ⟨g1,rfl,r1,b1⟩
 go_wp2_with fail
 refine (Zcu 112 9 (by decide) (by decide) _).mono ?_
 rintro e w2 ⟨g2,rfl,r2,b2⟩
 go_wp2_with fail
 refine (Zcu 24 7 (by decide) (by decide) _).mono ?_
 rintro e w3 ⟨g3,rfl,r3,b3⟩
 go_wp2_with fail
 refine (Zcu 8 8 (by decide) (by decide) _).mono ?_
 rintro e w4 ⟨g4,rfl,r4,b4⟩
 have R1:=((r1.below b2).below b3).below b4
 have R2:=(r2.below b3).below b4
 have R3:=r3.below b4
 have B:=((b1.trans (b2.mono b1.size)).trans (b3.mono (b1.trans (b2.mono b1.size)).size)).trans (b4.mono ((b1.trans (b2.mono b1.size)).trans (b3.mono (b1.trans (b2.mono b1.size)).size)).size)
 have HR1:=Zh R1
 have HR2:=Zh R2
 have HR3:=Zh R3
 have HR4:=Zh r4
 have HB:=Zh B
 clear r1 r2 r3 r4 b1 b2 b3 b4 R1 R2 R3 B
 go_wp2_with fail
 refine (concat4 g1 g2 g3 g4 w4 HR1.out HR2.out HR3.out HR4.out).mono ?_
 rintro e w5 ⟨a5,c5,rfl,r5,b5⟩
 have HR5:=Zh r5
 have HB5:=Zh (HB.out.trans (b5.mono HB.out.size))
 clear r5 b5 HR1 HR2 HR3 HR4 HB
 go_wp2_with fail
 refine (Zcu 30 5 (by decide) (by decide) _).mono ?_
 rintro e w6 ⟨g6,rfl,r6,b6⟩
 have HR6:=Zh r6
 have HR7:=Zh (HR5.out.below b6)
 have HB6:=Zh (HB5.out.trans (b6.mono HB5.out.size))
 clear r6 b6 HR5 HB5
 go_wp2
 go_ret2
 exact ⟨a5,c5,_,30,rfl,HR7.out,HR6.out,HB6.out⟩
def fixD:List Nat:=List.replicate 32 5
end Go.Proofs.YtendielanacflaaGreat

namespace Go.Proofs.YtendielanacflaaGreat
open Go.RowKit Go.Shelf M07
def encSg:Enc Sg:=⟨2,fun s=>[.int .u8 (s.1:Nat),.int .u8 (s.2:Nat)],fun _=>rfl,fun _ u hu=>by simp at hu;rcases hu with rfl | rfl <;> rfl,by decide⟩
theorem Zbd:ElemS Tryz.prog 91 95 encSg (.agg #[.int .u8 0,.int .u8 0]) 2:=⟨Tryz.underlying91,by kernel_rfl,by kernel_rfl⟩
def sgV (s:Sg):Value:=.agg #[.int .u8 (s.1:Nat),.int .u8 (s.2:Nat)]
set_option maxRecDepth 100000 in
theorem Zhw (c:Nat) (w:World):Calls Tryz.prog 49 #[.int .u8 (c:Nat)] w fun e w'=>e = .returned (.int .i64 (rbits c:Nat)) /\ w' = w:=by
 by_cases h1:c = 16
 ·subst h1
  go_enter Tryz.func49,Tryz.ntmps49
  go_wp2
  go_ret
  exact ⟨rfl,rfl⟩
 by_cases h2:c = 17
 ·subst h2
  go_enter Tryz.func49,Tryz.ntmps49
  go_wp2
  go_ret
  exact ⟨rfl,rfl⟩
 by_cases h3:c = 18
 ·subst h3
  go_enter Tryz.func49,Tryz.ntmps49
  go_wp2
  go_ret
  exact ⟨rfl,rfl⟩
 have hr:Hid (rbits c = 0):=by unfold Hid rbits;rw [if_neg h1,if_neg h2,if_neg h3]
 have t1:((c:Int) == 16) = false:=by simp;omega
 have t2:((c:Int) == 17) = false:=by simp;omega
 have t3:((c:Int) == 18) = false:=by simp;omega
 clear h1 h2 h3
 go_enter Tryz.func49,Tryz.ntmps49
 go_wp2
 go_ret
 exact ⟨by rw [hr.out];rfl,rfl⟩
set_option maxRecDepth 100000 in
theorem Zgk (s:Sg) (hs:SgOk s) (w:World):Calls Tryz.prog 127 #[sgV s] w fun e w'=>e = .returned (.int .i64 (times s:Nat)) /\ Below w.heap.size w w':=by
 have hx:=hs.lt
 obtain ⟨c,x⟩:=s
 unfold sgV
 have HB:=Zh (Zfl w (.cells #[.int .u8 (c:Nat),.int .u8 (x:Nat)] 95))
 simp only at hx
 by_cases h1:c < 16
 ·have hr:Hid (times (c,x) = 1):=by unfold Hid times;rw [if_pos h1]
  have t1:decide ((c:Int) < 16) = true:=by simp;omega
  clear h1
  go_enter Tryz.func127,Tryz.ntmps127
  go_wp2
  go_ret
  exact ⟨by rw [hr.out];rfl,HB.out⟩
 by_cases h2:c < 18
 ·have hr:Hid (Ending.returned (.int .i64 (3 + (x:Int))) = Ending.returned (.int .i64 (times (c,x):Nat))):=by unfold Hid times;rw [if_neg h1,if_pos h2];rfl
  have t1:decide ((c:Int) < 16) = false:=by simp;omega
  have t2:decide ((c:Int) < 18) = true:=by simp;omega
  clear h1 h2
  go_enter Tryz.func127,Tryz.ntmps127
  go_wp2
  go_ret
  exact ⟨hr.out,HB.out⟩
 have hr:Hid (Ending.returned (.int .i64 (11 + (x:Int))) = Ending.returned (.int .i64 (times (c,x):Nat))):=by unfold Hid times;rw [if_neg h1,if_neg h2];rfl
 have t1:decide ((c:Int) < 16) = false:=by simp;omega
 have t2:decide ((c:Int) < 18) = false:=by simp;omega
 clear h1 h2
 go_enter Tryz.func127,Tryz.ntmps127
 go_wp2
 go_ret
 exact ⟨hr.out,HB.out⟩
end Go.Proofs.YtendielanacflaaGreat

namespace Go.Proofs.YtendielanacflaaGreat
open Go.RowKit Go.Shelf M04
def long (l:List Nat):Bool:=l.any (fun x=>decide (15 < x))
def mayH (f o:List Nat):Bool :=
 decide (257 <= f.length) && decide (f.length <= 286) && decide (1 <= o.length) && decide (o.length <= 30) && decide (f.getD 256 0 ≠ 0) && !(long f) && !(long o) &&
  (decide ((clsE f).1 = 2) || singleB f) && (decide ((clsE o).1 = 2) || decide ((clsE o).1 = 0) || singleB o)
theorem Zqv (n:Nat) (w:World):Calls Tryz.prog 87 #[.int .u8 (n:Nat)] w fun e w'=>e = .returned (.bool (decide (15 < n))) /\ w' = w:=by
 go_enter Tryz.func87,Tryz.ntmps87
 go_wp2
 go_ret
 exact ⟨congrArg (fun b=>Ending.returned (.bool b)) (decide_eq_decide.2 (by omega)),rfl⟩
def IdxOut (l:List Nat) (e:Ending):Prop:=if long l then ∃ k:Nat,e = .returned (.int .i64 k) else e = .returned (.int .i64 (-1))
theorem Zabl (a:Option Addr) (cap:Nat) (l:List Nat) (w:World) (hr:RowN .u8 w a cap l) :
  Calls Tryz.prog 122 #[.slice a l.length cap,.func (Fn.func 87) #[] #[]] w fun e w'=>IdxOut l e /\ w' = w:=by
 have hlen:=hr.len
 go_enter Tryz.func122,Tryz.ntmps122
 go_wp2_with fail
 go_loop [5,8] (fun _ i=>∃ k:Nat,k <= l.length /\ i = .int .i64 k /\ ∀ x ∈ l.take k,x <= 15) (fun _ i=>l.length - (intOf i).toNat)
 case atStart=>exact ⟨0,by omega,rfl,by simp⟩
 case round =>
  obtain ⟨k,hk,rfl,hall⟩:=hrel
  have HA:=Zh hall
  clear hall
  by_cases hlt:k < l.length
  ·obtain ⟨b,off,rfl,hb,hck⟩:=hr.at hlt
   clear hr
   have HM:=Zh (List.getElem_mem hlt)
   have HT:=Zh (Zas l k hlt)
   generalize l[k] = x at *
   by_cases hx:15 < x
   ·have hd:decide (15 < x) = true:=by simpa using hx
    have HL:Hid (long l = true):=by
     unfold Hid long
     rw [List.any_eq_true]
     exact ⟨x,HM.out,hd⟩
    go_wp2_with (go_at_call 87;refine (Zqv x _).mono ?_;rintro e w' ⟨rfl,rfl⟩;rw [hd])
    go_ret
    exact ⟨by unfold IdxOut;rw [if_pos HL.out];exact ⟨k,rfl⟩,rfl⟩
   ·have hd:decide (15 < x) = false:=by simpa using hx
    go_wp2_with (go_at_call 87;refine (Zqv x _).mono ?_;rintro e w' ⟨rfl,rfl⟩;rw [hd])
    go_round
    case rel=>exact ⟨k + 1,by omega,by go_num,by rw [HT.out];intro y hy;rcases List.mem_append.1 hy with h | h;exact HA.out y h;simp at h;omega⟩
    case measure=>simp [intOf];omega
  ·have h2:l.take k = l:=List.take_of_length_le (by omega)
   rw [h2] at HA
   have HL:Hid (long l = false):=by
    unfold Hid long
    rw [List.any_eq_false]
    intro x hx
    have:=HA.out x hx
    simpa using this
   go_wp2
   go_ret
   exact ⟨by unfold IdxOut;rw [if_neg (by rw [HL.out];decide)];rfl,rfl⟩
theorem Zij (a:Option Addr) (cap:Nat) (l:List Nat) (w:World) (hr:RowN .u8 w a cap l) :
  Calls Tryz.prog 88 #[.slice a l.length cap,.func (Fn.func 87) #[] #[]] w fun e w'=>e = .returned (.bool (long l)) /\ w' = w:=by
 have HC:=Zh (Zabl a cap l w hr)
 clear hr
 go_enter Tryz.func88,Tryz.ntmps88
 go_wp2_with fail
 refine HC.out.mono ?_
 by_cases hl:long l = true
 ·have HL:=Zh hl
  rintro e w1 ⟨h,rfl⟩
  unfold IdxOut at h
  rw [if_pos hl] at h
  obtain ⟨k,rfl⟩:=h
  have t1:decide ((0:Int) <= (k:Int)) = true:=by simp
  clear hl HC
  go_wp2
  go_ret
  exact ⟨by rw [HL.out];rfl,rfl⟩
 ·have HL:=Zh (show long l = false by simpa using hl)
  rintro e w1 ⟨h,rfl⟩
  unfold IdxOut at h
  rw [if_neg hl] at h
  subst h
  clear hl HC
  go_wp2
  go_ret
  exact ⟨by rw [HL.out];rfl,rfl⟩
theorem Zvh (w:World):Calls Tryz.prog 48 #[] w fun e w'=>e = .returned (.slice (some ⟨w.heap.size,0,none⟩) 19 19) /\ w' = w.alloc (.cells #[.int .u8 16,.int .u8 17,.int .u8 18,.int .u8 0,.int .u8 8,.int .u8 7,.int .u8 9,.int .u8 6,.int .u8 10,.int .u8 5,.int .u8 11,.int .u8 4,.int .u8 12,.int .u8 3,.int .u8 13,.int .u8 2,.int .u8 14,.int .u8 1,.int .u8 15] 5):=by
 go_enter Tryz.func48,Tryz.ntmps48
 go_wp2
 go_ret
 exact ⟨rfl,rfl⟩
end Go.Proofs.YtendielanacflaaGreat

namespace Go.Proofs.YtendielanacflaaGreat.M10
open M01 M04 M06
def decF (F:TF) (bs:List Nat):Nat -> Nat -> Nat -> Nat -> Option (Nat × Nat)
 | 0,_,_,_=>none
 | f + 1,x,k,at_=>match F x k with
  | none=>none
  | some s=>if 0 <= s then some (s.toNat,at_) else if at_ + 1 <= 8 * bs.length then decF F bs f (2 * x + bit bs at_) (k + 1) (at_ + 1) else none
def tabOf (l:List Nat):TF:=tabI l (words l) l.length
def sym (l bs:List Nat) (at_:Nat):Option (Nat × Nat):=decF (tabOf l) bs 22 0 0 at_
def repOut (d:Nat) (out:List Nat):Nat -> List Nat
 | 0=>out
 | n + 1=>repOut d out n ++ [(repOut d out n).getD ((repOut d out n).length - d) 0]
theorem Zfu (d:Nat) (out:List Nat) (n:Nat):(repOut d out n).length = out.length + n:=by
 induction n with
 | zero=>rfl
 | succ n ih=>simp [repOut,ih];omega
end Go.Proofs.YtendielanacflaaGreat.M10

namespace Go.Proofs.YtendielanacflaaGreat
open Go.RowKit
def fixN (i:Nat):Nat:=if 143 < i /\ i < 256 then 9 else if 255 < i /\ i < 280 then 7 else 8
def partL (f:Nat -> Nat) (n k:Nat):List Nat:=(List.range n).map fun i=>if i < k then f i else 0
theorem Zeu (f:Nat -> Nat) (n k:Nat):(partL f n k).length = n:=by simp [partL]
theorem Zjh (f:Nat -> Nat) (n:Nat):partL f n 0 = List.replicate n 0:=by
 apply List.ext_getElem?
 intro i
 simp only [partL,List.getElem?_map,List.getElem?_replicate,Nat.not_lt_zero,if_false]
 by_cases h:i < n
 ·simp [h]
 ·simp [h]
theorem Zjg (f:Nat -> Nat) (n k:Nat) (hk:k < n):(partL f n k).set k (f k) = partL f n (k + 1):=by
 apply List.ext_getElem?
 intro i
 rw [List.getElem?_set,Zeu]
 unfold partL
 by_cases he:k = i
 ·subst he;rw [if_pos rfl,if_pos hk];simp [hk]
 ·rw [if_neg he]
  by_cases h:i < n
  ·simp only [List.getElem?_map,List.getElem?_range h,Option.map_some,Option.some.injEq]
   by_cases h2:i < k
   ·rw [if_pos h2,if_pos (by omega)]
   ·rw [if_neg h2,if_neg (by omega)]
  ·simp [h]
theorem Zwm {A:World} {base g n k:Nat} {f:Nat -> Nat} (h:OwnN 5 .u8 A base (some ⟨g,0,none⟩) n (partL f n k)) (s:Nat) (hs:s < n):(∃ v,A.cell? ⟨g,s,none⟩ = some v) /\ A.frozen? ⟨g,s,none⟩ = false:=by
 obtain ⟨g',he,_,_,hc,hf⟩:=h.at (i:=s) (by rw [Zeu];exact hs)
 simp only [Option.some.injEq,Addr.mk.injEq,and_true] at he
 subst he
 exact ⟨⟨_,hc⟩,hf⟩
theorem Zre {A:World} {base g n k:Nat} {f:Nat -> Nat} (h:OwnN 5 .u8 A base (some ⟨g,0,none⟩) n (partL f n k)) (hk:k < n):OwnN 5 .u8 (A.setCell ⟨g,k,none⟩ (.int .u8 (f k:Nat))) base (some ⟨g,0,none⟩) n (partL f n (k + 1)):=by
 rw [<- Zjg f n k hk]
 exact (OwnN.stored h _ _).1
theorem Zng {A:World} {base g n k x:Nat} {f:Nat -> Nat} (h:OwnN 5 .u8 A base (some ⟨g,0,none⟩) n (partL f n k)) (hk:k < n):OwnN 5 .u8 ((A.setCell ⟨g,k,none⟩ (.int .u8 (x:Nat))).setCell ⟨g,k,none⟩ (.int .u8 (f k:Nat))) base (some ⟨g,0,none⟩) n (partL f n (k + 1)):=by
 rw [<- Zjg f n k hk]
 have:=(OwnN.stored (OwnN.stored h k x).1 k (f k)).1
 rwa [List.set_set] at this
end Go.Proofs.YtendielanacflaaGreat

namespace Go.Proofs.YtendielanacflaaGreat
open Go.RowKit M01 M04 M10
def hitF (l:List Nat) (x n j:Nat):Prop:=0 < l.getD j 0 /\ n <= l.getD j 0 /\ word l j / 2 ^ (l.getD j 0 - n) = x
instance (l:List Nat) (x n j:Nat):Decidable (hitF l x n j):=by unfold hitF;infer_instance
end Go.Proofs.YtendielanacflaaGreat

namespace Go.Proofs.YtendielanacflaaGreat.M09
open M01 M04 M06 M07 M10
def ordL:List Nat:=[16,17,18,0,8,7,9,6,10,5,11,4,12,3,13,2,14,1,15]
def lensL (bs:List Nat) (p:Nat):Nat -> List Nat
 | 0=>List.replicate 19 0
 | k + 1=>(lensL bs p k).set (ordL.getD k 0) (num bs (p + 3 * k) 3)
end Go.Proofs.YtendielanacflaaGreat.M09

namespace Go.Proofs.YtendielanacflaaGreat.M07
def exS:List Sg -> List Nat -> Option (List Nat)
 | [],out=>some out
 | s :: l,out=>if s.1 = 16 /\ out.length = 0 then none else exS l (out ++ List.replicate (times s) (kOf s.1 out))
theorem Zsi (l m:List Sg) (out:List Nat):exS (l ++ m) out = (exS l out).bind (exS m):=by
 induction l generalizing out with
 | nil=>rfl
 | cons s l ih =>
  simp only [List.cons_append,exS]
  split
  ·rfl
  ·exact ih _
theorem Zacx (l:List Sg) (out r:List Nat) (h:exS l out = some r):out.length <= r.length:=by
 induction l generalizing out with
 | nil=>simp [exS] at h;rw [h];exact Nat.le_refl _
 | cons s l ih =>
  simp only [exS] at h
  split at h
  ·cases h
  ·have:=ih _ h
   rw [List.length_append] at this
   omega
theorem Zaeh (n:Nat) (l:List Sg) (out r:List Nat) (h:exS l out = some r) (hr:r.length = n):unp n l out = some r:=by
 induction l generalizing out with
 | nil=>simp [exS] at h;subst h;simp [unp,hr]
 | cons s l ih =>
  simp only [exS] at h
  split at h
  ·cases h
  ·next h0 =>
   have h1:=Zacx _ _ _ h
   rw [List.length_append,List.length_replicate] at h1
   rw [unp,if_neg h0,if_neg (by omega)]
   exact ih _ h
def runsF:Nat -> List Nat -> List (Nat × Nat)
 | 0,_=>[]
 | _ + 1,[]=>[]
 | f + 1,a :: l=>(a,1 + (l.takeWhile fun x=>x == a).length) :: runsF f (l.dropWhile fun x=>x == a)
def runs (l:List Nat):List (Nat × Nat):=runsF l.length l
theorem Zdb (a:Nat) (l:List Nat):(l.dropWhile fun x=>x == a).length <= l.length:=(List.dropWhile_sublist _).length_le
theorem Ztb (f:Nat):∀ (l:List Nat) (g:Nat),l.length <= f -> l.length <= g -> runsF f l = runsF g l:=by
 induction f with
 | zero =>
  intro l g h1 h2
  have:l = []:=List.eq_nil_of_length_eq_zero (by omega)
  subst this
  cases g <;> rfl
 | succ f ih =>
  intro l g h1 h2
  cases l with
  | nil=>cases g <;> rfl
  | cons a l =>
   cases g with
   | zero=>simp at h2
   | succ g =>
    simp only [List.length_cons] at h1 h2
    have:=Zdb a l
    simp only [runsF]
    rw [ih _ g (by omega) (by omega)]
theorem Zwz (a:Nat) (l:List Nat):runs (a :: l) = (a,1 + (l.takeWhile fun x=>x == a).length) :: runs (l.dropWhile fun x=>x == a):=by
 have:=Zdb a l
 unfold runs
 rw [List.length_cons,runsF]
 rw [Ztb l.length _ (l.dropWhile fun x=>x == a).length (by omega) (Nat.le_refl _)]
theorem Zaci (a:Nat) (n:Nat) (l:List Nat) (h:∀ x,l.head? = some x -> x ≠ a):((List.replicate n a ++ l).takeWhile fun x=>x == a) = List.replicate n a /\ ((List.replicate n a ++ l).dropWhile fun x=>x == a) = l:=by
 induction n with
 | zero =>
  cases l with
  | nil=>simp
  | cons b l =>
   have:=h b rfl
   simp [this]
 | succ n ih =>
  simp only [List.replicate_succ,List.cons_append]
  simp [ih.1,ih.2]
theorem Zxb (l:List Nat) (i n:Nat) (hn:0 < n) (hi:i + n <= l.length) (h:∀ j,j < n -> l.getD (i + j) 0 = l.getD i 0) (hend:i + n = l.length \/ l.getD (i + n) 0 ≠ l.getD i 0) :
  runs (l.drop i) = (l.getD i 0,n) :: runs (l.drop (i + n)):=by
 have hsp:l.drop i = List.replicate n (l.getD i 0) ++ l.drop (i + n):=by
  apply List.ext_getElem?
  intro j
  by_cases hj:j < n
  ·rw [List.getElem?_append_left (by simpa using hj),List.getElem?_replicate,if_pos hj,List.getElem?_drop]
   have:=h j hj
   rw [List.getD_eq_getElem?_getD,List.getElem?_eq_getElem (by omega),Option.getD_some] at this
   rw [List.getElem?_eq_getElem (by omega),this]
  ·rw [List.getElem?_append_right (by simpa using hj),List.length_replicate,List.getElem?_drop,List.getElem?_drop]
   congr 1;omega
 obtain ⟨m,rfl⟩:∃ m,n = m + 1:=⟨n - 1,by omega⟩
 have hd:∀ x,(l.drop (i + (m + 1))).head? = some x -> x ≠ l.getD i 0:=by
  intro x hx
  rw [List.head?_drop] at hx
  rcases hend with he | he
  ·rw [List.getElem?_eq_none (by omega)] at hx;cases hx
  ·rw [List.getD_eq_getElem?_getD,hx] at he
   exact he
 rw [hsp,List.replicate_succ,List.cons_append,Zwz,(Zaci _ m _ hd).1,(Zaci _ m _ hd).2,List.length_replicate,Nat.add_comm]
theorem Zlk (l:List Nat):∀ r ∈ runs l,0 < r.2:=by
 unfold runs
 generalize l.length = f
 induction f generalizing l with
 | zero=>intro r hr;simp [runsF] at hr
 | succ f ih =>
  cases l with
  | nil=>intro r hr;simp [runsF] at hr
  | cons a l =>
   intro r hr
   simp only [runsF,List.mem_cons] at hr
   rcases hr with rfl | hr
   ·show 0 < 1 + _;omega
   ·exact ih _ r hr
def unrun (r:List (Nat × Nat)):List Nat:=r.flatMap fun x=>List.replicate x.2 x.1
theorem Zdy (l:List Nat):unrun (runs l) = l:=by
 unfold runs
 have:∀ f (l:List Nat),l.length <= f -> unrun (runsF f l) = l:=by
  intro f
  induction f with
  | zero =>
   intro l h
   have:l = []:=List.eq_nil_of_length_eq_zero (by omega)
   subst this;rfl
  | succ f ih =>
   intro l h
   cases l with
   | nil=>rfl
   | cons a l =>
    have h1:=Zdb a l
    simp only [List.length_cons] at h
    have h2:=ih (l.dropWhile fun x=>x == a) (by omega)
    have h3:l.takeWhile (fun x=>x == a) = List.replicate (l.takeWhile fun x=>x == a).length a:=by
     apply List.eq_replicate_of_mem
     intro x hx
     have:=List.all_eq_true.1 (List.all_takeWhile (l:=l) (p:=fun x=>x == a)) x hx
     simpa using this
    unfold unrun at *
    simp only [runsF,List.flatMap_cons,h2]
    rw [Nat.add_comm,List.replicate_succ,<- h3,List.cons_append,List.takeWhile_append_dropWhile]
 exact this _ _ (Nat.le_refl _)
def pickS (k m:Nat):Sg:=if k = 0 /\ 11 <= m then (18,min m 138 - 11) else if k = 0 /\ 3 <= m then (17,m - 3) else if 3 <= m then (16,min m 6 - 3) else (k,0)
theorem Zcj (k m:Nat) (hk:k <= 15) (hm:0 < m):times (pickS k m) <= m /\ 1 <= times (pickS k m) /\ SgOk (pickS k m):=by
 unfold pickS
 split
 ·next h=>simp only [times,SgOk,rbits];simp;omega
 ·split
  ·next h1 h=>simp only [times,SgOk,rbits];simp;omega
  ·split
   ·next h1 h2 h=>simp only [times,SgOk,rbits];simp;omega
   ·next h1 h2 h =>
    simp only [times,SgOk,rbits]
    rw [if_pos (by omega),if_neg (by omega),if_neg (by omega),if_neg (by omega)]
    simp;omega
theorem Zado (k m:Nat) (hk:k <= 15) (o:List Nat) (ho:k ≠ 0 -> ∃ o',o = o' ++ [k]):¬ ((pickS k m).1 = 16 /\ o.length = 0 /\ k ≠ 0) /\ (k ≠ 0 \/ m < 3 \/ (pickS k m).1 ≠ 16) /\ ((pickS k m).1 = 16 -> k ≠ 0) /\ kOf (pickS k m).1 o = k:=by
 unfold pickS
 have hlast:k ≠ 0 -> o.getD (o.length - 1) 0 = k /\ o.length ≠ 0:=by
  intro h
  obtain ⟨o',rfl⟩:=ho h
  simp
 split
 ·next h=>refine ⟨by simp,by simp,by simp,?_⟩;unfold kOf;simp;omega
 ·split
  ·next h1 h=>refine ⟨by simp,by simp,by simp,?_⟩;unfold kOf;simp;omega
  ·split
   ·next h1 h2 h =>
    have hk0:k ≠ 0:=by omega
    obtain ⟨h3,h4⟩:=hlast hk0
    refine ⟨by simp [h4],.inl hk0,fun _=>hk0,?_⟩
    unfold kOf;simp only [if_true];exact h3
   ·next h1 h2 h =>
    refine ⟨by simp;omega,by omega,by simp;omega,?_⟩
    unfold kOf
    rw [if_neg (by show ¬ k = 16;omega),if_neg (by show ¬ 16 < k;omega)]
def packM (k:Nat):Nat -> Nat -> List Sg
 | 0,_=>[]
 | f + 1,m=>if m = 0 then [] else pickS k m :: packM k f (m - times (pickS k m))
theorem Zst (k:Nat) (hk:k <= 15):∀ f g m,m <= f -> m <= g -> packM k f m = packM k g m:=by
 intro f
 induction f with
 | zero =>
  intro g m h1 h2
  obtain rfl:m = 0:=by omega
  cases g <;> simp [packM]
 | succ f ih =>
  intro g m h1 h2
  cases g with
  | zero =>
   obtain rfl:m = 0:=by omega
   simp [packM]
  | succ g =>
   simp only [packM]
   split
   ·rfl
   ·next h0 =>
    have:=Zcj k m hk (by omega)
    rw [ih g _ (by omega) (by omega)]
def packK (k m:Nat):List Sg:=packM k m m
theorem Zcy (k m:Nat) (hk:k <= 15) (hm:0 < m):packK k m = pickS k m :: packK k (m - times (pickS k m)):=by
 obtain ⟨n,rfl⟩:∃ n,m = n + 1:=⟨m - 1,by omega⟩
 have:=Zcj k (n + 1) hk hm
 unfold packK
 rw [packM,if_neg (by omega),Zst k hk n (n + 1 - times (pickS k (n + 1))) _ (by omega) (Nat.le_refl _)]
def packR (r:Nat × Nat):List Sg:=if 0 < r.1 then (r.1,0) :: packK r.1 (r.2 - 1) else packK 0 r.2
def pack (l:List Nat):List Sg:=(runs l).flatMap packR
theorem Zrb (k:Nat) (hk:k <= 15):∀ m (o:List Nat),(k ≠ 0 -> ∃ o',o = o' ++ [k]) -> exS (packK k m) o = some (o ++ List.replicate m k) /\ (∀ s ∈ packK k m,SgOk s) /\ (packK k m).length <= m:=by
 intro m
 induction m using Nat.strongRecOn with
 | ind m ih =>
  intro o ho
  by_cases hm:m = 0
  ·subst hm
   simp [packK,packM,exS]
  ·have h1:=Zcj k m hk (by omega)
   have h2:=Zado k m hk o ho
   rw [Zcy k m hk (by omega)]
   have h3:=ih (m - times (pickS k m)) (by omega) (o ++ List.replicate (times (pickS k m)) k) (fun h=>⟨o ++ List.replicate (times (pickS k m) - 1) k,by
    rw [List.append_assoc]
    congr 1
    rw [show [k] = List.replicate 1 k from rfl,List.replicate_append_replicate,show times (pickS k m) - 1 + 1 = times (pickS k m) by omega]⟩)
   refine ⟨?_,?_,?_⟩
   ·rw [exS,if_neg,h2.2.2.2,h3.1,List.append_assoc,List.replicate_append_replicate,show times (pickS k m) + (m - times (pickS k m)) = m by omega]
    rintro ⟨h4,h5⟩
    exact h2.1 ⟨h4,h5,h2.2.2.1 h4⟩
   ·intro s hs
    rcases List.mem_cons.1 hs with rfl | hs
    ·exact h1.2.2
    ·exact h3.2.1 s hs
   ·rw [List.length_cons]
    have:=h3.2.2
    omega
theorem Zaal (r:Nat × Nat) (hk:r.1 <= 15) (hn:0 < r.2) (o:List Nat):exS (packR r) o = some (o ++ List.replicate r.2 r.1) /\ (∀ s ∈ packR r,SgOk s) /\ (packR r).length <= r.2:=by
 unfold packR
 split
 ·next h0 =>
  have h1:=Zrb r.1 hk (r.2 - 1) (o ++ [r.1]) (fun _=>⟨o,rfl⟩)
  refine ⟨?_,?_,?_⟩
  ·have ht:times (r.1,0) = 1:=by unfold times;rw [if_pos (by show r.1 < 16;omega)]
   have hk2:kOf r.1 o = r.1:=by unfold kOf;rw [if_neg (by omega),if_neg (by omega)]
   rw [exS,if_neg (by show ¬ (r.1 = 16 /\ _);omega),ht]
   show exS (packK r.1 (r.2 - 1)) (o ++ List.replicate 1 (kOf r.1 o)) = _
   rw [hk2,show List.replicate 1 r.1 = [r.1] from rfl,h1.1,List.append_assoc]
   congr 2
   rw [show [r.1] = List.replicate 1 r.1 from rfl,List.replicate_append_replicate,show 1 + (r.2 - 1) = r.2 by omega]
  ·intro s hs
   rcases List.mem_cons.1 hs with rfl | hs
   ·unfold SgOk rbits
    refine ⟨by show r.1 <= 18;omega,?_⟩
    show 0 < 2 ^ _
    exact Nat.pos_of_ne_zero (by simp)
   ·exact h1.2.1 s hs
  ·rw [List.length_cons];have:=h1.2.2;omega
 ·next h0 =>
  have hr:r.1 = 0:=by omega
  have h1:=Zrb 0 (by omega) r.2 o (fun h=>absurd rfl h)
  rw [hr]
  exact h1
theorem Zrc (rs:List (Nat × Nat)) (hk:∀ r ∈ rs,r.1 <= 15) (hn:∀ r ∈ rs,0 < r.2):∀ o,exS (rs.flatMap packR) o = some (o ++ unrun rs) /\ (∀ s ∈ rs.flatMap packR,SgOk s) /\ (rs.flatMap packR).length <= (unrun rs).length:=by
 induction rs with
 | nil=>intro o;simp [exS,unrun]
 | cons r rs ih =>
  intro o
  have h1:=Zaal r (hk r (by simp)) (hn r (by simp)) o
  have h2:=ih (fun x hx=>hk x (by simp [hx])) (fun x hx=>hn x (by simp [hx])) (o ++ List.replicate r.2 r.1)
  unfold unrun at *
  simp only [List.flatMap_cons]
  refine ⟨?_,?_,?_⟩
  ·rw [Zsi,h1.1,Option.bind_some,h2.1,List.append_assoc]
  ·intro s hs
   rcases List.mem_append.1 hs with hs | hs
   ·exact h1.2.1 s hs
   ·exact h2.2.1 s hs
  ·rw [List.length_append,List.length_append,List.length_replicate]
   have:=h1.2.2;have:=h2.2.2;omega
theorem Zri (l:List Nat) (h:∀ x ∈ l,x <= 15):∀ r ∈ runs l,r.1 <= 15:=by
 intro r hr
 have h1:=Zlk l r hr
 refine h r.1 ?_
 rw [<- Zdy l]
 unfold unrun
 rw [List.mem_flatMap]
 exact ⟨r,hr,List.mem_replicate.2 ⟨by omega,rfl⟩⟩
theorem Zky (l:List Nat) (h:∀ x ∈ l,x <= 15):unp l.length (pack l) [] = some l /\ (∀ s ∈ pack l,SgOk s) /\ (pack l).length <= l.length:=by
 have h1:=Zrc (runs l) (Zri l h) (Zlk l) []
 rw [Zdy,List.nil_append] at h1
 exact ⟨Zaeh _ _ _ _ h1.1 rfl,h1.2⟩
end Go.Proofs.YtendielanacflaaGreat.M07

namespace Go.Proofs.YtendielanacflaaGreat
open Go.RowKit Go.Shelf M04 M05
attribute [local go_sem] Oper.semAt_some
def lstF (f:List Nat):Nat -> Int
 | 0=>-1
 | k + 1=>if 0 < f.getD k 0 then (k:Int) else lstF f k
def fstF (f:List Nat):Nat -> Nat -> Int
 | _,0=>-1
 | k,n + 1=>if 0 < f.getD k 0 then (k:Int) else fstF f (k + 1) n
set_option maxRecDepth 100000 in
theorem Zsn (a:Option Addr) (cap:Nat) (l:List Nat) (w:World) (hr:RowN .i64 w a cap l) (hl:l.length <= 100000) :
  Calls Tryz.prog 95 #[.slice a l.length cap] w fun e w'=>e = .returned (.int .i64 (lstF l l.length)) /\ w' = w:=by
 obtain ⟨T,hT⟩:∃ T,lstF l l.length = T:=⟨_,rfl⟩
 have HT:=Zh hT
 rw [hT]
 clear hT
 go_enter Tryz.func95,Tryz.ntmps95
 go_wp2_with fail
 go_loop [2,3] (fun _ i=>∃ k:Nat,k <= l.length /\ i = .int .i64 ((k:Int) - 1) /\ lstF l k = T) (fun _ i=>(intOf i + 1).toNat)
 case atStart=>exact ⟨l.length,Nat.le_refl _,by go_num,HT.out⟩
 case round =>
  clear HT
  obtain ⟨k,hk,rfl,ht⟩:=hrel
  have HT:=Zh ht
  clear ht
  by_cases h0:0 < k
  ·obtain ⟨j,rfl⟩:∃ j,k = j + 1:=⟨k - 1,by omega⟩
   have hj:j < l.length:=by omega
   obtain ⟨b,off,rfl,hb,hck⟩:=hr.at hj
   have hg:l.getD j 0 = l[j]:=by rw [List.getD_eq_getElem?_getD,List.getElem?_eq_getElem hj];rfl
   have HT2:=Zh (show (if 0 < l.getD j 0 then (j:Int) else lstF l j) = T from HT.out)
   rw [hg] at HT2
   clear hr HT hg h0
   have e1:((j + 1:Nat):Int) - 1 = (j:Int):=by omega
   rw [e1]
   have qj:(j:Int) < (l.length:Int):=by omega
   have b0:decide ((0:Int) <= (j:Int)) = true:=by simp
   clear e1
   generalize l[j] = x at *
   by_cases hx:0 < x
   ·have b1:decide (0 < x) = true:=by simpa using hx
    rw [if_pos hx] at HT2
    clear hx
    go_wp2
    go_ret
    exact ⟨by rw [<- HT2.out];rfl,rfl⟩
   ·have b1:decide (0 < x) = false:=by simpa using hx
    rw [if_neg hx] at HT2
    clear hx
    go_wp2
    go_round
    case rel=>exact ⟨j,by omega,by go_num,HT2.out⟩
    case measure=>simp [intOf]
  ·obtain rfl:k = 0:=by omega
   have HT2:=Zh (show (-1:Int) = T from HT.out)
   clear HT h0
   have b0:decide ((0:Int) <= ((0:Nat):Int) - 1) = false:=rfl
   go_wp2
   go_ret
   exact ⟨by rw [<- HT2.out];rfl,rfl⟩
set_option maxRecDepth 100000 in
theorem Zrl (x:Nat) (w:World):Calls Tryz.prog 94 #[.int .i64 (x:Nat)] w fun e w'=>e = .returned (.bool (decide (0 < x))) /\ w' = w:=by
 go_enter Tryz.func94,Tryz.ntmps94
 go_wp2
 go_ret
 simp
set_option maxRecDepth 100000 in
theorem Zor (a:Option Addr) (cap:Nat) (l:List Nat) (w:World) (hr:RowN .i64 w a cap l) :
  Calls Tryz.prog 93 #[.slice a l.length cap,.func (Fn.func 94) #[] #[]] w fun e w'=>e = .returned (.int .i64 (fstF l 0 l.length)) /\ w' = w:=by
 have hlen:=hr.len
 obtain ⟨T,hT⟩:∃ T,fstF l 0 l.length = T:=⟨_,rfl⟩
 have HT:=Zh hT
 rw [hT]
 clear hT
 go_enter Tryz.func93,Tryz.ntmps93
 go_wp2_with fail
 go_loop [5,8] (fun _ i=>∃ k:Nat,k <= l.length /\ i = .int .i64 k /\ fstF l k (l.length - k) = T) (fun _ i=>l.length - (intOf i).toNat)
 case atStart=>exact ⟨0,by omega,rfl,HT.out⟩
 case round =>
  clear HT
  obtain ⟨k,hk,rfl,ht⟩:=hrel
  have HT:=Zh ht
  clear ht
  by_cases hlt:k < l.length
  ·obtain ⟨b,off,rfl,hb,hck⟩:=hr.at hlt
   clear hr
   have hg:l.getD k 0 = l[k]:=by rw [List.getD_eq_getElem?_getD,List.getElem?_eq_getElem hlt];rfl
   obtain ⟨m,hm⟩:∃ m,l.length - k = m + 1:=⟨l.length - k - 1,by omega⟩
   have HT2:=Zh (show (if 0 < l.getD k 0 then (k:Int) else fstF l (k + 1) m) = T from by have:=HT.out;rw [hm] at this;exact this)
   have HM:=Zh (show m = l.length - (k + 1) from by omega)
   rw [hg] at HT2
   clear hm HT hg
   generalize l[k] = x at *
   by_cases hx:0 < x
   ·have hd:decide (0 < x) = true:=by simpa using hx
    rw [if_pos hx] at HT2
    clear hx
    go_wp2_with (go_at_call 94;refine (Zrl x _).mono ?_;rintro e w' ⟨rfl,rfl⟩;rw [hd])
    go_ret
    exact ⟨by rw [<- HT2.out];rfl,rfl⟩
   ·have hd:decide (0 < x) = false:=by simpa using hx
    rw [if_neg hx] at HT2
    clear hx
    go_wp2_with (go_at_call 94;refine (Zrl x _).mono ?_;rintro e w' ⟨rfl,rfl⟩;rw [hd])
    go_round
    case rel=>exact ⟨k + 1,by omega,by go_num,by rw [<- HM.out];exact HT2.out⟩
    case measure=>simp [intOf];omega
  ·have b1:decide (k < l.length) = false:=by simp;omega
   have HT2:=Zh (show (-1:Int) = T from by have:=HT.out;rw [show l.length - k = 0 by omega] at this;exact this)
   clear HT
   go_wp2
   go_ret
   exact ⟨by rw [<- HT2.out];rfl,rfl⟩
end Go.Proofs.YtendielanacflaaGreat
namespace Go.Proofs.YtendielanacflaaGreat.M01
open M04 M06 M10
theorem Zkb (bs:List Nat) (i:Nat):bit bs i = ((bs.getD (i / 8) 0).testBit (i % 8)).toNat:=by
 unfold bit;rw [Nat.toNat_testBit]
theorem Zub (bs:List Nat) (i:Nat) (h:8 * bs.length <= i):bit bs i = 0:=by
 unfold bit
 rw [List.getD_eq_getElem?_getD,List.getElem?_eq_none (by omega)];simp
def WZ (s:Wst):Prop:=∀ i,s.2 <= i -> bit s.1 i = 0
def ExtW (s s':Wst):Prop:=s.2 <= s'.2 /\ ∀ i,i < s.2 -> bit s'.1 i = bit s.1 i
theorem ExtW.refl (s:Wst):ExtW s s:=⟨Nat.le_refl _,fun _ _=>rfl⟩
theorem ExtW.trans {s t u:Wst} (h:ExtW s t) (h2:ExtW t u):ExtW s u :=
 ⟨Nat.le_trans h.1 h2.1,fun i hi=>(h2.2 i (Nat.lt_of_lt_of_le hi h.1)).trans (h.2 i hi)⟩
theorem Zme (s:Wst) (i:Nat):bit (roomy s) i = bit s.1 i:=by
 unfold roomy
 split
 ·unfold bit
  congr 2
  rw [List.getD_eq_getElem?_getD,List.getD_eq_getElem?_getD]
  by_cases h:i / 8 < s.1.length
  ·rw [List.getElem?_append_left h]
  ·rw [List.getElem?_eq_none (l:=s.1) (by omega)]
   by_cases h2:i / 8 = s.1.length
   ·rw [h2,List.getElem?_concat_length];rfl
   ·rw [List.getElem?_eq_none (by simp;omega)]
 ·rfl
theorem Zfi {s:Wst} (h:WOk s) (hz:WZ s) {b:Nat} (hb:b < 2) (i:Nat):bit (addBit s b).1 i = if i = s.2 then b else bit s.1 i:=by
 have hl:=Zex h
 rw [<- Zme s i]
 show bit ((roomy s).set (s.2 / 8) ((roomy s).getD (s.2 / 8) 0 ||| b * 2 ^ (s.2 % 8))) i = _
 by_cases h8:i / 8 = s.2 / 8
 ·rw [Zkb]
  have hget:((roomy s).set (s.2 / 8) ((roomy s).getD (s.2 / 8) 0 ||| b * 2 ^ (s.2 % 8))).getD (i / 8) 0 = (roomy s).getD (i / 8) 0 ||| b * 2 ^ (s.2 % 8):=by
   rw [h8,List.getD_eq_getElem?_getD,List.getElem?_set_self (by omega)];rfl
  rw [hget,Nat.testBit_or]
  have hb2:(b * 2 ^ (s.2 % 8)).testBit (i % 8) = (decide (b = 1) && decide (s.2 % 8 = i % 8)):=by
   rcases (show b = 0 \/ b = 1 by omega) with rfl | rfl
   ·simp
   ·rw [Nat.one_mul,Nat.testBit_two_pow];simp
  rw [hb2]
  by_cases hi:i = s.2
  ·subst hi
   have h0:=hz s.2 (Nat.le_refl _)
   rw [<- Zme s,Zkb] at h0
   have h1:((roomy s).getD (s.2 / 8) 0).testBit (s.2 % 8) = false:=by
    cases hc:((roomy s).getD (s.2 / 8) 0).testBit (s.2 % 8)
    ·rfl
    ·rw [hc] at h0;cases h0
   rw [h1,if_pos rfl]
   rcases (show b = 0 \/ b = 1 by omega) with rfl | rfl <;> simp
  ·rw [if_neg hi,Zkb]
   have hm:¬ s.2 % 8 = i % 8:=by omega
   simp [hm]
 ·rw [if_neg (fun e=>h8 (by rw [e]))]
  unfold bit
  congr 2
  rw [List.getD_eq_getElem?_getD,List.getElem?_set_ne (fun e=>h8 e.symm),<- List.getD_eq_getElem?_getD]
theorem Zry {s:Wst} (h:WOk s) (hz:WZ s) {b:Nat} (hb:b < 2):WZ (addBit s b) /\ ExtW s (addBit s b) /\ bit (addBit s b).1 s.2 = b:=by
 have h2:(addBit s b).2 = s.2 + 1:=rfl
 refine ⟨fun i hi=>?_,⟨by omega,fun i hi=>?_⟩,?_⟩
 ·rw [Zfi h hz hb,if_neg (by omega)];exact hz i (by omega)
 ·rw [Zfi h hz hb,if_neg (by omega)]
 ·rw [Zfi h hz hb,if_pos rfl]
theorem Zit {s:Wst} (h:WOk s) (hz:WZ s) (v n:Nat):WZ (addNum s v n) /\ ExtW s (addNum s v n) /\ ∀ j,j < n -> bit (addNum s v n).1 (s.2 + j) = v / 2 ^ j % 2:=by
 induction n with
 | zero=>exact ⟨hz,.refl _,fun j hj=>absurd hj (by omega)⟩
 | succ n ih =>
  obtain ⟨i1,i2,i3⟩:=ih
  obtain ⟨a1,a2,a3⟩:=Zry (Zgy h v n) i1 (show v / 2 ^ n % 2 < 2 from Nat.mod_lt _ (by decide))
  refine ⟨a1,i2.trans a2,fun j hj=>?_⟩
  show bit (addBit (addNum s v n) (v / 2 ^ n % 2)).1 (s.2 + j) = _
  by_cases hjn:j = n
  ·subst hjn
   rw [Zac] at a3;exact a3
  ·rw [a2.2 _ (by rw [Zac];omega)];exact i3 j (by omega)
theorem Zoj {s:Wst} (h:WOk s) (hz:WZ s) (x n:Nat):∀ m,m <= n -> WOk (addWord s x n m) /\ WZ (addWord s x n m) /\ ExtW s (addWord s x n m) /\ ∀ j,j < m -> bit (addWord s x n m).1 (s.2 + j) = x / 2 ^ (n - 1 - j) % 2:=by
 intro m
 induction m with
 | zero=>intro _;exact ⟨h,hz,.refl _,fun j hj=>absurd hj (by omega)⟩
 | succ m ih =>
  intro hm
  obtain ⟨i0,i1,i2,i3⟩:=ih (by omega)
  obtain ⟨a1,a2,a3⟩:=Zit i0 i1 (x / 2 ^ (n - 1 - m) % 2) 1
  refine ⟨Zgy i0 _ _,a1,i2.trans a2,fun j hj=>?_⟩
  show bit (addNum (addWord s x n m) (x / 2 ^ (n - 1 - m) % 2) 1).1 (s.2 + j) = _
  by_cases hjn:j = m
  ·subst hjn
   have:=a3 0 (by omega)
   rw [Zbj] at this
   simpa using this
  ·rw [a2.2 _ (by rw [Zbj];omega)];exact i3 j (by omega)
theorem Zfg {s:Wst} (h:WOk s) (hz:WZ s) (l:List Nat) (c:Nat):WOk (addSym l s c) /\ WZ (addSym l s c) /\ ExtW s (addSym l s c) /\ (addSym l s c).2 = s.2 + l.getD c 0:=by
 obtain ⟨a,b,d,_⟩:=Zoj h hz ((words l).getD c 0) (l.getD c 0) _ (Nat.le_refl _)
 exact ⟨a,b,d,Zbj _ _ _ _⟩
theorem Zacz {s t:Wst} (h:WOk t) (he:ExtW s t):s.2 <= 8 * t.1.length:=by
 have:=h.1;have:=he.1;omega
end Go.Proofs.YtendielanacflaaGreat.M01
namespace Go.Proofs.YtendielanacflaaGreat.M09
open M01 M04 M05 M06 M07 M10
def sgC (l:List Sg):List Nat:=(List.range 19).map fun c=>(l.map fun s=>s.1).count c
theorem Zeh (l:List Sg):(sgC l).length = 19:=by simp [sgC]
theorem Zxg (l:List Sg) (c:Nat) (h:c < 19):(sgC l).getD c 0 = (l.map fun s=>s.1).count c:=by
 rw [List.getD_eq_getElem?_getD,List.getElem?_eq_getElem (by rw [Zeh];exact h)];simp [sgC]
theorem Zaau (l:List Sg) (s:Sg) (hs:s.1 < 19):sgC (l ++ [s]) = (sgC l).set s.1 ((sgC l).getD s.1 0 + 1):=by
 apply List.ext_getElem
 ·simp [sgC]
 ·intro i h1 h2
  rw [Zeh] at h1
  have g:∀ l':List Sg,∀ h:i < (sgC l').length,(sgC l')[i] = (l'.map fun s=>s.1).count i:=by intro l' h;simp [sgC]
  rw [g,List.getElem_set,g,Zxg l s.1 hs]
  rw [List.map_append,List.count_append]
  by_cases hi:s.1 = i
  ·rw [if_pos hi,hi];simp [hi]
  ·rw [if_neg hi];simp [hi]
theorem Zace (l:List Sg):∀ x ∈ sgC l,x <= l.length:=by
 intro x hx
 unfold sgC at hx
 obtain ⟨c,_,rfl⟩:=List.mem_map.1 hx
 have:=List.count_le_length (a:=c) (l:=l.map fun s=>s.1)
 rw [List.length_map] at this;exact this
def sg1 (f:List Nat) (i:Nat):List Nat:=f.set i (f.getD i 0 + 1)
def sgI (f:List Nat):Nat -> List Nat
 | 0=>f
 | i + 1=>sg1 (sgI f i) i
def oneB (f:List Nat):Bool:=fstF f 0 f.length == lstF f f.length
def sgN (f:List Nat):Nat:=if oneB (sgI f 0) = true then (if oneB (sgI f 1) = true then 2 else 1) else 0
def sgF (f:List Nat):List Nat:=sgI f (sgN f)
theorem Zln (f:List Nat) (i:Nat):(sgI f i).length = f.length:=by
 induction i with
 | zero=>rfl
 | succ i ih=>show ((sgI f i).set i _).length = _;rw [List.length_set,ih]
theorem Zlm (f:List Nat) (i c:Nat) (hi:i <= f.length):(sgI f i).getD c 0 = f.getD c 0 + if c < i then 1 else 0:=by
 induction i with
 | zero=>simp [sgI]
 | succ i ih =>
  show ((sgI f i).set i ((sgI f i).getD i 0 + 1)).getD c 0 = _
  rw [List.getD_eq_getElem?_getD]
  by_cases h:c = i
  ·subst h
   rw [List.getElem?_set_self (by rw [Zln];omega),if_pos (by omega),ih (by omega),if_neg (by omega)]
   rfl
  ·rw [List.getElem?_set_ne (fun e=>h e.symm),<- List.getD_eq_getElem?_getD,ih (by omega)]
   by_cases h2:c < i
   ·rw [if_pos h2,if_pos (by omega)]
   ·rw [if_neg h2,if_neg (by omega)]
theorem Zvw (f:List Nat) (n c:Nat) (hc:c < n) (h:0 < f.getD c 0):(c:Int) <= lstF f n:=by
 induction n with
 | zero=>omega
 | succ n ih =>
  unfold lstF
  split
  ·omega
  ·next hn =>
   by_cases hcn:c = n
   ·subst hcn;exact absurd h hn
   ·exact ih (by omega)
theorem Zqu (f:List Nat) (n:Nat):lstF f n = -1 \/ ∃ c:Nat,lstF f n = c /\ c < n /\ 0 < f.getD c 0:=by
 induction n with
 | zero=>exact .inl rfl
 | succ n ih =>
  unfold lstF
  split
  ·next h=>exact .inr ⟨n,rfl,by omega,h⟩
  ·rcases ih with h | ⟨c,h1,h2,h3⟩
   ·exact .inl h
   ·exact .inr ⟨c,h1,by omega,h3⟩
theorem Zzg (f:List Nat) (n k:Nat):fstF f k n = -1 \/ ∃ c:Nat,fstF f k n = c /\ k <= c /\ c < k + n /\ 0 < f.getD c 0:=by
 induction n generalizing k with
 | zero=>exact .inl rfl
 | succ n ih =>
  unfold fstF
  split
  ·next h=>exact .inr ⟨k,rfl,by omega,by omega,h⟩
  ·rcases ih (k + 1) with h | ⟨c,h1,h2,h3,h4⟩
   ·exact .inl h
   ·exact .inr ⟨c,h1,by omega,by omega,h4⟩
theorem Zadc (f:List Nat) (n k c:Nat) (h1:k <= c) (h2:c < k + n) (h:0 < f.getD c 0):fstF f k n <= (c:Int):=by
 induction n generalizing k with
 | zero=>omega
 | succ n ih =>
  unfold fstF
  split
  ·omega
  ·next hn =>
   by_cases hck:c = k
   ·subst hck;exact absurd h hn
   ·exact ih (k + 1) (by omega) (by omega)
theorem Zaae (f:List Nat) (a b:Nat) (hab:a < b) (hb:b < f.length) (ha:0 < f.getD a 0) (hb0:0 < f.getD b 0):oneB f = false:=by
 unfold oneB
 have h1:=Zadc f f.length 0 a (by omega) (by omega) ha
 have h2:=Zvw f f.length b hb hb0
 exact beq_eq_false_iff_ne.2 (by omega)
theorem Zaad (f:List Nat) (h:2 <= f.length):oneB (sgI f 2) = false :=
 Zaae _ 0 1 (by omega) (by rw [Zln];omega) (by rw [Zlm f 2 0 h];simp) (by rw [Zlm f 2 1 h];simp)
theorem Zacf (f:List Nat):sgN f <= 2:=by unfold sgN;split <;> (try split) <;> omega
theorem Zqx (f:List Nat) (h:2 <= f.length):oneB (sgF f) = false:=by
 unfold sgF sgN
 by_cases h0:oneB (sgI f 0) = true
 ·rw [if_pos h0]
  by_cases h1:oneB (sgI f 1) = true
  ·rw [if_pos h1];exact Zaad f h
  ·rw [if_neg h1];simpa using h1
 ·rw [if_neg h0];simpa using h0
theorem Zpy (f:List Nat) (h:oneB f = false):2 <= (used f).length:=by
 unfold oneB at h
 have h:=beq_eq_false_iff_ne.1 h
 rcases Zzg f f.length 0 with h1 | ⟨a,h1,_,h2,h3⟩
 ·rcases Zqu f f.length with h4 | ⟨b,h4,h5,h6⟩
  ·exact absurd (h1.trans h4.symm) h
  ·have h7:∀ n k,k <= b -> b < k + n -> fstF f k n ≠ -1:=by
    intro n
    induction n with
    | zero=>intro k g1 g2;omega
    | succ n ih =>
     intro k g1 g2
     unfold fstF
     split
     ·omega
     ·next hn =>
      by_cases e:b = k
      ·subst e;exact absurd h6 hn
      ·exact ih (k + 1) (by omega) (by omega)
   exact absurd h1 (h7 f.length 0 (by omega) (by omega))
 ·rcases Zqu f f.length with h4 | ⟨b,h4,h5,h6⟩
  ·have:=Zvw f f.length a (by omega) h3;omega
  ·have hab:a ≠ b:=fun e=>h (by rw [h1,h4,e])
   have ha:a ∈ used f:=by unfold used;simp;exact ⟨by omega,by simpa [List.getD_eq_getElem?_getD] using h3⟩
   have hb:b ∈ used f:=by unfold used;simp;exact ⟨by omega,by simpa [List.getD_eq_getElem?_getD] using h6⟩
   match hu:used f with
   | []=>rw [hu] at ha;cases ha
   | [x] =>
    rw [hu] at ha hb
    exact absurd ((List.mem_singleton.1 ha).trans (List.mem_singleton.1 hb).symm) hab
   | _ :: _ :: _=>simp
theorem Zei (f:List Nat):(used f).length <= f.length:=by
 have:=List.length_filter_le (fun s=>decide (0 < f.getD s 0)) (List.range f.length)
 rw [List.length_range] at this;exact this
def sgLens (l:List Sg):List Nat:=limL (sgF (sgC l)) 7
theorem Zic (l:List Sg):(sgF (sgC l)).length = 19:=by unfold sgF;rw [Zln,Zeh]
theorem Zll (l:List Sg):2 <= (rar (sgF (sgC l))).length /\ (rar (sgF (sgC l))).length <= 19:=by
 have h1:=(Zbf (sgF (sgC l))).length_eq
 have h2:=Zpy _ (Zqx (sgC l) (by rw [Zeh];decide))
 have h3:=Zei (sgF (sgC l))
 rw [Zic] at h3
 omega
theorem Zjs (l:List Sg):(sgLens l).length = 19:=by unfold sgLens;rw [Zan,Zic]
theorem Zlo (l:List Sg):weight (sgLens l) = 2 ^ 20 :=
 Zmx _ 7 (by decide) (by decide) (Zll l).1 (by have:=(Zll l).2;omega)
theorem Zgl (l:List Sg) (c:Nat) (hc:c < 19):(sgLens l).getD c 0 <= 7 /\ ((sgLens l).getD c 0 = 0 ↔ (sgF (sgC l)).getD c 0 = 0):=by
 unfold sgLens
 rw [Zeq _ _ _ (by rw [Zic];exact hc)]
 exact Zdv _ 7 c (by decide) (by have:=(Zll l).2;omega) (by rw [Zic];exact hc)
theorem Zjr (l:List Sg):∀ x ∈ sgLens l,x <= 7:=by
 intro x hx
 obtain ⟨c,hc,rfl⟩:=List.getElem_of_mem hx
 have hc':=hc
 rw [Zjs] at hc'
 have:=(Zgl l c hc').1
 rw [List.getD_eq_getElem?_getD,List.getElem?_eq_getElem hc] at this
 exact this
theorem Ztc (l:List Sg) (s:Sg) (hs:s ∈ l) (h18:s.1 <= 18):0 < (sgLens l).getD s.1 0:=by
 have h1:=(Zgl l s.1 (by omega)).2
 have h2:0 < (sgF (sgC l)).getD s.1 0:=by
  unfold sgF
  rw [Zlm _ _ _ (by have:=Zacf (sgC l);rw [Zeh];omega),Zxg l _ (by omega)]
  have h3:0 < (l.map fun s=>s.1).count s.1:=List.count_pos_iff.2 (List.mem_map.2 ⟨s,hs,rfl⟩)
  omega
 omega
def cutN (lens:List Nat):Nat -> Nat
 | 0=>0
 | n + 1=>if 4 < n + 1 /\ lens.getD (ordL.getD n 0) 0 = 0 then cutN lens n else n + 1
theorem Zut (lens:List Nat) (n:Nat):cutN lens n <= n:=by
 induction n with
 | zero=>exact Nat.le_refl _
 | succ n ih=>unfold cutN;split <;> omega
theorem Zus (lens:List Nat) (n:Nat) (h:4 <= n):4 <= cutN lens n:=by
 induction n with
 | zero=>omega
 | succ n ih=>unfold cutN;split <;> omega
def put3 (lens:List Nat) (s:Wst):Nat -> Wst
 | 0=>s
 | k + 1=>addNum (put3 lens s k) (lens.getD (ordL.getD k 0) 0) 3
def putS (lens:List Nat) (s:Wst) (g:Sg):Wst:=addNum (addSym lens s g.1) g.2 (rbits g.1)
def putsS (lens:List Nat) (s:Wst) (l:List Sg):Wst:=l.foldl (putS lens) s
def put14 (s:Wst) (a b n:Nat):Wst:=addNum (addNum (addNum s (a - 257) 5) (b - 1) 5) (n - 4) 4
def hputL (s:Wst) (a b:Nat) (l:List Sg) (lens:List Nat):Wst:=putsS lens (put3 lens (put14 s a b (cutN lens 19)) (cutN lens 19)) l
def hputW (s:Wst) (f o:List Nat):Wst:=hputL s f.length o.length (pack (f ++ o)) (sgLens (pack (f ++ o)))
def WG (s:Wst):Prop:=WOk s /\ WZ s
theorem Zaq {s:Wst} (h:WG s) (v n:Nat):WG (addNum s v n) /\ ExtW s (addNum s v n):=by
 obtain ⟨a,b,_⟩:=Zit h.1 h.2 v n
 exact ⟨⟨Zgy h.1 v n,a⟩,b⟩
theorem Zacc {s:Wst} (h:WG s) (lens:List Nat) (k:Nat):WG (put3 lens s k) /\ ExtW s (put3 lens s k) /\ (put3 lens s k).2 = s.2 + 3 * k:=by
 induction k with
 | zero=>exact ⟨h,.refl _,rfl⟩
 | succ k ih =>
  obtain ⟨a,b,c⟩:=ih
  obtain ⟨d,e⟩:=Zaq a (lens.getD (ordL.getD k 0) 0) 3
  exact ⟨d,b.trans e,by show (addNum _ _ 3).2 = _;rw [Zac,c];omega⟩
theorem Zacd {s:Wst} (h:WG s) (lens:List Nat) (g:Sg):WG (putS lens s g) /\ ExtW s (putS lens s g) /\ (putS lens s g).2 = s.2 + lens.getD g.1 0 + rbits g.1:=by
 obtain ⟨a,b,c,d⟩:=Zfg h.1 h.2 lens g.1
 obtain ⟨e,f⟩:=Zaq ⟨a,b⟩ g.2 (rbits g.1)
 exact ⟨e,c.trans f,by show (addNum _ _ _).2 = _;rw [Zac,d]⟩
theorem Zads (lens:List Nat):∀ (l:List Sg) {s:Wst},WG s -> WG (putsS lens s l) /\ ExtW s (putsS lens s l):=by
 intro l
 induction l with
 | nil=>intro s h;exact ⟨h,.refl _⟩
 | cons g l ih =>
  intro s h
  obtain ⟨a,b,_⟩:=Zacd h lens g
  obtain ⟨c,d⟩:=ih a
  exact ⟨c,b.trans d⟩
theorem Zss {f o:List Nat} (h:mayH f o = true):257 <= f.length /\ f.length <= 286 /\ 1 <= o.length /\ o.length <= 30 /\ (∀ x ∈ f,x <= 15) /\ (∀ x ∈ o,x <= 15):=by
 unfold mayH at h
 simp only [Bool.and_eq_true,decide_eq_true_eq,Bool.not_eq_true'] at h
 obtain ⟨⟨⟨⟨⟨⟨⟨⟨h1,h2⟩,h3⟩,h4⟩,_⟩,h5⟩,h6⟩,_⟩,_⟩:=h
 refine ⟨h1,h2,h3,h4,?_,?_⟩
 ·intro x hx
  unfold long at h5
  simp at h5
  exact h5 x hx
 ·intro x hx
  unfold long at h6
  simp at h6
  exact h6 x hx
theorem Zwo {s:Wst} (h:WG s) (a b n:Nat):WG (put14 s a b n) /\ ExtW s (put14 s a b n) /\ (put14 s a b n).2 = s.2 + 14:=by
 obtain ⟨a1,a2⟩:=Zaq h (a - 257) 5
 obtain ⟨b1,b2⟩:=Zaq a1 (b - 1) 5
 obtain ⟨c1,c2⟩:=Zaq b1 (n - 4) 4
 exact ⟨c1,(a2.trans b2).trans c2,by unfold put14;rw [Zac,Zac,Zac]⟩
theorem Zade {s:Wst} (h:WG s) (a b:Nat) (l:List Sg) (lens:List Nat):WG (hputL s a b l lens) /\ ExtW s (hputL s a b l lens):=by
 obtain ⟨a1,a2,_⟩:=Zwo h a b (cutN lens 19)
 obtain ⟨b1,b2,_⟩:=Zacc a1 lens (cutN lens 19)
 obtain ⟨c1,c2⟩:=Zads lens l b1
 exact ⟨c1,(a2.trans b2).trans c2⟩
theorem Zvi {s:Wst} (h:WG s) (f o:List Nat):WG (hputW s f o) /\ ExtW s (hputW s f o):=Zade h _ _ _ _
theorem Zwp (lens:List Nat) (hl:∀ x ∈ lens,x <= 7):∀ (l:List Sg) (s:Wst),WG s -> (putsS lens s l).2 <= s.2 + 14 * l.length:=by
 intro l
 induction l with
 | nil=>intro s _;exact Nat.le_refl _
 | cons g l ih =>
  intro s h
  obtain ⟨p1,_,p3⟩:=Zacd h lens g
  have:=ih (putS lens s g) p1
  have h2:=M04.Zaw hl g.1
  have h3:rbits g.1 <= 7:=by unfold rbits;split <;> (try split) <;> (try split) <;> omega
  rw [p3] at this
  show (putsS lens (putS lens s g) l).2 <= _
  rw [List.length_cons]
  omega
theorem Zmu {s:Wst} (h:WG s) (f o:List Nat) (h15:∀ x ∈ f ++ o,x <= 15):(hputW s f o).2 <= s.2 + 14 + 57 + 14 * (f.length + o.length):=by
 obtain ⟨u1,u2,u3⟩:=Zky (f ++ o) h15
 rw [List.length_append] at u3
 unfold hputW hputL
 obtain ⟨p1,p2,p3⟩:=Zwo h f.length o.length (cutN (sgLens (pack (f ++ o))) 19)
 obtain ⟨q1,q2,q3⟩:=Zacc p1 (sgLens (pack (f ++ o))) (cutN (sgLens (pack (f ++ o))) 19)
 have:=Zwp (sgLens (pack (f ++ o))) (Zjr _) (pack (f ++ o)) _ q1
 have hc:=Zut (sgLens (pack (f ++ o))) 19
 omega
theorem Zed:WG ([],0):=⟨⟨rfl,by simp⟩,fun i _=>Zub [] i (by simp)⟩
end Go.Proofs.YtendielanacflaaGreat.M09

namespace Go.Proofs.YtendielanacflaaGreat.M10
open M01 M04 M06 M07 M08 M09
end Go.Proofs.YtendielanacflaaGreat.M10
namespace Go.Proofs.YtendielanacflaaGreat.M10
open M01 M04 M06 M07 M08 M09
theorem Zzi (pre out:List Nat) (k d:Nat) (h:d <= k) (hk:k = out.length) (hd:1 <= d):(pre ++ out).getD (pre.length + k - d) 0 = out.getD (k - d) 0:=by
 simp only [List.getD]
 rw [List.getElem?_append_right (by omega),show pre.length + k - d - pre.length = k - d by omega]
theorem Zjn (pre out:List Nat) (d:Nat) (h:d <= out.length) (hd:1 <= d):∀ n,repOut d (pre ++ out) n = pre ++ repOut d out n:=by
 intro n
 induction n with
 | zero=>rfl
 | succ n ih =>
  have hl:=Zfu d out n
  simp only [repOut,ih]
  rw [List.length_append,Zzi pre _ _ d (by omega) rfl hd,List.append_assoc]
end Go.Proofs.YtendielanacflaaGreat.M10

namespace Go.Proofs.YtendielanacflaaGreat.M10
open Go.RowKit Go.Shelf M01 M04 M06 M08 M09 M17
def expT (out:List Nat) (t:Tok):Option (List Nat):=if t.len = 0 then some (out ++ [t.byte]) else if (out.length:Int) < t.dist then none else some (repOut t.dist.toNat out t.len.toNat)
def expL:List Nat -> List Tok -> Option (List Nat)
 | out,[]=>some out
 | out,t :: l=>(expT out t).bind fun o=>expL o l
theorem Zqk (l m:List Tok):∀ out,expL out (l ++ m) = (expL out l).bind fun o=>expL o m:=by
 induction l with
 | nil=>intro out;rfl
 | cons t l ih =>
  intro out
  simp only [List.cons_append,expL]
  cases expT out t with
  | none=>rfl
  | some o=>exact ih o
theorem Zmq (l:List Tok) (k:Nat) (hk:k < l.length) (out:List Nat):expL out (l.take (k + 1)) = (expL out (l.take k)).bind fun o=>expT o l[k]:=by
 rw [List.take_succ_eq_append_getElem hk,Zqk]
 cases expL out (l.take k) with
 | none=>rfl
 | some o=>simp [expL]
theorem Zdm {s:Wst} (h:WG s) (l:List Nat) (c:Nat):WG (addSymE l s c) /\ ExtW s (addSymE l s c):=by
 unfold addSymE
 split
 ·exact ⟨h,.refl _⟩
 ·obtain ⟨a,b,d,_⟩:=Zfg h.1 h.2 l c
  exact ⟨⟨a,b⟩,d⟩
theorem Zqq {s:Wst} (h:WG s) (l1 l2:List Nat) (t:Tok):WG (layTok l1 l2 s t) /\ ExtW s (layTok l1 l2 s t):=by
 unfold layTok
 split
 ·exact Zdm h _ _
 ·have h1:=Zdm h l1 (lenS t.len)
  have h2:=Zaq h1.1 (lenX t.len) (lenB t.len)
  have h3:=Zdm h2.1 l2 (dstS t.dist)
  have h4:=Zaq h3.1 (dstX t.dist) (dstB t.dist)
  exact ⟨h4.1,h1.2.trans (h2.2.trans (h3.2.trans h4.2))⟩
theorem Zvo (l1 l2:List Nat):∀ (l:List Tok) {s:Wst},WG s -> WG (layTo l1 l2 s l) /\ ExtW s (layTo l1 l2 s l):=by
 intro l
 induction l with
 | nil=>intro s h;exact ⟨h,.refl _⟩
 | cons t l ih =>
  intro s h
  have h1:=Zqq h l1 l2 t
  have h2:=ih h1.1
  exact ⟨h2.1,h1.2.trans h2.2⟩
def layBlk (l1 l2:List Nat) (s:Wst) (l:List Tok):Wst:=addSymE l1 (layTo l1 l2 s l) 256
def alignW (s:Wst):Wst:=(s.1,8 * s.1.length)
theorem Zej {s:Wst} (h:WG s):WG (alignW s) /\ ExtW s (alignW s):=by
 refine ⟨⟨⟨?_,h.1.2⟩,fun i hi=>Zub s.1 i hi⟩,?_,fun i _=>rfl⟩
 ·show s.1.length = (8 * s.1.length + 7) / 8;omega
 ·exact Zacz h.1 (ExtW.refl s)
theorem Zcq {s:Wst} (h:WG s):(alignW s).2 = (s.2 + 7) / 8 * 8:=by
 have:=h.1.1
 show 8 * s.1.length = _
 omega
def putB (s:Wst) (b:List Nat):Wst:=b.foldl (fun s c=>addNum s c 8) s
theorem Znm:∀ (b:List Nat) {s:Wst},WG s -> WG (putB s b) /\ ExtW s (putB s b) /\ (putB s b).2 = s.2 + 8 * b.length:=by
 intro b
 induction b with
 | nil=>intro s h;exact ⟨h,.refl _,rfl⟩
 | cons c b ih =>
  intro s h
  have h1:=Zaq h c 8
  obtain ⟨a1,a2,a3⟩:=ih h1.1
  refine ⟨a1,h1.2.trans a2,?_⟩
  show (putB (addNum s c 8) b).2 = _
  rw [a3,Zac,List.length_cons];omega
theorem Zev (s:Wst) (b:List Nat) (k:Nat) (hk:k < b.length):putB s (b.take (k + 1)) = addNum (putB s (b.take k)) b[k] 8:=by
 unfold putB
 rw [List.take_succ_eq_append_getElem hk,List.foldl_append]
 rfl
def stoBlk (s:Wst) (b:List Nat):Wst:=putB (addNum (addNum (alignW s) b.length 16) (65535 - b.length) 16) b
theorem Zaba {s:Wst} (h:WG s) (b:List Nat):WG (stoBlk s b) /\ ExtW s (stoBlk s b) /\ (stoBlk s b).2 = (s.2 + 7) / 8 * 8 + 32 + 8 * b.length:=by
 have h0:=Zej h
 have h1:=Zaq h0.1 b.length 16
 have h2:=Zaq h1.1 (65535 - b.length) 16
 obtain ⟨a1,a2,a3⟩:=Znm b h2.1
 refine ⟨a1,h0.2.trans (h1.2.trans (h2.2.trans a2)),?_⟩
 show (putB _ b).2 = _
 rw [a3,Zac,Zac,Zcq h]
def begW (s:Wst) (last:Bool) (k:Nat):Wst:=addNum s (2 * k + if last then 1 else 0) 3
theorem Zdj {s:Wst} (h:WG s) (last:Bool) (k:Nat):WG (begW s last k) /\ ExtW s (begW s last k) /\ (begW s last k).2 = s.2 + 3:=by
 obtain ⟨a,b⟩:=Zaq h (2 * k + if last then 1 else 0) 3
 exact ⟨a,b,Zac _ _ _⟩
end Go.Proofs.YtendielanacflaaGreat.M10

namespace Go.Proofs.YtendielanacflaaGreat.M05
def swapL (d:List Nat) (j:Nat):List Nat:=(d.set (j + 1) (d.getD j 0)).set j (d.getD (j + 1) 0)
def insD (f:List Nat) (a:Nat):Nat -> List Nat -> List Nat
 | 0,d=>d
 | j + 1,d=>if a < j + 1 /\ f.getD (d.getD (j + 1) 0) 0 < f.getD (d.getD j 0) 0 then insD f a j (swapL d j) else d
def insO (f:List Nat) (a:Nat):Nat -> Nat -> List Nat -> List Nat
 | _,0,d=>d
 | i,n + 1,d=>insO f a (i + 1) n (insD f a i d)
def insS (f:List Nat) (a b:Nat) (d:List Nat):List Nat:=insO f a (a + 1) (b - (a + 1)) d
theorem Zif (d:List Nat) (j:Nat):(swapL d j).length = d.length:=by simp [swapL]
theorem Zzl (f:List Nat) (a:Nat):∀ j d,(insD f a j d).length = d.length:=by
 intro j
 induction j with
 | zero=>intro d;rfl
 | succ j ih =>
  intro d
  unfold insD
  split
  ·rw [ih,Zif]
  ·rfl
def inr (f:List Nat) (x:Nat):List Nat -> List Nat
 | []=>[x]
 | y :: ys=>if f.getD x 0 < f.getD y 0 then y :: inr f x ys else x :: y :: ys
theorem Zadf (f:List Nat) (x:Nat):∀ r,(inr f x r).length = r.length + 1:=by
 intro r
 induction r with
 | nil=>rfl
 | cons y ys ih =>
  unfold inr
  split
  ·simp [ih]
  ·rfl
theorem Zkr (f:List Nat) (x:Nat):∀ r,(inr f x r).Perm (x :: r):=by
 intro r
 induction r with
 | nil=>exact .refl _
 | cons y ys ih =>
  unfold inr
  split
  ·exact (List.Perm.cons y ih).trans (List.Perm.swap x y ys)
  ·exact .refl _
theorem Zfq (a:List Nat) (x:Nat) (b:List Nat):(a ++ x :: b).getD a.length 0 = x:=by
 rw [List.getD_eq_getElem?_getD,List.getElem?_append_right (Nat.le_refl _)];simp
theorem Zaec (a:List Nat) (y x:Nat) (b:List Nat):swapL (a ++ y :: x :: b) a.length = a ++ x :: y :: b:=by
 have h1:(a ++ y :: x :: b).getD a.length 0 = y:=Zfq a y _
 have h2:(a ++ y :: x :: b).getD (a.length + 1) 0 = x:=by
  simp
 unfold swapL
 rw [h1,h2,List.set_append_right _ _ (by omega)]
 rw [show a.length + 1 - a.length = 1 by omega]
 rw [List.set_append_right _ _ (by omega),Nat.sub_self]
 rfl
theorem Zzk (f:List Nat):∀ (r:List Nat) (x:Nat) (suf:List Nat),insD f 0 r.length (r.reverse ++ x :: suf) = (inr f x r).reverse ++ suf:=by
 intro r
 induction r with
 | nil=>intro x suf;rfl
 | cons y ys ih =>
  intro x suf
  have e:(y :: ys).reverse ++ x :: suf = ys.reverse ++ y :: x :: suf:=by simp
  rw [e]
  have hl:ys.reverse.length = ys.length:=by simp
  have h1:(ys.reverse ++ y :: x :: suf).getD ys.length 0 = y:=by rw [<- hl];exact Zfq _ _ _
  have h2:(ys.reverse ++ y :: x :: suf).getD (ys.length + 1) 0 = x:=by
   simp
  show (if 0 < ys.length + 1 /\ _ then _ else _) = _
  rw [h1,h2]
  unfold inr
  by_cases hlt:f.getD x 0 < f.getD y 0
  ·rw [if_pos ⟨by omega,hlt⟩,if_pos hlt]
   have:=Zaec ys.reverse y x suf
   rw [hl] at this
   rw [this,ih]
   simp
  ·rw [if_neg (fun h=>hlt h.2),if_neg hlt]
   simp
theorem Zvj (f:List Nat):∀ (suf r:List Nat),insO f 0 r.length suf.length (r.reverse ++ suf) = (suf.foldl (fun r x=>inr f x r) r).reverse:=by
 intro suf
 induction suf with
 | nil=>intro r;simp [insO]
 | cons x s ih =>
  intro r
  show insO f 0 (r.length + 1) s.length (insD f 0 r.length (r.reverse ++ x :: s)) = _
  rw [Zzk,<- Zadf f x r,ih]
  rfl
def LexR (f:List Nat) (r:List Nat):Prop:=r.Pairwise fun a b=>ltF f b a = true
theorem Zadg (f:List Nat) (x:Nat):∀ r,LexR f r -> (∀ y ∈ r,y < x) -> LexR f (inr f x r):=by
 intro r
 induction r with
 | nil=>intro _ _;simp [inr,LexR]
 | cons y ys ih =>
  intro h hx
  unfold LexR at h
  rw [List.pairwise_cons] at h
  have hyx:=hx y (by simp)
  unfold inr
  split
  ·next hlt =>
   refine List.pairwise_cons.2 ⟨fun z hz=>?_,ih h.2 (fun z hz=>hx z (by simp [hz]))⟩
   rcases List.mem_cons.1 ((Zkr f x ys).mem_iff.1 hz) with rfl | hz
   ·unfold ltF;simp only [Bool.or_eq_true,decide_eq_true_eq];exact .inl hlt
   ·exact h.1 z hz
  ·next hlt =>
   have hy:ltF f y x = true:=by
    unfold ltF
    simp only [Bool.or_eq_true,Bool.and_eq_true,decide_eq_true_eq]
    omega
   refine List.pairwise_cons.2 ⟨fun z hz=>?_,List.pairwise_cons.2 h⟩
   rcases List.mem_cons.1 hz with rfl | hz
   ·exact hy
   ·exact Zbg f _ _ _ (h.1 z hz) hy
theorem Zzf (f:List Nat):∀ (suf r:List Nat),suf.Pairwise (· < ·) -> LexR f r -> (∀ y ∈ r,∀ x ∈ suf,y < x) →
  LexR f (suf.foldl (fun r x=>inr f x r) r) /\ (suf.foldl (fun r x=>inr f x r) r).Perm (r ++ suf):=by
 intro suf
 induction suf with
 | nil=>intro r _ h _;exact ⟨h,by simp⟩
 | cons x s ih =>
  intro r hs hr hx
  rw [List.pairwise_cons] at hs
  obtain ⟨h1,h2⟩:=ih (inr f x r) hs.2 (Zadg f x r hr (fun y hy=>hx y hy x (by simp))) (by
   intro y hy z hz
   rcases List.mem_cons.1 ((Zkr f x r).mem_iff.1 hy) with rfl | hy
   ·exact hs.1 z hz
   ·exact hx y hy z (by simp [hz]))
  refine ⟨h1,h2.trans ?_⟩
  exact ((Zkr f x r).append_right s).trans List.perm_middle.symm
theorem Ztt (f:List Nat):(used f).Pairwise (· < ·):=List.Pairwise.filter _ List.pairwise_lt_range
end Go.Proofs.YtendielanacflaaGreat.M05
