/- The reference of layer 3: contracts of High, Fold. Plain: the state of Bunzip from part to part, and its bounds. block.must, bunzip.must, the deferred closure of block.Get: contracts. How a function leaves that has deferred calls, and marks of ranges over functions among them. The deferred closure of block.Get. A drawn region of which an operation may panic. rle.Unpack's closure: contract. rle.Unpack: contract. -/
import Derived.Test.YtnkpnjnfddjfpaaW01
import Derived.Test.YtnkpnjnfddjfpaaW08
import Derived.Test.YtnkpnjnfddjfpaaW07
import Derived.Test.YtnkpnjnfddjfpaaW04
import Derived.Test.YtnkpnjnfddjfpaaW05
import Derived.Test.YtnkpnjnfddjfpaaW06
import Derived.Laws.Rows
set_option linter.unusedVariables false
set_option linter.unusedSimpArgs false
namespace Go.Proofs.Ytnkpnjnfddjfpaa
open Go.RowKit M01 M02 M27
theorem Zjt (w:World) (a b:Nat) (ha:a < 4294967296) (hb:b < 4294967296) :
  Calls Try.prog 38 #[.int .u32 (a:Nat),.int .u32 (b:Nat)] w fun e w'=>e = .returned (.int .u32 (foldS a b:Nat)) /\ w' = w:=by
 go_enter Try.func38,Try.ntmps38
 obtain ⟨x,hx⟩:∃ x,2 * a % 4294967296 + a / 2147483648 = x:=⟨_,rfl⟩
 have h0:(2 * a % 4294967296) ^^^ (a / 2147483648) = x:=by
  rw [<- hx]
  have h1:a / 2147483648 < 2:=by omega
  have h2:2 * a % 4294967296 = 2 * (a % 2147483648):=by omega
  rw [h2]
  generalize a % 2147483648 = y
  generalize a / 2147483648 = z at *
  have h3:=Nat.two_pow_add_eq_or_of_lt (i:=1) (b:=z) (by omega) y
  rw [show 2 * y + z = 2 ^ 1 * y + z from rfl,h3]
  apply Nat.eq_of_testBit_eq
  intro i
  rw [Nat.testBit_or,Nat.testBit_xor]
  cases i with
  | zero=>simp [Nat.testBit_zero]
  | succ i =>
   have h4:z.testBit (i + 1) = false:=Nat.testBit_lt_two_pow (Nat.lt_of_lt_of_le h1 (show 2 ^ 1 <= 2 ^ (i + 1) from Nat.pow_le_pow_right (by decide) (by omega)))
   simp [h4]
 have hx2:x < 4294967296:=by omega
 have hxi:(a:Int) * 2 % 4294967296 + (a:Int) / 2147483648 = (x:Int):=by omega
 have hbx:=Zao x b hx2 hb
 have HF:Hid (foldS a b = x ^^^ b):=by unfold Hid foldS;rw [<- h0];rfl
 clear h0 hx
 go_wp2
 go_ret
 exact ⟨by rw [HF.out];rfl,rfl⟩
set_option maxRecDepth 100000 in
set_option maxHeartbeats 1600000 in
theorem Zqf (w:World) (a:Option Addr) (cap:Nat) (l:List Nat) (hr:RowN .u8 w a cap l) (h256:∀ x ∈ l,x < 256) :
  Calls Try.prog 36 #[.slice a l.length cap] w fun e w'=>e = .returned (.int .u32 (crcHigh l:Nat)) /\ w' = w:=by
 have HR:=Zh hr
 have H256:=Zh h256
 have hll:=hr.len
 clear hr h256
 go_enter Try.func36,Try.ntmps36
 go_wp2
 go_loopw [3,4] (fun x i A=>∃ k:Nat,k <= l.length /\ i = .int .i64 k /\ x = .int .u32 (crcAt l k:Nat) /\ A = w) (fun x i _=>l.length - (intOf i).toNat)
 case atStart=>exact ⟨0,by omega,rfl,by simp [crcAt],rfl⟩
 case round =>
  obtain ⟨i,hi,rfl,rfl,rfl⟩:=hrel
  by_cases hlt:i < l.length
  ·obtain ⟨b,off,rfl,hbs,hc⟩:=HR.out.at hlt
   have hv:=H256.out l[i] (List.getElem_mem hlt)
   have HST:=Zh ((Ziv l i hlt).trans (Zrq (Zfa l H256.out i) hv).symm)
   have hcl:=Zfa l H256.out i
   obtain ⟨c,hcc⟩:∃ c,l[i] = c:=⟨_,rfl⟩
   rw [hcc] at hc hv HST
   generalize crcAt l i = v0 at *
   have t0:decide (i < l.length) = true:=by simp;omega
   clear hcc
   go_wp2
   go_loopw [3,5] (fun x k A=>∃ j v:Nat,j <= 8 /\ k = .int .i64 ((j:Int) - 1) /\ x = .int .u32 (v:Nat) /\ v < 4294967296 /\ Hid (crcAt l (i + 1) = crcRun c j v) /\ A = wr) (fun x k _=>(intOf k + 1).toNat)
   case atStart=>exact ⟨8,v0,by omega,by rfl,rfl,hcl,HST.out,by trivial⟩
   case round =>
    obtain ⟨j,v,hj,rfl,rfl,hv2,HF,rfl⟩:=hrel
    clear HST
    cases j with
    | zero =>
     go_wp2
     go_roundw
     case rel=>exact ⟨i + 1,by omega,by go_num,by rw [HF.out];rfl,by trivial⟩
     case measure=>simp [intOf];omega
    | succ k =>
     have hk1:(((k + 1:Nat):Int) - 1) = (k:Int):=by omega
     rw [hk1]
     obtain ⟨sx,hsx⟩:∃ sx,c / 2 ^ k = sx:=⟨_,rfl⟩
     have hsi:(c:Int) / 2 ^ k = (sx:Int):=by rw [<- hsx];simp
     have hs2:sx <= c:=by rw [<- hsx];exact Nat.div_le_self _ _
     obtain ⟨d,hd⟩:∃ d,2 * v % 4294967296 = d:=⟨_,rfl⟩
     have hdi:(v:Int) * 2 % 4294967296 = (d:Int):=by omega
     have hd2:d < 4294967296:=by omega
     have hstep:crcRun c (k + 1) v = crcRun c k (crcOne c k v):=rfl
     have hone:crcOne c k v = if (sx + v / 2147483648) % 2 = 1 then d ^^^ 79764919 else d:=by unfold crcOne;rw [hsx,hd]
     rw [hstep,hone] at HF
     have hbx:=Zao d 79764919 hd2 (by omega)
     have hxl:=Zbm hd2 (show 79764919 < 4294967296 by omega)
     by_cases h1:(sx + v / 2147483648) % 2 = 1
     ·have t1:(((sx:Int) + (v:Int) / 2147483648) % 2 == 1) = true:=beq_iff_eq.2 (by omega)
      rw [if_pos h1] at HF
      clear hsx hd hone hstep h1
      go_wp2
      go_roundw
      case rel=>exact ⟨k,_,by omega,by trivial,Zcw hbx,hxl,HF,by trivial⟩
      case measure=>simp [intOf]
     ·have t1:(((sx:Int) + (v:Int) / 2147483648) % 2 == 1) = false:=beq_eq_false_iff_ne.2 (by omega)
      rw [if_neg h1] at HF
      clear hsx hd hone hstep h1 hbx
      go_wp2
      go_roundw
      case rel=>exact ⟨k,d,by omega,by trivial,Zcw hdi,hd2,HF,by trivial⟩
      case measure=>simp [intOf]
  ·obtain rfl:i = l.length:=by omega
   have t0:decide (l.length < l.length) = false:=by simp
   have hcl:=Zfa l H256.out l.length
   have HCA:=Zh (Zla l)
   generalize crcAt l l.length = v at *
   have hn:bits .xor .u32 (v:Int) 4294967295 = ((4294967295 - v:Nat):Int):=by
    have e1:=Zao 4294967295 v (by omega) hcl
    have e2:=Zss v hcl
    have e3:=Zao v 4294967295 hcl (by omega)
    rw [Nat.xor_comm] at e3
    exact e3.trans (e1.symm.trans e2)
   go_wp2
   go_ret
   exact ⟨by rw [HCA.out];rfl,rfl⟩
end Go.Proofs.Ytnkpnjnfddjfpaa

namespace Go.Proofs.Ytnkpnjnfddjfpaa.M27
open M01 M02 M04 M06 M10
def stF (keep:Nat) (F:BzF) (L:List (List Nat × Nat)) (i:Nat):BzF × Nat:=(L.take i).foldl (partF keep) (F,0)
theorem Zwr (keep:Nat) (F:BzF) (L:List (List Nat × Nat)) (i:Nat) (p:List Nat × Nat) (h:L[i]? = some p):stF keep F L (i + 1) = partF keep (stF keep F L i) p:=by
 obtain ⟨hi,rfl⟩:=List.getElem?_eq_some_iff.1 h
 unfold stF
 rw [M04.Zbx L i hi,List.foldl_append]
 rfl
theorem Zzc (keep:Nat) (F:BzF) (L:List (List Nat × Nat)):stF keep F L L.length = L.foldl (partF keep) (F,0):=by unfold stF;rw [List.take_length]
theorem Zjm (B:List Nat) (most:Nat):∀ f a,(partsG B most f a).1.length <= f
 | 0,a=>by simp [partsG]
 | f + 1,a=>by
  unfold partsG
  split
  ·simp
  ·split
   ·split
    ·simp
    ·simp only [List.length_cons];exact Nat.succ_le_succ (Zjm B most f _)
   ·split <;> simp
theorem Zjl (B:List Nat) (most:Nat) (hm:most <= 1000000):∀ f a a2,(partsG B most f a).2 = some a2 -> a + (partsG B most f a).1.length <= a2
 | 0,a,a2,h=>by simp [partsG] at h
 | f + 1,a,a2,h=>by
  unfold partsG at h ⊢
  split
  ·rename_i e;rw [e] at h;simp at h
  ·rename_i m a3 e
   rw [e] at h
   simp only [] at h
   have h48:=(Zdz e).2
   by_cases hb:m = blockM
   ·rw [if_pos hb] at h ⊢
    split
    ·rename_i e2;rw [e2] at h;simp at h
    ·rename_i l s a4 e2
     rw [e2] at h
     simp only [List.length_cons] at h ⊢
     have:=Zjl B most hm f a4 a2 h
     have:=(Zqz e2 hm).1
     omega
   ·rw [if_neg hb] at h ⊢
    by_cases he:m = endM
    ·rw [if_pos he] at h ⊢
     simp only [Option.some.injEq] at h
     simp only [List.length_nil]
     omega
    ·rw [if_neg he] at h;simp at h
theorem Zuc (B:List Nat) (a:Nat):(strmG B a).1.length <= nb B + 1:=by
 unfold strmG
 split
 ·simp
 ·split
  ·exact Zjm _ _ _ _
  ·simp
theorem Zub (B:List Nat) (a a2:Nat) (h:(strmG B a).2 = some a2):a + (strmG B a).1.length < a2:=by
 unfold strmG at h ⊢
 split
 ·rename_i e;rw [e] at h;simp at h
 ·rename_i m a3 e
  rw [e] at h
  simp only [] at h
  have h32:=(Zdz e).2
  split
  ·rename_i hc
   rw [if_pos hc] at h
   have:=Zjl B _ (by omega) _ _ _ h
   omega
  ·rename_i hc
   rw [if_neg hc] at h
   simp at h
theorem Zvd {B:List Nat} {keep f a:Nat} {F:BzF} (h:(strmG B a).2 = none):bzG B keep (f + 1) a F = none:=by
 unfold bzG;rw [h];rfl
theorem Zve {B:List Nat} {keep f a a2 x a3:Nat} {F:BzF} {r:BzF × Nat} (h:(strmG B a).2 = some a2) (hx:numG B a2 32 = some (x,a3)) (hr:r = (strmG B a).1.foldl (partF keep) (F,0)) :
  bzG B keep (f + 1) a F = if (a3 + 7) / 8 * 8 < nb B then bzG B keep f ((a3 + 7) / 8 * 8) { r.1 with wrong:=r.1.wrong || !(x == r.2) } else some { r.1 with wrong:=r.1.wrong || !(x == r.2) }:=by
 subst hr
 conv=>lhs;unfold bzG
 rw [h]
 show (numG B a2 32).bind _ = _
 rw [hx]
 rfl
end Go.Proofs.Ytnkpnjnfddjfpaa.M27

namespace Go.Proofs.Ytnkpnjnfddjfpaa
open Go.RowKit Go.Shelf M01 M02 M27
theorem Zew (v:Value) (w:World):Calls Try.prog 111 #[v,.int .i64 0] w fun e w'=>e = .returned v /\ w' = w:=by
 go_enter Try.func111,Try.ntmps111
 go_wp2
 go_ret
 exact ⟨rfl,rfl⟩
theorem Zev (v:Value) (n:Nat) (hn:n ≠ 0) (w:World):Calls Try.prog 111 #[v,.int .i64 (n:Nat)] w fun e w'=>e = .panicked formP /\ w' = w:=by
 have h1:((n:Int) == 0) = false:=by simp [hn]
 have h2:(!((n:Int) == 0)) = true:=by simp [hn]
 clear hn
 go_enter Try.func111,Try.ntmps111
 go_wp2
 exact ⟨rfl,rfl,rfl⟩
theorem Zdi (v:Value) (w:World):Calls Try.prog 112 #[v,.int .i64 0] w fun e w'=>e = .returned v /\ w' = w:=by
 go_enter Try.func112,Try.ntmps112
 go_wp2
 go_ret
 exact ⟨rfl,rfl⟩
theorem Zeu (v:Value) (n:Nat) (hn:n ≠ 0) (w:World):Calls Try.prog 112 #[v,.int .i64 (n:Nat)] w fun e w'=>e = .panicked formP /\ w' = w:=by
 have h1:((n:Int) == 0) = false:=by simp [hn]
 have h2:(!((n:Int) == 0)) = true:=by simp [hn]
 clear hn
 go_enter Try.func112,Try.ntmps112
 go_wp2
 exact ⟨rfl,rfl,rfl⟩
theorem Zrd (v:Value) (w:World):Calls Try.prog 114 #[v,.int .i64 0] w fun e w'=>e = .returned v /\ w' = w:=by
 go_enter Try.func114,Try.ntmps114
 go_wp2
 go_ret
 exact ⟨rfl,rfl⟩
theorem Zkx (v:Value) (n:Nat) (hn:n ≠ 0) (w:World):Calls Try.prog 114 #[v,.int .i64 (n:Nat)] w fun e w'=>e = .panicked formP /\ w' = w:=by
 have h1:((n:Int) == 0) = false:=by simp [hn]
 have h2:(!((n:Int) == 0)) = true:=by simp [hn]
 clear hn
 go_enter Try.func114,Try.ntmps114
 go_wp2
 exact ⟨rfl,rfl,rfl⟩
theorem Zrh (v:Value) (w:World):Calls Try.prog 116 #[v,.int .i64 0] w fun e w'=>e = .returned v /\ w' = w:=by
 go_enter Try.func116,Try.ntmps116
 go_wp2
 go_ret
 exact ⟨rfl,rfl⟩
theorem Zrg (v:Value) (n:Nat) (hn:n ≠ 0) (w:World):Calls Try.prog 116 #[v,.int .i64 (n:Nat)] w fun e w'=>e = .panicked formP /\ w' = w:=by
 have h1:((n:Int) == 0) = false:=by simp [hn]
 have h2:(!((n:Int) == 0)) = true:=by simp [hn]
 clear hn
 go_enter Try.func116,Try.ntmps116
 go_wp2
 exact ⟨rfl,rfl,rfl⟩
theorem Zrf (v:Value) (w:World):Calls Try.prog 119 #[v,.int .i64 0] w fun e w'=>e = .returned v /\ w' = w:=by
 go_enter Try.func119,Try.ntmps119
 go_wp2
 go_ret
 exact ⟨rfl,rfl⟩
theorem Zre (v:Value) (n:Nat) (hn:n ≠ 0) (w:World):Calls Try.prog 119 #[v,.int .i64 (n:Nat)] w fun e w'=>e = .panicked formP /\ w' = w:=by
 have h1:((n:Int) == 0) = false:=by simp [hn]
 have h2:(!((n:Int) == 0)) = true:=by simp [hn]
 clear hn
 go_enter Try.func119,Try.ntmps119
 go_wp2
 exact ⟨rfl,rfl,rfl⟩
theorem Zuo (a:Option Addr) (n c:Nat) (y z:Int) (u:Bool) (w:World):Calls Try.prog 28 #[.agg #[.slice a n c,.int .i64 y,.int .i64 z,.bool u],.int .i64 0] w fun e w'=>e = .returned (.agg #[.slice a n c,.int .i64 y,.int .i64 z,.bool u]) /\ Below w.heap.size w w':=by
 go_enter Try.func28,Try.ntmps28
 go_wp2_with fail
 have hn:=World.alloc_heap_new (w.alloc (.cells #[.slice a n c,.int .i64 y,.int .i64 z,.bool u] 24)) (.cells #[.slice a n c,.int .i64 y,.int .i64 z,.bool u] 24)
 rw [show (w.alloc (.cells #[.slice a n c,.int .i64 y,.int .i64 z,.bool u] 24)).heap.size = w.heap.size + 1 by simp] at hn
 refine bodyPost_ret (results_cell_row (P:=Try.prog) rfl _ _ (w.heap.size + 1) 24 _ (0,0) _ rfl hn Try.underlying24 rfl (by kernel_rfl)) rfl ?_
 exact ⟨rfl,(Zai w _).trans ((Zai _ _).mono (by simp))⟩
theorem Zil (v:Value) (w:World):Calls Try.prog 32 #[v,.int .i64 0] w fun e w'=>e = .returned v /\ w' = w:=by
 go_enter Try.func32,Try.ntmps32
 go_wp2
 go_ret
 exact ⟨rfl,rfl⟩
theorem Zik (v:Value) (n:Nat) (hn:n ≠ 0) (w:World):Calls Try.prog 32 #[v,.int .i64 (n:Nat)] w fun e w'=>e = .panicked formP /\ w' = w:=by
 have h1:((n:Int) == 0) = false:=by simp [hn]
 have h2:(!((n:Int) == 0)) = true:=by simp [hn]
 clear hn
 go_enter Try.func32,Try.ntmps32
 go_wp2
 exact ⟨rfl,rfl,rfl⟩
theorem Zuq (v:Value) (w:World):Calls Try.prog 64 #[v,.int .i64 0] w fun e w'=>e = .returned v /\ w' = w:=by
 go_enter Try.func64,Try.ntmps64
 go_wp2
 go_ret
 exact ⟨rfl,rfl⟩
theorem Zup (v:Value) (n:Nat) (hn:n ≠ 0) (w:World):Calls Try.prog 64 #[v,.int .i64 (n:Nat)] w fun e w'=>e = .panicked formP /\ w' = w:=by
 have h1:((n:Int) == 0) = false:=by simp [hn]
 have h2:(!((n:Int) == 0)) = true:=by simp [hn]
 clear hn
 go_enter Try.func64,Try.ntmps64
 go_wp2
 exact ⟨rfl,rfl,rfl⟩
end Go.Proofs.Ytnkpnjnfddjfpaa

namespace Go.Proofs.Ytnkpnjnfddjfpaa
open Go.RowKit
def LeavesC (P : Program) (fn : Func) (tmps : Array Value) (R : Ending → World → Prop) : List Deferred → FrameMode → World → Prop
  | [], u, w => Leaves P fn tmps R [] u w
  | d :: ds, u, w => u ≠ .run ∧
      ((∃ r w', d.target = .collected r ∧ (Instr.takeDeferred r).run P w = .ok [] w' ∧ LeavesC P fn tmps R ds u w') ∨
       (∃ fv cap f args, d.target = .fn fv cap ∧ (invoke d.target d.args).run P w = .ok (.enter f args) w ∧
        CallsD P f args u w fun
          | .returned _, u', w' => LeavesC P fn tmps R ds (settle u') w'
          | .panicked chain, u', w' => LeavesC P fn tmps R ds (raised u' chain) w'
          | .outgrown, _, w' => R .outgrown w'))
theorem Zdd {P:Program} {fn:Func} {tmps:Array Value} {R:Ending -> World -> Prop}:∀ (ds:List Deferred) (u:FrameMode) (w:World) (fr:Frame)
  (cs:List Frame),fr.mode = u -> fr.defers = ds -> fr.tmps = tmps -> P.funcs[fr.fn]? = some fn -> fr.kind = .normal -> LeavesC P fn tmps R ds u w →
  ∃ e w' fr',R e w' /\ Comes P (lone fr cs w) (lone fr' cs w') e /\ fr'.fn = fr.fn /\ fr'.leaving P w' e:=by
 intro ds
 induction ds with
 | nil=>exact fun u w fr cs hu hd ht hf hk h=>leaves_steps [] u w fr cs hu hd ht hf hk h
 | cons d ds ih =>
  intro u w fr cs hu hd ht hf hk h
  obtain ⟨hrun,h⟩:=h
  rcases h with ⟨r,w',htar,htake,hrest⟩ | ⟨fv,cap,f,args,htar,hinv,hcall⟩
  ·have h1:=step_collected (cs:=cs) (hu ▸ hrun) hd htar htake
   obtain ⟨e',w'',fr',hR',hs',hfn',hl'⟩:=ih u w' { fr with defers:=[] ++ ds } cs hu rfl ht hf hk hrest
   exact ⟨e',w'',fr',hR',Comes.of_steps (.one h1) hs',hfn',hl'⟩
  ·have h1:=step_defer (cs:=cs) (hu ▸ hrun) hd htar hinv
   obtain ⟨e,u',w',frX,hR,hsteps,hkX,hgo⟩:=hcall { fr with defers:=ds } cs hu
   cases e with
   | returned v =>
    have h2:=step_going_returned (c:={ { fr with defers:=ds } with mode:=u' }) (cs:=cs) hkX hgo
    obtain ⟨e',w'',fr',hR',hs',hfn',hl'⟩:=ih (settle u') w' { { { fr with defers:=ds } with mode:=u' } with mode:=settle u' } cs rfl rfl ht hf hk hR
    exact ⟨e',w'',fr',hR',Comes.of_steps (.head h1 (Steps.trans hsteps (.one h2))) hs',hfn',hl'⟩
   | panicked chain =>
    have h2:=step_going_panicked (c:={ { fr with defers:=ds } with mode:=u' }) (cs:=cs) hgo
    obtain ⟨e',w'',fr',hR',hs',hfn',hl'⟩:=ih (raised u' chain) w' { { { fr with defers:=ds } with mode:=u' } with mode:=raised u' chain } cs rfl rfl ht hf hk hR
    exact ⟨e',w'',fr',hR',Comes.of_steps (.head h1 (Steps.trans hsteps (.one h2))) hs',hfn',hl'⟩
   | outgrown=>exact ⟨.outgrown,w',fr,hR,Outgrown.of_steps (.one h1) hsteps,rfl,trivial⟩
def bodyPostC (P:Program) (fn:Func) (R:Ending -> World -> Prop):Exit -> Act -> World -> Prop
 | .normal,a,w | .ret,a,w=>LeavesC P fn a.tmps R a.defers .returning w
 | .panic chain,a,w=>LeavesC P fn a.tmps R a.defers (.panicking chain) w
 | .outgrown,_,w=>R .outgrown w
 | _,_,_=>False
theorem Zcv {P:Program} {f:FuncId} {fn:Func} {c:Code} {args:Array Value} {w:World} {R:Ending -> World -> Prop}
  (hf:P.funcs[f]? = some fn) (hb:fn.body = some c)
  (h:c.wp P (bodyPostC P fn R) { tmps:=args ++ Array.replicate (fn.ntmps - args.size) undef,defers:=[] } w):Calls P f args w R:=by
 intro cs
 let b:Frame:={ (default:Frame) with fn:=f,kind:=.normal }
 have henter:Frame.enter P f args .normal =
   b.at { tmps:=args ++ Array.replicate (fn.ntmps - args.size) undef,defers:=[] } [.code c]:=by
  simp [Frame.enter,Frame.at,hf,hb,b]
 obtain ⟨e,a',w',hq,harr⟩:=h b [] cs
 rw [<- henter] at harr
 cases e with
 | normal =>
  obtain ⟨e',w'',fr',hR,hs,hfn,hl⟩:=Zdd a'.defers .returning w' { b.at a' [] with mode:=.returning } cs rfl rfl rfl hf rfl hq
  exact ⟨e',w'',fr',hR,Comes.of_steps (Steps.trans harr (.one step_end)) hs,hfn,hl⟩
 | ret =>
  obtain ⟨todo,hs₀⟩:=harr
  obtain ⟨e',w'',fr',hR,hs,hfn,hl⟩:=Zdd a'.defers .returning w' { b.at a' todo with mode:=.returning } cs rfl rfl rfl hf rfl hq
  exact ⟨e',w'',fr',hR,Comes.of_steps hs₀ hs,hfn,hl⟩
 | panic chain =>
  obtain ⟨todo,hs₀⟩:=harr
  obtain ⟨e',w'',fr',hR,hs,hfn,hl⟩:=Zdd a'.defers (.panicking chain) w' { b.at a' todo with mode:=.panicking chain } cs rfl rfl rfl hf rfl hq
  exact ⟨e',w'',fr',hR,Comes.of_steps hs₀ hs,hfn,hl⟩
 | exit id=>exact hq.elim
 | goto l=>exact hq.elim
 | outgrown=>exact ⟨.outgrown,w',b,hq,harr.resolve_left (by simp [b]),rfl,trivial⟩
def marksD (ns:List Nat) (ds:List Deferred):List Deferred:=ns.map (fun r=>{ target:=.collected r,args:=#[] }) ++ ds
end Go.Proofs.Ytnkpnjnfddjfpaa

namespace Go.Proofs.Ytnkpnjnfddjfpaa
open Go.RowKit Go.Shelf M01 M02 M27
def Res3 (q:Nat) (A:World) (x y z:Value):Prop:=A.heap[q]? = some (.cells #[x] 22 (0,0)) /\ A.heap[q + 1]? = some (.cells #[y] 54 (0,0)) /\ OneR (q + 2) A z
theorem Res3.only {T:Nat -> Prop} {q:Nat} {A B:World} {x y z:Value} (h:Res3 q A x y z) (ho:Only T A B) (h0:¬ T q) (h1:¬ T (q + 1)) (h2:¬ T (q + 2)):Res3 q B x y z:=⟨Zac h.1 ho h0,Zac h.2.1 ho h1,h.2.2.only ho h2⟩
theorem Res3.belowAt {q n:Nat} {A B:World} {x y z:Value} (h:Res3 q A x y z) (hb:Below n A B) (hn:q + 2 < n):Res3 q B x y z:=⟨(hb.block q (by omega)).trans h.1,(hb.block (q + 1) (by omega)).trans h.2.1,h.2.2.belowAt hb hn⟩
theorem Res3.lt {q:Nat} {A:World} {x y z:Value} (h:Res3 q A x y z):q + 2 < A.heap.size:=(Array.getElem?_eq_some_iff.1 h.2.2).1
theorem Res3.set {q:Nat} {A:World} {x y z:Value} (h:Res3 q A x y z) (x' y' z':Value):Res3 q (((A.setCell ⟨q,0,none⟩ x').setCell ⟨q + 1,0,none⟩ y').setCell ⟨q + 2,0,none⟩ z') x' y' z':=by
 obtain ⟨h1,h2,h3⟩:=h
 refine ⟨?_,?_,?_⟩
 ·rw [Below.heap_setCell _ _ _ _ (by show q ≠ q + 2;omega),Below.heap_setCell _ _ _ _ (by show q ≠ q + 1;omega)]
  exact one_setCell h1
 ·rw [Below.heap_setCell _ _ _ _ (by show q + 1 ≠ q + 2;omega)]
  exact one_setCell ((Below.heap_setCell _ _ _ _ (by show q + 1 ≠ q;omega)).trans h2)
 ·exact one_setCell ((Below.heap_setCell _ _ _ _ (by show q + 2 ≠ q + 1;omega)).trans ((Below.heap_setCell _ _ _ _ (by show q + 2 ≠ q;omega)).trans h3))
theorem Zra (q:Nat) (x y z:Value) (w:World) (h:Res3 q w x y z) :
  CallsD Try.prog 110 #[.pointer (some ⟨q,0,none⟩),.pointer (some ⟨q + 1,0,none⟩),.pointer (some ⟨q + 2,0,none⟩)] (.panicking formP) w fun e u' w' =>
   e = .returned (.tuple #[]) /\ u' = .panicking [{ v:=.iface 25 (.int .i64 2),recovered:=true }] /\ w' = ((w.setCell ⟨q,0,none⟩ (.slice none 0 0)).setCell ⟨q + 1,0,none⟩ (.int .u32 0)).setCell ⟨q + 2,0,none⟩ (.int .i64 2):=by
 unfold formP
 refine callsD_of_wpS Try.func110 rfl fun c₀ cs hu=>?_
 obtain ⟨h1,h2,h3⟩:=h
 have c1:=cell_of_one h1
 have f1:=Zam h1
 have h2':(w.setCell ⟨q,0,none⟩ (.slice none 0 0)).heap[q + 1]? = _:=(Below.heap_setCell _ _ _ _ (by show q + 1 ≠ q;omega)).trans h2
 have c2:=cell_of_one h2'
 have f2:=Zam h2'
 have h3':((w.setCell ⟨q,0,none⟩ (.slice none 0 0)).setCell ⟨q + 1,0,none⟩ (.int .u32 0)).heap[q + 2]? = _:=(Below.heap_setCell _ _ _ _ (by show q + 2 ≠ q + 1;omega)).trans ((Below.heap_setCell _ _ _ _ (by show q + 2 ≠ q;omega)).trans h3)
 have c3:=cell_of_one h3'
 have f3:=Zam h3'
 have te:=Zoy 2
 apply wpS_seq
 apply wpS_region
 simp [wpOpsS,go_sem,recoverD,hu,te,Try.ntmps110,Exit.thenS]
 apply wpS_seq
 apply wpS_region
 simp [wpOpsS,go_sem,Exit.thenS]
 refine wpS_cond (t:=true) (by simp [Act.eval,Array.replicate]) ?_
 simp only [if_true]
 apply wpS_region
 simp [wpOpsS,go_sem,c1,f1,c2,f2,c3,f3,bodyPostS,results,Try.results110]
theorem Zim (q:Nat) (w:World) :
  CallsD Try.prog 110 #[.pointer (some ⟨q,0,none⟩),.pointer (some ⟨q + 1,0,none⟩),.pointer (some ⟨q + 2,0,none⟩)] .returning w fun e u' w' =>
   e = .returned (.tuple #[]) /\ u' = .returning /\ w' = w:=by
 refine callsD_of_wpS Try.func110 rfl fun c₀ cs hu=>?_
 apply wpS_seq
 apply wpS_region
 have te:=Zoz
 simp [wpOpsS,go_sem,recoverD,hu,te,Try.ntmps110,Exit.thenS]
 apply wpS_seq
 apply wpS_region
 simp [wpOpsS,go_sem,Exit.thenS]
 refine wpS_cond (t:=false) (by simp [Act.eval,Array.replicate]) ?_
 simp only [Bool.false_eq_true,if_false]
 refine wpS_of_wp (wp_skip ?_)
 cases c₀
 simp_all [bodyPostS,results,Try.results110]
def blkDef (q:Nat):List Deferred:=[{ target:=Target.fn (Fn.func 110) #[.pointer (some ⟨q,0,none⟩),.pointer (some ⟨q + 1,0,none⟩),.pointer (some ⟨q + 2,0,none⟩)],args:=#[] }]
theorem Zuz {q:Nat} {A:World} {x y z:Value} {tmps:Array Value} {Rr:Ending -> World -> Prop} (h:Res3 q A x y z) (t4:tmps.getD 4 undef = .pointer (some ⟨q,0,none⟩)) (t5:tmps.getD 5 undef = .pointer (some ⟨q + 1,0,none⟩)) (t6:tmps.getD 6 undef = .pointer (some ⟨q + 2,0,none⟩))
  (hx:(match x with | .slice _ _ _=>true | _=>false) = true) (hK:Rr (.returned (.tuple #[x,y,z])) A):LeavesC Try.prog Try.f63 tmps Rr (blkDef q) .returning A:=by
 unfold blkDef
 refine ⟨by simp,.inr ⟨_,_,110,#[.pointer (some ⟨q,0,none⟩),.pointer (some ⟨q + 1,0,none⟩),.pointer (some ⟨q + 2,0,none⟩)],rfl,by simp [go_sem],?_⟩⟩
 refine (Zim q A).mono ?_
 rintro e u' w'' ⟨rfl,rfl,rfl⟩
 have g1:=cell_of_one h.1
 have g2:=cell_of_one h.2.1
 have g3:=cell_of_one h.2.2
 have s4:tmps[4]?.getD undef = .pointer (some ⟨q,0,none⟩):=by simpa using t4
 have s5:tmps[5]?.getD undef = .pointer (some ⟨q + 1,0,none⟩):=by simpa using t5
 have s6:tmps[6]?.getD undef = .pointer (some ⟨q + 2,0,none⟩):=by simpa using t6
 simp only [settle]
 simp [LeavesC,Leaves,results,Try.results63,go_sem,s4,s5,s6,g1,g2,g3,hK]
theorem Zpj {q:Nat} {A:World} {x y z:Value} {tmps:Array Value} {Rr:Ending -> World -> Prop} (h:Res3 q A x y z) (t4:tmps.getD 4 undef = .pointer (some ⟨q,0,none⟩)) (t5:tmps.getD 5 undef = .pointer (some ⟨q + 1,0,none⟩)) (t6:tmps.getD 6 undef = .pointer (some ⟨q + 2,0,none⟩))
  (hK:Rr (.returned (.tuple #[.slice none 0 0,.int .u32 0,.int .i64 2])) (((A.setCell ⟨q,0,none⟩ (.slice none 0 0)).setCell ⟨q + 1,0,none⟩ (.int .u32 0)).setCell ⟨q + 2,0,none⟩ (.int .i64 2))):LeavesC Try.prog Try.f63 tmps Rr (blkDef q) (.panicking formP) A:=by
 unfold blkDef
 refine ⟨by simp,.inr ⟨_,_,110,#[.pointer (some ⟨q,0,none⟩),.pointer (some ⟨q + 1,0,none⟩),.pointer (some ⟨q + 2,0,none⟩)],rfl,by simp [go_sem],?_⟩⟩
 refine (Zra q x y z A h).mono ?_
 rintro e u' w'' ⟨rfl,rfl,rfl⟩
 have h2:=h.set (.slice none 0 0) (.int .u32 0) (.int .i64 2)
 have g1:=cell_of_one h2.1
 have g2:=cell_of_one h2.2.1
 have g3:=cell_of_one h2.2.2
 have s4:tmps[4]?.getD undef = .pointer (some ⟨q,0,none⟩):=by simpa using t4
 have s5:tmps[5]?.getD undef = .pointer (some ⟨q + 1,0,none⟩):=by simpa using t5
 have s6:tmps[6]?.getD undef = .pointer (some ⟨q + 2,0,none⟩):=by simpa using t6
 generalize ((A.setCell ⟨q,0,none⟩ (.slice none 0 0)).setCell ⟨q + 1,0,none⟩ (.int .u32 0)).setCell ⟨q + 2,0,none⟩ (.int .i64 2) = B at *
 simp only [settle]
 simp [LeavesC,Leaves,results,Try.results63,go_sem,s4,s5,s6,g1,g2,g3,hK]
end Go.Proofs.Ytnkpnjnfddjfpaa

namespace Go.Proofs.Ytnkpnjnfddjfpaa
section
variable {P : Program} {ops : Array Oper} {Q : Exit → Act → World → Prop}
theorem Zbb {id:Nat} {l:List Value} {df:List Deferred} {w0:World} (ds:List Tmp) (fin:Nat -> Bool) (R:Array Bool -> World -> Prop) (V:Nat -> Value -> World -> Prop) (D:Nat -> Nat -> Value -> Value -> Prop)
  (hm:P.follows .mixedOrders = true) (hds:dstsL ops = ds) (h1:OneEach ops l.length) (hb:backB .any ops = true)
  (hg:(ops.all fun o=>o.guard.isNone) = true)
  (h0:R (Array.replicate ops.size false) { w0 with drawn:=w0.drawn + 1 })
  (step:∀ (i:Nat) (o:Oper),ops[i]? = some o -> ∀ (listed:Array Bool) (a:Act) (w:World),R listed w -> i < listed.size -> listed.getD i false = false -> (∀ j,anc .any ops i ops.size j = true -> listed.getD j false = false) -> (∀ j,anc .any ops j ops.size i = true -> listed.getD j false = true) -> (∀ t,t ∉ ds -> a.eval (.tmp t) = l.getD t undef) →
   a.defers = df →
   (∀ e ∈ o.after,wantE .any e = true -> ∀ oe,ops[e.on]? = some oe -> V e.on (leftBy a oe) w) →
   StepTo P Q o a w (fun a' w'=>∃ v,a' = a.put o.dst v /\ R (listed.setIfInBounds i true) w' /\ (∀ j u,usedB .any ops fin i j = true -> V j u w -> (∀ e ∈ o.after,wantE .any e = true -> e.on ≠ j -> ∀ oe,ops[e.on]? = some oe -> D e.on j (leftBy a oe) u /\ D j e.on u (leftBy a oe)) →
    V j u w' /\ D i j (match o.dst with | some _=>v | none=>undef) u /\ D j i u (match o.dst with | some _=>v | none=>undef)) /\ V i (match o.dst with | some _=>v | none=>undef) w'))
  (done:∀ (listed:Array Bool) (f:Nat -> Value) (w:World),R listed w -> (∀ i,i < ops.size -> listed.getD i false = true) -> (∀ (i:Nat) (o:Oper),ops[i]? = some o -> fin i = true -> V i (match o.dst with | some d=>f d | none=>undef) w) →
   Q .normal ⟨(spread ds f 0 l).toArray,df⟩ w) :
  (Code.region id ops true).wp P Q ⟨l.toArray,df⟩ w0:=by
 subst hds
 have hb':∀ (i:Nat) (o:Oper),ops[i]? = some o -> ∀ e ∈ o.after,Region.binds .any e = true -> e.on < i:=fun i o hi e he hbe=>by
  unfold backB at hb
  rw [List.all_eq_true] at hb
  have h2:=hb i (by simpa using (Array.getElem?_eq_some_iff.1 hi).1)
  rw [hi] at h2
  simp only [Option.map_some,Option.getD_some] at h2
  rw [Array.all_eq_true_iff_forall_mem] at h2
  have h3:=h2 e he
  rw [hbe] at h3
  simpa using h3
 have h1':OneEach ops (Act.mk l.toArray df).tmps.size:=by simpa using h1
 refine wp_region_any hm (Zii (FlowAt .any ops fin R V D ⟨l.toArray,df⟩) ?_ ?_ _ _ _ _ (Zcn ops) (FlowAt.start h0))
 ·intro listed a w i hI hi
  obtain ⟨hun,o,ho,hw⟩:=mem_ready.1 hi
  have hgo:o.guard = none:=by
   rw [Array.all_eq_true_iff_forall_mem] at hg
   simpa using hg o (Array.mem_of_getElem? ho)
  have hwant:Region.wanted o (yielded ops a.tmps) = true:=by simp [Region.wanted,hgo]
  unfold wpOp
  simp only [ho,hwant,if_true]
  have hil:i < listed.size:=by rw [hI.len];exact (Array.getElem?_eq_some_iff.1 ho).1
  have hunf:listed.getD i false = false:=by simp [hil] at hun ⊢;exact hun
  have hs:=step i o ho listed a w hI.rel hil hunf (fun j hj=>by
   cases hc:listed.getD j false with
   | false=>rfl
   | true=>have:=hI.shut.anc i _ _ hj hc;rw [hunf] at this;cases this) (fun j hj=>hI.shut.ready ho hw _ hj) (fun t ht=>by have:=hI.out t ht;simpa [Act.eval] using this) hI.defers (fun e he hbe oe hoe=>hI.val e.on oe hoe (hw e he (Zay hbe)) (.inr ⟨i,o,e,ho,hun,he,hbe,rfl⟩))
  exact hs.imp (Oper.wp_mono (fun a' w' h=>by
   obtain ⟨v,rfl,hR,hmono,hv⟩:=h
   exact hI.next h1' ho hun hw hR hmono hv)) (fun h=>h)
 ·intro listed a w hI hr
  obtain ⟨hR,hall,hV,ha⟩:=hI.end hb' hr
  rw [ha]
  exact done _ _ _ hR hall hV
theorem Zcb {o:Oper} {a:Act} {w:World} {K:Act -> World -> Prop} {f:FuncId} {args:Array Value} {ch:List PanicEntry} (hr:(execOp a.eval o).run P w = .ok (.enter f args) w)
  (hc:Calls P f args w fun e w'=>e = .panicked ch /\ Q (.panic ch) a w'):StepTo P Q o a w K:=by
 left;unfold Oper.wp;rw [hr,Oper.upon_enter]
 refine hc.mono ?_
 rintro e w' ⟨rfl,h⟩
 exact h
end
end Go.Proofs.Ytnkpnjnfddjfpaa

namespace Go.Proofs.Ytnkpnjnfddjfpaa
open Go.RowKit Go.Shelf M01 M02 M27
def FlowC (w:World) (f:Nat) (base:Nat) (l:List Nat) (size used:Nat) (wrong:Bool):Prop :=
 ∃ a c,w.heap[f]? = some (.cells #[.slice a l.length c,.int .i64 (size:Nat),.int .i64 (used:Nat),.bool wrong] 24 (0,0)) /\ OwnN 5 .u8 w base a c l
def putV (f keep size mx n m c W0 base:Nat) (l:List Nat) (a:Option Addr) (cp kb j:Nat) (v:Value) (w:World):Prop :=
 match j with
 | 0=>v = .pointer (some ⟨f,0,none⟩)
 | 1=>v = .slice a l.length cp
 | 2=>v = .int .u8 (c:Nat)
 | 3=>v = .slice (some ⟨W0,0,none⟩) 1 1
 | 4=>v = .int .i64 (n:Nat)
 | 5=>v = .int .i64 (keep:Nat)
 | 6=>v = .pointer (some ⟨f,1,none⟩)
 | 7=>v = .int .i64 (size:Nat)
 | 8=>v = .int .i64 ((keep:Int) - (size:Int))
 | 9=>v = .int .i64 (mx:Nat)
 | 10=>v = .int .i64 (m:Nat)
 | 11=>∃ a6,v = .slice a6 m m /\ RowN .u8 w a6 m (List.replicate m c)
 | 12=>∃ a7 c7,v = .slice a7 (l.length + m) c7 /\ OwnN 5 .u8 w base a7 c7 (l ++ List.replicate m c)
 | 13=>v = .pointer (some ⟨f,0,none⟩)
 | _=>True
section
variable {f keep size mx n m c W0 base : Nat} {l : List Nat} {a : Option Addr} {cp kb j : Nat} {v : Value} {w w' : World}
theorem Zjr (hb:Below w.heap.size w w') (h:putV f keep size mx n m c W0 base l a cp kb j v w):putV f keep size mx n m c W0 base l a cp kb j v w':=by
 unfold putV at *
 split at h
 all_goals try exact h
 ·obtain ⟨a6,h1,h2⟩:=h;exact ⟨a6,h1,h2.below hb⟩
 ·obtain ⟨a7,c7,h1,h2⟩:=h;exact ⟨a7,c7,h1,h2.below hb⟩
theorem Zjs (h1:j ≠ 11) (h2:j ≠ 12) (h:putV f keep size mx n m c W0 base l a cp kb j v w):putV f keep size mx n m c W0 base l a cp kb j v w':=by
 unfold putV at *
 split at h
 all_goals first | exact h | exact absurd rfl h1 | exact absurd rfl h2
end
theorem Zkm (p:Addr) (v:Value) (w:World) (h:w.cell? p = some v):(Instr.loadAt 3 (.pointer (some p))).run Try.prog w = .ok v w:=by
 simp [Instr.loadAt,Instr.sureAddr,loadVar,isAgg,run_underlying Try.underlying3,h,go_sem]
theorem fa0 (f:Nat) (w:World):(Instr.fieldAt 24 (.pointer (some ⟨f,0,none⟩)) 0).run Try.prog w = .ok (.pointer (some ⟨f,0,none⟩)) w:=by kernel_rfl
theorem fa1 (f:Nat) (w:World):(Instr.fieldAt 24 (.pointer (some ⟨f,0,none⟩)) 1).run Try.prog w = .ok (.pointer (some ⟨f,1,none⟩)) w:=by kernel_rfl
theorem eqgSb (t:TypeId) (x y:Operand) (u v:Value) (w:World):(eqGuard .sub t x y u v).run Try.prog w = .ok () w:=by simp [eqGuard,go_sem]
theorem subI (t:TypeId) (x y:Int) (w:World):(binOp .sub t (.int .i64 x) (.int .i64 y):Sem Value).run Try.prog w = .ok (.int .i64 (IntKind.i64.wrap (x - y))) w:=by
 simp [binOp,go_sem]
set_option maxRecDepth 100000 in
set_option maxHeartbeats 6400000 in
theorem Ztk (w:World) (f kb base keep c n size used:Nat) (l:List Nat) (a:Option Addr) (cp:Nat) (hf:w.heap[f]? = some (.cells #[.slice a l.length cp,.int .i64 (size:Nat),.int .i64 (used:Nat),.bool false] 24 (0,0))) (ho:OwnN 5 .u8 w base a cp l)
  (hk:w.heap[kb]? = some (.cells #[.int .i64 (keep:Nat)] 3 (0,0))) (hwb:base <= w.heap.size) (hfb:f < base) (hkb:kb < base) (hn:n <= 255) (hs:size <= 1000000000000) (hkeep:keep <= 1000000000000) (hll:l.length <= 1000000000) :
  Calls Try.prog 65 #[.int .u8 (c:Nat),.int .i64 (n:Nat),.pointer (some ⟨f,0,none⟩),.pointer (some ⟨kb,0,none⟩)] w fun e w'=>e = .returned (.tuple #[]) /\ FlowC w' f base (l ++ List.replicate (min n (keep - size)) c) (size + n) used false /\ Only (fun b=>b = f \/ base <= b) w w':=by
 obtain ⟨q1,q2,q3,q4,q5,q6⟩:=Zaf hf
 have q7:=cell_of_one hk
 have hf2:=lt_of_block hf
 have hk2:=lt_of_block hk
 have r1:=Zax (A:=w.drew) q1 (Zai w.drew (.cells #[.int .u8 (c:Nat)] 5)) hf2
 have r2:=Zax (A:=w.drew) q2 (Zai w.drew (.cells #[.int .u8 (c:Nat)] 5)) hf2
 have r7:=Zax (A:=w.drew) q7 (Zai w.drew (.cells #[.int .u8 (c:Nat)] 5)) hk2
 obtain ⟨mx,hmx⟩:∃ mx,keep - size = mx:=⟨_,rfl⟩
 obtain ⟨m,hm⟩:∃ m,min n mx = m:=⟨_,rfl⟩
 have HM:=Zh hm
 have HMX:=Zh hmx
 have hm2:m <= 255:=by omega
 have g0:IntKind.i64.wrap ((keep:Int) - (size:Int)) = (keep:Int) - (size:Int):=IntWalk.i64_in _ (by omega)
 have QF:=Zh q1
 have G0:=Zh g0
 have HO:=Zh ho
 have HF:=Zh hf
 have HN1:=Zh (show l.length + m <= 9223372036854775807 by omega)
 have HN2:=Zh (show (l.length + m) * 1 <= 140737488355328 by omega)
 have HM3:=Zh (show m <= 1000000 by omega)
 have HNS:=Zh (And.intro hn hs)
 clear ho hf hk hm hmx hkeep hll hm2
 go_enter Try.func65,Try.ntmps65
 go_wp2_with fail
 have HQ:Hid (∀ q:Bool,(if q = true then w.drew.alloc (.cells #[.int .u8 (c:Nat)] 5) else w.drew).cell? ⟨f,0,none⟩ = some (.slice a l.length cp) /\ (if q = true then w.drew.alloc (.cells #[.int .u8 (c:Nat)] 5) else w.drew).cell? ⟨f,1,none⟩ = some (.int .i64 (size:Nat)) /\ (if q = true then w.drew.alloc (.cells #[.int .u8 (c:Nat)] 5) else w.drew).cell? ⟨kb,0,none⟩ = some (.int .i64 (keep:Nat))):=Zh (fun q=>by
  cases q with
  | false=>exact ⟨q1,q2,q7⟩
  | true=>exact ⟨r1,r2,r7⟩)
 refine Zdx [6,7,8,9,10,11,12,13,14,15,16,17,18,19] (fun j=>false) (fun listed w1=>if listed.getD 14 false = true then (∃ a7 c7,w1.heap[f]? = some (.cells #[.slice a7 (l.length + m) c7,.int .i64 (size:Nat),.int .i64 (used:Nat),.bool false] 24 (0,0)) /\ OwnN 5 .u8 w1 base a7 c7 (l ++ List.replicate m c) /\ Only (fun b=>b = f \/ base <= b) w w1) else if listed.getD 12 false = true then (w1.heap[f]? = w.heap[f]? /\ Only (fun b=>b = f \/ base <= b) w w1) else if listed.getD 11 false = true then Below w.heap.size w w1 else w1 = if listed.getD 3 false = true then w.drew.alloc (.cells #[.int .u8 (c:Nat)] 5) else w.drew) (putV f keep size mx n m c w.heap.size base l a cp kb) (fun _ _ _ _=>True) (by kernel_rfl) (by kernel_rfl) (OneEach.mk' (by kernel_rfl) (by kernel_rfl)) (by kernel_rfl) (by kernel_rfl) (by simp) ?_ ?_
 ·intro i0 o hi0 listed a1 w1 hR hil hunf hdes hanc hout hdep
  have hsz:i0 < 15:=(Array.getElem?_eq_some_iff.1 hi0).1
  have hall:i0 = 0 \/ i0 = 1 \/ i0 = 2 \/ i0 = 3 \/ i0 = 4 \/ i0 = 5 \/ i0 = 6 \/ i0 = 7 \/ i0 = 8 \/ i0 = 9 \/ i0 = 10 \/ i0 = 11 \/ i0 = 12 \/ i0 = 13 \/ i0 = 14:=by omega
  clear hsz
  rcases hall with rfl | rfl | rfl | rfl | rfl | rfl | rfl | rfl | rfl | rfl | rfl | rfl | rfl | rfl | rfl <;> simp only [List.getElem?_toArray,List.getElem?_cons_zero,List.getElem?_cons_succ,Option.some.injEq] at hi0 <;> subst hi0
  ·have f2:a1.eval (.tmp 2) = .pointer (some ⟨f,0,none⟩):=hout 2 (by decide)
   refine Zab (v:=.pointer (some ⟨f,0,none⟩)) (w':=w1) (by simp [execOp,f2,fa0]) ⟨_,rfl,?_,fun j u hu hV _=>⟨hV,trivial,trivial⟩,rfl⟩
   rw [Zaa (by decide),Zaa (by decide),Zaa (by decide),Zaa (by decide)];exact hR
  ·have e6:a1.eval (.tmp 6) = .pointer (some ⟨f,0,none⟩):=hdep ⟨0,.data⟩ (by simp) rfl _ rfl
   have x6:a1.tmps[6]?.getD undef = .pointer (some ⟨f,0,none⟩):=by simpa [Act.eval] using e6
   have hq:w1.cell? ⟨f,0,none⟩ = some (.slice a l.length cp):=by
    rw [hdes 14 (by kernel_rfl),hdes 12 (by kernel_rfl),if_neg (by decide),if_neg (by decide)] at hR
    by_cases h11:listed.getD 11 false = true
    ·rw [if_pos h11] at hR;exact Zax (A:=w) QF.out hR hf2
    ·rw [if_neg h11] at hR
     have hq:=(HQ.out (listed.getD 3 false)).1
     rw [<- hR] at hq
     exact hq
   refine Zab (v:=.slice a l.length cp) (w':=w1) (by simp only [execOp,e6,Sem.run_bind,Zux _ _ _ hq];rfl) ⟨_,rfl,?_,fun j u hu hV _=>⟨hV,trivial,trivial⟩,rfl⟩
   rw [Zaa (by decide),Zaa (by decide),Zaa (by decide),Zaa (by decide)];exact hR
  ·have f0:a1.eval (.tmp 0) = .int .u8 (c:Nat):=hout 0 (by decide)
   refine Zab (v:=.int .u8 (c:Nat)) (w':=w1) (by simp [execOp,f0]) ⟨_,rfl,?_,fun j u hu hV _=>⟨hV,trivial,trivial⟩,rfl⟩
   rw [Zaa (by decide),Zaa (by decide),Zaa (by decide),Zaa (by decide)];exact hR
  ·have e8:a1.eval (.tmp 8) = .int .u8 (c:Nat):=hdep ⟨2,.data⟩ (by simp) rfl _ rfl
   have x8:a1.tmps[8]?.getD undef = .int .u8 (c:Nat):=by simpa [Act.eval] using e8
   rw [hdes 14 (by kernel_rfl),hdes 12 (by kernel_rfl),hdes 11 (by kernel_rfl),hunf,if_neg (by decide),if_neg (by decide),if_neg (by decide),if_neg (by decide)] at hR
   refine Zab (v:=.slice (some ⟨w.heap.size,0,none⟩) 1 1) (w':=w.drew.alloc (.cells #[.int .u8 (c:Nat)] 5)) (by rw [hR];show _ = Result.ok (Next.value (.slice (some ⟨w.drew.heap.size,0,none⟩) 1 1)) _;simp [execOp,e8,Zzr]) ⟨_,rfl,?_,fun j u hu hV _=>⟨?_,trivial,trivial⟩,rfl⟩
   ·rw [Zaa (by decide),Zaa (by decide),Zaa (by decide),Zag hil,hdes 14 (by kernel_rfl),hdes 12 (by kernel_rfl),hdes 11 (by kernel_rfl),if_neg (by decide),if_neg (by decide),if_neg (by decide),if_pos rfl]
   ·rw [hR] at hV;exact Zjr (w:=w.drew) (Zai w.drew _) hV
  ·have f1:a1.eval (.tmp 1) = .int .i64 (n:Nat):=hout 1 (by decide)
   refine Zab (v:=.int .i64 (n:Nat)) (w':=w1) (by simp [execOp,f1]) ⟨_,rfl,?_,fun j u hu hV _=>⟨hV,trivial,trivial⟩,rfl⟩
   rw [Zaa (by decide),Zaa (by decide),Zaa (by decide),Zaa (by decide)];exact hR
  ·have f3:a1.eval (.tmp 3) = .pointer (some ⟨kb,0,none⟩):=hout 3 (by decide)
   have hq:=HQ.out (listed.getD 3 false)
   rw [hdes 14 (by kernel_rfl),hdes 12 (by kernel_rfl),hdes 11 (by kernel_rfl),if_neg (by decide),if_neg (by decide),if_neg (by decide)] at hR
   rw [<- hR] at hq
   refine Zab (v:=.int .i64 (keep:Nat)) (w':=w1) (by simp only [execOp,f3,Sem.run_bind,Zkm _ _ _ hq.2.2];rfl) ⟨_,rfl,?_,fun j u hu hV _=>⟨hV,trivial,trivial⟩,rfl⟩
   rw [Zaa (by decide),Zaa (by decide),Zaa (by decide),Zaa (by decide),hdes 14 (by kernel_rfl),hdes 12 (by kernel_rfl),hdes 11 (by kernel_rfl),if_neg (by decide),if_neg (by decide),if_neg (by decide)];exact hR
  ·have f2:a1.eval (.tmp 2) = .pointer (some ⟨f,0,none⟩):=hout 2 (by decide)
   refine Zab (v:=.pointer (some ⟨f,1,none⟩)) (w':=w1) (by simp [execOp,f2,fa1]) ⟨_,rfl,?_,fun j u hu hV _=>⟨hV,trivial,trivial⟩,rfl⟩
   rw [Zaa (by decide),Zaa (by decide),Zaa (by decide),Zaa (by decide)];exact hR
  ·have e12:a1.eval (.tmp 12) = .pointer (some ⟨f,1,none⟩):=hdep ⟨6,.data⟩ (by simp) rfl _ rfl
   have x12:a1.tmps[12]?.getD undef = .pointer (some ⟨f,1,none⟩):=by simpa [Act.eval] using e12
   have hq:=HQ.out (listed.getD 3 false)
   rw [hdes 14 (by kernel_rfl),hdes 12 (by kernel_rfl),hdes 11 (by kernel_rfl),if_neg (by decide),if_neg (by decide),if_neg (by decide)] at hR
   rw [<- hR] at hq
   refine Zab (v:=.int .i64 (size:Nat)) (w':=w1) (by simp only [execOp,e12,Sem.run_bind,Zkm _ _ _ hq.2.1];rfl) ⟨_,rfl,?_,fun j u hu hV _=>⟨hV,trivial,trivial⟩,rfl⟩
   rw [Zaa (by decide),Zaa (by decide),Zaa (by decide),Zaa (by decide),hdes 14 (by kernel_rfl),hdes 12 (by kernel_rfl),hdes 11 (by kernel_rfl),if_neg (by decide),if_neg (by decide),if_neg (by decide)];exact hR
  ·have e11:a1.eval (.tmp 11) = .int .i64 (keep:Nat):=hdep ⟨5,.data⟩ (by simp) rfl _ rfl
   have e13:a1.eval (.tmp 13) = .int .i64 (size:Nat):=hdep ⟨7,.data⟩ (by simp) rfl _ rfl
   refine Zab (v:=.int .i64 ((keep:Int) - (size:Int))) (w':=w1) (by simp [execOp,e11,e13,eqgSb,subI,G0.out]) ⟨_,rfl,?_,fun j u hu hV _=>⟨hV,trivial,trivial⟩,rfl⟩
   rw [Zaa (by decide),Zaa (by decide),Zaa (by decide),Zaa (by decide)];exact hR
  ·have e14:a1.eval (.tmp 14) = .int .i64 ((keep:Int) - (size:Int)):=hdep ⟨8,.data⟩ (by simp) rfl _ rfl
   have x14:a1.tmps[14]?.getD undef = .int .i64 ((keep:Int) - (size:Int)):=by simpa [Act.eval] using e14
   refine Zab (v:=.int .i64 (mx:Nat)) (w':=w1) (by simp [execOp,x14,resolve,invoke,builtin,go_sem];have:=HMX.out;split <;> omega) ⟨_,rfl,?_,fun j u hu hV _=>⟨hV,trivial,trivial⟩,rfl⟩
   rw [Zaa (by decide),Zaa (by decide),Zaa (by decide),Zaa (by decide)];exact hR
  ·have e10:a1.eval (.tmp 10) = .int .i64 (n:Nat):=hdep ⟨4,.data⟩ (by simp) rfl _ rfl
   have x10:a1.tmps[10]?.getD undef = .int .i64 (n:Nat):=by simpa [Act.eval] using e10
   have e15:a1.eval (.tmp 15) = .int .i64 (mx:Nat):=hdep ⟨9,.data⟩ (by simp) rfl _ rfl
   have x15:a1.tmps[15]?.getD undef = .int .i64 (mx:Nat):=by simpa [Act.eval] using e15
   refine Zab (v:=.int .i64 (m:Nat)) (w':=w1) (by simp [execOp,x10,x15,resolve,invoke,builtin,go_sem];have:=HM.out;split <;> omega) ⟨_,rfl,?_,fun j u hu hV _=>⟨hV,trivial,trivial⟩,rfl⟩
   rw [Zaa (by decide),Zaa (by decide),Zaa (by decide),Zaa (by decide)];exact hR
  ·have e9:a1.eval (.tmp 9) = .slice (some ⟨w.heap.size,0,none⟩) 1 1:=hdep ⟨3,.data⟩ (by simp) rfl _ rfl
   have x9:a1.tmps[9]?.getD undef = .slice (some ⟨w.heap.size,0,none⟩) 1 1:=by simpa [Act.eval] using e9
   have e16:a1.eval (.tmp 16) = .int .i64 (m:Nat):=hdep ⟨10,.data⟩ (by simp) rfl _ rfl
   have x16:a1.tmps[16]?.getD undef = .int .i64 (m:Nat):=by simpa [Act.eval] using e16
   rw [hdes 14 (by kernel_rfl),hdes 12 (by kernel_rfl),hunf,hanc 3 (by kernel_rfl),if_neg (by decide),if_neg (by decide),if_neg (by decide),if_pos rfl] at hR
   subst hR
   refine Zan (f:=66) (args:=#[.slice (some ⟨w.heap.size,0,none⟩) 1 1,.int .i64 (m:Nat)]) (by simp [x9,x16,go_sem]) ((Zdj m c w.heap.size HM3.out (w.drew.alloc (.cells #[.int .u8 (c:Nat)] 5)) (cell_of_one (World.alloc_heap_new w.drew (.cells #[.int .u8 (c:Nat)] 5))) (by simp)).mono ?_)
   rintro e w6 ⟨a6,rfl,hr6,hb6⟩
   have hb7:Below w.heap.size w w6:=(Below.refl _ w).drew.trans ((Zai w.drew _).trans (hb6.mono (by simp)))
   refine ⟨_,rfl,_,rfl,?_,fun j u hu hV _=>⟨?_,trivial,trivial⟩,a6,rfl,hr6⟩
   ·rw [Zaa (by decide),Zaa (by decide),Zag hil,hdes 14 (by kernel_rfl),hdes 12 (by kernel_rfl),if_neg (by decide),if_neg (by decide),if_pos rfl];exact hb7
   ·exact Zjr hb6 hV
  ·rw [hdes 14 (by kernel_rfl),hunf,hanc 11 (by kernel_rfl),if_neg (by decide),if_neg (by decide),if_pos rfl] at hR
   have e7:a1.eval (.tmp 7) = .slice a l.length cp:=hdep ⟨1,.data⟩ (by simp) rfl _ rfl
   obtain ⟨a6,e17,hr6⟩:=hdep ⟨11,.data⟩ (by simp) rfl _ rfl
   have e17':a1.eval (.tmp 17) = .slice a6 m m:=e17
   have hz6:=hR.size
   have how:OwnN 5 .u8 w1 base a cp l:=HO.out.below hR
   obtain ⟨a7,c7,w7,ho7,hb7,hg7,happ⟩:=appEq Zbl 22 how rfl (List.length_replicate (n:=m) (a:=c)).symm hr6 HN1.out HN2.out (Nat.le_trans hwb hR.size)
   refine Zab (v:=.slice a7 (l.length + m) c7) (w':=w7) (by simp [execOp,resolve,invoke,builtin,e7,e17',happ,Result.andThen]) ⟨_,rfl,?_,fun j u hu hV _=>⟨?_,trivial,trivial⟩,a7,c7,rfl,ho7⟩
   ·rw [Zaa (by decide),Zag hil,hdes 14 (by kernel_rfl),if_neg (by decide),if_pos rfl]
    refine ⟨(hb7.block f hfb).trans (hR.block f hf2),?_⟩
    exact ⟨hb7.os.trans hR.os,hb7.tape.trans hR.tape,hb7.output.trans hR.output,Nat.le_trans hR.size hb7.size,fun b hb ht=>(hb7.block b (by omega)).trans (hR.block b hb)⟩
   ·exact Zjs (fun e=>by subst e;cases (show true = false from hu.symm.trans (by kernel_rfl))) (fun e=>by subst e;cases (show true = false from hu.symm.trans (by kernel_rfl))) hV
  ·have f2:a1.eval (.tmp 2) = .pointer (some ⟨f,0,none⟩):=hout 2 (by decide)
   refine Zab (v:=.pointer (some ⟨f,0,none⟩)) (w':=w1) (by simp [execOp,f2,fa0]) ⟨_,rfl,?_,fun j u hu hV _=>⟨hV,trivial,trivial⟩,rfl⟩
   rw [Zaa (by decide),Zaa (by decide),Zaa (by decide),Zaa (by decide)];exact hR
  ·have e19:a1.eval (.tmp 19) = .pointer (some ⟨f,0,none⟩):=hdep ⟨13,.data⟩ (by simp) rfl _ rfl
   have x19:a1.tmps[19]?.getD undef = .pointer (some ⟨f,0,none⟩):=by simpa [Act.eval] using e19
   rw [hunf,hanc 12 (by kernel_rfl),if_neg (by decide),if_pos rfl] at hR
   obtain ⟨hR1,hR2⟩:=hR
   obtain ⟨a7,c7,e18,ho7⟩:=hdep ⟨12,.data⟩ (by simp) rfl _ rfl
   have e18':a1.eval (.tmp 18) = .slice a7 (l.length + m) c7:=e18
   have hf7:w1.heap[f]? = some (.cells #[.slice a l.length cp,.int .i64 (size:Nat),.int .i64 (used:Nat),.bool false] 24 (0,0)):=hR1.trans HF.out
   obtain ⟨q1,_⟩:=Zaf hf7
   obtain ⟨q2,_⟩:=Zal hf7
   refine Zbw (w':=w1.setCell ⟨f,0,none⟩ (.slice a7 (l.length + m) c7)) (by simp only [execOp,e19,e18'];rw [Sem.run_bind,Zzt _ _ _ _ _ _ q1 q2];rfl) ⟨undef,rfl,?_,fun j u hu hV _=>⟨Zjs (fun e=>by subst e;cases (show true = false from hu.symm.trans (by kernel_rfl))) (fun e=>by subst e;cases (show true = false from hu.symm.trans (by kernel_rfl))) hV,trivial,trivial⟩,trivial⟩
   rw [Zag hil,if_pos rfl]
   exact ⟨a7,c7,Zbc hf7,ho7.other (fun g hg=>by
    show f ≠ g
    rcases ho7.form with ⟨h,_⟩ | ⟨g2,h,hb,_⟩
    ·rw [h] at hg;cases hg
    ·rw [h] at hg;cases hg;omega) _,hR2.setCell (p:=⟨f,0,none⟩) (.inl (.inl rfl)) _⟩
 ·intro listed fv w1 hR hall hV
  rw [if_pos (hall 14 (by decide))] at hR
  obtain ⟨a7,c7,h1,h2,h3⟩:=hR
  simp only [spread,List.contains_cons,List.contains_nil,Nat.reduceBEq,Bool.or_false,Bool.or_true,cond_true,cond_false,Nat.reduceAdd,Nat.zero_add]
  obtain ⟨p1,p2,p3,p4,p5,p6⟩:=Zaf h1
  obtain ⟨z1,z2,z3,z4⟩:=Zal h1
  obtain ⟨s2,hs2⟩:∃ s2,size + n = s2:=⟨_,rfl⟩
  have HS2:=Zh hs2
  have k1:wrap64 ((size:Int) + (n:Int)) = (s2:Int):=by rw [IntWalk.wrap64_in _ (by omega)];omega
  have k2:((size:Int) + (n:Int)) = (s2:Int):=by omega
  have k3:IntKind.i64.wrap (s2:Int) = (s2:Int):=IntWalk.i64_in _ (by omega)
  have k4:wrap64 (s2:Int) = (s2:Int):=IntWalk.wrap64_in _ (by omega)
  have H1:=Zh (Zvn (v:=.int .i64 (s2:Nat)) h1).1
  clear hs2
  have H2:=Zh h2
  have H3:=Zh h3
  clear h1 h2 h3
  go_wp2_with fail
  go_end0
  have hlen:(l ++ List.replicate m c).length = l.length + m:=by rw [List.length_append,List.length_replicate]
  refine ⟨rfl,?_,H3.out.setCell (p:=⟨f,1,none⟩) (.inl (.inl rfl)) _⟩
  rw [HMX.out,HM.out,HS2.out]
  refine ⟨a7,c7,by rw [hlen];exact H1.out,H2.out.other (fun g hg=>?_) _⟩
  show f ≠ g
  rcases H2.out.form with ⟨h,_⟩ | ⟨g2,h,hb,_⟩
  ·rw [h] at hg;cases hg
  ·rw [h] at hg;cases hg;omega
end Go.Proofs.Ytnkpnjnfddjfpaa

namespace Go.Proofs.Ytnkpnjnfddjfpaa
open Go.RowKit Go.Shelf M01 M02 M27
theorem Zho (sf:List Nat) (keep n c:Nat):sf.take keep ++ List.replicate (min n (keep - sf.length)) c = (sf ++ List.replicate n c).take keep:=by
 rw [List.take_append,List.take_replicate,Nat.min_comm]
theorem Zfo:∀ (l:List Nat) (p run:Nat),(∀ x ∈ l,x < 256) -> (sayL l p run).length <= 255 * l.length
 | [],_,_,_=>by simp [sayL]
 | c :: r,p,run,h=>by
  have hc:=h c (List.mem_cons_self ..)
  have h2:∀ x ∈ r,x < 256:=fun x hx=>h x (List.mem_cons_of_mem _ hx)
  unfold sayL
  split
  ·have:=Zfo r c 0 h2
   rw [List.length_append,List.length_replicate,List.length_cons]
   omega
  ·have:=Zfo r c (if run = 0 \/ c = p then run + 1 else 1) h2
   rw [List.length_cons,List.length_cons]
   omega
def FlowV (w':World) (base:Nat) (l:List Nat) (size used:Nat) (wrong:Bool) (v:Value):Prop :=
 ∃ a c,v = .agg #[.slice a l.length c,.int .i64 (size:Nat),.int .i64 (used:Nat),.bool wrong] /\ OwnN 5 .u8 w' base a c l
theorem set4 {w:World} {b:Nat} {x y z u v1 v2 v3 v4:Value} {t:TypeId} (h:w.heap[b]? = some (.cells #[x,y,z,u] t (0,0))) :
  ((((w.setCell ⟨b,0,none⟩ v1).setCell ⟨b,1,none⟩ v2).setCell ⟨b,2,none⟩ v3).setCell ⟨b,3,none⟩ v4).heap[b]? = some (.cells #[v1,v2,v3,v4] t (0,0)) :=
 Zbc (i:=3) (x:=v4) (Zbc (i:=2) (x:=v3) (Zbc (i:=1) (x:=v2) (Zbc (i:=0) (x:=v1) h)))
theorem Zdp {E:TypeId} {k:IntKind} {w:World} {base cap:Nat} {a:Option Addr} {l:List Nat} (h:OwnN E k w base a cap l) {b:Nat} (hb:b < base):∀ g,a = some ⟨g,0,none⟩ -> b ≠ g:=by
 intro g hg
 rcases h.form with ⟨h,_⟩ | ⟨g2,h,hb2,_⟩
 ·rw [h] at hg;cases hg
 ·rw [h] at hg;cases hg;omega
set_option maxRecDepth 100000 in
set_option maxHeartbeats 6400000 in
theorem Zqi (w:World) (pa:Option Addr) (pcap:Nat) (p:List Nat) (keep:Nat) (hr:RowN .u8 w pa pcap p) (hl:p.length <= 1000000) (h256:∀ x ∈ p,x < 256) (hk:keep <= 1000000) :
  Calls Try.prog 29 #[.slice pa p.length pcap,.int .i64 (keep:Nat)] w fun e w'=>Below w.heap.size w w' /\ ∃ v,e = .returned (.tuple #[v,.int .i64 0]) /\ FlowV w' w.heap.size ((say p).take keep) (say p).length p.length false v:=by
 have HR:=Zh hr
 have H256:=Zh h256
 have t1:decide ((keep:Int) < 0) = false:=by simp
 clear hr h256
 go_enter Try.func29,Try.ntmps29
 go_wp2_with fail
 obtain ⟨z,hz⟩:∃ z,w.heap.size = z:=⟨_,rfl⟩
 have hb0:Below w.heap.size w (((w.alloc (.cells #[.int .i64 (keep:Nat)] 3)).alloc (.cells #[.slice none 0 0,.int .i64 0,.int .i64 0,.bool false] 24)).alloc (.cells #[.slice none 0 0,.int .i64 0,.int .i64 (p.length:Nat),.bool false] 24)):=((Zai w _).trans ((Zai _ _).mono (by simp))).trans ((Zai _ _).mono (by simp;omega))
 have h0:(((w.alloc (.cells #[.int .i64 (keep:Nat)] 3)).alloc (.cells #[.slice none 0 0,.int .i64 0,.int .i64 0,.bool false] 24)).alloc (.cells #[.slice none 0 0,.int .i64 0,.int .i64 (p.length:Nat),.bool false] 24)).heap[z]? = some (.cells #[.int .i64 (keep:Nat)] 3):=by
  rw [Below.heap_alloc _ _ _ (by simp;omega),Below.heap_alloc _ _ _ (by simp;omega),<- hz]
  exact World.alloc_heap_new w _
 have h1:(((w.alloc (.cells #[.int .i64 (keep:Nat)] 3)).alloc (.cells #[.slice none 0 0,.int .i64 0,.int .i64 0,.bool false] 24)).alloc (.cells #[.slice none 0 0,.int .i64 0,.int .i64 (p.length:Nat),.bool false] 24)).heap[z + 1]? = some (.cells #[.slice none 0 0,.int .i64 0,.int .i64 0,.bool false] 24):=by
  rw [Below.heap_alloc _ _ _ (by simp;omega)]
  have:=World.alloc_heap_new (w.alloc (.cells #[.int .i64 (keep:Nat)] 3)) (.cells #[.slice none 0 0,.int .i64 0,.int .i64 0,.bool false] 24)
  rwa [show (w.alloc (.cells #[.int .i64 (keep:Nat)] 3)).heap.size = z + 1 by simp [hz]] at this
 have h2:(((w.alloc (.cells #[.int .i64 (keep:Nat)] 3)).alloc (.cells #[.slice none 0 0,.int .i64 0,.int .i64 0,.bool false] 24)).alloc (.cells #[.slice none 0 0,.int .i64 0,.int .i64 (p.length:Nat),.bool false] 24)).heap[z + 2]? = some (.cells #[.slice none 0 0,.int .i64 0,.int .i64 (p.length:Nat),.bool false] 24):=by
  have:=World.alloc_heap_new ((w.alloc (.cells #[.int .i64 (keep:Nat)] 3)).alloc (.cells #[.slice none 0 0,.int .i64 0,.int .i64 0,.bool false] 24)) (.cells #[.slice none 0 0,.int .i64 0,.int .i64 (p.length:Nat),.bool false] 24)
  rwa [show ((w.alloc (.cells #[.int .i64 (keep:Nat)] 3)).alloc (.cells #[.slice none 0 0,.int .i64 0,.int .i64 0,.bool false] 24)).heap.size = z + 2 by simp [hz]] at this
 have hs0:(((w.alloc (.cells #[.int .i64 (keep:Nat)] 3)).alloc (.cells #[.slice none 0 0,.int .i64 0,.int .i64 0,.bool false] 24)).alloc (.cells #[.slice none 0 0,.int .i64 0,.int .i64 (p.length:Nat),.bool false] 24)).heap.size = z + 3:=by simp [hz]
 generalize ((w.alloc (.cells #[.int .i64 (keep:Nat)] 3)).alloc (.cells #[.slice none 0 0,.int .i64 0,.int .i64 0,.bool false] 24)).alloc (.cells #[.slice none 0 0,.int .i64 0,.int .i64 (p.length:Nat),.bool false] 24) = W at *
 simp only [hz] at hb0 ⊢
 have HZ:=Zh hz
 have HB0:=Zh hb0
 have H0:=Zh h0
 have H1:=Zh h1
 have H2:=Zh h2
 clear hb0 h0 h1 h2 hz
 go_loopw [8,20] (fun rv iv A=>∃ (i run:Nat) (sf:List Nat) (a:Option Addr) (c:Nat),iv = .int .i64 (i:Nat) /\ rv = .int .i64 (run:Nat) /\ i <= p.length /\ run <= 4 /\ run <= i ∧
  A.heap[z]? = some (.cells #[.int .i64 (keep:Nat)] 3) /\ A.heap[z + 1]? = some (.cells #[.slice none 0 0,.int .i64 0,.int .i64 0,.bool false] 24) /\ A.heap[z + 2]? = some (.cells #[.slice a (sf.take keep).length c,.int .i64 (sf.length:Nat),.int .i64 (p.length:Nat),.bool false] 24 (0,0)) /\ OwnN 5 .u8 A (z + 3) a c (sf.take keep) /\ z + 3 <= A.heap.size /\ Below z w A /\ Hid (say p = sf ++ sayL (p.drop i) (p.getD (i - 1) 0) run) /\ sf.length <= 255 * i) (fun _ iv _=>p.length - (intOf iv).toNat)
 case atStart=>exact ⟨0,0,[],none,0,rfl,rfl,by omega,by omega,by omega,H0.out,H1.out,by simpa using H2.out,by simpa using OwnN.nil _ _ _ _,by omega,HB0.out,by
  unfold Hid say
  cases p with
  | nil=>rfl
  | cons x r=>simp [sayL],by simp⟩
 case round =>
  clear H0 H1 H2 HB0
  obtain ⟨i,run,sf,a,c,rfl,rfl,hi,hr4,hri,h0,h1,h2,how,hsz,hbw,HS,hsl⟩:=hrel
  have H0:=Zh h0
  have H1:=Zh h1
  have H2:=Zh h2
  have HW:=Zh how
  have HBW:=Zh hbw
  clear h0 h1 h2 how hbw
  by_cases hlt:i < p.length
  ·have t0:decide (i < p.length) = true:=decide_eq_true hlt
   have hrow:=HR.out.below (by rw [HZ.out];exact HBW.out)
   obtain ⟨sb,soff,rfl,hsb,hsc⟩:=hrow.at hlt
   have hc256:=H256.out _ (List.getElem_mem hlt)
   have hs1:=HS.out
   rw [Ziz hlt] at hs1
   have hgd:p.getD i 0 = p[i]:=Zba hlt
   generalize hx:p[i] = x at *
   have HS1:=Zh hs1
   have HGD:=Zh hgd
   clear HS hs1 hgd hx
   unfold sayL at HS1
   have hlk:(sf.take keep).length <= 1000000000:=by rw [List.length_take];omega
   by_cases hr:run = 4
   ·subst hr
    rw [if_pos rfl] at HS1
    obtain ⟨j,rfl⟩:∃ j,i = j + 1:=⟨i - 1,by omega⟩
    obtain ⟨sb',soff',hb',_,hsp⟩:=hrow.at (i:=j) (by omega)
    simp only [Option.some.injEq,Addr.mk.injEq,and_true] at hb'
    obtain ⟨rfl,rfl⟩:=hb'
    rw [<- Zba] at hsp
    simp only [Nat.add_sub_cancel] at HS1
    have u1:IntKind.i64.wrap (((j + 1:Nat):Int) - 1) = (j:Int):=by rw [IntWalk.i64_in _ (by omega)];omega
    have u2:(((j + 1:Nat):Int) - 1) = (j:Int):=by omega
    have u3:(j:Int) < (p.length:Int):=by omega
    have u4:IntKind.i64.wrap (x:Int) = (x:Int):=IntWalk.i64_in _ (by omega)
    generalize p.getD j 0 = pv at *
    have HP:=Zh (Ztk wr (z + 2) z (z + 3) keep pv x sf.length p.length (sf.take keep) a c H2.out HW.out H0.out hsz (by omega) (by omega) (by omega) (by omega) (by omega) hlk)
    have hsl2:(sf ++ List.replicate x pv).length = sf.length + x:=by rw [List.length_append,List.length_replicate]
    go_wp2_with fail
    refine HP.out.mono ?_
    rintro e w2 ⟨rfl,⟨a2,c2,hf2,ho2⟩,hon⟩
    rw [Zho] at hf2 ho2
    have HF2:=Zh hf2
    have HO2:=Zh ho2
    have HON:=Zh hon
    have hz2:=hon.size
    clear hf2 ho2 hon HP
    go_wp2
    go_roundw
    case rel=>exact ⟨j + 1 + 1,0,sf ++ List.replicate x pv,a2,c2,by go_num,rfl,by omega,by omega,by omega,Zac H0.out HON.out (by show ¬ (z = z + 2 \/ z + 3 <= z);omega),Zac H1.out HON.out (by show ¬ (z + 1 = z + 2 \/ z + 3 <= z + 1);omega),by rw [hsl2];exact HF2.out,HO2.out,by omega,Below.only HBW.out HON.out (by rw [HZ.out];exact Nat.le_refl _) (fun b hb=>by rcases hb with rfl | hb <;> omega),by unfold Hid;rw [HS1.out,List.append_assoc,Nat.add_sub_cancel,HGD.out],by rw [hsl2];omega⟩
    case measure=>simp [intOf];omega
   ·rw [if_neg hr] at HS1
    have v1:((run:Int) == 4) = false:=by simp;omega
    have hsl2:(sf ++ List.replicate 1 x).length = sf.length + 1:=by rw [List.length_append,List.length_replicate]
    have hrep:sf ++ List.replicate 1 x = sf ++ [x]:=rfl
    have HP:=Zh (Ztk wr (z + 2) z (z + 3) keep x 1 sf.length p.length (sf.take keep) a c H2.out HW.out H0.out hsz (by omega) (by omega) (by omega) (by omega) (by omega) hlk)
    by_cases hr0:run = 0
    ·subst hr0
     rw [if_pos (.inl rfl)] at HS1
     have v2:decide ((0:Int) < 0) = false:=by decide
     go_wp2_with fail
     refine HP.out.mono ?_
     rintro e w2 ⟨rfl,⟨a2,c2,hf2,ho2⟩,hon⟩
     rw [Zho] at hf2 ho2
     have HF2:=Zh hf2
     have HO2:=Zh ho2
     have HON:=Zh hon
     have hz2:=hon.size
     clear hf2 ho2 hon HP
     go_wp2
     go_roundw
     case rel=>exact ⟨i + 1,1,sf ++ List.replicate 1 x,a2,c2,by go_num,rfl,by omega,by omega,by omega,Zac H0.out HON.out (by show ¬ (z = z + 2 \/ z + 3 <= z);omega),Zac H1.out HON.out (by show ¬ (z + 1 = z + 2 \/ z + 3 <= z + 1);omega),by rw [hsl2];exact HF2.out,HO2.out,by omega,Below.only HBW.out HON.out (by rw [HZ.out];exact Nat.le_refl _) (fun b hb=>by rcases hb with rfl | hb <;> omega),by unfold Hid;rw [HS1.out,hrep,List.append_assoc,Nat.add_sub_cancel,HGD.out];rfl,by rw [hsl2];omega⟩
     case measure=>simp [intOf];omega
    ·obtain ⟨j,rfl⟩:∃ j,i = j + 1:=⟨i - 1,by omega⟩
     obtain ⟨sb',soff',hb',_,hsp⟩:=hrow.at (i:=j) (by omega)
     simp only [Option.some.injEq,Addr.mk.injEq,and_true] at hb'
     obtain ⟨rfl,rfl⟩:=hb'
     rw [<- Zba] at hsp
     simp only [Nat.add_sub_cancel] at HS1
     have u1:IntKind.i64.wrap (((j + 1:Nat):Int) - 1) = (j:Int):=by rw [IntWalk.i64_in _ (by omega)];omega
     have u2:(((j + 1:Nat):Int) - 1) = (j:Int):=by omega
     have u3:(j:Int) < (p.length:Int):=by omega
     have v2:decide ((0:Int) < (run:Int)) = true:=by simp;omega
     generalize p.getD j 0 = pv at *
     by_cases hxp:x = pv
     ·rw [if_pos (.inr hxp)] at HS1
      have v3:((x:Int) == (pv:Int)) = true:=by simp [hxp]
      obtain ⟨run1,hrun1⟩:∃ run1,run + 1 = run1:=⟨_,rfl⟩
      have v4:IntKind.i64.wrap ((run:Int) + 1) = (run1:Int):=by rw [IntWalk.i64_in _ (by omega)];omega
      have v5:((run:Int) + 1) = (run1:Int):=by omega
      have hr1:run1 <= 4 /\ run1 <= j + 1 + 1:=by omega
      rw [hrun1] at HS1
      clear hxp hrun1
      go_wp2_with fail
      refine HP.out.mono ?_
      rintro e w2 ⟨rfl,⟨a2,c2,hf2,ho2⟩,hon⟩
      rw [Zho] at hf2 ho2
      have HF2:=Zh hf2
      have HO2:=Zh ho2
      have HON:=Zh hon
      have hz2:=hon.size
      clear hf2 ho2 hon HP
      go_wp2
      go_roundw
      case rel=>exact ⟨j + 1 + 1,run1,sf ++ List.replicate 1 x,a2,c2,by go_num,rfl,by omega,by omega,by omega,Zac H0.out HON.out (by show ¬ (z = z + 2 \/ z + 3 <= z);omega),Zac H1.out HON.out (by show ¬ (z + 1 = z + 2 \/ z + 3 <= z + 1);omega),by rw [hsl2];exact HF2.out,HO2.out,by omega,Below.only HBW.out HON.out (by rw [HZ.out];exact Nat.le_refl _) (fun b hb=>by rcases hb with rfl | hb <;> omega),by unfold Hid;rw [HS1.out,hrep,List.append_assoc,Nat.add_sub_cancel,HGD.out];rfl,by rw [hsl2];omega⟩
      case measure=>simp [intOf];omega
     ·rw [if_neg (by simp [hr0,hxp])] at HS1
      have v3:((x:Int) == (pv:Int)) = false:=by simp;omega
      clear hxp
      go_wp2_with fail
      refine HP.out.mono ?_
      rintro e w2 ⟨rfl,⟨a2,c2,hf2,ho2⟩,hon⟩
      rw [Zho] at hf2 ho2
      have HF2:=Zh hf2
      have HO2:=Zh ho2
      have HON:=Zh hon
      have hz2:=hon.size
      clear hf2 ho2 hon HP
      go_wp2
      go_roundw
      case rel=>exact ⟨j + 1 + 1,1,sf ++ List.replicate 1 x,a2,c2,by go_num,rfl,by omega,by omega,by omega,Zac H0.out HON.out (by show ¬ (z = z + 2 \/ z + 3 <= z);omega),Zac H1.out HON.out (by show ¬ (z + 1 = z + 2 \/ z + 3 <= z + 1);omega),by rw [hsl2];exact HF2.out,HO2.out,by omega,Below.only HBW.out HON.out (by rw [HZ.out];exact Nat.le_refl _) (fun b hb=>by rcases hb with rfl | hb <;> omega),by unfold Hid;rw [HS1.out,hrep,List.append_assoc,Nat.add_sub_cancel,HGD.out];rfl,by rw [hsl2];omega⟩
      case measure=>simp [intOf];omega
  ·obtain rfl:i = p.length:=by omega
   have hs1:say p = sf:=by rw [HS.out,List.drop_length];simp [sayL]
   have HS1:=Zh hs1
   clear HS hs1 hlt hi
   have HF:=Zh (set4 (v1:=.slice a (sf.take keep).length c) (v2:=.int .i64 (sf.length:Nat)) (v3:=.int .i64 (p.length:Nat)) (v4:=.bool false) H1.out)
   have HB4:=Zh ((((HBW.out.setCell (p:=⟨z + 1,0,none⟩) (by show z <= z + 1;omega) (.slice a (sf.take keep).length c)).setCell (p:=⟨z + 1,1,none⟩) (by show z <= z + 1;omega) (.int .i64 (sf.length:Nat))).setCell (p:=⟨z + 1,2,none⟩) (by show z <= z + 1;omega) (.int .i64 (p.length:Nat))).setCell (p:=⟨z + 1,3,none⟩) (by show z <= z + 1;omega) (.bool false))
   have HWn:=Zh ((((HW.out.other (p:=⟨z + 1,0,none⟩) (Zdp HW.out (by show z + 1 < z + 3;omega)) (.slice a (sf.take keep).length c)).other (p:=⟨z + 1,1,none⟩) (Zdp HW.out (by show z + 1 < z + 3;omega)) (.int .i64 (sf.length:Nat))).other (p:=⟨z + 1,2,none⟩) (Zdp HW.out (by show z + 1 < z + 3;omega)) (.int .i64 (p.length:Nat))).other (p:=⟨z + 1,3,none⟩) (Zdp HW.out (by show z + 1 < z + 3;omega)) (.bool false))
   obtain ⟨p1,p2,p3,p4,_,_⟩:=Zaf H2.out
   obtain ⟨q1,q2,q3,q4,_,_⟩:=Zaf H1.out
   obtain ⟨y1,y2,y3,y4⟩:=Zal H1.out
   generalize hsk:(sf.take keep) = sk at *
   have HSK:=Zh hsk
   clear hsk
   go_wp2_with fail
   generalize (((wr.setCell ⟨z + 1,0,none⟩ (.slice a sk.length c)).setCell ⟨z + 1,1,none⟩ (.int .i64 (sf.length:Nat))).setCell ⟨z + 1,2,none⟩ (.int .i64 (p.length:Nat))).setCell ⟨z + 1,3,none⟩ (.bool false) = W2 at *
   obtain ⟨l1,l2,l3,l4,_,_⟩:=Zaf HF.out
   refine bodyPost_ret (v:=.tuple #[.agg #[.slice a sk.length c,.int .i64 (sf.length:Nat),.int .i64 (p.length:Nat),.bool false],.int .i64 0]) (by simp [results,Try.results29,go_sem,l1,l2,l3,l4]) rfl ?_
   rw [HZ.out,HS1.out,HSK.out]
   exact ⟨HB4.out,_,rfl,a,c,rfl,HWn.out.mono (by omega)⟩
end Go.Proofs.Ytnkpnjnfddjfpaa
