/- A region whose order is drawn: reads, then one operation that may write or make memory, then operations that only read. After the kit's law of a still head and a forced tail. Plain: how far a block's reading goes, and what a block keeps to. pressworkref26.Get: contract. The reference of layer 27: text: contract. The reference of layer 20: Say: contract. crc.High: contract. The reference of layer 3: contracts of High, Fold. Plain: the state of Bunzip from part to part, and its bounds. -/
import Derived.Test.YtnkpnjnfddjfpaaGreatQ01
import Derived.Test.YtnkpnjnfddjfpaaGreatQ03
import Derived.Test.YtnkpnjnfddjfpaaGreatQ08
import Derived.Test.YtnkpnjnfddjfpaaGreatQ04
import Derived.Test.YtnkpnjnfddjfpaaGreatQ05
import Derived.Test.YtnkpnjnfddjfpaaGreatQ09
import Derived.Test.YtnkpnjnfddjfpaaGreatQ02
import Derived.StillTailTactics
set_option linter.unusedVariables false
set_option linter.unusedSimpArgs false
namespace Go.Proofs.YtnkpnjnfddjfpaaGreat
open Go
section
variable {P : Program} {ops : Array Oper} {md : Region.Mode} {w : World}
def behindB (md:Region.Mode) (ops:Array Oper) (n:Nat):Bool :=
 (List.range ops.size).all fun t=>decide (t <= n) || (List.range t).any fun u=>decide (n <= u) && Region.waitsFor md ops t u
theorem Zls {n:Nat} {listed:Array Bool} (hs:Region.sinkB md ops n = true) (hc:behindB md ops n = true) (hn:n < ops.size) (inv:HeadInv md ops n listed) :
  ∀ (d i:Nat),n - i = d -> i < n -> listed.getD i true = false -> ∀ t,n <= t -> t ∉ Region.ready md ops listed:=by
 intro d
 induction d using Nat.strongRecOn with
 | _ d ih =>
  intro i hd hi hun t ht hr
  obtain ⟨_,ot,hot,hall⟩:=mem_ready.1 hr
  have htlt:t < ops.size:=(Array.getElem?_eq_some_iff.1 hot).1
  by_cases htn:t = n
  ·subst htn
   have h1:=List.all_eq_true.1 hs i (List.mem_range.2 hi)
   obtain ⟨j,hj,hj2⟩:=List.any_eq_true.1 h1
   simp only [Bool.and_eq_true,decide_eq_true_eq] at hj2
   obtain ⟨oj,hoj,e,he,hb,hon⟩:=Region.waitsFor_spec hj2.2
   have hjle:j <= t:=by have:=List.mem_range.1 hj;omega
   by_cases hjt:j = t
   ·subst hjt
    have:oj = ot:=Option.some.inj (hoj.symm.trans hot)
    subst this
    have h2:=hall e he hb
    rw [hon,getD_both hun] at h2
    cases h2
   ·cases hl:listed.getD j false with
    | true =>
     have h2:=inv.closed j oj hoj hl e he hb
     rw [hon,getD_both hun] at h2
     cases h2
    | false =>
     have hjs:j < listed.size:=by rw [inv.size];omega
     exact ih (t - j) (by omega) j rfl (by omega) (getD_in hjs hl) t (Nat.le_refl _) hr
  ·have h1:=List.all_eq_true.1 hc t (List.mem_range.2 htlt)
   simp only [Bool.or_eq_true,decide_eq_true_eq] at h1
   rcases h1 with h1 | h1
   ·omega
   ·obtain ⟨u,hu,hu2⟩:=List.any_eq_true.1 h1
    simp only [Bool.and_eq_true,decide_eq_true_eq] at hu2
    have hut:=List.mem_range.1 hu
    obtain ⟨o',ho',e,he,hb,hon⟩:=Region.waitsFor_spec hu2.2
    have:o' = ot:=Option.some.inj (ho'.symm.trans hot)
    subst this
    have h2:=hall e he hb
    rw [hon,getD_both (inv.tail u hu2.1 (by omega))] at h2
    cases h2
theorem Zts {n i:Nat} {oi:Oper} {v:Value} {L:Array Bool -> Act -> Prop} (hi:ops[i]? = some oi) (hsel:∀ (j:Nat) (o:Oper) cs b,ops[j]? = some o -> o.op ≠ .select cs b)
  (hs:Region.sinkB md ops n = true) (hc:behindB md ops n = true) (hn:n < ops.size) (hin:i < n)
  (hdone:∀ listed a,L listed a -> ∀ j ∈ Region.ready md ops listed,n <= j) :
  ∀ (f:Nat) (listed:Array Bool) (a:Act),HeadInv md ops n listed →
   (∀ j oj,ops[j]? = some oj -> j ≠ i -> listed.getD j true = false -> (∀ e ∈ oj.after,Region.binds md e = true -> e.on ≠ i) -> oi.apart ops oj = true) →
   i ∈ Region.ready md ops listed -> YieldsAt P ops w oi v a →
   wpAnyL P md ops w n L f (listed.setIfInBounds i true) (a.put oi.dst v) -> wpAnyL P md ops w n L (f + 1) listed a:=by
 intro f
 induction f with
 | zero =>
  intro listed a inv _ hr hy H
  have hun:=(mem_ready.1 hr).1
  refine ⟨fun h=>(by rw [h] at hr;cases hr),fun j hj=>?_⟩
  have hjn:j < n:=by
   rcases Nat.lt_or_ge j n with h | h
   ·exact h
   ·exact absurd hj (Zls hs hc hn inv _ i rfl hin hun j h)
  refine ⟨hjn,?_⟩
  by_cases hji:j = i
  ·subst hji;exact hy.stOp hi H
  ·have:=hdone _ _ H j (ready_mono hj hji)
   omega
 | succ f ih =>
  intro listed a inv hfree hr hy H
  have hun:=(mem_ready.1 hr).1
  refine ⟨fun h=>(by rw [h] at hr;cases hr),fun j hj=>?_⟩
  have hjn:j < n:=by
   rcases Nat.lt_or_ge j n with h | h
   ·exact h
   ·exact absurd hj (Zls hs hc hn inv _ i rfl hin hun j h)
  refine ⟨hjn,?_⟩
  by_cases hji:j = i
  ·subst hji;exact hy.stOp hi H
  ·have h1:=(H.2 j (ready_mono hj hji)).2
   obtain ⟨hjun,oj,hoj,hall⟩:=mem_ready.1 hj
   have hnot:∀ e ∈ oj.after,Region.binds md e = true -> e.on ≠ i:=fun e he hb heq=>by
    have h1:=hall e he hb
    rw [heq,getD_both hun] at h1
    cases h1
   have h2:=stOp_put hoj (hfree j oj hoj hji hjun hnot) (fun cs b=>hsel i oi cs b hi) (fun cs b=>hsel j oj cs b hoj) hy h1
   have hfree':∀ k ok,ops[k]? = some ok -> k ≠ i -> (listed.setIfInBounds j true).getD k true = false →
     (∀ e ∈ ok.after,Region.binds md e = true -> e.on ≠ i) -> oi.apart ops ok = true:=fun k ok hk hki hun hno=>by
    refine hfree k ok hk hki ?_ hno
    by_cases hjk:j = k
    ·subst hjk;exact hjun
    ·rw [getD_set_ne true hjk] at hun;exact hun
   refine stOp_mono (fun a' h3=>ih (listed.setIfInBounds j true) a' (inv.set hj hjn) hfree' (ready_mono hr (Ne.symm hji)) h3.1 ?_) h2
   rw [Array.setIfInBounds_comm _ _ hji]
   exact h3.2
def restB (md:Region.Mode) (ops:Array Oper) (n:Nat) (listed:Array Bool):Bool :=
 decide (Region.ready md ops listed = [n]) && Region.lexFrom md ops (ops.size - (n + 1)) (n + 1) (listed.setIfInBounds n true)
def headB (md:Region.Mode) (ops:Array Oper) (n:Nat):Nat -> Nat -> Array Bool -> Bool
 | 0,_,listed=>restB md ops n listed
 | f + 1,k,listed=>(Region.ready md ops listed).contains k && Region.free md ops listed k && headB md ops n f (k + 1) (listed.setIfInBounds k true)
def midB (md:Region.Mode) (ops:Array Oper) (n:Nat):Bool :=
 Region.noSelect ops && decide (n < ops.size) && Region.sinkB md ops n && behindB md ops n && headB md ops n n 0 (Array.replicate ops.size false)
theorem Ztt {n:Nat} {Lq:Act -> Prop} (hsel:Region.noSelect ops = true) (hs:Region.sinkB md ops n = true) (hc:behindB md ops n = true) (hn:n < ops.size) :
  ∀ (l:List Oper) (k:Nat) (listed:Array Bool) (a:Act),(∀ j,j < l.length -> l[j]? = ops[k + j]?) -> k + l.length = n -> HeadInv md ops n listed →
  headB md ops n l.length k listed = true -> wpStill P ops w Lq l a →
  wpAnyL P md ops w n (fun listed' a'=>restB md ops n listed' = true /\ Lq a') l.length listed a
 | [],k,listed,a,_,hk,_,hB,h=>⟨by simpa [headB] using hB,h⟩
 | o :: l,k,listed,a,hl,hk,inv,hB,h=>by
  have h0:ops[k]? = some o:=by simpa using (hl 0 (by simp)).symm
  simp only [List.length_cons,headB,Bool.and_eq_true] at hB
  obtain ⟨⟨hr,hf⟩,hB'⟩:=hB
  have hkn:k < n:=by simp only [List.length_cons] at hk;omega
  have hr':k ∈ Region.ready md ops listed:=by simpa using hr
  have hst:stOp P ops w k (wpStill P ops w Lq l) a:=by unfold stOp;simp only [h0];exact h
  obtain ⟨v,hy,hK⟩:=yieldsAt_of_stOp h0 hst
  refine Zts h0 (Region.noSelect_spec hsel) hs hc hn hkn (fun listed' a' hL j hj=>?_) l.length listed a inv (Region.free_spec h0 hf) hr' hy
   (Ztt hsel hs hc hn l (k + 1) _ _ (fun j hj=>by have:=hl (j + 1) (by simp;omega);simpa [Nat.add_assoc,Nat.add_comm 1 j] using this) (by simp only [List.length_cons] at hk;omega) (inv.set hr' hkn) hB' hK)
  have h1:=hL.1
  unfold restB at h1
  simp only [Bool.and_eq_true,decide_eq_true_eq] at h1
  rw [h1.1] at hj
  have:j = n:=by simpa using hj
  omega
theorem Zcv {id:Nat} {Q:Exit -> Act -> World -> Prop} {a:Act} {w:World} {l:List Oper} (n:Nat) (o:Oper) (ho:l[n]? = some o) (hm:P.follows .mixedOrders = true) (hB:midB .any l.toArray n = true)
  (h:wpStill P l.toArray { w with drawn:=w.drawn + 1 } (fun a'=>wpList P l.toArray (Exit.then (fun a2 w2=>wpStill P l.toArray w2 (fun a3=>Q .normal a3 w2) (l.drop (n + 1)) a2) Q) [o] a' { w with drawn:=w.drawn + 1 }) (l.take n) a):(Code.region id l.toArray true).wp P Q a w:=by
 simp only [midB,Bool.and_eq_true,decide_eq_true_eq] at hB
 obtain ⟨⟨⟨⟨hsel,hn⟩,hs⟩,hc⟩,hlex⟩:=hB
 have hn':n < l.length:=by simpa using hn
 have htl:(l.take n).length = n:=by simp;omega
 have hdl:(l.drop (n + 1)).length = l.toArray.size - (n + 1):=by simp
 have inv0:HeadInv .any l.toArray n (Array.replicate l.toArray.size false) :=
  ⟨by simp,fun j oj _ hl=>(by rw [getD_replicate_false] at hl;cases hl),fun t _ ht=>getD_in (by simpa using ht) (getD_replicate_false _ _)⟩
 have H:=Ztt (md:=.any) hsel hs hc hn (l.take n) 0 _ a (fun j hj=>by
  have hj':j < n:=by rw [htl] at hj;exact hj
  simp [hj']) (by simpa using htl) inv0 (by rw [htl];exact hlex) h
 refine wp_region_any hm ?_
 have:=wpAny_of_head (Q':=Q) (g:=l.toArray.size - (n + 1) + 1) (fun listed a' hL=>by
  obtain ⟨h1,h2⟩:=hL
  unfold restB at h1
  simp only [Bool.and_eq_true,decide_eq_true_eq] at h1
  refine ⟨fun h0=>(by rw [h1.1] at h0;cases h0),fun i hi=>?_⟩
  rw [h1.1] at hi
  obtain rfl:i = n:=by simpa using hi
  have ho':l.toArray[i]? = some o:=by simpa using ho
  have hop:wpOp P l.toArray Q i (fun a2 w2=>wpStill P l.toArray w2 (fun a3=>Q .normal a3 w2) (l.drop (i + 1)) a2) a' { w with drawn:=w.drawn + 1 }:=by
   unfold wpOp
   simp only [ho']
   simp only [wpList] at h2
   split
   ·rename_i hw
    rw [if_pos hw] at h2
    refine h2.imp (fun h3=>?_) (fun h3=>h3)
    unfold Oper.wp at h3 ⊢
    generalize (execOp a'.eval o).run P { w with drawn:=w.drawn + 1 } = r at *
    cases r with
    | ok nx w' =>
     cases nx <;> simp only [Oper.upon] at h3 ⊢ <;>
      first
       | exact h3
       | exact Calls.mono h3 (fun e w'' he=>by cases e <;> exact he)
    | halt x w'=>cases x <;> simp only [Oper.upon] at h3 ⊢ <;> exact h3
   ·rename_i hw
    rw [if_neg hw] at h2
    exact h2
  exact wpOp_mono (fun a2 w2 h3=>by
   refine wpAny_of_still (Q:=fun a3=>Q .normal a3 w2) (fun _ h=>h) _ _ _ ?_
   have h4:=wpAnyS_lex (md:=.any) (w:=w2) (Q:=fun a3=>Q .normal a3 w2) hsel (l.drop (i + 1)) (i + 1) (listed.setIfInBounds i true) a2 (fun j=>by simp [List.getElem?_drop]) (by rw [hdl];exact h1.2) h3
   rwa [hdl] at h4) hop) _ _ _ H
 have hsz:n + (l.toArray.size - (n + 1) + 1) = l.toArray.size:=by
  have:n < l.toArray.size:=by simpa using hn'
  omega
 rw [htl,hsz] at this
 exact this
end
end Go.Proofs.YtnkpnjnfddjfpaaGreat

namespace Go.Proofs.YtnkpnjnfddjfpaaGreat.M27
open M01 M02 M04 M06 M10
theorem Zbq {B:List Nat} {a n x a2:Nat} (h:numG B a n = some (x,a2)):a + n = a2 /\ x < 2 ^ n:=by
 unfold numG at h
 split at h
 ·simp only [Option.some.injEq,Prod.mk.injEq] at h
  exact ⟨h.2,h.1 ▸ Zbk _ _ _⟩
 ·cases h
theorem Zgu (B:List Nat) (f0:Nat):∀ m g a out l a2,pickL B f0 m g a out = some (l,a2) -> a <= a2
 | 0,g,a,out,l,a2,h=>by simp only [pickL,Option.some.injEq,Prod.mk.injEq] at h;omega
 | m + 1,g,a,out,l,a2,h=>by
  unfold pickL at h
  split at h
  ·split at h
   ·have:=Zgu B f0 m _ _ _ l a2 h;omega
   ·cases h
  ·exact Zgu B f0 m _ _ _ l a2 h
theorem Zqn {B:List Nat} {a a2:Nat} {l:List Nat} (h:pickG B a = some (l,a2)):a <= a2:=by
 unfold pickG at h
 split at h
 ·split at h
  ·rename_i out at2 heq
   have:=Zgu _ _ _ _ _ _ _ _ heq
   split at h
   ·cases h
   ·simp only [Option.some.injEq,Prod.mk.injEq] at h;omega
  ·cases h
 ·cases h
theorem Zil (B:List Nat) (n:Nat):∀ f k a out l a2,lenL B f k a n out = some (l,a2) -> a <= a2
 | 0,k,a,out,l,a2,h=>by simp [lenL] at h
 | f + 1,k,a,out,l,a2,h=>by
  unfold lenL at h
  split at h
  ·simp only [Option.some.injEq,Prod.mk.injEq] at h;omega
  ·split at h
   ·cases h
   ·split at h
    ·have:=Zil B n f _ _ _ l a2 h;omega
    ·split at h
     ·cases h
     ·have:=Zil B n f _ _ _ l a2 h;omega
theorem Ztn {B:List Nat} {a n a2:Nat} {l:List Nat} (h:lenG B a n = some (l,a2)):a <= a2:=by
 unfold lenG at h
 obtain ⟨p,h1,h2⟩:=Option.bind_eq_some_iff.1 h
 have:=(Zbq (x:=p.1) (a2:=p.2) h1).1
 have:=Zil _ _ _ _ _ _ _ _ h2
 omega
theorem Zjx (B:List Nat) (tables:Nat):∀ f k a r a2,onesG B tables f k a = some (r,a2) -> a <= a2
 | 0,k,a,r,a2,h=>by simp [onesG] at h
 | f + 1,k,a,r,a2,h=>by
  unfold onesG at h
  split at h
  ·cases h
  ·split at h
   ·simp only [Option.some.injEq,Prod.mk.injEq] at h;omega
   ·split at h
    ·cases h
    ·have:=Zjx B tables f _ _ r a2 h;omega
theorem Zms (B:List Nat) (tables:Nat):∀ n l a out r a2,selL B tables n l a out = some (r,a2) -> a <= a2
 | 0,l,a,out,r,a2,h=>by simp only [selL,Option.some.injEq,Prod.mk.injEq] at h;omega
 | n + 1,l,a,out,r,a2,h=>by
  unfold selL at h
  obtain ⟨p,h1,h2⟩:=Option.bind_eq_some_iff.1 h
  have:=Zjx B tables _ _ _ p.1 p.2 h1
  have:=Zms B tables n _ _ _ r a2 h2
  omega
theorem Zve {B:List Nat} {a n a2:Nat} {l:List Nat} (h:selG B a n = some (l,a2)):a <= a2:=by
 unfold selG at h
 obtain ⟨p,h1,h2⟩:=Option.bind_eq_some_iff.1 h
 have:=(Zbq (x:=p.1) (a2:=p.2) h1).1
 split at h2
 ·cases h2
 ·have:=Zms _ _ _ _ _ _ _ _ h2
  omega
theorem Zln {F:TF} {B:List Nat}:∀ f x k a s a2,decF F B f x k a = some (s,a2) -> a <= a2
 | 0,x,k,a,s,a2,h=>by simp [decF] at h
 | f + 1,x,k,a,s,a2,h=>by
  unfold decF at h
  split at h
  ·cases h
  ·split at h
   ·simp only [Option.some.injEq,Prod.mk.injEq] at h;omega
   ·split at h
    ·have:=Zln f _ _ _ s a2 h;omega
    ·cases h
theorem Zkj (B:List Nat) (n:Nat):∀ m a out r a2,tabsL B n m a out = some (r,a2) -> a <= a2
 | 0,a,out,r,a2,h=>by simp only [tabsL,Option.some.injEq,Prod.mk.injEq] at h;omega
 | m + 1,a,out,r,a2,h=>by
  unfold tabsL at h
  obtain ⟨p,h1,h2⟩:=Option.bind_eq_some_iff.1 h
  have:=Ztn (l:=p.1) (a2:=p.2) h1
  split at h2
  ·have:=Zkj B n m _ _ r a2 h2;omega
  ·cases h2
theorem Zki (B:List Nat) (tabs:List (List Nat)) (group:List Nat) (e:Nat):∀ f a out r a2,symsG B tabs group e f a out = some (r,a2) -> a <= a2
 | 0,a,out,r,a2,h=>by simp [symsG] at h
 | f + 1,a,out,r,a2,h=>by
  unfold symsG at h
  obtain ⟨p,h1,h2⟩:=Option.bind_eq_some_iff.1 h
  have h3:a <= p.2:=by
   unfold nextG sym at h1
   split at h1
   ·exact Zln _ _ _ _ p.1 p.2 h1
   ·cases h1
  split at h2
  ·simp only [Option.some.injEq,Prod.mk.injEq] at h2;omega
  ·have:=Zki B tabs group e f _ _ r a2 h2;omega
theorem Zne {B l:List Nat} {a most s a2:Nat} (h:blkG B a most = some (l,s,a2)) (hm:most <= 1000000):a < a2 /\ l.length <= most /\ (∀ x ∈ l,x < 256) /\ s < 4294967296:=by
 unfold blkG at h
 obtain ⟨p0,g0,h⟩:=Option.bind_eq_some_iff.1 h
 unfold blk1 at h
 obtain ⟨p1,g1,h⟩:=Option.bind_eq_some_iff.1 h
 unfold blk2 at h
 obtain ⟨p2,g2,h⟩:=Option.bind_eq_some_iff.1 h
 unfold blk3 at h
 obtain ⟨p3,g3,h⟩:=Option.bind_eq_some_iff.1 h
 unfold blk4 at h
 obtain ⟨p4,g4,h⟩:=Option.bind_eq_some_iff.1 h
 unfold blk5 at h
 split at h
 ·cases h
 obtain ⟨p5,g5,h⟩:=Option.bind_eq_some_iff.1 h
 unfold blk6 at h
 obtain ⟨p6,g6,h⟩:=Option.bind_eq_some_iff.1 h
 unfold blk7 at h
 obtain ⟨p7,g7,h⟩:=Option.bind_eq_some_iff.1 h
 unfold blk8 at h
 obtain ⟨f,g8,h⟩:=Option.bind_eq_some_iff.1 h
 obtain ⟨b,g9,h⟩:=Option.bind_eq_some_iff.1 h
 simp only [Option.some.injEq,Prod.mk.injEq] at h
 obtain ⟨h1,h2,h3⟩:=h
 have k0:=Zbq (x:=p0.1) (a2:=p0.2) g0
 have k1:=(Zbq (x:=p1.1) (a2:=p1.2) g1).1
 have k2:=(Zbq (x:=p2.1) (a2:=p2.2) g2).1
 have k3:=Zqn (l:=p3.1) (a2:=p3.2) g3
 have k4:=(Zbq (x:=p4.1) (a2:=p4.2) g4).1
 have k5:=Zve (l:=p5.1) (a2:=p5.2) g5
 have k6:=Zkj _ _ _ _ _ p6.1 p6.2 g6
 have k7:=Zki _ _ _ _ _ _ _ p7.1 p7.2 g7
 obtain ⟨u1,u2,u3,u4⟩:=Zhv (l:=p3.1) (at2:=p3.2) g3
 obtain ⟨v1,v2⟩:=Zfs u1 g8
 obtain ⟨w1,w2⟩:=Zhn (fun x hx=>u4 x (v2 x hx)) g9
 refine ⟨by omega,?_,?_,by have:=k0.2;omega⟩
 ·rw [<- h1]
  split
  ·unfold masked;rw [Zbc];omega
  ·omega
 ·rw [<- h1]
  split
  ·exact Zdl b w2 _
  ·exact w2
end Go.Proofs.YtnkpnjnfddjfpaaGreat.M27

namespace Go.Proofs.YtnkpnjnfddjfpaaGreat
open Go.RowKit M01 M02 M04 M06 M10 M27
theorem Zmz (B:List Nat) (n:Nat):∀ m a out r a2,tabsL B n m a out = some (r,a2) -> r.length = out.length + m
 | 0,a,out,r,a2,h=>by simp only [tabsL,Option.some.injEq,Prod.mk.injEq] at h;rw [h.1];rfl
 | m + 1,a,out,r,a2,h=>by
  unfold tabsL at h
  obtain ⟨p,h1,h2⟩:=Option.bind_eq_some_iff.1 h
  split at h2
  ·have:=Zmz B n m _ _ r a2 h2
   rw [List.length_append] at this
   simp at this;omega
  ·cases h2
theorem Zos {B:List Nat} {a:Nat} {h:Hd} (hh:headG B a = some h):h.used ≠ [] /\ rising h.used = true /\ h.used.length <= 256 /\ (∀ x ∈ h.used,x < 256) /\ h.group.length < 32768 /\ (∀ x ∈ h.group,x < h.tabs.length) /\ h.tabs.length <= 6 /\ h.s < 2 ^ 32 /\ h.pl < 2 ^ 24:=by
 unfold headG at hh
 obtain ⟨p0,g0,hh⟩:=Option.bind_eq_some_iff.1 hh
 unfold hd1 at hh
 obtain ⟨p1,g1,hh⟩:=Option.bind_eq_some_iff.1 hh
 unfold hd2 at hh
 obtain ⟨p2,g2,hh⟩:=Option.bind_eq_some_iff.1 hh
 unfold hd3 at hh
 obtain ⟨p3,g3,hh⟩:=Option.bind_eq_some_iff.1 hh
 unfold hd4 at hh
 obtain ⟨p4,g4,hh⟩:=Option.bind_eq_some_iff.1 hh
 unfold hd5 at hh
 split at hh
 ·cases hh
 rename_i hmn
 obtain ⟨p5,g5,hh⟩:=Option.bind_eq_some_iff.1 hh
 unfold hd6 at hh
 obtain ⟨p6,g6,hh⟩:=Option.bind_eq_some_iff.1 hh
 simp only [Option.some.injEq] at hh
 subst hh
 obtain ⟨u1,u2,u3,u4⟩:=Zhv (l:=p3.1) (at2:=p3.2) g3
 have k6:=Zmz _ _ _ _ _ p6.1 p6.2 g6
 obtain ⟨s1,s2,s3⟩:=Zvf (g:=p5.1) (at2:=p5.2) (by omega) (by omega) g5
 have e6:p6.1.length = p4.1:=by simpa using k6
 exact ⟨u1,u2,u3,u4,s2,fun x hx=>by show x < p6.1.length;rw [e6];exact s3 x hx,by show p6.1.length <= 6;omega,(Zbq (x:=p0.1) (a2:=p0.2) g0).2,(Zbq (x:=p2.1) (a2:=p2.2) g2).2⟩
theorem Znj {l bs:List Nat} {F:TF} {i:Nat} (hg:M10.Good l F i):∀ f x k at_ s at2,decF F bs f x k at_ = some (s,at2) -> s < i /\ (at_ <= 8 * bs.length -> at2 <= 8 * bs.length):=by
 intro f
 induction f with
 | zero=>intro x k at_ s at2 h;simp [decF] at h
 | succ f ih =>
  intro x k at_ s at2 h
  unfold decF at h
  split at h
  ·simp at h
  ·next v hv =>
   obtain ⟨_,h2⟩:=hg x k v hv
   split at h
   ·next h0 =>
    rcases h2 with rfl | ⟨s',rfl,h3,h4,h5,h6⟩
    ·omega
    ·simp only [Option.some.injEq,Prod.mk.injEq,Int.toNat_natCast] at h
     obtain ⟨rfl,rfl⟩:=h
     exact ⟨by omega,fun h=>h⟩
   ·split at h
    ·next h1=>exact ⟨(ih _ _ _ _ _ h).1,fun _=>(ih _ _ _ _ _ h).2 h1⟩
    ·simp at h
theorem Zkh {l bs:List Nat} {at_ s at2:Nat} (h20:∀ x ∈ l,x <= 20) (h:sym l bs at_ = some (s,at2)):s < l.length /\ (at_ <= 8 * bs.length -> at2 <= 8 * bs.length):=Znj (Zor l h20) _ _ _ _ _ _ h
theorem Zey (B:List Nat) (tabs:List (List Nat)) (group:List Nat) (e f at_:Nat) (out:List Nat) (h:nextG B tabs group out.length at_ = none):symsG B tabs group e f at_ out = none:=by
 cases f with
 | zero=>rfl
 | succ f=>unfold symsG;rw [h];rfl
theorem Zrl (B:List Nat) (tabs:List (List Nat)) (group:List Nat) (e f at_:Nat) (out:List Nat) {s a2:Nat} (h:nextG B tabs group out.length at_ = some (s,a2)):symsG B tabs group e (f + 1) at_ out = if s = e then some (out ++ [s],a2) else symsG B tabs group e f a2 (out ++ [s]):=by
 conv=>lhs;unfold symsG
 rw [h];rfl
def OutB (q n:Nat) (R:Option (List Nat × Nat × Nat)) (e:Ending) (w':World):Prop :=
 match R with
 | some (b,s,at2)=>∃ g c,e = .returned (.tuple #[.slice g b.length c,.int .u32 (s:Nat),.int .i64 (at2:Nat),.int .i64 0]) /\ OwnN 5 .u8 w' q g c b /\ at2 <= n
 | none=>∃ m:Int,e = .returned (.tuple #[.slice none 0 0,.int .u32 0,.int .i64 m,.int .i64 2])
def Rel26 (B:List Nat) (most s m pl:Nat) (used group:List Nat) (tabs:List (List Nat)) (R:Option (List Nat × Nat × Nat)) (syms:List Nat) (at3:Nat):Prop :=
 (syms ≠ [] /\ syms.getD (syms.length - 1) 0 = used.length + 1 /\ R = blk8 B most s m pl used syms at3) \/ ((syms = [] \/ syms.getD (syms.length - 1) 0 ≠ used.length + 1) /\ R = (symsG B tabs group (used.length + 1) (50 * group.length + 1 - syms.length) at3 syms).bind fun y=>blk8 B most s m pl used y.1 y.2)
theorem rel26 {B:List Nat} {most s m pl:Nat} {used group:List Nat} {tabs:List (List Nat)} {R:Option (List Nat × Nat × Nat)} {syms:List Nat} {at3 s1 a3:Nat} {N:Option (Nat × Nat)} (hF:R = (symsG B tabs group (used.length + 1) (50 * group.length + 1 - syms.length) at3 syms).bind fun y=>blk8 B most s m pl used y.1 y.2)
  (h:nextG B tabs group syms.length at3 = N) (hl:syms.length + 1 <= 50 * group.length) (hN:N = some (s1,a3)):Rel26 B most s m pl used group tabs R (syms ++ [s1]) a3:=by
 obtain ⟨f,hf⟩:∃ f,50 * group.length + 1 - syms.length = f + 1:=⟨50 * group.length - syms.length,by omega⟩
 rw [hf,Zrl _ _ _ _ _ _ _ (h.trans hN)] at hF
 have hg:(syms ++ [s1]).getD ((syms ++ [s1]).length - 1) 0 = s1:=by simp
 by_cases hs:s1 = used.length + 1
 ·rw [if_pos hs] at hF
  exact .inl ⟨by simp,hg.trans hs,hF⟩
 ·rw [if_neg hs] at hF
  refine .inr ⟨.inr (by rw [hg];exact hs),?_⟩
  rw [hF,List.length_append,show 50 * group.length + 1 - (syms.length + [s1].length) = f by simp;omega]
theorem Zbz {tmps:Array Value} {Q:Ending -> World -> Prop} {w':World} {v6 v7 v8 v9:Value} (t6:tmps.getD 6 undef = v6) (t7:tmps.getD 7 undef = v7) (t8:tmps.getD 8 undef = v8) (t9:tmps.getD 9 undef = v9) (h:Q (.returned (.tuple #[v6,v7,v8,v9])) w') :
  bodyPost Tryz.prog Tryz.f52 Q .ret { tmps:=tmps,defers:=[] } w':=by
 have s6:tmps[6]?.getD undef = v6:=by simpa using t6
 have s7:tmps[7]?.getD undef = v7:=by simpa using t7
 have s8:tmps[8]?.getD undef = v8:=by simpa using t8
 have s9:tmps[9]?.getD undef = v9:=by simpa using t9
 exact bodyPost_ret (v:=.tuple #[v6,v7,v8,v9]) (by simp [results,Tryz.results52,go_sem,s6,s7,s8,s9]) rfl h
set_option maxRecDepth 100000 in
set_option maxHeartbeats 6400000 in
theorem Zuq (a:Option Addr) (cap:Nat) (B:List Nat) (at_ most:Nat) (w:World) (hr:RowB w a cap (bitL B)) (hl:B.length <= 1000) (h0:0 < B.length) (ha:at_ <= nb B) (hm:most <= 900000) :
  Calls Tryz.prog 52 #[.slice a (bitL B).length cap,.int .i64 (at_:Nat),.int .i64 (most:Nat)] w fun e w'=>Below w.heap.size w w' /\ OutB w.heap.size (nb B) (blkG B at_ most) e w':=by
 have hll:(bitL B).length = nb B:=Zbo B
 have HH:=Zh (Zqx a cap B at_ w hr hl ha)
 have HB:=Zh (fun A h=>Zqw a cap B A h hl)
 obtain ⟨R,hR⟩:∃ R,R = blkG B at_ most:=⟨_,rfl⟩
 rw [<- hR]
 rw [Zlg] at hR
 have HOK:Hid (∀ h,headG B at_ = some h -> _):=fun h hh=>Zos hh
 have HR:=Zh hr
 obtain ⟨q,hq⟩:∃ q,w.heap.size = q:=⟨_,rfl⟩
 rw [hq] at HH ⊢
 have HQ:=Zh hq
 have hn8l:nb B <= 8000:=by unfold nb;omega
 have HL0:=Zh h0
 have HL1:=Zh hl
 have HMO:=Zh hm
 have HBL0:Hid (bitL B = bitL B):=rfl
 rw [hll] at HH HB ⊢
 generalize hn8:nb B = n8 at *
 have HN8:=Zh hn8
 have hll8:=Zh hll
 clear hn8 hr ha hll hq hl h0 hm
 generalize hH:headG B at_ = H at *
 cases H with
 | none =>
  have HFN:Hid (R = none):=hR
  clear hR hH HOK HB
  go_enter Tryz.func52,Tryz.ntmps52
  go_wp2_with fail
  refine HH.out.mono ?_
  rintro e wh ⟨hbh,hoh⟩
  obtain ⟨hs,hpl,m,er,hb,a1,a2,a3,n1,c1,n2,c2,n3,c3,rfl,her⟩:=hoh
  have t1:(er == 0) = false:=beq_eq_false_iff_ne.2 her
  have HBH:=Zh hbh
  clear hbh her HH
  go_wp2_with fail
  refine Zbz rfl rfl rfl rfl ⟨HBH.out.alloc (by have:=HBH.out.size;have:=HQ.out;omega) _,?_⟩
  rw [HFN.out]
  exact ⟨_,rfl⟩
 | some h =>
  obtain ⟨hu1,hu2,hu3,hu4,hg1,hg2,ht1,hs1,hp1⟩:=HOK.out h rfl
  obtain ⟨s,m,pl,used,group,tabs,at2⟩:=h
  have HR0:Hid (R = blk7 B most s m pl used group tabs at2):=hR
  clear hR hH HOK
  dsimp only at hu1 hu2 hu3 hu4 hg1 hg2 ht1 hs1 hp1
  have HU1:=Zh hu1
  have HLL8:=Zh (hll8.out)
  have HU2:=Zh hu2
  have HU4:=Zh hu4
  have HG2:=Zh hg2
  clear hu1 hu2 hu4 hg2
  go_enter Tryz.func52,Tryz.ntmps52
  go_wp2_with fail
  refine HH.out.mono ?_
  rintro e wh ⟨hbh,ua,uc,ga,gc,wa,wc,ts,rfl,hown,hgrp,hts,hrow,htab,hat2⟩
  dsimp only at hown hgrp hts hrow hat2
  have HBH:=Zh hbh
  have HOWN:=Zh hown
  have HGRP:=Zh hgrp
  have HTS:=Zh hts
  have HROW:=Zh hrow
  have HTAB:=Zh htab
  clear hown hgrp hts hrow htab hbh HH
  dsimp only
  go_wp2_with fail
  have hpq:q <= wh.heap.size:=by have:=HBH.out.size;have:=HQ.out;omega
  have HS1:=Zh (Zcl wh (.cells #[.int .u32 (s:Nat),.bool (m == 1),.int .i64 (pl:Nat),.slice ua used.length uc,.slice ga group.length gc,.slice wa tabs.length wc] 145) rfl)
  have HB1:=Zh (HBH.out.alloc hpq (.cells #[.int .u32 (s:Nat),.bool (m == 1),.int .i64 (pl:Nat),.slice ua used.length uc,.slice ga group.length gc,.slice wa tabs.length wc] 145))
  have HBX1:=Zh (Zai wh (.cells #[.int .u32 (s:Nat),.bool (m == 1),.int .i64 (pl:Nat),.slice ua used.length uc,.slice ga group.length gc,.slice wa tabs.length wc] 145))
  obtain ⟨p,hp⟩:∃ p,wh.heap.size = p:=⟨_,rfl⟩
  have HPQ:=Zh hpq
  rw [hp] at HS1 hpq ⊢
  have HP:=Zh hp
  clear hp hpq
  generalize wh.alloc (.cells #[.int .u32 (s:Nat),.bool (m == 1),.int .i64 (pl:Nat),.slice ua used.length uc,.slice ga group.length gc,.slice wa tabs.length wc] 145) = W1 at *
  refine (HB.out W1 (HR.out.below (HQ.out ▸ HB1.out))).mono ?_
  rintro e w2 ⟨bg,bc,rfl,hbo,hb2⟩
  have HBI:=Zh (hbo.mono (Nat.zero_le _))
  have HS2:Hid (Six p w2 (.int .u32 (s:Nat)) (.bool (m == 1)) (.int .i64 (pl:Nat)) (.slice ua used.length uc) (.slice ga group.length gc) (.slice wa tabs.length wc)):=Six.below (show Six p W1 _ _ _ _ _ _ from HS1.out) hb2
  have hqW:q <= W1.heap.size:=by have:=HB1.out.size;have:=HQ.out;omega
  have HB2:=Zh (HB1.out.trans (hb2.mono hqW))
  have HBH2:=Zh (show Below wh.heap.size wh w2 from HBX1.out.trans (hb2.mono HBX1.out.size))
  have HOWN2:=Zh (HOWN.out.below HBH2.out)
  have HGRP2:=Zh (HGRP.out.below HBH2.out)
  have HROW2:=Zh (HROW.out.below HBH2.out)
  have HTAB2:Hid (TabsAt w2 (fun _=>False) ts):=HTAB.out.mv HBH2.out.size (fun b h1 _=>HBH2.out.block b h1) (fun b _ h=>h)
  have HTL:Hid (ts.length = tabs.length):=by unfold Hid;rw [<- HTS.out,List.length_map]
  have hqw2:q <= w2.heap.size:=by have:=hb2.size;omega
  have HQW2:=Zh hqw2
  clear HOWN HGRP HROW HTAB HBH2 HBX1 HB1 HBH HB hbo hb2 hqW HS1 hqw2
  have HOWN:=HOWN2
  have HGRP:=HGRP2
  have HROW:=HROW2
  have HTAB:=HTAB2
  clear HOWN2 HGRP2 HROW2 HTAB2
  obtain ⟨e1,he1⟩:∃ e1,used.length + 1 = e1:=⟨_,rfl⟩
  have HE1:=Zh he1
  have u1:IntKind.i64.wrap ((used.length:Int) + 1) = (e1:Int):=by rw [IntWalk.i64_in _ (by omega)];omega
  clear he1
  have HF0:Hid (Rel26 B most s m pl used group tabs R [] at2):=.inr ⟨.inl rfl,HR0.out⟩
  go_wp2_with fail
  go_loopw [1,13] (fun av sv A=>∃ (at3:Nat) (syms:List Nat) (sg:Option Addr) (sc:Nat),av = .int .i64 (at3:Nat) /\ sv = .slice sg syms.length sc /\ Hid (at3 <= n8) /\ Hid (syms.length <= 50 * group.length) /\ Hid (∀ x ∈ syms,x <= 1000) /\ Hid (OwnN 3 .i64 A w2.heap.size sg sc syms) /\ Hid (Below w2.heap.size w2 A) /\ Hid (Rel26 B most s m pl used group tabs R syms at3)) (fun _ sv _=>50 * group.length + 1 - (match sv with | .slice _ k _=>k | _=>0))
  case atStart=>exact ⟨at2,[],none,0,by trivial,by trivial,hat2,Nat.zero_le _,(fun x hx=>by cases hx),OwnN.nil _ _ _ _,Below.refl _ _,HF0.out⟩
  case round =>
   clear HF0 HR0
   obtain ⟨at3,syms,sg,sc,rfl,rfl,HAT,HSL,HSX,HSG,HBA,HF⟩:=hrel
   have HBX:Hid (Below q w wr):=HB2.out.trans (HBA.out.mono HQW2.out)
   have HQWR:Hid (q <= wr.heap.size):=by have:=HBA.out.size;have:=HQW2.out;exact Nat.le_trans this ‹_›
   have HSW:=Zh (HS2.out.below HBA.out)
   have HBA2:=HBA
   have HTABA:Hid (TabsAt wr (fun _=>False) ts):=HTAB.out.mv HBA.out.size (fun b h1 _=>HBA.out.block b h1) (fun b _ h=>h)
   obtain ⟨c0,c1,c2,c3,c4,c5⟩:=Zaj HSW.out
   by_cases hs0:syms = []
   ·have hF:R = (symsG B tabs group (used.length + 1) (50 * group.length + 1 - syms.length) at3 syms).bind fun y=>blk8 B most s m pl used y.1 y.2:=by
     rcases HF.out with ⟨h,_⟩ | ⟨_,h⟩
     ·exact absurd hs0 h
     ·exact h
    have t1:((syms.length:Int) == 0) = true:=by rw [hs0];rfl
    replace HF:=Zh hF
    clear hF hs0
    go_wp2_with fail
    go_quiet (fail)
    replace HBX:=Zh (belDN HBX.out nq)
    replace HBA:=Zh (belDN HBA.out nq)
    replace HQWR:Hid (q <= (wr.drewN nq).heap.size):=HQWR
    replace HSG:Hid (OwnN 3 .i64 (wr.drewN nq) w2.heap.size _ sc syms):=HSG
    replace HTABA:Hid (TabsAt (wr.drewN nq) (fun _=>False) ts):=HTABA
    replace HSW:Hid (Six p (wr.drewN nq) (.int .u32 (s:Nat)) (.bool (m == 1)) (.int .i64 (pl:Nat)) (.slice ua used.length uc) (.slice ga group.length gc) (.slice wa tabs.length wc)):=HSW
    clear c0 c1 c2 c3 c4 c5 HBA2
    generalize wr.drewN nq = wq at *
    have HBA2:=HBA
    obtain ⟨c0,c1,c2,c3,c4,c5⟩:=Zaj HSW.out
    obtain ⟨k,hk⟩:∃ k,syms.length / 50 = k:=⟨_,rfl⟩
    have u5:Int.tdiv (syms.length:Int) 50 = (k:Int):=by rw [<- hk];exact Int.ofNat_tdiv _ _
    have u6:(syms.length:Int) / 50 = (k:Int):=by rw [<- hk];rfl
    have u7:IntKind.i64.wrap (k:Int) = (k:Int):=IntWalk.i64_in _ (by have:=HSL.out;omega)
    have HK:=Zh hk
    by_cases hkg:k = group.length
    ·have t4:((k:Int) == (group.length:Int)) = true:=beq_iff_eq.2 (by omega)
     have HFN:Hid (R = none):=by unfold Hid;rw [HF.out,Zey _ _ _ _ _ _ _ (by unfold nextG;rw [if_neg (by rw [HK.out];omega)])];rfl
     clear hk hkg
     go_wp2_with fail
     refine Zbz rfl rfl rfl rfl ⟨HBX.out,?_⟩
     rw [HFN.out]
     exact ⟨_,rfl⟩
    have t4:((k:Int) == (group.length:Int)) = false:=beq_eq_false_iff_ne.2 (by omega)
    have hkl:k < group.length:=by have:=HSL.out;omega
    obtain ⟨gb,rfl,_,hgb,hgc,_⟩:=(HGRP.out.below HBA2.out).at hkl
    have hx:=HG2.out _ (List.getElem_mem hkl)
    have HXE:Hid (group.getD (syms.length / 50) 0 = group[k]):=by unfold Hid;rw [HK.out];simp [hkl]
    generalize group[k] = x at *
    have hxt:x < ts.length:=by have:=HTL.out;omega
    obtain ⟨tb,toff,rfl,htb,hcl⟩:=(HROW.out.below HBA2.out).at hxt
    have tc0:=hcl 0 _ rfl
    simp only [encSl,Nat.add_zero,Nat.mul_one] at tc0
    obtain ⟨⟨hmy,hwt⟩,_,es,hes1,hes2,_⟩:=HTABA.out _ (List.getElem_mem hxt)
    have HTE:Hid (tabs.getD x [] = (ts[x]).2.2):=by unfold Hid;rw [<- HTS.out];simp [hxt]
    generalize ts[x] = t at *
    obtain ⟨ta,tcp,tl⟩:=t
    dsimp only at tc0 hmy hwt hes1 hes2 HTE
    have hsb:=fun s1 a3 h=>Zkh (bs:=B) (at_:=at3) (s:=s1) (at2:=a3) hmy.1 h
    have htl:=hmy.2
    have HGT:=Zh (Zmf ta bg tcp bc tl B es at3 wq.drew (show RowS encSl wq.drew ta tcp es from hes1) (show RowsTo wq.drew tl tl.length es from hes2) hmy hwt (HBI.out.row.below (show Below w2.heap.size w2 wq.drew from ⟨HBA.out.os,HBA.out.tape,HBA.out.output,HBA.out.size,HBA.out.block⟩)) HL1.out HL0.out (by have:=HN8.out;unfold nb at this;have:=HAT.out;omega))
    rw [HLL8.out] at HGT
    have HNX:Hid (nextG B tabs group syms.length at3 = sym tl B at3):=by unfold Hid nextG;rw [if_pos (by rw [HK.out];exact hkl),HXE.out,HTE.out]
    have HSB:=Zh hsb
    clear hsb hmy hwt hes1 hes2 hcl hk
    go_wp2_with fail
    refine Zcv 11 _ rfl (by kernel_rfl) (by kernel_rfl) ?_
    simp only [List.take_succ_cons,List.take_zero,List.drop_succ_cons,List.drop_zero]
    repeat still_step
    refine wpStill_nil ?_
    go_wp2_with fail
    refine HGT.out.mono ?_
    rintro e w5 ⟨ho5,hb5⟩
    have HB5:=Zh (show Below wq.heap.size wq w5 from ⟨hb5.os,hb5.tape,hb5.output,hb5.size,hb5.block⟩)
    clear hb5 HGT
    generalize hS:sym tl B at3 = S at *
    rcases S with _ | ⟨s1,a3⟩
    ·obtain ⟨m5,hm1,hm2,rfl⟩:=ho5
     have HFN:Hid (R = none):=by unfold Hid;rw [HF.out,Zey _ _ _ _ _ _ _ HNX.out];rfl
     go_wp2_with fail
     repeat still_step
     refine wpStill_nil ?_
     go_wp2_with fail
     refine Zbz rfl rfl rfl rfl ⟨HBX.out.trans (HB5.out.mono HQWR.out),?_⟩
     rw [HFN.out]
     exact ⟨_,rfl⟩
    obtain rfl:e = _:=ho5
    obtain ⟨hs1,hs2⟩:=HSB.out s1 a3 rfl
    have HS2:=Zh hs2
    have hs1000:s1 <= 1000:=by omega
    have HSE:=Zh (HSG.out.below HB5.out)
    have HB25:=Zh (HBA.out.trans (HB5.out.mono HBA.out.size))
    have HW25:Hid (w2.heap.size <= w5.heap.size):=HB25.out.size
    have hsl2:syms.length + 1 <= 2000000:=by have:=HSL.out;omega
    clear hs2
    go_wp2_with fail
    repeat still_step
    refine wpStill_nil ?_
    go_wp2_with (at_builtin;refine app1At (y:=s1) Zax rfl (.tmp 76) (.tmp 78) rfl rfl HSE.out rfl (by omega) (by omega) (by omega) (by omega) HW25.out ?_;intro a7 c7 w7 hown7 hg7 hb7 hat7;have HOWN7:=Zh hown7;have HB7:=Zh hb7;clear hown7 hg7 hb7 hat7)
    go_roundw
    case rel =>
     have h50:syms.length + 1 <= 50 * group.length:=by have:=HK.out;omega
     refine ⟨a3,syms ++ [s1],a7,c7,by trivial,by rw [List.length_append];rfl,?_,?_,?_,HOWN7.out,HB25.out.trans HB7.out,?_⟩
     ·have h3:=HS2.out (by have:=HN8.out;unfold nb at this;have:=HAT.out;omega)
      have:=HN8.out;unfold nb at this
      show a3 <= n8
      omega
     ·show (syms ++ [s1]).length <= _
      rw [List.length_append];exact h50
     ·intro y hy
      rcases List.mem_append.1 hy with hy | hy
      ·exact HSX.out y hy
      ·rw [List.mem_singleton.1 hy];exact hs1000
     ·exact rel26 HF.out HNX.out (by omega) rfl
    case measure=>simp [intOf];omega
   obtain ⟨l1,hl1⟩:∃ l1,syms.length = l1 + 1:=⟨syms.length - 1,by have:=List.length_pos_iff.2 hs0;omega⟩
   obtain ⟨sb,rfl,_,hsb,hsc,_⟩:=HSG.out.at (i:=l1) (by omega)
   have t1:((syms.length:Int) == 0) = false:=beq_eq_false_iff_ne.2 (by omega)
   have u2:IntKind.i64.wrap ((syms.length:Int) - 1) = (l1:Int):=by rw [IntWalk.i64_in _ (by have:=HSL.out;omega)];omega
   have HV:Hid (syms.getD (syms.length - 1) 0 = syms[l1]'(by omega)):=by unfold Hid;simp [hl1]
   have hv:=HSX.out _ (List.getElem_mem (show l1 < syms.length by omega))
   have u3:(l1:Int) < (syms.length:Int):=by omega
   generalize syms[l1]'(by omega) = v at *
   have HLL1:=Zh hl1
   clear hl1
   by_cases hve:v = e1
   ·have t2:((v:Int) == (e1:Int)) = true:=beq_iff_eq.2 (by omega)
    have t3:((v:Int) != (e1:Int)) = false:=by rw [hve];simp
    have HF1:Hid (R = blk8 B most s m pl used syms at3):=by
     rcases HF.out with ⟨_,_,h⟩ | ⟨h,_⟩
     ·exact h
     ·rcases h with h | h
      ·exact absurd h hs0
      ·exact absurd (by rw [HV.out,hve,HE1.out]) h
    clear hve hs0
    go_wp2_with fail
    go_quiet (fail)
    replace HBX:=Zh (belDN HBX.out nq)
    replace HBA:=Zh (belDN HBA.out nq)
    replace HQWR:Hid (q <= (wr.drewN nq).heap.size):=HQWR
    replace HSG:Hid (OwnN 3 .i64 (wr.drewN nq) w2.heap.size _ sc syms):=HSG
    replace HTABA:Hid (TabsAt (wr.drewN nq) (fun _=>False) ts):=HTABA
    replace HSW:Hid (Six p (wr.drewN nq) (.int .u32 (s:Nat)) (.bool (m == 1)) (.int .i64 (pl:Nat)) (.slice ua used.length uc) (.slice ga group.length gc) (.slice wa tabs.length wc)):=HSW
    clear c0 c1 c2 c3 c4 c5 HBA2
    generalize wr.drewN nq = wq at *
    have HBA2:=HBA
    obtain ⟨c0,c1,c2,c3,c4,c5⟩:=Zaj HSW.out
    have hpw:q <= wq.heap.size:=HQWR.out
    have HSR:=Zh HSG.out.row
    have HUW:=Zh (HOWN.out.below HBA.out)
    have HG22:=Zh (Zuk ua (some ⟨sb,0,none⟩) uc sc used syms most wq HUW.out.row HSR.out HU1.out HU2.out hu3 HMO.out (by have:=HSL.out;omega) HSX.out)
    obtain ⟨F,hF⟩:∃ F,frontG used syms most = F:=⟨_,rfl⟩
    rw [hF] at HG22
    have HF2:Hid (R = F.bind fun f=>(backG f pl).bind fun b=>some (if m = 1 then masked b else b,s,at3)):=by unfold Hid;rw [HF1.out];unfold blk8;rw [hF]
    have HFO:Hid (∀ f,F = some f -> f.length <= most /\ ∀ x ∈ f,x ∈ used):=fun f hf=>Zfs HU1.out (hF.trans hf)
    clear hF
    go_wp2_with fail
    refine HG22.out.mono ?_
    rintro e w6 ⟨hb6,ho6⟩
    have HB6:=Zh hb6
    have HBX6:=Zh (HBX.out.trans (hb6.mono hpw))
    have HSW6:=Zh (HSW.out.below hb6)
    clear hb6 HG22 c0 c1 c2 c3 c4 c5
    obtain ⟨c0,c1,c2,c3,c4,c5⟩:=Zaj HSW6.out
    rcases F with _ | f
    ·obtain rfl:e = _:=ho6
     have HFN:Hid (R = none):=HF2.out
     go_wp2_with fail
     refine Zbz rfl rfl rfl rfl ⟨HBX6.out,?_⟩
     rw [HFN.out]
     exact ⟨_,rfl⟩
    obtain ⟨fg,fc,rfl,hof⟩:=ho6
    obtain ⟨hfl,hfm⟩:=HFO.out f rfl
    have HFM:Hid (∀ x ∈ f,x < 256):=fun x hx=>HU4.out x (hfm x hx)
    have HOF:=Zh hof.row
    have hmo:=HMO.out
    have HB21:=Zh (Zqt fg fc f pl w6 HOF.out HFM.out (by omega))
    obtain ⟨K2,hK2⟩:∃ K2,backG f pl = K2:=⟨_,rfl⟩
    rw [hK2] at HB21
    have HF3:Hid (R = K2.bind fun b=>some (if m = 1 then masked b else b,s,at3)):=by unfold Hid;rw [HF2.out];show (backG f pl).bind _ = _;rw [hK2]
    have HBO:Hid (∀ r,K2 = some r -> r.length = f.length /\ ∀ x ∈ r,x < 256):=fun r hr=>Zhn HFM.out (hK2.trans hr)
    have hq6:q <= w6.heap.size:=by have:=HB6.out.size;omega
    clear hK2 hof hfm hmo
    go_wp2_with fail
    refine HB21.out.mono ?_
    rintro e w8 ⟨hb8,ho8⟩
    have HBX8:=Zh (HBX6.out.trans (hb8.mono hq6))
    have HSW8:=Zh (HSW6.out.below hb8)
    have hq8:q <= w8.heap.size:=by have:=hb8.size;omega
    clear hb8 HB21 c0 c1 c2 c3 c4 c5
    obtain ⟨c0,c1,c2,c3,c4,c5⟩:=Zaj HSW8.out
    rcases K2 with _ | r
    ·obtain rfl:e = _:=ho8
     have HFN:Hid (R = none):=HF3.out
     go_wp2_with fail
     refine Zbz rfl rfl rfl rfl ⟨HBX8.out,?_⟩
     rw [HFN.out]
     exact ⟨_,rfl⟩
    obtain ⟨rg,rc,rfl,hor⟩:=ho8
    obtain ⟨hrl,hrm⟩:=HBO.out r rfl
    have HRM:=Zh hrm
    have HOR:=Zh (hor.mono hq6)
    have hr9:r.length <= 1000000:=by have:=HMO.out;omega
    clear hrm hor hrl
    by_cases hm1:m = 1
    ·have b1:(m == 1) = true:=by rw [hm1];rfl
     rw [b1] at c1
     have HFS:Hid (R = some (masked r,s,at3)):=by unfold Hid;rw [HF3.out];show some (if m = 1 then masked r else r,s,at3) = _;rw [if_pos hm1]
     have HMA:=Zh (Zhi rg rc r w8 HOR.out.row HRM.out hr9)
     clear hm1 b1
     go_wp2_with fail
     refine HMA.out.mono ?_
     rintro e w9 ⟨mg,mc,rfl,hom,hb9⟩
     have HBX9:=Zh (HBX8.out.trans (hb9.mono hq8))
     have HSW9:=Zh (HSW8.out.below hb9)
     have HOM:=Zh (hom.mono hq8)
     clear hb9 HMA hom c0 c1 c2 c3 c4 c5
     obtain ⟨c0,c1,c2,c3,c4,c5⟩:=Zaj HSW9.out
     have HML:Hid ((masked r).length = r.length):=by unfold Hid masked;rw [Zbc]
     go_wp2_with fail
     go_quiet (fail)
     go_wp2_with fail
     refine Zbz rfl rfl rfl rfl ⟨belDN HBX9.out _,?_⟩
     rw [HFS.out]
     refine ⟨mg,mc,?_,(show OwnN 5 .u8 (w9.drewN _) q mg mc (masked r) from HOM.out),HAT.out⟩
     rw [HML.out]
     rfl
    ·have b1:(m == 1) = false:=by simpa using hm1
     rw [b1] at c1
     have HFS:Hid (R = some (r,s,at3)):=by unfold Hid;rw [HF3.out];show some (if m = 1 then masked r else r,s,at3) = _;rw [if_neg hm1]
     clear hm1 b1
     go_wp2_with fail
     go_quiet (fail)
     go_wp2_with fail
     refine Zbz rfl rfl rfl rfl ⟨belDN HBX8.out _,?_⟩
     rw [HFS.out]
     exact ⟨rg,rc,rfl,(show OwnN 5 .u8 (w8.drewN _) q rg rc r from HOR.out),HAT.out⟩
   have t2:((v:Int) == (e1:Int)) = false:=beq_eq_false_iff_ne.2 (by omega)
   have t3:((v:Int) != (e1:Int)) = true:=by simp;omega
   have hF:R = (symsG B tabs group (used.length + 1) (50 * group.length + 1 - syms.length) at3 syms).bind fun y=>blk8 B most s m pl used y.1 y.2:=by
    rcases HF.out with ⟨_,h,_⟩ | ⟨_,h⟩
    ·exact absurd (by rw [<- HV.out,h,HE1.out]) hve
    ·exact h
   replace HF:=Zh hF
   clear hF hs0 hve
   go_wp2_with fail
   go_quiet (fail)
   replace HBX:=Zh (belDN HBX.out nq)
   replace HBA:=Zh (belDN HBA.out nq)
   replace HQWR:Hid (q <= (wr.drewN nq).heap.size):=HQWR
   replace HSG:Hid (OwnN 3 .i64 (wr.drewN nq) w2.heap.size _ sc syms):=HSG
   replace HTABA:Hid (TabsAt (wr.drewN nq) (fun _=>False) ts):=HTABA
   replace HSW:Hid (Six p (wr.drewN nq) (.int .u32 (s:Nat)) (.bool (m == 1)) (.int .i64 (pl:Nat)) (.slice ua used.length uc) (.slice ga group.length gc) (.slice wa tabs.length wc)):=HSW
   clear c0 c1 c2 c3 c4 c5 HBA2
   generalize wr.drewN nq = wq at *
   have HBA2:=HBA
   obtain ⟨c0,c1,c2,c3,c4,c5⟩:=Zaj HSW.out
   obtain ⟨k,hk⟩:∃ k,syms.length / 50 = k:=⟨_,rfl⟩
   have u5:Int.tdiv (syms.length:Int) 50 = (k:Int):=by rw [<- hk];exact Int.ofNat_tdiv _ _
   have u6:(syms.length:Int) / 50 = (k:Int):=by rw [<- hk];rfl
   have u7:IntKind.i64.wrap (k:Int) = (k:Int):=IntWalk.i64_in _ (by have:=HSL.out;omega)
   have HK:=Zh hk
   by_cases hkg:k = group.length
   ·have t4:((k:Int) == (group.length:Int)) = true:=beq_iff_eq.2 (by omega)
    have HFN:Hid (R = none):=by unfold Hid;rw [HF.out,Zey _ _ _ _ _ _ _ (by unfold nextG;rw [if_neg (by rw [HK.out];omega)])];rfl
    clear hk hkg
    go_wp2_with fail
    refine Zbz rfl rfl rfl rfl ⟨HBX.out,?_⟩
    rw [HFN.out]
    exact ⟨_,rfl⟩
   have t4:((k:Int) == (group.length:Int)) = false:=beq_eq_false_iff_ne.2 (by omega)
   have hkl:k < group.length:=by have:=HSL.out;omega
   obtain ⟨gb,rfl,_,hgb,hgc,_⟩:=(HGRP.out.below HBA2.out).at hkl
   have hx:=HG2.out _ (List.getElem_mem hkl)
   have HXE:Hid (group.getD (syms.length / 50) 0 = group[k]):=by unfold Hid;rw [HK.out];simp [hkl]
   generalize group[k] = x at *
   have hxt:x < ts.length:=by have:=HTL.out;omega
   obtain ⟨tb,toff,rfl,htb,hcl⟩:=(HROW.out.below HBA2.out).at hxt
   have tc0:=hcl 0 _ rfl
   simp only [encSl,Nat.add_zero,Nat.mul_one] at tc0
   obtain ⟨⟨hmy,hwt⟩,_,es,hes1,hes2,_⟩:=HTABA.out _ (List.getElem_mem hxt)
   have HTE:Hid (tabs.getD x [] = (ts[x]).2.2):=by unfold Hid;rw [<- HTS.out];simp [hxt]
   generalize ts[x] = t at *
   obtain ⟨ta,tcp,tl⟩:=t
   dsimp only at tc0 hmy hwt hes1 hes2 HTE
   have hsb:=fun s1 a3 h=>Zkh (bs:=B) (at_:=at3) (s:=s1) (at2:=a3) hmy.1 h
   have htl:=hmy.2
   have HGT:=Zh (Zmf ta bg tcp bc tl B es at3 wq.drew (show RowS encSl wq.drew ta tcp es from hes1) (show RowsTo wq.drew tl tl.length es from hes2) hmy hwt (HBI.out.row.below (show Below w2.heap.size w2 wq.drew from ⟨HBA.out.os,HBA.out.tape,HBA.out.output,HBA.out.size,HBA.out.block⟩)) HL1.out HL0.out (by have:=HN8.out;unfold nb at this;have:=HAT.out;omega))
   rw [HLL8.out] at HGT
   have HNX:Hid (nextG B tabs group syms.length at3 = sym tl B at3):=by unfold Hid nextG;rw [if_pos (by rw [HK.out];exact hkl),HXE.out,HTE.out]
   have HSB:=Zh hsb
   clear hsb hmy hwt hes1 hes2 hcl hk
   go_wp2_with fail
   refine Zcv 11 _ rfl (by kernel_rfl) (by kernel_rfl) ?_
   simp only [List.take_succ_cons,List.take_zero,List.drop_succ_cons,List.drop_zero]
   repeat still_step
   refine wpStill_nil ?_
   go_wp2_with fail
   refine HGT.out.mono ?_
   rintro e w5 ⟨ho5,hb5⟩
   have HB5:=Zh (show Below wq.heap.size wq w5 from ⟨hb5.os,hb5.tape,hb5.output,hb5.size,hb5.block⟩)
   clear hb5 HGT
   generalize hS:sym tl B at3 = S at *
   rcases S with _ | ⟨s1,a3⟩
   ·obtain ⟨m5,hm1,hm2,rfl⟩:=ho5
    have HFN:Hid (R = none):=by unfold Hid;rw [HF.out,Zey _ _ _ _ _ _ _ HNX.out];rfl
    go_wp2_with fail
    repeat still_step
    refine wpStill_nil ?_
    go_wp2_with fail
    refine Zbz rfl rfl rfl rfl ⟨HBX.out.trans (HB5.out.mono HQWR.out),?_⟩
    rw [HFN.out]
    exact ⟨_,rfl⟩
   obtain rfl:e = _:=ho5
   obtain ⟨hs1,hs2⟩:=HSB.out s1 a3 rfl
   have HS2:=Zh hs2
   have hs1000:s1 <= 1000:=by omega
   have HSE:=Zh (HSG.out.below HB5.out)
   have HB25:=Zh (HBA.out.trans (HB5.out.mono HBA.out.size))
   have HW25:Hid (w2.heap.size <= w5.heap.size):=HB25.out.size
   have hsl2:syms.length + 1 <= 2000000:=by have:=HSL.out;omega
   clear hs2
   go_wp2_with fail
   repeat still_step
   refine wpStill_nil ?_
   go_wp2_with (at_builtin;refine app1At (y:=s1) Zax rfl (.tmp 76) (.tmp 78) rfl rfl HSE.out rfl (by omega) (by omega) (by omega) (by omega) HW25.out ?_;intro a7 c7 w7 hown7 hg7 hb7 hat7;have HOWN7:=Zh hown7;have HB7:=Zh hb7;clear hown7 hg7 hb7 hat7)
   go_roundw
   case rel =>
    have h50:syms.length + 1 <= 50 * group.length:=by have:=HK.out;omega
    refine ⟨a3,syms ++ [s1],a7,c7,by trivial,by rw [List.length_append];rfl,?_,?_,?_,HOWN7.out,HB25.out.trans HB7.out,?_⟩
    ·have h3:=HS2.out (by have:=HN8.out;unfold nb at this;have:=HAT.out;omega)
     have:=HN8.out;unfold nb at this
     show a3 <= n8
     omega
    ·show (syms ++ [s1]).length <= _
     rw [List.length_append];exact h50
    ·intro y hy
     rcases List.mem_append.1 hy with hy | hy
     ·exact HSX.out y hy
     ·rw [List.mem_singleton.1 hy];exact hs1000
    ·exact rel26 HF.out HNX.out (by omega) rfl
   case measure=>simp [intOf];omega
end Go.Proofs.YtnkpnjnfddjfpaaGreat

namespace Go.Proofs.YtnkpnjnfddjfpaaGreat
open Go.RowKit M01 M02 M10 M27
def Out27 (n:Nat) (R:Option (List Nat × Nat)) (e:Ending):Prop :=
 match R with
 | some (out,at2)=>e = .returned (.tuple #[.string (strOf out),.int .i64 (at2:Nat),.bool true]) /\ at2 <= n
 | none=>∃ m:Int,e = .returned (.tuple #[.string (strOf []),.int .i64 m,.bool false])
set_option maxRecDepth 100000 in
set_option maxHeartbeats 1600000 in
theorem Zqz (a:Option Addr) (cap:Nat) (B:List Nat) (at_ n:Nat) (w:World) (hr:RowB w a cap (bitL B)) (hl:B.length <= 1000) (ha:at_ <= 8 * B.length) (hn:n <= 100) :
  Calls Tryz.prog 49 #[.slice a (bitL B).length cap,.int .i64 (at_:Nat),.int .i64 (n:Nat)] w fun e w'=>Below w.heap.size w w' /\ Out27 (8 * B.length) (bytesG B n at_ []) e:=by
 have HG:=Zh (fun at2 A (h:Below w.heap.size w A) (h2:at2 <= 8 * B.length)=>Zfz a cap B at2 8 A (hr.below h) hl h2 (by decide))
 have HCV:=Zh (fun (x:Nat) (A:World)=>Zbs (P:=Tryz.prog) (src:=22) (dst:=9) (e:=5) (w:=A.alloc (.cells #[.int .u8 (x:Nat)] 5)) (a:=some ⟨A.heap.size,0,none⟩) (cap:=1) (n:=1) (l:=[x]) Tryz.underlying22 Tryz.underlying5 Tryz.underlying9 rfl (OwnN.lit (k:=.u8) 5 A A.heap.size [x] #[.int .u8 (x:Nat)] A.heap.size rfl rfl (Nat.le_refl _) (by simp [maxLen])).row)
 obtain ⟨P,hP⟩:∃ P,P = bytesG B n at_ []:=⟨_,rfl⟩
 rw [<- hP]
 have HP:Hid (P = bytesG B (n - 0) at_ []):=hP
 obtain ⟨N,hN⟩:∃ N,8 * B.length = N:=⟨_,rfl⟩
 have hN8:N <= 8000:=by omega
 have HNB:Hid (nb B = N):=hN
 rw [hN] at HG ha ⊢
 obtain ⟨ll,hll⟩:∃ ll,(bitL B).length = ll:=⟨_,rfl⟩
 rw [hll] at HG ⊢
 clear hr hP hN hll
 go_enter Tryz.func49,Tryz.ntmps49
 go_wp2_with fail
 go_loopw [1,9,10] (fun av x iv A=>∃ (i at2:Nat) (o:List Nat),i <= n /\ iv = .int .i64 (i:Nat) /\ av = .int .i64 (at2:Nat) /\ x = .string (strOf o) /\ at2 <= N /\ o.length = i /\ Below w.heap.size w A /\ Hid (P = bytesG B (n - i) at2 o)) (fun _ _ iv _=>n - (intOf iv).toNat)
 case atStart=>exact ⟨0,at_,[],Nat.zero_le _,rfl,rfl,rfl,ha,rfl,Below.refl _ _,HP.out⟩
 case round =>
  clear HP
  obtain ⟨i,at2,o,hi,rfl,rfl,rfl,hat2,hol,hbe,HF⟩:=hrel
  have HOL:=Zh hol
  clear hol
  have HE:=Zh hbe
  clear hbe
  by_cases hlt:i < n
  ·have t0:decide (i < n) = true:=by simp;omega
   obtain ⟨m,hm⟩:∃ m,n - i = m + 1:=⟨n - i - 1,by omega⟩
   have HM:=Zh (show n - (i + 1) = m by omega)
   rw [hm] at HF
   have HF1:Hid (P = (numG B at2 8).bind fun p=>bytesG B m p.2 (o ++ [p.1])):=HF
   unfold numG at HF1
   rw [HNB.out] at HF1
   clear hm HF
   have HGX:=Zh (HG.out at2 wr HE.out hat2)
   by_cases h8:at2 + 8 <= N
   ·rw [if_pos h8] at HF1 HGX
    have hx:=Zbk B at2 8
    have HF2:Hid (P = bytesG B m (at2 + 8) (o ++ [numH B at2 8])):=HF1
    generalize numH B at2 8 = x at *
    have u1:(x:Int) % 256 = (x:Int):=by omega
    have hcv:=HCV.out x wr
    have happ:strOf o ++ strOf [x] = strOf (o ++ [x]):=(Zek o [x]).symm
    have hsz:¬ (9223372036854775807 < (strOf o).size + (strOf [x]).size):=by rw [Zby,Zby];have:=HOL.out;simp;omega
    have hat8:((at2 + 8:Nat):Int) = (at2:Int) + 8:=by omega
    have HBX:=Zh (HE.out.trans ((Zai wr (.cells #[.int .u8 (x:Nat)] 5)).mono HE.out.size))
    clear HF1
    go_wp2_with fail
    refine HGX.out.mono ?_
    rintro e w1 ⟨rfl,rfl⟩
    go_wp2_with fail
    go_roundw
    case rel=>exact ⟨i + 1,at2 + 8,o ++ [x],by omega,by go_num,by first | trivial | exact Zbg (by omega),by first | trivial | rw [happ],h8,by rw [List.length_append,HOL.out];rfl,HBX.out,by unfold Hid;rw [HM.out];exact HF2.out⟩
    case measure=>simp [intOf];omega
   ·rw [if_neg h8] at HF1 HGX
    have HPN:Hid (P = none):=HF1
    clear HF1
    go_wp2_with fail
    refine HGX.out.mono ?_
    rintro e w1 ⟨rfl,rfl⟩
    go_wp2_with fail
    go_ret3
    refine ⟨HE.out,?_⟩
    rw [HPN.out]
    exact ⟨_,rfl⟩
  ·obtain rfl:i = n:=by omega
   have t0:decide (i < i) = false:=by simp
   have HPE:Hid (P = some (o,at2)):=by unfold Hid;rw [HF.out,Nat.sub_self];rfl
   go_wp2_with fail
   go_ret3
   refine ⟨HE.out,?_⟩
   rw [HPE.out]
   exact ⟨rfl,hat2⟩
end Go.Proofs.YtnkpnjnfddjfpaaGreat

namespace Go.Proofs.YtnkpnjnfddjfpaaGreat.M27
theorem Zvb (l:List Nat) (p:Nat):sayL l p 0 = say l:=by
 cases l with
 | nil=>rfl
 | cons c r=>simp [say,sayL]
theorem Zdk (c:Nat) (r:List Nat) (p run:Nat):sayL (c :: r) p run = if run = 4 then List.replicate c p ++ sayL r c 0 else c :: sayL r c (if run = 0 \/ c = p then run + 1 else 1):=rfl
theorem Zpg (c:Nat) (r:List Nat):∀ n k,k + n <= 4 -> 1 <= k -> sayL (List.replicate n c ++ r) c k = List.replicate n c ++ sayL r c (k + n)
 | 0,k,_,_=>rfl
 | n + 1,k,h,h1=>by
  rw [List.replicate_succ,List.cons_append,List.cons_append,Zdk,if_neg (by omega),if_pos (.inr rfl),Zpg c r n (k + 1) (by omega) (by omega),Nat.add_assoc,Nat.add_comm 1 n]
theorem Zoc (c n:Nat) (r:List Nat) (h1:1 <= n) (h4:n <= 4):say (List.replicate n c ++ r) = List.replicate n c ++ sayL r c n:=by
 obtain ⟨m,rfl⟩:∃ m,n = m + 1:=⟨n - 1,by omega⟩
 rw [List.replicate_succ,List.cons_append,List.cons_append]
 show sayL _ 0 0 = _
 rw [Zdk,if_neg (by decide),if_pos (.inl rfl),Zpg c r m 1 (by omega) (by omega),Nat.add_comm 1 m]
theorem Zvc (c n:Nat) (r:List Nat) (h1:1 <= n) (h4:n < 4) (hr:∀ d r',r = d :: r' -> d ≠ c):say (List.replicate n c ++ r) = List.replicate n c ++ say r:=by
 rw [Zoc c n r h1 (by omega)]
 congr 1
 cases r with
 | nil=>rfl
 | cons d r' =>
  have:=hr d r' rfl
  show sayL _ c n = sayL _ 0 0
  rw [Zdk,Zdk,if_neg (by omega),if_neg (by omega),if_neg (by decide),if_pos (.inl rfl)]
theorem Zhz (c x:Nat) (r:List Nat):say (List.replicate 4 c ++ x :: r) = List.replicate 4 c ++ (List.replicate x c ++ say r):=by
 rw [Zoc c 4 _ (by omega) (by omega)]
 congr 1
 rw [Zdk,if_pos rfl,Zvb]
theorem Zgf (c:Nat):say (List.replicate 4 c) = List.replicate 4 c:=by
 have:=Zoc c 4 [] (by omega) (by omega)
 simpa [sayL] using this
theorem Zge (K:Nat) (hK:1 <= K):∀ (l:List Nat) p run,(∀ x ∈ l,x <= K) -> (sayL l p run).length <= K * l.length
 | [],p,run,_=>by simp [sayL]
 | c :: r,p,run,h=>by
  unfold sayL
  have h1:=h c (by simp)
  have h2:=fun q k=>Zge K hK r q k (fun x hx=>h x (by simp [hx]))
  split
  ·simp only [List.length_append,List.length_replicate,List.length_cons,Nat.mul_add]
   have:=h2 c 0
   omega
  ·simp only [List.length_cons,Nat.mul_add]
   have:=h2 c (if run = 0 \/ c = p then run + 1 else 1)
   omega
theorem Zob (l:List Nat) (h:∀ x ∈ l,x < 256):(say l).length <= 255 * l.length:=Zge 255 (by decide) l 0 0 (fun x hx=>by have:=h x hx;omega)
theorem Zva (K:Nat):∀ (l:List Nat) p run,p < K -> (∀ x ∈ l,x < K) -> ∀ x ∈ sayL l p run,x < K
 | [],p,run,_,_=>by simp [sayL]
 | c :: r,p,run,hp,h=>by
  unfold sayL
  have h1:=h c (by simp)
  have h2:=fun q k hq=>Zva K r q k hq (fun x hx=>h x (by simp [hx]))
  intro x hx
  split at hx
  ·rcases List.mem_append.1 hx with h3 | h3
   ·rw [List.eq_of_mem_replicate h3];exact hp
   ·exact h2 c 0 h1 x h3
  ·rcases List.mem_cons.1 hx with rfl | h3
   ·exact h1
   ·exact h2 c _ h1 x h3
theorem Zvd (l:List Nat) (h:∀ x ∈ l,x < 256):∀ x ∈ say l,x < 256:=Zva 256 l 0 0 (by decide) h
theorem Zfp (p:List Nat) (c:Nat):∀ n i,i + n <= p.length -> (∀ j,j < n -> p.getD (i + j) 0 = c) -> p.drop i = List.replicate n c ++ p.drop (i + n)
 | 0,i,_,_=>rfl
 | n + 1,i,h,hj=>by
  have h0:=hj 0 (by omega)
  rw [Nat.add_zero,List.getD_eq_getElem?_getD,List.getElem?_eq_getElem (by omega:i < p.length)] at h0
  rw [List.drop_eq_getElem_cons (by omega:i < p.length),Zfp p c n (i + 1) (by omega) (fun j h=>by have:=hj (j + 1) (by omega);rwa [show i + (j + 1) = i + 1 + j by omega] at this),List.replicate_succ,List.cons_append,show i + 1 + n = i + (n + 1) by omega]
  congr 1
end Go.Proofs.YtnkpnjnfddjfpaaGreat.M27
namespace Go.Proofs.YtnkpnjnfddjfpaaGreat
open Go.RowKit M01 M02 M27
set_option maxRecDepth 100000 in
set_option maxHeartbeats 3200000 in
theorem Zmh (a:Option Addr) (cap:Nat) (p:List Nat) (w:World) (hr:RowN .u8 w a cap p) (h256:∀ x ∈ p,x < 256) (hl:p.length <= 1000000) :
  Calls Tryz.prog 53 #[.slice a p.length cap] w fun e w'=>∃ g c,e = .returned (.slice g (say p).length c) /\ OwnN 5 .u8 w' w.heap.size g c (say p) /\ Below w.heap.size w w':=by
 have hsl:=Zob p h256
 have HR:=Zh hr
 have H256:=Zh h256
 obtain ⟨q,hq⟩:∃ q,w.heap.size = q:=⟨_,rfl⟩
 rw [hq]
 have HQ:=Zh hq
 clear hr h256
 obtain ⟨S,hS⟩:∃ S,S = say p:=⟨_,rfl⟩
 rw [<- hS] at hsl ⊢
 have HSL:Hid (S.length <= 255000000):=by unfold Hid;omega
 have HS:Hid (S = [] ++ say (p.drop 0)):=by unfold Hid;simpa using hS
 have HPL:=Zh hl
 clear hS hsl
 go_enter Tryz.func53,Tryz.ntmps53
 go_wp2
 go_loopw [3,4] (fun x iv A=>∃ (i:Nat) (o:List Nat) (g:Option Addr) (c:Nat),i <= p.length /\ iv = .int .i64 (i:Nat) /\ x = .slice g o.length c /\ OwnN 5 .u8 A q g c o /\ Below q w A /\ Hid (S = o ++ say (p.drop i))) (fun x iv _=>p.length - (intOf iv).toNat)
 case atStart=>exact ⟨0,[],none,0,by omega,rfl,rfl,OwnN.nil _ _ _ _,Below.refl _ _,HS.out⟩
 case round =>
  clear hq HS
  obtain ⟨i,o,g,c,hi,rfl,rfl,hown,hbe,HF⟩:=hrel
  have HO:=Zh hown
  have HE:=Zh hbe
  clear hown hbe
  by_cases hlt:i < p.length
  ·have t0:decide (i < p.length) = true:=by simp;omega
   obtain ⟨y,hy⟩:∃ y,p.getD i 0 = y:=⟨_,rfl⟩
   have hPA:∀ k,k < p.length -> ∀ A,Below q w A -> ∃ b off,a = some ⟨b,off,none⟩ /\ A.cell? ⟨b,off + k,none⟩ = some (.int .u8 (p.getD k 0:Nat)):=fun k hk A hA=>by
    obtain ⟨b,off,h1,_,h2⟩:=(HR.out.below (HQ.out ▸ hA)).at hk
    refine ⟨b,off,h1,?_⟩
    rw [List.getD_eq_getElem?_getD,List.getElem?_eq_getElem hk]
    exact h2
   have HPA:=Zh hPA
   obtain ⟨b,off,rfl,_⟩:=hPA i hlt _ HE.out
   have HC:Hid (∀ k,k < p.length -> ∀ A,Below q w A -> A.cell? ⟨b,off + k,none⟩ = some (.int .u8 (p.getD k 0:Nat))):=fun k hk A hA=>by
    obtain ⟨b',off',h1,h2⟩:=HPA.out k hk A hA
    simp only [Option.some.injEq,Addr.mk.injEq,and_true] at h1
    obtain ⟨rfl,rfl⟩:=h1
    exact h2
   have hcap:=HR.out.1
   have hcap2:=HR.out.2.1.1
   clear hPA HPA
   go_wp2
   go_loopw [5] (fun nv A=>∃ n:Nat,nv = .int .i64 (n:Nat) /\ n <= 4 /\ i + n <= p.length /\ (∀ j,j < n -> p.getD (i + j) 0 = p.getD i 0) /\ Below q w A /\ OwnN 5 .u8 A q g c o) (fun nv _=>5 - (intOf nv).toNat)
   case atStart=>exact ⟨0,rfl,by omega,by omega,fun j hj=>by omega,HE.out,HO.out⟩
   case round =>
    clear HO HE
    obtain ⟨n,rfl,hn4,hin,hall,hbe,hown⟩:=hrel
    have HALL:=Zh hall
    have HE:=Zh hbe
    have HO:=Zh hown
    clear hall hbe hown
    have hw1:i + n < 9223372036854775807:=by omega
    obtain ⟨m,hm⟩:∃ m,i + n = m:=⟨_,rfl⟩
    have hmi:(i:Int) + (n:Int) = (m:Int):=by omega
    have hmw:IntKind.i64.wrap ((i:Int) + (n:Int)) = (m:Int):=by rw [hmi];exact IntWalk.i64_in _ (by omega)
    have HM:=Zh hm
    have HIN:=Zh hin
    have HI:=Zh hlt
    have cy:=HC.out i hlt _ HE.out
    rw [hy] at cy
    have key:(n = 4 \/ m = p.length \/ (m < p.length /\ p.getD m 0 ≠ y)) \/ (n < 4 /\ m < p.length /\ p.getD m 0 = y):=by omega
    have HKEY:=Zh key
    clear key
    have hin2:m <= p.length:=by omega
    clear hin hm
    rcases HKEY.out with hstop | ⟨h4,hml,he⟩
    ·rcases hstop with rfl | hstop
     ·rw [show ((4:Nat):Int) = 4 from rfl]
      have HM2:=Zh hin2
      have HY:=Zh hy
      have HSD:Hid (p.drop i = List.replicate 4 y ++ p.drop m):=by
       unfold Hid
       rw [Zfp p y 4 i HIN.out (fun j hj=>by rw [HALL.out j hj,hy]),HM.out]
      have HSF:Hid (∃ r,S = o ++ (List.replicate 4 y ++ r)):=by
       unfold Hid
       cases hd:p.drop m with
       | nil=>exact ⟨[],by rw [HF.out,HSD.out,hd,List.append_nil,Zgf]⟩
       | cons x r=>exact ⟨_,by rw [HF.out,HSD.out,hd,Zhz]⟩
      obtain ⟨rS,hrS⟩:=HSF.out
      replace HSF:=Zh hrS
      have t1:decide ((4:Int) < 4) = false:=rfl
      clear HKEY hy hrS
      go_wp2_with fail
      go_quiet (fail)
      have HO2:Hid (OwnN 5 .u8 (wr.drewN nq) q g c o):=HO.out
      have HE2:Hid (Below q w (wr.drewN nq)):=belDN HE.out _
      clear HO HE
      generalize wr.drewN nq = wr at *
      have HOB:=Zh (show o = o ++ List.replicate 0 y by simp)
      go_wp2
      go_loopw [3,6] (fun x kv A=>∃ (k:Nat) (o2:List Nat) (g2:Option Addr) (c2:Nat),k <= 4 /\ kv = .int .i64 (k:Nat) /\ x = .slice g2 o2.length c2 /\ OwnN 5 .u8 A q g2 c2 o2 /\ Below q w A /\ Hid (o2 = o ++ List.replicate k y)) (fun x kv _=>4 - (intOf kv).toNat)
      case atStart=>exact ⟨0,o,g,c,by omega,rfl,rfl,HO2.out,HE2.out,HOB.out⟩
      case round =>
       clear HOB HO2 HE2
       obtain ⟨k,o2,g2,c2,hk,rfl,rfl,hown,hbe,HOB⟩:=hrel
       have HO:=Zh hown
       have HE:=Zh hbe
       clear hown hbe
       have hol2:o2.length <= 255000000:=by have:=congrArg List.length HSF.out;have:=HSL.out;rw [HOB.out] ;simp only [List.length_append,List.length_replicate] at *;omega
       have hwr:q <= wr.heap.size:=by have:=HE.out.size;have:=HQ.out;omega
       have HWR:=Zh hwr
       clear hwr
       have cy:=HC.out i HI.out _ HE.out
       rw [HY.out] at cy
       have hil:i < p.length:=HI.out
       by_cases hkn:k < 4
       ·have t3:decide ((k:Int) < 4) = true:=by simp;omega
        go_wp2_with (at_builtin;refine app1N (y:=y) Zaz rfl (.tmp 42) (.tmp 47) rfl rfl HO.out rfl (by omega) (by omega) (by omega) (by omega) HWR.out ?_;intro a' c' w2 hown hg hb2;replace hown:=Zh hown;replace hb2:=Zh (HE.out.trans hb2);clear hg)
        go_wp2
        go_roundw
        case rel=>exact ⟨k + 1,o2 ++ [y],a',c',by omega,by go_num,by rw [List.length_append];rfl,hown.out,hb2.out,by rw [HOB.out,List.append_assoc,<- List.replicate_succ'];rfl⟩
        case measure=>simp [intOf];omega
       ·obtain rfl:k = 4:=by omega
        rw [show ((4:Nat):Int) = 4 from rfl]
        have t3:decide ((4:Int) < 4) = false:=by simp
        have t4:((4:Int) == 4) = true:=rfl
        have hi4:(i:Int) + 4 = (m:Int):=by have:=HM.out;omega
        have hi4w:IntKind.i64.wrap ((i:Int) + 4) = (m:Int):=by rw [hi4];exact IntWalk.i64_in _ (by have:=HPL.out;omega)
        by_cases hml:m < p.length
        ·have t5:decide (m < p.length) = true:=by simp;omega
         obtain ⟨z,hz⟩:∃ z,p.getD m 0 = z:=⟨_,rfl⟩
         have hz256:z < 256:=by
          rw [<- hz,List.getD_eq_getElem?_getD,List.getElem?_eq_getElem hml]
          exact H256.out _ (List.getElem_mem hml)
         have HFN:Hid (S = o2 ++ (List.replicate z y ++ say (p.drop (m + 1)))):=by
          unfold Hid
          rw [HF.out,HSD.out,List.drop_eq_getElem_cons hml,Zhz,HOB.out,List.append_assoc]
          rw [List.getD_eq_getElem?_getD,List.getElem?_eq_getElem hml] at hz
          rw [<- hz];rfl
         have HZ:=Zh hz
         clear hol2 cy hkn t3 hz
         go_wp2_with fail
         have HO3:Hid (OwnN 5 .u8 wr q g2 c2 o2):=HO.out
         have HE3:Hid (Below q w wr):=HE.out
         have HOB3:=Zh (show o2 = o2 ++ List.replicate 0 y by simp)
         clear HO HE HOB
         go_loopw [3,7] (fun x kv A=>∃ (k:Nat) (o3:List Nat) (g3:Option Addr) (c3:Nat),k <= z /\ kv = .int .i64 (k:Nat) /\ x = .slice g3 o3.length c3 /\ OwnN 5 .u8 A q g3 c3 o3 /\ Below q w A /\ Hid (o3 = o2 ++ List.replicate k y)) (fun x kv _=>z - (intOf kv).toNat)
         case atStart=>exact ⟨0,o2,g2,c2,by omega,rfl,rfl,HO3.out,HE3.out,HOB3.out⟩
         case round =>
          clear HOB3 HO3 HE3
          obtain ⟨k,o3,g3,c3,hk,rfl,rfl,hown,hbe,HOB⟩:=hrel
          have HO:=Zh hown
          have HE:=Zh hbe
          clear hown hbe
          have hol3:o3.length <= 255000000:=by have:=congrArg List.length HFN.out;have:=HSL.out;rw [HOB.out] ;simp only [List.length_append,List.length_replicate] at *;omega
          have hwr:q <= wr.heap.size:=by have:=HE.out.size;have:=HQ.out;omega
          have HWR:=Zh hwr
          clear hwr
          have cy:=HC.out i HI.out _ HE.out
          rw [HY.out] at cy
          have cz:=HC.out m hml _ HE.out
          rw [HZ.out] at cz
          have hil:i < p.length:=HI.out
          by_cases hkn:k < z
          ·have t6:decide (k < z) = true:=by simp;omega
           go_wp2_with (at_builtin;refine app1N (y:=y) Zaz rfl (.tmp 68) (.tmp 73) rfl rfl HO.out rfl (by omega) (by omega) (by omega) (by omega) HWR.out ?_;intro a' c' w2 hown hg hb2;replace hown:=Zh hown;replace hb2:=Zh (HE.out.trans hb2);clear hg)
           go_wp2
           go_roundw
           case rel=>exact ⟨k + 1,o3 ++ [y],a',c',by omega,by go_num,by rw [List.length_append];rfl,hown.out,hb2.out,by rw [HOB.out,List.append_assoc,<- List.replicate_succ'];rfl⟩
           case measure=>simp [intOf];omega
          ·obtain rfl:k = z:=by omega
           have t6:decide (k < k) = false:=by simp
           have hi5:(i:Int) + 5 = ((m + 1:Nat):Int):=by have:=HM.out;omega
           have hi5w:IntKind.i64.wrap ((i:Int) + 5) = ((m + 1:Nat):Int):=by rw [hi5];exact IntWalk.i64_in _ (by have:=HPL.out;omega)
           go_wp2
           go_roundw
           case rel=>exact ⟨m + 1,o3,g3,c3,by omega,by first | trivial | (rw [<- hi5]),by trivial,HO.out,HE.out,by unfold Hid;rw [HFN.out,HOB.out,List.append_assoc]⟩
           case measure=>simp [intOf];have:=HM.out;omega
        ·have t5:decide (m < p.length) = false:=by simp;omega
         have HFN:Hid (S = o2 ++ say (p.drop m)):=by
          unfold Hid
          rw [HF.out,HSD.out,List.drop_eq_nil_of_le (by omega),HOB.out,List.append_nil,Zgf]
          simp [say,sayL]
         clear hol2 cy hkn t3
         go_wp2_with fail
         go_roundw
         case rel=>exact ⟨m,o2,g2,c2,HM2.out,by trivial,by trivial,HO.out,HE.out,HFN.out⟩
         case measure=>simp [intOf];have:=HM.out;omega
     ·by_cases hn4':n = 4
      ·subst hn4'
       rw [show ((4:Nat):Int) = 4 from rfl]
       have HM2:=Zh hin2
       have HY:=Zh hy
       have HSD:Hid (p.drop i = List.replicate 4 y ++ p.drop m):=by
        unfold Hid
        rw [Zfp p y 4 i HIN.out (fun j hj=>by rw [HALL.out j hj,hy]),HM.out]
       have HSF:Hid (∃ r,S = o ++ (List.replicate 4 y ++ r)):=by
        unfold Hid
        cases hd:p.drop m with
        | nil=>exact ⟨[],by rw [HF.out,HSD.out,hd,List.append_nil,Zgf]⟩
        | cons x r=>exact ⟨_,by rw [HF.out,HSD.out,hd,Zhz]⟩
       obtain ⟨rS,hrS⟩:=HSF.out
       replace HSF:=Zh hrS
       have t1:decide ((4:Int) < 4) = false:=rfl
       clear HKEY hy hrS
       go_wp2_with fail
       go_quiet (fail)
       have HO2:Hid (OwnN 5 .u8 (wr.drewN nq) q g c o):=HO.out
       have HE2:Hid (Below q w (wr.drewN nq)):=belDN HE.out _
       clear HO HE
       generalize wr.drewN nq = wr at *
       have HOB:=Zh (show o = o ++ List.replicate 0 y by simp)
       go_wp2
       go_loopw [3,6] (fun x kv A=>∃ (k:Nat) (o2:List Nat) (g2:Option Addr) (c2:Nat),k <= 4 /\ kv = .int .i64 (k:Nat) /\ x = .slice g2 o2.length c2 /\ OwnN 5 .u8 A q g2 c2 o2 /\ Below q w A /\ Hid (o2 = o ++ List.replicate k y)) (fun x kv _=>4 - (intOf kv).toNat)
       case atStart=>exact ⟨0,o,g,c,by omega,rfl,rfl,HO2.out,HE2.out,HOB.out⟩
       case round =>
        clear HOB HO2 HE2
        obtain ⟨k,o2,g2,c2,hk,rfl,rfl,hown,hbe,HOB⟩:=hrel
        have HO:=Zh hown
        have HE:=Zh hbe
        clear hown hbe
        have hol2:o2.length <= 255000000:=by have:=congrArg List.length HSF.out;have:=HSL.out;rw [HOB.out] ;simp only [List.length_append,List.length_replicate] at *;omega
        have hwr:q <= wr.heap.size:=by have:=HE.out.size;have:=HQ.out;omega
        have HWR:=Zh hwr
        clear hwr
        have cy:=HC.out i HI.out _ HE.out
        rw [HY.out] at cy
        have hil:i < p.length:=HI.out
        by_cases hkn:k < 4
        ·have t3:decide ((k:Int) < 4) = true:=by simp;omega
         go_wp2_with (at_builtin;refine app1N (y:=y) Zaz rfl (.tmp 42) (.tmp 47) rfl rfl HO.out rfl (by omega) (by omega) (by omega) (by omega) HWR.out ?_;intro a' c' w2 hown hg hb2;replace hown:=Zh hown;replace hb2:=Zh (HE.out.trans hb2);clear hg)
         go_wp2
         go_roundw
         case rel=>exact ⟨k + 1,o2 ++ [y],a',c',by omega,by go_num,by rw [List.length_append];rfl,hown.out,hb2.out,by rw [HOB.out,List.append_assoc,<- List.replicate_succ'];rfl⟩
         case measure=>simp [intOf];omega
        ·obtain rfl:k = 4:=by omega
         rw [show ((4:Nat):Int) = 4 from rfl]
         have t3:decide ((4:Int) < 4) = false:=by simp
         have t4:((4:Int) == 4) = true:=rfl
         have hi4:(i:Int) + 4 = (m:Int):=by have:=HM.out;omega
         have hi4w:IntKind.i64.wrap ((i:Int) + 4) = (m:Int):=by rw [hi4];exact IntWalk.i64_in _ (by have:=HPL.out;omega)
         by_cases hml:m < p.length
         ·have t5:decide (m < p.length) = true:=by simp;omega
          obtain ⟨z,hz⟩:∃ z,p.getD m 0 = z:=⟨_,rfl⟩
          have hz256:z < 256:=by
           rw [<- hz,List.getD_eq_getElem?_getD,List.getElem?_eq_getElem hml]
           exact H256.out _ (List.getElem_mem hml)
          have HFN:Hid (S = o2 ++ (List.replicate z y ++ say (p.drop (m + 1)))):=by
           unfold Hid
           rw [HF.out,HSD.out,List.drop_eq_getElem_cons hml,Zhz,HOB.out,List.append_assoc]
           rw [List.getD_eq_getElem?_getD,List.getElem?_eq_getElem hml] at hz
           rw [<- hz];rfl
          have HZ:=Zh hz
          clear hol2 cy hkn t3 hz
          go_wp2_with fail
          have HO3:Hid (OwnN 5 .u8 wr q g2 c2 o2):=HO.out
          have HE3:Hid (Below q w wr):=HE.out
          have HOB3:=Zh (show o2 = o2 ++ List.replicate 0 y by simp)
          clear HO HE HOB
          go_loopw [3,7] (fun x kv A=>∃ (k:Nat) (o3:List Nat) (g3:Option Addr) (c3:Nat),k <= z /\ kv = .int .i64 (k:Nat) /\ x = .slice g3 o3.length c3 /\ OwnN 5 .u8 A q g3 c3 o3 /\ Below q w A /\ Hid (o3 = o2 ++ List.replicate k y)) (fun x kv _=>z - (intOf kv).toNat)
          case atStart=>exact ⟨0,o2,g2,c2,by omega,rfl,rfl,HO3.out,HE3.out,HOB3.out⟩
          case round =>
           clear HOB3 HO3 HE3
           obtain ⟨k,o3,g3,c3,hk,rfl,rfl,hown,hbe,HOB⟩:=hrel
           have HO:=Zh hown
           have HE:=Zh hbe
           clear hown hbe
           have hol3:o3.length <= 255000000:=by have:=congrArg List.length HFN.out;have:=HSL.out;rw [HOB.out] ;simp only [List.length_append,List.length_replicate] at *;omega
           have hwr:q <= wr.heap.size:=by have:=HE.out.size;have:=HQ.out;omega
           have HWR:=Zh hwr
           clear hwr
           have cy:=HC.out i HI.out _ HE.out
           rw [HY.out] at cy
           have cz:=HC.out m hml _ HE.out
           rw [HZ.out] at cz
           have hil:i < p.length:=HI.out
           by_cases hkn:k < z
           ·have t6:decide (k < z) = true:=by simp;omega
            go_wp2_with (at_builtin;refine app1N (y:=y) Zaz rfl (.tmp 68) (.tmp 73) rfl rfl HO.out rfl (by omega) (by omega) (by omega) (by omega) HWR.out ?_;intro a' c' w2 hown hg hb2;replace hown:=Zh hown;replace hb2:=Zh (HE.out.trans hb2);clear hg)
            go_wp2
            go_roundw
            case rel=>exact ⟨k + 1,o3 ++ [y],a',c',by omega,by go_num,by rw [List.length_append];rfl,hown.out,hb2.out,by rw [HOB.out,List.append_assoc,<- List.replicate_succ'];rfl⟩
            case measure=>simp [intOf];omega
           ·obtain rfl:k = z:=by omega
            have t6:decide (k < k) = false:=by simp
            have hi5:(i:Int) + 5 = ((m + 1:Nat):Int):=by have:=HM.out;omega
            have hi5w:IntKind.i64.wrap ((i:Int) + 5) = ((m + 1:Nat):Int):=by rw [hi5];exact IntWalk.i64_in _ (by have:=HPL.out;omega)
            go_wp2
            go_roundw
            case rel=>exact ⟨m + 1,o3,g3,c3,by omega,by first | trivial | (rw [<- hi5]),by trivial,HO.out,HE.out,by unfold Hid;rw [HFN.out,HOB.out,List.append_assoc]⟩
            case measure=>simp [intOf];have:=HM.out;omega
         ·have t5:decide (m < p.length) = false:=by simp;omega
          have HFN:Hid (S = o2 ++ say (p.drop m)):=by
           unfold Hid
           rw [HF.out,HSD.out,List.drop_eq_nil_of_le (by omega),HOB.out,List.append_nil,Zgf]
           simp [say,sayL]
          clear hol2 cy hkn t3
          go_wp2_with fail
          go_roundw
          case rel=>exact ⟨m,o2,g2,c2,HM2.out,by trivial,by trivial,HO.out,HE.out,HFN.out⟩
          case measure=>simp [intOf];have:=HM.out;omega
      have hn4:n < 4:=by omega
      rcases hstop with hml | ⟨hml,hne⟩
      ·have hy1:1 <= n:=by
        rcases Nat.eq_zero_or_pos n with e | e
        ·subst e
         exfalso
         have:=HM.out
         omega
        ·exact e
       have HN1:=Zh hy1
       have HN4:=Zh hn4
       have HM2:=Zh hin2
       have HY:=Zh hy
       have HSF:Hid (S = o ++ (List.replicate n y ++ say (p.drop m))):=by
        unfold Hid
        rw [HF.out,Zfp p y n i HIN.out (fun j hj=>by rw [HALL.out j hj,hy]),Zvc y n _ hy1 hn4 (fun d r' h=>by rw [List.drop_eq_nil_of_le (by have:=HM.out;omega)] at h;cases h),HM.out]
       have t1:decide ((n:Int) < 4) = true:=by simp;omega
       have t2:decide (m < p.length) = false:=by simp;omega
       clear HKEY hy hy1 hn4 HF
       go_wp2_with fail
       go_quiet (fail)
       have HO2:Hid (OwnN 5 .u8 (wr.drewN nq) q g c o):=HO.out
       have HE2:Hid (Below q w (wr.drewN nq)):=belDN HE.out _
       clear HO HE
       generalize wr.drewN nq = wr at *
       have HOB:=Zh (show o = o ++ List.replicate 0 y by simp)
       go_wp2
       go_loopw [3,6] (fun x kv A=>∃ (k:Nat) (o2:List Nat) (g2:Option Addr) (c2:Nat),k <= n /\ kv = .int .i64 (k:Nat) /\ x = .slice g2 o2.length c2 /\ OwnN 5 .u8 A q g2 c2 o2 /\ Below q w A /\ Hid (o2 = o ++ List.replicate k y)) (fun x kv _=>n - (intOf kv).toNat)
       case atStart=>exact ⟨0,o,g,c,by omega,rfl,rfl,HO2.out,HE2.out,HOB.out⟩
       case round =>
        clear HOB HO2 HE2
        obtain ⟨k,o2,g2,c2,hk,rfl,rfl,hown,hbe,HOB⟩:=hrel
        have HO:=Zh hown
        have HE:=Zh hbe
        clear hown hbe
        have hol2:o2.length <= 255000000:=by have:=congrArg List.length HSF.out;have:=HSL.out;rw [HOB.out] ;simp only [List.length_append,List.length_replicate] at *;omega
        have hwr:q <= wr.heap.size:=by have:=HE.out.size;have:=HQ.out;omega
        have HWR:=Zh hwr
        clear hwr
        have cy:=HC.out i HI.out _ HE.out
        rw [HY.out] at cy
        have hil:i < p.length:=HI.out
        by_cases hkn:k < n
        ·have t3:decide (k < n) = true:=by simp;omega
         go_wp2_with (at_builtin;refine app1N (y:=y) Zaz rfl (.tmp 42) (.tmp 47) rfl rfl HO.out rfl (by omega) (by omega) (by omega) (by omega) HWR.out ?_;intro a' c' w2 hown hg hb2;replace hown:=Zh hown;replace hb2:=Zh (HE.out.trans hb2);clear hg)
         go_wp2
         go_roundw
         case rel=>exact ⟨k + 1,o2 ++ [y],a',c',by omega,by go_num,by rw [List.length_append];rfl,hown.out,hb2.out,by rw [HOB.out,List.append_assoc,<- List.replicate_succ'];rfl⟩
         case measure=>simp [intOf];omega
        ·obtain rfl:k = n:=by omega
         skip
         have t3:decide (k < k) = false:=by simp
         have t4:((k:Int) == 4) = false:=beq_eq_false_iff_ne.2 (by have:=HN4.out;omega)
         have HFN:Hid (S = o2 ++ say (p.drop m)):=by unfold Hid;rw [HSF.out,HOB.out,List.append_assoc]
         clear hol2 cy hkn t3
         go_wp2_with fail
         go_roundw
         case rel=>exact ⟨m,o2,g2,c2,HM2.out,by first | trivial | exact Zbg (by omega),by trivial,HO.out,HE.out,HFN.out⟩
         case measure=>simp [intOf];have:=HN1.out;have:=HM.out;omega
      ·have hy1:1 <= n:=by
        rcases Nat.eq_zero_or_pos n with e | e
        ·subst e
         exfalso
         have:=HM.out
         exact hne (by rw [show m = i by omega];exact hy)
        ·exact e
       have HN1:=Zh hy1
       have HN4:=Zh hn4
       have HM2:=Zh hin2
       have HY:=Zh hy
       have HSF:Hid (S = o ++ (List.replicate n y ++ say (p.drop m))):=by
        unfold Hid
        rw [HF.out,Zfp p y n i HIN.out (fun j hj=>by rw [HALL.out j hj,hy]),Zvc y n _ hy1 hn4 (fun d r' h=>by rw [HM.out,List.drop_eq_getElem_cons hml] at h;cases h;rw [List.getD_eq_getElem?_getD,List.getElem?_eq_getElem hml] at hne;exact hne),HM.out]
       have t1:decide ((n:Int) < 4) = true:=by simp;omega
       have t2:decide (m < p.length) = true:=by simp;omega
       have cm:=HC.out m hml _ HE.out
       obtain ⟨z,hz⟩:∃ z,p.getD m 0 = z:=⟨_,rfl⟩
       rw [hz] at cm hne
       have t7:((z:Int) == (y:Int)) = false:=beq_eq_false_iff_ne.2 (by omega)
       clear HKEY hz hne hy hy1 hn4 HF
       go_wp2_with fail
       go_quiet (fail)
       have HO2:Hid (OwnN 5 .u8 (wr.drewN nq) q g c o):=HO.out
       have HE2:Hid (Below q w (wr.drewN nq)):=belDN HE.out _
       clear HO HE
       generalize wr.drewN nq = wr at *
       have HOB:=Zh (show o = o ++ List.replicate 0 y by simp)
       go_wp2
       go_loopw [3,6] (fun x kv A=>∃ (k:Nat) (o2:List Nat) (g2:Option Addr) (c2:Nat),k <= n /\ kv = .int .i64 (k:Nat) /\ x = .slice g2 o2.length c2 /\ OwnN 5 .u8 A q g2 c2 o2 /\ Below q w A /\ Hid (o2 = o ++ List.replicate k y)) (fun x kv _=>n - (intOf kv).toNat)
       case atStart=>exact ⟨0,o,g,c,by omega,rfl,rfl,HO2.out,HE2.out,HOB.out⟩
       case round =>
        clear HOB HO2 HE2
        obtain ⟨k,o2,g2,c2,hk,rfl,rfl,hown,hbe,HOB⟩:=hrel
        have HO:=Zh hown
        have HE:=Zh hbe
        clear hown hbe
        have hol2:o2.length <= 255000000:=by have:=congrArg List.length HSF.out;have:=HSL.out;rw [HOB.out] ;simp only [List.length_append,List.length_replicate] at *;omega
        have hwr:q <= wr.heap.size:=by have:=HE.out.size;have:=HQ.out;omega
        have HWR:=Zh hwr
        clear hwr
        have cy:=HC.out i HI.out _ HE.out
        rw [HY.out] at cy
        have hil:i < p.length:=HI.out
        by_cases hkn:k < n
        ·have t3:decide (k < n) = true:=by simp;omega
         go_wp2_with (at_builtin;refine app1N (y:=y) Zaz rfl (.tmp 42) (.tmp 47) rfl rfl HO.out rfl (by omega) (by omega) (by omega) (by omega) HWR.out ?_;intro a' c' w2 hown hg hb2;replace hown:=Zh hown;replace hb2:=Zh (HE.out.trans hb2);clear hg)
         go_wp2
         go_roundw
         case rel=>exact ⟨k + 1,o2 ++ [y],a',c',by omega,by go_num,by rw [List.length_append];rfl,hown.out,hb2.out,by rw [HOB.out,List.append_assoc,<- List.replicate_succ'];rfl⟩
         case measure=>simp [intOf];omega
        ·obtain rfl:k = n:=by omega
         skip
         have t3:decide (k < k) = false:=by simp
         have t4:((k:Int) == 4) = false:=beq_eq_false_iff_ne.2 (by have:=HN4.out;omega)
         have HFN:Hid (S = o2 ++ say (p.drop m)):=by unfold Hid;rw [HSF.out,HOB.out,List.append_assoc]
         clear hol2 cy hkn t3
         go_wp2_with fail
         go_roundw
         case rel=>exact ⟨m,o2,g2,c2,HM2.out,by first | trivial | exact Zbg (by omega),by trivial,HO.out,HE.out,HFN.out⟩
         case measure=>simp [intOf];have:=HN1.out;have:=HM.out;omega
    ·have t1:decide ((n:Int) < 4) = true:=by simp;omega
     have t2:decide (m < p.length) = true:=by simp;omega
     have cm:=HC.out m hml _ HE.out
     rw [he] at cm
     have HAL2:Hid (∀ j,j < n + 1 -> p.getD (i + j) 0 = p.getD i 0):=fun j hj=>by
      by_cases e:j < n
      ·exact HALL.out j e
      ·rw [show i + j = m by have:=HM.out;omega,he,hy]
     clear HKEY he
     go_wp2_with fail
     go_quiet (fail)
     go_wp2
     go_roundw
     case rel=>exact ⟨n + 1,by go_num,by omega,by have:=HM.out;omega,HAL2.out,belDN HE.out _,HO.out⟩
     case measure=>simp [intOf];omega
  ·obtain rfl:i = p.length:=by omega
   have t0:decide (p.length < p.length) = false:=by simp
   have HSE:Hid (S = o):=by unfold Hid;rw [HF.out,List.drop_length];simp [say,sayL]
   go_wp2
   go_ret
   exact ⟨g,c,by rw [HSE.out];rfl,by rw [HSE.out];exact HO.out,HE.out⟩
end Go.Proofs.YtnkpnjnfddjfpaaGreat

namespace Go.Proofs.YtnkpnjnfddjfpaaGreat
open Go.RowKit Go.Shelf M01 M02 M27
theorem Ztu (v:Nat) (hv:v < 4294967296):bits .xor .u32 IntKind.u32.max (v:Int) = ((4294967295 - v:Nat):Int):=by
 have h1:IntKind.u32.max = ((4294967295:Nat):Int):=rfl
 rw [h1,Zar _ _ (by omega) hv]
 congr 1
 apply Nat.eq_of_testBit_eq
 intro i
 have e1:(4294967295:Nat) = 2 ^ 32 - 1:=rfl
 have e2:4294967295 - v = 2 ^ 32 - (v + 1):=by omega
 rw [e2,Nat.testBit_two_pow_sub_succ (by omega),Nat.testBit_xor,e1,Nat.testBit_two_pow_sub_one]
 by_cases h:i < 32
 ·simp [h]
 ·have:v.testBit i = false:=Nat.testBit_lt_two_pow (Nat.lt_of_lt_of_le hv (show 2 ^ 32 <= 2 ^ i from Nat.pow_le_pow_right (by decide) (by omega)))
  simp [h,this]
set_option maxRecDepth 100000 in
set_option maxHeartbeats 6400000 in
theorem Zwy (w:World) (a:Option Addr) (cap:Nat) (l:List Nat) (hr:RowN .u8 w a cap l) (hl:l.length <= 100000000000) (h256:∀ x ∈ l,x < 256) :
  Calls Tryz.prog 22 #[.slice a l.length cap] w fun e w'=>e = .returned (.int .u32 (crcHigh l:Nat)) /\ Below w.heap.size w w':=by
 have HR:=Zh hr
 have H256:=Zh h256
 clear hr h256
 go_enter Tryz.func22,Tryz.ntmps22
 go_wp2_with fail
 refine (Zsr w).mono ?_
 rintro e w1 ⟨rfl,hb⟩
 have HB:=Zh hb
 have hs1:(crcCells 256).toArray.size = 256:=by simp [Zbl]
 have hs0:(crcCells 0).toArray.size = 256:=by simp [Zbl]
 have ho1:=Zhd 256
 have HC:=Zh (Zif 256)
 have hzz:=zeros256
 obtain ⟨cs,hcs⟩:∃ cs,(crcCells 256).toArray = cs:=⟨_,rfl⟩
 have HCS:=Zh hcs
 rw [hcs] at hs1 ho1
 simp only [hcs]
 clear hb hcs
 have hn:=World.alloc_heap_new w1 (.cells Tryz.zeroCells92 92)
 have hst:=stc256 (w1.alloc (.cells Tryz.zeroCells92 92)) w1.heap.size _ _ cs (by rw [hzz,hs0,hs1]) ho1 hn
 have HN:=Zh (setRow_heap (w1.alloc (.cells Tryz.zeroCells92 92)) w1.heap.size _ cs _ _ hn)
 have HB2:=Zh (below_setRow ((HB.out).trans ((Zai w1 (.cells Tryz.zeroCells92 92)).mono HB.out.size)) HB.out.size cs)
 obtain ⟨tb,htb⟩:∃ tb,w1.heap.size = tb:=⟨_,rfl⟩
 simp only [htb] at hst HN HB2
 clear hn hzz
 go_wp2_with fail
 generalize (w1.alloc (.cells Tryz.zeroCells92 92)).setRow tb cs = w2 at *
 have hww:w.heap.size <= w1.heap.size:=HB.out.size
 clear hst
 go_loopw [4,10] (fun vv iv A=>∃ i:Nat,iv = .int .i64 (i:Nat) /\ i <= l.length /\ vv = .int .u32 (crcAt l i:Nat) /\ A = w2) (fun _ iv _=>l.length - (intOf iv).toNat)
 case atStart=>exact ⟨0,rfl,by omega,rfl,rfl⟩
 case round =>
  obtain ⟨i,rfl,hi,rfl,hwr⟩:=hrel
  subst hwr
  by_cases hlt:i < l.length
  ·have t0:decide (i < l.length) = true:=decide_eq_true hlt
   have hc:=H256.out _ (List.getElem_mem hlt)
   have hv:=Zfl l H256.out i
   obtain ⟨sb,soff,rfl,hsb,hsc⟩:=(HR.out.below HB2.out).at hlt
   have HSU:=Zh (Zjn l i hlt)
   generalize crcAt l i = v at *
   generalize l[i] = c at *
   have hsp:crcStep v c = (v * 256 % 4294967296) ^^^ crcTab ((v / 16777216) ^^^ c):=rfl
   obtain ⟨d,hd⟩:∃ d,v / 16777216 = d:=⟨_,rfl⟩
   obtain ⟨q,hq⟩:∃ q,v * 256 % 4294967296 = q:=⟨_,rfl⟩
   have hd8:d < 2 ^ 8:=by omega
   have hx:d ^^^ c < 256:=Nat.xor_lt_two_pow (n:=8) hd8 hc
   have e3:(v:Int) / 16777216 = (d:Int):=by omega
   have e4:(v:Int) * 256 % 4294967296 = (q:Int):=by omega
   have e1:IntKind.u8.wrap (d:Int) = (d:Int):=by rw [IntKind.wrap_u8];omega
   have e1':(d:Int) % 256 = (d:Int):=by omega
   have e2:=Zdn d c (by omega) hc
   rw [hd,hq] at hsp
   have hck:=HC.out (d ^^^ c) hx
   rw [if_pos hx] at hck
   have e5:wr.cell? ⟨tb,d ^^^ c,none⟩ = some (.int .u32 (crcTab (d ^^^ c):Nat)):=by
    rw [<- HCS.out] at HN
    simp [World.cell?,HN.out,hck]
   have e6:=Zar q (crcTab (d ^^^ c)) (by omega) (Zsp _ hx)
   rw [<- hsp] at e6
   generalize crcStep v c = v' at *
   generalize d ^^^ c = ix at *
   generalize crcTab ix = tv at *
   have e8:(ix:Int) < 256:=by omega
   clear hck hsp hd hq
   go_wp2_with fail
   go_roundw
   case rel=>exact ⟨i + 1,by go_num,by omega,by rw [HSU.out],trivial⟩
   case measure=>simp [intOf];omega
  ·obtain rfl:i = l.length:=by omega
   have HA:=Zh (Zlk l)
   have hv:=Zfl l H256.out l.length
   generalize crcAt l l.length = v at *
   have e1:(4294967295:Int) - (v:Int) = ((4294967295 - v:Nat):Int):=by omega
   clear hlt hi
   go_wp2_with fail
   go_ret
   exact ⟨by rw [HA.out,<- Ztu v hv];rfl,HB2.out⟩
end Go.Proofs.YtnkpnjnfddjfpaaGreat

namespace Go.Proofs.YtnkpnjnfddjfpaaGreat
open Go.RowKit M01 M02 M27
theorem Zdj (w:World) (a b:Nat) (ha:a < 4294967296) (hb:b < 4294967296) :
  Calls Tryz.prog 55 #[.int .u32 (a:Nat),.int .u32 (b:Nat)] w fun e w'=>e = .returned (.int .u32 (foldS a b:Nat)) /\ w' = w:=by
 go_enter Tryz.func55,Tryz.ntmps55
 obtain ⟨x,hx⟩:∃ x,2 * a % 4294967296 + a / 2147483648 = x:=⟨_,rfl⟩
 have h0:(2 * a % 4294967296) ^^^ (a / 2147483648) = x:=by
  rw [<- hx]
  have h1:a / 2147483648 < 2:=by omega
  have h2:2 * a % 4294967296 = 2 * (a % 2147483648):=by omega
  rw [h2]
  generalize a % 2147483648 = y
  generalize a / 2147483648 = z at *
  have h3:=Nat.two_pow_add_eq_or_of_lt (i:=1) (b:=z) (by omega) y
  rw [show 2 * y + z = 2 ^ 1 * y + z from rfl,h3]
  apply Nat.eq_of_testBit_eq
  intro i
  rw [Nat.testBit_or,Nat.testBit_xor]
  cases i with
  | zero=>simp [Nat.testBit_zero]
  | succ i =>
   have h4:z.testBit (i + 1) = false:=Nat.testBit_lt_two_pow (Nat.lt_of_lt_of_le h1 (show 2 ^ 1 <= 2 ^ (i + 1) from Nat.pow_le_pow_right (by decide) (by omega)))
   simp [h4]
 have hx2:x < 4294967296:=by omega
 have hxi:(a:Int) * 2 % 4294967296 + (a:Int) / 2147483648 = (x:Int):=by omega
 have hbx:=Zar x b hx2 hb
 have HF:Hid (foldS a b = x ^^^ b):=by unfold Hid foldS;rw [<- h0];rfl
 clear h0 hx
 go_wp2
 go_ret
 exact ⟨by rw [HF.out];rfl,rfl⟩
set_option maxRecDepth 100000 in
set_option maxHeartbeats 1600000 in
theorem Zke (w:World) (a:Option Addr) (cap:Nat) (l:List Nat) (hr:RowN .u8 w a cap l) (h256:∀ x ∈ l,x < 256) :
  Calls Tryz.prog 54 #[.slice a l.length cap] w fun e w'=>e = .returned (.int .u32 (crcHigh l:Nat)) /\ w' = w:=by
 have HR:=Zh hr
 have H256:=Zh h256
 have hll:=hr.len
 clear hr h256
 go_enter Tryz.func54,Tryz.ntmps54
 go_wp2
 go_loopw [3,4] (fun x i A=>∃ k:Nat,k <= l.length /\ i = .int .i64 k /\ x = .int .u32 (crcAt l k:Nat) /\ A = w) (fun x i _=>l.length - (intOf i).toNat)
 case atStart=>exact ⟨0,by omega,rfl,by simp [crcAt],rfl⟩
 case round =>
  obtain ⟨i,hi,rfl,rfl,rfl⟩:=hrel
  by_cases hlt:i < l.length
  ·obtain ⟨b,off,rfl,hbs,hc⟩:=HR.out.at hlt
   have hv:=H256.out l[i] (List.getElem_mem hlt)
   have HST:=Zh ((Zjn l i hlt).trans (Zso (Zfl l H256.out i) hv).symm)
   have hcl:=Zfl l H256.out i
   obtain ⟨c,hcc⟩:∃ c,l[i] = c:=⟨_,rfl⟩
   rw [hcc] at hc hv HST
   generalize crcAt l i = v0 at *
   have t0:decide (i < l.length) = true:=by simp;omega
   clear hcc
   go_wp2
   go_loopw [3,5] (fun x k A=>∃ j v:Nat,j <= 8 /\ k = .int .i64 ((j:Int) - 1) /\ x = .int .u32 (v:Nat) /\ v < 4294967296 /\ Hid (crcAt l (i + 1) = crcRun c j v) /\ A = wr) (fun x k _=>(intOf k + 1).toNat)
   case atStart=>exact ⟨8,v0,by omega,by rfl,rfl,hcl,HST.out,by trivial⟩
   case round =>
    obtain ⟨j,v,hj,rfl,rfl,hv2,HF,rfl⟩:=hrel
    clear HST
    cases j with
    | zero =>
     go_wp2
     go_roundw
     case rel=>exact ⟨i + 1,by omega,by go_num,by rw [HF.out];rfl,by trivial⟩
     case measure=>simp [intOf];omega
    | succ k =>
     have hk1:(((k + 1:Nat):Int) - 1) = (k:Int):=by omega
     rw [hk1]
     obtain ⟨sx,hsx⟩:∃ sx,c / 2 ^ k = sx:=⟨_,rfl⟩
     have hsi:(c:Int) / 2 ^ k = (sx:Int):=by rw [<- hsx];simp
     have hs2:sx <= c:=by rw [<- hsx];exact Nat.div_le_self _ _
     obtain ⟨d,hd⟩:∃ d,2 * v % 4294967296 = d:=⟨_,rfl⟩
     have hdi:(v:Int) * 2 % 4294967296 = (d:Int):=by omega
     have hd2:d < 4294967296:=by omega
     have hstep:crcRun c (k + 1) v = crcRun c k (crcOne c k v):=rfl
     have hone:crcOne c k v = if (sx + v / 2147483648) % 2 = 1 then d ^^^ 79764919 else d:=by unfold crcOne;rw [hsx,hd]
     rw [hstep,hone] at HF
     have hbx:=Zar d 79764919 hd2 (by omega)
     have hxl:=Zbu hd2 (show 79764919 < 4294967296 by omega)
     by_cases h1:(sx + v / 2147483648) % 2 = 1
     ·have t1:(((sx:Int) + (v:Int) / 2147483648) % 2 == 1) = true:=beq_iff_eq.2 (by omega)
      rw [if_pos h1] at HF
      clear hsx hd hone hstep h1
      go_wp2
      go_roundw
      case rel=>exact ⟨k,_,by omega,by trivial,Zbg hbx,hxl,HF,by trivial⟩
      case measure=>simp [intOf]
     ·have t1:(((sx:Int) + (v:Int) / 2147483648) % 2 == 1) = false:=beq_eq_false_iff_ne.2 (by omega)
      rw [if_neg h1] at HF
      clear hsx hd hone hstep h1 hbx
      go_wp2
      go_roundw
      case rel=>exact ⟨k,d,by omega,by trivial,Zbg hdi,hd2,HF,by trivial⟩
      case measure=>simp [intOf]
  ·obtain rfl:i = l.length:=by omega
   have t0:decide (l.length < l.length) = false:=by simp
   have hcl:=Zfl l H256.out l.length
   have HCA:=Zh (Zlk l)
   generalize crcAt l l.length = v at *
   have hn:bits .xor .u32 (v:Int) 4294967295 = ((4294967295 - v:Nat):Int):=by
    have e1:=Zar 4294967295 v (by omega) hcl
    have e2:=Ztu v hcl
    have e3:=Zar v 4294967295 hcl (by omega)
    rw [Nat.xor_comm] at e3
    exact e3.trans (e1.symm.trans e2)
   go_wp2
   go_ret
   exact ⟨by rw [HCA.out];rfl,rfl⟩
end Go.Proofs.YtnkpnjnfddjfpaaGreat

namespace Go.Proofs.YtnkpnjnfddjfpaaGreat.M27
open M01 M02 M04 M06 M10
def stF (keep:Nat) (F:BzF) (L:List (List Nat × Nat)) (i:Nat):BzF × Nat:=(L.take i).foldl (partF keep) (F,0)
theorem Zyg (keep:Nat) (F:BzF) (L:List (List Nat × Nat)) (i:Nat) (p:List Nat × Nat) (h:L[i]? = some p):stF keep F L (i + 1) = partF keep (stF keep F L i) p:=by
 obtain ⟨hi,rfl⟩:=List.getElem?_eq_some_iff.1 h
 unfold stF
 rw [M04.Zbm L i hi,List.foldl_append]
 rfl
theorem Zaar (keep:Nat) (F:BzF) (L:List (List Nat × Nat)):stF keep F L L.length = L.foldl (partF keep) (F,0):=by unfold stF;rw [List.take_length]
theorem Zka (B:List Nat) (most:Nat):∀ f a,(partsG B most f a).1.length <= f
 | 0,a=>by simp [partsG]
 | f + 1,a=>by
  unfold partsG
  split
  ·simp
  ·split
   ·split
    ·simp
    ·simp only [List.length_cons];exact Nat.succ_le_succ (Zka B most f _)
   ·split <;> simp
theorem Zjz (B:List Nat) (most:Nat) (hm:most <= 1000000):∀ f a a2,(partsG B most f a).2 = some a2 -> a + (partsG B most f a).1.length <= a2
 | 0,a,a2,h=>by simp [partsG] at h
 | f + 1,a,a2,h=>by
  unfold partsG at h ⊢
  split
  ·rename_i e;rw [e] at h;simp at h
  ·rename_i m a3 e
   rw [e] at h
   simp only [] at h
   have h48:=(Zce e).2
   by_cases hb:m = blockM
   ·rw [if_pos hb] at h ⊢
    split
    ·rename_i e2;rw [e2] at h;simp at h
    ·rename_i l s a4 e2
     rw [e2] at h
     simp only [List.length_cons] at h ⊢
     have:=Zjz B most hm f a4 a2 h
     have:=(Zne e2 hm).1
     omega
   ·rw [if_neg hb] at h ⊢
    by_cases he:m = endM
    ·rw [if_pos he] at h ⊢
     simp only [Option.some.injEq] at h
     simp only [List.length_nil]
     omega
    ·rw [if_neg he] at h;simp at h
theorem Zvp (B:List Nat) (a:Nat):(strmG B a).1.length <= nb B + 1:=by
 unfold strmG
 split
 ·simp
 ·split
  ·exact Zka _ _ _ _
  ·simp
theorem Zmx (B:List Nat) (a a2:Nat) (h:(strmG B a).2 = some a2):a + (strmG B a).1.length < a2:=by
 unfold strmG at h ⊢
 split
 ·rename_i e;rw [e] at h;simp at h
 ·rename_i m a3 e
  rw [e] at h
  simp only [] at h
  have h32:=(Zce e).2
  split
  ·rename_i hc
   rw [if_pos hc] at h
   have:=Zjz B _ (by omega) _ _ _ h
   omega
  ·rename_i hc
   rw [if_neg hc] at h
   simp at h
theorem Zws {B:List Nat} {keep f a:Nat} {F:BzF} (h:(strmG B a).2 = none):bzG B keep (f + 1) a F = none:=by
 unfold bzG;rw [h];rfl
theorem Zwt {B:List Nat} {keep f a a2 x a3:Nat} {F:BzF} {r:BzF × Nat} (h:(strmG B a).2 = some a2) (hx:numG B a2 32 = some (x,a3)) (hr:r = (strmG B a).1.foldl (partF keep) (F,0)) :
  bzG B keep (f + 1) a F = if (a3 + 7) / 8 * 8 < nb B then bzG B keep f ((a3 + 7) / 8 * 8) { r.1 with wrong:=r.1.wrong || !(x == r.2) } else some { r.1 with wrong:=r.1.wrong || !(x == r.2) }:=by
 subst hr
 conv=>lhs;unfold bzG
 rw [h]
 show (numG B a2 32).bind _ = _
 rw [hx]
 rfl
end Go.Proofs.YtnkpnjnfddjfpaaGreat.M27
