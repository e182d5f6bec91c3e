/- A region whose order is drawn, by an invariant over what has come up: each operation leaves its own value, whatever else has come up (plain, and in a fence). bytes.Repeat: contract. front.Get: contract. A drawn region inside a round: first operations that only read, in any order; then the rest, in the text's order. -/
import Derived.Test.YtnkpnjnfddjfpaaGreatQ02
import Derived.Test.YtnkpnjnfddjfpaaGreatQ06
import Derived.Test.YtnkpnjnfddjfpaaGreatQ01
import Derived.Orders
import Derived.OrdersIn
import Derived.Tactics
import Derived.TacticsIn
import Derived.OwnWalkIn
import Derived.Laws.CopyOwn
import Derived.Lib.MakeNoZero
import Derived.Maps.AppendAt
import Derived.StillTail
import Derived.StillTactics
set_option linter.unusedVariables false
set_option linter.unusedSimpArgs false
namespace Go.Proofs.YtnkpnjnfddjfpaaGreat
open Go
section
variable {P : Program} {ops : Array Oper} {Q : Exit → Act → World → Prop} {md : Region.Mode}
def leftOf (ops:Array Oper) (listed:Array Bool):Nat:=((List.range ops.size).filter fun i=>!listed.getD i true).length
theorem Zik {listed:Array Bool} (h:leftOf ops listed = 0):Region.ready md ops listed = []:=by
 have h1:((List.range ops.size).filter fun i=>!listed.getD i true) = []:=List.eq_nil_of_length_eq_zero h
 rw [List.filter_eq_nil_iff] at h1
 unfold Region.ready
 rw [List.filter_eq_nil_iff]
 intro i hi hc
 rw [Bool.and_eq_true] at hc
 exact h1 i hi hc.1
theorem Zsz {α:Type _} (p q:α -> Bool):∀ (l:List α),(∀ x ∈ l,q x = true -> p x = true) -> (∃ x ∈ l,p x = true /\ q x = false) -> (l.filter q).length < (l.filter p).length:=by
 intro l
 induction l with
 | nil=>rintro - ⟨x,hx,-⟩;cases hx
 | cons y t ih =>
  intro h hex
  have hle:(t.filter q).length <= (t.filter p).length:=by
   clear ih hex
   have h':∀ x ∈ t,q x = true -> p x = true:=fun x hx=>h x (by simp [hx])
   clear h
   induction t with
   | nil=>simp
   | cons z t ih =>
    have h1:=h' z (by simp)
    have h2:=ih (fun x hx=>h' x (by simp [hx]))
    simp only [List.filter_cons]
    cases hq:q z <;> cases hp:p z <;> simp_all <;> omega
  have hy:=h y (by simp)
  by_cases hc:p y = true /\ q y = false
  ·simp only [List.filter_cons,hc.1,hc.2];simp;omega
  ·obtain ⟨x,hx,hpx⟩:=hex
   have hxt:x ∈ t:=by
    rcases List.mem_cons.1 hx with rfl | hx
    ·exact absurd hpx hc
    ·exact hx
   have:=ih (fun x hx=>h x (by simp [hx])) ⟨x,hxt,hpx⟩
   simp only [List.filter_cons]
   cases hq:q y <;> cases hp:p y <;> simp_all
theorem Zjt {listed:Array Bool} {i:Nat} (hi:i ∈ Region.ready md ops listed):leftOf ops (listed.setIfInBounds i true) < leftOf ops listed:=by
 have hm:=hi
 unfold Region.ready at hm
 rw [List.mem_filter,Bool.and_eq_true] at hm
 have h0:listed.getD i true = false:=by simpa using hm.2.1
 refine Zsz _ _ _ (fun x hx hq=>?_) ⟨i,hm.1,by rw [h0];rfl,?_⟩
 ·by_cases hxi:i = x
  ·subst hxi;rw [h0];rfl
  ·rw [getD_set_ne true hxi] at hq;exact hq
 ·have hlt:i < listed.size:=by
   rcases Nat.lt_or_ge i listed.size with h' | h'
   ·exact h'
   ·simp [Array.getElem?_eq_none h'] at h0
  simp [hlt]
theorem Ziz (I:Array Bool -> Act -> World -> Prop)
  (step:∀ listed a w i,I listed a w -> i ∈ Region.ready md ops listed -> wpOp P ops Q i (I (listed.setIfInBounds i true)) a w)
  (done:∀ listed a w,I listed a w -> Region.ready md ops listed = [] -> Q .normal a w) :
  ∀ fuel listed a w,leftOf ops listed <= fuel -> I listed a w -> wpAny P md ops Q fuel listed a w:=by
 intro fuel
 induction fuel with
 | zero=>intro listed a w hl hI;have:=Zik (md:=md) (ops:=ops) (listed:=listed) (by omega);exact ⟨this,done _ _ _ hI this⟩
 | succ fuel ih =>
  intro listed a w hl hI
  refine ⟨fun h=>done _ _ _ hI h,fun i hi=>?_⟩
  have:=Zjt hi
  exact wpOp_mono (fun a' w' h=>ih _ _ _ (by omega) h) (step _ _ _ _ hI hi)
theorem Zoj {F:Fence} {n:Nat} (I:Array Bool -> Act -> World -> Prop)
  (step:∀ listed a w i,I listed a w -> i ∈ Region.ready md ops listed -> wpOpIn F n P ops Q i (I (listed.setIfInBounds i true)) a w)
  (done:∀ listed a w,I listed a w -> Region.ready md ops listed = [] -> Q .normal a w) :
  ∀ fuel listed a w,leftOf ops listed <= fuel -> I listed a w -> wpAnyIn F n P md ops Q fuel listed a w:=by
 intro fuel
 induction fuel with
 | zero=>intro listed a w hl hI;have:=Zik (md:=md) (ops:=ops) (listed:=listed) (by omega);exact ⟨this,done _ _ _ hI this⟩
 | succ fuel ih =>
  intro listed a w hl hI
  refine ⟨fun h=>done _ _ _ hI h,fun i hi=>?_⟩
  have:=Zjt hi
  exact wpOpIn_mono (fun a' w' h=>ih _ _ _ (by omega) h) (step _ _ _ _ hI hi)
theorem Zdb (ops:Array Oper):leftOf ops (Array.replicate ops.size false) <= ops.size:=by
 unfold leftOf
 exact Nat.le_trans (List.length_filter_le _ _) (by simp)
def backB (md:Region.Mode) (ops:Array Oper):Bool:=(List.range ops.size).all fun i=>((ops[i]?).map fun o=>o.after.all fun e=>!Region.binds md e || decide (e.on < i)).getD true
theorem Zep {listed:Array Bool} (hs:listed.size = ops.size) (hb:∀ (i:Nat) (o:Oper),ops[i]? = some o -> ∀ e ∈ o.after,Region.binds md e = true -> e.on < i)
  (hr:Region.ready md ops listed = []):∀ i,i < ops.size -> listed.getD i false = true:=by
 intro i
 induction i using Nat.strongRecOn with
 | ind i ih =>
  intro hi
  cases h:listed.getD i false with
  | true=>rfl
  | false =>
   exfalso
   have h1:i ∈ Region.ready md ops listed:=by
    rw [mem_ready]
    have hlt:i < listed.size:=by omega
    refine ⟨by simpa [hlt] using h,_,Array.getElem?_eq_getElem hi,fun e he hbe=>?_⟩
    have:=hb i _ (Array.getElem?_eq_getElem hi) e he hbe
    exact ih _ this (by omega)
   rw [hr] at h1;cases h1
def dstsL (ops:Array Oper):List Tmp:=ops.toList.filterMap (·.dst)
def spread (ds:List Nat) (f:Nat -> Value):Nat -> List Value -> List Value
 | _,[]=>[]
 | n,x :: t=>(bif ds.contains n then f n else x) :: spread ds f (n + 1) t
theorem Zdg? (ds:List Nat) (f:Nat -> Value):∀ (l:List Value) (n t:Nat),(spread ds f n l)[t]? = (l[t]?).map fun x=>bif ds.contains (n + t) then f (n + t) else x
 | [],_,_=>by simp [spread]
 | x :: l,n,0=>by simp [spread]
 | x :: l,n,t + 1=>by
  simp only [spread,List.getElem?_cons_succ,Zdg? ds f l (n + 1) t]
  rw [show n + 1 + t = n + (t + 1) from by omega]
def anc (md:Region.Mode) (ops:Array Oper) (i:Nat):Nat -> Nat -> Bool
 | 0,_=>false
 | fuel + 1,j=>((ops[j]?).map fun o=>o.after.any fun e=>Region.binds md e && (e.on == i || anc md ops i fuel e.on)).getD false
def Shut (md:Region.Mode) (ops:Array Oper) (listed:Array Bool):Prop :=
 ∀ (j:Nat) (o:Oper),ops[j]? = some o -> listed.getD j false = true -> ∀ e ∈ o.after,Region.binds md e = true -> listed.getD e.on false = true
theorem Shut.anc {listed:Array Bool} (h:Shut md ops listed) (i:Nat):∀ fuel j,anc md ops i fuel j = true -> listed.getD j false = true -> listed.getD i false = true:=by
 intro fuel
 induction fuel with
 | zero=>intro j hj;cases hj
 | succ fuel ih =>
  intro j hj hl
  unfold Go.Proofs.YtnkpnjnfddjfpaaGreat.anc at hj
  cases ho:ops[j]? with
  | none=>simp [ho] at hj
  | some o =>
   simp only [ho,Option.map_some,Option.getD_some] at hj
   obtain ⟨e,he,hb⟩:=Array.any_eq_true'.1 hj
   rw [Bool.and_eq_true,Bool.or_eq_true] at hb
   have h1:=h j o ho hl e he hb.1
   rcases hb.2 with h2 | h2
   ·rw [beq_iff_eq] at h2;rw [<- h2];exact h1
   ·exact ih _ h2 h1
theorem Shut.ready {listed:Array Bool} (h:Shut md ops listed) {i k:Nat} {o:Oper} (hi:ops[i]? = some o) (hw:∀ e ∈ o.after,Region.binds md e = true -> listed.getD e.on false = true) :
  ∀ fuel,Go.Proofs.YtnkpnjnfddjfpaaGreat.anc md ops k fuel i = true -> listed.getD k false = true:=by
 intro fuel hf
 cases fuel with
 | zero=>cases hf
 | succ fuel =>
  unfold Go.Proofs.YtnkpnjnfddjfpaaGreat.anc at hf
  simp only [hi,Option.map_some,Option.getD_some] at hf
  obtain ⟨e,he,hb⟩:=Array.any_eq_true'.1 hf
  rw [Bool.and_eq_true,Bool.or_eq_true] at hb
  have h1:=hw e he hb.1
  rcases hb.2 with h2 | h2
  ·rw [beq_iff_eq] at h2;rw [<- h2];exact h1
  ·exact h.anc k _ _ h2 h1
def wantE (md:Region.Mode) (e:Edge):Bool:=Region.binds md e && (match e.ground with | .data=>true | _=>false)
theorem Zbe {e:Edge} (h:wantE md e = true):Region.binds md e = true:=by unfold wantE at h;rw [Bool.and_eq_true] at h;exact h.1
def usedB (md:Region.Mode) (ops:Array Oper) (fin:Nat -> Bool) (i j:Nat):Bool :=
 !(i == j) && !(anc md ops i ops.size j) && (fin j || (List.range ops.size).any fun k=>!(k == i) && !(anc md ops k ops.size i) && ((ops[k]?).map fun o=>o.after.any fun e=>wantE md e && e.on == j).getD false)
def Wants (md:Region.Mode) (ops:Array Oper) (fin:Nat -> Bool) (listed:Array Bool) (j:Nat):Prop :=
 fin j = true \/ ∃ (k:Nat) (o:Oper) (e:Edge),ops[k]? = some o /\ listed.getD k true = false /\ e ∈ o.after /\ wantE md e = true /\ e.on = j
theorem Wants.used {fin:Nat -> Bool} {listed:Array Bool} {i j:Nat} {oi:Oper} (hij:i ≠ j) (hoi:ops[i]? = some oi) (hwi:∀ e ∈ oi.after,Region.binds md e = true -> listed.getD e.on false = true) (hi:i < listed.size) (hsh:Shut md ops listed) (hun:listed.getD i true = false) (hlj:listed.getD j false = true) (h:Wants md ops fin (listed.setIfInBounds i true) j):Wants md ops fin listed j /\ usedB md ops fin i j = true:=by
 have hna:anc md ops i ops.size j = false:=by
  cases hc:anc md ops i ops.size j with
  | false=>rfl
  | true =>
   have:=hsh.anc i _ _ hc hlj
   simp [hi] at this hun
   rw [hun] at this;cases this
 have hij':(i == j) = false:=by simpa using hij
 unfold usedB
 rw [hna,hij',Bool.not_false,Bool.true_and,Bool.true_and]
 rcases h with h | ⟨k,o,e,hk,hl,he,hb,hj⟩
 ·exact ⟨.inl h,by simp [h]⟩
 ·have hki:k ≠ i:=fun hc=>by
   subst hc;simp [hi] at hl
  rw [getD_set_ne true (Ne.symm hki)] at hl
  have hnk:anc md ops k ops.size i = false:=by
   cases hc:anc md ops k ops.size i with
   | false=>rfl
   | true =>
    have h1:=hsh.ready hoi hwi _ hc
    have hk2:k < listed.size:=by
     rcases Nat.lt_or_ge k listed.size with h' | h'
     ·exact h'
     ·simp [Array.getElem?_eq_none h'] at h1
    simp [hk2] at h1 hl
    rw [h1] at hl;cases hl
  refine ⟨.inr ⟨k,o,e,hk,hl,he,hb,hj⟩,?_⟩
  rw [Bool.or_eq_true];right
  rw [List.any_eq_true]
  refine ⟨k,by simpa using (Array.getElem?_eq_some_iff.1 hk).1,?_⟩
  simp only [hk,Option.map_some,Option.getD_some,Bool.and_eq_true,Bool.not_eq_true',beq_eq_false_iff_ne]
  refine ⟨⟨hki,hnk⟩,?_⟩
  rw [Array.any_eq_true']
  exact ⟨e,he,by simp [hb,hj]⟩
def leftBy (a:Act) (o:Oper):Value:=match o.dst with | some d=>a.tmps.getD d undef | none=>undef
structure FlowAt (md:Region.Mode) (ops:Array Oper) (fin:Nat -> Bool) (R:Array Bool -> World -> Prop) (V:Nat -> Value -> World -> Prop) (D:Nat -> Nat -> Value -> Value -> Prop) (a0:Act) (listed:Array Bool) (a:Act) (w:World):Prop where
 rel:R listed w
 size:a.tmps.size = a0.tmps.size
 defers:a.defers = a0.defers
 out:∀ t,t ∉ dstsL ops -> a.tmps.getD t undef = a0.tmps.getD t undef
 old:∀ (j:Nat) (oj:Oper) (d:Tmp),ops[j]? = some oj -> oj.dst = some d -> listed.getD j false = false -> a.tmps.getD d undef = a0.tmps.getD d undef
 len:listed.size = ops.size
 shut:Shut md ops listed
 val:∀ (i:Nat) (o:Oper),ops[i]? = some o -> listed.getD i false = true -> Wants md ops fin listed i -> V i (leftBy a o) w
 apart:∀ (i j:Nat) (o o':Oper),ops[i]? = some o -> ops[j]? = some o' -> listed.getD i false = true -> listed.getD j false = true -> Wants md ops fin listed i -> Wants md ops fin listed j -> i ≠ j -> D i j (leftBy a o) (leftBy a o')
theorem Zef {i:Nat} {o:Oper} {d:Tmp} (h:ops[i]? = some o) (hd:o.dst = some d):d ∈ dstsL ops:=by
 unfold dstsL
 rw [List.mem_filterMap]
 exact ⟨o,by simpa using Array.mem_of_getElem? h,hd⟩
structure OneEach (ops:Array Oper) (n:Nat):Prop where
 one:∀ (i j:Nat) (oi oj:Oper) (d:Tmp),ops[i]? = some oi -> ops[j]? = some oj -> oi.dst = some d -> oj.dst = some d -> i = j
 fits:∀ d ∈ dstsL ops,d < n
theorem OneEach.mk' {n:Nat} (h:((List.range ops.size).all fun i=>(List.range ops.size).all fun j=>i == j || (match (ops[i]?).bind (·.dst),(ops[j]?).bind (·.dst) with | some d,some e=>!(d == e) | _,_=>true)) = true)
  (hf:((dstsL ops).all fun d=>d < n) = true):OneEach ops n where
 one i j oi oj d hi hj di dj:=by
  rw [List.all_eq_true] at h
  have h1:=h i (by simpa using (Array.getElem?_eq_some_iff.1 hi).1)
  rw [List.all_eq_true] at h1
  have h2:=h1 j (by simpa using (Array.getElem?_eq_some_iff.1 hj).1)
  simpa [hi,hj,di,dj] using h2
 fits d hd:=by
  rw [List.all_eq_true] at hf
  simpa using hf d hd
theorem Zaw {n:Nat} {a:Act} {i j:Nat} {o oj:Oper} {v:Value} (h1:OneEach ops n) (hi:ops[i]? = some o) (hj:ops[j]? = some oj) (hij:i ≠ j):leftBy (a.put o.dst v) oj = leftBy a oj:=by
 unfold leftBy
 cases hdj:oj.dst with
 | none=>rfl
 | some dj =>
  cases hd:o.dst with
  | none=>rfl
  | some d =>
   have:d ≠ dj:=fun e=>hij (h1.one i j o oj d hi hj hd (e ▸ hdj))
   simp [Act.put,Array.getElem?_setIfInBounds_ne this]
theorem Zcf {a:Act} {i:Nat} {o:Oper} {v:Value} (h1:OneEach ops a.tmps.size) (hi:ops[i]? = some o):leftBy (a.put o.dst v) o = (match o.dst with | some _=>v | none=>undef):=by
 unfold leftBy
 cases hd:o.dst with
 | none=>rfl
 | some d =>
  have hlt:d < a.tmps.size:=h1.fits d (Zef hi hd)
  simp [Act.put,hlt]
theorem Zdd {listed:Array Bool} {i:Nat} (hi:i < listed.size):(listed.setIfInBounds i true).getD i false = true:=by simp [hi]
theorem FlowAt.next {fin:Nat -> Bool} {R:Array Bool -> World -> Prop} {V:Nat -> Value -> World -> Prop} {D:Nat -> Nat -> Value -> Value -> Prop} {a0 a:Act} {listed:Array Bool} {w w':World} {i:Nat} {o:Oper} {v:Value}
  (h1:OneEach ops a0.tmps.size) (h:FlowAt md ops fin R V D a0 listed a w) (hi:ops[i]? = some o) (hun:listed.getD i true = false)
  (hw:∀ e ∈ o.after,Region.binds md e = true -> listed.getD e.on false = true)
  (hR:R (listed.setIfInBounds i true) w')
  (hmono:∀ j u,usedB md ops fin i j = true -> V j u w -> (∀ e ∈ o.after,wantE md e = true -> e.on ≠ j -> ∀ oe,ops[e.on]? = some oe -> D e.on j (leftBy a oe) u /\ D j e.on u (leftBy a oe)) →
   V j u w' /\ D i j (match o.dst with | some _=>v | none=>undef) u /\ D j i u (match o.dst with | some _=>v | none=>undef))
  (hv:V i (match o.dst with | some _=>v | none=>undef) w'):FlowAt md ops fin R V D a0 (listed.setIfInBounds i true) (a.put o.dst v) w':=by
 have hil:i < listed.size:=by rw [h.len];exact (Array.getElem?_eq_some_iff.1 hi).1
 have h1a:OneEach ops a.tmps.size:=h.size ▸ h1
 have wi:∀ e ∈ o.after,wantE md e = true -> Wants md ops fin listed e.on:=fun e he hb=>.inr ⟨i,o,e,hi,hun,he,hb,rfl⟩
 have key:∀ (j:Nat) (oj:Oper),i ≠ j -> ops[j]? = some oj -> (listed.setIfInBounds i true).getD j false = true -> Wants md ops fin (listed.setIfInBounds i true) j →
   V j (leftBy a oj) w' /\ D i j (match o.dst with | some _=>v | none=>undef) (leftBy a oj) /\ D j i (leftBy a oj) (match o.dst with | some _=>v | none=>undef):=by
  intro j oj hij hj hl hn
  rw [getD_set_ne false hij] at hl
  obtain ⟨hn',hu⟩:=hn.used hij hi hw hil h.shut hun hl
  refine hmono j _ hu (h.val j oj hj hl hn') fun e he hb hne oe hoe=>?_
  exact ⟨h.apart _ _ _ _ hoe hj (hw e he (Zbe hb)) hl (wi e he hb) hn' hne,h.apart _ _ _ _ hj hoe hl (hw e he (Zbe hb)) hn' (wi e he hb) (Ne.symm hne)⟩
 refine ⟨hR,?_,?_,?_,?_,?_,?_,?_,?_⟩
 ·rw [<- h.size];cases o.dst <;> simp [Act.put]
 ·rw [<- h.defers];cases o.dst <;> simp [Act.put]
 ·intro t ht
  rw [<- h.out t ht]
  cases hd:o.dst with
  | none=>rfl
  | some d =>
   have:d ≠ t:=fun e=>ht (e ▸ Zef hi hd)
   simp [Act.put,Array.getElem?_setIfInBounds_ne this]
 ·intro j oj d hj hd hl
  by_cases hij:i = j
  ·subst hij
   rw [Zdd hil] at hl;cases hl
  ·rw [getD_set_ne false hij] at hl
   rw [<- h.old j oj d hj hd hl]
   cases hd':o.dst with
   | none=>rfl
   | some d' =>
    have:d' ≠ d:=fun e=>hij (h1.one i j o oj d hi hj (e ▸ hd') hd)
    simp [Act.put,Array.getElem?_setIfInBounds_ne this]
 ·rw [<- h.len];simp
 ·intro j oj hj hl e he hb
  by_cases hij:i = j
  ·subst hij
   rw [hi] at hj;cases hj
   exact getD_set_true (hw e he hb)
  ·rw [getD_set_ne false hij] at hl
   exact getD_set_true (h.shut j oj hj hl e he hb)
 ·intro j oj hj hl hn
  by_cases hij:i = j
  ·subst hij
   rw [hi] at hj;cases hj
   rw [Zcf h1a hi];exact hv
  ·rw [Zaw h1a hi hj hij]
   exact (key j oj hij hj hl hn).1
 ·intro j k oj ok hj hk hlj hlk hnj hnk hjk
  by_cases hij:i = j
  ·subst hij
   rw [hi] at hj;cases hj
   rw [Zcf h1a hi,Zaw h1a hi hk hjk]
   exact (key k ok hjk hk hlk hnk).2.1
  ·rw [Zaw h1a hi hj hij]
   by_cases hik:i = k
   ·subst hik
    rw [hi] at hk;cases hk
    rw [Zcf h1a hi]
    exact (key j oj hij hj hlj hnj).2.2
   ·rw [Zaw h1a hi hk hik]
    rw [getD_set_ne false hij] at hlj
    rw [getD_set_ne false hik] at hlk
    exact h.apart _ _ _ _ hj hk hlj hlk (hnj.used hij hi hw hil h.shut hun hlj).1 (hnk.used hik hi hw hil h.shut hun hlk).1 hjk
theorem FlowAt.start {fin:Nat -> Bool} {R:Array Bool -> World -> Prop} {V:Nat -> Value -> World -> Prop} {D:Nat -> Nat -> Value -> Value -> Prop} {a0:Act} {w:World} (h:R (Array.replicate ops.size false) w):FlowAt md ops fin R V D a0 (Array.replicate ops.size false) a0 w where
 rel:=h
 size:=rfl
 defers:=rfl
 out _ _:=rfl
 old _ _ _ _ _ _:=rfl
 len:=by simp
 shut i o hi hl:=by
  exfalso
  have:=(Array.getElem?_eq_some_iff.1 hi).1
  simp [this] at hl
 val i o hi hl _:=by
  exfalso
  have:=(Array.getElem?_eq_some_iff.1 hi).1
  simp [this] at hl
 apart i j o o' hi hj hl _ _ _ _:=by
  exfalso
  have:=(Array.getElem?_eq_some_iff.1 hi).1
  simp [this] at hl
theorem FlowAt.end {fin:Nat -> Bool} {R:Array Bool -> World -> Prop} {V:Nat -> Value -> World -> Prop} {D:Nat -> Nat -> Value -> Value -> Prop} {l:List Value} {d:List Deferred} {listed:Array Bool} {a:Act} {w:World}
  (hb:∀ (i:Nat) (o:Oper),ops[i]? = some o -> ∀ e ∈ o.after,Region.binds md e = true -> e.on < i)
  (h:FlowAt md ops fin R V D ⟨l.toArray,d⟩ listed a w) (hr:Region.ready md ops listed = []) :
  R listed w /\ (∀ i,i < ops.size -> listed.getD i false = true) /\ (∀ (i:Nat) (o:Oper),ops[i]? = some o -> fin i = true -> V i (leftBy a o) w) ∧
  a = ⟨(spread (dstsL ops) (fun t=>a.tmps.getD t undef) 0 l).toArray,d⟩:=by
 refine ⟨h.rel,Zep h.len hb hr,fun i o hi hf=>h.val i o hi (Zep h.len hb hr i (Array.getElem?_eq_some_iff.1 hi).1) (.inl hf),?_⟩
 have h1:=h.size
 have h2:=h.defers
 have h3:=h.out
 cases a with
 | mk tm df =>
  simp only at h1 h2 h3 ⊢
  subst h2
  congr 1
  apply Array.ext_getElem?
  intro t
  have e2:(spread (dstsL ops) (fun t=>tm.getD t undef) 0 l).toArray[t]? = (spread (dstsL ops) (fun t=>tm.getD t undef) 0 l)[t]?:=by simp
  rw [e2,Zdg?]
  simp only [Nat.zero_add]
  have hs:tm.size = l.length:=by simpa using h1
  by_cases ht:t < l.length
  ·have e1:tm[t]? = some (tm.getD t undef):=by simp [hs,ht]
   rw [e1,List.getElem?_eq_getElem ht]
   simp only [Option.map_some,Option.some.injEq]
   cases hc:(dstsL ops).contains t with
   | true=>rfl
   | false =>
    have:t ∉ dstsL ops:=fun hm=>by rw [List.contains_iff_mem.2 hm] at hc;cases hc
    have h4:=h3 t this
    rw [h4];simp [ht]
  ·rw [Array.getElem?_eq_none (by omega),List.getElem?_eq_none (by omega)];rfl
def StepTo (P:Program) (Q:Exit -> Act -> World -> Prop) (o:Oper) (a:Act) (w:World) (K:Act -> World -> Prop):Prop:=o.wp P a w K Q \/ (o.asks P a w /\ LetsOut Q)
theorem Oper.wp_then {P:Program} {Q:Exit -> Act -> World -> Prop} {o:Oper} {a:Act} {w:World} {K:Act -> World -> Prop} (h:o.wp P a w K (Exit.then K Q)):o.wp P a w K Q:=by
 unfold Oper.wp at *
 generalize (execOp a.eval o).run P w = r at *
 cases r with
 | ok n w' =>
  cases n <;> simp only [Oper.upon] at h ⊢ <;>
   first
    | exact h
    | exact Calls.mono h (fun e w'' he=>by cases e <;> exact he)
 | halt x w'=>cases x <;> simp only [Oper.upon] at h ⊢ <;> exact h
theorem Zej {P:Program} {ops:Array Oper} {Q:Exit -> Act -> World -> Prop} {o:Oper} {a:Act} {w:World} {K:Act -> World -> Prop} (hg:o.guard = none)
  (h:wpList P ops (Exit.then K Q) [o] a w):StepTo P Q o a w K:=by
 have hw:Region.wanted o (yielded ops a.tmps) = true:=by simp [Region.wanted,hg]
 simp only [wpList,hw,if_true] at h
 rcases h with h | h
 ·exact .inl (Oper.wp_then h)
 ·exact .inr h
theorem Zab {Q:Exit -> Act -> World -> Prop} {o:Oper} {a:Act} {w w':World} {K:Act -> World -> Prop} {v:Value} (hr:(execOp a.eval o).run P w = .ok (.value v) w') (h:K (a.put o.dst v) w'):StepTo P Q o a w K:=by
 left;unfold Oper.wp;rw [hr];exact h
theorem Zch {Q:Exit -> Act -> World -> Prop} {o:Oper} {a:Act} {w w':World} {K:Act -> World -> Prop} (hr:(execOp a.eval o).run P w = .ok .skip w') (h:K (a.put o.dst undef) w'):StepTo P Q o a w K:=by
 left;unfold Oper.wp;rw [hr];exact h
theorem Zap {Q:Exit -> Act -> World -> Prop} {o:Oper} {a:Act} {w:World} {K:Act -> World -> Prop} {f:FuncId} {args:Array Value} (hr:(execOp a.eval o).run P w = .ok (.enter f args) w)
  (hc:Calls P f args w fun e w'=>∃ v,e = .returned v /\ K (a.put o.dst v) w'):StepTo P Q o a w K:=by
 left;unfold Oper.wp;rw [hr,Oper.upon_enter]
 refine hc.mono ?_
 rintro e w' ⟨v,rfl,h⟩
 exact h
theorem Zyp {fin:Nat -> Bool} {i j:Nat} (hb:backB md ops = true)
  (hf:∀ j,fin j = true -> j < ops.size) (h:usedB md ops fin i j = true) (L:List Nat) (hL:(List.range ops.size).filter (usedB md ops fin i) = L):j ∈ L:=by
 rw [<- hL,List.mem_filter]
 refine ⟨?_,h⟩
 rw [List.mem_range]
 unfold usedB at h
 rw [Bool.and_eq_true,Bool.or_eq_true] at h
 rcases h.2 with h2 | h2
 ·exact hf j h2
 ·rw [List.any_eq_true] at h2
  obtain ⟨k,hk,h3⟩:=h2
  rw [Bool.and_eq_true] at h3
  cases ho:ops[k]? with
  | none=>rw [ho] at h3;simp at h3
  | some o =>
   rw [ho] at h3
   simp only [Option.map_some,Option.getD_some] at h3
   obtain ⟨e,he,h4⟩:=Array.any_eq_true'.1 h3.2
   rw [Bool.and_eq_true,beq_iff_eq] at h4
   unfold backB at hb
   rw [List.all_eq_true] at hb
   have h5:=hb k hk
   rw [ho] at h5
   simp only [Option.map_some,Option.getD_some] at h5
   rw [Array.all_eq_true_iff_forall_mem] at h5
   have h6:=h5 e he
   rw [Zbe h4.1] at h6
   have:=List.mem_range.1 hk
   rw [<- h4.2]
   simp at h6
   omega
theorem Zcd {id:Nat} {l:List Value} {df:List Deferred} {w0:World} (ds:List Tmp) (fin:Nat -> Bool) (R:Array Bool -> World -> Prop) (V:Nat -> Value -> World -> Prop) (D:Nat -> Nat -> Value -> Value -> Prop)
  (hm:P.follows .mixedOrders = true) (hds:dstsL ops = ds) (h1:OneEach ops l.length) (hb:backB .any ops = true)
  (hg:(ops.all fun o=>o.guard.isNone) = true)
  (h0:R (Array.replicate ops.size false) { w0 with drawn:=w0.drawn + 1 })
  (step:∀ (i:Nat) (o:Oper),ops[i]? = some o -> ∀ (listed:Array Bool) (a:Act) (w:World),R listed w -> i < listed.size -> listed.getD i false = false -> (∀ j,anc .any ops i ops.size j = true -> listed.getD j false = false) -> (∀ j,anc .any ops j ops.size i = true -> listed.getD j false = true) -> (∀ t,t ∉ ds -> a.eval (.tmp t) = l.getD t undef) →
   (∀ (j:Nat) (oj:Oper) (d:Tmp),ops[j]? = some oj -> oj.dst = some d -> listed.getD j false = false -> a.eval (.tmp d) = l.getD d undef) →
   (∀ e ∈ o.after,wantE .any e = true -> ∀ oe,ops[e.on]? = some oe -> V e.on (leftBy a oe) w) →
   StepTo P Q o a w (fun a' w'=>∃ v,a' = a.put o.dst v /\ R (listed.setIfInBounds i true) w' /\ (∀ j u,usedB .any ops fin i j = true -> V j u w -> (∀ e ∈ o.after,wantE .any e = true -> e.on ≠ j -> ∀ oe,ops[e.on]? = some oe -> D e.on j (leftBy a oe) u /\ D j e.on u (leftBy a oe)) →
    V j u w' /\ D i j (match o.dst with | some _=>v | none=>undef) u /\ D j i u (match o.dst with | some _=>v | none=>undef)) /\ V i (match o.dst with | some _=>v | none=>undef) w'))
  (done:∀ (listed:Array Bool) (f:Nat -> Value) (w:World),R listed w -> (∀ i,i < ops.size -> listed.getD i false = true) -> (∀ (i:Nat) (o:Oper),ops[i]? = some o -> fin i = true -> V i (match o.dst with | some d=>f d | none=>undef) w) →
   Q .normal ⟨(spread ds f 0 l).toArray,df⟩ w) :
  (Code.region id ops true).wp P Q ⟨l.toArray,df⟩ w0:=by
 subst hds
 have hb':∀ (i:Nat) (o:Oper),ops[i]? = some o -> ∀ e ∈ o.after,Region.binds .any e = true -> e.on < i:=fun i o hi e he hbe=>by
  unfold backB at hb
  rw [List.all_eq_true] at hb
  have h2:=hb i (by simpa using (Array.getElem?_eq_some_iff.1 hi).1)
  rw [hi] at h2
  simp only [Option.map_some,Option.getD_some] at h2
  rw [Array.all_eq_true_iff_forall_mem] at h2
  have h3:=h2 e he
  rw [hbe] at h3
  simpa using h3
 have h1':OneEach ops (Act.mk l.toArray df).tmps.size:=by simpa using h1
 refine wp_region_any hm (Ziz (FlowAt .any ops fin R V D ⟨l.toArray,df⟩) ?_ ?_ _ _ _ _ (Zdb ops) (FlowAt.start h0))
 ·intro listed a w i hI hi
  obtain ⟨hun,o,ho,hw⟩:=mem_ready.1 hi
  have hgo:o.guard = none:=by
   rw [Array.all_eq_true_iff_forall_mem] at hg
   simpa using hg o (Array.mem_of_getElem? ho)
  have hwant:Region.wanted o (yielded ops a.tmps) = true:=by simp [Region.wanted,hgo]
  unfold wpOp
  simp only [ho,hwant,if_true]
  have hil:i < listed.size:=by rw [hI.len];exact (Array.getElem?_eq_some_iff.1 ho).1
  have hunf:listed.getD i false = false:=by simp [hil] at hun ⊢;exact hun
  have hs:=step i o ho listed a w hI.rel hil hunf (fun j hj=>by
   cases hc:listed.getD j false with
   | false=>rfl
   | true=>have:=hI.shut.anc i _ _ hj hc;rw [hunf] at this;cases this) (fun j hj=>hI.shut.ready ho hw _ hj) (fun t ht=>by have:=hI.out t ht;simpa [Act.eval] using this) (fun j oj d hj hd hl=>by have:=hI.old j oj d hj hd hl;simpa [Act.eval] using this) (fun e he hbe oe hoe=>hI.val e.on oe hoe (hw e he (Zbe hbe)) (.inr ⟨i,o,e,ho,hun,he,hbe,rfl⟩))
  exact hs.imp (Oper.wp_mono (fun a' w' h=>by
   obtain ⟨v,rfl,hR,hmono,hv⟩:=h
   exact hI.next h1' ho hun hw hR hmono hv)) (fun h=>h)
 ·intro listed a w hI hr
  obtain ⟨hR,hall,hV,ha⟩:=hI.end hb' hr
  rw [ha]
  exact done _ _ _ hR hall hV
theorem Zeo {id:Nat} {l:List Value} {df:List Deferred} {w0:World} (ds:List Tmp) (fin:Nat -> Bool) (R:Array Bool -> World -> Prop) (V:Nat -> Value -> World -> Prop) (D:Nat -> Nat -> Value -> Value -> Prop)
  (hm:P.follows .mixedOrders = true) (hds:dstsL ops = ds) (h1:OneEach ops l.length) (hb:backB .any ops = true)
  (hg:(ops.all fun o=>o.guard.isNone) = true)
  (h0:R (Array.replicate ops.size false) { w0 with drawn:=w0.drawn + 1 })
  (step:∀ (i:Nat) (o:Oper),ops[i]? = some o -> ∀ (listed:Array Bool) (a:Act) (w:World),R listed w -> i < listed.size -> listed.getD i false = false -> (∀ j,anc .any ops i ops.size j = true -> listed.getD j false = false) -> (∀ j,anc .any ops j ops.size i = true -> listed.getD j false = true) -> (∀ t,t ∉ ds -> a.eval (.tmp t) = l.getD t undef) →
   (∀ e ∈ o.after,wantE .any e = true -> ∀ oe,ops[e.on]? = some oe -> V e.on (leftBy a oe) w) →
   StepTo P Q o a w (fun a' w'=>∃ v,a' = a.put o.dst v /\ R (listed.setIfInBounds i true) w' /\ (∀ j u,usedB .any ops fin i j = true -> V j u w -> (∀ e ∈ o.after,wantE .any e = true -> e.on ≠ j -> ∀ oe,ops[e.on]? = some oe -> D e.on j (leftBy a oe) u /\ D j e.on u (leftBy a oe)) →
    V j u w' /\ D i j (match o.dst with | some _=>v | none=>undef) u /\ D j i u (match o.dst with | some _=>v | none=>undef)) /\ V i (match o.dst with | some _=>v | none=>undef) w'))
  (done:∀ (listed:Array Bool) (f:Nat -> Value) (w:World),R listed w -> (∀ i,i < ops.size -> listed.getD i false = true) -> (∀ (i:Nat) (o:Oper),ops[i]? = some o -> fin i = true -> V i (match o.dst with | some d=>f d | none=>undef) w) →
   Q .normal ⟨(spread ds f 0 l).toArray,df⟩ w) :
  (Code.region id ops true).wp P Q ⟨l.toArray,df⟩ w0 :=
 Zcd ds fin R V D hm hds h1 hb hg h0 (fun i o ho listed a w hR hil hu hd ha ht _ hv=>step i o ho listed a w hR hil hu hd ha ht hv) done
theorem Zhc {F:Fence} {n:Nat} {id:Nat} {l:List Value} {df:List Deferred} {w0:World} (ds:List Tmp) (fin:Nat -> Bool) (R:Array Bool -> World -> Prop) (V:Nat -> Value -> World -> Prop) (D:Nat -> Nat -> Value -> Value -> Prop)
  (hm:P.follows .mixedOrders = true) (hds:dstsL ops = ds) (h1:OneEach ops l.length) (hb:backB .any ops = true)
  (hg:(ops.all fun o=>o.guard.isNone) = true)
  (h0:R (Array.replicate ops.size false) { w0 with drawn:=w0.drawn + 1 })
  (step:∀ (i:Nat) (o:Oper),ops[i]? = some o -> ∀ (listed:Array Bool) (a:Act) (w:World),R listed w -> i < listed.size -> listed.getD i false = false -> (∀ j,anc .any ops i ops.size j = true -> listed.getD j false = false) -> (∀ j,anc .any ops j ops.size i = true -> listed.getD j false = true) -> (∀ t,t ∉ ds -> a.eval (.tmp t) = l.getD t undef) →
   (∀ (j:Nat) (oj:Oper) (d:Tmp),ops[j]? = some oj -> oj.dst = some d -> listed.getD j false = false -> a.eval (.tmp d) = l.getD d undef) →
   (∀ e ∈ o.after,wantE .any e = true -> ∀ oe,ops[e.on]? = some oe -> V e.on (leftBy a oe) w) →
   Oper.wpIn F n P o a w (fun a' w'=>∃ v,a' = a.put o.dst v /\ R (listed.setIfInBounds i true) w' /\ (∀ j u,usedB .any ops fin i j = true -> V j u w -> (∀ e ∈ o.after,wantE .any e = true -> e.on ≠ j -> ∀ oe,ops[e.on]? = some oe -> D e.on j (leftBy a oe) u /\ D j e.on u (leftBy a oe)) →
    V j u w' /\ D i j (match o.dst with | some _=>v | none=>undef) u /\ D j i u (match o.dst with | some _=>v | none=>undef)) /\ V i (match o.dst with | some _=>v | none=>undef) w') Q)
  (done:∀ (listed:Array Bool) (f:Nat -> Value) (w:World),R listed w -> (∀ i,i < ops.size -> listed.getD i false = true) -> (∀ (i:Nat) (o:Oper),ops[i]? = some o -> fin i = true -> V i (match o.dst with | some d=>f d | none=>undef) w) →
   Q .normal ⟨(spread ds f 0 l).toArray,df⟩ w) :
  (Code.region id ops true).wpIn F n P Q ⟨l.toArray,df⟩ w0:=by
 subst hds
 have hb':∀ (i:Nat) (o:Oper),ops[i]? = some o -> ∀ e ∈ o.after,Region.binds .any e = true -> e.on < i:=fun i o hi e he hbe=>by
  unfold backB at hb
  rw [List.all_eq_true] at hb
  have h2:=hb i (by simpa using (Array.getElem?_eq_some_iff.1 hi).1)
  rw [hi] at h2
  simp only [Option.map_some,Option.getD_some] at h2
  rw [Array.all_eq_true_iff_forall_mem] at h2
  have h3:=h2 e he
  rw [hbe] at h3
  simpa using h3
 have h1':OneEach ops (Act.mk l.toArray df).tmps.size:=by simpa using h1
 refine wpIn_region_any hm (Zoj (FlowAt .any ops fin R V D ⟨l.toArray,df⟩) ?_ ?_ _ _ _ _ (Zdb ops) (FlowAt.start h0))
 ·intro listed a w i hI hi
  obtain ⟨hun,o,ho,hw⟩:=mem_ready.1 hi
  have hgo:o.guard = none:=by
   rw [Array.all_eq_true_iff_forall_mem] at hg
   simpa using hg o (Array.mem_of_getElem? ho)
  have hwant:Region.wanted o (yielded ops a.tmps) = true:=by simp [Region.wanted,hgo]
  unfold wpOpIn
  simp only [ho,hwant,if_true]
  have hil:i < listed.size:=by rw [hI.len];exact (Array.getElem?_eq_some_iff.1 ho).1
  have hunf:listed.getD i false = false:=by simp [hil] at hun ⊢;exact hun
  have hs:=step i o ho listed a w hI.rel hil hunf (fun j hj=>by
   cases hc:listed.getD j false with
   | false=>rfl
   | true=>have:=hI.shut.anc i _ _ hj hc;rw [hunf] at this;cases this) (fun j hj=>hI.shut.ready ho hw _ hj) (fun t ht=>by have:=hI.out t ht;simpa [Act.eval] using this) (fun j oj d hj hd hl=>by have:=hI.old j oj d hj hd hl;simpa [Act.eval] using this) (fun e he hbe oe hoe=>hI.val e.on oe hoe (hw e he (Zbe hbe)) (.inr ⟨i,o,e,ho,hun,he,hbe,rfl⟩))
  exact (Oper.wpIn_mono (fun a' w' h=>by
   obtain ⟨v,rfl,hR,hmono,hv⟩:=h
   exact hI.next h1' ho hun hw hR hmono hv) hs)
 ·intro listed a w hI hr
  obtain ⟨hR,hall,hV,ha⟩:=hI.end hb' hr
  rw [ha]
  exact done _ _ _ hR hall hV
theorem Zhb {F:Fence} {n:Nat} {id:Nat} {l:List Value} {df:List Deferred} {w0:World} (ds:List Tmp) (fin:Nat -> Bool) (R:Array Bool -> World -> Prop) (V:Nat -> Value -> World -> Prop) (D:Nat -> Nat -> Value -> Value -> Prop)
  (hm:P.follows .mixedOrders = true) (hds:dstsL ops = ds) (h1:OneEach ops l.length) (hb:backB .any ops = true)
  (hg:(ops.all fun o=>o.guard.isNone) = true)
  (h0:R (Array.replicate ops.size false) { w0 with drawn:=w0.drawn + 1 })
  (step:∀ (i:Nat) (o:Oper),ops[i]? = some o -> ∀ (listed:Array Bool) (a:Act) (w:World),R listed w -> i < listed.size -> listed.getD i false = false -> (∀ j,anc .any ops i ops.size j = true -> listed.getD j false = false) -> (∀ j,anc .any ops j ops.size i = true -> listed.getD j false = true) -> (∀ t,t ∉ ds -> a.eval (.tmp t) = l.getD t undef) →
   (∀ e ∈ o.after,wantE .any e = true -> ∀ oe,ops[e.on]? = some oe -> V e.on (leftBy a oe) w) →
   Oper.wpIn F n P o a w (fun a' w'=>∃ v,a' = a.put o.dst v /\ R (listed.setIfInBounds i true) w' /\ (∀ j u,usedB .any ops fin i j = true -> V j u w -> (∀ e ∈ o.after,wantE .any e = true -> e.on ≠ j -> ∀ oe,ops[e.on]? = some oe -> D e.on j (leftBy a oe) u /\ D j e.on u (leftBy a oe)) →
    V j u w' /\ D i j (match o.dst with | some _=>v | none=>undef) u /\ D j i u (match o.dst with | some _=>v | none=>undef)) /\ V i (match o.dst with | some _=>v | none=>undef) w') Q)
  (done:∀ (listed:Array Bool) (f:Nat -> Value) (w:World),R listed w -> (∀ i,i < ops.size -> listed.getD i false = true) -> (∀ (i:Nat) (o:Oper),ops[i]? = some o -> fin i = true -> V i (match o.dst with | some d=>f d | none=>undef) w) →
   Q .normal ⟨(spread ds f 0 l).toArray,df⟩ w) :
  (Code.region id ops true).wpIn F n P Q ⟨l.toArray,df⟩ w0 :=
 Zhc ds fin R V D hm hds h1 hb hg h0 (fun i o ho listed a w hR hil hu hd ha ht _ hv=>step i o ho listed a w hR hil hu hd ha ht hv) done
end
end Go.Proofs.YtnkpnjnfddjfpaaGreat

namespace Go.Proofs.YtnkpnjnfddjfpaaGreat
open Go.RowKit Go.Shelf
def RepB (w:World) (g n k m:Nat):Prop:=∃ cs:List Value,w.heap[g]? = some (.cells cs.toArray 5 (0,0)) /\ cs.take m = List.replicate m (.int .u8 (k:Nat)) /\ n <= cs.length
theorem RepB.cell {w:World} {g n k m:Nat} (h:RepB w g n k m) (hm:m <= n) {j:Nat} (hj:j < m):w.cell? ⟨g,j,none⟩ = some (.int .u8 (k:Nat)):=by
 obtain ⟨cs,h1,h2,h3⟩:=h
 have:cs[j]? = some (.int .u8 (k:Nat)):=by
  rw [<- List.getElem?_take_of_lt hj,h2,List.getElem?_replicate,if_pos hj]
 simp [World.cell?,h1,this]
theorem RepB.drew {w:World} {g n k m:Nat} (h:RepB w g n k m):RepB w.drew g n k m:=h
theorem Zfd (cs:List Value) (v:Value) (m c:Nat) (h:cs.take m = List.replicate m v) (hm:m + c <= cs.length):(splice cs m (List.replicate c v)).take (m + c) = List.replicate (m + c) v:=by
 unfold splice
 rw [h,<- List.append_assoc,List.replicate_append_replicate,List.take_left' (by simp)]
theorem cutHiB (g m n:Nat) (h:m < n) (w:World):(Instr.sliceAt 22 (.slice (some ⟨g,0,none⟩) n n) (some (.int .i64 (m:Nat))) none none).run Tryz.prog w = .ok (.slice (some ⟨g,m,none⟩) (n - m) (n - m)) w:=by
 have hsz:(Tryz.prog.info? 5).map (·.size) = some 1:=by kernel_rfl
 have h3:m <= n:=by omega
 have h4:¬ n = m:=by omega
 have h6:(if m = 0 then (⟨g,0,none⟩:Addr) else ⟨g,m,none⟩) = ⟨g,m,none⟩:=by
  split
  ·rename_i h;rw [h]
  ·rfl
 cases h5:Tryz.prog.info? 5 with
 | none=>rw [h5] at hsz;cases hsz
 | some ie =>
  simp only [h5,Option.map_some,Option.some.injEq] at hsz
  simp [Instr.sliceAt,Instr.slice,Instr.sliceBounds,Instr.sliceBound,run_underlying Tryz.underlying22,asIntOf,sizeOf,typeInfo,h5,hsz,go_sem,h3,h4,h6,Addr.add]
theorem cutLoB (g m n:Nat) (h:m <= n) (w:World):(Instr.sliceAt 22 (.slice (some ⟨g,0,none⟩) n n) none (some (.int .i64 (m:Nat))) none).run Tryz.prog w = .ok (.slice (some ⟨g,0,none⟩) m n) w:=by
 have hsz:(Tryz.prog.info? 5).map (·.size) = some 1:=by kernel_rfl
 cases h5:Tryz.prog.info? 5 with
 | none=>rw [h5] at hsz;cases hsz
 | some ie =>
  simp only [h5,Option.map_some,Option.some.injEq] at hsz
  simp [Instr.sliceAt,Instr.slice,Instr.sliceBounds,Instr.sliceBound,run_underlying Tryz.underlying22,asIntOf,sizeOf,typeInfo,h5,go_sem,h,Addr.add]
theorem cut3B (g m n c:Nat) (h:m <= c) (w:World):(Instr.sliceAt 22 (.slice (some ⟨g,0,none⟩) n c) none (some (.int .i64 (m:Nat))) (some (.int .i64 (m:Nat)))).run Tryz.prog w = .ok (.slice (some ⟨g,0,none⟩) m m) w:=by
 have hsz:(Tryz.prog.info? 5).map (·.size) = some 1:=by kernel_rfl
 cases h5:Tryz.prog.info? 5 with
 | none=>rw [h5] at hsz;cases hsz
 | some ie =>
  simp only [h5,Option.map_some,Option.some.injEq] at hsz
  simp [Instr.sliceAt,Instr.slice,Instr.sliceBounds,Instr.sliceBound,run_underlying Tryz.underlying22,asIntOf,sizeOf,typeInfo,h5,go_sem,h,Addr.add]
set_option maxRecDepth 100000 in
set_option maxHeartbeats 3200000 in
theorem Zec (n k b:Nat) (h2:n <= 1000000) (w:World) (hr:w.cell? ⟨b,0,none⟩ = some (.int .u8 (k:Nat))) (hb:b < w.heap.size) :
  Calls Tryz.prog 44 #[.slice (some ⟨b,0,none⟩) 1 1,.int .i64 (n:Nat)] w fun e w'=>∃ a,e = .returned (.slice a n n) /\ RowN .u8 w' a n (List.replicate n k) /\ Below w.heap.size w w':=by
 by_cases h1:n = 0
 ·subst h1
  go_enter Tryz.func44,Tryz.ntmps44
  go_wp2
  go_ret
  exact ⟨_,rfl,⟨by simp,⟨by omega,fun h=>by cases h⟩,.inl rfl⟩,Zai w _⟩
 have t1:((n:Int) == 0) = false:=by simp [h1]
 have t2:decide ((9223372036854775807:Int) < (n:Int)) = false:=by simp;omega
 obtain ⟨cs,hrunM,hle,hmx⟩:=Lib.run_makeNoZero (P:=Tryz.prog) w #[3] 22 5 Tryz.underlying22 n (by omega)
 obtain ⟨g,hg⟩:∃ g,w.heap.size = g:=⟨_,rfl⟩
 have HGD:=Zh hg
 obtain ⟨w1,hw1⟩:∃ w1,w.drew.drew.alloc (.cells cs 5) = w1:=⟨_,rfl⟩
 have hcall:(callFunc 87 #[.int .i64 (n:Int)]).run Tryz.prog w = .ok (.value (.slice (some ⟨g,0,none⟩) n cs.size)) w1:=by
  rw [run_callFunc_extern Tryz.func87 (by kernel_rfl) (by kernel_rfl) (by kernel_rfl) (e:=Extern.BytealgMakeNoZero.makeNoZero #[3] #[22]) (by kernel_rfl),hrunM,hw1,hg]
  rfl
 have hB1:Below w.heap.size w w1:=by rw [<- hw1];exact (belDN (belDN (Below.refl _ w) 1) 1).alloc (Nat.le_refl _) _
 have hrow0:w1.heap[g]? = some (.cells cs 5 (0,0)):=by rw [<- hw1,<- hg];exact World.alloc_heap_new _ _
 have hc1:w1.cell? ⟨b,0,none⟩ = some (.int .u8 (k:Nat)):=(hB1.cell (p:=⟨b,0,none⟩) hb).trans hr
 have hs3:=fun W=>cut3B g n n cs.size hle W
 have hs1:∀ j v,[Value.int .u8 (k:Nat)][j]? = some v -> w1.cell? ((⟨b,0,none⟩:Addr).add j) = some v:=by
  intro j v hj
  cases j with
  | zero=>simp only [List.getElem?_cons_zero,Option.some.injEq] at hj;subst hj;exact hc1
  | succ j=>simp at hj
 obtain ⟨w2,hrun,hR1,hB2⟩:∃ w2,(∀ ty,(Builtin.copy_ #[22,22] ty #[.slice (some ⟨g,0,none⟩) n n,.slice (some ⟨b,0,none⟩) 1 1]).run Tryz.prog w1 = .ok (goInt 1) w2) /\ RepB w2 g n k 1 /\ Below w.heap.size w w2:=by
  refine ⟨_,fun ty=>run_copy_row (P:=Tryz.prog) w1 22 22 ty 5 g 0 n n ⟨b,0,none⟩ 1 1 cs 5 [Value.int .u8 (k:Nat)] Tryz.underlying22 (by kernel_rfl) hrow0 (by show 1 = min 1 n;omega) hs1 (by simp;omega) (by intro v hv;simp at hv;subst hv;rfl),⟨_,setRow_heap w1 g _ _ _ _ hrow0,?_,?_⟩,below_setRow hB1 (by omega) _⟩
  ·simp
  ·simp;omega
 have HRUN:=Zh hrun
 have HR1:=Zh hR1
 have HB2:=Zh hB2
 clear hrun hR1 hB2 hrunM hw1 hB1 hrow0 hc1 hs1 hr hg hmx
 by_cases h8:n <= 8192
 ·have t3:decide ((8192:Int) < (n:Int)) = false:=by simp;omega
  go_enter Tryz.func44,Tryz.ntmps44
  go_wp2_with (first | (go_at_call 86;refine (Zom n h2 _).mono ?_;rintro e w' ⟨rfl,rfl⟩))
  rw [HRUN.out]
  simp only [goInt]
  clear HRUN hcall hs3
  go_wp2_with fail
  go_loopw [10,11] (fun i _ A=>∃ m:Nat,1 <= m /\ m <= n /\ i = .int .i64 m /\ RepB A g n k m /\ Below w.heap.size w A) (fun i _ _=>n - (intOf i).toNat)
  case atStart=>exact ⟨1,by omega,by omega,rfl,HR1.out,HB2.out⟩
  case round =>
   clear HR1 HB2
   obtain ⟨m,hm1,hmn',rfl,hcur,hbel⟩:=hrel
   by_cases hlt:m < n
   ·have hlI:(m:Int) < (n:Int):=by omega
    obtain ⟨c,hc⟩:∃ c,Nat.min m (n - m) = c:=⟨_,rfl⟩
    have hcc:c = min m (n - m):=hc.symm
    have hmn:m + c <= n:=by omega
    have hcm:c <= m:=by omega
    have hc1:1 <= c:=by omega
    have hcl:∀ w,(Instr.sliceAt 22 (.slice (some ⟨g,0,none⟩) n n) none (some (.int .i64 (m:Nat))) none).run Tryz.prog w = .ok (.slice (some ⟨g,0,none⟩) m n) w:=fun w=>cutLoB g m n (by omega) w
    have HCUR:=Zh hcur
    have HBEL:=Zh hbel
    have hw1:IntKind.i64.wrap ((m:Int) + (c:Int)) = (m:Int) + (c:Int):=IntWalk.i64_in _ (by omega)
    clear hcur hbel
    go_wp2_with fail
    have hcur:=HCUR.out
    have hbel:=HBEL.out
    refine Zcd [67,68,69,70,71,72,73,74,75,10] (fun j=>j == 9) (fun listed w1=>RepB w1 g n k (if listed.getD 7 false = true then m + c else m) /\ Below w.heap.size w w1) (fun j v _=>match j with | 0=>v = .int .i64 (m:Nat) | 1=>v = .slice (some ⟨g,0,none⟩) n n | 2=>v = .int .i64 (m:Nat) | 3=>v = .slice (some ⟨g,m,none⟩) (n - m) (n - m) | 4=>v = .slice (some ⟨g,0,none⟩) n n | 5=>v = .int .i64 (m:Nat) | 6=>v = .slice (some ⟨g,0,none⟩) m n | 7=>v = .int .i64 (c:Nat) | 8=>v = .int .i64 ((m + c:Nat):Int) | 9=>v = .int .i64 ((m + c:Nat):Int) | _=>True) (fun _ _ _ _=>True) (by kernel_rfl) (by kernel_rfl) (OneEach.mk' (by kernel_rfl) (by kernel_rfl)) (by kernel_rfl) (by kernel_rfl) ⟨by simpa using hcur.drew,belDN hbel 1⟩ ?_ ?_
    ·intro i0 o hi0 listed a1 w1 hR hil hunf hdes hanc hout hold hdep
     have hsz:i0 < 10:=(Array.getElem?_eq_some_iff.1 hi0).1
     have hall:i0 = 0 \/ i0 = 1 \/ i0 = 2 \/ i0 = 3 \/ i0 = 4 \/ i0 = 5 \/ i0 = 6 \/ i0 = 7 \/ i0 = 8 \/ i0 = 9:=by omega
     clear hsz
     rcases hall with rfl | rfl | rfl | rfl | rfl | rfl | rfl | rfl | rfl | rfl <;> simp only [List.getElem?_toArray,List.getElem?_cons_zero,List.getElem?_cons_succ,Option.some.injEq] at hi0 <;> subst hi0
     ·have f10:a1.eval (.tmp 10) = .int .i64 (m:Nat):=hold 9 _ 10 rfl rfl (hdes 9 (by kernel_rfl))
      refine Zab (v:=.int .i64 (m:Nat)) (w':=w1) (by simp [execOp,f10]) ⟨_,rfl,⟨?_,hR.2⟩,fun j u hu hV _=>⟨hV,trivial,trivial⟩,rfl⟩
      rw [Zaa (by decide)];exact hR.1
     ·have f9:a1.eval (.tmp 9) = .slice (some ⟨g,0,none⟩) n n:=hout 9 (by decide)
      refine Zab (v:=.slice (some ⟨g,0,none⟩) n n) (w':=w1) (by simp [execOp,f9]) ⟨_,rfl,⟨?_,hR.2⟩,fun j u hu hV _=>⟨hV,trivial,trivial⟩,rfl⟩
      rw [Zaa (by decide)];exact hR.1
     ·have f10:a1.eval (.tmp 10) = .int .i64 (m:Nat):=hold 9 _ 10 rfl rfl (hdes 9 (by kernel_rfl))
      refine Zab (v:=.int .i64 (m:Nat)) (w':=w1) (by simp [execOp,f10]) ⟨_,rfl,⟨?_,hR.2⟩,fun j u hu hV _=>⟨hV,trivial,trivial⟩,rfl⟩
      rw [Zaa (by decide)];exact hR.1
     ·have e68:a1.eval (.tmp 68) = .slice (some ⟨g,0,none⟩) n n:=hdep ⟨1,.data⟩ (by simp) rfl _ rfl
      have e69:a1.eval (.tmp 69) = .int .i64 (m:Nat):=hdep ⟨2,.data⟩ (by simp) rfl _ rfl
      refine Zab (v:=.slice (some ⟨g,m,none⟩) (n - m) (n - m)) (w':=w1) (by simp [execOp,e68,e69,cutHiB g m n hlt]) ⟨_,rfl,⟨?_,hR.2⟩,fun j u hu hV _=>⟨hV,trivial,trivial⟩,rfl⟩
      rw [Zaa (by decide)];exact hR.1
     ·have f9:a1.eval (.tmp 9) = .slice (some ⟨g,0,none⟩) n n:=hout 9 (by decide)
      refine Zab (v:=.slice (some ⟨g,0,none⟩) n n) (w':=w1) (by simp [execOp,f9]) ⟨_,rfl,⟨?_,hR.2⟩,fun j u hu hV _=>⟨hV,trivial,trivial⟩,rfl⟩
      rw [Zaa (by decide)];exact hR.1
     ·have f11:a1.eval (.tmp 11) = .int .i64 (m:Nat):=hout 11 (by decide)
      refine Zab (v:=.int .i64 (m:Nat)) (w':=w1) (by simp [execOp,f11]) ⟨_,rfl,⟨?_,hR.2⟩,fun j u hu hV _=>⟨hV,trivial,trivial⟩,rfl⟩
      rw [Zaa (by decide)];exact hR.1
     ·have e71:a1.eval (.tmp 71) = .slice (some ⟨g,0,none⟩) n n:=hdep ⟨4,.data⟩ (by simp) rfl _ rfl
      have e72:a1.eval (.tmp 72) = .int .i64 (m:Nat):=hdep ⟨5,.data⟩ (by simp) rfl _ rfl
      refine Zab (v:=.slice (some ⟨g,0,none⟩) m n) (w':=w1) (by simp [execOp,e71,e72,hcl]) ⟨_,rfl,⟨?_,hR.2⟩,fun j u hu hV _=>⟨hV,trivial,trivial⟩,rfl⟩
      rw [Zaa (by decide)];exact hR.1
     ·have e70:a1.eval (.tmp 70) = .slice (some ⟨g,m,none⟩) (n - m) (n - m):=hdep ⟨3,.data⟩ (by simp) rfl _ rfl
      have e73:a1.eval (.tmp 73) = .slice (some ⟨g,0,none⟩) m n:=hdep ⟨6,.data⟩ (by simp) rfl _ rfl
      rw [hunf] at hR
      simp only [Bool.false_eq_true,if_false] at hR
      obtain ⟨cs,hcs1,hcs2,hcs3⟩:=hR.1
      refine Zej (ops:=#[]) rfl (wpList_copy_splice rfl (.tmp 70) (.tmp 73) 22 22 rfl 5 Tryz.underlying22 (by kernel_rfl) _ _ (n - m) (n - m) m n e70 e73 g m cs 5 hcs1 (List.replicate c (.int .u8 (k:Nat))) (by rw [List.length_replicate];exact hc.symm) (fun _=>⟨rfl,_,rfl,fun j v hj=>by
       have hjc:j < c:=by have:=(List.getElem?_eq_some_iff.1 hj).1;simpa using this
       rw [List.getElem?_replicate,if_pos hjc] at hj
       cases hj
       have e:(⟨g,0,none⟩:Addr).add j = ⟨g,j,none⟩:=by unfold Addr.add;split <;> simp_all
       rw [e]
       exact RepB.cell ⟨cs,hcs1,hcs2,hcs3⟩ hmn' (by omega)⟩) (by rw [List.length_replicate];omega) (by intro v hv;rw [(List.mem_replicate.1 hv).2];rfl) w.heap.size w hR.2 (by rw [HGD.out];exact Nat.le_refl _) ?_)
      intro w4 hg4 hb4
      refine ⟨_,rfl,⟨?_,hb4⟩,fun j u hu hV _=>⟨hV,trivial,trivial⟩,by simp [goInt]⟩
      rw [if_pos (Zag hil)]
      exact ⟨_,hg4.out,Zfd cs _ m c hcs2 (by omega),by rw [length_splice cs m _ (by rw [List.length_replicate];omega)];exact hcs3⟩
     ·have e67:a1.eval (.tmp 67) = .int .i64 (m:Nat):=hdep ⟨0,.data⟩ (by simp) rfl _ rfl
      have e74:a1.eval (.tmp 74) = .int .i64 (c:Nat):=hdep ⟨7,.data⟩ (by simp) rfl _ rfl
      refine Zab (v:=.int .i64 ((m + c:Nat):Int)) (w':=w1) (by simp [execOp,e67,e74,eqgA,addI,hw1]) ⟨_,rfl,⟨?_,hR.2⟩,fun j u hu hV _=>⟨hV,trivial,trivial⟩,rfl⟩
      rw [Zaa (by decide)];exact hR.1
     ·have e75:a1.eval (.tmp 75) = .int .i64 ((m + c:Nat):Int):=hdep ⟨8,.data⟩ (by simp) rfl _ rfl
      refine Zab (v:=.int .i64 ((m + c:Nat):Int)) (w':=w1) (by simp [execOp,e75]) ⟨_,rfl,⟨?_,hR.2⟩,fun j u hu hV _=>⟨hV,trivial,trivial⟩,rfl⟩
      rw [Zaa (by decide)];exact hR.1
    ·intro listed f w1 hR hall hV
     have v9:f 10 = .int .i64 ((m + c:Nat):Int):=hV 9 _ rfl rfl
     rw [if_pos (hall 7 (by decide))] at hR
     simp only [spread,List.contains_cons,List.contains_nil,Nat.reduceBEq,Bool.or_false,Bool.or_true,cond_true,cond_false,Nat.reduceAdd,Nat.zero_add,v9]
     go_wp2
     go_roundw
     case rel=>exact ⟨m + c,by omega,hmn,rfl,hR.1,hR.2⟩
     case measure=>simp [intOf];omega
   ·obtain rfl:m = n:=by omega
    have HB:=Zh hbel
    have HC:=Zh hcur
    have HLT:=(Array.getElem?_eq_some_iff.1 hcur.choose_spec.1).1
    clear hcur hbel
    go_wp2
    go_ret
    refine ⟨_,rfl,⟨by simp,⟨by omega,fun h=>by cases h⟩,.inr ⟨g,0,rfl,HLT,fun i hi=>?_⟩⟩,HB.out⟩
    have hi':i < m:=by simpa using hi
    rw [Nat.zero_add,HC.out.cell (Nat.le_refl _) hi']
    simp
 ·have t3:decide ((8192:Int) < (n:Int)) = true:=by simp;omega
  go_enter Tryz.func44,Tryz.ntmps44
  go_wp2_with (first | (go_at_call 86;refine (Zom n h2 _).mono ?_;rintro e w' ⟨rfl,rfl⟩))
  rw [HRUN.out]
  simp only [goInt]
  clear HRUN hcall hs3
  go_wp2_with fail
  go_loopw [10,11] (fun i _ A=>∃ m:Nat,1 <= m /\ m <= n /\ i = .int .i64 m /\ RepB A g n k m /\ Below w.heap.size w A) (fun i _ _=>n - (intOf i).toNat)
  case atStart=>exact ⟨1,by omega,by omega,rfl,HR1.out,HB2.out⟩
  case round =>
   clear HR1 HB2
   obtain ⟨m,hm1,hmn',rfl,hcur,hbel⟩:=hrel
   by_cases hlt:m < n
   ·have hlI:(m:Int) < (n:Int):=by omega
    by_cases hmc:8192 < m
    ·have tm:(8192:Int) < (m:Int):=by omega
     obtain ⟨c,hc⟩:∃ c,Nat.min 8192 (n - m) = c:=⟨_,rfl⟩
     have hcc:c = min 8192 (n - m):=hc.symm
     have hmn:m + c <= n:=by omega
     have hcm:c <= m:=by omega
     have hc1:1 <= c:=by omega
     have hcl:∀ w,(Instr.sliceAt 22 (.slice (some ⟨g,0,none⟩) n n) none (some (.int .i64 8192)) none).run Tryz.prog w = .ok (.slice (some ⟨g,0,none⟩) 8192 n) w:=fun w=>cutLoB g 8192 n (by omega) w
     have HCUR:=Zh hcur
     have HBEL:=Zh hbel
     have hw1:IntKind.i64.wrap ((m:Int) + (c:Int)) = (m:Int) + (c:Int):=IntWalk.i64_in _ (by omega)
     clear hcur hbel
     go_wp2_with fail
     have hcur:=HCUR.out
     have hbel:=HBEL.out
     refine Zcd [67,68,69,70,71,72,73,74,75,10] (fun j=>j == 9) (fun listed w1=>RepB w1 g n k (if listed.getD 7 false = true then m + c else m) /\ Below w.heap.size w w1) (fun j v _=>match j with | 0=>v = .int .i64 (m:Nat) | 1=>v = .slice (some ⟨g,0,none⟩) n n | 2=>v = .int .i64 (m:Nat) | 3=>v = .slice (some ⟨g,m,none⟩) (n - m) (n - m) | 4=>v = .slice (some ⟨g,0,none⟩) n n | 5=>v = .int .i64 8192 | 6=>v = .slice (some ⟨g,0,none⟩) 8192 n | 7=>v = .int .i64 (c:Nat) | 8=>v = .int .i64 ((m + c:Nat):Int) | 9=>v = .int .i64 ((m + c:Nat):Int) | _=>True) (fun _ _ _ _=>True) (by kernel_rfl) (by kernel_rfl) (OneEach.mk' (by kernel_rfl) (by kernel_rfl)) (by kernel_rfl) (by kernel_rfl) ⟨by simpa using hcur.drew,belDN hbel 1⟩ ?_ ?_
     ·intro i0 o hi0 listed a1 w1 hR hil hunf hdes hanc hout hold hdep
      have hsz:i0 < 10:=(Array.getElem?_eq_some_iff.1 hi0).1
      have hall:i0 = 0 \/ i0 = 1 \/ i0 = 2 \/ i0 = 3 \/ i0 = 4 \/ i0 = 5 \/ i0 = 6 \/ i0 = 7 \/ i0 = 8 \/ i0 = 9:=by omega
      clear hsz
      rcases hall with rfl | rfl | rfl | rfl | rfl | rfl | rfl | rfl | rfl | rfl <;> simp only [List.getElem?_toArray,List.getElem?_cons_zero,List.getElem?_cons_succ,Option.some.injEq] at hi0 <;> subst hi0
      ·have f10:a1.eval (.tmp 10) = .int .i64 (m:Nat):=hold 9 _ 10 rfl rfl (hdes 9 (by kernel_rfl))
       refine Zab (v:=.int .i64 (m:Nat)) (w':=w1) (by simp [execOp,f10]) ⟨_,rfl,⟨?_,hR.2⟩,fun j u hu hV _=>⟨hV,trivial,trivial⟩,rfl⟩
       rw [Zaa (by decide)];exact hR.1
      ·have f9:a1.eval (.tmp 9) = .slice (some ⟨g,0,none⟩) n n:=hout 9 (by decide)
       refine Zab (v:=.slice (some ⟨g,0,none⟩) n n) (w':=w1) (by simp [execOp,f9]) ⟨_,rfl,⟨?_,hR.2⟩,fun j u hu hV _=>⟨hV,trivial,trivial⟩,rfl⟩
       rw [Zaa (by decide)];exact hR.1
      ·have f10:a1.eval (.tmp 10) = .int .i64 (m:Nat):=hold 9 _ 10 rfl rfl (hdes 9 (by kernel_rfl))
       refine Zab (v:=.int .i64 (m:Nat)) (w':=w1) (by simp [execOp,f10]) ⟨_,rfl,⟨?_,hR.2⟩,fun j u hu hV _=>⟨hV,trivial,trivial⟩,rfl⟩
       rw [Zaa (by decide)];exact hR.1
      ·have e68:a1.eval (.tmp 68) = .slice (some ⟨g,0,none⟩) n n:=hdep ⟨1,.data⟩ (by simp) rfl _ rfl
       have e69:a1.eval (.tmp 69) = .int .i64 (m:Nat):=hdep ⟨2,.data⟩ (by simp) rfl _ rfl
       refine Zab (v:=.slice (some ⟨g,m,none⟩) (n - m) (n - m)) (w':=w1) (by simp [execOp,e68,e69,cutHiB g m n hlt]) ⟨_,rfl,⟨?_,hR.2⟩,fun j u hu hV _=>⟨hV,trivial,trivial⟩,rfl⟩
       rw [Zaa (by decide)];exact hR.1
      ·have f9:a1.eval (.tmp 9) = .slice (some ⟨g,0,none⟩) n n:=hout 9 (by decide)
       refine Zab (v:=.slice (some ⟨g,0,none⟩) n n) (w':=w1) (by simp [execOp,f9]) ⟨_,rfl,⟨?_,hR.2⟩,fun j u hu hV _=>⟨hV,trivial,trivial⟩,rfl⟩
       rw [Zaa (by decide)];exact hR.1
      ·have f11:a1.eval (.tmp 11) = .int .i64 8192:=hout 11 (by decide)
       refine Zab (v:=.int .i64 8192) (w':=w1) (by simp [execOp,f11]) ⟨_,rfl,⟨?_,hR.2⟩,fun j u hu hV _=>⟨hV,trivial,trivial⟩,rfl⟩
       rw [Zaa (by decide)];exact hR.1
      ·have e71:a1.eval (.tmp 71) = .slice (some ⟨g,0,none⟩) n n:=hdep ⟨4,.data⟩ (by simp) rfl _ rfl
       have e72:a1.eval (.tmp 72) = .int .i64 8192:=hdep ⟨5,.data⟩ (by simp) rfl _ rfl
       refine Zab (v:=.slice (some ⟨g,0,none⟩) 8192 n) (w':=w1) (by simp [execOp,e71,e72,hcl]) ⟨_,rfl,⟨?_,hR.2⟩,fun j u hu hV _=>⟨hV,trivial,trivial⟩,rfl⟩
       rw [Zaa (by decide)];exact hR.1
      ·have e70:a1.eval (.tmp 70) = .slice (some ⟨g,m,none⟩) (n - m) (n - m):=hdep ⟨3,.data⟩ (by simp) rfl _ rfl
       have e73:a1.eval (.tmp 73) = .slice (some ⟨g,0,none⟩) 8192 n:=hdep ⟨6,.data⟩ (by simp) rfl _ rfl
       rw [hunf] at hR
       simp only [Bool.false_eq_true,if_false] at hR
       obtain ⟨cs,hcs1,hcs2,hcs3⟩:=hR.1
       refine Zej (ops:=#[]) rfl (wpList_copy_splice rfl (.tmp 70) (.tmp 73) 22 22 rfl 5 Tryz.underlying22 (by kernel_rfl) _ _ (n - m) (n - m) 8192 n e70 e73 g m cs 5 hcs1 (List.replicate c (.int .u8 (k:Nat))) (by rw [List.length_replicate];exact hc.symm) (fun _=>⟨rfl,_,rfl,fun j v hj=>by
        have hjc:j < c:=by have:=(List.getElem?_eq_some_iff.1 hj).1;simpa using this
        rw [List.getElem?_replicate,if_pos hjc] at hj
        cases hj
        have e:(⟨g,0,none⟩:Addr).add j = ⟨g,j,none⟩:=by unfold Addr.add;split <;> simp_all
        rw [e]
        exact RepB.cell ⟨cs,hcs1,hcs2,hcs3⟩ hmn' (by omega)⟩) (by rw [List.length_replicate];omega) (by intro v hv;rw [(List.mem_replicate.1 hv).2];rfl) w.heap.size w hR.2 (by rw [HGD.out];exact Nat.le_refl _) ?_)
       intro w4 hg4 hb4
       refine ⟨_,rfl,⟨?_,hb4⟩,fun j u hu hV _=>⟨hV,trivial,trivial⟩,by simp [goInt]⟩
       rw [if_pos (Zag hil)]
       exact ⟨_,hg4.out,Zfd cs _ m c hcs2 (by omega),by rw [length_splice cs m _ (by rw [List.length_replicate];omega)];exact hcs3⟩
      ·have e67:a1.eval (.tmp 67) = .int .i64 (m:Nat):=hdep ⟨0,.data⟩ (by simp) rfl _ rfl
       have e74:a1.eval (.tmp 74) = .int .i64 (c:Nat):=hdep ⟨7,.data⟩ (by simp) rfl _ rfl
       refine Zab (v:=.int .i64 ((m + c:Nat):Int)) (w':=w1) (by simp [execOp,e67,e74,eqgA,addI,hw1]) ⟨_,rfl,⟨?_,hR.2⟩,fun j u hu hV _=>⟨hV,trivial,trivial⟩,rfl⟩
       rw [Zaa (by decide)];exact hR.1
      ·have e75:a1.eval (.tmp 75) = .int .i64 ((m + c:Nat):Int):=hdep ⟨8,.data⟩ (by simp) rfl _ rfl
       refine Zab (v:=.int .i64 ((m + c:Nat):Int)) (w':=w1) (by simp [execOp,e75]) ⟨_,rfl,⟨?_,hR.2⟩,fun j u hu hV _=>⟨hV,trivial,trivial⟩,rfl⟩
       rw [Zaa (by decide)];exact hR.1
     ·intro listed f w1 hR hall hV
      have v9:f 10 = .int .i64 ((m + c:Nat):Int):=hV 9 _ rfl rfl
      rw [if_pos (hall 7 (by decide))] at hR
      simp only [spread,List.contains_cons,List.contains_nil,Nat.reduceBEq,Bool.or_false,Bool.or_true,cond_true,cond_false,Nat.reduceAdd,Nat.zero_add,v9]
      go_wp2
      go_roundw
      case rel=>exact ⟨m + c,by omega,hmn,rfl,hR.1,hR.2⟩
      case measure=>simp [intOf];omega
    ·have tm:¬ ((8192:Int) < (m:Int)):=by omega
     obtain ⟨c,hc⟩:∃ c,Nat.min m (n - m) = c:=⟨_,rfl⟩
     have hcc:c = min m (n - m):=hc.symm
     have hmn:m + c <= n:=by omega
     have hcm:c <= m:=by omega
     have hc1:1 <= c:=by omega
     have hcl:∀ w,(Instr.sliceAt 22 (.slice (some ⟨g,0,none⟩) n n) none (some (.int .i64 (m:Nat))) none).run Tryz.prog w = .ok (.slice (some ⟨g,0,none⟩) m n) w:=fun w=>cutLoB g m n (by omega) w
     have HCUR:=Zh hcur
     have HBEL:=Zh hbel
     have hw1:IntKind.i64.wrap ((m:Int) + (c:Int)) = (m:Int) + (c:Int):=IntWalk.i64_in _ (by omega)
     clear hcur hbel
     go_wp2_with fail
     have hcur:=HCUR.out
     have hbel:=HBEL.out
     refine Zcd [67,68,69,70,71,72,73,74,75,10] (fun j=>j == 9) (fun listed w1=>RepB w1 g n k (if listed.getD 7 false = true then m + c else m) /\ Below w.heap.size w w1) (fun j v _=>match j with | 0=>v = .int .i64 (m:Nat) | 1=>v = .slice (some ⟨g,0,none⟩) n n | 2=>v = .int .i64 (m:Nat) | 3=>v = .slice (some ⟨g,m,none⟩) (n - m) (n - m) | 4=>v = .slice (some ⟨g,0,none⟩) n n | 5=>v = .int .i64 (m:Nat) | 6=>v = .slice (some ⟨g,0,none⟩) m n | 7=>v = .int .i64 (c:Nat) | 8=>v = .int .i64 ((m + c:Nat):Int) | 9=>v = .int .i64 ((m + c:Nat):Int) | _=>True) (fun _ _ _ _=>True) (by kernel_rfl) (by kernel_rfl) (OneEach.mk' (by kernel_rfl) (by kernel_rfl)) (by kernel_rfl) (by kernel_rfl) ⟨by simpa using hcur.drew,belDN hbel 1⟩ ?_ ?_
     ·intro i0 o hi0 listed a1 w1 hR hil hunf hdes hanc hout hold hdep
      have hsz:i0 < 10:=(Array.getElem?_eq_some_iff.1 hi0).1
      have hall:i0 = 0 \/ i0 = 1 \/ i0 = 2 \/ i0 = 3 \/ i0 = 4 \/ i0 = 5 \/ i0 = 6 \/ i0 = 7 \/ i0 = 8 \/ i0 = 9:=by omega
      clear hsz
      rcases hall with rfl | rfl | rfl | rfl | rfl | rfl | rfl | rfl | rfl | rfl <;> simp only [List.getElem?_toArray,List.getElem?_cons_zero,List.getElem?_cons_succ,Option.some.injEq] at hi0 <;> subst hi0
      ·have f10:a1.eval (.tmp 10) = .int .i64 (m:Nat):=hold 9 _ 10 rfl rfl (hdes 9 (by kernel_rfl))
       refine Zab (v:=.int .i64 (m:Nat)) (w':=w1) (by simp [execOp,f10]) ⟨_,rfl,⟨?_,hR.2⟩,fun j u hu hV _=>⟨hV,trivial,trivial⟩,rfl⟩
       rw [Zaa (by decide)];exact hR.1
      ·have f9:a1.eval (.tmp 9) = .slice (some ⟨g,0,none⟩) n n:=hout 9 (by decide)
       refine Zab (v:=.slice (some ⟨g,0,none⟩) n n) (w':=w1) (by simp [execOp,f9]) ⟨_,rfl,⟨?_,hR.2⟩,fun j u hu hV _=>⟨hV,trivial,trivial⟩,rfl⟩
       rw [Zaa (by decide)];exact hR.1
      ·have f10:a1.eval (.tmp 10) = .int .i64 (m:Nat):=hold 9 _ 10 rfl rfl (hdes 9 (by kernel_rfl))
       refine Zab (v:=.int .i64 (m:Nat)) (w':=w1) (by simp [execOp,f10]) ⟨_,rfl,⟨?_,hR.2⟩,fun j u hu hV _=>⟨hV,trivial,trivial⟩,rfl⟩
       rw [Zaa (by decide)];exact hR.1
      ·have e68:a1.eval (.tmp 68) = .slice (some ⟨g,0,none⟩) n n:=hdep ⟨1,.data⟩ (by simp) rfl _ rfl
       have e69:a1.eval (.tmp 69) = .int .i64 (m:Nat):=hdep ⟨2,.data⟩ (by simp) rfl _ rfl
       refine Zab (v:=.slice (some ⟨g,m,none⟩) (n - m) (n - m)) (w':=w1) (by simp [execOp,e68,e69,cutHiB g m n hlt]) ⟨_,rfl,⟨?_,hR.2⟩,fun j u hu hV _=>⟨hV,trivial,trivial⟩,rfl⟩
       rw [Zaa (by decide)];exact hR.1
      ·have f9:a1.eval (.tmp 9) = .slice (some ⟨g,0,none⟩) n n:=hout 9 (by decide)
       refine Zab (v:=.slice (some ⟨g,0,none⟩) n n) (w':=w1) (by simp [execOp,f9]) ⟨_,rfl,⟨?_,hR.2⟩,fun j u hu hV _=>⟨hV,trivial,trivial⟩,rfl⟩
       rw [Zaa (by decide)];exact hR.1
      ·have f11:a1.eval (.tmp 11) = .int .i64 (m:Nat):=hout 11 (by decide)
       refine Zab (v:=.int .i64 (m:Nat)) (w':=w1) (by simp [execOp,f11]) ⟨_,rfl,⟨?_,hR.2⟩,fun j u hu hV _=>⟨hV,trivial,trivial⟩,rfl⟩
       rw [Zaa (by decide)];exact hR.1
      ·have e71:a1.eval (.tmp 71) = .slice (some ⟨g,0,none⟩) n n:=hdep ⟨4,.data⟩ (by simp) rfl _ rfl
       have e72:a1.eval (.tmp 72) = .int .i64 (m:Nat):=hdep ⟨5,.data⟩ (by simp) rfl _ rfl
       refine Zab (v:=.slice (some ⟨g,0,none⟩) m n) (w':=w1) (by simp [execOp,e71,e72,hcl]) ⟨_,rfl,⟨?_,hR.2⟩,fun j u hu hV _=>⟨hV,trivial,trivial⟩,rfl⟩
       rw [Zaa (by decide)];exact hR.1
      ·have e70:a1.eval (.tmp 70) = .slice (some ⟨g,m,none⟩) (n - m) (n - m):=hdep ⟨3,.data⟩ (by simp) rfl _ rfl
       have e73:a1.eval (.tmp 73) = .slice (some ⟨g,0,none⟩) m n:=hdep ⟨6,.data⟩ (by simp) rfl _ rfl
       rw [hunf] at hR
       simp only [Bool.false_eq_true,if_false] at hR
       obtain ⟨cs,hcs1,hcs2,hcs3⟩:=hR.1
       refine Zej (ops:=#[]) rfl (wpList_copy_splice rfl (.tmp 70) (.tmp 73) 22 22 rfl 5 Tryz.underlying22 (by kernel_rfl) _ _ (n - m) (n - m) m n e70 e73 g m cs 5 hcs1 (List.replicate c (.int .u8 (k:Nat))) (by rw [List.length_replicate];exact hc.symm) (fun _=>⟨rfl,_,rfl,fun j v hj=>by
        have hjc:j < c:=by have:=(List.getElem?_eq_some_iff.1 hj).1;simpa using this
        rw [List.getElem?_replicate,if_pos hjc] at hj
        cases hj
        have e:(⟨g,0,none⟩:Addr).add j = ⟨g,j,none⟩:=by unfold Addr.add;split <;> simp_all
        rw [e]
        exact RepB.cell ⟨cs,hcs1,hcs2,hcs3⟩ hmn' (by omega)⟩) (by rw [List.length_replicate];omega) (by intro v hv;rw [(List.mem_replicate.1 hv).2];rfl) w.heap.size w hR.2 (by rw [HGD.out];exact Nat.le_refl _) ?_)
       intro w4 hg4 hb4
       refine ⟨_,rfl,⟨?_,hb4⟩,fun j u hu hV _=>⟨hV,trivial,trivial⟩,by simp [goInt]⟩
       rw [if_pos (Zag hil)]
       exact ⟨_,hg4.out,Zfd cs _ m c hcs2 (by omega),by rw [length_splice cs m _ (by rw [List.length_replicate];omega)];exact hcs3⟩
      ·have e67:a1.eval (.tmp 67) = .int .i64 (m:Nat):=hdep ⟨0,.data⟩ (by simp) rfl _ rfl
       have e74:a1.eval (.tmp 74) = .int .i64 (c:Nat):=hdep ⟨7,.data⟩ (by simp) rfl _ rfl
       refine Zab (v:=.int .i64 ((m + c:Nat):Int)) (w':=w1) (by simp [execOp,e67,e74,eqgA,addI,hw1]) ⟨_,rfl,⟨?_,hR.2⟩,fun j u hu hV _=>⟨hV,trivial,trivial⟩,rfl⟩
       rw [Zaa (by decide)];exact hR.1
      ·have e75:a1.eval (.tmp 75) = .int .i64 ((m + c:Nat):Int):=hdep ⟨8,.data⟩ (by simp) rfl _ rfl
       refine Zab (v:=.int .i64 ((m + c:Nat):Int)) (w':=w1) (by simp [execOp,e75]) ⟨_,rfl,⟨?_,hR.2⟩,fun j u hu hV _=>⟨hV,trivial,trivial⟩,rfl⟩
       rw [Zaa (by decide)];exact hR.1
     ·intro listed f w1 hR hall hV
      have v9:f 10 = .int .i64 ((m + c:Nat):Int):=hV 9 _ rfl rfl
      rw [if_pos (hall 7 (by decide))] at hR
      simp only [spread,List.contains_cons,List.contains_nil,Nat.reduceBEq,Bool.or_false,Bool.or_true,cond_true,cond_false,Nat.reduceAdd,Nat.zero_add,v9]
      go_wp2
      go_roundw
      case rel=>exact ⟨m + c,by omega,hmn,rfl,hR.1,hR.2⟩
      case measure=>simp [intOf];omega
   ·obtain rfl:m = n:=by omega
    have HB:=Zh hbel
    have HC:=Zh hcur
    have HLT:=(Array.getElem?_eq_some_iff.1 hcur.choose_spec.1).1
    clear hcur hbel
    go_wp2
    go_ret
    refine ⟨_,rfl,⟨by simp,⟨by omega,fun h=>by cases h⟩,.inr ⟨g,0,rfl,HLT,fun i hi=>?_⟩⟩,HB.out⟩
    have hi':i < m:=by simpa using hi
    rw [Nat.zero_add,HC.out.cell (Nat.le_refl _) hi']
    simp
end Go.Proofs.YtnkpnjnfddjfpaaGreat

namespace Go.Proofs.YtnkpnjnfddjfpaaGreat
open Go.RowKit Go.Shelf M01 M02 M27
def RowMay (w:World) (R:Option (List Nat)) (e:Ending) (w':World):Prop :=
 Below w.heap.size w w' /\ match R with
 | some l=>∃ a c,e = .returned (.tuple #[.slice a l.length c,.int .i64 0]) /\ OwnN 5 .u8 w' w.heap.size a c l
 | none=>e = .returned (.tuple #[.slice none 0 0,.int .i64 2])
theorem RowMay.none {w w':World} {R:Option (List Nat)} (hR:R = none) (h:Below w.heap.size w w'):RowMay w R (.returned (.tuple #[.slice none 0 0,.int .i64 2])) w':=by
 subst hR;exact ⟨h,rfl⟩
theorem RowMay.some {w w':World} {R:Option (List Nat)} {l:List Nat} {a:Option Addr} {c:Nat} (hR:R = some l) (h:Below w.heap.size w w') (ho:OwnN 5 .u8 w' w.heap.size a c l):RowMay w R (.returned (.tuple #[.slice a l.length c,.int .i64 0])) w':=by
 subst hR;exact ⟨h,a,c,rfl,ho⟩
theorem Zut {l:List Nat} (h:rising l = true):∀ i (hi:i + 1 < l.length),l[i] < l[i + 1]:=by
 induction l with
 | nil=>intro i hi;simp at hi
 | cons a l ih =>
  cases l with
  | nil=>intro i hi;simp at hi
  | cons b l =>
   simp only [rising,Bool.and_eq_true,decide_eq_true_eq] at h
   intro i hi
   cases i with
   | zero=>exact h.1
   | succ i=>exact ih h.2 i (by simpa using hi)
theorem Zjq {l:List Nat} {i:Nat} (hi:i < l.length):l.drop i = l[i] :: l.drop (i + 1):=List.drop_eq_getElem_cons hi
theorem FrSt.belowAt {w w':World} {lb g cap n:Nat} {l:List Nat} (h:FrSt w lb g cap l) (hb:Below n w w') (h1:lb < n) (h2:g < n):FrSt w' lb g cap l:=by
 obtain ⟨hl,ho,hne⟩:=h
 refine ⟨(hb.block lb h1).trans hl,?_,hne⟩
 refine ⟨ho.1,?_⟩
 rcases ho.2 with e | ⟨g',c,cur,e1,e2,e3,e4⟩
 ·exact .inl e
 ·simp only [Value.slice.injEq,Option.some.injEq,Addr.mk.injEq,and_true,true_and] at e1
  obtain ⟨rfl,rfl⟩:=e1
  exact .inr ⟨g,cap,cur,rfl,e2,(hb.block g h2).trans e3,e4⟩
theorem Zqc {l:List Nat} (h:l ≠ []):∃ x,l.getD 0 0 = x /\ toFront l 0 = l:=by
 cases l with
 | nil=>exact absurd rfl h
 | cons a l=>exact ⟨a,rfl,by simp [toFront]⟩
set_option maxRecDepth 100000 in
set_option maxHeartbeats 12800000 in
theorem Zte (w:World) (ua sa:Option Addr) (ucap scap:Nat) (used symbols:List Nat) (most:Nat) (hu:RowN .u8 w ua ucap used) (hs:RowN .i64 w sa scap symbols)
  (hu0:used ≠ []) (hur:rising used = true) (hu256:used.length <= 256) (hsl:symbols.length <= 100000000) (hm:most <= 900000) :
  Calls Tryz.prog 84 #[.slice ua used.length ucap,.slice sa symbols.length scap,.int .i64 (most:Nat)] w fun e w'=>RowMay w (frontG used symbols most) e w':=by
 obtain ⟨R,hR0⟩:∃ R,R = frontG used symbols most:=⟨_,rfl⟩
 rw [<- hR0]
 have HR0:Hid (R = frL used most symbols used [] 1):=hR0
 have hul:0 < used.length:=List.length_pos_iff.2 hu0
 have HU0:=Zh hu0
 have HS:=Zh hs
 have HRI:=Zh (Zut hur)
 have t1:((used.length:Int) == 0) = false:=by simp;omega
 have t2:decide ((most:Int) < 0) = false:=by simp
 have t3:decide ((900000:Int) < (most:Int)) = false:=by simp;omega
 clear hR0 hs hu0 hur
 go_enter Tryz.func84,Tryz.ntmps84
 go_wp2_with fail
 go_loopw [8] (fun iv A=>∃ i:Nat,iv = .int .i64 (i:Nat) /\ 1 <= i /\ i <= used.length /\ ∃ q,A = w.drewN q) (fun iv _=>used.length - (intOf iv).toNat)
 case atStart=>exact ⟨1,rfl,by omega,hul,0,rfl⟩
 case round =>
  obtain ⟨i,rfl,hi1,hi2,q,rfl⟩:=hrel
  by_cases hlt:i < used.length
  ·have t4:decide (i < used.length) = true:=decide_eq_true hlt
   have hc:=HRI.out (i - 1) (by omega)
   obtain ⟨b,off,rfl,hb,c1⟩:=hu.at (i:=i - 1) (by omega)
   obtain ⟨b',off',hb',_,c2⟩:=hu.at hlt
   obtain ⟨j,rfl⟩:∃ j,i = j + 1:=⟨i - 1,by omega⟩
   simp only [Option.some.injEq,Addr.mk.injEq,and_true] at hb'
   obtain ⟨rfl,rfl⟩:=hb'
   simp only [Nat.add_sub_cancel] at hc c1
   generalize used[j + 1] = y at *
   generalize used[j] = x at *
   have t5:decide ((y:Int) <= (x:Int)) = false:=by simp;omega
   have t6:IntKind.i64.wrap (((j + 1:Nat):Int) - 1) = (j:Int):=by rw [IntWalk.i64_in _ (by omega)];omega
   have t7:(((j + 1:Nat):Int) - 1) = (j:Int):=by omega
   have t8:(j:Int) < (used.length:Int):=by omega
   have t9:((j:Int) + 1) < (used.length:Int):=by omega
   have t10:IntKind.i64.wrap ((j:Int) + 1) = (j:Int) + 1:=IntWalk.i64_in _ (by omega)
   go_wp2_with fail
   go_quiet (fail)
   go_wp2
   go_roundw
   case rel=>exact ⟨j + 1 + 1,by go_num,by omega,by omega,q + nq,rfl⟩
   case measure=>simp [intOf];omega
  ·obtain rfl:i = used.length:=by omega
   have t4:decide (used.length < used.length) = false:=by simp
   have HD:=Zh (Zah (fun _=>False) w q)
   have HB:=Zh (belDN (Below.refl w.heap.size w) q)
   have hu2:=hu.drewN q
   have HS2:=Zh (HS.out.drewN q)
   have hsz:(w.drewN q).heap.size = w.heap.size:=rfl
   clear hu HRI hi2 hi1 HD
   generalize w.drewN q = w1 at *
   go_wp2_with fail
   refine (Zxf w1 ua ucap used hu2 (by omega) HU0.out).mono ?_
   rintro e w2 ⟨f0,lb,g,c',rfl,hfr,hb2,hlb,hg⟩
   have HFR:=Zh hfr
   have HB2:=Zh (HB.out.trans (hb2.mono (by rw [hsz];exact Nat.le_refl _)))
   have hlb2:lb < w2.heap.size:=(Array.getElem?_eq_some_iff.1 hfr.1).1
   have hg2:g < w2.heap.size:=by
    obtain ⟨_,h,_⟩:=hfr.take
    exact (Array.getElem?_eq_some_iff.1 h).1
   have hww:w.heap.size <= w2.heap.size:=HB2.out.size
   obtain ⟨B0,hB0⟩:∃ B0,w2.heap.size = B0:=⟨_,rfl⟩
   simp only [hB0] at hlb2 hg2 hww
   have HB0:=Zh hB0
   rw [hsz] at hlb hg
   clear hfr hb2 HB HS2 hu2 hB0 hsz t1 t2 t3 t4
   have hwe:IntKind.i64.wrap ((used.length:Int) + 1) = (used.length:Int) + 1:=IntWalk.i64_in _ (by omega)
   obtain ⟨E,hE⟩:∃ E,used.length + 1 = E:=⟨_,rfl⟩
   have hwe2:(used.length:Int) + 1 = (E:Int):=by omega
   rw [hwe2] at hwe
   go_wp2_with fail
   go_loopw [12,13,55] (fun ov wv iv A=>∃ (i:Nat) (out l:List Nat) (worth:Nat) (a':Option Addr) (c2:Nat),iv = .int .i64 (i:Nat) /\ wv = .int .i64 (worth:Nat) /\ ov = .slice a' out.length c2 /\ i <= symbols.length /\ out.length <= most /\ 1 <= worth /\ worth <= 1800001 /\ l.length = used.length /\ OwnN 5 .u8 A B0 a' c2 out /\ FrSt A lb g c' l /\ Below w.heap.size w A /\ B0 <= A.heap.size /\ Hid ((i < symbols.length -> R = frL used most (symbols.drop i) l out worth) /\ (i = symbols.length -> 0 < symbols.length -> R = some out))) (fun _ _ iv _=>symbols.length - (intOf iv).toNat)
   case atStart=>exact ⟨0,[],used,1,none,0,rfl,rfl,rfl,by omega,by simp,by omega,by omega,rfl,OwnN.nil _ _ _ _,HFR.out,HB2.out,by rw [HB0.out];exact Nat.le_refl _,⟨fun _=>HR0.out,fun h1 h2=>absurd h1 (by omega)⟩⟩
   case round =>
    clear HFR HB2 HB0
    obtain ⟨i,out,l,worth,a1,c1,rfl,rfl,rfl,hi,hol,hw0,hwo,hll,how,hfr,hbw,hzA,HE⟩:=hrel
    have HW:=Zh how
    have HFR:=Zh hfr
    have HBW:=Zh hbw
    clear how hfr hbw
    by_cases hlt:i < symbols.length
    ·have t0:decide (i < symbols.length) = true:=decide_eq_true hlt
     have hE1:=HE.out.1 hlt
     rw [Zjq hlt] at hE1
     obtain ⟨sb,soff,rfl,hsb,hsc⟩:=(HS.out.below HBW.out).at hlt
     generalize symbols[i] = s at *
     have hrr:(symbols.drop (i + 1) = []) ↔ i + 1 = symbols.length:=by
      rw [List.drop_eq_nil_iff];omega
     unfold frL at hE1
     rw [hE] at hE1
     have HE1:=Zh hE1
     have HRR:=Zh hrr
     obtain ⟨N,hNN⟩:∃ N,symbols.length = N:=⟨_,rfl⟩
     have HNN:=Zh hNN
     rw [hNN] at t0 hlt hi hsl ⊢
     have hw1:IntKind.i64.wrap ((N:Int) - 1) = (N:Int) - 1:=IntWalk.i64_in _ (by omega)
     have hii:IntKind.i64.wrap ((i:Int) + 1) = ((i + 1:Nat):Int):=by rw [IntWalk.i64_in _ (by omega)];omega
     have hii2:(i:Int) + 1 = ((i + 1:Nat):Int):=by omega
     clear HE hE1 hrr hNN
     have f1:decide ((s:Int) < 0) = false:=by simp
     by_cases hs1:E < s
     ·have f2:decide ((E:Int) < (s:Int)) = true:=by simp;omega
      have HR:Hid (R = none):=by unfold Hid;rw [HE1.out,if_pos (.inl hs1)]
      clear HE1
      go_wp2
      go_ret2
      exact RowMay.none HR.out HBW.out
     have f2:decide ((E:Int) < (s:Int)) = false:=by simp;omega
     by_cases hlast:i + 1 = N
     ·have f4:((i:Int) == (N:Int) - 1) = true:=by simp;omega
      by_cases hse:s = E
      ·have f3:((s:Int) == (E:Int)) = true:=by simp [hse]
       have f5:((s:Int) == 1) = false:=by simp;omega
       have f6:((s:Int) == 0) = false:=by simp;omega
       have f7:decide ((s:Int) < (E:Int)) = false:=by simp;omega
       have f8:IntKind.i64.wrap ((most:Int) - (out.length:Int)) = (most:Int) - (out.length:Int):=IntWalk.i64_in _ (by omega)
       have f9:decide ((most:Int) - (out.length:Int) < 0) = false:=by simp;omega
       have f10:decide ((most:Int) < (out.length:Int)) = false:=by simp;omega
       have HR:Hid (R = some out):=by
        unfold Hid
        rw [HE1.out,if_neg (by rw [hse,HRR.out,HNN.out];simp [hlast]),if_neg (by omega),if_pos hse,if_neg (by omega)]
       clear HE1
       go_wp2
       go_roundw
       case rel=>exact ⟨i + 1,out,l,worth,a1,c1,by go_num,rfl,rfl,by omega,hol,hw0,hwo,hll,HW.out,HFR.out,HBW.out,hzA,⟨fun h=>absurd h (by omega),fun _ _=>HR.out⟩⟩
       case measure=>simp [intOf];omega
      ·have f3:((s:Int) == (E:Int)) = false:=by simp;omega
       have HR:Hid (R = none):=by
        unfold Hid
        rw [HE1.out,if_pos (.inr (by rw [HRR.out,HNN.out];simp [hlast,hse]))]
       clear HE1
       go_wp2
       go_ret2
       exact RowMay.none HR.out HBW.out
     have f4:((i:Int) == (N:Int) - 1) = false:=by simp;omega
     by_cases hse:s = E
     ·have f3:((s:Int) == (E:Int)) = true:=by simp [hse]
      have HR:Hid (R = none):=by
       unfold Hid
       rw [HE1.out,if_pos (.inr (by rw [HRR.out,HNN.out];simp [hlast,hse]))]
      clear HE1
      go_wp2
      go_ret2
      exact RowMay.none HR.out HBW.out
     have f3:((s:Int) == (E:Int)) = false:=by simp;omega
     rw [if_neg (by rw [HRR.out,HNN.out];simp [hlast,hse];omega)] at HE1
     have f7:decide ((s:Int) < (E:Int)) = true:=by simp;omega
     have f8:IntKind.i64.wrap ((most:Int) - (out.length:Int)) = (most:Int) - (out.length:Int):=IntWalk.i64_in _ (by omega)
     by_cases hs2:s <= 1
     ·rw [if_pos hs2] at HE1
      obtain ⟨m,hm1⟩:∃ m,worth * (s + 1) = m:=⟨_,rfl⟩
      rw [hm1] at HE1
      have hm0:m <= 2 * worth /\ 0 < m:=⟨by rw [<- hm1,Nat.mul_comm];exact Nat.mul_le_mul_right _ (by omega),by rw [<- hm1];exact Nat.mul_pos (by omega) (by omega)⟩
      have hm2:(s = 0 /\ m = worth) \/ (s = 1 /\ m = 2 * worth):=by
       rcases (by omega:s = 0 \/ s = 1) with rfl | rfl
       ·exact .inl ⟨rfl,by omega⟩
       ·exact .inr ⟨rfl,by omega⟩
      have g1:IntKind.i64.wrap (worth:Int) = (worth:Int):=IntWalk.i64_in _ (by omega)
      have g2:IntKind.i64.wrap ((worth:Int) * 2) = ((2 * worth:Nat):Int):=by rw [IntWalk.i64_in _ (by omega)];omega
      have g3:IntKind.i64.wrap ((worth:Int) + (worth:Int)) = ((2 * worth:Nat):Int):=by rw [IntWalk.i64_in _ (by omega)];omega
      have g4:((worth:Int) * 2) = ((2 * worth:Nat):Int):=by omega
      have g5:((worth:Int) + (worth:Int)) = ((2 * worth:Nat):Int):=by omega
      have hgt:0 < 2 * worth:=by omega
      have hwb:2 * worth <= 3600002:=by omega
      have q1:decide ((E:Int) < 0) = false:=by simp
      have q2:decide ((E:Int) < 1) = false:=by simp;omega
      have q3:((0:Int) == (E:Int)) = false:=by simp;omega
      have q4:((1:Int) == (E:Int)) = false:=by simp;omega
      obtain ⟨x0,hx0,htf⟩:=Zqc (l:=l) (by intro e;rw [e] at hll;simp at hll;omega)
      rw [hx0] at HE1
      obtain ⟨Lw,hLw⟩:∃ Lw,2 * worth = Lw:=⟨_,rfl⟩
      rw [hLw] at g2 g3 g4 g5 hgt hwb hm2 HE1
      have HLw:=Zh hLw
      clear hLw hm1 HRR
      by_cases hbig:most < out.length + m
      ·have HR:Hid (R = none):=by unfold Hid;rw [HE1.out,if_pos hbig]
       have f9:decide ((most:Int) - (out.length:Int) < (m:Int)) = true:=by simp;omega
       clear HE1
       rcases hm2 with ⟨rfl,rfl⟩ | ⟨rfl,rfl⟩
       ·go_wp2
        go_ret2
        exact RowMay.none HR.out HBW.out
       ·go_wp2
        go_ret2
        exact RowMay.none HR.out HBW.out
      ·rw [if_neg hbig] at HE1
       have f9:decide ((most:Int) - (out.length:Int) < (m:Int)) = false:=by simp;omega
       have f10:decide ((most:Int) < (out.length:Int)) = false:=by simp;omega
       have f11:decide ((0:Int) < (m:Int)) = true:=by simp;omega
       have HAT:=Zh (Zta wr lb g c' l 0 (by omega) (by omega) HFR.out)
       rw [hx0,htf] at HAT
       have hmm:m <= 1000000:=by omega
       rcases hm2 with ⟨rfl,hmw⟩ | ⟨rfl,hmw⟩
       ·subst hmw
        go_wp2_with (refine HAT.out.mono ?_;rintro e w5 ⟨rfl,hls5,ho5⟩;have HLS5:=Zh hls5;have HO5:=Zh ho5;clear hls5 ho5 HAT)
        have hz5:=HO5.out.size
        have hcx:(w5.alloc (.cells #[.int .u8 (x0:Nat)] 5)).cell? ⟨w5.heap.size,0,none⟩ = some (.int .u8 (x0:Nat)):=cell_of_one (World.alloc_heap_new _ _)
        refine (Zec m x0 w5.heap.size hmm _ hcx (by simp)).mono ?_
        rintro e w6 ⟨a6,rfl,hr6,hb6⟩
        have HR6:=Zh hr6
        have hb6':=(Zai w5 (.cells #[.int .u8 (x0:Nat)] 5)).trans (hb6.mono (by simp))
        have hz6:=hb6'.size
        have HB6:=Zh hb6'
        have HW6:=Zh ((HW.out.only HO5.out (fun b hb=>by show b ≠ g;omega)).below HB6.out)
        have HWB:=Zh hwb
        have HM:=Zh hm
        have HWO:=Zh hwo
        have HSL:=Zh hsl
        have hol3:out.length + m <= most:=by omega
        have hol4:=Zh (show out.length + m <= 9223372036854775807 by omega)
        have hol5:=Zh (show (out.length + m) * 1 <= 140737488355328 by omega)
        clear hr6 hb6 hb6' hcx hmm hwb hm hwo hsl
        go_wp2_with (at_builtin;refine appAnyN Zaz rfl (.tmp 120) (.tmp 124) rfl (base:=B0) (m:=m) (l:=out) (ys:=List.replicate m x0) rfl HW6.out (List.length_replicate ..).symm rfl HR6.out hol4.out hol5.out (by omega) ?_;intro a7 c7 w7 ho7 hg7 hb7;have HO7:=Zh ho7;have HB7:=Zh hb7;have hz7:=hb7.size;clear ho7 hb7 hg7 g1 g2 g3 g4 g5 hgt f8 f9 f10 f11 q1 q2 q3 q4 f1 f2 f3 f4 hw1 hu256 hwe hwe2 hii2)
        have hol2:(out ++ List.replicate m x0).length = out.length + m:=by rw [List.length_append,List.length_replicate]
        go_roundw
        case rel=>exact ⟨i + 1,out ++ List.replicate m x0,l,Lw,a7,c7,by go_num,rfl,by rw [hol2],by omega,by rw [hol2];omega,by have:=HLw.out;omega,by have:=HLw.out;have:=HM.out;omega,hll,HO7.out,(HLS5.out.belowAt HB6.out (by omega) (by omega)).belowAt HB7.out hlb2 hg2,((Below.only HBW.out HO5.out (Nat.le_refl _) (fun b hb=>by show w.heap.size <= b;omega)).trans (HB6.out.mono (by omega))).trans (HB7.out.mono hww),by omega,⟨fun _=>HE1.out,fun h1 h2=>absurd h1 (by omega)⟩⟩
        case measure=>simp [intOf];omega
       ·subst hmw
        go_wp2_with (refine HAT.out.mono ?_;rintro e w5 ⟨rfl,hls5,ho5⟩;have HLS5:=Zh hls5;have HO5:=Zh ho5;clear hls5 ho5 HAT)
        have hz5:=HO5.out.size
        have hcx:(w5.alloc (.cells #[.int .u8 (x0:Nat)] 5)).cell? ⟨w5.heap.size,0,none⟩ = some (.int .u8 (x0:Nat)):=cell_of_one (World.alloc_heap_new _ _)
        refine (Zec m x0 w5.heap.size hmm _ hcx (by simp)).mono ?_
        rintro e w6 ⟨a6,rfl,hr6,hb6⟩
        have HR6:=Zh hr6
        have hb6':=(Zai w5 (.cells #[.int .u8 (x0:Nat)] 5)).trans (hb6.mono (by simp))
        have hz6:=hb6'.size
        have HB6:=Zh hb6'
        have HW6:=Zh ((HW.out.only HO5.out (fun b hb=>by show b ≠ g;omega)).below HB6.out)
        have HWB:=Zh hwb
        have HM:=Zh hm
        have HWO:=Zh hwo
        have HSL:=Zh hsl
        have hol3:out.length + m <= most:=by omega
        have hol4:=Zh (show out.length + m <= 9223372036854775807 by omega)
        have hol5:=Zh (show (out.length + m) * 1 <= 140737488355328 by omega)
        clear hr6 hb6 hb6' hcx hmm hwb hm hwo hsl
        go_wp2_with (at_builtin;refine appAnyN Zaz rfl (.tmp 120) (.tmp 124) rfl (base:=B0) (m:=m) (l:=out) (ys:=List.replicate m x0) rfl HW6.out (List.length_replicate ..).symm rfl HR6.out hol4.out hol5.out (by omega) ?_;intro a7 c7 w7 ho7 hg7 hb7;have HO7:=Zh ho7;have HB7:=Zh hb7;have hz7:=hb7.size;clear ho7 hb7 hg7 g1 g2 g3 g4 g5 hgt f8 f9 f10 f11 q1 q2 q3 q4 f1 f2 f3 f4 hw1 hu256 hwe hwe2 hii2)
        have hol2:(out ++ List.replicate m x0).length = out.length + m:=by rw [List.length_append,List.length_replicate]
        go_roundw
        case rel=>exact ⟨i + 1,out ++ List.replicate m x0,l,m,a7,c7,by go_num,rfl,by rw [hol2],by omega,by rw [hol2];omega,by have:=HLw.out;omega,by have:=HLw.out;have:=HM.out;omega,hll,HO7.out,(HLS5.out.belowAt HB6.out (by omega) (by omega)).belowAt HB7.out hlb2 hg2,((Below.only HBW.out HO5.out (Nat.le_refl _) (fun b hb=>by show w.heap.size <= b;omega)).trans (HB6.out.mono (by omega))).trans (HB7.out.mono hww),by omega,⟨fun _=>HE1.out,fun h1 h2=>absurd h1 (by omega)⟩⟩
        case measure=>simp [intOf];omega
     ·have hs3:2 <= s:=by omega
      rw [if_neg hs2,if_neg hse] at HE1
      have q5:((s:Int) == 1) = false:=by simp;omega
      have q6:((s:Int) == 0) = false:=by simp;omega
      obtain ⟨k,hk⟩:∃ k,s = k + 1:=⟨s - 1,by omega⟩
      have q7:IntKind.i64.wrap ((s:Int) - 1) = (k:Int):=by rw [IntWalk.i64_in _ (by omega)];omega
      have q8:((s:Int) - 1) = (k:Int):=by omega
      have hkl:k < l.length:=by omega
      have HAT:=Zh (Zta wr lb g c' l k hkl (by omega) HFR.out)
      rw [show s - 1 = k by omega] at HE1
      clear hk
      have htl:=Ziu l k hkl
      generalize l.getD k 0 = y at *
      have f10:decide ((most:Int) < (out.length:Int)) = false:=by simp;omega
      generalize htf:toFront l k = l2 at *
      rw [hll] at htl
      clear hii2
      go_wp2_with fail
      refine HAT.out.mono ?_
      rintro e w5 ⟨rfl,hls5,ho5⟩
      have HLS5:=Zh hls5
      have HO5:=Zh ho5
      have hz5:=ho5.size
      have hz6:=Nat.le_trans hzA hz5
      have HW5:=Zh (HW.out.only ho5 (fun b hb=>by show b ≠ g;omega))
      by_cases hbig:most < out.length + 1
      ·have HR:Hid (R = none):=by unfold Hid;rw [HE1.out,if_pos hbig]
       have hol4:=Zh (show out.length + 1 <= 9223372036854775807 by omega)
       have hol5:=Zh (show (out.length + 1) * 1 <= 140737488355328 by omega)
       have p1:IntKind.i64.wrap ((most:Int) - ((out.length + 1:Nat):Int)) = (most:Int) - ((out.length + 1:Nat):Int):=IntWalk.i64_in _ (by omega)
       have p2:decide ((most:Int) - ((out.length + 1:Nat):Int) < 0) = true:=by simp;omega
       have p3:IntKind.i64.wrap ((most:Int) - ((out.length:Int) + 1)) = (most:Int) - ((out.length:Int) + 1):=IntWalk.i64_in _ (by omega)
       have p4:decide ((most:Int) - ((out.length:Int) + 1) < 0) = true:=by simp;omega
       have HM:=Zh hm
       have HWO:=Zh hwo
       have HSL:=Zh hsl
       clear hm hwo hsl hls5 ho5 HAT HE1 f8
       go_wp2_with (at_builtin;refine app1N Zaz rfl (.tmp 97) (.tmp 102) rfl (y:=y) (l:=out) (base:=B0) rfl HW5.out rfl (Nat.le_refl _) (by decide) hol4.out hol5.out hz6 ?_;intro a7 c7 w7 ho7 hg7 hb7;have HB7:=Zh hb7;clear ho7 hb7 hg7)
       go_ret2
       exact RowMay.none HR.out ((Below.only HBW.out HO5.out (Nat.le_refl _) (fun b hb=>by show w.heap.size <= b;omega)).trans (HB7.out.mono hww))
      ·rw [if_neg hbig] at HE1
       have hol4:=Zh (show out.length + 1 <= 9223372036854775807 by omega)
       have hol5:=Zh (show (out.length + 1) * 1 <= 140737488355328 by omega)
       have p1:IntKind.i64.wrap ((most:Int) - ((out.length + 1:Nat):Int)) = (most:Int) - ((out.length + 1:Nat):Int):=IntWalk.i64_in _ (by omega)
       have p2:decide ((most:Int) - ((out.length + 1:Nat):Int) < 0) = false:=by simp;omega
       have p3:IntKind.i64.wrap ((most:Int) - ((out.length:Int) + 1)) = (most:Int) - ((out.length:Int) + 1):=IntWalk.i64_in _ (by omega)
       have p4:decide ((most:Int) - ((out.length:Int) + 1) < 0) = false:=by simp;omega
       have p5:decide ((most:Int) < ((out.length + 1:Nat):Int)) = false:=by simp;omega
       have p6:decide ((most:Int) < (out.length:Int) + 1) = false:=by simp;omega
       have HM:=Zh hm
       have HWO:=Zh hwo
       have HSL:=Zh hsl
       clear hm hwo hsl hls5 ho5 HAT f8
       go_wp2_with (at_builtin;refine app1N Zaz rfl (.tmp 97) (.tmp 102) rfl (y:=y) (l:=out) (base:=B0) rfl HW5.out rfl (Nat.le_refl _) (by decide) hol4.out hol5.out hz6 ?_;intro a7 c7 w7 ho7 hg7 hb7;have HO7:=Zh ho7;have HB7:=Zh hb7;have hz7:=hb7.size;clear ho7 hb7 hg7)
       have hol2:(out ++ [y]).length = out.length + 1:=by rw [List.length_append];rfl
       go_roundw
       case rel=>exact ⟨i + 1,out ++ [y],l2,1,a7,c7,by go_num,rfl,by rw [hol2],by omega,by rw [hol2];omega,by omega,by omega,htl,HO7.out,HLS5.out.belowAt HB7.out hlb2 hg2,(Below.only HBW.out HO5.out (Nat.le_refl _) (fun b hb=>by show w.heap.size <= b;omega)).trans (HB7.out.mono hww),by omega,⟨fun _=>HE1.out,fun h1 h2=>absurd h1 (by omega)⟩⟩
       case measure=>simp [intOf];omega
    ·obtain rfl:i = symbols.length:=by omega
     have t0:decide (symbols.length < symbols.length) = false:=by simp
     by_cases hn0:symbols.length = 0
     ·have t5:((symbols.length:Int) == 0) = true:=by simp [hn0]
      have HR:Hid (R = none):=by
       unfold Hid
       have e:symbols = []:=List.length_eq_zero_iff.1 hn0
       rw [HR0.out,e]
       rfl
      clear hn0 HE
      go_wp2
      go_ret2
      exact RowMay.none HR.out HBW.out
     ·have t5:((symbols.length:Int) == 0) = false:=by simp only [beq_eq_false_iff_ne,ne_eq];omega
      have HR:Hid (R = some out):=HE.out.2 rfl (by omega)
      clear hn0 HE
      go_wp2
      go_ret2
      exact RowMay.some HR.out HBW.out (HW.out.mono hww)
end Go.Proofs.YtnkpnjnfddjfpaaGreat

namespace Go.Proofs.YtnkpnjnfddjfpaaGreat
theorem Zmr {l n:Nat} {P:Program} {row:String} {args:Array Value} {w:World} {R:Value -> World -> Prop} (h:Rows P row args w R):RowsIn (Fence.wide.inRound l) n P row args w R:=by
 intro c cs _
 obtain ⟨v,w',hr,hs⟩:=h c cs
 exact ⟨v,w',hr,stepsIn_wide.2 hs⟩
theorem Zet {l n:Nat} {P:Program} {o:Oper} {a:Act} {w:World} {next:Act -> World -> Prop} {Q:Exit -> Act -> World -> Prop} (hd:∀ c,o.op ≠ .defer c) (h:o.wp P a w next Q):o.wpIn (Fence.wide.inRound l) n P a w next Q:=by
 unfold Oper.wp at h
 refine ⟨fun f _=>trivial,?_⟩
 rw [Oper.semAt_plain _ _ _ hd]
 generalize (execOp a.eval o).run P w = r at *
 cases r with
 | ok x w' =>
  cases x <;> simp only [Oper.upon,Oper.uponIn] at h ⊢ <;> try exact h
  ·exact ⟨fun h0=>(by cases h0),callsIn_wide.2 h⟩
  ·exact ⟨fun h0=>(by cases h0),Zmr h⟩
 | halt x w'=>cases x <;> simp only [Oper.upon,Oper.uponIn] at h ⊢ <;> exact h
def noDefer (ops:Array Oper):Bool:=ops.all fun o=>match o.op with | .defer _=>false | _=>true
theorem Zqh {ops:Array Oper} (h:noDefer ops = true) {i:Nat} {o:Oper} (ho:ops[i]? = some o):∀ c,o.op ≠ .defer c:=by
 intro c hc
 unfold noDefer at h
 rw [Array.all_eq_true_iff_forall_mem] at h
 have:=h o (Array.mem_of_getElem? ho)
 rw [hc] at this
 cases this
theorem Zcw {l n:Nat} {P:Program} {ops:Array Oper} {Q:Exit -> Act -> World -> Prop} {md:Region.Mode} (hQ:¬ LetsOut Q) (hd:noDefer ops = true) :
  ∀ (fuel:Nat) (listed:Array Bool) (a:Act) (w:World),wpAny P md ops Q fuel listed a w -> wpAnyIn (Fence.wide.inRound l) n P md ops Q fuel listed a w
 | 0,listed,a,w,h=>h
 | fuel + 1,listed,a,w,h=>by
  refine ⟨h.1,fun i hi=>?_⟩
  have h2:=h.2 i hi
  unfold wpOp at h2
  unfold wpOpIn
  cases ho:ops[i]? with
  | none=>rw [ho] at h2;exact Zcw hQ hd fuel _ _ _ h2
  | some o =>
   rw [ho] at h2
   simp only at h2 ⊢
   split
   ·rename_i hw
    rw [if_pos hw] at h2
    rcases h2 with h2 | h2
    ·exact Oper.wpIn_mono (fun a w=>Zcw hQ hd fuel _ a w) (Zet (Zqh hd ho) h2)
    ·exact absurd h2.2 hQ
   ·rename_i hw
    rw [if_neg hw] at h2
    exact ⟨fun f _=>trivial,Zcw hQ hd fuel _ _ _ h2⟩
theorem Zcg {y n:Nat} {P:Program} {Q:Exit -> Act -> World -> Prop} {o:Oper} {a:Act} {w w':World} {K:Act -> World -> Prop} {v:Value} (hd:∀ c,o.op ≠ .defer c)
  (hr:(execOp a.eval o).run P w = .ok (.value v) w') (h:K (a.put o.dst v) w'):Oper.wpIn (Fence.wide.inRound y) n P o a w K Q:=Zet hd (by unfold Oper.wp;rw [hr];exact h)
theorem Zod {y n:Nat} {P:Program} {Q:Exit -> Act -> World -> Prop} {o:Oper} {a:Act} {w w':World} {K:Act -> World -> Prop} (hd:∀ c,o.op ≠ .defer c)
  (hr:(execOp a.eval o).run P w = .ok .skip w') (h:K (a.put o.dst undef) w'):Oper.wpIn (Fence.wide.inRound y) n P o a w K Q:=Zet hd (by unfold Oper.wp;rw [hr];exact h)
open Go.RowKit in
theorem app1Eq {P:Program} {T E:TypeId} {k:IntKind} {bytes:Nat} (et:ElemTy P T E k bytes) {w:World} {base:Nat} {a:Option Addr} {cap n:Nat} {l:List Nat} (y:Nat) {E':TypeId} (ty:TypeId) (hown:OwnN E k w base a cap l) (hnl:n = l.length)
  (hn:n + 1 <= 9223372036854775807) (hbytes:(n + 1) * bytes <= 140737488355328) (hbase:base <= w.heap.size) :
  ∃ a' cap' w',OwnN E k w' base a' cap' (l ++ [y]) /\ Below base w w' /\ w.grownBy w' (Value.slice a n cap).ownBlock ∧
   (Builtin.append_ #[T,T] ty #[.slice a n cap,.slice (some ⟨w.heap.size,0,none⟩) 1 1]).run P (w.alloc (.cells #[.int k y] E')) = .ok (.slice a' (n + 1) cap') w' ∧
   ∀ (ac:Act) (o:Oper) (s x:Operand),o.op = .call { callee:=.builtin .append,args:=#[s,x],argTypes:=#[T,T] } -> o.type = ty -> ac.eval s = .slice a n cap -> ac.eval x = .slice (some ⟨w.heap.size,0,none⟩) 1 1 →
    (execOp ac.eval o).run P (w.alloc (.cells #[.int k y] E')) = .ok (.value (.slice a' (n + 1) cap')) w':=by
 subst hnl
 obtain ⟨i,h2,h3,h4,h5⟩:=info_parts et.info
 have hy:RowN k (w.alloc (.cells #[.int k y] E')) (some ⟨w.heap.size,0,none⟩) 1 [y]:=by
  refine ⟨by simp,⟨by decide,fun hn=>by cases hn⟩,.inr ⟨w.heap.size,0,rfl,by simp,fun i hi=>?_⟩⟩
  obtain rfl:i = 0:=by simp at hi;omega
  simp [World.cell?_alloc_at]
 obtain ⟨v',w',hr,h6,h7,h8,h9⟩:=run_append_own_at (P:=P) (w.alloc (.cells #[.int k y] E')) base T ty E i (.int k 0) 1 bytes et.und h2 h3 h4 h5 rfl (by decide) _ l.length _ (hown.alloc (.cells #[.int k y] E')) ⟨w.heap.size,0,none⟩ 1 1 ([y].map fun (n:Nat)=>Value.int k n) (by simp)
  (Zbi hy _ rfl) (by intro u hu;simp only [List.mem_map] at hu;obtain ⟨n,_,rfl⟩:=hu;rfl) (by simpa [maxLen] using hn) hbytes (by simp;omega)
 have hv:∃ a' cap',v' = .slice a' (l.length + 1) cap':=by
  rcases h6.2 with ⟨h9,h10⟩ | ⟨g,c',cur,h9,_⟩
  ·exact ⟨none,0,by rw [h9,h10]⟩
  ·exact ⟨_,_,h9⟩
 obtain ⟨a',cap',rfl⟩:=hv
 have hown':OwnN E k w' base a' cap' (l ++ [y]):=by
  unfold OwnN;rw [List.length_append,List.map_append];exact h6
 have hg:w.grownBy w' (Value.slice a l.length cap).ownBlock:=⟨h7.os,h7.tape,h7.output,Nat.le_trans (by simp) h7.size,fun q hq hr=>(h7.block q (by simp;omega) hr).trans (Below.heap_alloc _ _ _ hq)⟩
 refine ⟨a',cap',w',hown',Below.of_grown hg hbase (fun q hq=>?_),hg,hr,fun ac o s x ho hty hs hx=>by subst hty;simp [execOp,ho,resolve,invoke,builtin,hs,hx,hr,Result.andThen]⟩
 rcases hown.form with ⟨rfl,_⟩ | ⟨g,rfl,h1,_⟩
 ·cases hq
 ·simp only [Value.ownBlock] at hq
  cases hq
  exact h1
open Go.RowKit in
theorem appEq {P:Program} {T E:TypeId} {k:IntKind} {bytes:Nat} (et:ElemTy P T E k bytes) {w:World} {base:Nat} {a b:Option Addr} {cap n m c:Nat} {l ys:List Nat} (ty:TypeId) (hown:OwnN E k w base a cap l) (hnl:n = l.length) (hm:m = ys.length) (hy:RowN k w b c ys)
  (hn:n + m <= 9223372036854775807) (hbytes:(n + m) * bytes <= 140737488355328) (hbase:base <= w.heap.size) :
  ∃ a' cap' w',OwnN E k w' base a' cap' (l ++ ys) /\ Below base w w' /\ w.grownBy w' (Value.slice a n cap).ownBlock ∧
   (Builtin.append_ #[T,T] ty #[.slice a n cap,.slice b m c]).run P w = .ok (.slice a' (n + m) cap') w':=by
 subst hnl hm
 obtain ⟨i,h2,h3,h4,h5⟩:=info_parts et.info
 have hbel:∀ {w':World},w.grownBy w' (Value.slice a l.length cap).ownBlock -> Below base w w':=fun h7=>Below.of_grown h7 hbase (by
  intro g hg
  exact (World.ownsRow.lt hown g hg).1)
 by_cases hy0:0 < ys.length
 ·obtain ⟨bb,off,rfl,_⟩:=hy.at hy0
  obtain ⟨v',w',hr,h6,h7,h8⟩:=run_append_own (P:=P) w base T ty E i (.int k 0) 1 bytes et.und h2 h3 h4 h5 rfl (by decide) _ l.length _ hown ⟨bb,off,none⟩ ys.length c (ys.map fun (n:Nat)=>Value.int k n) (by simp)
   (Zbi hy _ rfl) (by intro u hu;simp only [List.mem_map] at hu;obtain ⟨n,_,rfl⟩:=hu;rfl) (by simpa [maxLen] using hn) hbytes hbase
  have hv:∃ a' cap',v' = .slice a' (l.length + ys.length) cap':=by
   rcases h6.2 with ⟨h9,h10⟩ | ⟨g,c',cur,h9,_⟩
   ·exact ⟨none,0,by rw [h9,h10]⟩
   ·exact ⟨_,_,h9⟩
  obtain ⟨a',cap',rfl⟩:=hv
  have hown':OwnN E k w' base a' cap' (l ++ ys):=by
   unfold OwnN;rw [List.length_append,List.map_append];exact h6
  exact ⟨a',cap',w',hown',hbel h7,h7,hr⟩
 obtain rfl:ys = []:=List.eq_nil_of_length_eq_zero (by omega)
 cases b with
 | none =>
  obtain rfl:c = 0:=hy.2.1.2 rfl
  have hr:=run_append_owned_none (P:=P) w base T ty E i 1 et.und h2 _ l.length _ hown
  exact ⟨a,cap,w,by simpa using hown,Below.refl _ _,World.grownBy.refl _ _,by simpa using hr⟩
 | some ad =>
  obtain ⟨v',w',hr,h6,h7,h8⟩:=run_append_own (P:=P) w base T ty E i (.int k 0) 1 bytes et.und h2 h3 h4 h5 rfl (by decide) _ l.length _ hown ad 0 c [] (by simp)
   (by simp) (by simp) (by simpa [maxLen] using hn) (by simpa using hbytes) hbase
  have hv:∃ a' cap',v' = .slice a' l.length cap':=by
   rcases h6.2 with ⟨h9,h10⟩ | ⟨g,c',cur,h9,_⟩
   ·exact ⟨none,0,by rw [h9];simp at h10;rw [h10];rfl⟩
   ·exact ⟨_,_,h9⟩
  obtain ⟨a',cap',rfl⟩:=hv
  have hown':OwnN E k w' base a' cap' l:=by
   unfold OwnN;simpa using h6
  exact ⟨a',cap',w',by simpa using hown',hbel h7,h7,by simpa using hr⟩
end Go.Proofs.YtnkpnjnfddjfpaaGreat
