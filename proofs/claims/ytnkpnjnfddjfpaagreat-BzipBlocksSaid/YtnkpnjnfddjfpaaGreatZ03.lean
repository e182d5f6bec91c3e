/- The reference of layers 4, 6: words as rows of bits: contracts of Bits, Rows, begins, Get (seats that have no layer 1). A region whose order is drawn and that holds guarded operations: each that is wanted leaves its own value (as Flow, with the guards' values kept). A drawn region with guards, inside a round. A drawn region with guards, inside a round: operations may be passed over. bzip.Blocks: what stands between two parts. bzip.Blocks: contract. A string's bytes as a new row: the run of the conversion. bzip.Bzip of nothing: text, folded, the file of no parts. layer 28's laws: tells: contract. Slices of numbers that came in, as lists. layer 28's law BzipParts. -/
import Derived.Test.YtnkpnjnfddjfpaaGreatZ01
import Derived.Test.YtnkpnjnfddjfpaaGreatZ02
import Derived.Deep.RegionLaw
import Derived.Test.YtnkpnjnfddjfpaaGreatChecked
import Derived.Lib.Hide
import Derived.BigQuiet
import Derived.Deep.QuietTactic
import Derived.StillTailTactics
import Derived.Maps.Own
import Derived.Maps.OwnOps
import Derived.Maps.OwnSet
import Derived.Maps.Views
import Derived.DeepKeys4
import Derived.WalkArith
import Derived.Lib.ConvBytes
import Derived.Lib.SlBytesConst
set_option linter.unusedVariables false
set_option linter.unusedSimpArgs false
namespace Go.Proofs.YtnkpnjnfddjfpaaGreat
open Go.RowKit M01 M04 M10
def encSl:Enc (Option Addr × Nat × List Nat) where
 sz:=1
 cells x:=[.slice x.1 x.2.2.length x.2.1]
 len _:=rfl
 one x u hu:=by
  simp only [List.mem_cons,List.not_mem_nil,or_false] at hu
  subst hu;rfl
 pos:=by decide
abbrev Es:=List (Option Addr × Nat × List Nat)
section
variable {P : Program} {T E : TypeId} {α : Type} {cc : Enc α} {z : Value} {bytes : Nat}
end
theorem Zfi:ElemS Tryz.prog 33 22 encSl (.slice none 0 0) 24:=⟨Tryz.underlying33,by kernel_rfl,by kernel_rfl⟩
def Off (w:World) (g a:Option Addr):Prop:=a = none \/ ∃ b,a = some ⟨b,0,none⟩ /\ b < w.heap.size /\ ∀ g0,g = some ⟨g0,0,none⟩ -> b ≠ g0
theorem Off.put {w3 w7:World} {g a7 a:Option Addr} {n c:Nat} (h:Off w3 g a) (hgf:g = none \/ ∃ g0,g = some ⟨g0,0,none⟩) (hg:w3.grownBy w7 (Value.slice g n c).ownBlock) (hf:∀ g',a7 = some ⟨g',0,none⟩ -> g = some ⟨g',0,none⟩ \/ w3.heap.size <= g') {r:List Nat} {cc:Nat} (hr:RowN .u8 w3 a cc r) :
  RowN .u8 w7 a cc r /\ Off w7 a7 a:=by
 rcases h with rfl | ⟨b,rfl,hb,hne⟩
 ·refine ⟨?_,.inl rfl⟩
  obtain ⟨h1,h2,h3⟩:=hr
  refine ⟨h1,h2,?_⟩
  rcases h3 with h3 | ⟨b,off,he,_⟩
  ·exact .inl h3
  ·cases he
 ·refine ⟨hr.same hg.size fun x _ hx=>?_,.inr ⟨b,rfl,Nat.lt_of_lt_of_le hb hg.size,fun g0 h0=>?_⟩⟩
  ·simp only [Option.some.injEq] at hx
   subst hx
   refine hg.block b hb fun e=>?_
   rcases hgf with rfl | ⟨g0,rfl⟩
   ·simp [Value.ownBlock] at e
   ·simp only [Value.ownBlock,Option.some.injEq] at e
    exact hne g0 rfl e
  ·rcases hf g0 h0 with h1 | h1
   ·exact hne g0 h1
   ·omega
theorem Zfw {α:Type} {c:Enc α} {E:TypeId} {w:World} {base cap:Nat} {a:Option Addr} {l:List α} (h:OwnS c E w base a cap l):∀ g0,a = some ⟨g0,0,none⟩ -> g0 < w.heap.size:=by
 rintro g0 rfl
 rcases h.form with ⟨h1,_⟩ | ⟨g,h1,_,h2⟩
 ·cases h1
 ·cases h1;exact h2
end Go.Proofs.YtnkpnjnfddjfpaaGreat

namespace Go.Proofs.YtnkpnjnfddjfpaaGreat.FG
open Go
section
variable {P : Program} {ops : Array Oper} {Q : Exit → Act → World → Prop} {md : Region.Mode}
def wantE (md:Region.Mode) (e:Edge):Bool:=Region.binds md e && (match e.ground with | .data=>true | .guard=>true | _=>false)
theorem Zae {e:Edge} (h:wantE md e = true):Region.binds md e = true:=by unfold wantE at h;rw [Bool.and_eq_true] at h;exact h.1
def usedB (md:Region.Mode) (ops:Array Oper) (fin:Nat -> Bool) (i j:Nat):Bool :=
 !(i == j) && !(anc md ops i ops.size j) && (fin j || (List.range ops.size).any fun k=>!(k == i) && !(anc md ops k ops.size i) && ((ops[k]?).map fun o=>o.after.any fun e=>wantE md e && e.on == j).getD false)
def Wants (md:Region.Mode) (ops:Array Oper) (fin:Nat -> Bool) (listed:Array Bool) (j:Nat):Prop :=
 fin j = true \/ ∃ (k:Nat) (o:Oper) (e:Edge),ops[k]? = some o /\ listed.getD k true = false /\ e ∈ o.after /\ wantE md e = true /\ e.on = j
theorem Wants.used {fin:Nat -> Bool} {listed:Array Bool} {i j:Nat} {oi:Oper} (hij:i ≠ j) (hoi:ops[i]? = some oi) (hwi:∀ e ∈ oi.after,Region.binds md e = true -> listed.getD e.on false = true) (hi:i < listed.size) (hsh:Shut md ops listed) (hun:listed.getD i true = false) (hlj:listed.getD j false = true) (h:Wants md ops fin (listed.setIfInBounds i true) j):Wants md ops fin listed j /\ usedB md ops fin i j = true:=by
 have hna:anc md ops i ops.size j = false:=by
  cases hc:anc md ops i ops.size j with
  | false=>rfl
  | true =>
   have:=hsh.anc i _ _ hc hlj
   simp [hi] at this hun
   rw [hun] at this;cases this
 have hij':(i == j) = false:=by simpa using hij
 unfold usedB
 rw [hna,hij',Bool.not_false,Bool.true_and,Bool.true_and]
 rcases h with h | ⟨k,o,e,hk,hl,he,hb,hj⟩
 ·exact ⟨.inl h,by simp [h]⟩
 ·have hki:k ≠ i:=fun hc=>by
   subst hc;simp [hi] at hl
  rw [getD_set_ne true (Ne.symm hki)] at hl
  have hnk:anc md ops k ops.size i = false:=by
   cases hc:anc md ops k ops.size i with
   | false=>rfl
   | true =>
    have h1:=hsh.ready hoi hwi _ hc
    have hk2:k < listed.size:=by
     rcases Nat.lt_or_ge k listed.size with h' | h'
     ·exact h'
     ·simp [Array.getElem?_eq_none h'] at h1
    simp [hk2] at h1 hl
    rw [h1] at hl;cases hl
  refine ⟨.inr ⟨k,o,e,hk,hl,he,hb,hj⟩,?_⟩
  rw [Bool.or_eq_true];right
  rw [List.any_eq_true]
  refine ⟨k,by simpa using (Array.getElem?_eq_some_iff.1 hk).1,?_⟩
  simp only [hk,Option.map_some,Option.getD_some,Bool.and_eq_true,Bool.not_eq_true',beq_eq_false_iff_ne]
  refine ⟨⟨hki,hnk⟩,?_⟩
  rw [Array.any_eq_true']
  exact ⟨e,he,by simp [hb,hj]⟩
def leftBy (a:Act) (o:Oper):Value:=match o.dst with | some d=>a.tmps.getD d undef | none=>undef
structure FlowAt (md:Region.Mode) (ops:Array Oper) (fin:Nat -> Bool) (R:Array Bool -> World -> Prop) (V:Nat -> Value -> World -> Prop) (D:Nat -> Nat -> Value -> Value -> Prop) (a0:Act) (listed:Array Bool) (a:Act) (w:World):Prop where
 rel:R listed w
 size:a.tmps.size = a0.tmps.size
 defers:a.defers = a0.defers
 out:∀ t,t ∉ dstsL ops -> a.tmps.getD t undef = a0.tmps.getD t undef
 old:∀ (j:Nat) (oj:Oper) (d:Tmp),ops[j]? = some oj -> oj.dst = some d -> listed.getD j false = false -> a.tmps.getD d undef = a0.tmps.getD d undef
 len:listed.size = ops.size
 shut:Shut md ops listed
 val:∀ (i:Nat) (o:Oper),ops[i]? = some o -> listed.getD i false = true -> Wants md ops fin listed i -> V i (leftBy a o) w
 apart:∀ (i j:Nat) (o o':Oper),ops[i]? = some o -> ops[j]? = some o' -> listed.getD i false = true -> listed.getD j false = true -> Wants md ops fin listed i -> Wants md ops fin listed j -> i ≠ j -> D i j (leftBy a o) (leftBy a o')
theorem Zav {i:Nat} {o:Oper} {d:Tmp} (h:ops[i]? = some o) (hd:o.dst = some d):d ∈ dstsL ops:=by
 unfold dstsL
 rw [List.mem_filterMap]
 exact ⟨o,by simpa using Array.mem_of_getElem? h,hd⟩
structure OneEach (ops:Array Oper) (n:Nat):Prop where
 one:∀ (i j:Nat) (oi oj:Oper) (d:Tmp),ops[i]? = some oi -> ops[j]? = some oj -> oi.dst = some d -> oj.dst = some d -> i = j
 fits:∀ d ∈ dstsL ops,d < n
theorem OneEach.mk' {n:Nat} (h:((List.range ops.size).all fun i=>(List.range ops.size).all fun j=>i == j || (match (ops[i]?).bind (·.dst),(ops[j]?).bind (·.dst) with | some d,some e=>!(d == e) | _,_=>true)) = true)
  (hf:((dstsL ops).all fun d=>d < n) = true):OneEach ops n where
 one i j oi oj d hi hj di dj:=by
  rw [List.all_eq_true] at h
  have h1:=h i (by simpa using (Array.getElem?_eq_some_iff.1 hi).1)
  rw [List.all_eq_true] at h1
  have h2:=h1 j (by simpa using (Array.getElem?_eq_some_iff.1 hj).1)
  simpa [hi,hj,di,dj] using h2
 fits d hd:=by
  rw [List.all_eq_true] at hf
  simpa using hf d hd
theorem Zab {n:Nat} {a:Act} {i j:Nat} {o oj:Oper} {v:Value} (h1:OneEach ops n) (hi:ops[i]? = some o) (hj:ops[j]? = some oj) (hij:i ≠ j):leftBy (a.put o.dst v) oj = leftBy a oj:=by
 unfold leftBy
 cases hdj:oj.dst with
 | none=>rfl
 | some dj =>
  cases hd:o.dst with
  | none=>rfl
  | some d =>
   have:d ≠ dj:=fun e=>hij (h1.one i j o oj d hi hj hd (e ▸ hdj))
   simp [Act.put,Array.getElem?_setIfInBounds_ne this]
theorem Zah {a:Act} {i:Nat} {o:Oper} {v:Value} (h1:OneEach ops a.tmps.size) (hi:ops[i]? = some o):leftBy (a.put o.dst v) o = (match o.dst with | some _=>v | none=>undef):=by
 unfold leftBy
 cases hd:o.dst with
 | none=>rfl
 | some d =>
  have hlt:d < a.tmps.size:=h1.fits d (Zav hi hd)
  simp [Act.put,hlt]
theorem Zan {listed:Array Bool} {i:Nat} (hi:i < listed.size):(listed.setIfInBounds i true).getD i false = true:=by simp [hi]
theorem FlowAt.next {fin:Nat -> Bool} {R:Array Bool -> World -> Prop} {V:Nat -> Value -> World -> Prop} {D:Nat -> Nat -> Value -> Value -> Prop} {a0 a:Act} {listed:Array Bool} {w w':World} {i:Nat} {o:Oper} {v:Value}
  (h1:OneEach ops a0.tmps.size) (h:FlowAt md ops fin R V D a0 listed a w) (hi:ops[i]? = some o) (hun:listed.getD i true = false)
  (hw:∀ e ∈ o.after,Region.binds md e = true -> listed.getD e.on false = true)
  (hR:R (listed.setIfInBounds i true) w')
  (hmono:∀ j u,usedB md ops fin i j = true -> V j u w -> (∀ e ∈ o.after,wantE md e = true -> e.on ≠ j -> ∀ oe,ops[e.on]? = some oe -> D e.on j (leftBy a oe) u /\ D j e.on u (leftBy a oe)) →
   V j u w' /\ D i j (match o.dst with | some _=>v | none=>undef) u /\ D j i u (match o.dst with | some _=>v | none=>undef))
  (hv:V i (match o.dst with | some _=>v | none=>undef) w'):FlowAt md ops fin R V D a0 (listed.setIfInBounds i true) (a.put o.dst v) w':=by
 have hil:i < listed.size:=by rw [h.len];exact (Array.getElem?_eq_some_iff.1 hi).1
 have h1a:OneEach ops a.tmps.size:=h.size ▸ h1
 have wi:∀ e ∈ o.after,wantE md e = true -> Wants md ops fin listed e.on:=fun e he hb=>.inr ⟨i,o,e,hi,hun,he,hb,rfl⟩
 have key:∀ (j:Nat) (oj:Oper),i ≠ j -> ops[j]? = some oj -> (listed.setIfInBounds i true).getD j false = true -> Wants md ops fin (listed.setIfInBounds i true) j →
   V j (leftBy a oj) w' /\ D i j (match o.dst with | some _=>v | none=>undef) (leftBy a oj) /\ D j i (leftBy a oj) (match o.dst with | some _=>v | none=>undef):=by
  intro j oj hij hj hl hn
  rw [getD_set_ne false hij] at hl
  obtain ⟨hn',hu⟩:=hn.used hij hi hw hil h.shut hun hl
  refine hmono j _ hu (h.val j oj hj hl hn') fun e he hb hne oe hoe=>?_
  exact ⟨h.apart _ _ _ _ hoe hj (hw e he (Zae hb)) hl (wi e he hb) hn' hne,h.apart _ _ _ _ hj hoe hl (hw e he (Zae hb)) hn' (wi e he hb) (Ne.symm hne)⟩
 refine ⟨hR,?_,?_,?_,?_,?_,?_,?_,?_⟩
 ·rw [<- h.size];cases o.dst <;> simp [Act.put]
 ·rw [<- h.defers];cases o.dst <;> simp [Act.put]
 ·intro t ht
  rw [<- h.out t ht]
  cases hd:o.dst with
  | none=>rfl
  | some d =>
   have:d ≠ t:=fun e=>ht (e ▸ Zav hi hd)
   simp [Act.put,Array.getElem?_setIfInBounds_ne this]
 ·intro j oj d hj hd hl
  by_cases hij:i = j
  ·subst hij
   rw [Zan hil] at hl;cases hl
  ·rw [getD_set_ne false hij] at hl
   rw [<- h.old j oj d hj hd hl]
   cases hd':o.dst with
   | none=>rfl
   | some d' =>
    have:d' ≠ d:=fun e=>hij (h1.one i j o oj d hi hj (e ▸ hd') hd)
    simp [Act.put,Array.getElem?_setIfInBounds_ne this]
 ·rw [<- h.len];simp
 ·intro j oj hj hl e he hb
  by_cases hij:i = j
  ·subst hij
   rw [hi] at hj;cases hj
   exact getD_set_true (hw e he hb)
  ·rw [getD_set_ne false hij] at hl
   exact getD_set_true (h.shut j oj hj hl e he hb)
 ·intro j oj hj hl hn
  by_cases hij:i = j
  ·subst hij
   rw [hi] at hj;cases hj
   rw [Zah h1a hi];exact hv
  ·rw [Zab h1a hi hj hij]
   exact (key j oj hij hj hl hn).1
 ·intro j k oj ok hj hk hlj hlk hnj hnk hjk
  by_cases hij:i = j
  ·subst hij
   rw [hi] at hj;cases hj
   rw [Zah h1a hi,Zab h1a hi hk hjk]
   exact (key k ok hjk hk hlk hnk).2.1
  ·rw [Zab h1a hi hj hij]
   by_cases hik:i = k
   ·subst hik
    rw [hi] at hk;cases hk
    rw [Zah h1a hi]
    exact (key j oj hij hj hlj hnj).2.2
   ·rw [Zab h1a hi hk hik]
    rw [getD_set_ne false hij] at hlj
    rw [getD_set_ne false hik] at hlk
    exact h.apart _ _ _ _ hj hk hlj hlk (hnj.used hij hi hw hil h.shut hun hlj).1 (hnk.used hik hi hw hil h.shut hun hlk).1 hjk
theorem FlowAt.start {fin:Nat -> Bool} {R:Array Bool -> World -> Prop} {V:Nat -> Value -> World -> Prop} {D:Nat -> Nat -> Value -> Value -> Prop} {a0:Act} {w:World} (h:R (Array.replicate ops.size false) w):FlowAt md ops fin R V D a0 (Array.replicate ops.size false) a0 w where
 rel:=h
 size:=rfl
 defers:=rfl
 out _ _:=rfl
 old _ _ _ _ _ _:=rfl
 len:=by simp
 shut i o hi hl:=by
  exfalso
  have:=(Array.getElem?_eq_some_iff.1 hi).1
  simp [this] at hl
 val i o hi hl _:=by
  exfalso
  have:=(Array.getElem?_eq_some_iff.1 hi).1
  simp [this] at hl
 apart i j o o' hi hj hl _ _ _ _:=by
  exfalso
  have:=(Array.getElem?_eq_some_iff.1 hi).1
  simp [this] at hl
theorem FlowAt.end {fin:Nat -> Bool} {R:Array Bool -> World -> Prop} {V:Nat -> Value -> World -> Prop} {D:Nat -> Nat -> Value -> Value -> Prop} {l:List Value} {d:List Deferred} {listed:Array Bool} {a:Act} {w:World}
  (hb:∀ (i:Nat) (o:Oper),ops[i]? = some o -> ∀ e ∈ o.after,Region.binds md e = true -> e.on < i)
  (h:FlowAt md ops fin R V D ⟨l.toArray,d⟩ listed a w) (hr:Region.ready md ops listed = []) :
  R listed w /\ (∀ i,i < ops.size -> listed.getD i false = true) /\ (∀ (i:Nat) (o:Oper),ops[i]? = some o -> fin i = true -> V i (leftBy a o) w) ∧
  a = ⟨(spread (dstsL ops) (fun t=>a.tmps.getD t undef) 0 l).toArray,d⟩:=by
 refine ⟨h.rel,Zaw h.len hb hr,fun i o hi hf=>h.val i o hi (Zaw h.len hb hr i (Array.getElem?_eq_some_iff.1 hi).1) (.inl hf),?_⟩
 have h1:=h.size
 have h2:=h.defers
 have h3:=h.out
 cases a with
 | mk tm df =>
  simp only at h1 h2 h3 ⊢
  subst h2
  congr 1
  apply Array.ext_getElem?
  intro t
  have e2:(spread (dstsL ops) (fun t=>tm.getD t undef) 0 l).toArray[t]? = (spread (dstsL ops) (fun t=>tm.getD t undef) 0 l)[t]?:=by simp
  rw [e2,Zao?]
  simp only [Nat.zero_add]
  have hs:tm.size = l.length:=by simpa using h1
  by_cases ht:t < l.length
  ·have e1:tm[t]? = some (tm.getD t undef):=by simp [hs,ht]
   rw [e1,List.getElem?_eq_getElem ht]
   simp only [Option.map_some,Option.some.injEq]
   cases hc:(dstsL ops).contains t with
   | true=>rfl
   | false =>
    have:t ∉ dstsL ops:=fun hm=>by rw [List.contains_iff_mem.2 hm] at hc;cases hc
    have h4:=h3 t this
    rw [h4];simp [ht]
  ·rw [Array.getElem?_eq_none (by omega),List.getElem?_eq_none (by omega)];rfl
end
end Go.Proofs.YtnkpnjnfddjfpaaGreat.FG

namespace Go.Proofs.YtnkpnjnfddjfpaaGreat.FG
open Go
section
variable {P : Program} {ops : Array Oper} {Q : Exit → Act → World → Prop} {md : Region.Mode}
theorem wpIn_round_flowG {y dep:Nat} {id:Nat} {l:List Value} {df:List Deferred} {w0:World} (ds:List Tmp) (fin:Nat -> Bool) (R:Array Bool -> World -> Prop) (V:Nat -> Value -> World -> Prop) (D:Nat -> Nat -> Value -> Value -> Prop)
  (hQ:¬ LetsOut Q) (hdf:noDefer ops = true) (hm:P.follows .mixedOrders = true) (hds:dstsL ops = ds) (h1:OneEach ops l.length) (hb:backB .any ops = true)
  (h0:R (Array.replicate ops.size false) { w0 with drawn:=w0.drawn + 1 })
  (step:∀ (i:Nat) (o:Oper),ops[i]? = some o -> ∀ (listed:Array Bool) (a:Act) (w:World),R listed w -> i < listed.size -> listed.getD i false = false -> (∀ j,anc .any ops i ops.size j = true -> listed.getD j false = false) -> (∀ j,anc .any ops j ops.size i = true -> listed.getD j false = true) -> (∀ t,t ∉ ds -> a.eval (.tmp t) = l.getD t undef) →
   (∀ (j:Nat) (oj:Oper) (d:Tmp),ops[j]? = some oj -> oj.dst = some d -> listed.getD j false = false -> a.eval (.tmp d) = l.getD d undef) →
   (∀ e ∈ o.after,wantE .any e = true -> ∀ oe,ops[e.on]? = some oe -> V e.on (leftBy a oe) w) →
   Region.wanted o (yielded ops a.tmps) = true /\ StepTo P Q o a w (fun a' w'=>∃ v,a' = a.put o.dst v /\ R (listed.setIfInBounds i true) w' /\ (∀ j u,usedB .any ops fin i j = true -> V j u w -> (∀ e ∈ o.after,wantE .any e = true -> e.on ≠ j -> ∀ oe,ops[e.on]? = some oe -> D e.on j (leftBy a oe) u /\ D j e.on u (leftBy a oe)) →
    V j u w' /\ D i j (match o.dst with | some _=>v | none=>undef) u /\ D j i u (match o.dst with | some _=>v | none=>undef)) /\ V i (match o.dst with | some _=>v | none=>undef) w'))
  (done:∀ (listed:Array Bool) (f:Nat -> Value) (w:World),R listed w -> (∀ i,i < ops.size -> listed.getD i false = true) -> (∀ (i:Nat) (o:Oper),ops[i]? = some o -> fin i = true -> V i (match o.dst with | some d=>f d | none=>undef) w) →
   Q .normal ⟨(spread ds f 0 l).toArray,df⟩ w) :
  (Code.region id ops true).wpIn (Fence.wide.inRound y) dep P Q ⟨l.toArray,df⟩ w0:=by
 subst hds
 have hb':∀ (i:Nat) (o:Oper),ops[i]? = some o -> ∀ e ∈ o.after,Region.binds .any e = true -> e.on < i:=fun i o hi e he hbe=>by
  unfold backB at hb
  rw [List.all_eq_true] at hb
  have h2:=hb i (by simpa using (Array.getElem?_eq_some_iff.1 hi).1)
  rw [hi] at h2
  simp only [Option.map_some,Option.getD_some] at h2
  rw [Array.all_eq_true_iff_forall_mem] at h2
  have h3:=h2 e he
  rw [hbe] at h3
  simpa using h3
 have h1':OneEach ops (Act.mk l.toArray df).tmps.size:=by simpa using h1
 refine wpIn_region_any hm (Zam hQ hdf _ _ _ _ (Zfe (FlowAt .any ops fin R V D ⟨l.toArray,df⟩) ?_ ?_ _ _ _ _ (Zcu ops) (FlowAt.start h0)))
 ·intro listed a w i hI hi
  obtain ⟨hun,o,ho,hw⟩:=mem_ready.1 hi
  have hil:i < listed.size:=by rw [hI.len];exact (Array.getElem?_eq_some_iff.1 ho).1
  have hunf:listed.getD i false = false:=by simp [hil] at hun ⊢;exact hun
  have hs:=step i o ho listed a w hI.rel hil hunf (fun j hj=>by
   cases hc:listed.getD j false with
   | false=>rfl
   | true=>have:=hI.shut.anc i _ _ hj hc;rw [hunf] at this;cases this) (fun j hj=>hI.shut.ready ho hw _ hj) (fun t ht=>by have:=hI.out t ht;simpa [Act.eval] using this) (fun j oj d hj hd hl=>by have:=hI.old j oj d hj hd hl;simpa [Act.eval] using this) (fun e he hbe oe hoe=>hI.val e.on oe hoe (hw e he (Zae hbe)) (.inr ⟨i,o,e,ho,hun,he,hbe,rfl⟩))
  unfold wpOp
  simp only [ho,hs.1,if_true]
  exact hs.2.imp (Oper.wp_mono (fun a' w' h=>by
   obtain ⟨v,rfl,hR,hmono,hv⟩:=h
   exact hI.next h1' ho hun hw hR hmono hv)) (fun h=>h)
 ·intro listed a w hI hr
  obtain ⟨hR,hall,hV,ha⟩:=hI.end hb' hr
  rw [ha]
  exact done _ _ _ hR hall hV
end
end Go.Proofs.YtnkpnjnfddjfpaaGreat.FG

namespace Go.Proofs.YtnkpnjnfddjfpaaGreat.FG
open Go
section
variable {P : Program} {ops : Array Oper} {Q : Exit → Act → World → Prop} {md : Region.Mode}
end
theorem wanted_any {ops:Array Oper} {tm:Array Value} {o:Oper} (hg:o.guard = none):Region.wanted o (yielded ops tm) = true:=by
 unfold Region.wanted;rw [hg]
end Go.Proofs.YtnkpnjnfddjfpaaGreat.FG

namespace Go.Proofs.YtnkpnjnfddjfpaaGreat
open Go.RowKit
def chunk (room:Nat) (l:List Nat) (j:Nat):List Nat:=(M20.leftE room l j).take (partF28 room (M20.leftE room l j))
theorem Zcq (room:Nat) (l:List Nat) (j:Nat):(chunk room l j).length = partF28 room (M20.leftE room l j):=by
 unfold chunk;rw [List.length_take];have:=Zak room (M20.leftE room l j);omega
def RowsX (A:World) (q:Nat) (ch:Nat -> List Nat) (k:Nat) (g:Option Addr) (es:Es):Prop :=
 es.length = k /\ ∀ i (h:i < es.length),(es[i].2.2 = ch i /\ RowN .u8 A es[i].1 es[i].2.1 es[i].2.2) /\ Off A g es[i].1 /\ ∀ x,es[i].1 = some x -> q <= x.block
theorem RowsX.nil (A:World) (q:Nat) (ch:Nat -> List Nat) (g:Option Addr):RowsX A q ch 0 g []:=⟨rfl,fun i h=>by simp at h⟩
theorem RowsX.only {A B:World} {q:Nat} {ch:Nat -> List Nat} {k:Nat} {g:Option Addr} {es:Es} {T:Nat -> Prop} (h:RowsX A q ch k g es) (ho:Only T A B) (hT:∀ b,T b -> b < q):RowsX B q ch k g es:=by
 refine ⟨h.1,fun i hi=>?_⟩
 obtain ⟨⟨h1,h2⟩,h3,h4⟩:=h.2 i hi
 refine ⟨⟨h1,?_⟩,?_,h4⟩
 ·refine RowN.same h2 ho.size (fun x h0 hx=>?_)
  rcases h3 with h3 | ⟨b,h5,h6,_⟩
  ·rw [h3] at hx;cases hx
  ·rw [h5] at hx;cases hx
   exact ho.block b h6 (fun t=>by have:=hT b t;have:=h4 _ h5;simp at this;omega)
 ·rcases h3 with h3 | ⟨b,h5,h6,h7⟩
  ·exact .inl h3
  ·exact .inr ⟨b,h5,Nat.lt_of_lt_of_le h6 ho.size,h7⟩
theorem RowN.putC {k:IntKind} {A:World} {a:Option Addr} {c l:Nat} {x:List Nat} (h:RowN k A a c x) {o:Obj} (hl:A.heap[l]? = some o) (ho:o.isCells = false) (o':Obj):RowN k (A.putObj l o') a c x:=by
 obtain ⟨h1,h2,h3⟩:=h
 refine ⟨h1,h2,?_⟩
 rcases h3 with h3 | ⟨b,off,ha,hb,hc⟩
 ·exact .inl h3
 ·refine .inr ⟨b,off,ha,by rw [World.putObj_size];exact hb,fun i hi=>?_⟩
  have h5:=hc i hi
  have hne:b ≠ l:=by
   rintro rfl
   unfold World.cell? at h5
   rw [hl] at h5
   cases o with
   | cells c t z=>cases ho
   | _=>simp at h5
  unfold World.cell? at h5 ⊢
  rw [World.putObj_heap_other hne]
  exact h5
theorem RowsX.put {A:World} {q:Nat} {ch:Nat -> List Nat} {k r:Nat} {g:Option Addr} {es:Es} {o:Obj} (h:RowsX A q ch k g es) (hr:A.heap[r]? = some o) (ho:o.isCells = false) (o':Obj):RowsX (A.putObj r o') q ch k g es:=by
 refine ⟨h.1,fun i hi=>?_⟩
 obtain ⟨⟨h1,h2⟩,h3,h4⟩:=h.2 i hi
 refine ⟨⟨h1,RowN.putC h2 hr ho o'⟩,?_,h4⟩
 rcases h3 with h3 | ⟨b,h5,h6,h7⟩
 ·exact .inl h3
 ·exact .inr ⟨b,h5,by rw [World.putObj_size];exact h6,h7⟩
theorem RowsX.next {A w5 w7:World} {q:Nat} {ch:Nat -> List Nat} {k gc:Nat} {g a7 ga:Option Addr} {es:Es} {x:List Nat} (h:RowsX A q ch k g es) (hgl:∀ g0,g = some ⟨g0,0,none⟩ -> g0 < A.heap.size) (hb:Below A.heap.size A w5) (hx:OwnN 5 .u8 w5 A.heap.size ga gc x) (hq:q <= A.heap.size) (hch:x = ch k)
  (ho:Only (fun b=>g = some ⟨b,0,none⟩) w5 w7) (hf:∀ g',a7 = some ⟨g',0,none⟩ -> g = some ⟨g',0,none⟩ \/ w5.heap.size <= g'):RowsX w7 q ch (k + 1) a7 (es ++ [(ga,gc,x)]):=by
 have key:∀ (ra:Option Addr) (rc:Nat) (r:List Nat),RowN .u8 w5 ra rc r -> Off w5 g ra -> RowN .u8 w7 ra rc r /\ Off w7 a7 ra:=by
  intro ra rc r h2 h3
  rcases h3 with h3 | ⟨b,h5,h6,h7⟩
  ·subst h3
   refine ⟨RowN.same h2 ho.size (fun x _ hx=>by cases hx),.inl rfl⟩
  ·subst h5
   refine ⟨RowN.same h2 ho.size (fun x _ hx=>by cases hx;exact ho.block b h6 (fun t=>h7 b t rfl)),.inr ⟨b,rfl,Nat.lt_of_lt_of_le h6 ho.size,fun g0 h0 e=>?_⟩⟩
   rcases hf g0 h0 with h8 | h8
   ·exact h7 g0 h8 e
   ·omega
 refine ⟨by rw [List.length_append,h.1];rfl,fun i hi=>?_⟩
 rw [List.length_append,List.length_singleton] at hi
 by_cases e:i < es.length
 ·rw [List.getElem_append_left e]
  obtain ⟨⟨h1,h2⟩,h3,h4⟩:=h.2 i e
  have h3':Off w5 g es[i].1:=by
   rcases h3 with h3 | ⟨b,h5,h6,h7⟩
   ·exact .inl h3
   ·exact .inr ⟨b,h5,Nat.lt_of_lt_of_le h6 hb.size,h7⟩
  obtain ⟨k1,k2⟩:=key _ _ _ (h2.below hb) h3'
  exact ⟨⟨h1,k1⟩,k2,h4⟩
 ·have:i = k:=by have:=h.1;omega
  subst this
  rw [List.getElem_append_right (by omega)]
  have e0:i - es.length = 0:=by have:=h.1;omega
  simp only [e0,List.getElem_cons_zero]
  have h3':Off w5 g ga:=by
   rcases hx.form with ⟨h3,_⟩ | ⟨b,h4,h5,h6⟩
   ·exact .inl h3
   ·exact .inr ⟨b,h4,h6,fun g0 h0=>by have:=hgl g0 h0;omega⟩
  obtain ⟨k1,k2⟩:=key _ _ _ hx.row h3'
  refine ⟨⟨hch,k1⟩,k2,fun y hy=>?_⟩
  rcases hx.form with ⟨h3,_⟩ | ⟨b,h4,h5,h6⟩
  ·rw [h3] at hy;cases hy
  ·rw [h4] at hy;cases hy;show q <= b;omega
theorem OwnS.putP {α:Type} {c:Enc α} {E:TypeId} {A:World} {base cap r:Nat} {a:Option Addr} {l:List α} {o:Obj} (h:OwnS c E A base a cap l) (hr:A.heap[r]? = some o) (ho:o.isCells = false) (o':Obj):OwnS c E (A.putObj r o') base a cap l:=by
 refine ⟨h.1,?_⟩
 rcases h.2 with h2 | ⟨g,c,cur,h1,h2,h3,h4⟩
 ·exact .inl h2
 ·exact .inr ⟨g,c,cur,h1,h2,Zbk h3 hr ho,h4⟩
structure BlkI (w:World) (p room:Nat) (l:List Nat) (i:Nat) (A:World):Prop where
 c:∃ ga gc es,A.heap[p]? = some (.cells #[.slice ga i gc] 33 (0,0)) /\ OwnS encSl 22 A (p + 3) ga gc es /\ RowsX A (p + 3) (chunk room l) i ga es
 bel:Below w.heap.size w A
theorem BlkI.only {w A B:World} {p room i:Nat} {l:List Nat} {T:Nat -> Prop} (h:BlkI w p room l i A) (hp:w.heap.size = p) (ho:Only T A B) (hT:∀ b,T b -> p < b /\ b < p + 3):BlkI w p room l i B:=by
 obtain ⟨ga,gc,es,h1,h2,h3⟩:=h.c
 exact ⟨⟨ga,gc,es,Zaa h1 ho (fun t=>by have:=hT _ t;omega),h2.only ho (fun b hb t=>by have:=hT _ t;omega),h3.only ho (fun b t=>(hT b t).2)⟩,Below.only h.bel ho (Nat.le_refl _) (fun b t=>by have:=hT b t;omega)⟩
theorem BlkI.put {w A:World} {p room i r:Nat} {l:List Nat} {o:Obj} (h:BlkI w p room l i A) (hp:w.heap.size = p) (hr0:p <= r) (hr:A.heap[r]? = some o) (ho:o.isCells = false) (o':Obj):BlkI w p room l i (A.putObj r o'):=by
 obtain ⟨ga,gc,es,h1,h2,h3⟩:=h.c
 exact ⟨⟨ga,gc,es,Zbk h1 hr ho,h2.putP hr ho o',h3.put hr ho o'⟩,Below.put h.bel (Nat.le_refl _) hr (by omega) o'⟩
theorem Zek {w A w5 w7:World} {p room i gc a7c:Nat} {l x:List Nat} {ga a7 xa:Option Addr} {xc:Nat} {es:Es} (hp:w.heap.size = p) (h:BlkI w p room l i A) (h1:A.heap[p]? = some (.cells #[.slice ga i gc] 33 (0,0))) (hown:OwnS encSl 22 A (p + 3) ga gc es) (hrx:RowsX A (p + 3) (chunk room l) i ga es)
  (hb5:Below A.heap.size A w5) (hx:OwnN 5 .u8 w5 A.heap.size xa xc x) (hN:p + 3 <= A.heap.size) (hch:x = chunk room l i) (ho7:OwnS encSl 22 w7 (p + 3) a7 a7c (es ++ [(xa,xc,x)])) (ho:Only (fun b=>ga = some ⟨b,0,none⟩) w5 w7) (hf:∀ g',a7 = some ⟨g',0,none⟩ -> ga = some ⟨g',0,none⟩ \/ w5.heap.size <= g')
  (s:Nat -> Prop) (hs:∀ b,s b -> b < A.heap.size /\ b ≠ p /\ b < p + 3) :
  KeepsFrom (p + 3) A (w7.setCell ⟨p,0,none⟩ (.slice a7 (i + 1) a7c)) /\ SameOn s A (w7.setCell ⟨p,0,none⟩ (.slice a7 (i + 1) a7c)) /\ BlkI w p room l (i + 1) (w7.setCell ⟨p,0,none⟩ (.slice a7 (i + 1) a7c)):=by
 have hgl:=Zfw hown
 have hab:∀ g,ga = some ⟨g,0,none⟩ -> p + 3 <= g:=fun g e=>by
  rcases hown.form with ⟨h2,_⟩ | ⟨g',h2,h3,_⟩
  ·rw [h2] at e;cases e
  ·rw [h2] at e;cases e;exact h3
 have hO5:Only (fun b=>b = p \/ ga = some ⟨b,0,none⟩) A w5:=(Only.refl _ _).below hb5
 have hO7:Only (fun b=>b = p \/ ga = some ⟨b,0,none⟩) A w7:=hO5.trans (ho.mono (fun b _ t=>.inr t))
 have hO:=hO7.setCell (p:=⟨p,0,none⟩) (.inl (.inl rfl)) (.slice a7 (i + 1) a7c)
 have h1w:w7.heap[p]? = some (.cells #[.slice ga i gc] 33 (0,0)):=by
  have h5:=(hb5.block _ (lt_of_block h1)).trans h1
  exact Zaa h5 ho (fun t=>by have:=hab p t;omega)
 have ha7:∀ g,a7 = some ⟨g,0,none⟩ -> p + 3 <= g:=fun g e=>by
  rcases ho7.form with ⟨h2,_⟩ | ⟨g',h2,h3,_⟩
  ·rw [h2] at e;cases e
  ·rw [h2] at e;cases e;exact h3
 refine ⟨keepsOnlyP hO (fun b o t hb=>?_),hO.sameOn (fun b hb=>⟨(hs b hb).1,fun t=>?_⟩),⟨⟨a7,a7c,es ++ [(xa,xc,x)],?_,?_,?_⟩,?_⟩⟩
 ·rcases t with rfl | t
  ·rw [h1] at hb;cases hb;rfl
  ·rcases hown.2 with ⟨h3,_⟩ | ⟨g,c',cur,h3,_,h4,_⟩
   ·simp only [Value.slice.injEq] at h3
    rw [h3.1] at t;cases t
   ·simp only [Value.slice.injEq] at h3
    rw [h3.1] at t
    cases t
    rw [h4] at hb;cases hb;rfl
 ·have:=hs b hb
  rcases t with t | t
  ·omega
  ·have:=hab b t;omega
 ·exact one_setCell h1w
 ·exact ho7.other (fun g e=>by have:=ha7 g e;show p ≠ g;omega) _
 ·exact (RowsX.next hrx hgl hb5 hx hN hch ho hf).only (T:=fun b=>b = p) (Only.setCell (T:=fun b=>b = p) (p:=⟨p,0,none⟩) (Only.refl _ _) (.inl rfl) _) (fun b t=>by omega)
 ·refine Below.only h.bel hO (Nat.le_refl _) (fun b t=>?_)
  rcases t with t | t
  ·omega
  ·have:=hab b t;omega
end Go.Proofs.YtnkpnjnfddjfpaaGreat

namespace Go.Proofs.YtnkpnjnfddjfpaaGreat.FG
open Go
theorem used_mem {md:Region.Mode} {ops:Array Oper} {fin:Nat -> Bool} {i j:Nat} (hb:backB md ops = true)
  (hf:∀ j,fin j = true -> j < ops.size) (h:usedB md ops fin i j = true) (L:List Nat) (hL:(List.range ops.size).filter (usedB md ops fin i) = L):j ∈ L:=by
 rw [<- hL,List.mem_filter]
 refine ⟨?_,h⟩
 rw [List.mem_range]
 unfold usedB at h
 rw [Bool.and_eq_true,Bool.or_eq_true] at h
 rcases h.2 with h2 | h2
 ·exact hf j h2
 ·rw [List.any_eq_true] at h2
  obtain ⟨k,hk,h3⟩:=h2
  rw [Bool.and_eq_true] at h3
  cases ho:ops[k]? with
  | none=>rw [ho] at h3;simp at h3
  | some o =>
   rw [ho] at h3
   simp only [Option.map_some,Option.getD_some] at h3
   obtain ⟨e,he,h4⟩:=Array.any_eq_true'.1 h3.2
   rw [Bool.and_eq_true,beq_iff_eq] at h4
   unfold backB at hb
   rw [List.all_eq_true] at hb
   have h5:=hb k hk
   rw [ho] at h5
   simp only [Option.map_some,Option.getD_some] at h5
   rw [Array.all_eq_true_iff_forall_mem] at h5
   have h6:=h5 e he
   rw [Zae h4.1] at h6
   have:=List.mem_range.1 hk
   rw [<- h4.2]
   simp at h6
   omega
end Go.Proofs.YtnkpnjnfddjfpaaGreat.FG
namespace Go.Proofs.YtnkpnjnfddjfpaaGreat
open Go.RowKit
attribute [local go_sem] Oper.semAt_some
theorem ldSS (p:Addr) (v:Value) (w:World) (h:w.cell? p = some v):(Instr.loadAt 33 (.pointer (some p))).run Tryz.prog w = .ok v w:=by
 simp [Instr.loadAt,Instr.sureAddr,loadVar,isAgg,run_underlying Tryz.underlying33,h,go_sem]
theorem stSS (p:Addr) (a:Option Addr) (n c:Nat) (u:Value) (w:World) (h:w.cell? p = some u) (hf:w.frozen? p = false):(Instr.storeAt 33 (.pointer (some p)) (.slice a n c)).run Tryz.prog w = .ok () (w.setCell p (.slice a n c)):=by
 simp [Instr.storeAt,Instr.sureAddr,storeVar,isAgg,run_underlying Tryz.underlying33,h,hf,go_sem]
theorem bsSS (g:Option Addr) (n c:Nat) (w:World):(Instr.buildSlice 33 1 #[(0,.slice g n c)]).run Tryz.prog w = .ok (.slice (some ⟨w.heap.size,0,none⟩) 1 1) (w.alloc (.cells #[.slice g n c] 22)):=by
 kernel_rfl
theorem Zby (w:World) (a:Option Addr) (n c:Nat) (lv:Int) (h:lv < 1 \/ 9 < lv) :
  Calls Tryz.prog 12 #[.slice a n c,.int .i64 lv] w fun e w'=>e = .returned (.tuple #[.slice none 0 0,.int .i64 1]) /\ w' = w:=by
 by_cases h1:lv < 1
 ·have t1:decide (lv < 1) = true:=by simp;omega
  clear h
  go_enter Tryz.func12,Tryz.ntmps12
  go_wp2
  refine bodyPost_ret (results_tmp2 rfl _ _ _) rfl ?_
  exact ⟨rfl,rfl⟩
 ·have t1:decide (lv < 1) = false:=by simp;omega
  have t2:decide (9 < lv) = true:=by simp;omega
  clear h h1
  go_enter Tryz.func12,Tryz.ntmps12
  go_wp2
  refine bodyPost_ret (results_tmp2 rfl _ _ _) rfl ?_
  exact ⟨rfl,rfl⟩
set_option maxRecDepth 100000 in
set_option maxHeartbeats 6400000 in
theorem Zat (w:World) (a:Option Addr) (cap:Nat) (l:List Nat) (lv:Nat) (hr:RowN .u8 w a cap l) (h256:∀ x ∈ l,x < 256) (hl:l.length <= 1000000) (hlv1:1 <= lv) (hlv9:lv <= 9) :
  Calls Tryz.prog 12 #[.slice a l.length cap,.int .i64 (lv:Nat)] w fun e w'=>∃ g c es,e = .returned (.tuple #[.slice g es.length c,.int .i64 0]) /\ RowS encSl w' g c es /\ es.length = (M20.ends (lv * 100000 - 19) l).length ∧
   (∀ i (h:i < es.length),es[i].2.2 = chunk (lv * 100000 - 19) l i /\ RowN .u8 w' es[i].1 es[i].2.1 es[i].2.2) /\ Below w.heap.size w w':=by
 obtain ⟨room,hroom⟩:∃ room,lv * 100000 - 19 = room:=⟨_,rfl⟩
 rw [hroom]
 have HRM:5 <= room /\ room <= 1000000:=by omega
 replace hroom:=Zh hroom
 have HR:=Zh hr
 have HL:=Zh h256
 have t1:decide ((lv:Int) < 1) = false:=by simp;omega
 have t2:decide ((9:Int) < (lv:Int)) = false:=by simp;omega
 have t2':decide (9 < lv) = false:=by simp;omega
 clear hr h256
 refine (callsIn_wide (n:=9)).1 ?_
 refine callsIn_of_wp_marks Tryz.func12 rfl trivial ?_ rfl
 simp only [Tryz.ntmps12,List.size_toArray,List.length_cons,List.length_nil,Nat.reduceAdd,Nat.reduceSub,Array.replicate_succ,Array.replicate_zero,List.push_toArray,List.append_toArray,List.nil_append,List.cons_append]
 gi_wp2_with (refine ⟨trivial,?_⟩;gi_at_call 31;refine (callsIn_wide.2 (Zcg _ _ _ _ _)).mono ?_;rintro e w' ⟨rfl,rfl⟩)
 obtain ⟨p,hp⟩:∃ p,w.heap.size = p:=⟨_,rfl⟩
 obtain ⟨W0,hW0⟩:∃ W0,((w.alloc (.cells #[.slice none 0 0] 33)).alloc (.cells #[.slice a l.length cap] 22)).alloc (.cells #[.int .i64 (lv:Nat)] 3) = W0:=⟨_,rfl⟩
 have hz:W0.heap.size = p + 3:=by rw [<- hW0,<- hp];simp
 have hb0:W0.heap[p]? = some (.cells #[.slice none 0 0] 33 (0,0)):=by
  rw [<- hW0,<- hp]
  exact (Below.heap_alloc _ _ _ (by simp;omega)).trans ((Below.heap_alloc _ _ _ (by simp)).trans (World.alloc_heap_new w _))
 have hb1:W0.heap[p + 1]? = some (.cells #[.slice a l.length cap] 22 (0,0)):=by
  rw [<- hW0,<- hp]
  have:=World.alloc_heap_new (w.alloc (.cells #[.slice none 0 0] 33)) (.cells #[.slice a l.length cap] 22)
  rw [World.size_alloc] at this
  exact (Below.heap_alloc _ _ _ (by simp)).trans this
 have hb2:W0.heap[p + 2]? = some (.cells #[.int .i64 (lv:Nat)] 3 (0,0)):=by
  rw [<- hW0,<- hp]
  have:=World.alloc_heap_new ((w.alloc (.cells #[.slice none 0 0] 33)).alloc (.cells #[.slice a l.length cap] 22)) (.cells #[.int .i64 (lv:Nat)] 3)
  rw [World.size_alloc,World.size_alloc] at this
  exact this
 have hbel:Below w.heap.size w W0:=by rw [<- hW0];exact (((Below.refl _ _).alloc (Nat.le_refl _) _).alloc (by simp) _).alloc (by simp;omega) _
 rw [hW0,hp]
 clear hW0
 simp only [Nat.add_assoc,Nat.reduceAdd]
 have hpf:=hp
 replace hp:=Zh hp
 have h5:5 <= room:=HRM.1
 have hr4:RowN .u8 W0 a cap l:=HR.out.below hbel
 obtain ⟨s0,hs0⟩:∃ s0,s0 = Cst.mk a cap l:=⟨_,rfl⟩
 have hDlt:∀ b,s0.D b -> b < p:=fun b hb=>by
  have:=Cst.D_lt (s:=s0) (w:=w) (by rw [hs0];exact HR.out) hb
  omega
 have hpy:=Zas s0 W0 (p + 1) (p + 2) lv (by rw [hs0];exact hr4) (by rw [hs0];exact HL.out) (by rw [hs0];exact hl) hlv1 hlv9 (by omega) (by rw [hs0];exact hb1) hb2 (fun b hb=>by have:=hDlt b hb;omega)
 have hs0l:s0.l = l:=by rw [hs0]
 rw [hs0l,hroom.out] at hpy
 have HDL:=Zh hDlt
 have HS0:=Zh hs0
 have HS0L:=Zh hs0l
 have HROW:Hid (∀ A i,BlkI w p room l i A -> RowN .u8 A (s0.ath (partF28 room) i).a (s0.ath (partF28 room) i).cap (s0.ath (partF28 room) i).l):=fun A i h=>by
  have h1:RowN .u8 A s0.a s0.cap s0.l:=by rw [HS0.out];exact HR.out.below h.bel
  exact Cst.ath_row (Zak room) h1 i
 clear hDlt hs0 hs0l
 refine Zbm (g:=.tmp 16) (gf:=59) (lb:=#[.pointer (some ⟨p + 1,0,none⟩),.pointer (some ⟨p + 2,0,none⟩)]) rfl (enters_of Tryz.func59 (by kernel_rfl) rfl)
  hpy (SameOn.refl _ _) ?hS ?hT (fun i A r h=>by obtain ⟨g,c,rfl,_⟩:=h;rfl)
  (BlkI w p room l) (fun _ _ _=>False) (fun _ _ _ h ho=>h.only hpf ho (fun b t=>by omega)) (fun _ _ _ _ o' h h0 h1 h2=>h.put hpf (by omega) h1 h2 o')
  (fun _ _ _ _ h _=>h) (fun _ _ _ _ _ _ h _ _ _=>h) (fun _ _ _ _ _ h _ _ _=>h) (fun _ h=>by obtain ⟨v,hv⟩:=h;cases hv) ?h0
  (fun i a' A=>BlkI w p room l i A /\ ∃ v18,a' = ⟨#[Value.slice a l.length cap,Value.int .i64 (lv:Nat),undef,undef,Value.slice none 0 0,Value.int .i64 0,Value.pointer (some ⟨p,0,none⟩),Value.slice (s0.ath (partF28 room) i).a (partF28 room (s0.ath (partF28 room) i).l) (partF28 room (s0.ath (partF28 room) i).l),Value.int .i64 (lv:Nat),Value.bool false,Value.bool false,Value.int .i64 (lv:Nat),Value.bool false,Value.bool false,Value.slice a l.length cap,Value.int .i64 (lv:Nat),Value.func (.func 59) #[] #[Value.pointer (some ⟨p + 1,0,none⟩),Value.pointer (some ⟨p + 2,0,none⟩)],Value.slice (s0.ath (partF28 room) i).a (partF28 room (s0.ath (partF28 room) i).l) (partF28 room (s0.ath (partF28 room) i).l),v18,undef,undef,undef,undef,undef,undef],[]⟩) ?hAp ?assign ?body ?done (fun _ _ _ h _=>by obtain ⟨v,hv⟩:=h;cases hv) (fun _ _ _ _ h _=>h.elim)
 case hS =>
  rintro b (rfl | rfl | hb)
  ·omega
  ·omega
  ·have:=HDL.out b hb;omega
 case hT=>rintro b rfl;omega
 case h0=>exact ⟨⟨none,0,[],hb0,World.ownsRow_nil _ _ _ _,RowsX.nil _ _ _ _⟩,hbel⟩
 case hAp =>
  rintro i a' A r o o' ⟨h1,h2⟩ h3 h4 h6
  exact ⟨h1.put hpf (by omega) h4 h6 o',h2⟩
 case assign =>
  rintro y i W r K hi hsz hI ⟨g,c,rfl,hV⟩ hK
  have HK:=Zh hK
  have HI:=Zh hI
  clear hK hI hV
  gi_wp2
  exact HK.out _ _ (KeepsFrom.refl _ _) (SameOn.refl _ _) ⟨HI.out,_,rfl⟩
 case body =>
  rintro y i hi a' A hsz ⟨hI,v18,rfl⟩
  have hrow:=HROW.out A i hI
  have hlf:=Cst.ath_part room s0 i
  change (s0.ath (partF28 room) i).l = _ at hlf
  rw [HS0L.out] at hlf
  have hne:=M20.Zbf h5 hi
  rw [hlf] at hrow
  simp only [hlf]
  have HCH:Hid (chunk room l i = (M20.leftE room l i).take (partF28 room (M20.leftE room l i))):=rfl
  have hcl:=Zcq room l i
  have n1:1 <= partF28 room (M20.leftE room l i):=M20.Zaq h5 hne
  have n3:partF28 room (M20.leftE room l i) <= 1000000:=by have:=Zak room (M20.leftE room l i);have:=M20.Zct room l i;omega
  have hx:=Zbi hrow (partF28 room (M20.leftE room l i))
  rw [<- HCH.out] at hx
  obtain ⟨N,hN⟩:∃ N,partF28 room (M20.leftE room l i) = N:=⟨_,rfl⟩
  rw [hN] at hcl n1 n3 ⊢
  clear HCH hN
  obtain ⟨x,hxx⟩:∃ x,chunk room l i = x:=⟨_,rfl⟩
  rw [hxx] at hcl hx
  replace hx:=Zck (n:=N) hx (by intro e;rw [e] at hcl;simp at hcl;omega) (by omega) n3
  obtain ⟨ga,gc,es,h1,hown,hrx⟩:=hI.c
  have hesl:=hrx.1
  have hil:i <= 1000000:=by have:=M20.Zds h5 l;omega
  have HX:=Zh hx
  have HI:=Zh hI
  have H1:=Zh h1
  have HOWN:=Zh hown
  have HRX:=Zh hrx
  have HXX:=Zh hxx
  have HESL:=Zh hesl
  generalize (s0.ath (partF28 room) i).a = sa at *
  clear hrow hlf hne hx hI h1 hown hrx hxx hb0 hb1 hb2 hpy hr4 hbel hesl hi
  subst hcl
  gi_wp2_with fail
  have HNXT:=Zh (fun (w5 w7:World) (xa a7:Option Addr) (xc a7c:Nat) (hb5:Below A.heap.size A w5) (hx5:OwnN 5 .u8 w5 A.heap.size xa xc x) (ho7:OwnS encSl 22 w7 (p + 3) a7 a7c (es ++ [(xa,xc,x)])) (ho:Only (fun b=>ga = some ⟨b,0,none⟩) w5 w7) (hf:∀ g',a7 = some ⟨g',0,none⟩ -> ga = some ⟨g',0,none⟩ \/ w5.heap.size <= g') =>
   Zek hp.out HI.out H1.out HOWN.out HRX.out hb5 hx5 (by omega) HXX.out.symm ho7 ho hf (fun b=>b = p + 1 \/ b = p + 2 \/ s0.D b) (fun b hb=>by
    rcases hb with rfl | rfl | hb
    ·omega
    ·omega
    ·have:=HDL.out b hb;omega))
  refine FG.wpIn_round_flowG [19,20,21,22,23] (fun _=>false)
   (fun listed w1=>if listed.getD 5 false = true then (KeepsFrom (p + 3) A w1 /\ SameOn (fun b=>b = p + 1 \/ b = p + 2 \/ s0.D b) A w1 /\ BlkI w p room l (i + 1) w1) else if listed.getD 4 false = true then True else Below A.heap.size A w1)
   (fun j v w1=>match j with
    | 0=>v = .slice ga i gc
    | 1=>v = .slice sa x.length x.length
    | 2=>∃ g c,v = .slice g x.length c /\ OwnN 5 .u8 w1 A.heap.size g c x
    | 3=>∃ q g c,v = .slice (some ⟨q,0,none⟩) 1 1 /\ RowS encSl w1 (some ⟨q,0,none⟩) 1 [(g,c,x)] /\ OwnN 5 .u8 w1 A.heap.size g c x
    | 4=>∃ a7 a7c g c w5,v = .slice a7 (i + 1) a7c /\ Below A.heap.size A w5 /\ OwnN 5 .u8 w5 A.heap.size g c x /\ OwnS encSl 22 w1 (p + 3) a7 a7c (es ++ [(g,c,x)]) /\ Only (fun b=>ga = some ⟨b,0,none⟩) w5 w1 /\ (∀ g',a7 = some ⟨g',0,none⟩ -> ga = some ⟨g',0,none⟩ \/ w5.heap.size <= g')
    | _=>True)
   (fun _ _ _ _=>True) (by rintro ⟨_,_,h⟩;exact h) (by kernel_rfl) (by kernel_rfl) (by kernel_rfl) (FG.OneEach.mk' (by kernel_rfl) (by kernel_rfl)) (by kernel_rfl) ?_ ?_ ?_
  ·exact ⟨rfl,rfl,rfl,Nat.le_refl _,fun _ _=>rfl⟩
  ·intro i0 o hi0 listed a1 w1 hR hil0 hunf hdes hanc hout hold hdep
   have hsz:i0 < 6:=(Array.getElem?_eq_some_iff.1 hi0).1
   have hall:i0 = 0 \/ i0 = 1 \/ i0 = 2 \/ i0 = 3 \/ i0 = 4 \/ i0 = 5:=by omega
   clear hsz hold
   rcases hall with rfl | rfl | rfl | rfl | rfl | rfl <;> simp only [List.getElem?_toArray,List.getElem?_cons_zero,List.getElem?_cons_succ,Option.some.injEq] at hi0 <;> subst hi0
   ·rw [hdes 5 (by kernel_rfl),if_neg (by decide),hdes 4 (by kernel_rfl),if_neg (by decide)] at hR
    have f6:a1.eval (.tmp 6) = .pointer (some ⟨p,0,none⟩):=hout 6 (by decide)
    have k1:=cell_of_one ((hR.block _ (lt_of_block H1.out)).trans H1.out)
    refine ⟨FG.wanted_any rfl,Zax (v:=.slice ga i gc) (w':=w1) (by simp [execOp,f6,ldSS _ _ _ k1]) ⟨_,rfl,?_,fun j u hu hV _=>⟨hV,trivial,trivial⟩,rfl⟩⟩
    rw [Zad (by decide),hdes 5 (by kernel_rfl),if_neg (by decide),Zad (by decide),hdes 4 (by kernel_rfl),if_neg (by decide)];exact hR
   ·rw [hdes 5 (by kernel_rfl),if_neg (by decide),hdes 4 (by kernel_rfl),if_neg (by decide)] at hR
    have f7:a1.eval (.tmp 7) = .slice sa x.length x.length:=hout 7 (by decide)
    refine ⟨FG.wanted_any rfl,Zax (v:=.slice sa x.length x.length) (w':=w1) (by simp [execOp,f7]) ⟨_,rfl,?_,fun j u hu hV _=>⟨hV,trivial,trivial⟩,rfl⟩⟩
    rw [Zad (by decide),hdes 5 (by kernel_rfl),if_neg (by decide),Zad (by decide),hdes 4 (by kernel_rfl),if_neg (by decide)];exact hR
   ·rw [hdes 5 (by kernel_rfl),if_neg (by decide),hdes 4 (by kernel_rfl),if_neg (by decide)] at hR
    have e20:a1.eval (.tmp 20) = .slice sa x.length x.length:=hdep ⟨1,.data⟩ (by simp) rfl _ rfl
    have x20:a1.tmps[20]?.getD undef = .slice sa x.length x.length:=by simpa [Act.eval] using e20
    refine ⟨FG.wanted_any rfl,Zdo (f:=32) (args:=#[.slice sa x.length x.length]) (by simp [execOp,resolve,e20,x20,go_sem,enters_of Tryz.func32 (by kernel_rfl) rfl]) ((Zbn w1 sa x.length x (HX.out.below hR) (by omega)).mono ?_)⟩
    rintro e w2 ⟨g,c,rfl,ho,hb⟩
    refine ⟨_,rfl,_,rfl,?_,fun j u hu hV _=>?_,⟨g,c,rfl,ho.mono hR.size⟩⟩
    ·rw [Zad (by decide),hdes 5 (by kernel_rfl),if_neg (by decide),Zad (by decide),hdes 4 (by kernel_rfl),if_neg (by decide)];exact hR.trans (hb.mono hR.size)
    ·have:=FG.used_mem (by kernel_rfl) (fun j h=>by cases h) hu [0] (by kernel_rfl)
     rw [List.mem_singleton] at this
     subst this
     exact ⟨hV,trivial,trivial⟩
   ·rw [hdes 5 (by kernel_rfl),if_neg (by decide),hdes 4 (by kernel_rfl),if_neg (by decide)] at hR
    obtain ⟨g,c,e21,ho⟩:∃ g c,a1.eval (.tmp 21) = .slice g x.length c /\ OwnN 5 .u8 w1 A.heap.size g c x:=hdep ⟨2,.data⟩ (by simp) rfl _ rfl
    have hb:=Zar w1 (.cells #[.slice g x.length c] 22)
    refine ⟨FG.wanted_any rfl,Zax (v:=.slice (some ⟨w1.heap.size,0,none⟩) 1 1) (w':=w1.alloc (.cells #[.slice g x.length c] 22)) (by simp [execOp,e21,bsSS]) ⟨_,rfl,?_,fun j u hu hV _=>?_,⟨w1.heap.size,g,c,rfl,RowS.lit encSl w1 [(g,c,x)] 22 #[.slice g x.length c] w1.heap.size rfl rfl (by simp),ho.below hb⟩⟩⟩
    ·rw [Zad (by decide),hdes 5 (by kernel_rfl),if_neg (by decide),Zad (by decide),hdes 4 (by kernel_rfl),if_neg (by decide)];exact hR.trans (hb.mono hR.size)
    ·have:=FG.used_mem (by kernel_rfl) (fun j h=>by cases h) hu [0] (by kernel_rfl)
     rw [List.mem_singleton] at this
     subst this
     exact ⟨hV,trivial,trivial⟩
   ·rw [hdes 5 (by kernel_rfl),if_neg (by decide),hunf,if_neg (by decide)] at hR
    have e19:a1.eval (.tmp 19) = .slice ga i gc:=hdep ⟨0,.data⟩ (by simp) rfl _ rfl
    obtain ⟨q,g,c,e22,hy,ho⟩:∃ q g c,a1.eval (.tmp 22) = .slice (some ⟨q,0,none⟩) 1 1 /\ RowS encSl w1 (some ⟨q,0,none⟩) 1 [(g,c,x)] /\ OwnN 5 .u8 w1 A.heap.size g c x:=hdep ⟨3,.data⟩ (by simp) rfl _ rfl
    obtain ⟨a7,a7c,w7,ho7,hon,hf,hrun⟩:=appSEq Zfi 33 (HOWN.out.below hR) (n:=i) HESL.out.symm (m:=1) rfl hy (by omega) (by omega) (by have:=hR.size;omega)
    refine ⟨FG.wanted_any rfl,Zax (v:=.slice a7 (i + 1) a7c) (w':=w7) (by simp [execOp,resolve,invoke,builtin,e19,e22,hrun]) ⟨_,rfl,?_,fun j u hu hV _=>?_,⟨a7,a7c,g,c,w1,rfl,hR,ho,ho7,hon,hf⟩⟩⟩
    ·rw [Zad (by decide),hdes 5 (by kernel_rfl),if_neg (by decide),Zbj hil0,if_pos rfl];trivial
    ·have:=FG.used_mem (by kernel_rfl) (fun j h=>by cases h) hu [] (by kernel_rfl)
     cases this
   ·have f6:a1.eval (.tmp 6) = .pointer (some ⟨p,0,none⟩):=hout 6 (by decide)
    obtain ⟨a7,a7c,g,c,w5,e23,hb5,hx5,ho7,hon,hf⟩:∃ a7 a7c g c w5,a1.eval (.tmp 23) = .slice a7 (i + 1) a7c /\ Below A.heap.size A w5 /\ OwnN 5 .u8 w5 A.heap.size g c x /\ OwnS encSl 22 w1 (p + 3) a7 a7c (es ++ [(g,c,x)]) /\ Only (fun b=>ga = some ⟨b,0,none⟩) w5 w1 /\ (∀ g',a7 = some ⟨g',0,none⟩ -> ga = some ⟨g',0,none⟩ \/ w5.heap.size <= g'):=hdep ⟨4,.data⟩ (by simp) rfl _ rfl
    have hfin:=HNXT.out w5 w1 g a7 c a7c hb5 hx5 ho7 hon hf
    have h1w:w1.heap[p]? = some (.cells #[.slice ga i gc] 33 (0,0)):=Zaa ((hb5.block _ (lt_of_block H1.out)).trans H1.out) hon (fun t=>by
     rcases HOWN.out.form with ⟨h2,_⟩ | ⟨g',h2,h3,_⟩
     ·rw [h2] at t;cases t
     ·rw [h2] at t;cases t;omega)
    refine ⟨FG.wanted_any rfl,Zdp (w':=w1.setCell ⟨p,0,none⟩ (.slice a7 (i + 1) a7c)) (by simp only [execOp,f6,e23];rw [Sem.run_bind,stSS _ _ _ _ _ _ (cell_of_one h1w) (free_of_one h1w)];simp) ⟨undef,rfl,?_,fun j u hu hV _=>?_,trivial⟩⟩
    ·rw [Zbj hil0,if_pos rfl];exact hfin
    ·have:=FG.used_mem (by kernel_rfl) (fun j h=>by cases h) hu [] (by kernel_rfl)
     cases this
  ·intro listed fv w1 hR hall hV
   rw [if_pos (hall 5 (by decide))] at hR
   gi_wp2
   rw [hz]
   exact hR
 case done =>
  rintro v A hI hv hD
  obtain ⟨ga,gc,es,h1,hown,hrx⟩:=hI.c
  have k1:=cell_of_one h1
  have HI:=Zh hI
  have HOWN:=Zh hown
  have HRX:=Zh hrx
  have HZ:=Zh hz
  clear hI h1 hown hrx hb0 hb1 hb2 hpy hr4 hbel hv
  gi_wp2
  refine ⟨by simp,.inl ⟨_,_,rfl,run_takeDeferred hD,?_⟩⟩
  refine ⟨_,results_tmp2 rfl _ _ _,?_⟩
  refine ⟨ga,gc,es,?_,(HOWN.out.putP hD rfl _).row,HRX.out.1,fun i hi=>?_,Below.put HI.out.bel (Nat.le_refl _) hD (by have:=HZ.out;have:=hp.out;omega) _⟩
  ·rw [HRX.out.1];rfl
  ·obtain ⟨⟨g1,g2⟩,_⟩:=HRX.out.2 i hi
   exact ⟨g1,RowN.putC g2 hD rfl _⟩
end Go.Proofs.YtnkpnjnfddjfpaaGreat

namespace Go.Proofs.YtnkpnjnfddjfpaaGreat
open Go.RowKit Go.Shelf
theorem Zep (w:World) (l:List Nat) (hb:∀ x ∈ l,x < 256) (hl:l.length <= 1000000) :
  ∃ c w',(convert 9 22 (.string (strOf l))).run Tryz.prog w = .ok (.slice (some ⟨w.heap.size,0,none⟩) l.length c) w' /\ RowN .u8 w' (some ⟨w.heap.size,0,none⟩) c l /\ Below w.heap.size w w' /\ w'.heap.size = w.heap.size + 1:=by
 have hs:=Zej l
 refine ⟨grownCap w l.length 0 5,Lib.bytesWorld w 5 (strOf l),?_,?_,?_,Lib.bytesWorld_size w _ _⟩
 ·rw [Lib.run_convert_string_bytes w 9 22 5 (strOf l) Tryz.underlying9 Tryz.underlying22 Tryz.underlying5,hs]
 ·refine ⟨grownCap_ge w _ 0 _,⟨grownCap_le_maxLen w _ 0 _ (by simp [maxLen];omega),fun h=>by cases h⟩,.inr ⟨w.heap.size,0,rfl,by rw [Lib.bytesWorld_size];omega,fun i hi=>?_⟩⟩
  rw [Nat.zero_add,Lib.bytesWorld_cell w _ _ i (by rw [hs];exact hi),Zea]
  have hx:=hb _ (List.getElem_mem hi)
  simp [List.getD,hi,Nat.mod_eq_of_lt hx]
 ·exact ⟨rfl,rfl,rfl,by rw [Lib.bytesWorld_size];omega,fun b h=>Lib.bytesWorld_at_old w _ _ b h⟩
end Go.Proofs.YtnkpnjnfddjfpaaGreat

namespace Go.Proofs.YtnkpnjnfddjfpaaGreat
open Go.RowKit Go.Shelf M02w
def addText (s:Wst) (l:List Nat):Wst:=l.foldl (fun s c=>addNum s c 8) s
theorem Zag:∀ (l:List Nat) {s:Wst},WOk s -> WOk (addText s l) /\ (addText s l).2 = s.2 + 8 * l.length
 | [],s,h=>⟨h,rfl⟩
 | c :: l,s,h=>by
  obtain ⟨h1,h2⟩:=Zag l (s:=addNum s c 8) (Zfg h c 8 8)
  refine ⟨h1,?_⟩
  show (addText (addNum s c 8) l).2 = _
  rw [h2,List.length_cons]
  have:(addNum s c 8).2 = s.2 + 8:=Zcn s c 8 8
  omega
theorem Zcm (s:Wst) (l:List Nat) (k:Nat) (h:k < l.length):addText s (l.take (k + 1)) = addNum (addText s (l.take k)) l[k] 8:=by
 unfold addText
 rw [List.take_succ_eq_append_getElem h,List.foldl_append]
 rfl
theorem Wr.skip {P:Nat -> Prop} {w w2:World} {p q:Nat} {s:Wst} (h:Wr P w p s) (hb:Below w.heap.size w w2) (hq:q = w.heap.size) (hz:w2.heap.size = q + 1):Wr (fun b=>P b /\ b ≠ q) w2 p s:=by
 obtain ⟨⟨a,c,h1,h2,h3,h4,h5⟩,h6,h7⟩:=h
 have hp:=lt_of_block h1
 refine ⟨⟨a,c,(hb.block _ hp).trans h1,h2.below hb,⟨h3,by omega⟩,fun g e=>⟨⟨(h4 g e).1,?_⟩,(h4 g e).2⟩,fun b hb2=>⟨h5 b (by omega),by omega⟩⟩,h6,h7⟩
 rcases h2.form with ⟨h8,_⟩ | ⟨g',h8,_,h9⟩
 ·rw [h8] at e;cases e
 ·rw [h8] at e;cases e;omega
theorem Wr.unskip {P:Nat -> Prop} {w:World} {p q:Nat} {s:Wst} (h:Wr (fun b=>P b /\ b ≠ q) w p s) (hP:∀ b,w.heap.size <= b -> P b):Wr P w p s:=by
 obtain ⟨⟨a,c,h1,h2,h3,h4,h5⟩,h6,h7⟩:=h
 exact ⟨⟨a,c,h1,h2,h3.1,fun g e=>⟨(h4 g e).1.1,(h4 g e).2⟩,hP⟩,h6,h7⟩
set_option maxRecDepth 100000 in
set_option maxHeartbeats 3200000 in
theorem Zch {P:Nat -> Prop} {w:World} {p:Nat} {s:Wst} (h:Wr P w p s) (l:List Nat) (h256:∀ x ∈ l,x < 256) (hl:l.length <= 1000) (hs:s.2 + 8 * l.length <= 100000000) :
  Calls Tryz.prog 34 #[.string (strOf l),.pointer (some ⟨p,0,none⟩)] w fun e w'=>e = .returned (.tuple #[]) /\ Only P w w' /\ Wr P w' p (addText s l):=by
 obtain ⟨c,w2,hcv,hrow,hb2,hz2⟩:=Zep w l h256 (by omega)
 have HP:Hid (∀ b,w.heap.size <= b -> P b):=by
  obtain ⟨⟨a,c,h1,h2,h3,h4,h5⟩,_⟩:=h
  exact h5
 have HW:=Zh (h.skip hb2 rfl hz2)
 have HOK:=Zh (fun k=>Zag (l.take k) h.2.1)
 have HROW:=Zh hrow
 have HB2:=Zh hb2
 have HL:=Zh h256
 have HZ2:=Zh hz2
 obtain ⟨sl,hsl⟩:∃ sl,strOf l = sl:=⟨_,rfl⟩
 rw [hsl] at hcv ⊢
 obtain ⟨q,hq⟩:∃ q,w.heap.size = q:=⟨_,rfl⟩
 rw [hq] at hcv HROW HW HP HZ2
 clear hsl h hrow hb2 hz2 h256
 go_enter Tryz.func34,Tryz.ntmps34
 go_wp2_with fail
 go_loopw [8] (fun cv A=>∃ k:Nat,k <= l.length /\ cv = .int .i64 (k:Nat) /\ Only (fun b=>P b /\ b ≠ q) w2 A /\ Wr (fun b=>P b /\ b ≠ q) A p (addText s (l.take k))) (fun cv _=>l.length - (intOf cv).toNat)
 case atStart=>exact ⟨0,Nat.zero_le _,rfl,Only.refl _ _,HW.out⟩
 case round =>
  clear HW hcv
  obtain ⟨k,hk,rfl,ho,hw⟩:=hrel
  have HO:=Zh ho
  have HWW:=Zh hw
  by_cases hlt:k < l.length
  ·have hrA:RowN .u8 wr (some ⟨q,0,none⟩) c l:=RowN.same HROW.out ho.size (fun x _ hx=>by cases hx;exact ho.block q (by have:=HZ2.out;omega) (fun t=>t.2 rfl))
   obtain ⟨b',off,he,_,hc⟩:=hrA.at hlt
   cases he
   rw [Nat.zero_add] at hc
   have h8:l[k] < 2 ^ 8:=HL.out _ (List.getElem_mem hlt)
   have HSN:=Zh (Zcm s l k hlt)
   have hb:=(HOK.out k).2
   rw [List.length_take] at hb
   generalize l[k] = x at *
   have HPUT:=Zh (Zci HWW.out x 8 (by decide) h8 (by omega))
   have hx3:(x:Int) % 4294967296 = (x:Int):=by omega
   clear ho hw hrA h8 hb
   go_wp2_with fail
   refine HPUT.out.mono ?_
   rintro e w4 ⟨rfl,ho4,hw4⟩
   rw [<- HSN.out] at hw4
   have HO4:=Zh (HO.out.trans ho4)
   have HW4:=Zh hw4
   clear ho4 hw4 HPUT
   go_wp2
   go_roundw
   case rel=>exact ⟨k + 1,by omega,by go_num,HO4.out,HW4.out⟩
   case measure=>simp [intOf];omega
  ·obtain rfl:k = l.length:=by omega
   rw [List.take_length] at HWW
   clear ho hw
   go_wp2
   go_end0
   refine ⟨rfl,?_,HWW.out.unskip (fun b hb=>HP.out b (by have:=HO.out.size;have:=HZ2.out;omega))⟩
   exact ((Only.refl P w).below (HB2.out)).trans (HO.out.mono (fun b _ t=>t.1))
theorem Zcp (w:World):Calls Tryz.prog 37 #[.slice none 0 0] w fun e w'=>e = .returned (.int .u32 0) /\ w' = w:=by
 go_enter Tryz.func37,Tryz.ntmps37
 go_wp2
 go_loopw [3,8] (fun v c A=>v = .int .u32 0 /\ c = .int .i64 0 /\ A = w) (fun _ _ _=>0)
 case atStart=>exact ⟨rfl,rfl,rfl⟩
 case round =>
  obtain ⟨rfl,rfl,rfl⟩:=hrel
  go_wp2
  go_ret
  exact ⟨rfl,rfl⟩
theorem Wr.below {P:Nat -> Prop} {w w2:World} {p:Nat} {s:Wst} (h:Wr P w p s) (hb:Below w.heap.size w w2):Wr P w2 p s:=by
 obtain ⟨⟨a,c,h1,h2,h3,h4,h5⟩,h6,h7⟩:=h
 exact ⟨⟨a,c,(hb.block _ (lt_of_block h1)).trans h1,h2.below hb,h3,h4,fun b hb2=>h5 b (Nat.le_trans hb.size hb2)⟩,h6,h7⟩
theorem Wr.only {P T:Nat -> Prop} {w w2:World} {p:Nat} {s:Wst} (h:Wr P w p s) (ho:Only T w w2) (hT:∀ b,P b -> ¬ T b):Wr P w2 p s:=by
 obtain ⟨⟨a,c,h1,h2,h3,h4,h5⟩,h6,h7⟩:=h
 refine ⟨⟨a,c,Zaa h1 ho (hT _ h3),?_,h3,h4,fun b hb2=>h5 b (Nat.le_trans ho.size hb2)⟩,h6,h7⟩
 refine ⟨h2.1,?_⟩
 rcases h2.2 with h8 | ⟨g,c',cur,g1,g2,g3,g4⟩
 ·exact .inl h8
 ·simp only [Value.slice.injEq] at g1
  exact .inr ⟨g,c',cur,by rw [g1.1,g1.2.2],g2,Zaa g3 ho (hT _ (h4 g g1.1).1),g4⟩
theorem Wr.avoid {P:Nat -> Prop} {w:World} {p q:Nat} {s:Wst} {o:Obj} (h:Wr P w p s) (hq:w.heap[q]? = some o) (ho:o.isCells = false):Wr (fun b=>P b /\ b ≠ q) w p s:=by
 obtain ⟨⟨a,c,h1,h2,h3,h4,h5⟩,h6,h7⟩:=h
 have hlt:=lt_of_block hq
 refine ⟨⟨a,c,h1,h2,⟨h3,fun e=>?_⟩,fun g e=>⟨⟨(h4 g e).1,fun e2=>?_⟩,(h4 g e).2⟩,fun b hb=>⟨h5 b hb,by omega⟩⟩,h6,h7⟩
 ·subst e;rw [h1] at hq;cases hq;cases ho
 ·subst e2
  rcases h2.2 with ⟨h8,_⟩ | ⟨g',c',cur,g1,g2,g3,g4⟩
  ·simp only [Value.slice.injEq] at h8
   rw [h8.1] at e;cases e
  ·simp only [Value.slice.injEq] at g1
   rw [g1.1] at e;cases e
   rw [g3] at hq;cases hq;cases ho
theorem Zbc (w:World) (o:Obj) {n:Nat} (h:n = w.heap.size):(w.alloc o).heap[n]? = some o:=by subst h;exact World.alloc_heap_new w o
def nilF (lv:Nat):List Nat:=[66,90,104,48 + lv,23,114,69,56,80,144,0,0,0,0]
def headF (lv:Nat):List Nat:=[66,90,104,48 + lv]
def endF:List Nat:=[23,114,69,56,80,144]
theorem Zer (lv:Nat) (h:lv = 1 \/ lv = 9):(addNum (addText (addText ([],0) (headF lv)) endF) 0 32).1 = nilF lv:=by
 rcases h with rfl | rfl <;> decide +kernel
set_option maxRecDepth 100000 in
set_option maxHeartbeats 3200000 in
theorem Zel (w:World) :
  Calls Tryz.prog 15 #[.slice none 0 0,.int .i64 1] w fun e w'=>∃ g c,e = .returned (.tuple #[.slice g 14 c,.int .i64 0]) /\ RowN .u8 w' g c (nilF 1) /\ Below w.heap.size w w':=by
 have hmf:∀ (fn:Fn) (first cap:Array Value) (w:World),(Instr.makeFunc fn first cap).run Tryz.prog w = .ok (.func fn first cap) w:=fun _ _ _ _=>rfl
 have hstr:(({ data:=#[66,90,104] }:ByteArray) ++ Utf8.encode 49) = strOf (headF 1):=by kernel_rfl
 have hend:({ data:=#[23,114,69,56,80,144] }:ByteArray) = strOf endF:=by kernel_rfl
 refine (callsIn_wide (n:=9)).1 ?_
 refine callsIn_of_wp_marks Tryz.func15 rfl trivial ?_ rfl
 simp only [Tryz.ntmps15,List.size_toArray,List.length_cons,List.length_nil,Nat.reduceAdd,Nat.reduceSub,Array.replicate_succ,Array.replicate_zero,List.push_toArray,List.append_toArray,List.nil_append,List.cons_append]
 gi_wp2_with fail
 obtain ⟨p,hp⟩:∃ p,w.heap.size = p:=⟨_,rfl⟩
 obtain ⟨W1,hW1⟩:∃ W1,(w.alloc (.cells #[.slice none 0 0,.int .i64 0] 72)).alloc (.cells #[.func (.func 34) #[] #[.pointer (some ⟨p,0,none⟩)]] 74) = W1:=⟨_,rfl⟩
 have hz1:W1.heap.size = p + 2:=by rw [<- hW1,<- hp];simp
 have hb1:W1.heap[p]? = some (.cells #[.slice none 0 0,.int .i64 0] 72 (0,0)):=by
  rw [<- hW1,<- hp]
  exact (Below.heap_alloc _ _ _ (by simp)).trans (World.alloc_heap_new w _)
 have hb2:W1.heap[p + 1]? = some (.cells #[.func (.func 34) #[] #[.pointer (some ⟨p,0,none⟩)]] 74 (0,0)):=by
  rw [<- hW1,<- hp]
  have:=World.alloc_heap_new (w.alloc (.cells #[.slice none 0 0,.int .i64 0] 72)) (.cells #[.func (.func 34) #[] #[.pointer (some ⟨w.heap.size,0,none⟩)]] 74)
  rw [World.size_alloc] at this
  exact this
 have hbel1:Below w.heap.size w W1:=by rw [<- hW1];exact ((Below.refl _ _).alloc (Nat.le_refl _) _).alloc (by simp) _
 rw [hp]
 rw [hW1]
 clear hW1
 have HW1:Hid (Wr (fun b=>b = p \/ p + 2 <= b) W1 p ([],0)):=⟨⟨none,0,hb1,OwnN.nil _ _ _ _,.inl rfl,fun g e=>(by cases e),fun b hb=>.inr (by omega)⟩,⟨by simp,fun x hx=>by cases hx⟩,by simp⟩
 have HB2:=Zh hb2
 have HBEL1:=Zh hbel1
 clear hb1 hb2 hbel1 hstr
 refine ⟨trivial,?_⟩
 refine (callsIn_wide.2 (Zch HW1.out (headF 1) (by decide) (by decide) (by decide))).mono ?_
 rintro e w2 ⟨rfl,ho2,hw2⟩
 have hF2:=Zaa HB2.out ho2 (by omega)
 have hbel2:=Below.only HBEL1.out ho2 (Nat.le_refl _) (fun b t=>by omega)
 have HW2:=Zh hw2
 have HF2:=Zh hF2
 have HBEL2:=Zh hbel2
 have hp2:p + 2 <= w2.heap.size:=by have:=ho2.size;omega
 clear ho2 hw2 hF2 hbel2 HB2 HBEL1 HW1
 gi_wp2_with (refine ⟨trivial,?_⟩;gi_at_call 31;refine (callsIn_wide.2 (Zcg _ _ _ _ _)).mono ?_;rintro e w' ⟨rfl,rfl⟩)
 obtain ⟨q,hq⟩:∃ q,w2.heap.size = q:=⟨_,rfl⟩
 have hb3:=Zbc w2 (.cells #[.slice none 0 0] 75) rfl
 have w3:=HW2.out.skip (Zar w2 (.cells #[.slice none 0 0] 75)) rfl (by simp)
 have f3:=(Zar w2 (.cells #[.slice none 0 0] 75)).block _ (lt_of_block HF2.out)
 have g3:=HBEL2.out.trans ((Zar w2 (.cells #[.slice none 0 0] 75)).mono HBEL2.out.size)
 rw [HF2.out] at f3
 have hz3:(w2.alloc (.cells #[.slice none 0 0] 75)).heap.size = q + 1:=by rw [<- hq];simp
 rw [hq] at w3 hb3
 generalize w2.alloc (.cells #[.slice none 0 0] 75) = W3 at *
 have hb4:=Zbc W3 (.cells #[.slice none 0 0] 22) rfl
 have w4:=w3.skip (Zar W3 (.cells #[.slice none 0 0] 22)) rfl (by simp)
 have bb4:=Zar W3 (.cells #[.slice none 0 0] 22)
 have f4:=(bb4.block _ (lt_of_block f3)).trans f3
 have s4:=(bb4.block _ (lt_of_block hb3)).trans hb3
 have g4:=g3.trans (bb4.mono g3.size)
 have hz4:(W3.alloc (.cells #[.slice none 0 0] 22)).heap.size = q + 2:=by simp [hz3]
 rw [hz3] at w4 hb4
 generalize W3.alloc (.cells #[.slice none 0 0] 22) = W4 at *
 have hb5:=Zbc W4 (.cells #[.int .i64 1] 3) rfl
 have w5:=w4.skip (Zar W4 (.cells #[.int .i64 1] 3)) rfl (by simp)
 have bb5:=Zar W4 (.cells #[.int .i64 1] 3)
 have f5:=(bb5.block _ (lt_of_block f4)).trans f4
 have s5:=(bb5.block _ (lt_of_block s4)).trans s4
 have c5:=(bb5.block _ (lt_of_block hb4)).trans hb4
 have g5:=g4.trans (bb5.mono g4.size)
 have hz5:(W4.alloc (.cells #[.int .i64 1] 3)).heap.size = q + 3:=by simp [hz4]
 rw [hz4] at w5 hb5
 simp only [hq,hz3,hz4,Nat.add_assoc,Nat.reduceAdd]
 generalize W4.alloc (.cells #[.int .i64 1] 3) = W0 at *
 have hpy:=Zas (Cst.mk none 0 []) W0 (q + 1) (q + 2) 1 (RowN.nil _ _) (fun x hx=>by cases hx) (by simp) (by decide) (by decide) (by omega) c5 hb5 (fun b hb=>by obtain ⟨_,x,hx,_⟩:=hb;cases hx)
 change Yields5 _ _ _ 0 _ _ _ _ _ at hpy
 have HW5:=Zh w5
 have HF5:=Zh f5
 have HS5:=Zh s5
 have HG5:=Zh g5
 clear hb3 w3 f3 g3 hb4 w4 bb4 f4 s4 g4 hb5 w5 bb5 f5 s5 c5 g5 hz3 hz4 HW2 HF2 HBEL2
 refine Zbm (g:=.tmp 27) (gf:=59) (lb:=#[.pointer (some ⟨q + 1,0,none⟩),.pointer (some ⟨q + 2,0,none⟩)]) rfl (enters_of Tryz.func59 (by kernel_rfl) rfl)
  hpy (SameOn.refl _ _) ?hS ?hT (fun i A r h=>by obtain ⟨g,c,rfl,_⟩:=h;rfl)
  (fun _ A=>Only (fun b=>b = q + 1) W0 A) (fun _ _ _=>False) (fun _ _ _ h ho=>h.trans ho) ?hIp
  (fun _ _ _ _ h _=>h) (fun _ _ _ _ _ _ h _ _ _=>h) (fun _ _ _ _ _ h _ _ _=>h) (fun _ h=>by obtain ⟨v,hv⟩:=h;cases hv) (Only.refl _ _)
  (fun _ _ _=>True) (fun _ _ _ _ _ _ _ _ _ _=>trivial) (fun _ i _ _ _ hi=>absurd hi (Nat.not_lt_zero i)) (fun _ i hi=>absurd hi (Nat.not_lt_zero i)) ?done (fun _ _ _ h _=>by obtain ⟨v,hv⟩:=h;cases hv) (fun _ _ _ _ h _=>h.elim)
 case hS =>
  rintro b (rfl | rfl | ⟨_,x,hx,_⟩)
  ·omega
  ·omega
  ·cases hx
 case hT=>rintro b rfl;omega
 case hIp =>
  intro i A lb o o' h h1 h2 h3
  exact ⟨h.os,h.tape,h.output,by rw [World.putObj_size];exact h.size,fun b hb ht=>(World.putObj_heap_other (by omega)).trans (h.block b hb ht)⟩
 case done =>
  rintro v A hI hv hD
  rw [hz5] at hD
  have wA:=(HW5.out.only hI (fun b hb t=>hb.1.2 t)).avoid hD rfl
  have fA:=Zaa HF5.out hI (by omega)
  have sA:=Zaa HS5.out hI (by omega)
  have gA:=Below.only HG5.out hI (Nat.le_refl _) (fun b t=>by omega)
  have k7:=cell_of_one fA
  have HWA:=Zh wA
  have HFA:=Zh fA
  have HSA:=Zh sA
  have HGA:=Zh gA
  have HDA:=Zh hD
  clear wA fA sA gA hI hv hD hpy HW5 HF5 HS5 HG5
  gi_wp2_with fail
  refine ⟨trivial,?_⟩
  have ok0:WOk (([],0):Wst):=⟨by simp,fun x hx=>by cases hx⟩
  have hs1:(addText ([],0) (headF 1)).2 = 32:=(Zag (headF 1) ok0).2
  have hs2:(addText (addText ([],0) (headF 1)) endF).2 = 80:=by rw [(Zag endF (Zag (headF 1) ok0).1).2,hs1];rfl
  have HFIN:=Zh (Zer 1 (by decide))
  refine (callsIn_wide.2 (Zch HWA.out endF (by decide) (by decide) (by rw [hs1];decide))).mono ?_
  rintro e A2 ⟨rfl,ho,hw⟩
  have sA2:=Zaa HSA.out ho (fun t=>t.1.1.1.2 rfl)
  have hD2:=Zaa HDA.out ho (fun t=>t.2 rfl)
  have gA2:=Below.only HGA.out ho (Nat.le_refl _) (fun b t=>by have:=t.1.1.1.1;omega)
  have k8:=cell_of_one sA2
  have HW2:=Zh hw
  have HD2:=Zh hD2
  have HG2:=Zh gA2
  clear ho hw sA2 hD2 gA2 HWA HFA HSA HGA HDA k7
  gi_wp2_with fail
  refine ⟨trivial,?_⟩
  refine (callsIn_wide.2 (Zcp _)).mono ?_
  rintro e w' ⟨rfl,rfl⟩
  gi_wp2_with fail
  refine ⟨trivial,?_⟩
  refine (callsIn_wide.2 (Zci HW2.out 0 32 (by decide) (by decide) (by rw [hs2];decide))).mono ?_
  rintro e A3 ⟨rfl,ho3,hw3⟩
  have hD3:=Zaa HD2.out ho3 (fun t=>t.2 rfl)
  have gA3:=Below.only HG2.out ho3 (Nat.le_refl _) (fun b t=>by have:=t.1.1.1.1;omega)
  have HB:=Zh (Zbz hw3)
  have HD3:=Zh hD3
  have HG3:=Zh gA3
  clear ho3 hw3 hD3 gA3 k8 HW2 HD2 HG2
  gi_wp2_with fail
  refine ⟨trivial,?_⟩
  refine (callsIn_wide.2 HB.out).mono ?_
  rintro e A4 ⟨ga,gc,rfl,hown,hb4⟩
  rw [HFIN.out] at hown ⊢
  have HOWN:=Zh hown
  have HD4:=Zh ((hb4.block _ (lt_of_block HD3.out)).trans HD3.out)
  have HG4:=Zh (HG3.out.trans (hb4.mono HG3.out.size))
  clear hown hb4 HB
  gi_wp2_with fail
  refine ⟨by simp,.inl ⟨_,_,rfl,run_takeDeferred HD4.out,?_⟩⟩
  refine ⟨_,results_tmp2 rfl _ _ _,?_⟩
  exact ⟨ga,gc,rfl,RowN.putC HOWN.out.row HD4.out rfl _,Below.put HG4.out (Nat.le_refl _) HD4.out (by omega) _⟩
set_option maxRecDepth 100000 in
set_option maxHeartbeats 3200000 in
theorem Zem (w:World) :
  Calls Tryz.prog 15 #[.slice none 0 0,.int .i64 9] w fun e w'=>∃ g c,e = .returned (.tuple #[.slice g 14 c,.int .i64 0]) /\ RowN .u8 w' g c (nilF 9) /\ Below w.heap.size w w':=by
 have hmf:∀ (fn:Fn) (first cap:Array Value) (w:World),(Instr.makeFunc fn first cap).run Tryz.prog w = .ok (.func fn first cap) w:=fun _ _ _ _=>rfl
 have hstr:(({ data:=#[66,90,104] }:ByteArray) ++ Utf8.encode 57) = strOf (headF 9):=by kernel_rfl
 have hend:({ data:=#[23,114,69,56,80,144] }:ByteArray) = strOf endF:=by kernel_rfl
 refine (callsIn_wide (n:=9)).1 ?_
 refine callsIn_of_wp_marks Tryz.func15 rfl trivial ?_ rfl
 simp only [Tryz.ntmps15,List.size_toArray,List.length_cons,List.length_nil,Nat.reduceAdd,Nat.reduceSub,Array.replicate_succ,Array.replicate_zero,List.push_toArray,List.append_toArray,List.nil_append,List.cons_append]
 gi_wp2_with fail
 obtain ⟨p,hp⟩:∃ p,w.heap.size = p:=⟨_,rfl⟩
 obtain ⟨W1,hW1⟩:∃ W1,(w.alloc (.cells #[.slice none 0 0,.int .i64 0] 72)).alloc (.cells #[.func (.func 34) #[] #[.pointer (some ⟨p,0,none⟩)]] 74) = W1:=⟨_,rfl⟩
 have hz1:W1.heap.size = p + 2:=by rw [<- hW1,<- hp];simp
 have hb1:W1.heap[p]? = some (.cells #[.slice none 0 0,.int .i64 0] 72 (0,0)):=by
  rw [<- hW1,<- hp]
  exact (Below.heap_alloc _ _ _ (by simp)).trans (World.alloc_heap_new w _)
 have hb2:W1.heap[p + 1]? = some (.cells #[.func (.func 34) #[] #[.pointer (some ⟨p,0,none⟩)]] 74 (0,0)):=by
  rw [<- hW1,<- hp]
  have:=World.alloc_heap_new (w.alloc (.cells #[.slice none 0 0,.int .i64 0] 72)) (.cells #[.func (.func 34) #[] #[.pointer (some ⟨w.heap.size,0,none⟩)]] 74)
  rw [World.size_alloc] at this
  exact this
 have hbel1:Below w.heap.size w W1:=by rw [<- hW1];exact ((Below.refl _ _).alloc (Nat.le_refl _) _).alloc (by simp) _
 rw [hp]
 rw [hW1]
 clear hW1
 have HW1:Hid (Wr (fun b=>b = p \/ p + 2 <= b) W1 p ([],0)):=⟨⟨none,0,hb1,OwnN.nil _ _ _ _,.inl rfl,fun g e=>(by cases e),fun b hb=>.inr (by omega)⟩,⟨by simp,fun x hx=>by cases hx⟩,by simp⟩
 have HB2:=Zh hb2
 have HBEL1:=Zh hbel1
 clear hb1 hb2 hbel1 hstr
 refine ⟨trivial,?_⟩
 refine (callsIn_wide.2 (Zch HW1.out (headF 9) (by decide) (by decide) (by decide))).mono ?_
 rintro e w2 ⟨rfl,ho2,hw2⟩
 have hF2:=Zaa HB2.out ho2 (by omega)
 have hbel2:=Below.only HBEL1.out ho2 (Nat.le_refl _) (fun b t=>by omega)
 have HW2:=Zh hw2
 have HF2:=Zh hF2
 have HBEL2:=Zh hbel2
 have hp2:p + 2 <= w2.heap.size:=by have:=ho2.size;omega
 clear ho2 hw2 hF2 hbel2 HB2 HBEL1 HW1
 gi_wp2_with (refine ⟨trivial,?_⟩;gi_at_call 31;refine (callsIn_wide.2 (Zcg _ _ _ _ _)).mono ?_;rintro e w' ⟨rfl,rfl⟩)
 obtain ⟨q,hq⟩:∃ q,w2.heap.size = q:=⟨_,rfl⟩
 have hb3:=Zbc w2 (.cells #[.slice none 0 0] 75) rfl
 have w3:=HW2.out.skip (Zar w2 (.cells #[.slice none 0 0] 75)) rfl (by simp)
 have f3:=(Zar w2 (.cells #[.slice none 0 0] 75)).block _ (lt_of_block HF2.out)
 have g3:=HBEL2.out.trans ((Zar w2 (.cells #[.slice none 0 0] 75)).mono HBEL2.out.size)
 rw [HF2.out] at f3
 have hz3:(w2.alloc (.cells #[.slice none 0 0] 75)).heap.size = q + 1:=by rw [<- hq];simp
 rw [hq] at w3 hb3
 generalize w2.alloc (.cells #[.slice none 0 0] 75) = W3 at *
 have hb4:=Zbc W3 (.cells #[.slice none 0 0] 22) rfl
 have w4:=w3.skip (Zar W3 (.cells #[.slice none 0 0] 22)) rfl (by simp)
 have bb4:=Zar W3 (.cells #[.slice none 0 0] 22)
 have f4:=(bb4.block _ (lt_of_block f3)).trans f3
 have s4:=(bb4.block _ (lt_of_block hb3)).trans hb3
 have g4:=g3.trans (bb4.mono g3.size)
 have hz4:(W3.alloc (.cells #[.slice none 0 0] 22)).heap.size = q + 2:=by simp [hz3]
 rw [hz3] at w4 hb4
 generalize W3.alloc (.cells #[.slice none 0 0] 22) = W4 at *
 have hb5:=Zbc W4 (.cells #[.int .i64 9] 3) rfl
 have w5:=w4.skip (Zar W4 (.cells #[.int .i64 9] 3)) rfl (by simp)
 have bb5:=Zar W4 (.cells #[.int .i64 9] 3)
 have f5:=(bb5.block _ (lt_of_block f4)).trans f4
 have s5:=(bb5.block _ (lt_of_block s4)).trans s4
 have c5:=(bb5.block _ (lt_of_block hb4)).trans hb4
 have g5:=g4.trans (bb5.mono g4.size)
 have hz5:(W4.alloc (.cells #[.int .i64 9] 3)).heap.size = q + 3:=by simp [hz4]
 rw [hz4] at w5 hb5
 simp only [hq,hz3,hz4,Nat.add_assoc,Nat.reduceAdd]
 generalize W4.alloc (.cells #[.int .i64 9] 3) = W0 at *
 have hpy:=Zas (Cst.mk none 0 []) W0 (q + 1) (q + 2) 9 (RowN.nil _ _) (fun x hx=>by cases hx) (by simp) (by decide) (by decide) (by omega) c5 hb5 (fun b hb=>by obtain ⟨_,x,hx,_⟩:=hb;cases hx)
 change Yields5 _ _ _ 0 _ _ _ _ _ at hpy
 have HW5:=Zh w5
 have HF5:=Zh f5
 have HS5:=Zh s5
 have HG5:=Zh g5
 clear hb3 w3 f3 g3 hb4 w4 bb4 f4 s4 g4 hb5 w5 bb5 f5 s5 c5 g5 hz3 hz4 HW2 HF2 HBEL2
 refine Zbm (g:=.tmp 27) (gf:=59) (lb:=#[.pointer (some ⟨q + 1,0,none⟩),.pointer (some ⟨q + 2,0,none⟩)]) rfl (enters_of Tryz.func59 (by kernel_rfl) rfl)
  hpy (SameOn.refl _ _) ?hS ?hT (fun i A r h=>by obtain ⟨g,c,rfl,_⟩:=h;rfl)
  (fun _ A=>Only (fun b=>b = q + 1) W0 A) (fun _ _ _=>False) (fun _ _ _ h ho=>h.trans ho) ?hIp
  (fun _ _ _ _ h _=>h) (fun _ _ _ _ _ _ h _ _ _=>h) (fun _ _ _ _ _ h _ _ _=>h) (fun _ h=>by obtain ⟨v,hv⟩:=h;cases hv) (Only.refl _ _)
  (fun _ _ _=>True) (fun _ _ _ _ _ _ _ _ _ _=>trivial) (fun _ i _ _ _ hi=>absurd hi (Nat.not_lt_zero i)) (fun _ i hi=>absurd hi (Nat.not_lt_zero i)) ?done (fun _ _ _ h _=>by obtain ⟨v,hv⟩:=h;cases hv) (fun _ _ _ _ h _=>h.elim)
 case hS =>
  rintro b (rfl | rfl | ⟨_,x,hx,_⟩)
  ·omega
  ·omega
  ·cases hx
 case hT=>rintro b rfl;omega
 case hIp =>
  intro i A lb o o' h h1 h2 h3
  exact ⟨h.os,h.tape,h.output,by rw [World.putObj_size];exact h.size,fun b hb ht=>(World.putObj_heap_other (by omega)).trans (h.block b hb ht)⟩
 case done =>
  rintro v A hI hv hD
  rw [hz5] at hD
  have wA:=(HW5.out.only hI (fun b hb t=>hb.1.2 t)).avoid hD rfl
  have fA:=Zaa HF5.out hI (by omega)
  have sA:=Zaa HS5.out hI (by omega)
  have gA:=Below.only HG5.out hI (Nat.le_refl _) (fun b t=>by omega)
  have k7:=cell_of_one fA
  have HWA:=Zh wA
  have HFA:=Zh fA
  have HSA:=Zh sA
  have HGA:=Zh gA
  have HDA:=Zh hD
  clear wA fA sA gA hI hv hD hpy HW5 HF5 HS5 HG5
  gi_wp2_with fail
  refine ⟨trivial,?_⟩
  have ok0:WOk (([],0):Wst):=⟨by simp,fun x hx=>by cases hx⟩
  have hs1:(addText ([],0) (headF 9)).2 = 32:=(Zag (headF 9) ok0).2
  have hs2:(addText (addText ([],0) (headF 9)) endF).2 = 80:=by rw [(Zag endF (Zag (headF 9) ok0).1).2,hs1];rfl
  have HFIN:=Zh (Zer 9 (by decide))
  refine (callsIn_wide.2 (Zch HWA.out endF (by decide) (by decide) (by rw [hs1];decide))).mono ?_
  rintro e A2 ⟨rfl,ho,hw⟩
  have sA2:=Zaa HSA.out ho (fun t=>t.1.1.1.2 rfl)
  have hD2:=Zaa HDA.out ho (fun t=>t.2 rfl)
  have gA2:=Below.only HGA.out ho (Nat.le_refl _) (fun b t=>by have:=t.1.1.1.1;omega)
  have k8:=cell_of_one sA2
  have HW2:=Zh hw
  have HD2:=Zh hD2
  have HG2:=Zh gA2
  clear ho hw sA2 hD2 gA2 HWA HFA HSA HGA HDA k7
  gi_wp2_with fail
  refine ⟨trivial,?_⟩
  refine (callsIn_wide.2 (Zcp _)).mono ?_
  rintro e w' ⟨rfl,rfl⟩
  gi_wp2_with fail
  refine ⟨trivial,?_⟩
  refine (callsIn_wide.2 (Zci HW2.out 0 32 (by decide) (by decide) (by rw [hs2];decide))).mono ?_
  rintro e A3 ⟨rfl,ho3,hw3⟩
  have hD3:=Zaa HD2.out ho3 (fun t=>t.2 rfl)
  have gA3:=Below.only HG2.out ho3 (Nat.le_refl _) (fun b t=>by have:=t.1.1.1.1;omega)
  have HB:=Zh (Zbz hw3)
  have HD3:=Zh hD3
  have HG3:=Zh gA3
  clear ho3 hw3 hD3 gA3 k8 HW2 HD2 HG2
  gi_wp2_with fail
  refine ⟨trivial,?_⟩
  refine (callsIn_wide.2 HB.out).mono ?_
  rintro e A4 ⟨ga,gc,rfl,hown,hb4⟩
  rw [HFIN.out] at hown ⊢
  have HOWN:=Zh hown
  have HD4:=Zh ((hb4.block _ (lt_of_block HD3.out)).trans HD3.out)
  have HG4:=Zh (HG3.out.trans (hb4.mono HG3.out.size))
  clear hown hb4 HB
  gi_wp2_with fail
  refine ⟨by simp,.inl ⟨_,_,rfl,run_takeDeferred HD4.out,?_⟩⟩
  refine ⟨_,results_tmp2 rfl _ _ _,?_⟩
  exact ⟨ga,gc,rfl,RowN.putC HOWN.out.row HD4.out rfl _,Below.put HG4.out (Nat.le_refl _) HD4.out (by omega) _⟩
theorem Zdq (w:World) (a:Option Addr) (n c:Nat) (lv:Int) (h:lv < 1 \/ 9 < lv) :
  Calls Tryz.prog 15 #[.slice a n c,.int .i64 lv] w fun e w'=>e = .returned (.tuple #[.slice none 0 0,.int .i64 1]) /\ w' = w:=by
 by_cases h1:lv < 1
 ·have t1:decide (lv < 1) = true:=by simp;omega
  clear h
  go_enter Tryz.func15,Tryz.ntmps15
  go_wp2
  refine bodyPost_ret (results_tmp2 rfl _ _ _) rfl ?_
  exact ⟨rfl,rfl⟩
 ·have t1:decide (lv < 1) = false:=by simp;omega
  have t2:decide (9 < lv) = true:=by simp;omega
  clear h h1
  go_enter Tryz.func15,Tryz.ntmps15
  go_wp2
  refine bodyPost_ret (results_tmp2 rfl _ _ _) rfl ?_
  exact ⟨rfl,rfl⟩
end Go.Proofs.YtnkpnjnfddjfpaaGreat

namespace Go.Proofs.YtnkpnjnfddjfpaaGreat
open Go.RowKit
theorem Zdt {room:Nat} {l:List Nat} (h5:5 <= room) (h:l ≠ []) (hl:5 * l.length <= 4 * room):M20.ends room l = [l.length]:=by
 rw [M20.Zbe h5 h,M20.Zcw hl,List.drop_length,M20.Zbp]
theorem Zeo {room:Nat} {l:List Nat} (hl:5 * l.length <= 4 * room):chunk room l 0 = l:=by
 unfold chunk partF28
 show l.take (M20.packG room l).2 = l
 rw [M20.Zcw hl,List.take_length]
theorem rowM28 (w:World) (l:List Nat) (C:Array Value) (E:TypeId) (fr:Nat × Nat) (n:Nat) (hn:n = l.length) (hC:C = (l.map fun (n:Nat)=>Value.int .u8 n).toArray) (hl:l.length <= 9223372036854775807):RowN .u8 (w.alloc (.cells C E fr)) (some ⟨w.heap.size,0,none⟩) n l:=by
 subst hC hn
 refine ⟨Nat.le_refl _,⟨hl,fun h=>by cases h⟩,.inr ⟨w.heap.size,0,rfl,by simp,fun i hi=>?_⟩⟩
 have h:(w.alloc (.cells (l.map fun (n:Nat)=>Value.int .u8 n).toArray E fr)).heap[w.heap.size]? = some (.cells (l.map fun (n:Nat)=>Value.int .u8 n).toArray E fr):=Zbc w _ rfl
 rw [Nat.zero_add]
 unfold World.cell?
 dsimp only
 rw [h]
 simp [hi]
set_option maxRecDepth 100000 in
set_option maxHeartbeats 3200000 in
theorem Zbv (w:World):Calls Tryz.prog 13 #[] w fun e w'=>e = .returned (.bool true) /\ Below w.heap.size w w':=by
 have kc:=fun (w:World) (C:Array Value) (n c:Nat)=>Lib.run_convert_bytes_const (P:=Tryz.prog) w 22 5 C n c Tryz.underlying22 Tryz.underlying5
 have hlit:({ data:=#[66,90,104,49,23,114,69,56,80,144,0,0,0,0] }:ByteArray) = strOf (nilF 1):=by kernel_rfl
 have hlit2:({ data:=#[97,98,99] }:ByteArray) = strOf [97,98,99]:=by kernel_rfl
 have HLIT:=Zh hlit
 have HLIT2:=Zh hlit2
 have HKC:=Zh kc
 clear kc hlit hlit2
 go_enter Tryz.func13,Tryz.ntmps13
 go_wp2_with fail
 refine (Zel w).mono ?_
 rintro e w1 ⟨g,c,rfl,hr1,hb1⟩
 have HR1:=Zh hr1
 have HB1:=Zh hb1
 have kc1:=HKC.out w1 #[.int .u8 97] 1 1
 have bb1:=Zar w1 (.cells #[.int .u8 97] 5 (1,2))
 have HB2:=Zh (HB1.out.trans (bb1.mono HB1.out.size))
 have HR2:=Zh (HR1.out.below bb1)
 clear hr1 hb1 bb1
 go_wp2_with fail
 refine (Zdq _ _ _ _ 0 (by decide)).mono ?_
 rintro e w2 ⟨rfl,h2⟩
 rw [<- h2] at HB2 HR2
 clear h2 kc1 HR1 HB1
 have kc2:=HKC.out w2 #[.int .u8 97,.int .u8 98,.int .u8 99] 3 3
 have bb2:=Zar w2 (.cells #[.int .u8 97,.int .u8 98,.int .u8 99] 5 (3,4))
 have HB3:=Zh (HB2.out.trans (bb2.mono HB2.out.size))
 have HR3:=Zh (HR2.out.below bb2)
 have HBL:=Zh (Zat (w2.alloc (.cells #[.int .u8 97,.int .u8 98,.int .u8 99] 5 (3,4))) (some ⟨w2.heap.size,0,none⟩) 3 [97,98,99] 1 (rowM28 w2 [97,98,99] _ 5 (3,4) 3 rfl rfl (by decide)) (by decide) (by decide) (by decide) (by decide))
 clear bb2 HR2 HB2
 go_wp2_with fail
 refine HBL.out.mono ?_
 rintro e w4 ⟨ga,gc,es,rfl,hrs,hel,hch,hb4⟩
 rw [Zdt (by decide) (by decide) (by decide)] at hel
 simp only [List.length_singleton] at hel
 obtain ⟨⟨xa,xc,xl⟩,rfl⟩:∃ x,es = [x]:=by
  cases es with
  | nil=>simp at hel
  | cons x t =>
   cases t with
   | nil=>exact ⟨x,rfl⟩
   | cons y t=>simp at hel
 obtain ⟨hc1,hc2⟩:=hch 0 (by simp)
 rw [Zeo (by decide)] at hc1
 simp only [List.getElem_cons_zero] at hc1 hc2
 subst hc1
 obtain ⟨b,off,rfl,_,hcl⟩:=hrs.at (i:=0) (by simp)
 have tc0:=hcl 0 _ rfl
 simp only [encSl,List.getElem_cons_zero,Nat.zero_mul,Nat.add_zero,Nat.zero_add,List.length_cons,List.length_nil,Nat.reduceAdd] at tc0
 have HB5:=Zh (HB3.out.trans (hb4.mono HB3.out.size))
 have hcv1:=Zbd (n:=14) Tryz.underlying22 Tryz.underlying5 Tryz.underlying9 rfl (HR3.out.below hb4)
 have hcv2:=Zbd (n:=3) Tryz.underlying22 Tryz.underlying5 Tryz.underlying9 rfl hc2
 have hl1:=HLIT.out
 have hl2:=HLIT2.out
 obtain ⟨s1,hs1⟩:∃ s,strOf (nilF 1) = s:=⟨_,rfl⟩
 obtain ⟨s2,hs2⟩:∃ s,strOf [97,98,99] = s:=⟨_,rfl⟩
 rw [hs1] at hcv1 hl1
 rw [hs2] at hcv2 hl2
 have tl1:(s1.toList == s1.toList) = true:=by simp
 have tl2:(s2.toList == s2.toList) = true:=by simp
 clear hrs hel hch hc2 hcl hb4 hs1 hs2 HBL HR3 HB3 HLIT HLIT2 kc2
 go_wp2_with fail
 go_ret
 exact ⟨rfl,HB5.out⟩
end Go.Proofs.YtnkpnjnfddjfpaaGreat

namespace Go.Proofs.YtnkpnjnfddjfpaaGreat
open Go.RowKit
theorem Zfa {w:World} {x:Addr} {v:Value} (h:w.cell? x = some v):x.spot = none /\ x.block < w.heap.size:=by
 unfold World.cell? at h
 cases ho:w.heap[x.block]? with
 | none=>simp [ho] at h
 | some o =>
  refine ⟨?_,(Array.getElem?_eq_some_iff.1 ho).1⟩
  rw [ho] at h
  cases o <;> simp at h
  exact h.1
theorem Zew {k:IntKind} {w:World} {a:Option Addr} {len cap:Nat} {zs:List Int}
  (h:(a = none /\ len = 0 /\ cap = 0 /\ zs = []) \/ ∃ x,a = some x /\ len <= cap /\ cap <= maxLen /\ zs.length = cap /\ (∀ i,i < zs.length -> w.cell? (x.add i) = some (.int k (zs.getD i 0))) /\ ∀ n ∈ zs,(Lit.int k n).wf = true) :
  ∃ l:List Int,l.length = len /\ RowI k w a cap l /\ ∀ n ∈ l,(Lit.int k n).wf = true:=by
 rcases h with ⟨rfl,rfl,rfl,rfl⟩ | ⟨x,rfl,hl,hm,hz,hc,hw⟩
 ·exact ⟨[],rfl,RowI.nil k w,by simp⟩
 ·refine ⟨zs.take len,by simp;omega,⟨by simp;omega,⟨by simpa [maxLen] using hm,fun hn=>by cases hn⟩,?_⟩,fun n hn=>hw n (List.mem_of_mem_take hn)⟩
  by_cases h0:zs.take len = []
  ·exact .inl h0
  ·have hp:0 < (zs.take len).length:=List.length_pos_iff.2 h0
   simp only [List.length_take] at hp
   have h1:=hc 0 (by omega)
   simp only [Addr.add,if_true] at h1
   obtain ⟨hs,hb⟩:=Zfa h1
   refine .inr ⟨x.block,x.off,by cases x;simp_all,hb,fun i hi=>?_⟩
   simp only [List.length_take] at hi
   have h2:=hc i (by omega)
   have h3:x.add i = ⟨x.block,x.off + i,none⟩:=by
    unfold Addr.add
    split
    ·cases x;simp_all
    ·rfl
   rw [h3] at h2
   rw [h2]
   simp [show i < zs.length by omega]
def natOf (l:List Int):List Nat:=l.map Int.toNat
theorem Zex {k:IntKind} {w:World} {a:Option Addr} {cap:Nat} {l:List Int} (h:RowI k w a cap l) (hp:∀ n ∈ l,0 <= n):RowN k w a cap (natOf l):=by
 obtain ⟨h1,h2,h3⟩:=h
 refine ⟨by simpa [natOf] using h1,h2,?_⟩
 rcases h3 with rfl | ⟨b,off,ha,hb,hc⟩
 ·exact .inl rfl
 ·refine .inr ⟨b,off,ha,hb,fun i hi=>?_⟩
  simp only [natOf,List.length_map] at hi
  rw [hc i hi]
  simp only [natOf,List.getElem_map]
  rw [Int.toNat_of_nonneg (hp _ (List.getElem_mem hi))]
theorem Zfs {n:Int} (h:(Lit.int .u8 n).wf = true):0 <= n /\ n < 256:=by
 simp [Lit.wf,IntKind.min,IntKind.max,IntKind.signed,IntKind.bits] at h
 omega
theorem Zfv {n:Int} (h:(Lit.int .u16 n).wf = true):0 <= n /\ n < 65536:=by
 simp [Lit.wf,IntKind.min,IntKind.max,IntKind.signed,IntKind.bits] at h
 omega
theorem Zeh {w:World} {a:Option Addr} {len cap:Nat} {zs:List Int}
  (h:(a = none /\ len = 0 /\ cap = 0 /\ zs = []) \/ ∃ x,a = some x /\ len <= cap /\ cap <= maxLen /\ zs.length = cap /\ (∀ i,i < zs.length -> w.cell? (x.add i) = some (.int .u8 (zs.getD i 0))) /\ ∀ n ∈ zs,(Lit.int .u8 n).wf = true) :
  ∃ l:List Nat,l.length = len /\ RowN .u8 w a cap l /\ ∀ n ∈ l,n < 256:=by
 obtain ⟨l,h1,h2,h3⟩:=Zew h
 refine ⟨natOf l,by simpa [natOf] using h1,Zex h2 fun n hn=>(Zfs (h3 n hn)).1,fun n hn=>?_⟩
 simp only [natOf,List.mem_map] at hn
 obtain ⟨m,hm,rfl⟩:=hn
 have:=Zfs (h3 m hm)
 omega
end Go.Proofs.YtnkpnjnfddjfpaaGreat

namespace Go.Proofs.YtnkpnjnfddjfpaaGreat
open Go.RowKit
def offE (room:Nat) (l:List Nat):Nat -> Nat
 | 0=>0
 | i + 1=>offE room l i + partF28 room (M20.leftE room l i)
theorem Zau (room:Nat) (l:List Nat):∀ i,M20.leftE room l i = l.drop (offE room l i) /\ offE room l i <= l.length
 | 0=>⟨rfl,Nat.zero_le _⟩
 | i + 1=>by
  obtain ⟨h1,h2⟩:=Zau room l i
  have h3:=Zak room (M20.leftE room l i)
  have h4:(M20.leftE room l i).length = l.length - offE room l i:=by rw [h1,List.length_drop]
  refine ⟨?_,by show offE room l i + _ <= _;omega⟩
  show (M20.leftE room l i).drop (partF28 room (M20.leftE room l i)) = l.drop (offE room l i + partF28 room (M20.leftE room l i))
  rw [<- List.drop_drop,<- h1]
theorem Zfu {room:Nat} (h5:5 <= room) (l:List Nat):offE room l (M20.ends room l).length = l.length:=by
 obtain ⟨h1,h2⟩:=Zau room l (M20.ends room l).length
 rw [M20.Zcs h5] at h1
 have:=congrArg List.length h1
 rw [List.length_drop,List.length_nil] at this
 omega
theorem Zcc {room:Nat} (h5:5 <= room) {l:List Nat} {i:Nat} (h:i + 1 < (M20.ends room l).length):4 * room <= 5 * partF28 room (M20.leftE room l i) + 16:=by
 rcases M20.Zef room (M20.leftE room l i) with h1 | h1
 ·exfalso
  refine M20.Zbf h5 h ?_
  show (M20.leftE room l i).drop (M20.packG room (M20.leftE room l i)).2 = []
  rw [h1,List.drop_length]
 ·exact h1
theorem Zcv {room m:Nat} (h5:5 <= room) (hm:5 * m + 16 <= 4 * room) {l:List Nat}:∀ i,i < (M20.ends room l).length -> i * m <= offE room l i
 | 0,_=>by simp
 | i + 1,h=>by
  have h1:=Zcv h5 hm (l:=l) i (by omega)
  have h2:=Zcc (l:=l) h5 h
  show (i + 1) * m <= offE room l i + partF28 room (M20.leftE room l i)
  rw [Nat.succ_mul]
  omega
theorem Zec {room m:Nat} (h5:5 <= room) (hm:5 * m + 16 <= 4 * room) (hm1:0 < m) (l:List Nat):(M20.ends room l).length <= l.length / m + 1:=by
 rcases Nat.eq_zero_or_pos (M20.ends room l).length with h | h
 ·rw [h];exact Nat.zero_le _
 ·have h1:=Zcv h5 hm (l:=l) ((M20.ends room l).length - 1) (by omega)
  have h2:=(Zau room l ((M20.ends room l).length - 1)).2
  have h3:(M20.ends room l).length - 1 <= l.length / m:=(Nat.le_div_iff_mul_le hm1).2 (Nat.le_trans h1 h2)
  exact Nat.sub_le_iff_le_add.1 h3
theorem Zen (room:Nat) (l:List Nat) (i:Nat):chunk room l i = (l.drop (offE room l i)).take (partF28 room (M20.leftE room l i)):=by
 unfold chunk;rw [<- (Zau room l i).1]
def repL (l:List Nat):Nat -> List Nat
 | 0=>[]
 | i + 1=>repL l i ++ l
theorem Zdy (l:List Nat):∀ i,(repL l i).length = i * l.length
 | 0=>by simp [repL]
 | i + 1=>by
  show (repL l i ++ l).length = _
  rw [List.length_append,Zdy l i,Nat.succ_mul]
theorem Zev {l:List Nat} (h:∀ x ∈ l,x < 256):∀ i,∀ x ∈ repL l i,x < 256
 | 0,x,hx=>by cases hx
 | i + 1,x,hx=>by
  rcases List.mem_append.1 hx with h1 | h1
  ·exact Zev h i x h1
  ·exact h x h1
theorem cutBothN (a:Option Addr) (len cap k s:Nat) (h1:k <= s) (h2:s <= len) (hc:len <= cap) (w:World):(Instr.sliceAt 22 (.slice a len cap) (some (.int .i64 (k:Nat))) (some (.int .i64 (s:Nat))) none).run Tryz.prog w = .ok (.slice (cutA a cap k) (s - k) (cap - k)) w:=by
 have hsz:(Tryz.prog.info? 5).map (·.size) = some 1:=by kernel_rfl
 have h3:s <= cap:=by omega
 have h4:k <= cap:=by omega
 cases h5:Tryz.prog.info? 5 with
 | none=>rw [h5] at hsz;cases hsz
 | some ie =>
  simp only [h5,Option.map_some,Option.some.injEq] at hsz
  simp [Instr.sliceAt,Instr.slice,Instr.sliceBounds,Instr.sliceBound,run_underlying Tryz.underlying22,asIntOf,sizeOf,typeInfo,h5,hsz,go_sem,h1,h2,h3,h4,cutA]
set_option maxRecDepth 100000 in
set_option maxHeartbeats 6400000 in
theorem Zdi (w:World) (a:Option Addr) (ca:Nat) (l:List Nat) (kp lp:Nat) (ha:RowN .u8 w a ca l) (h256:∀ x ∈ l,x < 256) (hkp:kp < 65536) (hlp:lp < 256) :
  Calls Tryz.prog 6 #[.slice a l.length ca,.int .u16 (kp:Nat),.int .u8 (lp:Nat)] w fun e w'=>e = .returned (.bool true) /\ Below w.heap.size w w':=by
 by_cases c1:300 < l.length
 ·have t1:decide ((300:Int) < (l.length:Int)) = true:=by simp;omega
  clear ha h256 c1
  go_enter Tryz.func6,Tryz.ntmps6
  go_wp2
  go_ret
  exact ⟨rfl,Below.refl _ _⟩
 have t1:decide ((300:Int) < (l.length:Int)) = false:=by simp;omega
 have hl3:l.length <= 300:=by omega
 have HA:=Zh ha
 have HL:=Zh h256
 obtain ⟨n,hn⟩:∃ n,kp % 1001 = n:=⟨_,rfl⟩
 have hn1:n <= 1000:=by omega
 have hn2:((kp:Nat):Int) % 1001 = (n:Int):=by omega
 have hn3:Int.tmod ((kp:Nat):Int) 1001 = (n:Int):=by rw [<- hn];rfl
 obtain ⟨r,hr⟩:∃ r,lp % 9 = r:=⟨_,rfl⟩
 have hr2:((lp:Nat):Int) % 9 = (r:Int):=by omega
 have hr3:Int.tmod ((lp:Nat):Int) 9 = (r:Int):=by rw [<- hr];rfl
 obtain ⟨k,hk⟩:∃ k,1 + r = k:=⟨_,rfl⟩
 have hk1:1 <= k /\ k <= 9:=by omega
 have hkw:IntKind.i64.wrap ((1:Int) + (r:Int)) = (k:Int):=by rw [show (1:Int) + (r:Int) = (k:Int) by omega];exact IntWalk.i64_in _ (by omega)
 obtain ⟨m,hm⟩:∃ m,80000 * k - 100 = m:=⟨_,rfl⟩
 obtain ⟨mk,hmk⟩:∃ mk,80000 * k = mk:=⟨_,rfl⟩
 have hm1:IntKind.i64.wrap ((80000:Int) * (k:Int)) = (mk:Int):=by rw [show (80000:Int) * (k:Int) = (mk:Int) by omega];exact IntWalk.i64_in _ (by omega)
 have hm2:IntKind.i64.wrap ((mk:Int) - 100) = (m:Int):=by rw [show (mk:Int) - 100 = (m:Int) by omega];exact IntWalk.i64_in _ (by omega)
 have hm0:0 < m:=by omega
 have HROOM:Hid (5 <= k * 100000 - 19 /\ 5 * m + 16 <= 4 * (k * 100000 - 19)):=by unfold Hid;omega
 clear ha h256 c1 hn hr hk hm hmk
 go_enter Tryz.func6,Tryz.ntmps6
 go_wp2_with fail
 go_loopw [7,8] (fun v c A=>∃ (i:Nat) (ga:Option Addr) (gc:Nat),i <= n /\ c = .int .i64 (i:Nat) /\ v = .slice ga (repL l i).length gc /\ OwnN 5 .u8 A w.heap.size ga gc (repL l i) /\ Below w.heap.size w A) (fun _ c _=>n - (intOf c).toNat)
 case atStart=>exact ⟨0,none,0,Nat.zero_le _,rfl,rfl,OwnN.nil _ _ _ _,Below.refl _ _⟩
 case round =>
  obtain ⟨i,ga,gc,hi,rfl,rfl,hown,hb⟩:=hrel
  have hlen:=Zdy l i
  have hll:i * l.length <= 300000:=Nat.le_trans (Nat.mul_le_mul (show i <= 1000 by omega) hl3) (by decide)
  by_cases hlt:i < n
  ·have t2:decide ((i:Int) < (n:Int)) = true:=by simp;omega
   have t2':decide (i < n) = true:=by simp;omega
   have HAA:=Zh (HA.out.below hb)
   have HSU:Hid (repL l i ++ l = repL l (i + 1)):=rfl
   have hiw:IntKind.i64.wrap ((i:Int) + 1) = ((i + 1:Nat):Int):=by rw [IntWalk.i64_in _ (by omega)];omega
   have HB:=Zh hb
   have HZ:Hid (w.heap.size <= wr.heap.size):=hb.size
   have HLN:Hid ((repL l i).length <= 300000):=by unfold Hid;omega
   clear hlen hll hb
   obtain ⟨al,hal⟩:∃ al,repL l i = al:=⟨_,rfl⟩
   rw [hal] at hown HSU HLN ⊢
   have HOWN:=Zh hown
   clear hown hal
   go_wp2_with (at_builtin;refine appAnyN Zcr rfl (.tmp 24) (.tmp 25) rfl (base:=w.heap.size) (l:=al) (ys:=l) rfl HOWN.out rfl rfl HAA.out (by have:=HLN.out;omega) (by have:=HLN.out;omega) HZ.out ?_;intro a7 c7 w7 hown7 hg7 hb7;have HO7:=Zh hown7;have HB7:=Zh (HB.out.trans hb7);clear hown7 hg7 hb7)
   rw [HSU.out] at HO7
   have HLE:Hid (al.length + l.length = (repL l (i + 1)).length):=by unfold Hid;rw [<- HSU.out,List.length_append]
   rw [HLE.out]
   go_roundw
   case rel=>exact ⟨i + 1,a7,c7,by omega,by go_num,rfl,HO7.out,HB7.out⟩
   case measure=>simp [intOf];omega
  ·obtain rfl:i = n:=by omega
   have t2:decide ((i:Int) < (i:Int)) = false:=by simp
   have HALL:=Zh hown.row
   have HB:=Zh hb
   have HLT:=Zh (Zev HL.out i)
   have hll2:(repL l i).length <= 300000:=by omega
   clear hown hb hlen hll
   obtain ⟨al,hal⟩:∃ al,repL l i = al:=⟨_,rfl⟩
   rw [hal] at HALL HLT hll2 ⊢
   clear hal
   obtain ⟨room,hroom⟩:∃ room,k * 100000 - 19 = room:=⟨_,rfl⟩
   have HBL:=Zh (Zat wr ga gc al k HALL.out HLT.out (by omega) hk1.1 hk1.2)
   rw [hroom] at HBL HROOM
   have HCNT:=Zh (Zec HROOM.out.1 HROOM.out.2 hm0 al)
   have HOFA:=Zh (Zfu HROOM.out.1 al)
   have hdv:Int.tdiv (al.length:Int) (m:Int) = ((al.length / m:Nat):Int):=rfl
   have hdv2:(al.length:Int) / (m:Int) = ((al.length / m:Nat):Int):=rfl
   have hmz:¬ ((m:Int) = 0):=by omega
   have hmz2:¬ (m = 0):=by omega
   have HDL:Hid (al.length / m <= al.length):=Nat.div_le_self _ _
   clear hroom
   go_wp2_with fail
   refine HBL.out.mono ?_
   rintro e w2 ⟨xa,xc,es,rfl,hrs,hel,hch,hb2⟩
   have HRS:=Zh hrs
   have HEL:=Zh hel
   have HCH:=Zh hch
   have HB2:=Zh (HB.out.trans (hb2.mono HB.out.size))
   have HAL2:=Zh (HALL.out.below hb2)
   rw [<- hel] at HCNT HOFA
   have hes:es.length <= 300000:=by rw [hel];have:=M20.Zds HROOM.out.1 al;omega
   clear hrs hel hch hb2 HBL HB HALL HL HA HLT
   have HDD:Hid (al.length / m <= 300000):=by have:=HDL.out;unfold Hid;omega
   generalize al.length / m = d at *
   clear HDL
   go_wp2_with fail
   go_loopw [12,13] (fun v c A=>∃ i:Nat,i <= es.length /\ c = .int .i64 (i:Nat) /\ v = .int .i64 (offE room al i:Nat) /\ Only (fun _=>False) w2 A) (fun _ c _=>es.length - (intOf c).toNat)
   case atStart=>exact ⟨0,Nat.zero_le _,rfl,rfl,Only.refl _ _⟩
   case round =>
    obtain ⟨j,hj,rfl,rfl,ho⟩:=hrel
    have HO:=Zh ho
    by_cases hlt:j < es.length
    ·have t2:decide ((j:Int) < (es.length:Int)) = true:=by simp;omega
     have t2':decide (j < es.length) = true:=by simp;omega
     have hje:j < (M20.ends room al).length:=by have:=HEL.out;omega
     obtain ⟨hc1,hc2⟩:=HCH.out j hlt
     have hne:=M20.Zbf HROOM.out.1 hje
     have n1:1 <= partF28 room (M20.leftE room al j):=M20.Zaq HROOM.out.1 hne
     have hcl:=Zcq room al j
     have hco:=Zen room al j
     have hnx:=(Zau room al (j + 1)).2
     have HNX:Hid (offE room al (j + 1) = offE room al j + partF28 room (M20.leftE room al j)):=rfl
     rw [HNX.out] at hnx
     have HGR:Hid (j + 1 < es.length -> m <= partF28 room (M20.leftE room al j)):=fun h=>by
      have:=Zcc HROOM.out.1 (l:=al) (i:=j) (by have:=HEL.out;omega)
      have:=HROOM.out.2
      omega
     obtain ⟨b,off,rfl,hbl,hcell⟩:=HRS.out.at hlt
     have tc0:=hcell 0 _ rfl
     simp only [encSl,Nat.add_zero,Nat.mul_one] at tc0
     have hrx:=RowN.same hc2 ho.size (fun x h0 hx=>ho.block _ (by
      obtain ⟨b',off',he,hlt',_⟩:=hc2.at h0
      rw [hx] at he
      cases he
      exact hlt') id)
     have hra:=RowN.same HAL2.out ho.size (fun x h0 hx=>ho.block _ (by
      obtain ⟨b',off',he,hlt',_⟩:=HAL2.out.at h0
      rw [hx] at he
      cases he
      exact hlt') id)
     have tc1:wr.cell? ⟨b,off + j,none⟩ = some (.slice (es[j]).1 (es[j]).2.2.length (es[j]).2.1):=by
      unfold World.cell?
      rw [ho.block b hbl id]
      exact tc0
     rw [hc1,hcl] at tc1
     rw [hc1] at hrx
     have hrb:=Zbi (Zdz hra (offE room al j) (by omega)) (partF28 room (M20.leftE room al j))
     rw [<- hco] at hrb
     obtain ⟨N,hN⟩:∃ N,partF28 room (M20.leftE room al j) = N:=⟨_,rfl⟩
     rw [hN] at n1 hcl hnx HNX HGR tc1
     obtain ⟨x,hx⟩:∃ x,chunk room al j = x:=⟨_,rfl⟩
     rw [hx] at hcl hrx hrb
     obtain ⟨at0,hat⟩:∃ at0,offE room al j = at0:=⟨_,rfl⟩
     rw [hat] at hnx HNX hrb ⊢
     obtain ⟨s0,hs0⟩:∃ s0,at0 + N = s0:=⟨_,rfl⟩
     have hsw:IntKind.i64.wrap ((at0:Int) + (N:Int)) = (s0:Int):=by rw [show (at0:Int) + (N:Int) = (s0:Int) by omega];exact IntWalk.i64_in _ (by omega)
     rw [hs0] at hnx HNX
     have hcv1:∀ q,(convert 22 9 (.slice (es[j]).1 N (es[j]).2.1)).run Tryz.prog (wr.drewN q) = .ok (.string (strOf x)) (wr.drewN q):=fun q=>Zbd Tryz.underlying22 Tryz.underlying5 Tryz.underlying9 hcl.symm (hrx.drewN q)
     have hcv2:∀ q,(convert 22 9 (.slice (cutA ga gc at0) N (gc - at0))).run Tryz.prog (wr.drewN q) = .ok (.string (strOf x)) (wr.drewN q):=fun q=>Zbd Tryz.underlying22 Tryz.underlying5 Tryz.underlying9 hcl.symm (hrb.drewN q)
     have hgc:=HAL2.out.1
     have hcut:∀ A,(Instr.sliceAt 22 (.slice ga al.length gc) (some (.int .i64 (at0:Nat))) (some (.int .i64 (s0:Nat))) none).run Tryz.prog A = .ok (.slice (cutA ga gc at0) N (gc - at0)) A:=fun A=>by
      have:=cutBothN ga al.length gc at0 s0 (by omega) (by omega) hgc A
      rw [show s0 - at0 = N by omega] at this
      exact this
     generalize strOf x = sx at *
     have tl:(sx.toList == sx.toList) = true:=by simp
     have tn:((N:Int) == 0) = false:=by simp;omega
     have tn':(N == 0) = false:=by simp;omega
     have tg:decide ((al.length:Int) < (s0:Int)) = false:=by simp;omega
     have tg':decide (al.length < s0) = false:=by simp;omega
     have hj2:(j:Int) < (es.length:Int):=by omega
     have hj0:(0:Int) <= (j:Int):=by omega
     have HTC:=Zh tc1
     generalize (es[j]).1 = ea at *
     generalize (es[j]).2.1 = ec at *
     clear hc1 hc2 hne hco hbl hcell tc0 hrx hrb hra hN hx hat hje ho
     go_wp2_with fail
     go_quiet (fail)
     have HO3:=Zh (HO.out.trans (Zap (fun _=>False) wr nq))
     have tc3:(wr.drewN nq).cell? ⟨b,off + j,none⟩ = _:=HTC.out
     clear hcv1 hcv2 hcut tl tn tn' tg tg' tc1 HTC HO
     generalize wr.drewN nq = w3 at *
     obtain ⟨j1,hj1⟩:∃ j1,j + 1 = j1:=⟨_,rfl⟩
     have hjw:IntKind.i64.wrap ((j:Int) + 1) = (j1:Int):=by rw [show (j:Int) + 1 = (j1:Int) by omega];exact IntWalk.i64_in _ (by omega)
     have hji:(j:Int) + 1 = (j1:Int):=by omega
     rw [hj1] at HNX HGR
     by_cases hl1:j1 < es.length
     ·have t3:decide ((j1:Int) < (es.length:Int)) = true:=by simp;omega
      have t3':decide (j1 < es.length) = true:=by simp;omega
      have hg:=HGR.out hl1
      have t4:decide ((N:Int) < (m:Int)) = false:=by simp;omega
      have t4':decide (N < m) = false:=by simp;omega
      clear hl1 hg
      go_wp2_with fail
      go_roundw
      case rel=>exact ⟨j1,by omega,rfl,by rw [HNX.out],HO3.out⟩
      case measure=>simp [intOf];omega
     ·have t3:decide ((j1:Int) < (es.length:Int)) = false:=by simp;omega
      have t3':decide (j1 < es.length) = false:=by simp;omega
      clear hl1
      go_wp2_with fail
      go_roundw
      case rel=>exact ⟨j1,by omega,rfl,by rw [HNX.out],HO3.out⟩
      case measure=>simp [intOf];omega
    ·obtain rfl:j = es.length:=by omega
     have t2:decide ((es.length:Int) < (es.length:Int)) = false:=by simp
     rw [HOFA.out]
     obtain ⟨d1,hd1⟩:∃ d1,d + 1 = d1:=⟨_,rfl⟩
     have hdd:=HDD.out
     have hdw:IntKind.i64.wrap (d:Int) = (d:Int):=IntWalk.i64_in _ (by omega)
     have hdw1:IntKind.i64.wrap ((d:Int) + 1) = (d1:Int):=by rw [show (d:Int) + 1 = (d1:Int) by omega];exact IntWalk.i64_in _ (by omega)
     have hcnt:=HCNT.out
     have t3:decide ((es.length:Int) <= (d1:Int)) = true:=by simp;omega
     have t3':decide (es.length <= d1) = true:=by simp;omega
     have t4:((al.length:Int) == (al.length:Int)) = true:=by simp
     have HBB:=Zh (HB2.out.trans (show Below w.heap.size w2 wr from ⟨ho.os,ho.tape,ho.output,ho.size,fun b hb=>ho.block b (Nat.lt_of_lt_of_le hb HB2.out.size) id⟩))
     clear hcnt ho HO HB2
     go_wp2_with fail
     refine (Zbv _).mono ?_
     rintro e w5 ⟨rfl,hb5⟩
     have HB5:=Zh (HBB.out.trans (hb5.mono HBB.out.size))
     clear hb5 HBB
     go_wp2
     go_ret
     exact ⟨rfl,HB5.out⟩
end Go.Proofs.YtnkpnjnfddjfpaaGreat
