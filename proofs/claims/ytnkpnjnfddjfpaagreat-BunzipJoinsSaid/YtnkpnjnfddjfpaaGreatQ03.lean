/- Plain mathematics: what the parts of a block keep to. The reference of layer 24: GetSelectors: contract. The reference of layer 22: Used: contract. Contracts of the reference of layer 4: May, Weight, Words (seats without Classify). A map from words (bits, how many) to numbers, as a function. prefix.New: contract. The reference of layers 4, 6: words as rows of bits: contracts of Bits, Rows, begins, Get (seats that have no layer 1). The reference of layer 6: Rows where there are no words: contract. -/
import Derived.Test.YtnkpnjnfddjfpaaGreatQ02
import Derived.Test.YtnkpnjnfddjfpaaGreatQ01
import Derived.Maps.AppendAt
import Derived.Test.YtnkpnjnfddjfpaaGreatChecked
import Derived.BigQuiet
import Derived.Deep.QuietTactic
import Derived.Maps.Own
import Derived.Maps.OwnOps
import Derived.Maps.OwnSet
import Derived.Maps.Views
import Derived.DeepKeys4
import Derived.WalkArith
import Derived.StillTailTactics
import Derived.Deep.RegionLaw
set_option linter.unusedVariables false
set_option linter.unusedSimpArgs false
namespace Go.Proofs.YtnkpnjnfddjfpaaGreat.M27
open M01 M02 M04 M06 M10
theorem Zmo:∀ {l:List Nat},l.Pairwise (· < ·) -> rising l = true
 | [],_=>rfl
 | [_],_=>rfl
 | a :: b :: l,h=>by
  rw [List.pairwise_cons] at h
  have h1:=h.1 b (List.mem_cons_self ..)
  simp only [rising,Bool.and_eq_true,decide_eq_true_eq]
  exact ⟨h1,Zmo h.2⟩
theorem Zmb {B:List Nat} {at_ g x:Nat} (h:x ∈ pickB B at_ g):16 * g <= x /\ x < 16 * g + 16:=by
 unfold pickB at h
 obtain ⟨k,hk,rfl⟩:=List.mem_map.1 h
 have:=List.mem_range.1 (List.mem_filter.1 hk).1
 omega
theorem Zxw (B:List Nat) (at_ g:Nat):(pickB B at_ g).Pairwise (· < ·):=by
 unfold pickB
 rw [List.pairwise_map]
 refine (List.Pairwise.filter _ List.pairwise_lt_range).imp ?_
 intro a b h
 omega
theorem Zkw (B:List Nat) (f0:Nat):∀ (m g at_:Nat) (out:List Nat),out.Pairwise (· < ·) -> (∀ x ∈ out,x < 16 * g) -> ∀ l at2,pickL B f0 m g at_ out = some (l,at2) -> l.Pairwise (· < ·) /\ (∀ x ∈ l,x < 16 * (g + m))
 | 0,g,at_,out,hp,hx,l,at2,h=>by
  simp only [pickL,Option.some.injEq,Prod.mk.injEq] at h
  obtain ⟨rfl,rfl⟩:=h
  exact ⟨hp,hx⟩
 | m + 1,g,at_,out,hp,hx,l,at2,h=>by
  unfold pickL at h
  rw [show 16 * (g + (m + 1)) = 16 * (g + 1 + m) by omega]
  split at h
  ·split at h
   ·refine Zkw B f0 m (g + 1) _ _ ?_ ?_ l at2 h
    ·rw [List.pairwise_append]
     refine ⟨hp,Zxw B at_ g,fun a ha b hb=>?_⟩
     have:=hx a ha
     have:=Zmb hb
     omega
    ·intro x hm
     rcases List.mem_append.1 hm with hm | hm
     ·have:=hx x hm;omega
     ·have:=Zmb hm;omega
   ·cases h
  ·exact Zkw B f0 m (g + 1) _ _ hp (fun x hm=>by have:=hx x hm;omega) l at2 h
theorem Zyz:∀ (l:List Nat) (lo hi:Nat),l.Pairwise (· < ·) -> (∀ x ∈ l,lo <= x /\ x < hi) -> l.length <= hi - lo
 | [],_,_,_,_=>by simp
 | a :: l,lo,hi,h,hx=>by
  rw [List.pairwise_cons] at h
  have h1:=hx a (List.mem_cons_self ..)
  have:=Zyz l (a + 1) hi h.2 (fun x hm=>⟨h.1 x hm,(hx x (List.mem_cons_of_mem _ hm)).2⟩)
  rw [List.length_cons]
  omega
theorem Zhv {B:List Nat} {at_ at2:Nat} {l:List Nat} (h:pickG B at_ = some (l,at2)):l ≠ [] /\ rising l = true /\ l.length <= 256 /\ ∀ x ∈ l,x < 256:=by
 unfold pickG at h
 split at h
 ·cases hq:pickL B at_ 16 0 (at_ + 16) [] with
  | none=>rw [hq] at h;cases h
  | some p =>
   obtain ⟨out,a2⟩:=p
   rw [hq] at h
   simp only at h
   split at h
   ·cases h
   ·rename_i hne
    simp only [Option.some.injEq,Prod.mk.injEq] at h
    obtain ⟨rfl,rfl⟩:=h
    obtain ⟨h1,h2⟩:=Zkw B at_ 16 0 (at_ + 16) [] List.Pairwise.nil (fun x hm=>by cases hm) _ _ hq
    have h3:∀ x ∈ out,x < 256:=fun x hm=>by have:=h2 x hm;omega
    have h4:=Zyz out 0 256 h1 (fun x hm=>⟨Nat.zero_le _,h3 x hm⟩)
    exact ⟨hne,Zmo h1,h4,h3⟩
 ·cases h
theorem Zno (B:List Nat) (n:Nat):∀ (f k at_:Nat) (out:List Nat),out.length <= n -> (∀ x ∈ out,1 <= x /\ x <= 20) -> ∀ l at2,lenL B f k at_ n out = some (l,at2) -> l.length = n /\ ∀ x ∈ l,1 <= x /\ x <= 20
 | 0,_,_,_,_,_,_,_,h=>by simp [lenL] at h
 | f + 1,k,at_,out,hl,hx,l,at2,h=>by
  unfold lenL at h
  split at h
  ·simp only [Option.some.injEq,Prod.mk.injEq] at h
   obtain ⟨rfl,rfl⟩:=h
   exact ⟨by omega,hx⟩
  ·split at h
   ·cases h
   ·rename_i h2 h3
    split at h
    ·refine Zno B n f k _ _ (by rw [List.length_append];simp;omega) (fun x hm=>?_) l at2 h
     rcases List.mem_append.1 hm with hm | hm
     ·exact hx x hm
     ·rw [List.mem_singleton.1 hm];omega
    ·split at h
     ·cases h
     ·exact Zno B n f _ _ _ hl hx l at2 h
theorem Zzx {B:List Nat} {at_ at2 n:Nat} {l:List Nat} (h:lenG B at_ n = some (l,at2)):l.length = n /\ ∀ x ∈ l,1 <= x /\ x <= 20:=by
 unfold lenG at h
 cases hq:numG B at_ 5 with
 | none=>rw [hq] at h;cases h
 | some p=>rw [hq] at h;exact Zno B n _ _ _ [] (Nat.zero_le _) (fun x hm=>by cases hm) l at2 h
theorem Zof {l:List Nat} {k x:Nat} (hk:k < l.length) (h:x ∈ toFront l k):x ∈ l:=by
 unfold toFront at h
 rcases List.mem_cons.1 h with rfl | h
 ·rw [List.getD_eq_getElem?_getD,List.getElem?_eq_getElem hk];exact List.getElem_mem _
 ·rcases List.mem_append.1 h with h | h
  ·exact List.mem_of_mem_take h
  ·exact List.mem_of_mem_drop h
theorem Zay {l:List Nat} {k:Nat} (hk:k < l.length):(toFront l k).length = l.length:=by unfold toFront;simp;omega
theorem Zov (B:List Nat) (tables:Nat):∀ (f k at_:Nat),k < tables -> ∀ r at2,onesG B tables f k at_ = some (r,at2) -> r < tables
 | 0,_,_,_,_,_,h=>by simp [onesG] at h
 | f + 1,k,at_,hk,r,at2,h=>by
  unfold onesG at h
  split at h
  ·cases h
  ·split at h
   ·simp only [Option.some.injEq,Prod.mk.injEq] at h
    obtain ⟨rfl,_⟩:=h
    exact hk
   ·split at h
    ·cases h
    ·exact Zov B tables f (k + 1) _ (by omega) r at2 h
def FirstN (n:Nat) (l:List Nat):Prop:=l.length = 6 /\ ∀ k,k < n -> l.getD k 0 < n
theorem Zlo {n k:Nat} {l:List Nat} (hn:n <= 6) (h:FirstN n l) (hk:k < n):FirstN n (toFront l k):=by
 obtain ⟨h1,h2⟩:=h
 refine ⟨by rw [Zay (by omega)];exact h1,fun i hi=>?_⟩
 unfold toFront
 cases i with
 | zero=>exact h2 k hk
 | succ i =>
  rw [List.getD_cons_succ,List.getD_eq_getElem?_getD]
  rcases Nat.lt_or_ge i k with h3 | h3
  ·rw [List.getElem?_append_left (by simp;omega),List.getElem?_take_of_lt h3,<- List.getD_eq_getElem?_getD]
   exact h2 i (by omega)
  ·rw [List.getElem?_append_right (by simp;omega),List.length_take,Nat.min_eq_left (by omega),List.getElem?_drop,<- List.getD_eq_getElem?_getD,show k + 1 + (i - k) = i + 1 by omega]
   exact h2 (i + 1) hi
theorem Zvg (B:List Nat) (n:Nat) (hn:0 < n) (hn6:n <= 6):∀ (m:Nat) (l:List Nat) (at_:Nat) (out:List Nat),FirstN n l -> (∀ x ∈ out,x < n) -> ∀ g at2,selL B n m l at_ out = some (g,at2) -> g.length = out.length + m /\ ∀ x ∈ g,x < n
 | 0,l,at_,out,_,hx,g,at2,h=>by
  simp only [selL,Option.some.injEq,Prod.mk.injEq] at h
  obtain ⟨rfl,_⟩:=h
  exact ⟨rfl,hx⟩
 | m + 1,l,at_,out,hf,hx,g,at2,h=>by
  unfold selL at h
  cases hq:onesG B n 8 0 at_ with
  | none=>rw [hq] at h;cases h
  | some p =>
   obtain ⟨r,a2⟩:=p
   rw [hq] at h
   have hr:=Zov B n 8 0 at_ hn r a2 hq
   obtain ⟨h1,h2⟩:=Zvg B n hn hn6 m _ _ _ (Zlo hn6 hf hr) (fun x hm=>by
    rcases List.mem_append.1 hm with hm | hm
    ·exact hx x hm
    ·rw [List.mem_singleton.1 hm];exact hf.2 r hr) g at2 h
   rw [List.length_append,List.length_singleton] at h1
   exact ⟨by omega,h2⟩
theorem Zlp {n:Nat} (hn:n <= 6):FirstN n [0,1,2,3,4,5]:=⟨rfl,fun k hk=>by
 have h6:k = 0 \/ k = 1 \/ k = 2 \/ k = 3 \/ k = 4 \/ k = 5:=by omega
 rcases h6 with rfl | rfl | rfl | rfl | rfl | rfl <;> exact hk⟩
theorem Zvf {B:List Nat} {at_ at2 n:Nat} {g:List Nat} (hn:2 <= n) (hn6:n <= 6) (h:selG B at_ n = some (g,at2)):0 < g.length /\ g.length < 32768 /\ ∀ x ∈ g,x < n:=by
 unfold selG at h
 cases hq:numG B at_ 15 with
 | none=>rw [hq] at h;cases h
 | some p =>
  rw [hq] at h
  simp only [Option.bind_some] at h
  split at h
  ·cases h
  ·rename_i hp0
   obtain ⟨h1,h2⟩:=Zvg B n (by omega) hn6 _ _ _ [] (Zlp hn6) (fun x hm=>by cases hm) g at2 h
   have h3:p.1 < 2 ^ 15:=by
    unfold numG at hq
    split at hq
    ·simp only [Option.some.injEq] at hq
     rw [<- hq]
     exact Zbk B at_ 15
    ·cases hq
   have h4:g.length = p.1:=by simpa using h1
   exact ⟨by omega,by omega,h2⟩
theorem Ztd (used:List Nat) (most:Nat):∀ (syms l out:List Nat) (worth:Nat),(∀ x ∈ l,x ∈ used) -> l.length = used.length -> l ≠ [] -> (∀ x ∈ out,x ∈ used) -> ∀ r,frL used most syms l out worth = some r -> r.length <= most /\ ∀ x ∈ r,x ∈ used
 | [],_,_,_,_,_,_,_,_,h=>by simp [frL] at h
 | s :: t,l,out,worth,hl,hll,h0,ho,r,h=>by
  unfold frL at h
  have hlen:0 < l.length:=List.length_pos_iff.2 h0
  split at h
  ·cases h
  ·rename_i h1
   split at h
   ·split at h
    ·cases h
    ·refine Ztd used most t l _ _ hl hll h0 (fun x hm=>?_) r h
     rcases List.mem_append.1 hm with hm | hm
     ·exact ho x hm
     ·have hx:x = l.getD 0 0:=(List.mem_replicate.1 hm).2
      rw [hx,List.getD_eq_getElem?_getD,List.getElem?_eq_getElem hlen]
      exact hl _ (List.getElem_mem _)
   ·split at h
    ·split at h
     ·cases h
     ·simp only [Option.some.injEq] at h
      subst h
      exact ⟨by omega,ho⟩
    ·split at h
     ·cases h
     ·have hk:s - 1 < l.length:=by omega
      refine Ztd used most t (toFront l (s - 1)) _ _ (fun x hm=>hl x (Zof hk hm)) (by rw [Zay hk];exact hll) (by unfold toFront;simp) (fun x hm=>?_) r h
      rcases List.mem_append.1 hm with hm | hm
      ·exact ho x hm
      ·rw [List.mem_singleton.1 hm,List.getD_eq_getElem?_getD,List.getElem?_eq_getElem hk]
       exact hl _ (List.getElem_mem _)
theorem Zfs {used syms r:List Nat} {most:Nat} (h0:used ≠ []) (h:frontG used syms most = some r):r.length <= most /\ ∀ x ∈ r,x ∈ used :=
 Ztd used most syms used [] 1 (fun x hm=>hm) rfl h0 (fun x hm=>by cases hm) r h
theorem Zhn {l r:List Nat} {at_:Nat} (h256:∀ x ∈ l,x < 256) (h:backG l at_ = some r):r.length = l.length /\ ∀ x ∈ r,x < 256:=by
 unfold backG at h
 split at h
 ·rename_i ha
  simp only [Option.some.injEq] at h
  subst h
  rw [<- Zdv]
  refine ⟨Zgz _ _ _,fun x hm=>?_⟩
  unfold walked at hm
  obtain ⟨k,_,rfl⟩:=List.mem_map.1 hm
  exact Ztf h256 (Zem l h256 at_ ha (k + 1))
 ·cases h
end Go.Proofs.YtnkpnjnfddjfpaaGreat.M27

namespace Go.Proofs.YtnkpnjnfddjfpaaGreat
open Go.RowKit M01 M02 M10 M27
theorem app1At {P:Program} {T E:TypeId} {k:IntKind} {bytes:Nat} (et:ElemTy P T E k bytes) {w:World} {ops:Array Oper} {rest:List Oper} {o:Oper} {ac:Act} {Q:Exit -> Act -> World -> Prop} (hgd:o.guard = none) (s x:Operand)
  (ho:o.op = .call { callee:=.builtin .append,args:=#[s,x],argTypes:=#[T,T] }) {base:Nat} {a:Option Addr} {cap:Nat} {l:List Nat} {y:Nat} {c E':Nat}
  (hs:ac.eval s = .slice a l.length cap) (hown:OwnN E k w base a cap l) (hx:ac.eval x = .slice (some ⟨w.heap.size,0,none⟩) 1 c) (hc:1 <= c) (hc':c <= 9223372036854775807)
  (hn:l.length + 1 <= 9223372036854775807) (hbytes:(l.length + 1) * bytes <= 140737488355328) (hbase:base <= w.heap.size)
  (h:∀ a' cap' w',OwnN E k w' base a' cap' (l ++ [y]) -> w.grownBy w' (Value.slice a l.length cap).ownBlock -> Below base w w' -> (∀ g,a' = some ⟨g,0,none⟩ -> a = some ⟨g,0,none⟩ \/ w.heap.size <= g) -> wpList P ops Q rest (ac.put o.dst (.slice a' (l.length + 1) cap')) w') :
  wpList P ops Q (o :: rest) ac (w.alloc (.cells #[.int k y] E')):=by
 obtain ⟨i,h2,h3,h4,h5⟩:=info_parts et.info
 have hy:RowN k (w.alloc (.cells #[.int k y] E')) (some ⟨w.heap.size,0,none⟩) c [y]:=by
  refine ⟨by simpa using hc,⟨hc',fun hn=>by cases hn⟩,.inr ⟨w.heap.size,0,rfl,by simp,fun i hi=>?_⟩⟩
  obtain rfl:i = 0:=by simp at hi;omega
  simp [World.cell?_alloc_at]
 refine wpList_plain (by assumption) fun K hK'=>?_
 obtain ⟨v',w',hr,h6,h7,h8,h9⟩:=run_append_own_at (P:=P) (w.alloc (.cells #[.int k y] E')) base T o.type E i (.int k 0) 1 bytes et.und h2 h3 h4 h5 rfl (by decide) _ l.length _ (hown.alloc _) ⟨w.heap.size,0,none⟩ 1 c ([y].map fun (n:Nat)=>Value.int k n) (by simp)
  (Zbi hy _ rfl) (by intro u hu;simp only [List.mem_map] at hu;obtain ⟨n,_,rfl⟩:=hu;rfl) (by simpa [maxLen] using hn) hbytes (by simp;omega)
 have hv:∃ a' cap',v' = .slice a' (l.length + 1) cap':=by
  rcases h6.2 with ⟨h11,h10⟩ | ⟨g,c',cur,h11,_⟩
  ·omega
  ·exact ⟨_,_,h11⟩
 obtain ⟨a',cap',rfl⟩:=hv
 have hown':OwnN E k w' base a' cap' (l ++ [y]):=by
  unfold OwnN;rw [List.length_append,List.map_append];exact h6
 have hbel:Below base (w.alloc (.cells #[.int k y] E')) w':=Below.of_grown h7 (by simp;omega) (by
  intro g hg
  exact (World.ownsRow.lt hown g hg).1)
 unfold Oper.wp
 simp [execOp,ho,resolve,invoke,builtin,hs,hx,hr,Result.andThen]
 refine hK' _ _ (h a' cap' w' hown' ⟨h7.os,h7.tape,h7.output,Nat.le_trans (by simp) h7.size,fun q hq hr=>(h7.block q (by simp;omega) hr).trans (Below.heap_alloc _ _ _ hq)⟩ (((Below.refl base w).alloc hbase _).trans hbel) ?_)
 rintro g rfl
 rcases h9 with h9 | h9
 ·left
  rcases hown.form with ⟨rfl,_,_⟩ | ⟨g',rfl,_⟩
  ·simp [Value.ownBlock] at h9
  ·simp [Value.ownBlock] at h9
   rw [h9]
 ·right
  simp [Value.ownBlock] at h9
  omega
theorem Zcc {a:Option Addr} {n c g:Nat} {k:IntKind} {E:TypeId} {w:World} {base:Nat} {l:List Nat} (ho:OwnN E k w base a c l) (h:(Value.slice a n c).ownBlock = some g):a = some ⟨g,0,none⟩:=by
 rcases ho.form with ⟨rfl,_⟩ | ⟨g0,rfl,_⟩
 ·simp [Value.ownBlock] at h
 ·simp [Value.ownBlock] at h
  rw [h]
def Out24 (q n:Nat) (R:Option (List Nat × Nat)) (e:Ending) (w':World):Prop :=
 match R with
 | some (out,at2)=>∃ g c,e = .returned (.tuple #[.slice g out.length c,.int .i64 (at2:Nat),.int .i64 0]) /\ OwnN 3 .i64 w' q g c out /\ at2 <= n
 | none=>∃ m:Int,e = .returned (.tuple #[.slice none 0 0,.int .i64 m,.int .i64 2])
theorem Zqj (B:List Nat) (tables f k at_:Nat):onesG B tables (f + 1) k at_ = if nb B <= at_ then none else if bit B at_ = 0 then some (k,at_ + 1) else if k + 1 = tables then none else onesG B tables f (k + 1) (at_ + 1):=rfl
theorem Zvh (B:List Nat) (tables n:Nat) (l:List Nat) (at_:Nat) (out:List Nat):selL B tables (n + 1) l at_ out = (onesG B tables 8 0 at_).bind fun p=>selL B tables n (toFront l p.1) p.2 (out ++ [l.getD p.1 0]):=rfl
set_option maxRecDepth 100000 in
set_option maxHeartbeats 6400000 in
theorem Zup (a:Option Addr) (cap:Nat) (B:List Nat) (at_ tables:Nat) (w:World) (hr:RowB w a cap (bitL B)) (hl:B.length <= 1000) (ha:at_ <= 8 * B.length) (ht:2 <= tables) (ht6:tables <= 6) :
  Calls Tryz.prog 136 #[.slice a (bitL B).length cap,.int .i64 (at_:Nat),.int .i64 (tables:Nat)] w fun e w'=>Below w.heap.size w w' /\ Out24 w.heap.size (8 * B.length) (selG B at_ tables) e w':=by
 have hll:(bitL B).length = 8 * B.length:=Zbo B
 have HG:=Zh (Zfz a cap B at_ 15 w hr hl ha (by decide))
 have HBI:Hid (∀ i,i < (bitL B).length -> ∀ b off,a = some ⟨b,off,none⟩ -> ∀ A,Below w.heap.size w A -> A.cell? ⟨b,off + i,none⟩ = some (.bool (bit B i == 1))):=fun i hi b off hab A hA=>by
  obtain ⟨b',off',h1,h2,h3⟩:=(hr.below hA).atB hi
  rw [hab] at h1
  cases h1
  rw [Zea] at h3
  exact h3
 obtain ⟨q,hq⟩:∃ q,w.heap.size = q:=⟨_,rfl⟩
 rw [hq] at HBI ⊢
 have HQ:=Zh hq
 have HLL:=Zh hll
 obtain ⟨P,hP⟩:∃ P,P = selG B at_ tables:=⟨_,rfl⟩
 rw [<- hP]
 unfold selG numG nb at hP
 have hform:(bitL B).length = 0 \/ ∃ b off,a = some ⟨b,off,none⟩:=by
  rcases hr.2.2 with h | ⟨b,off,h,_⟩
  ·exact .inl (by rw [h];rfl)
  ·exact .inr ⟨b,off,h⟩
 have hcap:=hr.1
 have hcap2:=hr.2.1.1
 have hL8:(bitL B).length <= 8000:=by omega
 have HBT:=Zh (fun i=>Zdy B i)
 have HN8:Hid (nb B = (bitL B).length):=by unfold Hid nb;omega
 rw [<- hll] at HG hP ha ⊢
 generalize bitL B = L at *
 by_cases h5:at_ + 15 <= L.length
 case neg =>
  rw [if_neg h5] at hP
  subst hP
  rw [if_neg h5] at HG
  clear hr hll h5
  go_enter Tryz.func136,Tryz.ntmps136
  go_wp2_with fail
  refine HG.out.mono ?_
  rintro e w1 ⟨rfl,rfl⟩
  go_wp2_with fail
  go_ret3
  exact ⟨Below.refl _ _,_,rfl⟩
 rw [if_pos h5] at hP HG
 have hx:=Zbk B at_ 15
 have hP2:P = if numH B at_ 15 = 0 then none else selL B tables (numH B at_ 15) [0,1,2,3,4,5] (at_ + 15) []:=hP
 generalize numH B at_ 15 = n at *
 obtain ⟨b,off,rfl⟩:∃ b off,a = some ⟨b,off,none⟩:=by
  rcases hform with h | h
  ·omega
  ·exact h
 by_cases hn0:n = 0
 ·rw [if_pos hn0] at hP2
  subst hn0 hP2
  clear hr hP hll hform
  go_enter Tryz.func136,Tryz.ntmps136
  go_wp2_with fail
  refine HG.out.mono ?_
  rintro e w1 ⟨rfl,rfl⟩
  go_wp2_with fail
  go_ret3
  exact ⟨Below.refl _ _,_,rfl⟩
 rw [if_neg hn0] at hP2
 have HP:Hid (P = selL B tables (n - ([]:List Nat).length) [0,1,2,3,4,5] (at_ + 15) []):=hP2
 have u1:IntKind.i64.wrap (n:Int) = (n:Int):=IntWalk.i64_in _ (by omega)
 have t9:((n:Int) == 0) = false:=beq_eq_false_iff_ne.2 (by omega)
 have hat5:((at_ + 15:Nat):Int) = (at_:Int) + 15:=by omega
 have HLIT:Hid (RowN .i64 (w.alloc (.cells #[.int .i64 0,.int .i64 1,.int .i64 2,.int .i64 3,.int .i64 4,.int .i64 5] 3)) (some ⟨w.heap.size,0,none⟩) 6 [0,1,2,3,4,5]):=by
  exact (OwnN.lit (k:=.i64) 3 w w.heap.size [0,1,2,3,4,5] #[.int .i64 0,.int .i64 1,.int .i64 2,.int .i64 3,.int .i64 4,.int .i64 5] w.heap.size rfl rfl (Nat.le_refl _) (by simp [maxLen])).row
 have HBB:=Zh (Zai w (.cells #[.int .i64 0,.int .i64 1,.int .i64 2,.int .i64 3,.int .i64 4,.int .i64 5] 3))
 clear hr hP hP2 hll ha hform hn0 hq
 go_enter Tryz.func136,Tryz.ntmps136
 go_wp2_with fail
 refine HG.out.mono ?_
 rintro e w1 ⟨rfl,rfl⟩
 go_wp2_with fail
 have hlz:w1.heap.size < (w1.alloc (.cells #[.int .i64 0,.int .i64 1,.int .i64 2,.int .i64 3,.int .i64 4,.int .i64 5] 3)).heap.size:=by simp
 obtain ⟨lg0,hlg0⟩:∃ lg0,w1.heap.size = lg0:=⟨_,rfl⟩
 rw [hlg0] at HLIT hlz
 simp only [hlg0]
 have HLZ:=Zh hlz
 generalize w1.alloc (.cells #[.int .i64 0,.int .i64 1,.int .i64 2,.int .i64 3,.int .i64 4,.int .i64 5] 3) = W0 at *
 have HBB2:Hid (Below q w1 W0):=by unfold Hid;rw [<- HQ.out];exact HBB.out
 have HLG0:=Zh hlg0
 clear hlz HBB hlg0 HG
 go_loopw [1,11,12] (fun av lv x A=>∃ (at2:Nat) (l:List Nat) (lg lc:Nat) (o:List Nat) (og:Option Addr) (oc:Nat),av = .int .i64 (at2:Nat) /\ lv = .slice (some ⟨lg,0,none⟩) 6 lc /\ x = .slice og o.length oc /\ Hid (l.length = 6) /\ Hid (RowN .i64 A (some ⟨lg,0,none⟩) lc l) /\ Hid (lg < A.heap.size) /\ Hid (OwnN 3 .i64 A q og oc o) /\ Hid (∀ g,og = some ⟨g,0,none⟩ -> g ≠ lg) /\ Hid (Below q w1 A) /\ o.length <= n /\ at2 <= L.length /\ Hid (P = selL B tables (n - o.length) l at2 o)) (fun _ _ x _=>n - (match x with | .slice _ m _=>m | _=>0))
 case atStart=>exact ⟨at_ + 15,[0,1,2,3,4,5],lg0,6,[],none,0,by first | rfl | exact Zbg (by omega),rfl,rfl,rfl,HLIT.out,HLZ.out,OwnN.nil _ _ _ _,(fun g h=>by cases h),HBB2.out,Nat.zero_le _,h5,HP.out⟩
 case round =>
  clear HLIT HLZ HBB2 HP hat5
  obtain ⟨at2,l,lg,lc,o,og,oc,rfl,rfl,rfl,HL6,HLR,HLG,HO,HNE,HE,hon,hat2,HF⟩:=hrel
  by_cases hno:o.length < n
  case neg =>
   have hno2:o.length = n:=by omega
   have t0:decide (o.length < n) = false:=by simp;omega
   have HPE:Hid (P = some (o,at2)):=by unfold Hid;rw [HF.out,hno2,Nat.sub_self];rfl
   clear hno hno2
   go_wp2_with fail
   go_ret3
   refine ⟨HE.out,?_⟩
   rw [HPE.out]
   exact ⟨og,oc,rfl,HO.out,hat2⟩
  have t0:decide (o.length < n) = true:=by simp;omega
  obtain ⟨m,hm⟩:∃ m,n - o.length = m + 1:=⟨n - o.length - 1,by omega⟩
  have HM:=Zh (show n - (o.length + 1) = m by omega)
  rw [hm,Zvh] at HF
  obtain ⟨O,hO⟩:∃ O,O = onesG B tables 8 0 at2:=⟨_,rfl⟩
  rw [<- hO] at HF
  have HO0:Hid (O = onesG B tables (8 - 0) 0 at2):=hO
  clear hm hO
  go_wp2_with fail
  go_loopw [1,13] (fun av kv A=>∃ k at3:Nat,kv = .int .i64 (k:Nat) /\ av = .int .i64 (at3:Nat) /\ k <= tables /\ at3 <= L.length /\ A = wr /\ Hid (O = if k = tables then none else onesG B tables (8 - k) k at3)) (fun av _ _=>9000 - (intOf av).toNat)
  case atStart=>exact ⟨0,at2,rfl,rfl,Nat.zero_le _,hat2,by trivial,by unfold Hid;rw [if_neg (by omega)];exact HO0.out⟩
  case round =>
   clear HO0
   obtain ⟨k,at3,rfl,rfl,hk,hat3,hwr,HOK⟩:=hrel
   subst hwr
   have HNO:Hid (O = none -> P = none):=fun h=>by rw [HF.out,h];rfl
   obtain ⟨f,hf⟩:∃ f,8 - k = f + 1:=⟨7 - k,by omega⟩
   have HFF:=Zh (show 8 - (k + 1) = f by omega)
   rw [hf,Zqj,HN8.out] at HOK
   clear hf
   by_cases h3:at3 < L.length
   case neg =>
    have t1:decide (at3 < L.length) = false:=by simp;omega
    have t2:((at3:Int) == (L.length:Int)) = true:=beq_iff_eq.2 (by omega)
    have HPN:Hid (P = none):=HNO.out (by rw [HOK.out,if_pos (show L.length <= at3 by omega)];split <;> rfl)
    clear h3
    go_wp2_with fail
    go_ret3
    refine ⟨HE.out,?_⟩
    rw [HPN.out]
    exact ⟨_,rfl⟩
   have t1:decide (at3 < L.length) = true:=by simp;omega
   have t2:((at3:Int) == (L.length:Int)) = false:=beq_eq_false_iff_ne.2 (by omega)
   rw [if_neg (show ¬ L.length <= at3 by omega)] at HOK
   have hc0:=HBI.out at3 h3 b off rfl _ HE.out
   by_cases hkt:k = tables
   case pos =>
    have HPN:Hid (P = none):=HNO.out (by rw [HOK.out,if_pos hkt])
    have t3:decide (k < tables) = false:=by simp;omega
    have t4:((k:Int) == (tables:Int)) = true:=beq_iff_eq.2 (by omega)
    clear hkt
    rcases (show bit B at3 = 0 \/ bit B at3 = 1 by have:=HBT.out at3;omega) with hb | hb
    ·rw [hb,show ((0:Nat) == 1) = false from rfl] at hc0
     clear hb
     go_wp2_with fail
     go_ret3
     refine ⟨HE.out,?_⟩
     rw [HPN.out]
     exact ⟨_,rfl⟩
    ·rw [hb,show ((1:Nat) == 1) = true from rfl] at hc0
     clear hb
     go_wp2_with fail
     go_ret3
     refine ⟨HE.out,?_⟩
     rw [HPN.out]
     exact ⟨_,rfl⟩
   have t3:decide (k < tables) = true:=by simp;omega
   have t4:((k:Int) == (tables:Int)) = false:=beq_eq_false_iff_ne.2 (by omega)
   rw [if_neg hkt] at HOK
   rcases (show bit B at3 = 0 \/ bit B at3 = 1 by have:=HBT.out at3;omega) with hb | hb
   case inr =>
    rw [if_neg (show ¬ bit B at3 = 0 by rw [hb];decide)] at HOK
    rw [hb,show ((1:Nat) == 1) = true from rfl] at hc0
    have HOK2:Hid (O = if k + 1 = tables then none else onesG B tables (8 - (k + 1)) (k + 1) (at3 + 1)):=by unfold Hid;rw [HFF.out];exact HOK.out
    have hk1:k + 1 <= tables:=by omega
    clear hb hkt
    go_wp2_with fail
    go_roundw
    case rel=>exact ⟨k + 1,at3 + 1,by go_num,by go_num,hk1,by omega,by trivial,HOK2.out⟩
    case measure=>simp [intOf];omega
   rw [if_pos hb] at HOK
   rw [hb,show ((0:Nat) == 1) = false from rfl] at hc0
   have hkl:k < l.length:=by rw [HL6.out];omega
   have HFR:=Zh (fun B' (h:RowN .i64 B' (some ⟨lg,0,none⟩) lc l)=>Zis (some ⟨lg,0,none⟩) lc l k B' h hkl (by rw [HL6.out];decide))
   rw [HL6.out] at HFR
   have HF2:Hid (P = selL B tables m (toFront l k) (at3 + 1) (o ++ [l.getD k 0])):=by unfold Hid;rw [HF.out,HOK.out];rfl
   have HT6:Hid ((toFront l k).length = 6):=by unfold Hid;rw [Zay hkl];exact HL6.out
   have HT0:Hid ((toFront l k)[0]'(by rw [HT6.out];decide) = l.getD k 0):=rfl
   clear hb hkt hkl
   go_wp2_with fail
   refine (HFR.out _ HLR.out).mono ?_
   rintro e w2 ⟨g2,c2,rfl,hown2,hb2⟩
   have HR2:=Zh hown2.row
   have hqw:q <= wr.heap.size:=by have:=HE.out.size;have:=HQ.out;omega
   have HE2:=Zh (HE.out.trans (hb2.mono hqw))
   have HO2:=Zh (HO.out.below hb2)
   obtain ⟨g3,hg3,hlo3,hhi3,hc3,_⟩:=hown2.at (i:=0) (by rw [HT6.out];decide)
   rw [HT0.out] at hc3
   subst hg3
   have hog:∀ g,og = some ⟨g,0,none⟩ -> g < wr.heap.size:=fun g hg=>by
    rcases HO.out.form with ⟨h,_⟩ | ⟨g0,h,_,h2⟩
    ·rw [h] at hg;cases hg
    ·rw [h] at hg;cases hg;exact h2
   have HOG:=Zh hog
   have HLO3:=Zh hlo3
   have HHI3:=Zh hhi3
   have hwr2:q <= w2.heap.size:=by have:=HE2.out.size;have:=HE.out.size;have:=HQ.out;omega
   have HWR2:=Zh hwr2
   have hon2:o.length + 1 <= 40000:=by omega
   obtain ⟨v,hv⟩:∃ v,l.getD k 0 = v:=⟨_,rfl⟩
   rw [hv] at hc3 HF2
   clear hown2 hb2 hlo3 hhi3 hog hwr2 hv
   go_wp2_with (at_builtin;refine app1At (y:=v) Zax rfl (.tmp 68) (.tmp 72) rfl rfl HO2.out rfl (by omega) (by omega) (by omega) (by omega) HWR2.out ?_;intro a' c' w3 hown3 hg3 hb3 hat;have HOWN3:=Zh hown3;have HE3:=Zh (HE2.out.trans hb3);have HGR:=Zh hg3;have HAT:=Zh hat;clear hown3 hg3 hb3 hat)
   go_wp2
   go_roundw
   case rel =>
    have hne:∀ g,og = some ⟨g,0,none⟩ -> g ≠ g3:=fun g hg=>by have:=HOG.out g hg;have:=HLO3.out;omega
    refine ⟨at3 + 1,toFront l k,g3,c2,o ++ [v],a',c',by go_num,by trivial,by rw [List.length_append];rfl,HT6.out,?_,Nat.lt_of_lt_of_le HHI3.out HGR.out.size,HOWN3.out,fun g hg=>?_,HE3.out,by rw [List.length_append];show o.length + 1 <= n;omega,by omega,by unfold Hid;rw [List.length_append,show n - (o.length + [v].length) = m from HM.out];exact HF2.out⟩
    ·refine HR2.out.same HGR.out.size (fun x h0 hx=>HGR.out.block _ (by cases hx;exact HHI3.out) (fun e=>?_))
     cases hx
     have:=Zcc HO.out e.symm
     exact hne _ this rfl
    ·rcases HAT.out g hg with h | h
     ·exact hne g h
     ·have:=HHI3.out;omega
   case measure=>show n - (o.length + 1) < n - o.length;omega
end Go.Proofs.YtnkpnjnfddjfpaaGreat

namespace Go.Proofs.YtnkpnjnfddjfpaaGreat
open Go.RowKit M01 M02 M10
def hasL (l:List Nat):List Nat:=(List.range 256).map fun c=>if c ∈ l then 1 else 0
def usedTo (l:List Nat) (n:Nat):List Nat:=(List.range n).filter fun c=>decide (c ∈ l)
def usedG (l:List Nat):List Nat:=usedTo l 256
theorem Zxk:hasL [] = List.replicate 256 0:=by
 unfold hasL
 rw [List.eq_replicate_iff]
 exact ⟨by simp,fun b hb=>by simp at hb;exact hb.2.symm⟩
theorem Zng:ElemS Tryz.prog 58 4 encB (.bool false) 1:=⟨Tryz.underlying58,by kernel_rfl,by kernel_rfl⟩
theorem Zhr (l:List Nat):(hasL l).length = 256:=by simp [hasL]
theorem Zti (l:List Nat) (x:Nat):(hasL l).set x 1 = hasL (l ++ [x]):=by
 apply List.ext_getElem
 ·rw [List.length_set,Zhr,Zhr]
 ·intro i h1 h2
  rw [List.getElem_set]
  simp only [hasL,List.getElem_map,List.getElem_range,List.mem_append,List.mem_singleton]
  by_cases h:x = i
  ·subst h;simp
  ·have h':¬ i = x:=fun e=>h e.symm
   simp [h,h']
theorem Zzv (l:List Nat) (c:Nat) (h:c < (hasL l).length):((hasL l)[c] == 1) = decide (c ∈ l):=by
 simp only [hasL,List.getElem_map,List.getElem_range]
 by_cases h:c ∈ l <;> simp [h]
theorem Zog (l:List Nat) (n:Nat):usedTo l (n + 1) = usedTo l n ++ if n ∈ l then [n] else []:=by
 unfold usedTo
 rw [List.range_succ,List.filter_append]
 congr 1
 by_cases h:n ∈ l <;> simp [h]
theorem Zgy (l:List Nat) (n:Nat):(usedTo l n).length <= n:=by
 unfold usedTo
 exact Nat.le_trans (List.length_filter_le _ _) (by simp)
set_option maxRecDepth 100000 in
set_option maxHeartbeats 1600000 in
theorem Zqv (a:Option Addr) (cap:Nat) (l:List Nat) (w:World) (hr:RowN .u8 w a cap l) (h256:∀ x ∈ l,x < 256) (hl:l.length <= 1000000) :
  Calls Tryz.prog 145 #[.slice a l.length cap] w fun e w'=>∃ g c,e = .returned (.slice g (usedG l).length c) /\ OwnN 5 .u8 w' w.heap.size g c (usedG l) /\ Below w.heap.size w w':=by
 have HR:=Zh hr
 have H256:=Zh h256
 obtain ⟨q,hq⟩:∃ q,w.heap.size = q:=⟨_,rfl⟩
 have HQ:=Zh hq
 obtain ⟨n,hn⟩:∃ n,l.length = n:=⟨_,rfl⟩
 have HLN:=Zh hn
 rw [hn] at hl ⊢
 clear hr h256 hn
 go_enter Tryz.func145,Tryz.ntmps145
 go_wp2_with (first | (at_make;refine makeB (n:=256) Zng rfl _ _ rfl w.heap.size rfl rfl (by omega) (by omega) (Nat.le_refl _) ?_;intro w1 hown1 hg1))
 have HB0:=Zh (Below.of_grown hg1 (Nat.le_refl _) (fun k e=>by cases e))
 rw [<- Zxk] at hown1
 have HO:=Zh hown1
 rw [hq] at HO HB0
 clear hg1 hown1 hq
 go_loopw [4] (fun iv A=>∃ i:Nat,i <= n /\ iv = .int .i64 (i:Nat) /\ Hid (OwnB A q (some ⟨q,0,none⟩) 256 (hasL (l.take i))) /\ Hid (Below q w A)) (fun iv _=>n - (intOf iv).toNat)
 case atStart=>exact ⟨0,Nat.zero_le _,rfl,HO.out,HB0.out⟩
 case round =>
  clear HO HB0
  obtain ⟨i,hi,rfl,HO,HB⟩:=hrel
  by_cases hlt:i < n
  ·have t0:decide (i < n) = true:=by simp;omega
   have hil:i < l.length:=by have:=HLN.out;omega
   obtain ⟨b,off,rfl,_,hc⟩:=(HR.out.below (HQ.out ▸ HB.out)).at hil
   have hx:=H256.out _ (List.getElem_mem hil)
   have HTS:Hid (l.take (i + 1) = l.take i ++ [l[i]]):=M04.Zbm l i hil
   generalize l[i] = x at *
   obtain ⟨⟨u,f1⟩,f2⟩:=OwnS.atB HO.out (i:=x) (by rw [Zhr];exact hx)
   have hstep:=OwnS.storedB HO.out x 1
   rw [Zti] at hstep
   have HS:Hid (OwnB (wr.setCell ⟨q,x,none⟩ (.bool true)) q (some ⟨q,0,none⟩) 256 (hasL (l.take i ++ [x]))):=hstep
   have HBS:=Zh (HB.out.setCell (p:=⟨q,x,none⟩) (Nat.le_refl q) (.bool true))
   clear hstep HO HB
   go_wp2_with fail
   go_roundw
   case rel=>exact ⟨i + 1,by omega,by go_num,by rw [HTS.out];exact HS.out,HBS.out⟩
   case measure=>simp [intOf];omega
  ·obtain rfl:i = n:=by omega
   have t0:decide (i < i) = false:=by simp
   rw [<- HLN.out,List.take_length] at HO
   have HQW:Hid (q <= wr.heap.size):=by have:=HB.out.size;have:=HQ.out;unfold Hid;omega
   have HRW:=Zh (OwnS.row HO.out)
   generalize wr = W at *
   go_wp2_with fail
   go_loopw [5,6] (fun lv cv A=>∃ (c:Nat) (g:Option Addr) (gc:Nat) (r:List Nat),c <= 256 /\ cv = .int .i64 (c:Nat) /\ lv = .slice g r.length gc /\ Hid (r = usedTo l c) /\ r.length <= c /\ Hid (OwnN 5 .u8 A W.heap.size g gc r) /\ Hid (Below W.heap.size W A)) (fun _ cv _=>256 - (intOf cv).toNat)
   case atStart=>exact ⟨0,none,0,[],Nat.zero_le _,rfl,rfl,rfl,Nat.le_refl _,OwnN.nil _ _ _ _,Below.refl _ _⟩
   case round =>
    obtain ⟨c,g,gc,r,hc,rfl,rfl,HRE,hrl,HG,HE⟩:=hrel
    by_cases hlt2:c < 256
    ·have t1:decide ((c:Int) < 256) = true:=by simp;omega
     have t1':decide (c < 256) = true:=by simp;omega
     obtain ⟨b,off,he,hb,hcc⟩:=(RowS.below HRW.out HE.out).atB (i:=c) (by rw [Zhr];exact hlt2)
     cases he
     rw [Zzv] at hcc
     rw [Nat.zero_add] at hcc
     have u1:(c:Int) % 256 = (c:Int):=by omega
     have HQ2:Hid (W.heap.size <= wr.heap.size):=HE.out.size
     have hrl2:r.length <= 256:=by omega
     have HRL:=Zh hrl
     clear hrl
     have HUS:=Zh (Zog l c)
     by_cases hm:c ∈ l
     ·rw [decide_eq_true hm] at hcc
      have HRE2:Hid (r ++ [c] = usedTo l (c + 1)):=by unfold Hid;rw [HUS.out,if_pos hm,<- HRE.out]
      clear hm
      go_wp2_with (at_builtin;refine app1N (y:=c) Zaz rfl (.tmp 28) (.tmp 31) rfl rfl HG.out rfl (by omega) (by omega) (by omega) (by omega) HQ2.out ?_;intro a7 c7 w7 hown7 hg7 hb7;have HO7:=Zh hown7;have HB7:=Zh hb7;clear hown7 hg7 hb7)
      go_roundw
      case rel=>exact ⟨c + 1,a7,c7,r ++ [c],by omega,by go_num,by rw [List.length_append];rfl,HRE2.out,by rw [List.length_append];have:=HRL.out;show r.length + 1 <= c + 1;omega,HO7.out,HE.out.trans HB7.out⟩
      case measure=>simp [intOf];omega
     ·rw [decide_eq_false hm] at hcc
      have HRE2:Hid (r = usedTo l (c + 1)):=by unfold Hid;rw [HUS.out,if_neg hm,<- HRE.out,List.append_nil]
      clear hm
      go_wp2_with fail
      go_roundw
      case rel=>exact ⟨c + 1,g,gc,r,by omega,by go_num,rfl,HRE2.out,by have:=HRL.out;omega,HG.out,HE.out⟩
      case measure=>simp [intOf];omega
    ·obtain rfl:c = 256:=by omega
     have t1:decide ((256:Int) < 256) = false:=by simp
     go_wp2_with fail
     go_ret
     rw [HQ.out]
     refine ⟨g,gc,by rw [HRE.out];rfl,?_,HB.out.trans (HE.out.mono HQW.out)⟩
     have:=HG.out.mono HQW.out
     rw [HRE.out] at this
     exact this
end Go.Proofs.YtnkpnjnfddjfpaaGreat

namespace Go.Proofs.YtnkpnjnfddjfpaaGreat
open Go.RowKit M04
set_option maxHeartbeats 400000 in
theorem Zip (a:Option Addr) (cap:Nat) (l:List Nat) (w:World) (hr:RowN .u8 w a cap l) :
  Calls Tryz.prog 208 #[.slice a l.length cap] w fun e w'=>e = .returned (.bool (mayB l)) /\ w = w':=by
 have hlen:=hr.len
 go_enter Tryz.func208,Tryz.ntmps208
 go_wp2
 go_loop [3] (fun i=>∃ k:Nat,k <= l.length /\ i = .int .i64 k /\ ∀ x ∈ l.take k,x <= 20) (fun i=>l.length - (intOf i).toNat)
 case atStart=>exact ⟨0,Nat.zero_le _,rfl,by simp⟩
 case round =>
  obtain ⟨k,hk,rfl,hall⟩:=hrel
  have HA:=Zh hall
  clear hall
  by_cases hlt:k < l.length
  ·obtain ⟨b,off,rfl,hb,hck⟩:=hr.at hlt
   clear hr
   by_cases hx:l[k] <= 20
   ·have H:Hid (∀ x ∈ l.take (k + 1),x <= 20):=by
     rw [Hid,Zbm l k hlt]
     intro x hm
     rcases List.mem_append.1 hm with hm | hm
     ·exact HA.out x hm
     ·simp at hm;omega
    generalize l[k] = x at *
    go_wp2
    go_round
    case rel=>exact ⟨k + 1,by omega,by go_num,H.out⟩
    case measure=>simp [intOf];omega
   ·have H:Hid (mayB l = false):=by
     show decide (May l) = false
     rw [decide_eq_false_iff_not]
     exact fun h=>hx (h.1 _ (List.getElem_mem hlt))
    generalize l[k] = x at *
    go_wp2
    go_ret
    exact ⟨Zhy H.out.symm,rfl⟩
  ·have H:Hid (mayB l = decide ((l.length:Int) <= 512)):=by
    have h2:l.take k = l:=List.take_of_length_le (by omega)
    have h3:=HA.out
    rw [h2] at h3
    show decide (May l) = _
    rw [decide_eq_decide,May]
    constructor
    ·intro h;omega
    ·intro h;exact ⟨h3,by omega⟩
   go_wp2
   go_ret
   exact ⟨Zhy H.out.symm,rfl⟩
theorem Zxz (k x:Nat) (h:k < x) (hx:x <= 20):2 ^ (20 - k) / 2 = 2 ^ (20 - (k + 1)):=by
 have:20 - k = (20 - (k + 1)) + 1:=by omega
 rw [this,Nat.pow_succ];omega
set_option maxHeartbeats 400000 in
theorem Zhg (a:Option Addr) (cap:Nat) (l:List Nat) (w:World) (hr:RowN .u8 w a cap l) (hm:May l) :
  Calls Tryz.prog 209 #[.slice a l.length cap] w fun e w'=>e = .returned (.int .i64 (weight l)) /\ w = w':=by
 have hlen:=hr.len
 obtain ⟨hl,hn⟩:=hm
 go_enter Tryz.func209,Tryz.ntmps209
 go_wp2
 go_loop [3,4] (fun t i=>∃ k:Nat,k <= l.length /\ i = .int .i64 k /\ t = .int .i64 (weight (l.take k))) (fun _ i=>l.length - (intOf i).toNat)
 case atStart=>exact ⟨0,Nat.zero_le _,rfl,rfl⟩
 case round =>
  obtain ⟨k,hk,rfl,rfl⟩:=hrel
  by_cases hlt:k < l.length
  ·obtain ⟨b,off,rfl,hb,hck⟩:=hr.at hlt
   clear hr
   have hx:=hl _ (List.getElem_mem hlt)
   have H:=Zh (Ziy l k hlt)
   have hw:weight (l.take k) <= 512 * 2 ^ 20:=Zcj l k hn
   clear hl
   generalize l[k] = x at *
   generalize weight (l.take k) = s at *
   by_cases h0:x = 0
   ·subst h0
    go_wp2
    go_round
    case rel=>exact ⟨k + 1,by omega,by go_num,Zbg (by rw [H.out];simp [wt])⟩
    case measure=>simp [intOf];omega
   ·have hx0:0 < x:=by omega
    clear h0
    go_wp2
    go_loop [5,6] (fun p j=>∃ m:Nat,m <= x /\ j = .int .i64 m /\ p = .int .i64 ((2 ^ (20 - m):Nat):Int)) (fun _ j=>x - (intOf j).toNat)
    case atStart=>exact ⟨0,Nat.zero_le _,rfl,by simp⟩
    case round =>
     obtain ⟨m,hm,rfl,rfl⟩:=hrel
     have hp:2 ^ (20 - m) <= 2 ^ 20:=Nat.pow_le_pow_right (by simp) (by omega)
     by_cases hmx:m < x
     ·have HP:=Zh (Zxz m x hmx hx)
      generalize (2:Nat) ^ (20 - m) = p at *
      go_wp2
      go_round
      case rel=>exact ⟨m + 1,by omega,by go_num,Zbg (by rw [<- HP.out];omega)⟩
      case measure=>simp [intOf];omega
     ·obtain rfl:m = x:=by omega
      have HW:Hid (wt m = 2 ^ (20 - m)):=by rw [Hid,wt,if_neg (by omega)]
      generalize (2:Nat) ^ (20 - m) = p at *
      go_wp2
      go_round
      case rel=>exact ⟨k + 1,by omega,by go_num,Zbg (by rw [H.out,HW.out];simp)⟩
      case measure=>simp [intOf];omega
  ·go_wp2
   go_ret
   exact ⟨Zit (by rw [List.take_of_length_le (by omega)]),rfl⟩
set_option maxHeartbeats 400000 in
theorem Ziq (a:Option Addr) (cap:Nat) (l:List Nat) (w:World) (hr:RowN .u8 w a cap l) :
  Calls Tryz.prog 185 #[.slice a l.length cap] w (WordsOut w l):=by
 have hlen:=hr.len
 by_cases hm:May l
 case neg =>
  have hB:mayB l = false:=by simp [mayB,hm]
  have H:Hid (wordsE l = ([],5)):=by simp [Hid,wordsE,hm]
  clear hm
  go_enter Tryz.func185,Tryz.ntmps185
  go_wp2_with (go_at_call 208;refine (Zip _ _ _ _ hr).mono ?_;rintro e w' ⟨rfl,rfl⟩)
  go_ret2
  unfold WordsOut
  rw [H.out]
  exact ⟨none,0,rfl,OwnN.nil _ _ _ _,Below.refl _ _⟩
 have hB:mayB l = true:=by simp [mayB,hm]
 have hw:weight l <= 512 * 2 ^ 20:=by have:=Zcj l l.length hm.2;simpa using this
 by_cases ho:2 ^ 20 < weight l
 ·have b1:decide (1048576 < (weight l:Int)) = true:=by simp;omega
  have H:Hid (wordsE l = ([],2)):=by simp only [Hid,wordsE,hm,ho,not_true,if_false,if_true]
  have HM:=Zh hm
  clear hm ho
  go_enter Tryz.func185,Tryz.ntmps185
  go_wp2_with (first | (go_at_call 208;refine (Zip _ _ _ _ hr).mono ?_;rintro e w' ⟨rfl,rfl⟩) | (go_at_call 209;refine (Zhg _ _ _ _ hr HM.out).mono ?_;rintro e w' ⟨rfl,rfl⟩))
  go_ret2
  unfold WordsOut
  rw [H.out]
  exact ⟨none,0,rfl,OwnN.nil _ _ _ _,Below.refl _ _⟩
 ·have b1:decide (1048576 < (weight l:Int)) = false:=by simp;omega
  have H:Hid (wordsE l = (words l,0)):=by simp only [Hid,wordsE,hm,ho,not_true,if_false]
  have HM:=Zh hm
  have h512:l.length <= 512:=hm.2
  have HO:weight l <= 2 ^ 20:=by omega
  clear hm ho
  go_enter Tryz.func185,Tryz.ntmps185
  go_wp2_with (first | (go_at_call 208;refine (Zip _ _ _ _ hr).mono ?_;rintro e w' ⟨rfl,rfl⟩) | (go_at_call 209;refine (Zhg _ _ _ _ hr HM.out).mono ?_;rintro e w' ⟨rfl,rfl⟩) | (at_make;refine makeN Zyv rfl _ _ rfl w.heap.size rfl rfl (by omega) (by omega) (Nat.le_refl _) ?_;intro w1 hown hg))
  go_loopw [5,6] (fun at_ n wr=>∃ k:Nat,1 <= k /\ k <= 21 /\ n = .int .i64 k /\ at_ = .int .u32 (acc l k 0) /\ OwnN 46 .u32 wr w.heap.size (some ⟨w.heap.size,0,none⟩) l.length (outs l k 0) /\ Below w.heap.size w wr) (fun _ n _=>21 - (intOf n).toNat)
  case atStart=>exact ⟨1,by omega,by omega,rfl,by rw [Zrt];rfl,by rw [Zpb];exact hown,(Below.refl _ _).grown hg (Nat.le_refl _) (fun k h=>by cases h)⟩
  case round =>
   obtain ⟨n,h1,h21,rfl,rfl,hown,hbel⟩:=hrel
   clear hg
   by_cases hn:n <= 20
   ·go_wp2
    go_loopw [5,7] (fun at_ i wr=>∃ k:Nat,k <= l.length /\ i = .int .i64 k /\ at_ = .int .u32 (acc l n k) /\ OwnN 46 .u32 wr w.heap.size (some ⟨w.heap.size,0,none⟩) l.length (outs l n k) /\ Below w.heap.size w wr) (fun _ i _=>l.length - (intOf i).toNat)
    case atStart=>exact ⟨0,by omega,rfl,rfl,hown,hbel⟩
    case round =>
     clear hown hbel
     obtain ⟨k,hk,rfl,rfl,hown,hbel⟩:=hrel
     by_cases hlt:k < l.length
     ·obtain ⟨b,off,rfl,hb,hck⟩:=(hr.below hbel).at hlt
      obtain ⟨g,he,hg1,hg2,hog,hof⟩:=hown.at (i:=k) (by rw [Znt];exact hlt)
      simp only [Option.some.injEq,Addr.mk.injEq,and_true] at he
      subst he
      have hx20:=HM.out.1 _ (List.getElem_mem hlt)
      have hal:acc l n k <= 2 ^ 20:=Nat.le_trans (Zrs _ _ _) HO
      by_cases hx:l[k] = n
      ·have HA:=Zh (Znd l n k (by omega) hlt hx)
       have HU:=Zh (Zpa l n k (by omega) hlt hx)
       have hb2:l[k] <= n:=by omega
       have hb3:n <= l[k]:=by omega
       clear hx
       generalize l[k] = x at *
       generalize acc l n k = s at *
       go_wp2
       go_roundw
       case rel =>
        have hp:2 ^ (20 - n) <= 2 ^ 20:=Nat.pow_le_pow_right (by simp) (by omega)
        refine ⟨k + 1,by omega,by go_num,Zbg ?_,?_,hbel.setCell (p:=⟨w.heap.size,k,none⟩) (Nat.le_refl _) _⟩
        ·rw [HA.out]
         have h2:(2:Int) ^ (20 - n) = ((2 ^ (20 - n):Nat):Int):=by simp
         rw [h2]
         generalize (2:Nat) ^ (20 - n) = p at *
         omega
        ·rw [HU.out]
         have:=(hown.stored k (s / 2 ^ (20 - n))).1
         simpa using this
       case measure=>simp [intOf];omega
      ·have HA:=Zh (Zok l n k hlt hx)
       have HU:=Zh (Zlz l n k hlt hx)
       generalize l[k] = x at *
       generalize acc l n k = s at *
       go_wp2
       go_roundw
       case rel=>exact ⟨k + 1,by omega,by go_num,by rw [HA.out],by rw [HU.out];exact hown,hbel⟩
       case measure=>simp [intOf];omega
     ·obtain rfl:k = l.length:=by omega
      have HA:=Zh (Zru l n)
      have HU:=Zh (Zku l n)
      go_wp2
      go_roundw
      case rel=>exact ⟨n + 1,by omega,by omega,by go_num,by rw [HA.out],by rw [<- HU.out];exact hown,hbel⟩
      case measure=>simp [intOf];omega
   ·obtain rfl:n = 21:=by omega
    go_wp2
    go_ret2
    unfold WordsOut
    rw [H.out]
    have h3:=Zoz l HM.out.1
    refine ⟨some ⟨w.heap.size,0,none⟩,l.length,?_,by rw [<- h3];exact hown,hbel⟩
    simp [Zbn]
end Go.Proofs.YtnkpnjnfddjfpaaGreat

namespace Go.Proofs.YtnkpnjnfddjfpaaGreat
open Go.RowKit Go.Maps M06
theorem Zyl:laidOutB Tryz.prog = true:=by kernel_rfl
theorem Zpq:(192:TypeId) < Tryz.prog.types.size:=of_decide_eq_true (by kernel_rfl)
theorem Zwb:(match Tryz.prog.underlying 192 with | some (.array _ _) | some (.struct _)=>true | _=>false) = true:=by rw [Tryz.underlying192]
set_option maxRecDepth 100000 in
theorem Zgl:Keyed Tryz.prog 192:=Keyed.of_law (deep_law_laid Zyl (m:=2) (by omega) Zpq (by kernel_rfl) Zwb)
theorem Zwa:Tryz.prog.keyType 192 = true:=by kernel_rfl
def wordV (x k:Nat):Value:=.agg #[.int .u32 (x:Nat),.int .u8 (k:Nat)]
theorem Zsk {x m:Nat} (h:x < m + 1):(x:Int) <= (m:Int):=Int.ofNat_le.2 (Nat.le_of_lt_succ h)
theorem Zpp (x k:Nat) (hx:x < 4294967296) (hk:k < 256):∃ kl,keyOf Tryz.prog 192 (wordV x k) = some kl:=by
 have c101:Tryz.prog.cellsOf 192 = 2:=by kernel_rfl
 have c36:Tryz.prog.cellsOf 46 = 1:=by kernel_rfl
 have c5:Tryz.prog.cellsOf 5 = 1:=by kernel_rfl
 obtain ⟨m,hm⟩:∃ m,Tryz.prog.types.size = m + 1:=by
  have h:=Zpq
  revert h
  generalize Tryz.prog.types.size = n
  intro h
  cases n with
  | zero=>exact absurd h (Nat.not_lt_zero _)
  | succ n=>exact ⟨n,rfl⟩
 have wx:(Lit.int .u32 (x:Int)).wf = true:=WalkArith.wf_u32 ⟨Int.natCast_nonneg _,Zsk (m:=4294967295) hx⟩
 have wk:(Lit.int .u8 (k:Int)).wf = true:=WalkArith.wf_u8 ⟨Int.natCast_nonneg _,Zsk (m:=255) hk⟩
 refine ⟨.string (keyBytes [.int .u32 (x:Int),.int .u8 (k:Int)]),?_⟩
 unfold keyOf wordV
 simp only [Tryz.underlying192]
 rw [if_pos (by simp [Zwa,Value.formed,Tryz.underlying192,c101]),hm]
 unfold Program.keyLits
 simp only [Tryz.underlying192,Value.cells]
 rw [if_pos ⟨by rw [c101];rfl,by decide +kernel⟩]
 simp [c36,c5,Program.keyLits,Tryz.underlying46,Tryz.underlying5,wx,wk]
theorem Zyr {x k x' k':Nat} (h:wordV x k = wordV x' k'):x = x' /\ k = k':=by
 unfold wordV at h
 simp only [Value.agg.injEq,Array.mk.injEq,List.cons.injEq,Value.int.injEq,true_and,and_true] at h
 omega
theorem zeroInt (w:World):(zeroValue 3).run Tryz.prog w = .ok (.int .i64 0) w:=by kernel_rfl
def MapF (w:World) (b n:Nat) (F:Nat -> Nat -> Option Int):Prop :=
 ∃ D:DataW Unit,w.ownsMap Tryz.prog 192 (plainElem Tryz.prog 3) b n D /\ IsMap D ∧
  ∀ x k kl,keyOf Tryz.prog 192 (wordV x k) = some kl -> Maps.has D kl = (F x k).isSome /\ D.atKey kl (.lit (.int .i64 0)) = .lit (.int .i64 ((F x k).getD 0))
theorem Ztq (w:World):MapF (w.alloc (.map #[] 0)) w.heap.size 0 (fun _ _=>none) :=
 ⟨.map [],World.ownsMap_made _ _ _ _,isMap_empty,fun x k kl _=>⟨rfl,rfl⟩⟩
theorem MapF.kept {w w':World} {b n:Nat} {F:Nat -> Nat -> Option Int} {row:Option Nat} (h:MapF w b n F) (hg:w.grownBy w' row) (hne:some b ≠ row):MapF w' b n F:=by
 obtain ⟨D,h1,h2⟩:=h
 exact ⟨D,h1.kept hg hne,h2⟩
theorem MapF.lt {w:World} {b n:Nat} {F:Nat -> Nat -> Option Int} (h:MapF w b n F):b < w.heap.size:=by
 obtain ⟨D,h1,_⟩:=h
 exact h1.lt
theorem MapF.look {w:World} {b n:Nat} {F:Nat -> Nat -> Option Int} (h:MapF w b n F) (x k:Nat) (hx:x < 4294967296) (hk:k < 256) :
  (Instr.lookup 188 (.map (some b)) (wordV x k) true).run Tryz.prog w = .ok (.tuple #[.int .i64 ((F x k).getD 0),.bool (F x k).isSome]) w:=by
 obtain ⟨D,h1,_,h2⟩:=h
 obtain ⟨kl,hkl⟩:=Zpp x k hx hk
 obtain ⟨v,ps,hrun,hv⟩:=h1.look_ok Zgl Tryz.underlying188 (zeroInt w) (plainElem_int Tryz.underlying3 (by decide)) hkl
 obtain ⟨g1,g2⟩:=h2 x k kl hkl
 obtain ⟨c,rfl,hc,_⟩:=plainElem_int_inv Tryz.underlying3 hv
 simp only [Prod.mk.injEq] at hc
 rw [g2] at hc
 have hcc:(F x k).getD 0 = c:=by
  have:=hc.1
  simpa using this
 rw [hrun,g1,hcc]
theorem MapF.put {w:World} {b n:Nat} {F:Nat -> Nat -> Option Int} (h:MapF w b n F) (hn:n < maxLen) (x k:Nat) (v:Int) (hx:x < 4294967296) (hk:k < 256) (hv:-1000000 <= v /\ v <= 1000000) :
  ∃ w',(Instr.mapUpdate 188 (.map (some b)) (wordV x k) (.int .i64 v)).run Tryz.prog w = .ok () w' /\ MapF w' b (n + 1) (putF F x k v) /\ w.grownBy w' (some b):=by
 obtain ⟨D,h1,hD,h2⟩:=h
 obtain ⟨kl,hkl⟩:=Zpp x k hx hk
 have wv:(Lit.int .i64 v).wf = true:=WalkArith.wf_i64 (by omega)
 obtain ⟨w',hrun,hown,hg⟩:=h1.update Zgl Tryz.underlying188 hn hkl (plainElem_int Tryz.underlying3 wv)
 refine ⟨w',hrun,⟨_,hown,hD.put _ _,fun x' k' kl' hkl'=>?_⟩,hg⟩
 unfold putF
 by_cases he:kl' = kl
 ·subst he
  have:=Zgl.inj hkl' hkl
  obtain ⟨rfl,rfl⟩:=Zyr this
  rw [if_pos ⟨rfl,rfl⟩]
  exact ⟨by rw [has_put_same hD (Zgl.key hkl)];rfl,atKey_put_same hD (Zgl.key hkl) _ _⟩
 ·have hne:¬ (x' = x /\ k' = k):=fun ⟨h3,h4⟩=>by
   subst h3 h4
   rw [hkl] at hkl'
   exact he (Option.some.inj hkl').symm
  rw [if_neg hne]
  obtain ⟨g1,g2⟩:=h2 x' k' kl' hkl'
  exact ⟨by rw [has_put_other he];exact g1,by rw [atKey_put_other he];exact g2⟩
end Go.Proofs.YtnkpnjnfddjfpaaGreat

namespace Go.Proofs.YtnkpnjnfddjfpaaGreat
open Go.RowKit Go.Shelf M04 M06
theorem RowN.keptR {k:IntKind} {w w':World} {a:Option Addr} {cap:Nat} {l:List Nat} {row:Option Nat} (h:RowN k w a cap l) (hg:w.grownBy w' row) (hr:∀ x,a = some x -> row ≠ some x.block):RowN k w' a cap l:=by
 obtain ⟨h1,h2,h3⟩:=h
 refine ⟨h1,h2,?_⟩
 rcases h3 with h3 | ⟨b,off,rfl,hb',hc⟩
 ·exact .inl h3
 ·exact .inr ⟨b,off,rfl,Nat.lt_of_lt_of_le hb' hg.size,fun i hi=>(World.cell?_of_block (a:=⟨b,off + i,none⟩) (hg.block b hb' (fun e=>hr _ rfl e.symm))).trans (hc i hi)⟩
theorem Zvz (l:List Nat) (i:Nat) (hi:i < l.length) (h20:∀ x ∈ l,x <= 20) (hw:weight l <= 2 ^ 20):word l i < 2 ^ 20:=by
 have h:=Zkl l i hi h20 hw
 have h2:word l i < 2 ^ l.getD i 0:=by
  rcases Nat.lt_or_ge (word l i) (2 ^ l.getD i 0) with h3 | h3
  ·exact h3
  ·have:=Nat.div_pos h3 (Nat.pow_pos (by decide))
   omega
 exact Nat.lt_of_lt_of_le h2 (Nat.pow_le_pow_right (by decide) (Zfa h20 i))
theorem Zna (j m:Nat) (h:j < m) (hm:m <= 20):min (IntKind.u8.wrap (m - j:Int)).toNat 32 = m - j:=by
 have h2:IntKind.u8.wrap (m - j:Int) = ((m - j:Nat):Int):=by
  unfold IntKind.wrap IntKind.signed IntKind.bits
  simp only [Bool.false_and]
  rw [if_neg (by decide)]
  omega
 rw [h2]
 omega
theorem Zjs {w w':World} {row:Option Nat} (h:w.grownBy w' row):w.grownBy w'.drew row:=⟨h.os,h.tape,h.output,h.size,h.block⟩
theorem cells3' {w:World} {b:Nat} {x y z:Value} {t:TypeId} (h:w.heap[b]? = some (.cells #[x,y,z] t (0,0))):w.cell? ⟨b,2,none⟩ = some z:=by
 simp [World.cell?,h]
theorem Zja {ops:Array Oper} {rest:List Oper} {o:Oper} {ac:Act} {w:World} {Q:Exit -> Act -> World -> Prop} {b n X k:Nat} {F:TF} {v:Int} (hgd:o.guard = none) (mo xo vo:Operand) (hop:o.op = Op.mapUpdate 188 mo xo vo)
  (hm:ac.eval mo = .map (some b)) (hx:ac.eval xo = wordV X k) (hv:ac.eval vo = .int .i64 v) (h:MapF w b n F) (hn:n < 1000000) (hX:X < 4294967296) (hk:k < 256) (hb:-1000000 <= v /\ v <= 1000000)
  (hK:∀ w',MapF w' b (n + 1) (putF F X k v) -> w.grownBy w' (some b) -> wpList Tryz.prog ops Q rest (ac.put o.dst undef) w'):wpList Tryz.prog ops Q (o :: rest) ac w:=by
 refine wpList_plain hgd fun K hK'=>?_
 obtain ⟨w',hrun,h1,h2⟩:=h.put (by unfold maxLen;omega) X k v hX hk hb
 unfold Oper.wp
 simp [execOp,hop,hm,hx,hv,hrun,Result.andThen]
 exact hK' _ _ (hK w' h1 h2)
def Tb (lo hi:Nat) (w:World) (p:Nat) (l:List Nat):Prop :=
 ∃ a1 c1 a2 c2 mb n,w.heap[p]? = some (.cells #[.slice a1 l.length c1,.slice a2 l.length c2,.map (some mb)] 190 (0,0)) /\ RowN .u8 w a1 c1 l /\ RowN .u32 w a2 c2 (words l) /\ MapF w mb n (tabI l (words l) l.length) /\ hi <= w.heap.size ∧
  (lo <= p /\ p < hi) /\ (lo <= mb /\ mb < hi) /\ (∀ x,a1 = some x -> lo <= x.block /\ x.block < hi) /\ (∀ x,a2 = some x -> lo <= x.block /\ x.block < hi)
theorem MapF.same {w w':World} {b n:Nat} {F:Nat -> Nat -> Option Int} (h:MapF w b n F) (hs:w'.heap[b]? = w.heap[b]?):MapF w' b n F:=by
 obtain ⟨D,⟨es,clock,hb,h1⟩,h2⟩:=h
 exact ⟨D,⟨es,clock,hs.trans hb,h1⟩,h2⟩
theorem Tb.only {T:Nat -> Prop} {lo hi p:Nat} {w w':World} {l:List Nat} (h:Tb lo hi w p l) (ho:Only T w w') (hT:∀ b,lo <= b -> b < hi -> ¬ T b):Tb lo hi w' p l:=by
 obtain ⟨a1,c1,a2,c2,mb,n,h1,h2,h3,h4,hs,hp,hm,h5,h6⟩:=h
 refine ⟨a1,c1,a2,c2,mb,n,Zad h1 ho (hT p hp.1 hp.2),?_,?_,h4.same (ho.block mb (by omega) (hT mb hm.1 hm.2)),Nat.le_trans hs ho.size,hp,hm,h5,h6⟩
 ·exact h2.same ho.size (fun x h0 hx=>ho.block _ (by have:=(h5 x hx).2;omega) (hT _ (h5 x hx).1 (h5 x hx).2))
 ·exact h3.same ho.size (fun x h0 hx=>ho.block _ (by have:=(h6 x hx).2;omega) (hT _ (h6 x hx).1 (h6 x hx).2))
set_option maxRecDepth 100000 in
set_option maxHeartbeats 1600000 in
theorem Zkb (a:Option Addr) (cap:Nat) (l:List Nat) (w:World) (hr:RowN .u8 w a cap l) :
  Calls Tryz.prog 70 #[.slice a l.length cap] w fun e w'=>Below w.heap.size w w' /\ if (wordsE l).2 = 0 then ∃ p,e = .returned (.tuple #[.pointer (some ⟨p,0,none⟩),.int .i64 0]) /\ Tb w.heap.size w'.heap.size w' p l else e = .returned (.tuple #[.pointer none,.int .i64 (wordsE l).2]):=by
 by_cases hm:May l /\ weight l <= 2 ^ 20
 case neg =>
  have he:(wordsE l).2 = 5 \/ (wordsE l).2 = 2:=by
   unfold wordsE
   by_cases h1:May l
   ·rw [if_neg (by simpa using h1),if_pos (by rw [not_and] at hm;have:=hm h1;omega)];exact .inr rfl
   ·rw [if_pos h1];exact .inl rfl
  have HE:=Zh he
  have H0:Hid ((wordsE l).2 ≠ 0):=by unfold Hid;omega
  have HW:=Zh (Zii a cap l w hr)
  clear hm he
  generalize hwe:wordsE l = we at *
  obtain ⟨w1l,er⟩:=we
  have HWE:=Zh hwe
  clear hwe
  have hb:(er == 0) = false:=by have:=H0.out;simpa using this
  go_enter Tryz.func70,Tryz.ntmps70
  go_wp2_with fail
  refine HW.out.mono ?_
  rintro e w1 ⟨a1,c1,rfl,_,hb1⟩
  rw [HWE.out]
  rcases HE.out with h5 | h5
  ·obtain rfl:er = 5:=h5
   go_wp2
   go_ret2
   exact ⟨hb1,rfl⟩
  ·obtain rfl:er = 2:=h5
   go_wp2
   go_ret2
   exact ⟨hb1,rfl⟩
 obtain ⟨hmay,hwt⟩:=hm
 have hwe:wordsE l = (words l,0):=by
  unfold wordsE
  rw [if_neg (by simpa using hmay),if_neg (by omega)]
 have h512:=hmay.2
 have H20:=Zh hmay.1
 have HWT:=Zh hwt
 have HW:=Zh (Zii a cap l w hr)
 unfold WordsOut at HW
 rw [hwe,Zbn] at HW
 rw [hwe]
 simp only [if_true]
 clear hwe hmay hwt
 go_enter Tryz.func70,Tryz.ntmps70
 go_wp2_with fail
 refine HW.out.mono ?_
 rintro e w1 ⟨a1,c1,rfl,ho1,hb1⟩
 clear HW
 have HO1:=Zh ho1
 have HB1:=Zh hb1
 clear ho1 hb1
 go_wp2_with fail
 refine (Zhj w1 a cap l (hr.below HB1.out) (by omega)).mono ?_
 rintro e w2 ⟨a2,c2,rfl,ho2,hb2⟩
 have HO2:=Zh ho2
 have HB2:=Zh (HB1.out.trans (hb2.mono HB1.out.size))
 have HOW:=Zh (HO1.out.below hb2)
 clear ho2 hb2 HO1
 have hmm:=@run_makeMap Tryz.prog
 go_wp2_with fail
 obtain ⟨W0,hW0⟩:∃ W0,(w2.alloc (.map #[] 0)).alloc (.cells #[.slice a2 l.length c2,.slice a1 l.length c1,.map (some w2.heap.size)] 190) = W0:=⟨_,rfl⟩
 have hz0:W0.heap.size = w2.heap.size + 2:=by rw [<- hW0];simp
 have hp0:W0.heap[w2.heap.size + 1]? = some (.cells #[.slice a2 l.length c2,.slice a1 l.length c1,.map (some w2.heap.size)] 190 (0,0)):=by
  rw [<- hW0];have:=World.alloc_heap_new (w2.alloc (.map #[] 0)) (.cells #[.slice a2 l.length c2,.slice a1 l.length c1,.map (some w2.heap.size)] 190);rwa [World.size_alloc] at this
 have hb0:Below w2.heap.size w2 W0:=by rw [<- hW0];exact ((Below.refl _ _).alloc (Nat.le_refl _) _).alloc (by simp) _
 have hM0:MapF W0 w2.heap.size 0 (fun _ _=>none):=by rw [<- hW0];exact (Ztq w2).kept (World.grownBy_alloc _ _ none) (by simp)
 simp only [hW0]
 have hO0:=HOW.out.below hb0
 have hL0:=HO2.out.below hb0
 have hB0:Below w.heap.size w W0:=HB2.out.trans (hb0.mono HB2.out.size)
 have hr0:=hr.below hB0
 have hsz:=HB2.out.size
 have hne:∀ {base cap:Nat} {a:Option Addr} {k:IntKind} {E:TypeId} {L:List Nat},OwnN E k w2 base a cap L -> ∀ x,a = some x -> base <= x.block /\ x.block < w2.heap.size:=by
  intro base cap a k E L h x hx
  rcases h.form with ⟨h1,_⟩ | ⟨g,h1,hb,h2⟩
  ·rw [h1] at hx;cases hx
  ·rw [h1] at hx;cases hx;exact ⟨hb,h2⟩
 have hnw:∀ x,a1 = some x -> w.heap.size <= x.block /\ x.block < w2.heap.size:=hne HOW.out
 have hnl:∀ x,a2 = some x -> w.heap.size <= x.block /\ x.block < w2.heap.size:=fun x hx=>⟨Nat.le_trans HB1.out.size (hne HO2.out x hx).1,(hne HO2.out x hx).2⟩
 have hna:∀ x,0 < l.length -> a = some x -> x.block < w.heap.size:=fun x h0 hx=>by
  obtain ⟨b',off,he,hlt,_⟩:=hr.at h0
  rw [hx] at he;cases he;exact hlt
 have HNW:=Zh hnw
 have HNL:=Zh hnl
 have HNA:=Zh hna
 have HP0:=Zh hp0
 have HB0:=Zh hB0
 have HR0:=Zh hr0
 have HRW:=Zh hO0.row
 have HRL:=Zh hL0.row
 have HM0:=Zh hM0
 generalize hmbd:w2.heap.size = mb at *
 clear hW0 hp0 hb0 hM0 hO0 hL0 hB0 hr0 hne hnw hnl hna HO2 HOW hmm HB2
 go_loopw [7,8,9,26,45] (fun _ _ _ i _ A=>∃ k:Nat,k <= l.length /\ i = .int .i64 k /\ W0.grownBy A (some mb) /\ ∃ n,n <= k * 32 /\ MapF A mb n (tabI l (words l) k)) (fun _ _ _ i _ _=>l.length - (intOf i).toNat)
 case atStart=>exact ⟨0,by omega,rfl,⟨rfl,rfl,rfl,Nat.le_refl _,fun _ _ _=>rfl⟩,0,by omega,HM0.out⟩
 case round =>
  obtain ⟨k,hk,rfl,hg,n,hn,hM⟩:=hrel
  have HG:=Zh hg
  have HM:=Zh hM
  clear hg hM
  by_cases hlt:k < l.length
  ·obtain ⟨b,off,rfl,hb,hck⟩:=HR0.out.at hlt
   have hbw:b < w.heap.size:=HNA.out _ (by omega) rfl
   have hck':wr.cell? ⟨b,off + k,none⟩ = some (.int .u8 (l[k]:Nat)):=(World.cell?_of_block (a:=⟨b,off + k,none⟩) (HG.out.block b hb (by intro e;cases e;omega))).trans hck
   have hx20:=H20.out _ (List.getElem_mem hlt)
   have hgl:l.getD k 0 = l[k]:=by simp [hlt]
   have HI:=Zh (show tabI l (words l) (k + 1) = if l.getD k 0 = 0 then tabI l (words l) k else tabK ((words l).getD k 0) (l.getD k 0) (putF (tabI l (words l) k) ((words l).getD k 0) (l.getD k 0) k) (l.getD k 0) from rfl)
   by_cases hx0:l[k] = 0
   ·have HI0:Hid (tabI l (words l) (k + 1) = tabI l (words l) k):=by rw [Hid,HI.out,if_pos (by rw [hgl];exact hx0)]
    rw [hx0] at hck'
    clear hck hx0 hgl hx20 HI
    go_wp2
    go_roundw
    case rel=>exact ⟨k + 1,by omega,by go_num,HG.out,n,by omega,by rw [HI0.out];exact HM.out⟩
    case measure=>simp [intOf];omega
   ·have hwl:=Zvz l k hlt H20.out HWT.out
    have hgw:(words l).getD k 0 = word l k:=by simp [words,hlt]
    have HI1:Hid (tabI l (words l) (k + 1) = tabK (word l k) l[k] (putF (tabI l (words l) k) (word l k) l[k] k) l[k]):=by rw [Hid,HI.out,if_neg (by rw [hgl];exact hx0),hgw,hgl]
    obtain ⟨bw,ow,rfl,hbw2,hcw⟩:=HRW.out.at (i:=k) (by rw [Zbn];exact hlt)
    rw [Zdx] at hcw
    have hbwl:bw < mb:=(HNW.out _ rfl).2
    have HCW:=Zh hcw
    have hcw':wr.cell? ⟨bw,ow + k,none⟩ = some (.int .u32 (word l k:Nat)):=(World.cell?_of_block (a:=⟨bw,ow + k,none⟩) (HG.out.block bw hbw2 (by intro e;cases e;omega))).trans hcw
    have hpt:wr.cell? ⟨mb + 1,2,none⟩ = some (.map (some mb)):=by
     have:=(HG.out.block (mb + 1) (by omega) (by intro e;cases e)).trans HP0.out
     exact (cells3' this)
    have b0:((l[k]:Int) == 0) = false:=by simp;omega
    clear hck hcw hx0 hgl HI hgw
    generalize word l k = x at *
    generalize l[k] = m at *
    go_wp2_with fail
    go_still_tail 11,(by kernel_rfl)
    change wpList _ _ _ _ _ wr.drew
    refine Zja (b:=mb) (n:=n) (X:=x) (k:=m) (v:=(k:Int)) (F:=tabI l (words l) k) rfl (.tmp 36) (.tmp 42) (.tmp 43) rfl rfl rfl rfl HM.out (by omega) (Nat.lt_trans hwl (by decide)) (by omega) (by omega) ?_
    intro w5 hM5 hg5
    have HG5:=Zh (show W0.grownBy w5 (some mb) from (Zjs HG.out).trans hg5)
    have HM5:=Zh hM5
    clear hM5 hg5 HG HM hcw' hpt hck'
    generalize putF (tabI l (words l) k) x m k = F0 at *
    go_wp2_with fail
    go_loopw [9,45] (fun _ i A=>∃ j:Nat,j <= m /\ i = .int .u8 j /\ W0.grownBy A (some mb) /\ MapF A mb (n + 1 + j) (tabK x m F0 j)) (fun _ i _=>m - (intOf i).toNat)
    case atStart=>exact ⟨0,by omega,rfl,HG5.out,HM5.out⟩
    case round =>
     clear HG5 HM5
     obtain ⟨j,hj,rfl,hg,hM⟩:=hrel
     have HG:=Zh hg
     have HM:=Zh hM
     clear hg hM
     by_cases hjl:j < m
     ·have hcw':wr.cell? ⟨bw,ow + k,none⟩ = some (.int .u32 (x:Nat)):=(World.cell?_of_block (a:=⟨bw,ow + k,none⟩) (HG.out.block bw hbw2 (by intro e;cases e;omega))).trans HCW.out
      have hpt:wr.cell? ⟨mb + 1,2,none⟩ = some (.map (some mb)):=by
       have:=(HG.out.block (mb + 1) (by omega) (by intro e;cases e)).trans HP0.out
       exact (cells3' this)
      go_wp2_with fail
      go_still_tail 14,(by kernel_rfl)
      change wpList _ _ _ _ _ wr.drew
      refine Zja (b:=mb) (n:=n + 1 + j) (X:=x / 2 ^ (m - j)) (k:=j) (v:=-1) (F:=tabK x m F0 j) rfl (.tmp 51) (.tmp 61) (.const (.int .i64 (-1))) rfl rfl ?hx rfl HM.out (by omega) (Nat.lt_of_le_of_lt (Nat.div_le_self _ _) (Nat.lt_trans hwl (by decide))) (by omega) (by omega) ?_
      case hx =>
       show _ = wordV _ _
       unfold wordV
       refine congrArg (fun z=>Value.agg #[z,_]) ?_
       rw [Zna j m hjl hx20]
       exact congrArg (Value.int IntKind.u32) (by rw [Int.natCast_ediv,Int.natCast_pow];rfl)
      intro w6 hM6 hg6
      have HG6:=Zh (show W0.grownBy w6 (some mb) from (Zjs HG.out).trans hg6)
      have HM6:=Zh hM6
      clear hM6 hg6 HG HM hcw' hpt
      go_wp2
      go_roundw
      case rel=>exact ⟨j + 1,by omega,by go_num,HG6.out,HM6.out⟩
      case measure=>simp [intOf];omega
     ·obtain rfl:j = m:=by omega
      go_wp2
      go_roundw
      case rel=>exact ⟨k + 1,by omega,by go_num,HG.out,n + 1 + j,by omega,by rw [HI1.out];exact HM.out⟩
      case measure=>simp [intOf];omega
  ·obtain rfl:k = l.length:=by omega
   go_wp2
   go_ret2
   have hwz:=HG.out.size
   refine ⟨HB0.out.trans (Below.of_grown HG.out HB0.out.size (by intro x hx;cases hx;exact hsz)),mb + 1,rfl,⟨a2,c2,a1,c1,mb,n,?_,?_,?_,HM.out,Nat.le_refl _,⟨by omega,by omega⟩,⟨hsz,by omega⟩,?_,?_⟩⟩
   ·exact (HG.out.block (mb + 1) (by omega) (by intro e;cases e)).trans HP0.out
   ·exact HRL.out.keptR HG.out (fun y hy e=>by cases e;have:=HNL.out _ hy;omega)
   ·exact HRW.out.keptR HG.out (fun y hy e=>by cases e;have:=HNW.out _ hy;omega)
   ·exact fun y hy=>by have:=HNL.out _ hy;omega
   ·exact fun y hy=>by have:=HNW.out _ hy;omega
theorem Tb.below {lo hi p:Nat} {w w':World} {l:List Nat} (h:Tb lo hi w p l) (hb:Below w.heap.size w w'):Tb lo hi w' p l :=
 h.only (T:=fun _=>False) (.ofBelow hb) (fun _ _ _ h=>h)
end Go.Proofs.YtnkpnjnfddjfpaaGreat

namespace Go.Proofs.YtnkpnjnfddjfpaaGreat
open Go.RowKit M01 M04 M10
set_option maxRecDepth 100000 in
set_option maxHeartbeats 800000 in
theorem Zqs (v n:Nat) (w:World) (hv:v < 4294967296) (hn:n <= 32) :
  Calls Tryz.prog 186 #[.int .u32 (v:Nat),.int .u8 (n:Nat)] w fun e w'=>∃ a c,e = .returned (.slice a n c) /\ OwnN 5 .u8 w' w.heap.size a c (msbL v n) /\ Below w.heap.size w w':=by
 go_enter Tryz.func186,Tryz.ntmps186
 go_wp2
 go_loopw [5,6] (fun x i A=>∃ (j:Nat) (o:List Nat) (g:Option Addr) (c:Nat),j <= n /\ i = .int .i64 ((n:Int) - 1 - (j:Int)) /\ x = .slice g o.length c /\ o.length = j /\ o = (msbL v n).take j /\ OwnN 5 .u8 A w.heap.size g c o /\ Below w.heap.size w A) (fun x i _=>(intOf i + 1).toNat)
 case atStart=>exact ⟨0,[],none,0,by omega,by simp,rfl,rfl,by simp,OwnN.nil _ _ _ _,Below.refl _ _⟩
 case round =>
  obtain ⟨j,o,g,c,hj,rfl,rfl,hol,ho,hown,hbe⟩:=hrel
  have HO:=Zh hown
  have HE:=Zh hbe
  have HOB:=Zh ho
  clear ho hown hbe
  by_cases hlt:j < n
  ·obtain ⟨k,hk⟩:∃ k,n - 1 - j = k:=⟨_,rfl⟩
   have hki:(n:Int) - 1 - (j:Int) = (k:Int):=by omega
   have hk32:k < 32:=by omega
   have HT:Hid ((msbL v n).take (j + 1) = (msbL v n).take j ++ [v / 2 ^ k % 2]):=by
    unfold Hid
    rw [M04.Zbm _ j (by rw [Zdr];exact hlt),Znr _ _ _ hlt,hk]
   obtain ⟨x,hx⟩:∃ x,v / 2 ^ k = x:=⟨_,rfl⟩
   have hx2:x < 4294967296:=by have:=Nat.div_le_self v (2 ^ k);omega
   have hxi:(v:Int) / 2 ^ k = (x:Int):=by rw [<- hx];simp
   rw [hx] at HT
   have HK:=Zh hk
   have HOL:=Zh hol
   have hwr:w.heap.size <= wr.heap.size:=HE.out.size
   have HWR:=Zh hwr
   have hol2:o.length <= 32:=by omega
   have HKI:Hid ((n:Int) - 1 - ((j + 1:Nat):Int) = (k:Int) - 1):=by unfold Hid;omega
   clear hx hk hol hwr
   rw [hki]
   clear hki
   obtain ⟨y,hy⟩:∃ y,x % 2 = y:=⟨_,rfl⟩
   have hyi:(x:Int) % 2 = (y:Int):=by omega
   have hy2:y < 2:=by omega
   rw [hy] at HT
   clear hy
   go_wp2_with (at_builtin;refine app1N (y:=y) Zaz rfl (.tmp 14) (.tmp 20) rfl rfl HO.out rfl (by omega) (by omega) (by omega) (by omega) HWR.out ?_;intro a' c' w2 hown hg hb2;replace hown:=Zh hown;replace hb2:=Zh (HE.out.trans hb2);clear hg)
   go_roundw
   case rel=>exact ⟨j + 1,o ++ [y],a',c',by omega,by rw [HKI.out],by rw [List.length_append];rfl,by rw [List.length_append,HOL.out];rfl,by rw [HT.out,<- HOB.out],hown.out,hb2.out⟩
   case measure=>simp [intOf]
  ·obtain rfl:j = n:=by omega
   have t0:decide ((0:Int) <= (j:Int) - 1 - (j:Int)) = false:=by simp;omega
   have h1:=HOB.out
   rw [List.take_of_length_le (by rw [Zdr];exact Nat.le_refl _)] at h1
   have HOL:=Zh hol
   have H1:=Zh h1
   clear hol h1
   go_wp2
   go_ret
   exact ⟨g,c,by rw [HOL.out];rfl,by have:=HO.out;rwa [H1.out] at this,HE.out⟩
def encSl:Enc (Option Addr × Nat × List Nat) where
 sz:=1
 cells x:=[.slice x.1 x.2.2.length x.2.1]
 len _:=rfl
 one x u hu:=by
  simp only [List.mem_cons,List.not_mem_nil,or_false] at hu
  subst hu;rfl
 pos:=by decide
abbrev Es:=List (Option Addr × Nat × List Nat)
set_option maxRecDepth 100000 in
set_option maxHeartbeats 800000 in
theorem Zme (a b:Option Addr) (ca cb:Nat) (x y:List Nat) (w:World) (hx:RowN .u8 w a ca x) (hy:RowN .u8 w b cb y) (hx2:∀ v ∈ x,v < 256) (hy2:∀ v ∈ y,v < 256) :
  Calls Tryz.prog 139 #[.slice a x.length ca,.slice b y.length cb] w fun e w'=>e = .returned (.bool (decide (y.length <= x.length /\ x.take y.length = y))) /\ ∃ m,w' = w.drewN m:=by
 have hxl:=hx.len
 have hyl:=hy.len
 have hcap:=hx.1
 by_cases hle:y.length <= x.length
 ·have t0:decide ((y.length:Nat) <= x.length) = true:=by simp;omega
  have hcv1:∀ q,(convert 22 9 (.slice a y.length ca)).run Tryz.prog (w.drewN q) = .ok (.string (strOf (x.take y.length))) (w.drewN q):=fun q=>Zbs Tryz.underlying22 Tryz.underlying5 Tryz.underlying9 (by rw [List.length_take];omega) (Zcu (w:=w.drewN q) hx y.length)
  have hcv2:∀ q,(convert 22 9 (.slice b y.length cb)).run Tryz.prog (w.drewN q) = .ok (.string (strOf y)) (w.drewN q):=fun q=>Zbs Tryz.underlying22 Tryz.underlying5 Tryz.underlying9 rfl (show RowN .u8 (w.drewN q) b cb y from hy)
  have hinj:strOf (x.take y.length) = strOf y ↔ x.take y.length = y:=⟨Zmw (fun v hv=>hx2 v (List.mem_of_mem_take hv)) hy2,fun h=>by rw [h]⟩
  have HR:Hid (decide (y.length <= x.length /\ x.take y.length = y) = decide (strOf (x.take y.length) = strOf y)):=by
   unfold Hid
   exact decide_eq_decide.2 ⟨fun h=>hinj.2 h.2,fun h=>⟨hle,hinj.1 h⟩⟩
  rw [HR.out]
  obtain ⟨s,hs⟩:∃ s,strOf (x.take y.length) = s:=⟨_,rfl⟩
  obtain ⟨t,ht⟩:∃ t,strOf y = t:=⟨_,rfl⟩
  rw [hs] at hcv1 ⊢
  rw [ht] at hcv2 ⊢
  have hd:(s.toList == t.toList) = decide (s = t):=Zzc s t
  clear HR hinj hs ht hx hy hx2 hy2 hle
  obtain ⟨d,hdd⟩:∃ d,decide (s = t) = d:=⟨_,rfl⟩
  rw [hdd] at hd ⊢
  clear hdd
  obtain ⟨n,hn⟩:∃ n,y.length = n:=⟨_,rfl⟩
  obtain ⟨m,hm⟩:∃ m,x.length = m:=⟨_,rfl⟩
  have hnm:n <= m:=by simp only [hn,hm] at t0;simpa using t0
  simp only [hn,hm] at hcv1 hcv2 t0 hxl hyl hcap ⊢
  clear hn hm
  go_enter Tryz.func139,Tryz.ntmps139
  go_wp2_with fail
  go_quiet (fail)
  go_wp2
  go_ret
  exact ⟨rfl,_,rfl⟩
 ·have t0:decide ((y.length:Nat) <= x.length) = false:=by simp;omega
  have HR:Hid (decide (y.length <= x.length /\ x.take y.length = y) = false):=by unfold Hid;simp;omega
  rw [HR.out]
  obtain ⟨n,hn⟩:∃ n,y.length = n:=⟨_,rfl⟩
  obtain ⟨m,hm⟩:∃ m,x.length = m:=⟨_,rfl⟩
  have hnm:m < n:=by omega
  simp only [hn,hm] at t0 ⊢
  clear hn hm hle hx hy HR hcap
  go_enter Tryz.func139,Tryz.ntmps139
  go_wp2_with fail
  go_quiet (fail)
  go_wp2
  go_ret
  exact ⟨rfl,_,rfl⟩
section
variable {P : Program} {T E : TypeId} {α : Type} {cc : Enc α} {z : Value} {bytes : Nat}
theorem Zkg (et:ElemS P T E cc z bytes) {w:World} {ops:Array Oper} {o:Oper} {ac:Act} {K:Act -> World -> Prop} {Q:Exit -> Act -> World -> Prop} {G:Prop} (hgd:o.guard = none) (s x:Operand)
  (ho:o.op = .call { callee:=.builtin .append,args:=#[s,x],argTypes:=#[T,T] }) {base:Nat} {a:Option Addr} {cap:Nat} {l:List α} (y:α) {cs:Array Value} {c E':Nat}
  (hs:ac.eval s = .slice a l.length cap) (hown:OwnS cc E w base a cap l) (hx:ac.eval x = .slice (some ⟨w.heap.size,0,none⟩) 1 c) (hcs:cs = (cc.cells y).toArray) (hc:1 <= c) (hc':c <= 9223372036854775807)
  (hn:l.length + 1 <= 9223372036854775807) (hbytes:(l.length + 1) * bytes <= 140737488355328) (hbase:base <= w.heap.size)
  (h:∀ a' cap' w',OwnS cc E w' base a' cap' (l ++ [y]) -> Below base w w' -> w.grownBy w' (Value.slice a l.length cap).ownBlock -> (∀ g,a' = some ⟨g,0,none⟩ -> a = some ⟨g,0,none⟩ \/ w.heap.size <= g) -> K (ac.put o.dst (.slice a' (l.length + 1) cap')) w') :
  if Region.wanted o (yielded ops ac.tmps) = true then Oper.wp P o ac (w.alloc (.cells cs E')) K Q else G:=by
 have hw:Region.wanted o (yielded ops ac.tmps) = true:=by simp [Region.wanted,hgd]
 rw [if_pos hw]
 obtain ⟨i,h2,h3,h4,h5⟩:=info_parts et.info
 have hy:RowS cc (w.alloc (.cells cs E')) (some ⟨w.heap.size,0,none⟩) c [y]:=by
  subst hcs
  have:=RowS.lit cc w [y] E' ((cc.cells y).toArray) w.heap.size rfl (by simp [flat]) (by simp)
  exact ⟨by simpa using hc,⟨hc',fun hn=>by cases hn⟩,this.2.2⟩
 have hcl:∀ j u,(flat cc [y])[j]? = some u -> (w.alloc (.cells cs E')).cell? ((⟨w.heap.size,0,none⟩:Addr).add j) = some u:=by
  intro j u hu
  obtain ⟨_,_,h0 | ⟨b',off,he,_,hcc⟩⟩:=hy
  ·simp at h0
  ·cases he
   have:=hcc j u hu
   unfold Addr.add
   split
   ·simp_all
   ·exact this
 obtain ⟨v',w',hr,h6,h7,h8,h9⟩:=run_append_own_at (P:=P) (w.alloc (.cells cs E')) base T o.type E i z cc.sz bytes et.und h2 h3 h4 h5 et.zs cc.pos _ l.length _ (hown.alloc _) ⟨w.heap.size,0,none⟩ 1 c (flat cc [y]) (by rw [Zcr];rfl)
  hcl (Zhp _) (by simpa [maxLen] using hn) hbytes (by simp;omega)
 have hv:∃ a' cap',v' = .slice a' (l.length + 1) cap':=by
  rcases h6.2 with ⟨h11,h10⟩ | ⟨g,c',cur,h11,_⟩
  ·omega
  ·exact ⟨_,_,h11⟩
 obtain ⟨a',cap',rfl⟩:=hv
 have hown':OwnS cc E w' base a' cap' (l ++ [y]):=by
  unfold OwnS;rw [List.length_append,Zdo];exact h6
 have hbel:Below base (w.alloc (.cells cs E')) w':=Below.of_grown h7 (by simp;omega) (by
  intro g hg
  exact (World.ownsRow.lt hown g hg).1)
 unfold Oper.wp
 simp [execOp,ho,resolve,invoke,builtin,hs,hx,hr,Result.andThen]
 refine h a' cap' w' hown' (((Below.refl base w).alloc hbase _).trans hbel) ⟨h7.os,h7.tape,h7.output,Nat.le_trans (by simp) h7.size,fun q hq hr=>(h7.block q (by simp;omega) hr).trans (Below.heap_alloc _ _ _ hq)⟩ ?_
 rintro g rfl
 rcases h9 with h9 | h9
 ·left
  rcases hown.form with ⟨rfl,_,_⟩ | ⟨g',rfl,_⟩
  ·simp [Value.ownBlock] at h9
  ·simp [Value.ownBlock] at h9
   rw [h9]
 ·right
  simp [Value.ownBlock] at h9
  omega
end
theorem Zxe:ElemS Tryz.prog 33 22 encSl (.slice none 0 0) 24:=⟨Tryz.underlying33,by kernel_rfl,by kernel_rfl⟩
def rowW (l:List Nat) (i:Nat):List Nat:=msbL (word l i) (l.getD i 0)
def RowsTo (w:World) (l:List Nat) (k:Nat) (es:Es):Prop:=es.length = k /\ ∀ i (h:i < es.length),es[i].2.2 = rowW l i /\ RowN .u8 w es[i].1 es[i].2.1 es[i].2.2
def Off (w:World) (g a:Option Addr):Prop:=a = none \/ ∃ b,a = some ⟨b,0,none⟩ /\ b < w.heap.size /\ ∀ g0,g = some ⟨g0,0,none⟩ -> b ≠ g0
def RowsG (w:World) (l:List Nat) (k:Nat) (g:Option Addr) (es:Es):Prop:=es.length = k /\ ∀ i (h:i < es.length),(es[i].2.2 = rowW l i /\ RowN .u8 w es[i].1 es[i].2.1 es[i].2.2) /\ Off w g es[i].1
theorem Off.put {w3 w7:World} {g a7 a:Option Addr} {n c:Nat} (h:Off w3 g a) (hgf:g = none \/ ∃ g0,g = some ⟨g0,0,none⟩) (hg:w3.grownBy w7 (Value.slice g n c).ownBlock) (hf:∀ g',a7 = some ⟨g',0,none⟩ -> g = some ⟨g',0,none⟩ \/ w3.heap.size <= g') {r:List Nat} {cc:Nat} (hr:RowN .u8 w3 a cc r) :
  RowN .u8 w7 a cc r /\ Off w7 a7 a:=by
 rcases h with rfl | ⟨b,rfl,hb,hne⟩
 ·refine ⟨?_,.inl rfl⟩
  obtain ⟨h1,h2,h3⟩:=hr
  refine ⟨h1,h2,?_⟩
  rcases h3 with h3 | ⟨b,off,he,_⟩
  ·exact .inl h3
  ·cases he
 ·refine ⟨hr.same hg.size fun x _ hx=>?_,.inr ⟨b,rfl,Nat.lt_of_lt_of_le hb hg.size,fun g0 h0=>?_⟩⟩
  ·simp only [Option.some.injEq] at hx
   subst hx
   refine hg.block b hb fun e=>?_
   rcases hgf with rfl | ⟨g0,rfl⟩
   ·simp [Value.ownBlock] at e
   ·simp only [Value.ownBlock,Option.some.injEq] at e
    exact hne g0 rfl e
  ·rcases hf g0 h0 with h1 | h1
   ·exact hne g0 h1
   ·omega
theorem RowsG.put {w w3 w7:World} {l:List Nat} {k n c:Nat} {g a7 ga:Option Addr} {gc:Nat} {es:Es} (h:RowsG w l k g es) (hgl:∀ g0,g = some ⟨g0,0,none⟩ -> g0 < w.heap.size) (hgf:g = none \/ ∃ g0,g = some ⟨g0,0,none⟩) (hb:Below w.heap.size w w3) (hr:OwnN 5 .u8 w3 w.heap.size ga gc (rowW l k))
  (hg:w3.grownBy w7 (Value.slice g n c).ownBlock) (hf:∀ g',a7 = some ⟨g',0,none⟩ -> g = some ⟨g',0,none⟩ \/ w3.heap.size <= g'):RowsG w7 l (k + 1) a7 (es ++ [(ga,gc,rowW l k)]):=by
 refine ⟨by rw [List.length_append,h.1];rfl,fun i hi=>?_⟩
 rw [List.length_append,List.length_singleton] at hi
 by_cases e:i < es.length
 ·rw [List.getElem_append_left e]
  obtain ⟨⟨h1,h2⟩,h3⟩:=h.2 i e
  have h3':Off w3 g es[i].1:=by
   rcases h3 with h3 | ⟨b,h4,h5,h6⟩
   ·exact .inl h3
   ·exact .inr ⟨b,h4,Nat.lt_of_lt_of_le h5 hb.size,h6⟩
  obtain ⟨h4,h5⟩:=h3'.put hgf hg hf (h2.below hb)
  exact ⟨⟨h1,h4⟩,h5⟩
 ·have:i = k:=by have:=h.1;omega
  subst this
  rw [List.getElem_append_right (by omega)]
  have e0:i - es.length = 0:=by have:=h.1;omega
  simp only [e0,List.getElem_cons_zero]
  have h3':Off w3 g ga:=by
   rcases hr.form with ⟨h3,_⟩ | ⟨b,h4,h5,h6⟩
   ·exact .inl h3
   ·exact .inr ⟨b,h4,h6,fun g0 h0=>by have:=hgl g0 h0;omega⟩
  obtain ⟨h4,h5⟩:=h3'.put hgf hg hf hr.row
  exact ⟨⟨by trivial,h4⟩,h5⟩
theorem Zabs {α:Type} {c:Enc α} {E:TypeId} {w:World} {base cap:Nat} {a:Option Addr} {l:List α} (h:OwnS c E w base a cap l):∀ g0,a = some ⟨g0,0,none⟩ -> g0 < w.heap.size:=by
 rintro g0 rfl
 rcases h.form with ⟨h1,_⟩ | ⟨g,h1,_,h2⟩
 ·cases h1
 ·cases h1;exact h2
theorem Zabr {α:Type} {c:Enc α} {E:TypeId} {w:World} {base cap:Nat} {a:Option Addr} {l:List α} (h:OwnS c E w base a cap l):a = none \/ ∃ g0,a = some ⟨g0,0,none⟩:=by
 rcases h.form with ⟨h1,_⟩ | ⟨g,h1,_,h2⟩
 ·exact .inl h1
 ·exact .inr ⟨g,h1⟩
theorem RowsG.to {w:World} {l:List Nat} {k:Nat} {g:Option Addr} {es:Es} (h:RowsG w l k g es):RowsTo w l k es:=⟨h.1,fun i hi=>(h.2 i hi).1⟩
theorem RowsTo.below {w w2:World} {l:List Nat} {k:Nat} {es:Es} (h:RowsTo w l k es) (hb:Below w.heap.size w w2):RowsTo w2 l k es:=⟨h.1,fun i hi=>⟨(h.2 i hi).1,(h.2 i hi).2.below hb⟩⟩
def EsLo (q:Nat) (es:Es):Prop:=∀ i (h:i < es.length) x,es[i].1 = some x -> q <= x.block
theorem EsLo.put {q:Nat} {es:Es} {ga:Option Addr} {gc:Nat} {r:List Nat} (h:EsLo q es) (hg:∀ x,ga = some x -> q <= x.block):EsLo q (es ++ [(ga,gc,r)]):=by
 intro i hi x hx
 by_cases e:i < es.length
 ·rw [List.getElem_append_left e] at hx
  exact h i e x hx
 ·rw [List.getElem_append_right (by omega)] at hx
  simp only [List.length_append,List.length_singleton] at hi
  have e0:i - es.length = 0:=by omega
  simp only [e0,List.getElem_cons_zero] at hx
  exact hg x hx
set_option maxRecDepth 100000 in
set_option maxHeartbeats 1600000 in
theorem Znx (a:Option Addr) (cap:Nat) (l:List Nat) (w:World) (hr:RowN .u8 w a cap l) (hm:M04.May l) (hw:weight l <= 2 ^ 20) :
  Calls Tryz.prog 138 #[.slice a l.length cap] w fun e w'=>∃ g c es,e = .returned (.tuple #[.slice g l.length c,.int .i64 0]) /\ RowS encSl w' g c es /\ RowsTo w' l l.length es /\ Below w.heap.size w w' /\ (∀ x,g = some x -> w.heap.size <= x.block) /\ EsLo w.heap.size es:=by
 have hlen:l.length <= 512:=hm.2
 have h20:∀ x ∈ l,x <= 20:=hm.1
 have HW:=Zh (Ziq a cap l w hr)
 have HE0:Hid (wordsE l = (words l,0)):=by unfold Hid wordsE;rw [if_neg (by simpa using hm),if_neg (by omega)]
 have HR:=Zh hr
 have H20:=Zh h20
 have HWT:=Zh hw
 clear hr hm h20 hw
 obtain ⟨q,hq⟩:∃ q,w.heap.size = q:=⟨_,rfl⟩
 have HQ:=Zh hq
 rw [hq]
 go_enter Tryz.func138,Tryz.ntmps138
 go_wp2_with fail
 refine HW.out.mono ?_
 rintro e w1 ⟨wa,wc,rfl,hown,hb1⟩
 rw [HE0.out,Zbn] at *
 rw [hq] at hown hb1
 have HRW:=Zh hown.row
 have HB1:=Zh hb1
 have HR1:=Zh (HR.out.below (HQ.out ▸ hb1))
 have hq1:q <= w1.heap.size:=by have:=hb1.size;omega
 have HQ1:=Zh hq1
 clear hown hb1 hq HW hq1
 go_wp2
 go_loopw [6,7] (fun x i A=>∃ (k:Nat) (es:Es) (g:Option Addr) (c:Nat),k <= l.length /\ i = .int .i64 k /\ x = .slice g es.length c /\ OwnS encSl 22 A w1.heap.size g c es /\ RowsG A l k g es /\ Below q w A /\ Below w1.heap.size w1 A /\ EsLo q es) (fun x i _=>l.length - (intOf i).toNat)
 case atStart=>exact ⟨0,[],none,0,by omega,by trivial,by trivial,OwnS.nil _ _ _ _,⟨by trivial,fun i hi=>by simp at hi⟩,HB1.out,Below.refl _ _,fun i hi=>by simp at hi⟩
 case round =>
  obtain ⟨k,es,g,c,hk,rfl,rfl,ho,hro,hb,hbb,hlo⟩:=hrel
  have HLO:=Zh hlo
  clear hlo
  have HO:=Zh ho
  have HRO:=Zh hro
  have HB:=Zh hb
  have HBB:=Zh hbb
  have hel:es.length = k:=hro.1
  clear ho hro hb hbb
  by_cases hlt:k < l.length
  ·obtain ⟨b,off,rfl,hbl,hc⟩:=(HR1.out.below HBB.out).at hlt
   obtain ⟨b2,off2,rfl,hbl2,hc2⟩:=(HRW.out.below HBB.out).at (i:=k) (by rw [Zbn];exact hlt)
   rw [Zdx] at hc2
   have hwl:=Zvz l k hlt H20.out HWT.out
   have hx20:=H20.out _ (List.getElem_mem hlt)
   have HRK:Hid (rowW l k = msbL (word l k) l[k]):=by unfold Hid rowW;simp [hlt]
   generalize word l k = x at *
   generalize l[k] = y at *
   have HBI:=Zh (fun W=>Zqs x y W (by omega) (by omega))
   have HEL:=Zh hel
   have hwr:q <= wr.heap.size:=by have:=HBB.out.size;have:=HQ1.out;omega
   have HWR:=Zh hwr
   clear hel hwr
   obtain ⟨n,hn⟩:∃ n,es.length = n:=⟨_,rfl⟩
   have hnk:n <= 512:=by have:=HEL.out;omega
   rw [hn]
   have HN:=Zh hn
   clear hn
   go_wp2_with fail
   have hk512:(k:Int) < (l.length:Int):=by omega
   have hk512:(k:Int) < (l.length:Int):=by omega
   have HOD:=Zh (show OwnS encSl 22 wr.drew w1.heap.size g c es from HO.out)
   have HKY:Hid (∀ ga gc w3,OwnN 5 .u8 w3 wr.drew.heap.size ga gc (msbL x y) -> (encSl.cells (ga,gc,msbL x y)).toArray = #[.slice ga y gc]):=by
    unfold Hid
    intro ga gc w3 _
    simp [encSl,Zdr]
   go_region_law (first | (go_simp;go_at_call 186;refine (HBI.out _).mono ?_;rintro e w3 ⟨ga,gc,rfl,ho3,hb3⟩;dsimp only) | (refine Zkg (cs:=#[.slice ga y gc]) Zxe (by rfl) (.tmp 22) (.tmp 32) (by rfl) (ga,gc,msbL x y) (by rw [HN.out];rfl) (HOD.out.below hb3) (by rfl) (HKY.out ga gc w3 ho3).symm (by omega) (by omega) (by have:=HN.out;omega) (by have:=HN.out;omega) (by have:=hb3.size;have:=HBB.out.size;have h5:wr.drew.heap.size = wr.heap.size:=rfl;omega) ?_;intro a7 c7 w7 hown7 hb7 hg7 hf7))
   all_goals
    have hb37:Below wr.heap.size wr w3:=⟨hb3.os,hb3.tape,hb3.output,hb3.size,hb3.block⟩
    have HB37:=Zh hb37
    have HB7:=Zh hb7
    have HG7:=Zh hg7
    have HF7:=Zh hf7
    have HO3:=Zh ho3
    have HOW7:=Zh hown7
    clear hb37 hb7 hg7 hf7 ho3 hown7 hb3
    go_wp2
    go_roundw
    case rel=>exact ⟨k + 1,es ++ [(ga,gc,msbL x y)],a7,c7,by omega,by go_num,by rw [List.length_append];rfl,HOW7.out,by have:=HRO.out.put (ga:=ga) (gc:=gc) (Zabs HO.out) (Zabr HO.out) HB37.out (by rw [HRK.out];exact HO3.out) HG7.out HF7.out;rw [HRK.out] at this;exact this,HB.out.trans ((HB37.out.mono HWR.out).trans (HB7.out.mono HQ1.out)),HBB.out.trans ((HB37.out.mono HBB.out.size).trans HB7.out),HLO.out.put (fun x hx=>by rcases HO3.out.form with ⟨h,_⟩ | ⟨b,h,h5,_⟩ <;> rw [h] at hx <;> cases hx;exact Nat.le_trans HWR.out h5)⟩
    case measure=>simp [intOf];omega
  ·obtain rfl:k = l.length:=by omega
   have HEL:=Zh hel
   clear hel
   go_wp2
   go_ret2
   exact ⟨g,c,es,by rw [HEL.out];rfl,HO.out.row,HRO.out.to,HB.out,fun x hx=>(by rcases HO.out.form with ⟨h,_⟩ | ⟨b,h,h5,_⟩ <;> rw [h] at hx <;> cases hx;exact Nat.le_trans HQ1.out h5),HLO.out⟩
def GetOut (R:Option (Nat × Nat)) (at_ top:Nat) (e:Ending):Prop:=match R with
 | some (s,at2)=>e = .returned (.tuple #[.int .i64 (s:Nat),.int .i64 (at2:Nat),.int .i64 0])
 | none=>∃ m:Nat,at_ <= m /\ m <= top /\ e = .returned (.tuple #[.int .i64 0,.int .i64 (m:Nat),.int .i64 2])
set_option maxRecDepth 100000 in
set_option maxHeartbeats 3200000 in
theorem Zmf (a a2:Option Addr) (cap c2:Nat) (l bs:List Nat) (es:Es) (at_:Nat) (w:World) (hr:RowS encSl w a cap es) (hro:RowsTo w l l.length es) (hm:M04.May l) (hw:weight l <= 2 ^ 20)
  (hb:RowN .u8 w a2 c2 (bitL bs)) (hbl:bs.length <= 1000) (hb0:0 < bs.length) (ha:at_ <= 8 * bs.length) :
  Calls Tryz.prog 90 #[.slice a l.length cap,.slice a2 (bitL bs).length c2,.int .i64 (at_:Nat)] w fun e w'=>GetOut (sym l bs at_) at_ (8 * bs.length) e /\ Below w.heap.size w w':=by
 have hlen:l.length <= 512:=hm.2
 have H20:=Zh hm.1
 have HWT:=Zh hw
 have HR:=Zh hr
 have HRO:=Zh hro
 have HBR:=Zh hb
 have HEL:=Zh hro.1
 have hLL:(bitL bs).length = 8 * bs.length:=Zbo bs
 have HBG:=Zh (fun x y a b c1 c2 w h1 h2 h3 h4=>Zme a b c1 c2 x y w h1 h2 h3 h4)
 have HC0:=Zh (Zwz bs at_)
 have HBL:=Zh (Zkm bs)
 have HDEC:Hid (sym l bs at_ = decF (tabOf l) bs (22 - 0) 0 0 (at_ + 0)):=rfl
 obtain ⟨S,hS⟩:∃ S,sym l bs at_ = S:=⟨_,rfl⟩
 rw [hS] at HDEC ⊢
 clear hS hr hro hm hw hb
 have HTK:Hid (((bitL bs).drop at_).take 0 = msbL 0 0):=by unfold Hid;simp [msbL]
 have hcap:=HBR.out.1
 have hcap2:=HBR.out.2.1.1
 have hcap3:=HBR.out.2.1.2
 have hform:bitL bs = [] \/ ∃ b off,a2 = some ⟨b,off,none⟩:=by
  rcases HBR.out.2.2 with h | ⟨b,off,h,_⟩
  ·exact .inl h
  ·exact .inr ⟨b,off,h⟩
 have HFORM:=Zh hform
 have HBSUB:Hid (∀ (b off n:Nat),a2 = some ⟨b,off,none⟩ -> at_ + n <= (bitL bs).length -> ∀ A,Below w.heap.size w A -> RowN .u8 A (some ⟨b,off + at_,none⟩) (c2 - at_) (((bitL bs).drop at_).take n)):=fun b off n h1 h2 A hA=>by subst h1;exact Zyf (HBR.out.below hA) at_ n h2
 generalize bitL bs = L at *
 clear hform
 go_enter Tryz.func90,Tryz.ntmps90
 go_wp2
 go_loopw [9] (fun m A=>∃ (n x:Nat),m = .int .i64 (n:Nat) /\ n <= 20 /\ at_ + n <= 8 * bs.length /\ x < 2 ^ n /\ (L.drop at_).take n = msbL x n /\ S = decF (tabOf l) bs (22 - n) x n (at_ + n) /\ Below w.heap.size w A) (fun m _=>21 - (intOf m).toNat)
 case atStart=>exact ⟨0,0,by trivial,by omega,by omega,by omega,HTK.out,HDEC.out,Below.refl _ _⟩
 case round =>
  clear HDEC HTK
  obtain ⟨n,x,rfl,hn20,hfit,hx2,htk,hdec,hbw⟩:=hrel
  have HDEC:=Zh hdec
  have HTK:=Zh htk
  have HX2:=Zh hx2
  have HBW:=Zh hbw
  clear hdec htk hx2 hbw
  go_wp2
  go_loopw [10,11] (fun s i A=>∃ (k:Nat) (b:Bool),k <= l.length /\ i = .int .i64 (k:Nat) /\ s = .bool b /\ (∀ j,j < k -> hitF l x n j -> n ≠ l.getD j 0) /\ (b = true ↔ ∃ j,j < k /\ hitF l x n j) /\ Below w.heap.size w A) (fun s i _=>l.length - (intOf i).toNat)
  case atStart=>exact ⟨0,false,by omega,by trivial,by trivial,fun j hj=>by omega,by simp,HBW.out⟩
  case round =>
   clear HBW
   obtain ⟨k,sb,hk,rfl,rfl,hno,hso,hbw⟩:=hrel
   have HNO:=Zh hno
   have HSO:=Zh hso
   have HBW:=Zh hbw
   clear hno hso hbw
   by_cases hlt:k < l.length
   ·obtain ⟨b,off,rfl,hbb,hcl⟩:=(HR.out.below HBW.out).at (i:=k) (by rw [HEL.out];exact hlt)
    have c0:=hcl 0 _ rfl
    simp only [encSl,Nat.add_zero,Nat.mul_one] at c0
    have hke:k < es.length:=by rw [HEL.out];exact hlt
    obtain ⟨hr1,hr2⟩:=HRO.out.2 k hke
    obtain ⟨m,hm⟩:∃ m,l.getD k 0 = m:=⟨_,rfl⟩
    have hrl:es[k].2.2.length = m:=by rw [hr1,rowW,Zdr,hm]
    rw [hrl] at c0
    have hm20:m <= 20:=hm ▸ Zfa H20.out k
    generalize es[k] = e at *
    clear hke
    obtain ⟨pa,pc,row⟩:=e
    simp only at hr1 hr2 hrl c0
    have hk5:(k:Int) < (l.length:Int):=by omega
    have hNX:Hid (hitF l x n k -> n ≠ m -> ∀ j,j < k + 1 -> hitF l x n j -> n ≠ l.getD j 0):=by
     unfold Hid
     intro _ h2 j hj hh
     by_cases e:j = k
     ·subst e;rw [hm];exact h2
     ·exact HNO.out j (by omega) hh
    have hNY:Hid (¬ hitF l x n k -> (∀ j,j < k + 1 -> hitF l x n j -> n ≠ l.getD j 0) /\ (sb = true ↔ ∃ j,j < k + 1 /\ hitF l x n j)):=by
     unfold Hid
     intro h2
     refine ⟨fun j hj hh=>?_,HSO.out.trans ⟨fun ⟨j,h3,h4⟩=>⟨j,by omega,h4⟩,fun ⟨j,h3,h4⟩=>?_⟩⟩
     ·by_cases e:j = k
      ·subst e;exact absurd hh h2
      ·exact HNO.out j (by omega) hh
     ·by_cases e:j = k
      ·subst e;exact absurd h4 h2
      ·exact ⟨j,by omega,h4⟩
    by_cases hm0:m = 0
    ·have t0:((m:Int) == 0) = true:=beq_iff_eq.2 (by omega)
     have HNH:=Zh (hNY.out (by unfold hitF;rw [hm];omega))
     clear hcl hr1 hr2 hrl hm hNX hNY hm0
     go_wp2_with fail
     go_quiet (fail)
     go_wp2
     go_roundw
     case rel=>exact ⟨k + 1,sb,by omega,by go_num,by trivial,HNH.out.1,HNH.out.2,belDN HBW.out _⟩
     case measure=>simp [intOf];omega
    have t0:((m:Int) == 0) = false:=beq_eq_false_iff_ne.2 (by omega)
    have hll:((L.drop at_).take n).length = n:=by rw [List.length_take,List.length_drop];omega
    have HBX:Hid (∀ (q:Nat) (p:Option Addr) (c':Nat),(c' <= 9223372036854775807 /\ (p = none -> c' = 0) /\ (n = 0 \/ ∃ b2 off2,a2 = some ⟨b2,off2,none⟩ /\ p = some ⟨b2,off2 + at_,none⟩ /\ c' = c2 - at_)) →
      Calls Tryz.prog 139 #[.slice pa m pc,.slice p n c'] (wr.drewN q) fun e w'=>e = .returned (.bool (decide (hitF l x n k))) /\ ∃ m,w' = (wr.drewN q).drewN m):=by
     unfold Hid
     intro q p c' ⟨g1,g2,g3⟩
     have hrow:RowN .u8 (wr.drewN q) p c' ((L.drop at_).take n):=by
      rcases g3 with rfl | ⟨b2,off2,h1,rfl,rfl⟩
      ·exact ⟨by simp,⟨g1,g2⟩,.inl (by simp)⟩
      ·exact HBSUB.out b2 off2 n h1 (by omega) _ (belDN HBW.out q)
     have h:=HBG.out row ((L.drop at_).take n) pa p pc c' (wr.drewN q) (show RowN .u8 wr pa pc row from hr2.below HBW.out) hrow (fun v hv=>by rw [hr1] at hv;have:=Zaaa _ _ v hv;omega) (fun v hv=>by have:=HBL.out v (List.mem_of_mem_drop (List.mem_of_mem_take hv));omega)
     rw [hrl,hll] at h
     have hiff:=Zps l x n k hlt H20.out HWT.out (by omega) HX2.out
     rw [hm] at hiff
     rw [hr1,rowW,hm,HTK.out,decide_eq_decide.2 hiff] at h
     exact h
    have HM:=Zh hm
    have hfit2:at_ + n <= L.length:=by omega
    have hfit3:L.length <= 8000:=by omega
    obtain ⟨b2,off2,h1⟩:∃ b2 off2,a2 = some ⟨b2,off2,none⟩:=by
     rcases HFORM.out with h | h
     ·rw [h] at hLL;simp at hLL;omega
     ·exact h
    subst h1
    obtain ⟨d,hd⟩:∃ d,decide (hitF l x n k) = d:=⟨_,rfl⟩
    rw [hd] at HBX
    have HD:=Zh hd
    have HNX:=hNX
    have HNY:=hNY
    have HML:=hLL
    replace HML:=Zh HML
    clear hcl hr1 hr2 hrl hm hNX hNY hm0 hll hd hLL hcap3
    by_cases h3:at_ = c2
    ·have HN0:Hid (n = 0):=by unfold Hid;omega
     subst h3
     go_wp2_with fail
     go_quiet ((go_at_call 139;exact Calls.quiet_of (HBX.out _ _ _ ⟨by omega,by simp,.inl HN0.out⟩)))
     cases d with
     | false =>
      have HNH:=Zh (HNY.out (by have:=HD.out;simpa using this))
      clear HD
      go_wp2
      go_roundw
      case rel=>exact ⟨k + 1,sb,by omega,by go_num,by trivial,HNH.out.1,HNH.out.2,belDN HBW.out _⟩
      case measure=>simp [intOf];omega
     | true =>
      have hh:hitF l x n k:=by have:=HD.out;simpa using this
      have HSX:Hid (true = true ↔ ∃ j,j < k + 1 /\ hitF l x n j):=⟨fun _=>⟨k,by omega,hh⟩,fun _=>rfl⟩
      by_cases hmn:n = m
      ·have HS:Hid (S = some (k,at_ + n)):=by
        unfold Hid
        rw [HDEC.out,show 22 - n = (21 - n) + 1 by omega]
        exact Zop l bs H20.out _ x n _ k hlt hh (by rw [hmn,HM.out])
       have t1:((m:Int) == (n:Int)) = true:=beq_iff_eq.2 (by omega)
       clear hh HD HSX hmn
       go_wp2
       go_ret3
       exact ⟨by rw [HS.out];rfl,belDN HBW.out _⟩
      ·have t1:((m:Int) == (n:Int)) = false:=beq_eq_false_iff_ne.2 (by omega)
       have HNH:=Zh (HNX.out hh hmn)
       clear hh HD hmn
       go_wp2
       go_roundw
       case rel=>exact ⟨k + 1,true,by omega,by go_num,by trivial,HNH.out,HSX.out,belDN HBW.out _⟩
       case measure=>simp [intOf];omega
    ·go_wp2_with fail
     go_quiet ((go_at_call 139;exact Calls.quiet_of (HBX.out _ _ _ ⟨by omega,by simp,.inr ⟨_,_,rfl,rfl,by first | rfl | omega⟩⟩)))
     cases d with
     | false =>
      have HNH:=Zh (HNY.out (by have:=HD.out;simpa using this))
      clear HD
      go_wp2
      go_roundw
      case rel=>exact ⟨k + 1,sb,by omega,by go_num,by trivial,HNH.out.1,HNH.out.2,belDN HBW.out _⟩
      case measure=>simp [intOf];omega
     | true =>
      have hh:hitF l x n k:=by have:=HD.out;simpa using this
      have HSX:Hid (true = true ↔ ∃ j,j < k + 1 /\ hitF l x n j):=⟨fun _=>⟨k,by omega,hh⟩,fun _=>rfl⟩
      by_cases hmn:n = m
      ·have HS:Hid (S = some (k,at_ + n)):=by
        unfold Hid
        rw [HDEC.out,show 22 - n = (21 - n) + 1 by omega]
        exact Zop l bs H20.out _ x n _ k hlt hh (by rw [hmn,HM.out])
       have t1:((m:Int) == (n:Int)) = true:=beq_iff_eq.2 (by omega)
       clear hh HD HSX hmn
       go_wp2
       go_ret3
       exact ⟨by rw [HS.out];rfl,belDN HBW.out _⟩
      ·have t1:((m:Int) == (n:Int)) = false:=beq_eq_false_iff_ne.2 (by omega)
       have HNH:=Zh (HNX.out hh hmn)
       clear hh HD hmn
       go_wp2
       go_roundw
       case rel=>exact ⟨k + 1,true,by omega,by go_num,by trivial,HNH.out,HSX.out,belDN HBW.out _⟩
       case measure=>simp [intOf];omega
   ·obtain rfl:k = l.length:=by omega
    cases sb with
    | false =>
     have HNH:Hid (∀ j,j < l.length -> ¬ hitF l x n j):=by
      unfold Hid
      intro j hj hh
      have:=HSO.out.2 ⟨j,hj,hh⟩
      cases this
     have HS:Hid (S = none):=by
      unfold Hid
      rw [HDEC.out,show 22 - n = (21 - n) + 1 by omega]
      exact Zss l bs H20.out _ x n _ HNH.out
     go_wp2
     go_ret3
     exact ⟨by rw [HS.out];exact ⟨at_ + n,by omega,by omega,rfl⟩,HBW.out⟩
    | true =>
     obtain ⟨j,hj,hh⟩:=HSO.out.1 rfl
     have HON:=Zh (Zzo l bs H20.out (21 - n) x n (at_ + n) j hj hh (HNO.out j hj hh))
     have hjl:n < l.getD j 0:=by have:=hh.2.1;have:=HNO.out j hj hh;omega
     have hj20:=Zfa H20.out j
     have hn19:n < 20:=by omega
     clear hh hjl hj20
     by_cases hend:at_ + n = L.length
     ·have t0:(((at_:Int) + (n:Int)) == (L.length:Int)) = true:=beq_iff_eq.2 (by omega)
      have HS:Hid (S = none):=by
       unfold Hid
       rw [HDEC.out,show 22 - n = (21 - n) + 1 by omega,HON.out,if_neg (by omega)]
      go_wp2
      go_ret3
      exact ⟨by rw [HS.out];exact ⟨at_ + n,by omega,by omega,rfl⟩,HBW.out⟩
     ·have t0:(((at_:Int) + (n:Int)) == (L.length:Int)) = false:=beq_eq_false_iff_ne.2 (by omega)
      have HS:Hid (S = decF (tabOf l) bs (22 - (n + 1)) (2 * x + bit bs (at_ + n)) (n + 1) (at_ + (n + 1))):=by
       unfold Hid
       rw [HDEC.out,show 22 - n = (21 - n) + 1 by omega,HON.out,if_pos (by omega),show 22 - (n + 1) = 21 - n by omega,Nat.add_assoc]
      have HT2:=Zh (HC0.out n x (by omega) HTK.out)
      have hb2:=Zdy bs (at_ + n)
      have HX3:Hid (2 * x + bit bs (at_ + n) < 2 ^ (n + 1)):=by unfold Hid;have:=HX2.out;rw [Nat.pow_succ];omega
      go_wp2
      go_roundw
      case rel=>exact ⟨n + 1,2 * x + bit bs (at_ + n),by go_num,by omega,by omega,HX3.out,HT2.out,HS.out,HBW.out⟩
      case measure=>simp [intOf];omega
end Go.Proofs.YtnkpnjnfddjfpaaGreat

namespace Go.Proofs.YtnkpnjnfddjfpaaGreat
open Go.RowKit M01 M04 M10
set_option maxRecDepth 100000 in
set_option maxHeartbeats 1600000 in
theorem Zuh (a:Option Addr) (cap:Nat) (l:List Nat) (w:World) (hr:RowN .u8 w a cap l) (h0:(wordsE l).2 ≠ 0) :
  Calls Tryz.prog 138 #[.slice a l.length cap] w fun e w'=>e = .returned (.tuple #[.slice none 0 0,.int .i64 ((wordsE l).2:Nat)]) /\ Below w.heap.size w w':=by
 have hlen:=hr.len
 have HW:=Zh (Ziq a cap l w hr)
 obtain ⟨er,her⟩:∃ er,(wordsE l).2 = er:=⟨_,rfl⟩
 have hel:er <= 5:=by
  rw [<- her]
  unfold wordsE
  split
  ·exact Nat.le_refl _
  ·split
   ·first | decide | exact Nat.zero_le _
   ·first | decide | exact Nat.zero_le _
 rw [her] at h0 ⊢
 have HER:=Zh her
 have t0:((er:Int) == 0) = false:=beq_eq_false_iff_ne.2 (by omega)
 clear hr her
 go_enter Tryz.func138,Tryz.ntmps138
 go_wp2_with fail
 refine HW.out.mono ?_
 rintro e w1 ⟨wa,wc,rfl,hown,hb1⟩
 rw [HER.out]
 have HB1:=Zh hb1
 clear hown hb1 HW
 go_wp2_with fail
 go_ret2
 exact ⟨rfl,HB1.out⟩
end Go.Proofs.YtnkpnjnfddjfpaaGreat
