/- Plain: what is read does not depend on what stands ahead (whole bytes) nor behind; two files, one behind the other; any keep. layer 27's law BunzipJoins. Slices of numbers that came in, as lists. -/
import Derived.Test.YtnkpnjnfddjfpaaGreatQ01
import Derived.Test.YtnkpnjnfddjfpaaGreatQ02
import Derived.Test.YtnkpnjnfddjfpaaGreatQ03
import Derived.Test.YtnkpnjnfddjfpaaGreatQ04
import Derived.Test.YtnkpnjnfddjfpaaGreatQ05
import Derived.Test.YtnkpnjnfddjfpaaGreatQ06
import Derived.Test.YtnkpnjnfddjfpaaGreatQ07
import Derived.Test.YtnkpnjnfddjfpaaGreatQ08
import Derived.Test.YtnkpnjnfddjfpaaGreatQ09
import Derived.Test.YtnkpnjnfddjfpaaGreatQ10
import Derived.Test.YtnkpnjnfddjfpaaGreatQ11
import Derived.Test.YtnkpnjnfddjfpaaGreatQ12
import Derived.Test.YtnkpnjnfddjfpaaGreatQ13
import Derived.Test.YtnkpnjnfddjfpaaGreatQ14
import Derived.Test.YtnkpnjnfddjfpaaGreatQ15
import Derived.Test.YtnkpnjnfddjfpaaGreatQ16
import Derived.Test.YtnkpnjnfddjfpaaGreatQ17
import Derived.Lib.Hide
import Derived.Laws.Bits64b
import Derived.Maps.AppendAt
import Derived.WalkLawsBesides
import Derived.Lib.SlicesS
import Derived.Test.YtnkpnjnfddjfpaaGreatChecked
import Derived.RangeFuncNested
import Derived.RangeFuncBound
import Derived.RangeFuncCalls
import Derived.RangeFuncLeaves
import Derived.RangeFuncWrites
import Derived.Shelf.Abstract
import Derived.Shelf.RegionOpen
import Derived.TacticsInMore
import Derived.LoopNIn
import Derived.LoopIn
import Derived.Below
import Derived.OneCell
import Derived.OwnWalkIn
import Derived.Laws.BytesString
import Derived.WalkKit
import Derived.WalkSpells
import Derived.BigQuiet
import Derived.Deep.QuietTactic
import Derived.Lib.SlBytesConst
import Derived.Deep.RegionLaw
import Derived.StillTailTactics
import Derived.Maps.Own
import Derived.Maps.OwnOps
import Derived.Maps.OwnSet
import Derived.Maps.Views
import Derived.DeepKeys4
import Derived.WalkArith
import Derived.Defers
import Derived.Recover
import Derived.Laws.Pointers
import Derived.Great.BuildSlice
import Derived.Laws.EntriesVeiled
import Derived.Laws.CopyRow
import Derived.Laws.IdiomCopy
import Derived.Laws.CopyOwn
import Derived.Lib.MakeNoZero
import Derived.Orders
import Derived.OrdersIn
import Derived.Tactics
import Derived.TacticsIn
import Derived.StillTail
import Derived.StillTactics
import Derived.Laws.Tables
import Derived.Laws.Rows
import Derived.Laws.StructEq
import Derived.KernelRfl
import Derived.Lib.ConvBytes
set_option linter.unusedVariables false
set_option linter.unusedSimpArgs false
namespace Go.Proofs.YtnkpnjnfddjfpaaGreat.M27
open M01 M02 M04 M06 M10
structure Emb (d:Nat) (B B':List Nat):Prop where
 bit:∀ i,i < nb B -> M01.bit B' (i + d) = M01.bit B i
 len:nb B + d <= nb B'
theorem Emb.left (A C:List Nat):Emb 0 A (A ++ C):=⟨fun i hi=>by
 unfold M01.bit
 have:i / 8 < A.length:=by unfold nb at hi;omega
 rw [Nat.add_zero,List.getD_eq_getElem?_getD,List.getElem?_append_left this,<- List.getD_eq_getElem?_getD],by unfold nb;rw [List.length_append];omega⟩
theorem Emb.right (A C:List Nat):Emb (nb A) C (A ++ C):=⟨fun i hi=>by
 unfold M01.bit nb
 rw [show (i + 8 * A.length) / 8 = A.length + i / 8 by omega,show (i + 8 * A.length) % 8 = i % 8 by omega,List.getD_eq_getElem?_getD,List.getElem?_append_right (by omega),Nat.add_sub_cancel_left,<- List.getD_eq_getElem?_getD],by unfold nb;rw [List.length_append];omega⟩
theorem numH_emb {d:Nat} {B B':List Nat} (h:Emb d B B') (a:Nat):∀ n,a + n <= nb B -> numH B' (a + d) n = numH B a n
 | 0,_=>rfl
 | n + 1,hn=>by
  simp only [numH]
  rw [numH_emb h a n (by omega),show a + d + n = a + n + d by omega,h.bit _ (by omega)]
theorem numG_emb {d:Nat} {B B':List Nat} (h:Emb d B B') {a n x a2:Nat} (e:numG B a n = some (x,a2)):numG B' (a + d) n = some (x,a2 + d):=by
 unfold numG at e ⊢
 split at e
 ·next hn =>
  simp only [Option.some.injEq,Prod.mk.injEq] at e
  have:=h.len
  rw [if_pos (by omega),numH_emb h a n hn,e.1,show a + d + n = a + n + d by omega,e.2]
 ·cases e
theorem numG_le {B:List Nat} {a n x a2:Nat} (e:numG B a n = some (x,a2)):a2 <= nb B:=by
 unfold numG at e
 split at e
 ·simp only [Option.some.injEq,Prod.mk.injEq] at e;omega
 ·cases e
theorem pickB_emb {d:Nat} {B B':List Nat} (h:Emb d B B') (a g:Nat) (ha:a + 16 <= nb B):pickB B' (a + d) g = pickB B a g:=by
 unfold pickB
 congr 1
 refine List.filter_congr fun k hk=>?_
 have:=List.mem_range.1 hk
 rw [show a + d + k = a + k + d by omega,h.bit _ (by omega)]
theorem pickL_emb {d:Nat} {B B':List Nat} (h:Emb d B B') (f0:Nat):∀ m g a out l a2,f0 + g + m <= nb B -> pickL B f0 m g a out = some (l,a2) -> pickL B' (f0 + d) m g (a + d) out = some (l,a2 + d)
 | 0,g,a,out,l,a2,_,e=>by
  simp only [pickL,Option.some.injEq,Prod.mk.injEq] at e ⊢
  exact ⟨e.1,by omega⟩
 | m + 1,g,a,out,l,a2,hb,e=>by
  have hl:=h.len
  unfold pickL at e ⊢
  rw [show f0 + d + g = f0 + g + d by omega,h.bit _ (by omega)]
  split at e
  ·next h1 =>
   rw [if_pos h1]
   split at e
   ·next h2 =>
    rw [if_pos (by omega),pickB_emb h a g h2,show a + d + 16 = a + 16 + d by omega]
    exact pickL_emb h f0 m (g + 1) _ _ l a2 (by omega) e
   ·cases e
  ·next h1 =>
   rw [if_neg h1]
   exact pickL_emb h f0 m (g + 1) _ _ l a2 (by omega) e
theorem pickG_emb {d:Nat} {B B':List Nat} (h:Emb d B B') {a a2:Nat} {l:List Nat} (e:pickG B a = some (l,a2)):pickG B' (a + d) = some (l,a2 + d):=by
 have hl:=h.len
 unfold pickG at e ⊢
 split at e
 ·next h1 =>
  rw [if_pos (by omega)]
  split at e
  ·next out at2 heq =>
   have h2:=pickL_emb h a 16 0 _ _ _ _ (by omega) heq
   rw [show a + d + 16 = a + 16 + d by omega,h2]
   show (if out = [] then none else some (out,at2 + d)) = _
   split at e
   ·cases e
   ·next h3 =>
    rw [if_neg h3]
    simp only [Option.some.injEq,Prod.mk.injEq] at e ⊢
    exact ⟨e.1,by omega⟩
  ·cases e
 ·cases e
theorem lenL_emb {d:Nat} {B B':List Nat} (h:Emb d B B') (n:Nat):∀ f f' k a out l a2,f <= f' -> lenL B f k a n out = some (l,a2) -> lenL B' f' k (a + d) n out = some (l,a2 + d)
 | 0,f',k,a,out,l,a2,_,e=>by simp [lenL] at e
 | f + 1,f',k,a,out,l,a2,hf,e=>by
  have hl:=h.len
  obtain ⟨f',rfl⟩:∃ g,f' = g + 1:=⟨f' - 1,by omega⟩
  unfold lenL at e ⊢
  split at e
  ·next h1 =>
   rw [if_pos h1]
   simp only [Option.some.injEq,Prod.mk.injEq] at e ⊢
   exact ⟨e.1,by omega⟩
  ·next h1 =>
   rw [if_neg h1]
   split at e
   ·cases e
   ·next h2 =>
    rw [if_neg (by omega),h.bit _ (by omega)]
    split at e
    ·next h3 =>
     rw [if_pos h3,show a + d + 1 = a + 1 + d by omega]
     exact lenL_emb h n f f' _ _ _ l a2 (by omega) e
    ·next h3 =>
     rw [if_neg h3]
     split at e
     ·cases e
     ·next h4 =>
      rw [if_neg (by omega),show a + d + 1 = a + 1 + d by omega,h.bit _ (by omega),show a + d + 2 = a + 2 + d by omega]
      exact lenL_emb h n f f' _ _ _ l a2 (by omega) e
theorem lenG_emb {d:Nat} {B B':List Nat} (h:Emb d B B') {a n a2:Nat} {l:List Nat} (e:lenG B a n = some (l,a2)):lenG B' (a + d) n = some (l,a2 + d):=by
 have hl:=h.len
 unfold lenG at e ⊢
 obtain ⟨p,h1,h2⟩:=Option.bind_eq_some_iff.1 e
 rw [numG_emb h (x:=p.1) (a2:=p.2) h1]
 exact lenL_emb h n _ _ _ _ _ l a2 (by omega) h2
theorem onesG_emb {d:Nat} {B B':List Nat} (h:Emb d B B') (t:Nat):∀ f k a r a2,onesG B t f k a = some (r,a2) -> onesG B' t f k (a + d) = some (r,a2 + d)
 | 0,k,a,r,a2,e=>by simp [onesG] at e
 | f + 1,k,a,r,a2,e=>by
  have hl:=h.len
  unfold onesG at e ⊢
  split at e
  ·cases e
  ·next h1 =>
   rw [if_neg (by omega),h.bit _ (by omega)]
   split at e
   ·next h2 =>
    rw [if_pos h2]
    simp only [Option.some.injEq,Prod.mk.injEq] at e ⊢
    exact ⟨e.1,by omega⟩
   ·next h2 =>
    rw [if_neg h2]
    split at e
    ·cases e
    ·next h3 =>
     rw [if_neg h3,show a + d + 1 = a + 1 + d by omega]
     exact onesG_emb h t f _ _ r a2 e
theorem selL_emb {d:Nat} {B B':List Nat} (h:Emb d B B') (t:Nat):∀ n l a out r a2,selL B t n l a out = some (r,a2) -> selL B' t n l (a + d) out = some (r,a2 + d)
 | 0,l,a,out,r,a2,e=>by
  simp only [selL,Option.some.injEq,Prod.mk.injEq] at e ⊢
  exact ⟨e.1,by omega⟩
 | n + 1,l,a,out,r,a2,e=>by
  unfold selL at e ⊢
  obtain ⟨p,h1,h2⟩:=Option.bind_eq_some_iff.1 e
  rw [onesG_emb h t _ _ _ p.1 p.2 h1]
  exact selL_emb h t n _ _ _ r a2 h2
theorem selG_emb {d:Nat} {B B':List Nat} (h:Emb d B B') {a n a2:Nat} {l:List Nat} (e:selG B a n = some (l,a2)):selG B' (a + d) n = some (l,a2 + d):=by
 unfold selG at e ⊢
 obtain ⟨p,h1,h2⟩:=Option.bind_eq_some_iff.1 e
 rw [numG_emb h (x:=p.1) (a2:=p.2) h1]
 show (if p.1 = 0 then none else selL B' n p.1 [0,1,2,3,4,5] (p.2 + d) []) = _
 split at h2
 ·cases h2
 ·next h3 =>
  rw [if_neg h3]
  exact selL_emb h n _ _ _ _ l a2 h2
theorem decF_emb {d:Nat} {B B':List Nat} {F:TF} (h:Emb d B B'):∀ f x k a s a2,decF F B f x k a = some (s,a2) -> decF F B' f x k (a + d) = some (s,a2 + d)
 | 0,x,k,a,s,a2,e=>by simp [decF] at e
 | f + 1,x,k,a,s,a2,e=>by
  have hl:=h.len
  unfold decF at e ⊢
  split at e
  ·cases e
  ·next v hv =>
   split at e
   ·next h0 =>
    rw [if_pos h0]
    simp only [Option.some.injEq,Prod.mk.injEq] at e ⊢
    exact ⟨e.1,by omega⟩
   ·next h0 =>
    rw [if_neg h0]
    split at e
    ·next h1 =>
     unfold nb at hl
     rw [if_pos (by omega),h.bit _ (by unfold nb;omega),show a + d + 1 = a + 1 + d by omega]
     exact decF_emb h f _ _ _ s a2 e
    ·cases e
theorem tabsL_emb {d:Nat} {B B':List Nat} (h:Emb d B B') (n:Nat):∀ m a out r a2,tabsL B n m a out = some (r,a2) -> tabsL B' n m (a + d) out = some (r,a2 + d)
 | 0,a,out,r,a2,e=>by
  simp only [tabsL,Option.some.injEq,Prod.mk.injEq] at e ⊢
  exact ⟨e.1,by omega⟩
 | m + 1,a,out,r,a2,e=>by
  unfold tabsL at e ⊢
  obtain ⟨p,h1,h2⟩:=Option.bind_eq_some_iff.1 e
  rw [lenG_emb h (l:=p.1) (a2:=p.2) h1]
  show (if (wordsE p.1).2 = 0 then tabsL B' n m (p.2 + d) (out ++ [p.1]) else none) = _
  split at h2
  ·next h3 =>
   rw [if_pos h3]
   exact tabsL_emb h n m _ _ r a2 h2
  ·cases h2
theorem symsG_emb {d:Nat} {B B':List Nat} (h:Emb d B B') (tabs:List (List Nat)) (group:List Nat) (t:Nat):∀ f a out r a2,symsG B tabs group t f a out = some (r,a2) -> symsG B' tabs group t f (a + d) out = some (r,a2 + d)
 | 0,a,out,r,a2,e=>by simp [symsG] at e
 | f + 1,a,out,r,a2,e=>by
  unfold symsG at e ⊢
  obtain ⟨p,h1,h2⟩:=Option.bind_eq_some_iff.1 e
  have h3:nextG B' tabs group out.length (a + d) = some (p.1,p.2 + d):=by
   unfold nextG sym at h1 ⊢
   split at h1
   ·next h4 =>
    rw [if_pos h4]
    exact decF_emb h _ _ _ _ p.1 p.2 h1
   ·cases h1
  rw [h3]
  show (if p.1 = t then some (out ++ [p.1],p.2 + d) else symsG B' tabs group t f (p.2 + d) (out ++ [p.1])) = _
  split at h2
  ·next h4 =>
   rw [if_pos h4]
   simp only [Option.some.injEq,Prod.mk.injEq] at h2 ⊢
   exact ⟨h2.1,by omega⟩
  ·next h4 =>
   rw [if_neg h4]
   exact symsG_emb h tabs group t f _ _ r a2 h2
theorem blkG_emb {d:Nat} {B B' l:List Nat} (h:Emb d B B') {a most s a2:Nat} (e:blkG B a most = some (l,s,a2)):blkG B' (a + d) most = some (l,s,a2 + d):=by
 unfold blkG at e ⊢
 obtain ⟨p0,g0,e⟩:=Option.bind_eq_some_iff.1 e
 rw [numG_emb h (x:=p0.1) (a2:=p0.2) g0]
 show blk1 B' most p0.1 (p0.2 + d) = _
 unfold blk1 at e ⊢
 obtain ⟨p1,g1,e⟩:=Option.bind_eq_some_iff.1 e
 rw [numG_emb h (x:=p1.1) (a2:=p1.2) g1]
 show blk2 B' most p0.1 p1.1 (p1.2 + d) = _
 unfold blk2 at e ⊢
 obtain ⟨p2,g2,e⟩:=Option.bind_eq_some_iff.1 e
 rw [numG_emb h (x:=p2.1) (a2:=p2.2) g2]
 show blk3 B' most p0.1 p1.1 p2.1 (p2.2 + d) = _
 unfold blk3 at e ⊢
 obtain ⟨p3,g3,e⟩:=Option.bind_eq_some_iff.1 e
 rw [pickG_emb h (l:=p3.1) (a2:=p3.2) g3]
 show blk4 B' most p0.1 p1.1 p2.1 p3.1 (p3.2 + d) = _
 unfold blk4 at e ⊢
 obtain ⟨p4,g4,e⟩:=Option.bind_eq_some_iff.1 e
 rw [numG_emb h (x:=p4.1) (a2:=p4.2) g4]
 show blk5 B' most p0.1 p1.1 p2.1 p3.1 p4.1 (p4.2 + d) = _
 unfold blk5 at e ⊢
 split at e
 ·cases e
 rename_i hmn
 rw [if_neg hmn]
 obtain ⟨p5,g5,e⟩:=Option.bind_eq_some_iff.1 e
 rw [selG_emb h (l:=p5.1) (a2:=p5.2) g5]
 show blk6 B' most p0.1 p1.1 p2.1 p3.1 p4.1 p5.1 (p5.2 + d) = _
 unfold blk6 at e ⊢
 obtain ⟨p6,g6,e⟩:=Option.bind_eq_some_iff.1 e
 rw [tabsL_emb h _ _ _ _ p6.1 p6.2 g6]
 show blk7 B' most p0.1 p1.1 p2.1 p3.1 p5.1 p6.1 (p6.2 + d) = _
 unfold blk7 at e ⊢
 obtain ⟨p7,g7,e⟩:=Option.bind_eq_some_iff.1 e
 rw [symsG_emb h _ _ _ _ _ _ p7.1 p7.2 g7]
 show blk8 B' most p0.1 p1.1 p2.1 p3.1 p7.1 (p7.2 + d) = _
 unfold blk8 at e ⊢
 obtain ⟨f,g8,e⟩:=Option.bind_eq_some_iff.1 e
 rw [g8]
 show ((backG f p2.1).bind fun b=>_) = _
 obtain ⟨b,g9,e⟩:=Option.bind_eq_some_iff.1 e
 rw [g9]
 simp only [Option.some.injEq,Prod.mk.injEq,Option.bind_some] at e ⊢
 exact ⟨e.1,e.2.1,by omega⟩
theorem bytesG_emb {d:Nat} {B B':List Nat} (h:Emb d B B'):∀ n a out r a2,bytesG B n a out = some (r,a2) -> bytesG B' n (a + d) out = some (r,a2 + d)
 | 0,a,out,r,a2,e=>by
  simp only [bytesG,Option.some.injEq,Prod.mk.injEq] at e ⊢
  exact ⟨e.1,by omega⟩
 | n + 1,a,out,r,a2,e=>by
  unfold bytesG at e ⊢
  obtain ⟨p,h1,h2⟩:=Option.bind_eq_some_iff.1 e
  rw [numG_emb h (x:=p.1) (a2:=p.2) h1]
  exact bytesG_emb h n _ _ r a2 h2
theorem partsG_emb {d:Nat} {B B':List Nat} (h:Emb d B B') (most:Nat):∀ f f' a a2,f <= f' -> (partsG B most f a).2 = some a2 -> partsG B' most f' (a + d) = ((partsG B most f a).1,some (a2 + d))
 | 0,f',a,a2,_,e=>by simp [partsG] at e
 | f + 1,f',a,a2,hf,e=>by
  obtain ⟨f',rfl⟩:∃ g,f' = g + 1:=⟨f' - 1,by omega⟩
  unfold partsG at e ⊢
  cases hm:bytesG B 6 a [] with
  | none=>rw [hm] at e;simp at e
  | some m =>
   obtain ⟨m,a3⟩:=m
   rw [hm] at e
   rw [bytesG_emb h _ _ _ m a3 hm]
   simp only [] at e ⊢
   by_cases h1:m = blockM
   ·rw [if_pos h1] at e ⊢
    rw [if_pos h1]
    cases hb:blkG B a3 most with
    | none=>rw [hb] at e;simp at e
    | some r =>
     obtain ⟨l,s,a4⟩:=r
     rw [hb] at e
     rw [blkG_emb h hb]
     simp only [] at e ⊢
     rw [partsG_emb h most f f' a4 a2 (by omega) e]
   ·rw [if_neg h1] at e ⊢
    rw [if_neg h1]
    by_cases h2:m = endM
    ·rw [if_pos h2] at e ⊢
     rw [if_pos h2]
     simp only [Option.some.injEq] at e
     rw [e]
    ·rw [if_neg h2] at e;simp at e
theorem strmG_emb {d:Nat} {B B':List Nat} (h:Emb d B B') {a a2:Nat} (e:(strmG B a).2 = some a2):strmG B' (a + d) = ((strmG B a).1,some (a2 + d)):=by
 have hl:=h.len
 unfold strmG at e ⊢
 cases hm:bytesG B 4 a [] with
 | none=>rw [hm] at e;simp at e
 | some m =>
  obtain ⟨m,a3⟩:=m
  rw [hm] at e
  rw [bytesG_emb h _ _ _ m a3 hm]
  simp only [] at e ⊢
  split at e
  ·next h1 =>
   rw [if_pos h1,if_pos h1]
   exact partsG_emb h _ _ _ _ _ (by omega) e
  ·simp at e
def sayAll (L:List (List Nat × Nat)):List Nat:=L.flatMap fun p=>say p.1
def badL (L:List (List Nat × Nat)):Bool:=L.any fun p=>!(crcHigh (say p.1) == p.2)
def sumL (L:List (List Nat × Nat)) (s:Nat):Nat:=L.foldl (fun s p=>foldS s p.2) s
def bzT (B:List Nat):Nat -> Nat -> Option (List Nat × Bool)
 | 0,_=>none
 | f + 1,at_=>(strmG B at_).2.bind fun a2=>(numG B a2 32).bind fun c =>
  if (c.2 + 7) / 8 * 8 < nb B then (bzT B f ((c.2 + 7) / 8 * 8)).map fun q=>(sayAll (strmG B at_).1 ++ q.1,(badL (strmG B at_).1 || !(c.1 == sumL (strmG B at_).1 0)) || q.2)
  else some (sayAll (strmG B at_).1,badL (strmG B at_).1 || !(c.1 == sumL (strmG B at_).1 0))
theorem partF_fold (keep:Nat):∀ (L:List (List Nat × Nat)) (T:List Nat) (w:Bool) (s:Nat),∃ w2,L.foldl (partF keep) (⟨T.take keep,T.length,w⟩,s) = (⟨(T ++ sayAll L).take keep,(T ++ sayAll L).length,w2⟩,sumL L s) /\ ((T ++ sayAll L).length <= keep -> w2 = (w || badL L))
 | [],T,w,s=>⟨w,by simp [sayAll,sumL],fun _=>by simp [badL]⟩
 | p :: L,T,w,s=>by
  obtain ⟨w2,h1,h2⟩:=partF_fold keep L (T ++ say p.1) (w || (decide ((say p.1).length <= keep - (T.take keep).length) && !(crcHigh ((say p.1).take (keep - (T.take keep).length)) == p.2))) (foldS s p.2)
  refine ⟨w2,?_,fun hl=>?_⟩
  ·rw [List.foldl_cons]
   have h3:partF keep (⟨T.take keep,T.length,w⟩,s) p = (⟨(T ++ say p.1).take keep,(T ++ say p.1).length,w || (decide ((say p.1).length <= keep - (T.take keep).length) && !(crcHigh ((say p.1).take (keep - (T.take keep).length)) == p.2))⟩,foldS s p.2):=by
    unfold partF
    simp only [Prod.mk.injEq,BzF.mk.injEq,and_true]
    refine ⟨?_,by rw [List.length_append]⟩
    rw [List.take_append,List.length_take]
    congr 2
    omega
   rw [h3,h1]
   simp only [sayAll,List.flatMap_cons,List.append_assoc,sumL,List.foldl_cons]
  ·have h4:(T ++ say p.1 ++ sayAll L).length <= keep:=by
    simpa [sayAll,List.append_assoc] using hl
   rw [h2 h4]
   have h5:(say p.1).length <= keep - (T.take keep).length:=by
    rw [List.length_append,List.length_append] at h4
    rw [List.length_take]
    omega
   rw [decide_eq_true h5,List.take_of_length_le h5]
   simp only [badL,List.any_cons,Bool.true_and,Bool.or_assoc]
theorem bzG_T (B:List Nat) (keep:Nat):∀ (f a:Nat) (T:List Nat) (w:Bool),
  (bzT B f a = none -> bzG B keep f a ⟨T.take keep,T.length,w⟩ = none) ∧
  ∀ U W,bzT B f a = some (U,W) -> ∃ w2,bzG B keep f a ⟨T.take keep,T.length,w⟩ = some ⟨(T ++ U).take keep,(T ++ U).length,w2⟩ /\ ((T ++ U).length <= keep -> w2 = (w || W))
 | 0,a,T,w=>⟨fun _=>rfl,fun U W h=>by simp [bzT] at h⟩
 | f + 1,a,T,w=>by
  cases hs:(strmG B a).2 with
  | none =>
   refine ⟨fun _=>Zws hs,fun U W h=>?_⟩
   unfold bzT at h;rw [hs] at h;simp at h
  | some a2 =>
   cases hn:numG B a2 32 with
   | none =>
    refine ⟨fun _=>?_,fun U W h=>?_⟩
    ·unfold bzG;rw [hs];show (numG B a2 32).bind _ = _;rw [hn];rfl
    ·unfold bzT at h;rw [hs] at h
     replace h:(numG B a2 32).bind _ = some (U,W):=h
     rw [hn] at h;simp at h
   | some c =>
    obtain ⟨x,a3⟩:=c
    obtain ⟨w2,h1,h2⟩:=partF_fold keep (strmG B a).1 T w 0
    rw [Zwt hs hn rfl,h1]
    have hT:bzT B (f + 1) a = if (a3 + 7) / 8 * 8 < nb B then (bzT B f ((a3 + 7) / 8 * 8)).map fun q=>(sayAll (strmG B a).1 ++ q.1,(badL (strmG B a).1 || !(x == sumL (strmG B a).1 0)) || q.2)
      else some (sayAll (strmG B a).1,badL (strmG B a).1 || !(x == sumL (strmG B a).1 0)):=by
     conv=>lhs;unfold bzT
     rw [hs]
     show (numG B a2 32).bind _ = _
     rw [hn]
     rfl
    rw [hT]
    by_cases hc:(a3 + 7) / 8 * 8 < nb B
    ·rw [if_pos hc,if_pos hc]
     obtain ⟨i1,i2⟩:=bzG_T B keep f ((a3 + 7) / 8 * 8) (T ++ sayAll (strmG B a).1) (w2 || !(x == sumL (strmG B a).1 0))
     refine ⟨fun h=>i1 (Option.map_eq_none_iff.1 h),fun U W h=>?_⟩
     obtain ⟨q,hq,he⟩:=Option.map_eq_some_iff.1 h
     simp only [Prod.mk.injEq] at he
     obtain ⟨rfl,rfl⟩:=he
     obtain ⟨w3,h3,h4⟩:=i2 q.1 q.2 hq
     rw [List.append_assoc] at h3 h4
     refine ⟨w3,h3,fun hl=>?_⟩
     rw [h4 hl,h2 (by rw [List.length_append] at hl ⊢;rw [List.length_append] at hl;omega)]
     simp only [Bool.or_assoc]
    ·rw [if_neg hc,if_neg hc]
     refine ⟨fun h=>by simp at h,fun U W h=>?_⟩
     simp only [Option.some.injEq,Prod.mk.injEq] at h
     obtain ⟨rfl,rfl⟩:=h
     refine ⟨_,rfl,fun hl=>?_⟩
     rw [h2 hl]
     simp only [Bool.or_assoc]
theorem strmG_lt {B:List Nat} {a a2:Nat} (h:(strmG B a).2 = some a2):a < a2:=by have:=Zmx B a a2 h;omega
theorem bzT_step {B:List Nat} {f a:Nat} {r:List Nat × Bool} (h:bzT B (f + 1) a = some r):∃ a2 x a3,(strmG B a).2 = some a2 /\ numG B a2 32 = some (x,a3) ∧
  (if (a3 + 7) / 8 * 8 < nb B then (bzT B f ((a3 + 7) / 8 * 8)).map fun q=>(sayAll (strmG B a).1 ++ q.1,(badL (strmG B a).1 || !(x == sumL (strmG B a).1 0)) || q.2)
      else some (sayAll (strmG B a).1,badL (strmG B a).1 || !(x == sumL (strmG B a).1 0))) = some r:=by
 unfold bzT at h
 obtain ⟨a2,h1,h⟩:=Option.bind_eq_some_iff.1 h
 obtain ⟨c,h2,h⟩:=Option.bind_eq_some_iff.1 h
 exact ⟨a2,c.1,c.2,h1,h2,h⟩
theorem bzT_of {B:List Nat} {f a a2 x a3:Nat} {L:List (List Nat × Nat)} (h1:strmG B a = (L,some a2)) (h2:numG B a2 32 = some (x,a3)) :
  bzT B (f + 1) a = if (a3 + 7) / 8 * 8 < nb B then (bzT B f ((a3 + 7) / 8 * 8)).map fun q=>(sayAll L ++ q.1,(badL L || !(x == sumL L 0)) || q.2)
      else some (sayAll L,badL L || !(x == sumL L 0)):=by
 conv=>lhs;unfold bzT
 rw [h1]
 show (numG B a2 32).bind _ = _
 rw [h2]
 rfl
theorem bzT_shift {B B':List Nat} {e:Nat} (h:Emb (8 * e) B B') (hn:nb B' = nb B + 8 * e):∀ f f' a r,nb B <= a + f' -> bzT B f a = some r -> bzT B' f' (a + 8 * e) = some r
 | 0,f',a,r,_,hr=>by simp [bzT] at hr
 | f + 1,f',a,r,hf,hr=>by
  obtain ⟨a2,x,a3,h1,h2,h3⟩:=bzT_step hr
  have g1:=strmG_lt h1
  have g2:=(Zbq h2).1
  have g3:=numG_le h2
  obtain ⟨f',rfl⟩:∃ g,f' = g + 1:=⟨f' - 1,by omega⟩
  rw [bzT_of (strmG_emb h h1) (numG_emb h h2),show (a3 + 8 * e + 7) / 8 * 8 = (a3 + 7) / 8 * 8 + 8 * e by omega,hn]
  split at h3
  ·next hc =>
   rw [if_pos (by omega)]
   obtain ⟨q,hq,he⟩:=Option.map_eq_some_iff.1 h3
   rw [bzT_shift h hn f f' _ q (by omega) hq]
   exact congrArg some he
  ·next hc =>
   rw [if_neg (by omega)]
   exact h3
theorem bzT_lt {B:List Nat} {f a:Nat} {r:List Nat × Bool} (h:bzT B f a = some r):a < nb B:=by
 cases f with
 | zero=>simp [bzT] at h
 | succ f =>
  obtain ⟨a2,x,a3,h1,h2,h3⟩:=bzT_step h
  have g1:=strmG_lt h1
  have g2:=(Zbq h2).1
  have g3:=numG_le h2
  omega
theorem bzT_join {B C:List Nat} {g:Nat} {s:List Nat × Bool} (hs:bzT C g 0 = some s):∀ f f' a r,nb B + nb C <= a + f' -> bzT B f a = some r -> bzT (B ++ C) f' a = some (r.1 ++ s.1,r.2 || s.2)
 | 0,f',a,r,_,hr=>by simp [bzT] at hr
 | f + 1,f',a,r,hf,hr=>by
  obtain ⟨a2,x,a3,h1,h2,h3⟩:=bzT_step hr
  have g1:=strmG_lt h1
  have g2:=(Zbq h2).1
  have g3:=numG_le h2
  have g4:=bzT_lt hs
  have hl:nb (B ++ C) = nb B + nb C:=by unfold nb;rw [List.length_append];omega
  obtain ⟨f',rfl⟩:∃ g,f' = g + 1:=⟨f' - 1,by omega⟩
  have h8:nb B = 8 * B.length:=rfl
  have hst:=bzT_of (f:=f') (strmG_emb (Emb.left B C) h1) (numG_emb (Emb.left B C) h2)
  simp only [Nat.add_zero] at hst
  rw [hst,hl,if_pos (by omega)]
  split at h3
  ·next hc =>
   obtain ⟨q,hq,he⟩:=Option.map_eq_some_iff.1 h3
   rw [bzT_join hs f f' _ q (by omega) hq,<- he]
   simp [Bool.or_assoc]
  ·next hc =>
   have he:(a3 + 7) / 8 * 8 = 0 + 8 * B.length:=by omega
   rw [he,bzT_shift (Emb.right B C) (by rw [hl];unfold nb;omega) g f' 0 s (by omega) hs]
   simp only [Option.some.injEq] at h3
   rw [<- h3]
   simp
theorem partsG_all (B:List Nat) (most:Nat) (hm:most <= 1000000):∀ f a,∀ p ∈ (partsG B most f a).1,p.1.length <= 1000000 /\ ∀ x ∈ p.1,x < 256
 | 0,a=>by simp [partsG]
 | f + 1,a=>by
  unfold partsG
  split
  ·simp
  ·split
   ·split
    ·simp
    ·rename_i e2
     intro p hp
     rcases List.mem_cons.1 hp with rfl | hp
     ·have:=Zne e2 hm
      exact ⟨Nat.le_trans this.2.1 hm,this.2.2.1⟩
     ·exact partsG_all B most hm f _ p hp
   ·split <;> simp
theorem strmG_all (B:List Nat) (a:Nat):∀ p ∈ (strmG B a).1,p.1.length <= 1000000 /\ ∀ x ∈ p.1,x < 256:=by
 unfold strmG
 split
 ·simp
 ·split
  ·next h=>exact partsG_all B _ (by omega) _ _
  ·simp
theorem sayAll_len:∀ (L:List (List Nat × Nat)),(∀ p ∈ L,p.1.length <= 1000000 /\ ∀ x ∈ p.1,x < 256) -> (sayAll L).length <= 255000000 * L.length
 | [],_=>by simp [sayAll]
 | p :: L,h=>by
  have h1:=h p (List.mem_cons_self ..)
  have h2:=Zob p.1 h1.2
  have h3:=sayAll_len L (fun q hq=>h q (List.mem_cons_of_mem _ hq))
  have h4:sayAll (p :: L) = say p.1 ++ sayAll L:=rfl
  rw [h4,List.length_append,List.length_cons]
  omega
theorem bzT_len (B:List Nat):∀ (f a:Nat) (T:List Nat) (W:Bool),bzT B f a = some (T,W) -> T.length <= f * (255000000 * (nb B + 1))
 | 0,a,T,W,h=>by simp [bzT] at h
 | f + 1,a,T,W,h=>by
  obtain ⟨a2,x,a3,h1,h2,h3⟩:=bzT_step h
  have h4:=sayAll_len _ (strmG_all B a)
  have h5:=Nat.mul_le_mul_left 255000000 (Zvp B a)
  rw [Nat.succ_mul]
  split at h3
  ·obtain ⟨q,hq,he⟩:=Option.map_eq_some_iff.1 h3
   simp only [Prod.mk.injEq] at he
   have h6:=bzT_len B f _ q.1 q.2 hq
   rw [<- he.1,List.length_append]
   omega
  ·simp only [Option.some.injEq,Prod.mk.injEq] at h3
   rw [<- h3.1]
   omega
theorem bz_size {l:List Nat} {k:Nat} {F:BzF} (hl:l.length <= 400) (h:bzG (rv l) k (nb (rv l) + 1) 0 ⟨[],0,false⟩ = some F):F.size <= 2700000000000000:=by
 obtain ⟨i1,i2⟩:=bzG_T (rv l) k (nb (rv l) + 1) 0 [] false
 cases ht:bzT (rv l) (nb (rv l) + 1) 0 with
 | none=>have:=i1 ht;simp only [List.take_nil,List.length_nil] at this;rw [this] at h;simp at h
 | some r =>
  obtain ⟨U,W⟩:=r
  obtain ⟨w2,h1,h2⟩:=i2 U W ht
  simp only [List.take_nil,List.length_nil,List.nil_append] at h1
  rw [h1] at h
  simp only [Option.some.injEq] at h
  subst h
  have h3:=bzT_len _ _ _ _ _ ht
  have h4:nb (rv l) + 1 <= 3201:=by unfold nb;rw [Zba];omega
  have h5:=Nat.mul_le_mul h4 (Nat.mul_le_mul_left 255000000 h4)
  simp only
  omega
theorem bz_joins {a b:List Nat} {F G:BzF} (hf:bzG (rv a) 4000 (nb (rv a) + 1) 0 ⟨[],0,false⟩ = some F) (hg:bzG (rv b) 4000 (nb (rv b) + 1) 0 ⟨[],0,false⟩ = some G) (hl:F.size + G.size <= 4000) (n:Nat) :
  F.bytes.length = F.size /\ G.bytes.length = G.size /\ ∃ w,bzG (rv (a ++ b)) n (nb (rv (a ++ b)) + 1) 0 ⟨[],0,false⟩ = some ⟨(F.bytes ++ G.bytes).take n,F.size + G.size,w⟩ /\ (F.size + G.size <= n -> w = (F.wrong || G.wrong)):=by
 have key:∀ (B:List Nat) (F:BzF),bzG B 4000 (nb B + 1) 0 ⟨[],0,false⟩ = some F -> F.size <= 4000 -> bzT B (nb B + 1) 0 = some (F.bytes,F.wrong) /\ F.bytes.length = F.size:=by
  intro B F h hl
  obtain ⟨i1,i2⟩:=bzG_T B 4000 (nb B + 1) 0 [] false
  cases ht:bzT B (nb B + 1) 0 with
  | none=>have:=i1 ht;simp only [List.take_nil,List.length_nil] at this;rw [this] at h;simp at h
  | some r =>
   obtain ⟨U,W⟩:=r
   obtain ⟨w2,h1,h2⟩:=i2 U W ht
   simp only [List.take_nil,List.length_nil,List.nil_append,Bool.false_or] at h1 h2
   rw [h1] at h
   simp only [Option.some.injEq] at h
   subst h
   simp only [] at hl ⊢
   rw [h2 hl,List.take_of_length_le hl]
   exact ⟨rfl,rfl⟩
 obtain ⟨hF,hf2⟩:=key _ _ hf (by omega)
 obtain ⟨hG,hg2⟩:=key _ _ hg (by omega)
 refine ⟨hf2,hg2,?_⟩
 have hl2:nb (rv (a ++ b)) = nb (rv a) + nb (rv b):=by unfold nb;rw [Zuz,List.length_append];omega
 have hj:=bzT_join hG _ (nb (rv (a ++ b)) + 1) 0 _ (by omega) hF
 rw [<- Zuz] at hj
 obtain ⟨w2,h1,h2⟩:=(bzG_T (rv (a ++ b)) n (nb (rv (a ++ b)) + 1) 0 [] false).2 _ _ hj
 simp only [List.take_nil,List.length_nil,List.nil_append,Bool.false_or,List.length_append,hf2,hg2] at h1 h2
 exact ⟨w2,h1,h2⟩
end Go.Proofs.YtnkpnjnfddjfpaaGreat.M27

namespace Go.Proofs.YtnkpnjnfddjfpaaGreat
open Go.RowKit M01 M02 M04 M06 M10 M27
def FwAt (w:World) (bx:Nat) (a:Option Addr) (c:Nat) (l:List Nat) (s u:Nat) (b:Bool):Prop:=FourC bx w (.slice a l.length c) (.int .i64 (s:Nat)) (.int .i64 (u:Nat)) (.bool b) /\ RowN .u8 w a c l
theorem FwAt.new {w:World} {a:Option Addr} {c:Nat} {l:List Nat} (s u:Nat) (b:Bool) (h:RowN .u8 w a c l):FwAt (w.alloc (.cells #[.slice a l.length c,.int .i64 (s:Nat),.int .i64 (u:Nat),.bool b] 24)) w.heap.size a c l s u b :=
 ⟨Zcl _ _ rfl,h.below (Zai w _)⟩
theorem FwAt.below {w w':World} {bx:Nat} {a:Option Addr} {c:Nat} {l:List Nat} {s u:Nat} {b:Bool} (h:FwAt w bx a c l s u b) (hb:Below w.heap.size w w'):FwAt w' bx a c l s u b :=
 ⟨FourC.below h.1 hb,h.2.below hb⟩
def bzR (l:List Nat) (k:Nat):Option BzF:=bzG (rv l) k (nb (rv l) + 1) 0 ⟨[],0,false⟩
theorem bz_some {w:World} {a:Option Addr} {c:Nat} {l:List Nat} {k:Nat} {F:BzF} (h:RowN .u8 w a c l) (h256:∀ x ∈ l,x < 256) (hl:l.length <= 1000) (hk:k <= 4000) (hR:bzR l k = some F) :
  Calls Tryz.prog 8 #[.slice a l.length c,.int .i64 (k:Nat)] w fun e w'=>Below w.heap.size w w' /\ ∃ a c,e = .returned (.tuple #[.agg #[.slice a F.bytes.length c,.int .i64 (F.size:Nat),.int .i64 (l.length:Nat),.bool F.wrong],.int .i64 0]) /\ RowN .u8 w' a c F.bytes:=by
 refine (Zli w a c l k h h256 (by omega) (by omega)).mono fun e w' h=>?_
 unfold bzR at hR
 rw [hR] at h
 obtain ⟨h1,a,c,h3,h4⟩:=h
 exact ⟨h1,a,c,h3,h4⟩
theorem bz_none {w:World} {a:Option Addr} {c:Nat} {l:List Nat} {k:Nat} (h:RowN .u8 w a c l) (h256:∀ x ∈ l,x < 256) (hl:l.length <= 1000) (hk:k <= 4000) (hR:bzR l k = none) :
  Calls Tryz.prog 8 #[.slice a l.length c,.int .i64 (k:Nat)] w fun e w'=>Below w.heap.size w w' /\ e = .returned (.tuple #[.agg #[.slice none 0 0,.int .i64 0,.int .i64 0,.bool false],.int .i64 2]):=by
 refine (Zli w a c l k h h256 (by omega) (by omega)).mono fun e w' h=>?_
 unfold bzR at hR
 rw [hR] at h
 exact h
theorem bz_out {w:World} {a:Option Addr} {c:Nat} {l:List Nat} {k:Nat} (h:RowN .u8 w a c l) (h256:∀ x ∈ l,x < 256) (hl:l.length <= 1000) (hk:k <= 4000) :
  Calls Tryz.prog 8 #[.slice a l.length c,.int .i64 (k:Nat)] w fun e w'=>Below w.heap.size w w' /\ ∃ x n c v1 v2 v3 er,e = .returned (.tuple #[.agg #[.slice x n c,.int .i64 v1,.int .i64 v2,.bool v3],.int .i64 er]):=by
 cases hR:bzR l k with
 | none=>exact (bz_none h h256 hl hk hR).mono fun e w' h=>⟨h.1,_,_,_,_,_,_,_,h.2⟩
 | some F=>exact (bz_some h h256 hl hk hR).mono fun e w' h=>by obtain ⟨h1,a,c,h3,_⟩:=h;exact ⟨h1,_,_,_,_,_,_,_,h3⟩
theorem same_nil (w:World):Calls Tryz.prog 10 #[.agg #[.slice none 0 0,.int .i64 0,.int .i64 0,.bool false],.agg #[.slice none 0 0,.int .i64 0,.int .i64 0,.bool false]] w fun e w'=>e = .returned (.bool true) /\ Below w.heap.size w w' :=
 Zrc w none none 0 0 [] 0 0 false (RowN.nil _ _) (RowN.nil _ _)
set_option maxRecDepth 100000 in
set_option maxHeartbeats 6400000 in
theorem law27_joins_all (w:World) (a b:Option Addr) (ca cb:Nat) (l m:List Nat) (kp:Nat) (ha:RowN .u8 w a ca l) (hb:RowN .u8 w b cb m) (hl:∀ x ∈ l,x < 256) (hm:∀ x ∈ m,x < 256) (hk:kp < 65536) :
  Calls Tryz.prog 4 #[.slice a l.length ca,.slice b m.length cb,.int .u16 (kp:Nat)] w fun e w'=>e = .returned (.bool true) /\ Below w.heap.size w w':=by
 by_cases c1:400 < l.length
 ·have t1:decide ((400:Int) < (l.length:Int)) = true:=by simp;omega
  clear ha hb hl hm c1
  go_enter Tryz.func4,Tryz.ntmps4
  go_wp2
  go_ret
  exact ⟨rfl,Below.refl _ _⟩
 have t1:decide ((400:Int) < (l.length:Int)) = false:=by simp;omega
 by_cases c2:400 < m.length
 ·have t2:decide ((400:Int) < (m.length:Int)) = true:=by simp;omega
  clear ha hb hl hm c1 c2
  go_enter Tryz.func4,Tryz.ntmps4
  go_wp2
  go_ret
  exact ⟨rfl,Below.refl _ _⟩
 have t2:decide ((400:Int) < (m.length:Int)) = false:=by simp;omega
 have HL:=Zh (show l.length <= 400 by omega)
 have HM:=Zh (show m.length <= 400 by omega)
 have HA:=Zh ha
 have HBR:=Zh hb
 have HLB:=Zh hl
 have HMB:=Zh hm
 clear ha hb hl hm c1 c2
 obtain ⟨n,hn⟩:∃ n,kp % 4001 = n:=⟨_,rfl⟩
 have hn4:n <= 4000:=by omega
 have hn2:((kp:Nat):Int) % 4001 = (n:Int):=by omega
 have hn3:Int.tmod ((kp:Nat):Int) 4001 = (n:Int):=by rw [<- hn];rfl
 clear hn
 cases hR:bzR l 4000 with
 | none =>
  have HR:=Zh hR
  clear hR
  go_enter Tryz.func4,Tryz.ntmps4
  go_wp2_with fail
  refine (bz_none (k:=4000) HA.out HLB.out (by have:=HL.out;omega) (by decide) HR.out).mono ?_
  rintro e w1 ⟨hb1,rfl⟩
  have hb2:=Zai w1 (.cells #[.slice none 0 0,.int .i64 0,.int .i64 0,.bool false] 24)
  have HB2:=Zh (hb1.trans (hb2.mono hb1.size))
  have HF2:Hid (FourC w1.heap.size (w1.alloc (.cells #[.slice none 0 0,.int .i64 0,.int .i64 0,.bool false] 24)) (.slice none 0 0) (.int .i64 0) (.int .i64 0) (.bool false)):=Zcl _ _ rfl
  clear hb1 hb2
  go_wp2_with fail
  obtain ⟨w2,hw2⟩:∃ w2,w1.alloc (.cells #[.slice none 0 0,.int .i64 0,.int .i64 0,.bool false] 24) = w2:=⟨_,rfl⟩
  rw [hw2] at HB2 HF2
  rw [hw2]
  clear hw2
  generalize w1.heap.size = bf at *
  refine (bz_out (k:=4000) (HBR.out.below HB2.out) HMB.out (by have:=HM.out;omega) (by decide)).mono ?_
  rintro e w3 ⟨hb3,vx,vn,vc,v1,v2,v3,er,rfl⟩
  have hb4:=Zai w3 (.cells #[.slice vx vn vc,.int .i64 v1,.int .i64 v2,.bool v3] 24)
  have HF4:=Zh ((FourC.below HF2.out hb3).below hb4)
  have HB4:=Zh ((HB2.out.trans (hb3.mono HB2.out.size)).trans (hb4.mono (HB2.out.trans (hb3.mono HB2.out.size)).size))
  clear HF2 HB2 hb3 hb4
  obtain ⟨e0,e1,e2,e3,_,_⟩:=Zac HF4.out
  go_wp2_with fail
  refine (same_nil _).mono ?_
  rintro e w5 ⟨rfl,hb5⟩
  have HB5:=Zh (HB4.out.trans (hb5.mono HB4.out.size))
  clear hb5 e0 e1 e2 e3 HB4
  go_wp2_with fail
  refine (Znn _).mono ?_
  rintro e w6 ⟨rfl,hb6⟩
  have HB6:=Zh (HB5.out.trans (hb6.mono HB5.out.size))
  clear hb6 HB5
  go_wp2
  go_ret
  exact ⟨rfl,HB6.out⟩
 | some F =>
  have HR:=Zh hR
  cases hQ:bzR m 4000 with
  | none =>
   have HQ:=Zh hQ
   clear hR hQ
   go_enter Tryz.func4,Tryz.ntmps4
   go_wp2_with fail
   refine (bz_some (k:=4000) HA.out HLB.out (by have:=HL.out;omega) (by decide) HR.out).mono ?_
   rintro e w1 ⟨hb1,a1,k1,rfl,hr1⟩
   have hb2:=Zai w1 (.cells #[.slice a1 F.bytes.length k1,.int .i64 (F.size:Nat),.int .i64 (l.length:Nat),.bool F.wrong] 24)
   have HB2:=Zh (hb1.trans (hb2.mono hb1.size))
   clear hb1 hb2 hr1
   go_wp2_with fail
   obtain ⟨w2,hw2⟩:∃ w2,w1.alloc (.cells #[.slice a1 F.bytes.length k1,.int .i64 (F.size:Nat),.int .i64 (l.length:Nat),.bool F.wrong] 24) = w2:=⟨_,rfl⟩
   rw [hw2] at HB2
   rw [hw2]
   clear hw2
   generalize w1.heap.size = bf at *
   refine (bz_none (k:=4000) (HBR.out.below HB2.out) HMB.out (by have:=HM.out;omega) (by decide) HQ.out).mono ?_
   rintro e w3 ⟨hb3,rfl⟩
   have hb4:=Zai w3 (.cells #[.slice none 0 0,.int .i64 0,.int .i64 0,.bool false] 24)
   have HB4:=Zh ((HB2.out.trans (hb3.mono HB2.out.size)).trans (hb4.mono (HB2.out.trans (hb3.mono HB2.out.size)).size))
   clear HB2 hb3 hb4
   go_wp2_with fail
   refine (Znn _).mono ?_
   rintro e w6 ⟨rfl,hb6⟩
   have HB6:=Zh (HB4.out.trans (hb6.mono HB4.out.size))
   clear hb6 HB4
   go_wp2
   go_ret
   exact ⟨rfl,HB6.out⟩
  | some G =>
   have HQ:=Zh hQ
   clear hR hQ
   by_cases hs:F.size + G.size <= 4000
   ·obtain ⟨j1,j2,j3⟩:=bz_joins HR.out HQ.out hs 4000
    obtain ⟨i1,i2,i3⟩:=bz_joins HR.out HQ.out hs n
    obtain ⟨w4,j3,j4⟩:=j3
    obtain ⟨wn,i3,_⟩:=i3
    obtain rfl:=j4 hs
    clear i1 i2 j4
    obtain ⟨fb,sf,bf⟩:=F
    obtain ⟨gb,sg,bg⟩:=G
    simp only at *
    subst j1 j2
    rw [List.take_of_length_le (by rw [List.length_append];exact hs)] at j3
    obtain ⟨z,hz⟩:∃ z,fb.length + gb.length = z:=⟨_,rfl⟩
    rw [hz] at j3 i3 hs
    have hzi:(fb.length:Int) + (gb.length:Int) = (z:Int):=by omega
    have hzw:IntKind.i64.wrap ((fb.length:Int) + (gb.length:Int)) = (z:Int):=by rw [hzi];exact IntWalk.i64_in _ (by omega)
    have t3:decide ((4000:Int) < (z:Int)) = false:=by simp;omega
    have t3':decide (4000 < z) = false:=by simp;omega
    obtain ⟨xb,hxb⟩:∃ xb,fb ++ gb = xb:=⟨_,rfl⟩
    rw [hxb] at j3 i3
    have hxl:xb.length = z:=by rw [<- hxb,List.length_append,hz]
    obtain ⟨yb,hyb⟩:∃ yb,xb.take n = yb:=⟨_,rfl⟩
    rw [hyb] at i3
    have HLG:Hid (yb.length = min n z):=by unfold Hid;rw [<- hyb,List.length_take,hxl]
    have HPG:Hid (xb.take yb.length = yb):=by
     unfold Hid
     rw [HLG.out,<- hyb]
     rcases Nat.le_total n z with h | h
     ·rw [Nat.min_eq_left h]
     ·rw [Nat.min_eq_right h,List.take_of_length_le (by omega),List.take_of_length_le (by omega)]
    have HST:Hid (strOf fb ++ strOf gb = strOf xb):=by unfold Hid;rw [<- hxb,Zek]
    obtain ⟨cl,hcl⟩:∃ cl,l ++ m = cl:=⟨_,rfl⟩
    rw [hcl] at j3 i3
    have HCL:Hid (cl.length = l.length + m.length):=by unfold Hid;rw [<- hcl,List.length_append]
    have HCB:Hid (∀ x ∈ cl,x < 256):=by
     unfold Hid;rw [<- hcl];intro x hx
     rcases List.mem_append.1 hx with h | h
     ·exact HLB.out x h
     ·exact HMB.out x h
    obtain ⟨bx,hbx⟩:∃ bx,(bf || bg) = bx:=⟨_,rfl⟩
    rw [hbx] at j3
    replace hbx:=Zh hbx
    have HJ:=Zh j3
    have HI:=Zh i3
    have HXL:=Zh hxl
    replace hcl:=Zh hcl
    clear j3 i3 hxb hyb hz hxl
    go_enter Tryz.func4,Tryz.ntmps4
    go_wp2_with fail
    refine (bz_some (k:=4000) HA.out HLB.out (by have:=HL.out;omega) (by decide) HR.out).mono ?_
    rintro e w1 ⟨hb1,a1,k1,rfl,hr1⟩
    dsimp only at hr1 ⊢
    have hb2:=Zai w1 (.cells #[.slice a1 fb.length k1,.int .i64 (fb.length:Nat),.int .i64 (l.length:Nat),.bool bf] 24)
    have HB2:=Zh (hb1.trans (hb2.mono hb1.size))
    have HF2:=Zh (FwAt.new (w:=w1) fb.length l.length bf hr1)
    clear hb1 hb2 hr1
    go_wp2_with fail
    obtain ⟨w2,hw2⟩:∃ w2,w1.alloc (.cells #[.slice a1 fb.length k1,.int .i64 (fb.length:Nat),.int .i64 (l.length:Nat),.bool bf] 24) = w2:=⟨_,rfl⟩
    rw [hw2] at HB2 HF2
    rw [hw2]
    clear hw2
    generalize w1.heap.size = p1 at *
    refine (bz_some (k:=4000) (HBR.out.below HB2.out) HMB.out (by have:=HM.out;omega) (by decide) HQ.out).mono ?_
    rintro e w3 ⟨hb3,a3,k3,rfl,hr3⟩
    dsimp only at hr3 ⊢
    have hb4:=Zai w3 (.cells #[.slice a3 gb.length k3,.int .i64 (gb.length:Nat),.int .i64 (m.length:Nat),.bool bg] 24)
    have HF4:=Zh ((HF2.out.below hb3).below hb4)
    have HG4:=Zh (FwAt.new (w:=w3) gb.length m.length bg hr3)
    have HB4:=Zh ((HB2.out.trans (hb3.mono HB2.out.size)).trans (hb4.mono (HB2.out.trans (hb3.mono HB2.out.size)).size))
    clear HF2 HB2 hb3 hb4 hr3
    obtain ⟨f0,f1,f2,f3,_,_⟩:=Zac HF4.out.1
    obtain ⟨g0,g1,g2,g3,_,_⟩:=Zac HG4.out.1
    have hb5:Below (w3.heap.size + 1) (w3.alloc (.cells #[.slice a3 gb.length k3,.int .i64 (gb.length:Nat),.int .i64 (m.length:Nat),.bool bg] 24)) ((w3.alloc (.cells #[.slice a3 gb.length k3,.int .i64 (gb.length:Nat),.int .i64 (m.length:Nat),.bool bg] 24)).alloc (.cells #[] 5)):=by
     have h:=Zai (w3.alloc (.cells #[.slice a3 gb.length k3,.int .i64 (gb.length:Nat),.int .i64 (m.length:Nat),.bool bg] 24)) (.cells #[] 5)
     rw [World.size_alloc] at h
     exact h
    have HL0:Hid (OwnN 5 .u8 ((w3.alloc (.cells #[.slice a3 gb.length k3,.int .i64 (gb.length:Nat),.int .i64 (m.length:Nat),.bool bg] 24)).alloc (.cells #[] 5)) (w3.heap.size + 1) (some ⟨w3.heap.size + 1,0,none⟩) 0 []):=by
     have h:=OwnN.lit0 5 .u8 (w3.alloc (.cells #[.slice a3 gb.length k3,.int .i64 (gb.length:Nat),.int .i64 (m.length:Nat),.bool bg] 24)) (w3.heap.size + 1) (by simp)
     rw [World.size_alloc] at h
     exact h
    have HX:Hid (∀ A,Below (w3.heap.size + 1) (w3.alloc (.cells #[.slice a3 gb.length k3,.int .i64 (gb.length:Nat),.int .i64 (m.length:Nat),.bool bg] 24)) A -> RowN .u8 A a ca l /\ RowN .u8 A b cb m /\ FwAt A p1 a1 k1 fb fb.length l.length bf /\ FwAt A w3.heap.size a3 k3 gb gb.length m.length bg /\ Below w.heap.size w A):=fun A h=>by
     have h':Below (w3.alloc (.cells #[.slice a3 gb.length k3,.int .i64 (gb.length:Nat),.int .i64 (m.length:Nat),.bool bg] 24)).heap.size (w3.alloc (.cells #[.slice a3 gb.length k3,.int .i64 (gb.length:Nat),.int .i64 (m.length:Nat),.bool bg] 24)) A:=by rw [World.size_alloc];exact h
     exact ⟨(HA.out.below HB4.out).below h',(HBR.out.below HB4.out).below h',HF4.out.below h',HG4.out.below h',HB4.out.trans (h'.mono HB4.out.size)⟩
    have HA5:=Zh (HX.out _ hb5).1
    have hl4:l.length <= 400:=HL.out
    have hm4:m.length <= 400:=HM.out
    have hbs:w3.heap.size + 1 <= ((w3.alloc (.cells #[.slice a3 gb.length k3,.int .i64 (gb.length:Nat),.int .i64 (m.length:Nat),.bool bg] 24)).alloc (.cells #[] 5)).heap.size:=Nat.le_trans (by simp) hb5.size
    replace hb5:=Zh hb5
    replace hbs:=Zh hbs
    go_wp2_with (first
     | (at_builtin;refine appAnyN Zaz rfl (.tmp 63) (.tmp 64) rfl (a:=some ⟨w3.heap.size + 1,0,none⟩) (cap:=0) (l:=[]) (ys:=l) (base:=w3.heap.size + 1) rfl HL0.out rfl rfl HA5.out (by simp;omega) (by simp;omega) hbs.out ?_;intro a6 c6 w6 hown6 hg6 hb6;simp only [List.nil_append] at hown6;replace hb6:=hb5.out.trans hb6)
     | (at_builtin;refine appAnyN Zaz rfl (.tmp 65) (.tmp 66) rfl (a:=a6) (cap:=c6) (l:=l) (ys:=m) (base:=w3.heap.size + 1) rfl hown6 rfl rfl (HX.out _ hb6).2.1 (by omega) (by omega) (Nat.le_trans (by simp) hb6.size) ?_;intro a7 c7 w7 hown7 hg7 hb7))
    obtain ⟨x1,x2,HF7,HG7,HB7⟩:=HX.out _ (hb6.trans hb7)
    have hr7:=hown7.row
    rw [hcl.out] at hr7
    replace HF7:=Zh HF7
    replace HG7:=Zh HG7
    replace HB7:=Zh HB7
    have HC7:=Zh hr7
    clear x1 x2 hown6 hg6 hb6 hown7 hg7 hb7 hr7 HX HL0 HA5 hb5 hbs HF4 HG4 HB4 f0 f1 f2 f3 g0 g1 g2 g3
    generalize w3.heap.size = p3 at *
    have hcll:l.length + m.length = cl.length:=HCL.out.symm
    rw [hcll]
    refine (bz_some (k:=4000) HC7.out HCB.out (by have:=HCL.out;omega) (by decide) HJ.out).mono ?_
    rintro e w8 ⟨hb8,a8,k8,rfl,hr8⟩
    dsimp only at hr8 ⊢
    have hb9:=Zai w8 (.cells #[.slice a8 xb.length k8,.int .i64 (z:Nat),.int .i64 (cl.length:Nat),.bool bx] 24)
    have HF9:=Zh ((HF7.out.below hb8).below hb9)
    have HG9:=Zh ((HG7.out.below hb8).below hb9)
    have HX9:=Zh (FwAt.new (w:=w8) z cl.length bx hr8)
    have HB9:=Zh ((HB7.out.trans (hb8.mono HB7.out.size)).trans (hb9.mono (HB7.out.trans (hb8.mono HB7.out.size)).size))
    have HC9:=Zh ((HC7.out.below hb8).below hb9)
    clear HF7 HG7 HB7 HC7 hb8 hb9 hr8
    obtain ⟨f0,f1,f2,f3,_,_⟩:=Zac HF9.out.1
    obtain ⟨g0,g1,g2,g3,_,_⟩:=Zac HG9.out.1
    obtain ⟨x0,x1,x2,x3,_,_⟩:=Zac HX9.out.1
    have hcv1:=Zbs (n:=fb.length) Tryz.underlying22 Tryz.underlying5 Tryz.underlying9 rfl HF9.out.2
    have hcv2:=Zbs (n:=gb.length) Tryz.underlying22 Tryz.underlying5 Tryz.underlying9 rfl HG9.out.2
    have hcv3:=Zbs (n:=xb.length) Tryz.underlying22 Tryz.underlying5 Tryz.underlying9 rfl HX9.out.2
    have hst:=HST.out
    have hssz:¬ (9223372036854775807 < (strOf fb).size + (strOf gb).size):=by rw [Zby,Zby];omega
    obtain ⟨sf,hsf⟩:∃ s,strOf fb = s:=⟨_,rfl⟩
    obtain ⟨sg,hsg⟩:∃ s,strOf gb = s:=⟨_,rfl⟩
    obtain ⟨sx,hsx⟩:∃ s,strOf xb = s:=⟨_,rfl⟩
    rw [hsf,hsg,hsx] at hst
    rw [hsf,hsg] at hssz
    rw [hsf] at hcv1
    rw [hsg] at hcv2
    rw [hsx] at hcv3
    have tl:(sx.toList == sx.toList) = true:=by simp
    have tz:((z:Int) != (z:Int)) = false:=by simp
    have tu:((cl.length:Int) != (cl.length:Int)) = false:=by simp
    have tw:(bx != bx) = false:=by simp
    clear hsf hsg hsx
    cases bf with
    | false =>
     have hbx2:bg = bx:=by simpa using hbx.out
     subst hbx2
     go_wp2_with fail
     obtain ⟨w9,hw9⟩:∃ w9,w8.alloc (.cells #[.slice a8 xb.length k8,.int .i64 (z:Nat),.int .i64 (cl.length:Nat),.bool bg] 24) = w9:=⟨_,rfl⟩
     rw [hw9] at HX9 HB9 HC9
     rw [hw9]
     clear hw9 hssz f0 f1 f2 f3 g0 g1 g2 g3 x0 x1 x2 x3 hcv1 hcv2 hcv3 hst tl tz tu tw HF9 HG9
     generalize w8.heap.size = p8 at *
     refine (bz_some (k:=n) HC9.out HCB.out (by have:=HCL.out;omega) hn4 HI.out).mono ?_
     rintro e w10 ⟨hb10,a10,k10,rfl,hr10⟩
     dsimp only at hr10 ⊢
     have hb11:=Zai w10 (.cells #[.slice a10 yb.length k10,.int .i64 (z:Nat),.int .i64 (cl.length:Nat),.bool wn] 24)
     have HX11:=Zh ((HX9.out.below hb10).below hb11)
     have HY11:=Zh (FwAt.new (w:=w10) z cl.length wn hr10)
     have HB11:=Zh ((HB9.out.trans (hb10.mono HB9.out.size)).trans (hb11.mono (HB9.out.trans (hb10.mono HB9.out.size)).size))
     clear HX9 HB9 HC9 hb10 hb11 hr10
     go_wp2_with fail
     obtain ⟨w11,hw11⟩:∃ w11,w10.alloc (.cells #[.slice a10 yb.length k10,.int .i64 (z:Nat),.int .i64 (cl.length:Nat),.bool wn] 24) = w11:=⟨_,rfl⟩
     rw [hw11] at HX11 HY11 HB11
     rw [hw11]
     clear hw11
     generalize w10.heap.size = p10 at *
     have hsub:=Zcu HX11.out.2 yb.length
     rw [HPG.out] at hsub
     have hcv1:(convert 22 9 (.slice a10 yb.length k10)).run Tryz.prog w11.drew = .ok (.string (strOf yb)) w11.drew:=Zbs Tryz.underlying22 Tryz.underlying5 Tryz.underlying9 rfl (show RowN .u8 w11.drew a10 k10 yb from HY11.out.2)
     have hcv2:(convert 22 9 (.slice a8 yb.length k8)).run Tryz.prog w11.drew = .ok (.string (strOf yb)) w11.drew:=Zbs Tryz.underlying22 Tryz.underlying5 Tryz.underlying9 rfl (show RowN .u8 w11.drew a8 k8 yb from hsub)
     have hcap:=hsub.1
     clear hsub
     obtain ⟨x0,x1,x2,x3,_,_⟩:=Zac HX11.out.1
     obtain ⟨y0,y1,y2,y3,_,_⟩:=Zac HY11.out.1
     have q1:(if z < n then (z:Int) else (n:Int)) = (yb.length:Int):=by rw [HLG.out];split <;> omega
     have q3:(0:Int) <= (yb.length:Int):=by omega
     have q4:(yb.length:Int) <= (k8:Int):=by omega
     have tz:((z:Int) == (z:Int)) = true:=by simp
     have tu:((cl.length:Int) == (cl.length:Int)) = true:=by simp
     have ty:((yb.length:Int) == (yb.length:Int)) = true:=by simp
     have HB12:=Zh (show Below w.heap.size w w11.drew from ⟨HB11.out.os,HB11.out.tape,HB11.out.output,HB11.out.size,HB11.out.block⟩)
     have HRD:=Zh (Znn w11.drew)
     generalize strOf yb = str at *
     have tl:(str.toList == str.toList) = true:=by simp
     refine Zcv 40 _ rfl (by kernel_rfl) (by kernel_rfl) ?_
     simp only [List.take_succ_cons,List.take_zero,List.drop_succ_cons,List.drop_zero]
     repeat still_step
     refine wpStill_nil ?_
     go_wp2_with fail
     refine HRD.out.mono ?_
     rintro e w13 ⟨rfl,hb13⟩
     have HB13:=Zh (HB12.out.trans (hb13.mono HB12.out.size))
     clear hb13 HB12
     go_wp2_with fail
     repeat still_step
     refine wpStill_nil ?_
     go_wp2
     go_ret
     exact ⟨rfl,HB13.out⟩
    | true =>
     have hbx2:true = bx:=by simpa using hbx.out
     subst hbx2
     go_wp2_with fail
     obtain ⟨w9,hw9⟩:∃ w9,w8.alloc (.cells #[.slice a8 xb.length k8,.int .i64 (z:Nat),.int .i64 (cl.length:Nat),.bool true] 24) = w9:=⟨_,rfl⟩
     rw [hw9] at HX9 HB9 HC9
     rw [hw9]
     clear hw9 hssz f0 f1 f2 f3 g0 g1 g2 g3 x0 x1 x2 x3 hcv1 hcv2 hcv3 hst tl tz tu tw HF9 HG9
     generalize w8.heap.size = p8 at *
     refine (bz_some (k:=n) HC9.out HCB.out (by have:=HCL.out;omega) hn4 HI.out).mono ?_
     rintro e w10 ⟨hb10,a10,k10,rfl,hr10⟩
     dsimp only at hr10 ⊢
     have hb11:=Zai w10 (.cells #[.slice a10 yb.length k10,.int .i64 (z:Nat),.int .i64 (cl.length:Nat),.bool wn] 24)
     have HX11:=Zh ((HX9.out.below hb10).below hb11)
     have HY11:=Zh (FwAt.new (w:=w10) z cl.length wn hr10)
     have HB11:=Zh ((HB9.out.trans (hb10.mono HB9.out.size)).trans (hb11.mono (HB9.out.trans (hb10.mono HB9.out.size)).size))
     clear HX9 HB9 HC9 hb10 hb11 hr10
     go_wp2_with fail
     obtain ⟨w11,hw11⟩:∃ w11,w10.alloc (.cells #[.slice a10 yb.length k10,.int .i64 (z:Nat),.int .i64 (cl.length:Nat),.bool wn] 24) = w11:=⟨_,rfl⟩
     rw [hw11] at HX11 HY11 HB11
     rw [hw11]
     clear hw11
     generalize w10.heap.size = p10 at *
     have hsub:=Zcu HX11.out.2 yb.length
     rw [HPG.out] at hsub
     have hcv1:(convert 22 9 (.slice a10 yb.length k10)).run Tryz.prog w11.drew = .ok (.string (strOf yb)) w11.drew:=Zbs Tryz.underlying22 Tryz.underlying5 Tryz.underlying9 rfl (show RowN .u8 w11.drew a10 k10 yb from HY11.out.2)
     have hcv2:(convert 22 9 (.slice a8 yb.length k8)).run Tryz.prog w11.drew = .ok (.string (strOf yb)) w11.drew:=Zbs Tryz.underlying22 Tryz.underlying5 Tryz.underlying9 rfl (show RowN .u8 w11.drew a8 k8 yb from hsub)
     have hcap:=hsub.1
     clear hsub
     obtain ⟨x0,x1,x2,x3,_,_⟩:=Zac HX11.out.1
     obtain ⟨y0,y1,y2,y3,_,_⟩:=Zac HY11.out.1
     have q1:(if z < n then (z:Int) else (n:Int)) = (yb.length:Int):=by rw [HLG.out];split <;> omega
     have q3:(0:Int) <= (yb.length:Int):=by omega
     have q4:(yb.length:Int) <= (k8:Int):=by omega
     have tz:((z:Int) == (z:Int)) = true:=by simp
     have tu:((cl.length:Int) == (cl.length:Int)) = true:=by simp
     have ty:((yb.length:Int) == (yb.length:Int)) = true:=by simp
     have HB12:=Zh (show Below w.heap.size w w11.drew from ⟨HB11.out.os,HB11.out.tape,HB11.out.output,HB11.out.size,HB11.out.block⟩)
     have HRD:=Zh (Znn w11.drew)
     generalize strOf yb = str at *
     have tl:(str.toList == str.toList) = true:=by simp
     refine Zcv 40 _ rfl (by kernel_rfl) (by kernel_rfl) ?_
     simp only [List.take_succ_cons,List.take_zero,List.drop_succ_cons,List.drop_zero]
     repeat still_step
     refine wpStill_nil ?_
     go_wp2_with fail
     refine HRD.out.mono ?_
     rintro e w13 ⟨rfl,hb13⟩
     have HB13:=Zh (HB12.out.trans (hb13.mono HB12.out.size))
     clear hb13 HB12
     go_wp2_with fail
     repeat still_step
     refine wpStill_nil ?_
     go_wp2
     go_ret
     exact ⟨rfl,HB13.out⟩
   ·obtain ⟨z,hz⟩:∃ z,F.size + G.size = z:=⟨_,rfl⟩
    have hzi:(F.size:Int) + (G.size:Int) = (z:Int):=by omega
    have hzb:z <= 6000000000000000:=by
     have h1:=bz_size (by have:=HL.out;omega) HR.out
     have h2:=bz_size (by have:=HM.out;omega) HQ.out
     omega
    have hzw:wrap64 (z:Int) = (z:Int):=IntWalk.wrap64_in _ (by omega)
    have t3:decide ((4000:Int) < (z:Int)) = true:=by simp;omega
    have t3':decide (4000 < z) = true:=by simp;omega
    have hz4:4000 < z:=by omega
    have hz5:(4000:Int) < (z:Int):=by omega
    clear hzb hz hs
    go_enter Tryz.func4,Tryz.ntmps4
    go_wp2_with fail
    refine (bz_some (k:=4000) HA.out HLB.out (by have:=HL.out;omega) (by decide) HR.out).mono ?_
    rintro e w1 ⟨hb1,a1,k1,rfl,hr1⟩
    have hb2:=Zai w1 (.cells #[.slice a1 F.bytes.length k1,.int .i64 (F.size:Nat),.int .i64 (l.length:Nat),.bool F.wrong] 24)
    have HB2:=Zh (hb1.trans (hb2.mono hb1.size))
    have HF2:=Zh (FwAt.new (w:=w1) F.size l.length F.wrong hr1)
    clear hb1 hb2 hr1
    go_wp2_with fail
    obtain ⟨w2,hw2⟩:∃ w2,w1.alloc (.cells #[.slice a1 F.bytes.length k1,.int .i64 (F.size:Nat),.int .i64 (l.length:Nat),.bool F.wrong] 24) = w2:=⟨_,rfl⟩
    rw [hw2] at HB2 HF2
    rw [hw2]
    clear hw2
    generalize w1.heap.size = bf at *
    refine (bz_some (k:=4000) (HBR.out.below HB2.out) HMB.out (by have:=HM.out;omega) (by decide) HQ.out).mono ?_
    rintro e w3 ⟨hb3,a3,k3,rfl,hr3⟩
    have hb4:=Zai w3 (.cells #[.slice a3 G.bytes.length k3,.int .i64 (G.size:Nat),.int .i64 (m.length:Nat),.bool G.wrong] 24)
    have HF4:=Zh ((HF2.out.below hb3).below hb4)
    have HG4:=Zh (FwAt.new (w:=w3) G.size m.length G.wrong hr3)
    have HB4:=Zh ((HB2.out.trans (hb3.mono HB2.out.size)).trans (hb4.mono (HB2.out.trans (hb3.mono HB2.out.size)).size))
    clear HF2 HB2 hb3 hb4 hr3
    obtain ⟨f0,f1,f2,f3,_,_⟩:=Zac HF4.out.1
    obtain ⟨g0,g1,g2,g3,_,_⟩:=Zac HG4.out.1
    go_wp2_with fail
    refine (Znn _).mono ?_
    rintro e w6 ⟨rfl,hb6⟩
    have HB6:=Zh (HB4.out.trans (hb6.mono HB4.out.size))
    clear hb6 HB4
    go_wp2
    go_ret
    exact ⟨rfl,HB6.out⟩
end Go.Proofs.YtnkpnjnfddjfpaaGreat

namespace Go.Proofs.YtnkpnjnfddjfpaaGreat
open Go.RowKit
theorem bd_u16 {n:Int} (h:(Lit.int .u16 n).wf = true):0 <= n /\ n < 65536:=by
 simp [Lit.wf,IntKind.min,IntKind.max,IntKind.signed,IntKind.bits] at h
 omega
end Go.Proofs.YtnkpnjnfddjfpaaGreat
