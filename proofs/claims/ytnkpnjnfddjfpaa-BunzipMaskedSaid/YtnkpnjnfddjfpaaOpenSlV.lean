/- Slices of slices of bytes that came in, as lists. -/
import Derived.Test.YtnkpnjnfddjfpaaW01
import Derived.Test.YtnkpnjnfddjfpaaW02
import Derived.Test.YtnkpnjnfddjfpaaW03
import Derived.Test.YtnkpnjnfddjfpaaW04
import Derived.Test.YtnkpnjnfddjfpaaW05
import Derived.Test.YtnkpnjnfddjfpaaW06
import Derived.Test.YtnkpnjnfddjfpaaW07
import Derived.Test.YtnkpnjnfddjfpaaW08
import Derived.Test.YtnkpnjnfddjfpaaW09
import Derived.Test.YtnkpnjnfddjfpaaW10
import Derived.Test.YtnkpnjnfddjfpaaW11
import Derived.Test.YtnkpnjnfddjfpaaW12
import Derived.Test.YtnkpnjnfddjfpaaW13
import Derived.Test.YtnkpnjnfddjfpaaW14
import Derived.Test.YtnkpnjnfddjfpaaW15
import Derived.Test.YtnkpnjnfddjfpaaChecked
import Derived.Deep.Matrix
import Derived.ProofKit
import Derived.WalkKit
import Derived.WalkLawsBesides
import Derived.WalkSpells
import Derived.Lib.Hide
import Derived.Deep.RegionLaw
import Derived.Below
import Derived.OneCell
import Derived.OwnWalkIn
import Derived.Laws.BytesString
import Derived.Laws.Bits64b
import Derived.Maps.AppendAt
import Derived.Lib.SlicesS
import Derived.RangeFuncNested
import Derived.RangeFuncBound
import Derived.RangeFuncCalls
import Derived.RangeFuncLeaves
import Derived.RangeFuncWrites
import Derived.Shelf.Abstract
import Derived.Shelf.RegionOpen
import Derived.TacticsInMore
import Derived.LoopNIn
import Derived.LoopIn
import Derived.BigQuiet
import Derived.Deep.QuietTactic
import Derived.StillTailTactics
import Derived.Maps.Own
import Derived.Maps.OwnOps
import Derived.Maps.OwnSet
import Derived.Maps.Views
import Derived.DeepKeys4
import Derived.WalkArith
set_option linter.unusedVariables false
set_option linter.unusedSimpArgs false
namespace Go.Proofs.Ytnkpnjnfddjfpaa
open Go.RowKit Go.Deep
theorem rows_open {H:Type} {enc:TypeId × Value -> H} {W:World} {a:Option Addr} {len cap:Nat} {d:DataW H} {p:List MemPlace} (h:∃ fuel,DataW.trod enc Try.prog W 0 (fun _=>true) true fuel 31 (Value.slice a len cap).cells.toList = some (d,p)) :
  ∃ es:Es,es.length = len /\ RowS encSl W a cap es /\ ∀ i (h:i < es.length),RowN .u8 W es[i].1 es[i].2.1 es[i].2.2 /\ ∀ x ∈ es[i].2.2,x < 256:=by
 obtain ⟨fuel,h⟩:=h
 have ce:Try.prog.cellsOf 22 = 1:=by kernel_rfl
 have cq:Try.prog.cellsOf 5 = 1:=by kernel_rfl
 rcases open_int_rows Try.underlying31 Try.underlying22 Try.underlying5 ce cq h with ⟨hcs,_⟩ | ⟨x,l,c,A,L,C,Z,hcs,_,hl,hm,_,hx⟩
 ·simp [Value.cells] at hcs
  obtain ⟨rfl,rfl,rfl⟩:=hcs
  exact ⟨[],rfl,RowS.nil _ _,fun i h=>absurd h (Nat.not_lt_zero i)⟩
 ·simp [Value.cells] at hcs
  obtain ⟨rfl,rfl,rfl⟩:=hcs
  have each:∀ r,r < cap -> ∃ y:List Nat,y.length = L r /\ RowN .u8 W (A r) (C r) y /\ ∀ n ∈ y,n < 256:=fun r hr=>by
   obtain ⟨_,h2,h3,h4,h5,h6,h7⟩:=hx r hr
   cases ha:A r with
   | none =>
    have hc:=h6 ha
    have hl0:L r = 0:=by omega
    exact ⟨[],hl0.symm,by rw [hc];exact RowN.nil _ _,by simp⟩
   | some a'=>exact Zqj (zs:=Z r) (.inr ⟨a',rfl,h2,h3,h4,fun i hi=>(h7 a' ha).2 i (by omega),h5⟩)
  obtain ⟨q,hq⟩:=choose_lt each
  refine ⟨(List.range len).map fun r=>(A r,C r,q r),by simp,⟨by simpa using hl,⟨by simpa [maxLen] using hm,fun hn=>by cases hn⟩,?_⟩,fun i hi=>?_⟩
  ·by_cases h0:len = 0
   ·subst h0;exact .inl rfl
   ·have e:=(hx 0 (by omega)).1
    simp only [Addr.add,if_true] at e
    obtain ⟨hs,hb⟩:=Zmj e
    have hxf:∀ k,x.add k = ⟨x.block,x.off + k,none⟩:=by
     intro k
     unfold Addr.add
     split
     ·rename_i hk;cases x;simp_all
     ·cases x;simp_all
    refine .inr ⟨x.block,x.off,by cases x;simp_all,hb,fun i v hv=>?_⟩
    have hi:i < len:=by
     have:=(List.getElem?_eq_some_iff.1 hv).1
     rw [Zbt] at this
     simpa [encSl] using this
    have hf:=Zry (c:=encSl) ((List.range len).map fun r=>(A r,C r,q r)) i 0 (by simpa using hi) (by show 0 < 1;omega)
    have e1:i * encSl.sz + 0 = i:=by show i * 1 + 0 = i;omega
    rw [e1,hv] at hf
    have g:=(hx i (by omega)).1
    rw [hxf] at g
    rw [g]
    simp only [List.getElem_map,List.getElem_range,encSl] at hf
    rw [<- (hq i (by omega)).1]
    simpa using hf.symm
  ·simp only [List.length_map,List.length_range] at hi
   simp only [List.getElem_map,List.getElem_range]
   exact ⟨(hq i (by omega)).2.1,(hq i (by omega)).2.2⟩
end Go.Proofs.Ytnkpnjnfddjfpaa
