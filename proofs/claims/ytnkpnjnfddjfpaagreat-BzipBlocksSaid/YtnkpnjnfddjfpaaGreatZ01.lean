/- Plain mathematics of layer 4: the weight of a code, and its words. Plain mathematics of layer 4: words of a code do not begin with one another; a row of 20 bits begins with one word, where the code is full. Plain mathematics of layer 20's Pack, and of the parts of layer 28: pieces, what they are packed as, how far there is room. Plain words that all walks of this seat use: a slice that is read as a list of numbers. Owned slices of numbers: what a call makes itself, as a list; laws for make, append, load and store. A range over a function, over a plain list of rows: what an iterator promises, what its caller owes. The iterator may keep state of its own in cells. After the kit's laws for ranges over functions. Elements of rows; what Words answers. kraft.order hands out the symbols in order; kraft.Words answers the words. Owned slices of elements of several cells (structs), as lists: what a call makes itself; laws for append, load. Words that all seats use: of the model's parts, of bits, of bytes. A region whose order is drawn, by an invariant over what has come up: each operation leaves its own value, whatever else has come up (plain, and in a fence). A drawn region inside a round: first operations that only read, in any order; then the rest, in the text's order. A drawn region of reads at the wide fence (outside all rounds). -/
import Derived.Lib.Hide
import Derived.WalkKit
import Derived.WalkLawsBesides
import Derived.WalkSpells
import Derived.Below
import Derived.OneCell
import Derived.OwnWalkIn
import Derived.Laws.BytesString
import Derived.RangeFuncNested
import Derived.RangeFuncBound
import Derived.RangeFuncCalls
import Derived.RangeFuncLeaves
import Derived.RangeFuncWrites
import Derived.Shelf.Abstract
import Derived.Shelf.RegionOpen
import Derived.TacticsInMore
import Derived.LoopNIn
import Derived.LoopIn
import Derived.Test.YtnkpnjnfddjfpaaGreatChecked
import Derived.BigQuiet
import Derived.Deep.QuietTactic
import Derived.Laws.Bits64b
import Derived.Maps.AppendAt
import Derived.Lib.SlicesS
import Derived.Orders
import Derived.OrdersIn
import Derived.Tactics
import Derived.TacticsIn
import Derived.StillTail
import Derived.StillTactics
set_option linter.unusedVariables false
set_option linter.unusedSimpArgs false
namespace Go.Proofs.YtnkpnjnfddjfpaaGreat
theorem Zh {p : Prop} (h : p) : RowKit.Hid p := h
end Go.Proofs.YtnkpnjnfddjfpaaGreat
namespace Go.Proofs.YtnkpnjnfddjfpaaGreat.M01
end Go.Proofs.YtnkpnjnfddjfpaaGreat.M01
namespace Go.Proofs.YtnkpnjnfddjfpaaGreat.M02
end Go.Proofs.YtnkpnjnfddjfpaaGreat.M02
namespace Go.Proofs.YtnkpnjnfddjfpaaGreat.M02w
end Go.Proofs.YtnkpnjnfddjfpaaGreat.M02w
namespace Go.Proofs.YtnkpnjnfddjfpaaGreat.M04
end Go.Proofs.YtnkpnjnfddjfpaaGreat.M04
namespace Go.Proofs.YtnkpnjnfddjfpaaGreat.M06
end Go.Proofs.YtnkpnjnfddjfpaaGreat.M06
namespace Go.Proofs.YtnkpnjnfddjfpaaGreat.M10
end Go.Proofs.YtnkpnjnfddjfpaaGreat.M10
namespace Go.Proofs.YtnkpnjnfddjfpaaGreat.M27
end Go.Proofs.YtnkpnjnfddjfpaaGreat.M27
namespace Go.Proofs.YtnkpnjnfddjfpaaGreat.M04
def wt (n:Nat):Nat:=if n = 0 then 0 else 2 ^ (20 - n)
def May (l:List Nat):Prop:=(∀ x ∈ l,x <= 20) /\ l.length <= 512
instance (l:List Nat):Decidable (May l):=by unfold May;infer_instance
def S (f:Nat -> Nat):Nat -> Nat
 | 0=>0
 | m + 1=>S f m + f m
theorem Zfq {f g:Nat -> Nat} {m:Nat} (h:∀ j,j < m -> f j = g j):S f m = S g m:=by
 induction m with
 | zero=>rfl
 | succ m ih=>simp only [S];rw [ih fun j hj=>h j (by omega),h m (by omega)]
theorem S_le {f g:Nat -> Nat} {m:Nat} (h:∀ j,j < m -> f j <= g j):S f m <= S g m:=by
 induction m with
 | zero=>simp [S]
 | succ m ih=>simp only [S];have:=ih fun j hj=>h j (by omega);have:=h m (by omega);omega
theorem Zfx {f g:Nat -> Nat} {m k:Nat} (hk:k < m) (h:∀ j,j < m -> j ≠ k -> f j = g j):S f m + g k = S g m + f k:=by
 induction m with
 | zero=>omega
 | succ m ih =>
  simp only [S]
  by_cases e:k = m
  ·subst e
   rw [Zfq (fun j hj=>h j (by omega) (by omega))];omega
  ·have:=ih (by omega) (fun j hj hne=>h j (by omega) hne)
   have:=h m (by omega) (by omega)
   omega
def pre (l:List Nat) (n k j:Nat):Prop:=l.getD j 0 ≠ 0 /\ (l.getD j 0 < n \/ l.getD j 0 = n /\ j < k)
instance (l:List Nat) (n k j:Nat):Decidable (pre l n k j):=by unfold pre;infer_instance
def acc (l:List Nat) (n k:Nat):Nat:=S (fun j=>if pre l n k j then wt (l.getD j 0) else 0) l.length
def word (l:List Nat) (i:Nat):Nat:=if l.getD i 0 = 0 then 0 else acc l (l.getD i 0) i / 2 ^ (20 - l.getD i 0)
theorem Zfr (l:List Nat) (n k:Nat) (hn:n ≠ 0) (hk:k < l.length) (h:l[k] = n):acc l n (k + 1) = acc l n k + 2 ^ (20 - n):=by
 have hg:l.getD k 0 = n:=by simp [hk,h]
 have:=Zfx (f:=fun j=>if pre l n (k + 1) j then wt (l.getD j 0) else 0) (g:=fun j=>if pre l n k j then wt (l.getD j 0) else 0) hk (fun j hj hne=>by
  have:pre l n (k + 1) j ↔ pre l n k j:=by unfold pre;omega
  simp only [this])
 rw [if_neg (by unfold pre;omega),if_pos (by unfold pre;omega),hg,wt,if_neg hn] at this
 unfold acc
 omega
end Go.Proofs.YtnkpnjnfddjfpaaGreat.M04

namespace Go.Proofs.YtnkpnjnfddjfpaaGreat.M04
def start (l:List Nat) (i:Nat):Nat:=acc l (l.getD i 0) i
def size (l:List Nat) (i:Nat):Nat:=2 ^ (20 - l.getD i 0)
theorem Zfm (l:List Nat) {n k n' k' j:Nat} (h:n < n' \/ n = n' /\ k <= k') (hp:pre l n k j):pre l n' k' j:=by
 unfold pre at *;omega
theorem Zff (l:List Nat) {n k n' k':Nat} (h:n < n' \/ n = n' /\ k <= k'):acc l n k <= acc l n' k':=S_le fun j _=>by
 by_cases hp:pre l n k j
 ·rw [if_pos hp,if_pos (Zfm l h hp)];exact Nat.le_refl _
 ·rw [if_neg hp];exact Nat.zero_le _
theorem Zfb (l:List Nat) (i:Nat) (hi:i < l.length) (h0:l.getD i 0 ≠ 0):acc l (l.getD i 0) (i + 1) = start l i + size l i :=
 Zfr l _ i h0 hi (by simp [hi])
theorem Zbo (l:List Nat) (i k:Nat) (hi:i < l.length) (h0:l.getD i 0 ≠ 0) (h:l.getD i 0 < l.getD k 0 \/ l.getD i 0 = l.getD k 0 /\ i < k):start l i + size l i <= start l k:=by
 rw [<- Zfb l i hi h0];exact Zff l (by omega)
def hit (l:List Nat) (row i:Nat):Prop:=l.getD i 0 ≠ 0 /\ row / size l i = word l i
instance (l:List Nat) (row i:Nat):Decidable (hit l row i):=by unfold hit;infer_instance
theorem apart (l:List Nat) (i k:Nat) (hi:i < l.length) (hk:k < l.length) (h0:l.getD i 0 ≠ 0) (h1:l.getD k 0 ≠ 0) (hne:i ≠ k):start l i + size l i <= start l k \/ start l k + size l k <= start l i:=by
 by_cases h:l.getD i 0 < l.getD k 0 \/ l.getD i 0 = l.getD k 0 /\ i < k
 ·exact .inl (Zbo l i k hi h0 h)
 ·exact .inr (Zbo l k i hk h1 (by omega))
end Go.Proofs.YtnkpnjnfddjfpaaGreat.M04

namespace Go.Proofs.YtnkpnjnfddjfpaaGreat.M20
def runN (c:Nat):Nat -> List Nat -> Nat
 | 0,_=>0
 | _ + 1,[]=>0
 | m + 1,x :: r=>if x = c then runN c m r + 1 else 0
theorem Zez (c:Nat):∀ (m:Nat) (l:List Nat),runN c m l <= m /\ runN c m l <= l.length
 | 0,_=>⟨Nat.le_refl _,Nat.zero_le _⟩
 | _ + 1,[]=>⟨Nat.zero_le _,Nat.le_refl _⟩
 | m + 1,x :: r=>by
  have:=Zez c m r
  unfold runN
  split
  ·rw [List.length_cons];omega
  ·exact ⟨Nat.zero_le _,Nat.zero_le _⟩
theorem Zey (c:Nat):∀ (m:Nat) (l:List Nat) (k:Nat),k < runN c m l -> l.getD k 0 = c
 | 0,_,k,h=>by simp [runN] at h
 | _ + 1,[],k,h=>by simp [runN] at h
 | m + 1,x :: r,k,h=>by
  unfold runN at h
  split at h
  ·next hx =>
   cases k with
   | zero=>exact hx
   | succ k=>rw [List.getD_cons_succ];exact Zey c m r k (by omega)
  ·omega
theorem Zdc (c:Nat):∀ (m:Nat) (l:List Nat),runN c m l = m \/ runN c m l = l.length \/ l.getD (runN c m l) 0 ≠ c
 | 0,_=>.inl rfl
 | _ + 1,[]=>.inr (.inl rfl)
 | m + 1,x :: r=>by
  unfold runN
  split
  ·next hx =>
   rw [List.length_cons,List.getD_cons_succ]
   rcases Zdc c m r with h | h | h
   ·left;omega
   ·right;left;omega
   ·right;right;exact h
  ·next hx=>right;right;exact hx
def pieceN:List Nat -> Nat
 | []=>0
 | c :: r=>runN c 254 r + 1
theorem Zbb (c:Nat) (r:List Nat):pieceN (c :: r) = runN c 254 r + 1:=rfl
theorem Zai {l:List Nat} (h:l ≠ []):1 <= pieceN l /\ pieceN l <= 255 /\ pieceN l <= l.length:=by
 cases l with
 | nil=>exact absurd rfl h
 | cons c r =>
  have:=Zez c 254 r
  rw [Zbb,List.length_cons]
  omega
theorem Zcy {l:List Nat} {k:Nat} (h:k < pieceN l):l.getD k 0 = l.getD 0 0:=by
 cases l with
 | nil=>simp [pieceN] at h
 | cons c r =>
  cases k with
  | zero=>rfl
  | succ k=>rw [List.getD_cons_succ,List.getD_cons_zero];exact Zey c 254 r k (by rw [Zbb] at h;omega)
theorem Zdm {l:List Nat} (h:l ≠ []):pieceN l = 255 \/ pieceN l = l.length \/ l.getD (pieceN l) 0 ≠ l.getD 0 0:=by
 cases l with
 | nil=>exact absurd rfl h
 | cons c r =>
  rw [Zbb,List.length_cons,List.getD_cons_succ,List.getD_cons_zero]
  rcases Zdc c 254 r with h | h | h
  ·left;omega
  ·right;left;omega
  ·right;right;exact h
def pcsF:Nat -> List Nat -> List (Nat × Nat)
 | 0,_=>[]
 | f + 1,l=>if l = [] then [] else (l.getD 0 0,pieceN l) :: pcsF f (l.drop (pieceN l))
theorem Zes:∀ (f g:Nat) (l:List Nat),l.length <= f -> l.length <= g -> pcsF f l = pcsF g l
 | 0,0,l,_,_=>rfl
 | 0,g + 1,l,h,_=>by
  have:l = []:=List.length_eq_zero_iff.1 (by omega)
  subst this;rfl
 | f + 1,0,l,_,h=>by
  have:l = []:=List.length_eq_zero_iff.1 (by omega)
  subst this;rfl
 | f + 1,g + 1,l,h1,h2=>by
  unfold pcsF
  split
  ·rfl
  ·next hl =>
   have:=Zai hl
   rw [Zes f g _ (by rw [List.length_drop];omega) (by rw [List.length_drop];omega)]
def pcs (l:List Nat):List (Nat × Nat):=pcsF l.length l
theorem Zdl:pcs [] = []:=rfl
theorem Zbq {l:List Nat} (h:l ≠ []):pcs l = (l.getD 0 0,pieceN l) :: pcs (l.drop (pieceN l)):=by
 have:=Zai h
 unfold pcs
 obtain ⟨f,hf⟩:∃ f,l.length = f + 1:=⟨l.length - 1,by omega⟩
 conv=>lhs;rw [hf];unfold pcsF
 rw [if_neg h,Zes f _ _ (by rw [List.length_drop];omega) (Nat.le_refl _)]
def leftP (l:List Nat):Nat -> List Nat
 | 0=>l
 | i + 1=>(leftP l i).drop (pieceN (leftP l i))
theorem Zbr (l:List Nat):∀ i,pcs (leftP l i) = (pcs l).drop i
 | 0=>rfl
 | i + 1=>by
  show pcs ((leftP l i).drop (pieceN (leftP l i))) = _
  have ih:=Zbr l i
  by_cases h:leftP l i = []
  ·rw [h] at ih ⊢
   rw [Zdl] at ih
   have:(pcs l).length <= i:=List.drop_eq_nil_iff.1 ih.symm
   rw [List.drop_of_length_le (l:=pcs l) (by omega),List.drop_nil,Zdl]
  ·rw [Zbq h] at ih
   rw [<- List.drop_drop,<- ih]
   rfl
theorem Zbl {l:List Nat} {i:Nat} (h:i < (pcs l).length):leftP l i ≠ []:=by
 intro e
 have:=Zbr l i
 rw [e,Zdl] at this
 have:=List.drop_eq_nil_iff.1 this.symm
 omega
theorem Zet {l:List Nat} {i:Nat} (h:i < (pcs l).length):(pcs l)[i] = ((leftP l i).getD 0 0,pieceN (leftP l i)):=by
 have h1:=Zbr l i
 rw [Zbq (Zbl h),List.drop_eq_getElem_cons h] at h1
 exact (List.cons.inj h1).1.symm
theorem Zdu (l:List Nat):leftP l (pcs l).length = []:=by
 have:=Zbr l (pcs l).length
 rw [List.drop_length] at this
 by_cases h:leftP l (pcs l).length = []
 ·exact h
 ·rw [Zbq h] at this;cases this
def usedL (l:List Nat) (i:Nat):Nat:=(((pcs l).take i).map (·.2)).sum
theorem Zaz {l:List Nat} {i:Nat} (h:i < (pcs l).length):usedL l (i + 1) = usedL l i + pieceN (leftP l i):=by
 unfold usedL
 rw [List.take_succ_eq_append_getElem h,List.map_append,List.sum_append,Zet h]
 simp
theorem Zal (l:List Nat):∀ i,i <= (pcs l).length -> leftP l i = l.drop (usedL l i) /\ usedL l i <= l.length
 | 0,_=>⟨rfl,Nat.zero_le _⟩
 | i + 1,h=>by
  obtain ⟨h1,h2⟩:=Zal l i (by omega)
  have h3:=Zai (Zbl (l:=l) (i:=i) (by omega))
  rw [Zaz (by omega)]
  have h4:(leftP l i).length = l.length - usedL l i:=by rw [h1,List.length_drop]
  refine ⟨?_,by omega⟩
  show (leftP l i).drop (pieceN (leftP l i)) = _
  rw [<- List.drop_drop,<- h1]
theorem Zdd (l:List Nat):usedL l (pcs l).length = l.length:=by
 obtain ⟨h1,h2⟩:=Zal l _ (Nat.le_refl _)
 rw [Zdu] at h1
 have:=congrArg List.length h1
 rw [List.length_drop,List.length_nil] at this
 omega
theorem Zfd {l:List Nat} {i:Nat} (h0:0 < i) (h:i <= (pcs l).length):0 < usedL l i:=by
 obtain ⟨i,rfl⟩:∃ j,i = j + 1:=⟨i - 1,by omega⟩
 rw [Zaz (by omega)]
 have:=Zai (Zbl (l:=l) (i:=i) (by omega))
 omega
theorem Zfk {l:List Nat} {i:Nat} (h:i < (pcs l).length):(leftP l i).take (pieceN (leftP l i)) = List.replicate (pieceN (leftP l i)) ((leftP l i).getD 0 0):=by
 have h3:=Zai (Zbl h)
 generalize leftP l i = m at h3
 refine List.ext_getElem (by rw [List.length_take,List.length_replicate];omega) fun k h1 h2=>?_
 rw [List.getElem_take,List.getElem_replicate]
 have hk:k < pieceN m:=by rw [List.length_replicate] at h2;exact h2
 have:=Zcy hk
 rw [List.getD_eq_getElem?_getD,List.getElem?_eq_getElem (by omega)] at this
 exact this
def pkd (p:Nat × Nat):List Nat:=if 4 <= p.2 then List.replicate 4 p.1 ++ [p.2 - 4] else List.replicate p.2 p.1
theorem Zdn (p:Nat × Nat):(pkd p).length <= 5 /\ 4 * (pkd p).length <= 5 * p.2:=by
 unfold pkd
 split
 ·simp;omega
 ·simp;omega
def outP (ps:List (Nat × Nat)) (i:Nat):List Nat:=(ps.take i).flatMap pkd
theorem Zbw {ps:List (Nat × Nat)} {i:Nat} (h:i < ps.length):outP ps (i + 1) = outP ps i ++ pkd ps[i]:=by
 unfold outP
 rw [List.take_succ_eq_append_getElem h,List.flatMap_append]
 simp
def fitN (room:Nat):List (Nat × Nat) -> Nat -> Nat
 | [],_=>0
 | p :: ps,acc=>if room < acc + (pkd p).length then 0 else fitN room ps (acc + (pkd p).length) + 1
theorem Zba (room:Nat):∀ (ps:List (Nat × Nat)) (acc:Nat),fitN room ps acc <= ps.length
 | [],_=>Nat.le_refl _
 | p :: ps,acc=>by
  unfold fitN
  split
  ·exact Nat.zero_le _
  ·have:=Zba room ps (acc + (pkd p).length)
   rw [List.length_cons];omega
theorem Zdf (room:Nat):∀ (ps:List (Nat × Nat)) (acc i:Nat) (h:i < ps.length),i < fitN room ps acc -> acc + (outP ps i).length + (pkd ps[i]).length <= room
 | [],_,_,h,_=>by simp at h
 | p :: ps,acc,i,h,hi=>by
  unfold fitN at hi
  split at hi
  ·omega
  ·next hn =>
   cases i with
   | zero=>show acc + 0 + (pkd p).length <= room;omega
   | succ i =>
    have:=Zdf room ps (acc + (pkd p).length) i (by rw [List.length_cons] at h;omega) (by omega)
    have h2:outP (p :: ps) (i + 1) = pkd p ++ outP ps i:=by simp [outP]
    rw [h2,List.length_append,List.getElem_cons_succ]
    omega
theorem Zbt (room : Nat) : ∀ (ps : List (Nat × Nat)) (acc : Nat) (h : fitN room ps acc < ps.length), room < acc + (outP ps (fitN room ps acc)).length + (pkd ps[fitN room ps acc]).length
  | [], _, h => by simp at h
  | p :: ps, acc, h => by
    by_cases hn : room < acc + (pkd p).length
    · have h0 : fitN room (p :: ps) acc = 0 := by unfold fitN; rw [if_pos hn]
      simp only [h0]
      show room < acc + 0 + (pkd p).length
      omega
    · have h0 : fitN room (p :: ps) acc = fitN room ps (acc + (pkd p).length) + 1 := by conv => lhs; unfold fitN
                                                                                        rw [if_neg hn]
      have h' : fitN room ps (acc + (pkd p).length) < ps.length := by rw [h0, List.length_cons] at h; omega
      have := Zbt room ps (acc + (pkd p).length) h'
      simp only [h0]
      have h2 : ∀ i, outP (p :: ps) (i + 1) = pkd p ++ outP ps i := fun i => by simp [outP]
      rw [h2, List.length_append, List.getElem_cons_succ]
      omega
def packG (room:Nat) (l:List Nat):List Nat × Nat:=(outP (pcs l) (fitN room (pcs l) 0),usedL l (fitN room (pcs l) 0))
theorem Zdv (room:Nat) (l:List Nat):(packG room l).2 <= l.length:=(Zal l _ (Zba _ _ _)).2
theorem Zaq {room:Nat} {l:List Nat} (h5:5 <= room) (h:l ≠ []):0 < (packG room l).2:=by
 refine Zfd ?_ (Zba _ _ _)
 rw [Zbq h]
 unfold fitN
 have:=(Zdn (l.getD 0 0,pieceN l)).1
 rw [if_neg (by omega)]
 omega
theorem Zbg (l:List Nat):∀ i,i <= (pcs l).length -> 4 * (outP (pcs l) i).length <= 5 * usedL l i
 | 0,_=>Nat.le_refl _
 | i + 1,h=>by
  have:=Zbg l i (by omega)
  rw [Zbw (by omega),Zaz (by omega),List.length_append]
  have h2:=(Zdn (pcs l)[i]).2
  rw [Zet (by omega)] at h2 ⊢
  simp only at h2 ⊢
  omega
theorem Zef (room:Nat) (l:List Nat):(packG room l).2 = l.length \/ 4 * room <= 5 * (packG room l).2 + 16:=by
 rcases Nat.lt_or_ge (fitN room (pcs l) 0) (pcs l).length with h | h
 ·right
  have h1:=Zbt room (pcs l) 0 h
  have h2:=Zbg l _ (Zba room (pcs l) 0)
  have h3:=(Zdn (pcs l)[fitN room (pcs l) 0]).1
  unfold packG
  simp only at *
  omega
 ·left
  have:fitN room (pcs l) 0 = (pcs l).length:=Nat.le_antisymm (Zba _ _ _) h
  unfold packG
  rw [this]
  exact Zdd l
theorem Zcw {room:Nat} {l:List Nat} (h:5 * l.length <= 4 * room):(packG room l).2 = l.length:=by
 rcases Nat.lt_or_ge (fitN room (pcs l) 0) (pcs l).length with h1 | h1
 ·have h2:=Zbt room (pcs l) 0 h1
  rw [Nat.zero_add,<- List.length_append,<- Zbw h1] at h2
  have h3:=Zbg l (fitN room (pcs l) 0 + 1) (by omega)
  have h4:=(Zal l (fitN room (pcs l) 0 + 1) (by omega)).2
  omega
 ·have:fitN room (pcs l) 0 = (pcs l).length:=Nat.le_antisymm (Zba _ _ _) h1
  unfold packG
  rw [this]
  exact Zdd l
def endsF (room:Nat):Nat -> List Nat -> List Nat
 | 0,_=>[]
 | f + 1,l=>if l = [] then [] else (packG room l).2 :: endsF room f (l.drop (packG room l).2)
theorem Zdr {room:Nat} (h5:5 <= room):∀ (f g:Nat) (l:List Nat),l.length <= f -> l.length <= g -> endsF room f l = endsF room g l
 | 0,0,l,_,_=>rfl
 | 0,g + 1,l,h,_=>by
  have:l = []:=List.length_eq_zero_iff.1 (by omega)
  subst this;rfl
 | f + 1,0,l,_,h=>by
  have:l = []:=List.length_eq_zero_iff.1 (by omega)
  subst this;rfl
 | f + 1,g + 1,l,h1,h2=>by
  unfold endsF
  split
  ·rfl
  ·next hl =>
   have:=Zaq h5 hl
   rw [Zdr h5 f g _ (by rw [List.length_drop];omega) (by rw [List.length_drop];omega)]
def ends (room:Nat) (l:List Nat):List Nat:=endsF room l.length l
theorem Zbp (room:Nat):ends room [] = []:=rfl
theorem Zbe {room:Nat} (h5:5 <= room) {l:List Nat} (h:l ≠ []):ends room l = (packG room l).2 :: ends room (l.drop (packG room l).2):=by
 have:=Zaq h5 h
 have hp:=List.length_pos_iff.2 h
 unfold ends
 obtain ⟨f,hf⟩:∃ f,l.length = f + 1:=⟨l.length - 1,by omega⟩
 conv=>lhs;rw [hf];unfold endsF
 rw [if_neg h,Zdr h5 f _ _ (by rw [List.length_drop];omega) (Nat.le_refl _)]
def leftE (room:Nat) (l:List Nat):Nat -> List Nat
 | 0=>l
 | i + 1=>(leftE room l i).drop (packG room (leftE room l i)).2
theorem Zbs {room:Nat} (h5:5 <= room) (l:List Nat):∀ i,ends room (leftE room l i) = (ends room l).drop i
 | 0=>rfl
 | i + 1=>by
  show ends room ((leftE room l i).drop (packG room (leftE room l i)).2) = _
  have ih:=Zbs h5 l i
  by_cases h:leftE room l i = []
  ·rw [h] at ih ⊢
   rw [Zbp] at ih
   have:(ends room l).length <= i:=List.drop_eq_nil_iff.1 ih.symm
   rw [List.drop_of_length_le (l:=ends room l) (by omega),List.drop_nil,Zbp]
  ·rw [Zbe h5 h] at ih
   rw [<- List.drop_drop,<- ih]
   rfl
theorem Zbf {room:Nat} (h5:5 <= room) {l:List Nat} {i:Nat} (h:i < (ends room l).length):leftE room l i ≠ []:=by
 intro e
 have:=Zbs h5 l i
 rw [e,Zbp] at this
 have:=List.drop_eq_nil_iff.1 this.symm
 omega
theorem Zcs {room:Nat} (h5:5 <= room) (l:List Nat):leftE room l (ends room l).length = []:=by
 have:=Zbs h5 l (ends room l).length
 rw [List.drop_length] at this
 by_cases h:leftE room l (ends room l).length = []
 ·exact h
 ·rw [Zbe h5 h] at this;cases this
theorem Zct (room:Nat) (l:List Nat):∀ i,(leftE room l i).length <= l.length
 | 0=>Nat.le_refl _
 | i + 1=>by
  have:=Zct room l i
  show ((leftE room l i).drop _).length <= _
  rw [List.length_drop];omega
theorem Zds {room:Nat} (h5:5 <= room) (l:List Nat):(ends room l).length <= l.length:=by
 have:∀ i,i <= (ends room l).length -> (leftE room l i).length + i <= l.length:=by
  intro i
  induction i with
  | zero=>intro _;exact Nat.le_refl _
  | succ i ih =>
   intro h
   have h1:=ih (by omega)
   have h2:=Zaq h5 (Zbf h5 (l:=l) (i:=i) (by omega))
   have h3:=Zdv room (leftE room l i)
   show ((leftE room l i).drop _).length + (i + 1) <= _
   rw [List.length_drop];omega
 have:=this _ (Nat.le_refl _)
 omega
end Go.Proofs.YtnkpnjnfddjfpaaGreat.M20

namespace Go.Proofs.YtnkpnjnfddjfpaaGreat
open Go.RowKit
def RowN (k:IntKind) (w:World) (a:Option Addr) (cap:Nat) (l:List Nat):Prop :=
 l.length <= cap /\ (cap <= 9223372036854775807 /\ (a = none -> cap = 0)) /\ (l = [] \/ ∃ b off,a = some ⟨b,off,none⟩ /\ b < w.heap.size /\ ∀ i (h:i < l.length),w.cell? ⟨b,off + i,none⟩ = some (.int k (l[i]:Nat)))
def RowI (k:IntKind) (w:World) (a:Option Addr) (cap:Nat) (l:List Int):Prop :=
 l.length <= cap /\ (cap <= 9223372036854775807 /\ (a = none -> cap = 0)) /\ (l = [] \/ ∃ b off,a = some ⟨b,off,none⟩ /\ b < w.heap.size /\ ∀ i (h:i < l.length),w.cell? ⟨b,off + i,none⟩ = some (.int k l[i]))
theorem RowN.at {k:IntKind} {w:World} {a:Option Addr} {cap:Nat} {l:List Nat} (h:RowN k w a cap l) {i:Nat} (hi:i < l.length) :
 ∃ b off,a = some ⟨b,off,none⟩ /\ b < w.heap.size /\ w.cell? ⟨b,off + i,none⟩ = some (.int k (l[i]:Nat)):=by
 obtain ⟨_,_,rfl | ⟨b,off,rfl,hb,hc⟩⟩:=h
 ·simp at hi
 ·exact ⟨b,off,rfl,hb,hc i hi⟩
theorem RowN.len {k:IntKind} {w:World} {a:Option Addr} {cap:Nat} {l:List Nat} (h:RowN k w a cap l):l.length <= 9223372036854775807:=by have:=h.1;have:=h.2.1.1;omega
theorem RowI.at {k:IntKind} {w:World} {a:Option Addr} {cap:Nat} {l:List Int} (h:RowI k w a cap l) {i:Nat} (hi:i < l.length) :
 ∃ b off,a = some ⟨b,off,none⟩ /\ b < w.heap.size /\ w.cell? ⟨b,off + i,none⟩ = some (.int k l[i]):=by
 obtain ⟨_,_,rfl | ⟨b,off,rfl,hb,hc⟩⟩:=h
 ·simp at hi
 ·exact ⟨b,off,rfl,hb,hc i hi⟩
theorem RowI.len {k:IntKind} {w:World} {a:Option Addr} {cap:Nat} {l:List Int} (h:RowI k w a cap l):l.length <= 9223372036854775807:=by have:=h.1;have:=h.2.1.1;omega
theorem RowN.below {k:IntKind} {w w':World} {a:Option Addr} {cap:Nat} {l:List Nat} (h:RowN k w a cap l) (hb:Below w.heap.size w w'):RowN k w' a cap l:=by
 obtain ⟨h1,h2,h3⟩:=h
 refine ⟨h1,h2,?_⟩
 rcases h3 with h3 | ⟨b,off,ha,hb',hc⟩
 ·exact .inl h3
 ·exact .inr ⟨b,off,ha,Nat.lt_of_lt_of_le hb' hb.size,fun i hi=>(hb.cell (p:=⟨b,off + i,none⟩) hb').trans (hc i hi)⟩
theorem RowI.below {k:IntKind} {w w':World} {a:Option Addr} {cap:Nat} {l:List Int} (h:RowI k w a cap l) (hb:Below w.heap.size w w'):RowI k w' a cap l:=by
 obtain ⟨h1,h2,h3⟩:=h
 refine ⟨h1,h2,?_⟩
 rcases h3 with h3 | ⟨b,off,ha,hb',hc⟩
 ·exact .inl h3
 ·exact .inr ⟨b,off,ha,Nat.lt_of_lt_of_le hb' hb.size,fun i hi=>(hb.cell (p:=⟨b,off + i,none⟩) hb').trans (hc i hi)⟩
theorem RowN.nil (k:IntKind) (w:World):RowN k w none 0 []:=⟨by simp,by simp,.inl rfl⟩
theorem RowI.nil (k:IntKind) (w:World):RowI k w none 0 []:=⟨by simp,by simp,.inl rfl⟩
end Go.Proofs.YtnkpnjnfddjfpaaGreat

namespace Go.Proofs.YtnkpnjnfddjfpaaGreat
open Go.RowKit
structure ElemTy (P:Program) (T E:TypeId) (k:IntKind) (bytes:Nat):Prop where
 und:P.underlying T = some (.slice E)
 info:(P.info? E).map (fun i=>(i.zero,i.size,i.bytes)) = some (some (.int k 0),1,bytes)
theorem Below.of_grown {B:Nat} {w w':World} {row:Option Nat} (hg:w.grownBy w' row) (hB:B <= w.heap.size) (hr:∀ k,row = some k -> B <= k):Below B w w' :=
 (Below.refl B w).grown hg hB hr
def OwnN (E:TypeId) (k:IntKind) (w:World) (base:Nat) (a:Option Addr) (cap:Nat) (l:List Nat):Prop :=
 w.ownsRow base E 1 (.slice a l.length cap) l.length (l.map fun (n:Nat)=>Value.int k n)
section
variable {P : Program} {E : TypeId} {k : IntKind} {w w' : World} {base cap : Nat} {a : Option Addr} {l : List Nat}
theorem OwnN.nil (E:TypeId) (k:IntKind) (w:World) (base:Nat):OwnN E k w base none 0 []:=World.ownsRow_nil w base E 1
theorem OwnN.lit0 (E:TypeId) (k:IntKind) (w:World) (base:Nat) (hb:base <= w.heap.size):OwnN E k (w.alloc (.cells #[] E)) base (some ⟨w.heap.size,0,none⟩) 0 [] :=
 World.ownsRow_made w #[] 0 hb (by decide) rfl
theorem OwnN.form (h:OwnN E k w base a cap l):(a = none /\ cap = 0 /\ l = []) \/ ∃ g,a = some ⟨g,0,none⟩ /\ base <= g /\ g < w.heap.size:=by
 rcases h.2 with ⟨h1,h2⟩ | ⟨g,c,cur,h1,h2,h3,_⟩
 ·simp only [Value.slice.injEq] at h1
  exact .inl ⟨h1.1,h1.2.2,List.eq_nil_of_length_eq_zero h2⟩
 ·simp only [Value.slice.injEq] at h1
  exact .inr ⟨g,h1.1,h2,(Array.getElem?_eq_some_iff.1 h3).1⟩
theorem OwnN.caps (h:OwnN E k w base a cap l):l.length <= cap /\ cap <= 9223372036854775807:=by
 rcases h.2 with ⟨h1,h2⟩ | ⟨g,c,cur,h1,h2,h3,h4,h5,_⟩
 ·simp only [Value.slice.injEq] at h1
  omega
 ·simp only [Value.slice.injEq] at h1
  obtain ⟨_,_,rfl⟩:=h1
  exact ⟨h4,by simpa [maxLen] using h5⟩
theorem OwnN.at (h:OwnN E k w base a cap l) {i:Nat} (hi:i < l.length) :
  ∃ g,a = some ⟨g,0,none⟩ /\ base <= g /\ g < w.heap.size /\ w.cell? ⟨g,i,none⟩ = some (.int k l[i]) /\ w.frozen? ⟨g,i,none⟩ = false:=by
 rcases h.form with ⟨_,_,rfl⟩ | ⟨g,rfl,hb,hg⟩
 ·simp at hi
 ·refine ⟨g,rfl,hb,hg,?_,World.ownsRow.frozenAt h i⟩
  rw [World.ownsRow.cellAt h i (by omega)]
  simp [hi]
theorem OwnN.row (h:OwnN E k w base a cap l):RowN k w a cap l:=by
 refine ⟨h.caps.1,⟨h.caps.2,fun hn=>by rcases h.form with ⟨_,h1,_⟩ | ⟨g,h1,_⟩ <;> simp_all⟩,?_⟩
 rcases h.form with ⟨_,_,rfl⟩ | ⟨g,rfl,hb,hg⟩
 ·exact .inl rfl
 ·refine .inr ⟨g,0,rfl,hg,fun i hi=>?_⟩
  obtain ⟨g',he,_,_,hc,_⟩:=h.at hi
  simp only [Option.some.injEq,Addr.mk.injEq,and_true] at he
  subst he
  simpa using hc
theorem OwnN.kept {row:Option Nat} (h:OwnN E k w base a cap l) (hg:w.grownBy w' row) (hr:∀ g,a = some ⟨g,0,none⟩ -> row ≠ some g):OwnN E k w' base a cap l:=by
 refine World.ownsRow.kept h hg ?_
 rcases h.form with ⟨rfl,_,_⟩ | ⟨g,rfl,hb,hgg⟩
 ·exact .inl rfl
 ·exact .inr fun e=>hr g rfl e.symm
theorem OwnN.below (h:OwnN E k w base a cap l) (hb:Below w.heap.size w w'):OwnN E k w' base a cap l :=
 h.kept (row:=none) ⟨hb.os,hb.tape,hb.output,hb.size,fun k hk _=>hb.block k hk⟩ (fun _ _ e=>by cases e)
theorem OwnN.drew (h:OwnN E k w base a cap l):OwnN E k w.drew base a cap l:=h
theorem OwnN.alloc (h:OwnN E k w base a cap l) (o:Obj):OwnN E k (w.alloc o) base a cap l:=World.ownsRow.alloc h o
theorem OwnN.other (h:OwnN E k w base a cap l) {p:Addr} (hp:∀ g,a = some ⟨g,0,none⟩ -> p.block ≠ g) (u:Value):OwnN E k (w.setCell p u) base a cap l:=by
 refine ownsRow_setCell_other h ?_ u
 rcases h.form with ⟨rfl,_,_⟩ | ⟨g,rfl,hb,hgg⟩
 ·simp [Value.ownBlock]
 ·simp only [Value.ownBlock,ne_eq,Option.some.injEq]
  exact fun e=>hp g rfl e.symm
theorem OwnN.mono (h:OwnN E k w base a cap l) {b:Nat} (hb:b <= base):OwnN E k w b a cap l:=by
 refine ⟨h.1,?_⟩
 rcases h.2 with h2 | ⟨g,c,cur,h1,h2,h3⟩
 ·exact .inl h2
 ·exact .inr ⟨g,c,cur,h1,by omega,h3⟩
theorem OwnN.stored {g:Nat} (h:OwnN E k w base (some ⟨g,0,none⟩) cap l) (i:Nat) (x:Nat) :
  OwnN E k (w.setCell ⟨g,i,none⟩ (.int k x)) base (some ⟨g,0,none⟩) cap (l.set i x) /\ w.grownBy (w.setCell ⟨g,i,none⟩ (.int k x)) (some g):=by
 obtain ⟨h1,h2⟩:=World.ownsRow.stored h i (.int k x)
 refine ⟨?_,h2⟩
 unfold OwnN
 rw [List.map_set,List.length_set]
 exact h1
theorem Zaf {a:Option Addr} {cap:Nat} (h:RowN k w a cap l):∀ ad,a = some ad -> ∀ j u,(l.map fun (n:Nat)=>Value.int k n)[j]? = some u -> w.cell? (ad.add j) = some u:=by
 intro ad had j u hu
 have hj:j < l.length:=by
  have:=(List.getElem?_eq_some_iff.1 hu).1
  simpa using this
 obtain ⟨b,off,he,_,hc⟩:=h.at hj
 rw [had] at he
 cases he
 simp only [List.getElem?_map,List.getElem?_eq_getElem hj,Option.map_some,Option.some.injEq] at hu
 rw [<- hu,<- hc]
 unfold Addr.add
 split
 ·simp_all
 ·rfl
end
section
variable {P : Program} {T E : TypeId} {k : IntKind} {bytes : Nat}
theorem makeN (et:ElemTy P T E k bytes) {w:World} {ops:Array Oper} {rest:List Oper} {o:Oper} {a:Act} {Q:Exit -> Act -> World -> Prop}
  (hg:o.guard = none) (lo c:Operand) (hop:o.op = Op.makeSlice T lo c) (base:Nat) {kl kc:IntKind} {n:Nat} (hl:a.eval lo = .int kl n) (hc:a.eval c = .int kc n)
  (hb:bytes * n <= 281474976710656) (hn:n <= 9223372036854775807) (hbase:base <= w.heap.size)
  (hK:∀ w',OwnN E k w' base (some ⟨w.heap.size,0,none⟩) n (List.replicate n 0) -> w.grownBy w' none -> wpList P ops Q rest (a.put o.dst (.slice (some ⟨w.heap.size,0,none⟩) n n)) w') :
  wpList P ops Q (o :: rest) a w:=by
 obtain ⟨i,h2,h3,h4,h5⟩:=info_parts et.info
 refine wpList_plain (by assumption) fun K hK'=>?_
 obtain ⟨w',hrun,r1,r2⟩:=run_make_full (P:=P) w base T E i (.int k 0) 1 et.und h2 h3 h4 kl kc n (by rw [h5];exact hb) (by simpa [maxLen] using hn) hbase
 unfold Oper.wp
 simp [execOp,hop,hl,hc,hrun,Result.andThen]
 refine hK' _ _ (hK w' ?_ r2)
 unfold OwnN
 have hm:(madeCells (Value.int k 0).cells (n * 1)).toList = (List.replicate n (0:Nat)).map fun (n:Nat)=>Value.int k n:=by
  rw [Nat.mul_one];show (madeCells #[.int k 0] n).toList = _;rw [toList_madeCells_one];simp
 rw [List.length_replicate,<- hm]
 exact r1
theorem appN (et:ElemTy P T E k bytes) {w:World} {ops:Array Oper} {rest:List Oper} {o:Oper} {ac:Act} {Q:Exit -> Act -> World -> Prop} (hgd:o.guard = none) (s x:Operand)
  (ho:o.op = .call { callee:=.builtin .append,args:=#[s,x],argTypes:=#[T,T] }) {base:Nat} {a:Option Addr} {cap m c:Nat} {l ys:List Nat}
  (hs:ac.eval s = .slice a l.length cap) (hown:OwnN E k w base a cap l) {b:Option Addr} (hm:m = ys.length) (hx:ac.eval x = .slice b m c) (hy:RowN k w b c ys)
  (hb0:0 < ys.length) (hn:l.length + m <= 9223372036854775807) (hbytes:(l.length + m) * bytes <= 140737488355328) (hbase:base <= w.heap.size)
  (h:∀ a' cap' w',OwnN E k w' base a' cap' (l ++ ys) -> w.grownBy w' (Value.slice a l.length cap).ownBlock -> Below base w w' -> wpList P ops Q rest (ac.put o.dst (.slice a' (l.length + m) cap')) w') :
  wpList P ops Q (o :: rest) ac w:=by
 subst hm
 obtain ⟨i,h2,h3,h4,h5⟩:=info_parts et.info
 obtain ⟨bb,off,rfl,_⟩:=hy.at hb0
 refine wpList_plain (by assumption) fun K hK'=>?_
 obtain ⟨v',w',hr,h6,h7,h8⟩:=run_append_own (P:=P) w base T o.type E i (.int k 0) 1 bytes et.und h2 h3 h4 h5 rfl (by decide) _ l.length _ hown ⟨bb,off,none⟩ ys.length c (ys.map fun (n:Nat)=>Value.int k n) (by simp)
  (Zaf hy _ rfl) (by intro u hu;simp only [List.mem_map] at hu;obtain ⟨n,_,rfl⟩:=hu;rfl) (by simpa [maxLen] using hn) hbytes hbase
 have hv:∃ a' cap',v' = .slice a' (l.length + ys.length) cap':=by
  rcases h6.2 with ⟨h9,h10⟩ | ⟨g,c',cur,h9,_⟩
  ·exact ⟨none,0,by rw [h9,h10]⟩
  ·exact ⟨_,_,h9⟩
 obtain ⟨a',cap',rfl⟩:=hv
 have hown':OwnN E k w' base a' cap' (l ++ ys):=by
  unfold OwnN;rw [List.length_append,List.map_append];exact h6
 have hbel:Below base w w':=Below.of_grown h7 hbase (by
  intro g hg
  exact (World.ownsRow.lt hown g hg).1)
 unfold Oper.wp
 simp [execOp,ho,resolve,invoke,builtin,hs,hx,hr,Result.andThen]
 exact hK' _ _ (h a' cap' w' hown' h7 hbel)
theorem appAnyN (et:ElemTy P T E k bytes) {w:World} {ops:Array Oper} {rest:List Oper} {o:Oper} {ac:Act} {Q:Exit -> Act -> World -> Prop} (hgd:o.guard = none) (s x:Operand)
  (ho:o.op = .call { callee:=.builtin .append,args:=#[s,x],argTypes:=#[T,T] }) {base:Nat} {a:Option Addr} {cap m c:Nat} {l ys:List Nat}
  (hs:ac.eval s = .slice a l.length cap) (hown:OwnN E k w base a cap l) {b:Option Addr} (hm:m = ys.length) (hx:ac.eval x = .slice b m c) (hy:RowN k w b c ys)
  (hn:l.length + m <= 9223372036854775807) (hbytes:(l.length + m) * bytes <= 140737488355328) (hbase:base <= w.heap.size)
  (h:∀ a' cap' w',OwnN E k w' base a' cap' (l ++ ys) -> w.grownBy w' (Value.slice a l.length cap).ownBlock -> Below base w w' -> wpList P ops Q rest (ac.put o.dst (.slice a' (l.length + m) cap')) w') :
  wpList P ops Q (o :: rest) ac w:=by
 by_cases hy0:0 < ys.length
 ·exact appN et hgd s x ho hs hown hm hx hy hy0 hn hbytes hbase h
 subst hm
 obtain rfl:ys = []:=List.eq_nil_of_length_eq_zero (by omega)
 obtain ⟨i,h2,h3,h4,h5⟩:=info_parts et.info
 have h':∀ a' cap' w',OwnN E k w' base a' cap' l -> w.grownBy w' (Value.slice a l.length cap).ownBlock -> Below base w w' -> wpList P ops Q rest (ac.put o.dst (.slice a' l.length cap')) w':=by
  intro a' cap' w' h6
  have:=h a' cap' w' (by simpa using h6)
  simpa using this
 refine wpList_plain (by assumption) fun K hK'=>?_
 cases b with
 | none =>
  obtain rfl:c = 0:=hy.2.1.2 rfl
  have hr:=run_append_owned_none (P:=P) w base T o.type E i 1 et.und h2 _ l.length _ hown
  unfold Oper.wp
  simp [execOp,ho,resolve,invoke,builtin,hs,hx,hr,Result.andThen]
  exact hK' _ _ (h' a cap w hown (World.grownBy.refl _ _) (Below.refl _ _))
 | some ad =>
  obtain ⟨v',w',hr,h6,h7,h8⟩:=run_append_own (P:=P) w base T o.type E i (.int k 0) 1 bytes et.und h2 h3 h4 h5 rfl (by decide) _ l.length _ hown ad 0 c [] (by simp)
   (by simp) (by simp) (by simpa [maxLen] using hn) (by simpa using hbytes) hbase
  have hv:∃ a' cap',v' = .slice a' l.length cap':=by
   rcases h6.2 with ⟨h9,h10⟩ | ⟨g,c',cur,h9,_⟩
   ·exact ⟨none,0,by rw [h9];simp at h10;rw [h10];rfl⟩
   ·exact ⟨_,_,h9⟩
  obtain ⟨a',cap',rfl⟩:=hv
  have hown':OwnN E k w' base a' cap' l:=by
   unfold OwnN;simpa using h6
  have hbel:Below base w w':=Below.of_grown h7 hbase (by
   intro g hg
   exact (World.ownsRow.lt hown g hg).1)
  unfold Oper.wp
  simp only [List.length_nil] at hx
  simp [execOp,ho,resolve,invoke,builtin,hs,hx,hr,Result.andThen]
  exact hK' _ _ (h' a' cap' w' hown' h7 hbel)
end
section
variable {P : Program} {T E : TypeId} {k : IntKind} {bytes : Nat} {F : Fence} {dep : Nat}
end
section
variable {P : Program} {E : TypeId} {k : IntKind} {w w' : World} {base cap : Nat} {a : Option Addr} {l : List Int}
end
section
variable {P : Program} {T E : TypeId} {k : IntKind} {bytes : Nat}
end
section
variable {P : Program} {T E : TypeId} {k : IntKind} {bytes : Nat} {F : Fence} {dep : Nat}
end
def strOf (l:List Nat):ByteArray:=(l.map fun (n:Nat)=>(n:Int)).foldl (fun r n=>r.push (UInt8.ofNat n.toNat)) ByteArray.empty
theorem Zbd {P:Program} {src dst e:TypeId} {w:World} {a:Option Addr} {cap n:Nat} {l:List Nat} (hs:P.underlying src = some (.slice e)) (he:P.underlying e = some (.int .u8)) (hd:P.underlying dst = some .string) (hn:n = l.length) (h:RowN .u8 w a cap l) :
  (convert src dst (.slice a n cap)).run P w = .ok (.string (strOf l)) w:=by
 subst hn
 rw [run_convert_bytes_string w src dst e a _ _ hs he hd]
 cases a with
 | none =>
  obtain ⟨h1,h2,rfl | ⟨b,off,h3,_⟩⟩:=h
  ·rfl
  ·cases h3
 | some ad =>
  refine run_bytesToString w ad _ _ _ ?_
  have hr:=run_loadCells_list (P:=P) (w:=w) ad (l.map fun (n:Nat)=>Value.int .u8 n) (Zaf h ad rfl)
  simp only [List.length_map] at hr
  rw [hr]
  simp [Function.comp_def]
end Go.Proofs.YtnkpnjnfddjfpaaGreat

namespace Go.Proofs.YtnkpnjnfddjfpaaGreat
open Go.RowKit
structure Only (T:Nat -> Prop) (A B:World):Prop where
 os:B.os = A.os
 tape:B.tape = A.tape
 output:B.output = A.output
 size:A.heap.size <= B.heap.size
 block:∀ k,k < A.heap.size -> ¬ T k -> B.heap[k]? = A.heap[k]?
theorem Only.refl (T:Nat -> Prop) (A:World):Only T A A:=⟨rfl,rfl,rfl,Nat.le_refl _,fun _ _ _=>rfl⟩
theorem Only.trans {T:Nat -> Prop} {A B C:World} (h:Only T A B) (k:Only T B C):Only T A C :=
 ⟨k.os.trans h.os,k.tape.trans h.tape,k.output.trans h.output,Nat.le_trans h.size k.size,fun i hi hT=>(k.block i (Nat.lt_of_lt_of_le hi h.size) hT).trans (h.block i hi hT)⟩
theorem Only.mono {T T':Nat -> Prop} {A B:World} (h:Only T A B) (hT:∀ k,k < A.heap.size -> T k -> T' k):Only T' A B :=
 ⟨h.os,h.tape,h.output,h.size,fun i hi hn=>h.block i hi fun ht=>hn (hT i hi ht)⟩
theorem Only.alloc {T:Nat -> Prop} {A B:World} (h:Only T A B) (o:Obj):Only T A (B.alloc o) :=
 h.trans ⟨rfl,rfl,rfl,by simp,fun k hk _=>Below.heap_alloc _ _ _ hk⟩
theorem Only.drew {T:Nat -> Prop} {A B:World} (h:Only T A B):Only T A B.drew:=⟨h.os,h.tape,h.output,h.size,h.block⟩
theorem Only.setCell {T:Nat -> Prop} {A B:World} (h:Only T A B) {p:Addr} (hp:T p.block \/ A.heap.size <= p.block) (u:Value):Only T A (B.setCell p u):=by
 refine ⟨h.os,h.tape,h.output,by simpa [World.setCell] using h.size,fun k hk hT=>?_⟩
 rw [Below.heap_setCell _ _ _ _ (by rcases hp with hp | hp <;> first | omega | exact fun e=>hT (e ▸ hp))]
 exact h.block k hk hT
theorem Only.below {T:Nat -> Prop} {A B C:World} (h:Only T A B) (k:Below B.heap.size B C):Only T A C :=
 h.trans ⟨k.os,k.tape,k.output,k.size,fun i hi _=>k.block i hi⟩
theorem Only.grown {T:Nat -> Prop} {A B C:World} {row:Option Nat} (h:Only T A B) (k:B.grownBy C row) (hr:∀ r,row = some r -> T r \/ A.heap.size <= r):Only T A C:=by
 refine ⟨k.os.trans h.os,k.tape.trans h.tape,k.output.trans h.output,Nat.le_trans h.size k.size,fun i hi hT=>?_⟩
 rw [k.block i (Nat.lt_of_lt_of_le hi h.size) (fun e=>by rcases hr i e.symm with h' | h' <;> first | omega | exact hT h')]
 exact h.block i hi hT
theorem Below.only {n:Nat} {T:Nat -> Prop} {w A B:World} (h:Below n w A) (k:Only T A B) (hn:n <= w.heap.size) (hT:∀ b,T b -> n <= b):Below n w B :=
 h.trans ⟨k.os,k.tape,k.output,k.size,fun i hi=>k.block i (by have:=h.size;omega) (fun t=>by have:=hT i t;omega)⟩
theorem Below.put {n:Nat} {w A:World} (h:Below n w A) (hn:n <= w.heap.size) {l:Nat} {o:Obj} (hl:A.heap[l]? = some o) (hN:n <= l) (o':Obj):Below n w (A.putObj l o') :=
 h.grown (grownBy_putObj' A l o') (by have:=h.size;omega) (fun k e=>by cases e;exact hN)
theorem Zbk {A:World} {b l:Nat} {o o':Obj} {c:Array Value} {e:TypeId} {z:Nat × Nat} (h:A.heap[b]? = some (.cells c e z)) (hl:A.heap[l]? = some o) (ho:o.isCells = false):(A.putObj l o').heap[b]? = some (.cells c e z) :=
 (World.putObj_heap_other (by intro e';subst e';rw [h] at hl;cases hl;cases ho)).trans h
theorem Zaa {T:Nat -> Prop} {A B:World} {b:Nat} {o:Obj} (h:A.heap[b]? = some o) (k:Only T A B) (hT:¬ T b):B.heap[b]? = some o :=
 (k.block b (lt_of_block h) hT).trans h
theorem OwnN.only {T:Nat -> Prop} {E:TypeId} {k:IntKind} {A B:World} {base cap:Nat} {a:Option Addr} {l:List Nat} (h:OwnN E k A base a cap l) (ho:Only T A B) (hT:∀ b,base <= b -> ¬ T b):OwnN E k B base a cap l:=by
 refine ⟨h.1,?_⟩
 rcases h.2 with h2 | ⟨g,c,cur,h1,h2,h3,h4⟩
 ·exact .inl h2
 ·exact .inr ⟨g,c,cur,h1,h2,Zaa h3 ho (hT g h2),h4⟩
theorem OwnN.put {E:TypeId} {k:IntKind} {A:World} {base cap:Nat} {a:Option Addr} {l:List Nat} (h:OwnN E k A base a cap l) {r:Nat} {o:Obj} (hl:A.heap[r]? = some o) (ho:o.isCells = false) (o':Obj):OwnN E k (A.putObj r o') base a cap l:=by
 refine ⟨h.1,?_⟩
 rcases h.2 with h2 | ⟨g,c,cur,h1,h2,h3,h4⟩
 ·exact .inl h2
 ·exact .inr ⟨g,c,cur,h1,h2,Zbk h3 hl ho,h4⟩
structure SameOn (S:Nat -> Prop) (A B:World):Prop where
 size:A.heap.size <= B.heap.size
 same:∀ b,S b -> B.heap[b]? = A.heap[b]?
theorem SameOn.refl (S:Nat -> Prop) (A:World):SameOn S A A:=⟨Nat.le_refl _,fun _ _=>rfl⟩
theorem SameOn.trans {S:Nat -> Prop} {A B C:World} (h:SameOn S A B) (k:SameOn S B C):SameOn S A C:=⟨Nat.le_trans h.size k.size,fun b hb=>(k.same b hb).trans (h.same b hb)⟩
theorem Only.sameOn {S T:Nat -> Prop} {A B:World} (h:Only T A B) (hS:∀ b,S b -> b < A.heap.size /\ ¬ T b):SameOn S A B:=⟨h.size,fun b hb=>h.block b (hS b hb).1 (hS b hb).2⟩
def Yields (P:Program) (gf:Nat) (lb:Array Value) (n:Nat) (row:Nat -> Array Value) (S T:Nat -> Prop) (w:World):Prop :=
 ∀ (l:Nat) (J Jx:Nat -> World -> Prop) (W:World),SameOn S w W →
  (∀ i A B,J i A -> Only T A B -> J i B) -> (∀ i A B,Jx i A -> Only T A B -> Jx i B) →
  (∀ i A,i < n -> J i A -> YieldAt Fence.wide 9 P l (row i) A fun e B =>
   (e = .returned (.bool true) /\ J (i + 1) B /\ SameOn S A B) \/ (e = .returned (.bool false) /\ Jx (i + 1) B)) →
  J 0 W →
  CallsIn Fence.wide 9 P gf (#[.func (.yield l) #[] #[]] ++ lb) W fun e B=>(∃ v,e = .returned v) /\ (J n B \/ ∃ i,i < n /\ Jx (i + 1) B)
def roundEnds (N:Nat) (S:Nat -> Prop) (I:Nat -> World -> Prop) (Ix:Code -> Nat -> World -> Prop) (i:Nat) (A:World):Exit -> Act -> World -> Prop
 | .normal,_,B=>KeepsFrom N A B /\ SameOn S A B /\ I (i + 1) B
 | .ret,_,B=>KeepsFrom N A B /\ Ix .ret (i + 1) B
 | .exit id,_,B=>KeepsFrom N A B /\ Ix (.exit id) (i + 1) B
 | .goto t,_,B=>KeepsFrom N A B /\ Ix (.goto t) (i + 1) B
 | .panic _,_,_=>False
 | .outgrown,_,_=>False
theorem Zcf {n m:Nat} {P:Program} {l:Nat} {args:Array Value} {W:World} {R:Ending -> World -> Prop} (h:YieldAt Fence.wide n P l args W R):YieldAt Fence.wide m P l args W R:=by
 obtain ⟨fn,tmps,assign,body,hy,hF,hR⟩:=h
 exact ⟨fn,tmps,assign,body,hy,hF,fun c cs _=>hR c cs (room_wide _)⟩
theorem Zeu {P:Program} {g:Operand} {ps:Array Tmp} {assign body:Code} {Q:Exit -> Act -> World -> Prop} {a:Act} {w:World}
  {gf:Nat} {lb:Array Value} (hg:a.eval g = .func (.func gf) #[] lb) (eg:∀ args w,(callFunc gf args).run P w = .ok (.enter gf args) w)
  {n:Nat} {row:Nat -> Array Value} {S T:Nat -> Prop} {w0:World} (hy:Yields P gf lb n row S T w0) (hsame:SameOn S w0 w) (hS:∀ b,S b -> b < w.heap.size) (hT:∀ b,T b -> b < w.heap.size)
  (hps:∀ i,(row i).size = ps.size)
  (I:Nat -> World -> Prop) (Ix:Code -> Nat -> World -> Prop)
  (hI:∀ i A B,I i A -> Only T A B -> I i B) (hIp:∀ i A l o o',I i A -> w.heap.size <= l -> A.heap[l]? = some o -> o.isCells = false -> I i (A.putObj l o'))
  (hX:∀ c i A B,Ix c i A -> Only T A B -> Ix c i B) (hXp:∀ c i A l o o',Ix c i A -> w.heap.size <= l -> A.heap[l]? = some o -> o.isCells = false -> Ix c i (A.putObj l o'))
  (h0:I 0 w) (a₁:Nat -> Act)
  (hassign:∀ (l i:Nat) (W:World) (K:Act -> World -> Prop),K (a₁ i) W →
   assign.wpIn (Fence.wide.inRound l) 9 P (Exit.then K (fun _ _ _=>False)) { tmps:=(ps.zip (row i)).foldl (fun t (p,v)=>t.setIfInBounds p v) a.tmps,defers:=[] } W)
  (hbody:∀ (l i:Nat) (hi:i < n) (A:World),w.heap.size + 2 <= A.heap.size -> I i A -> body.wpIn (Fence.wide.inRound l) 9 P (roundEnds w.heap.size S I Ix i A) (a₁ i) A)
  (hdone:∀ (A:World),I n A -> A.heap[w.heap.size]? = some (.deferred (some [])) -> Q .normal { a with defers:={ target:=.collected w.heap.size,args:=#[] } :: a.defers } A)
  (hstop:∀ (c:Code) (i:Nat) (A:World),i < n -> Ix c (i + 1) A -> A.heap[w.heap.size]? = some (.deferred (some [])) -> c.wpIn Fence.wide 9 P Q { a with defers:={ target:=.collected w.heap.size,args:=#[] } :: a.defers } A) :
  (Code.rangeFunc g ps assign body).wpIn Fence.wide 9 P Q a w:=by
 refine wpIn_rangeFunc ?_
 intro fn hfn
 obtain ⟨rec,hrec⟩:∃ rec:LoopState -> Option Code -> Loop,rec = fun st pe=>{ state:=st,pending:=pe,fn,tmps:=a.tmps,params:=ps,assign,body,defers:=w.heap.size }:=⟨_,rfl⟩
 obtain ⟨W1,hW1⟩:∃ W1,(w.alloc (.deferred (some []))).alloc (.loop (rec .ready none)) = W1:=⟨_,rfl⟩
 have hs1:W1.heap.size = w.heap.size + 2:=by rw [<- hW1];simp
 have hL1:W1.heap[w.heap.size + 1]? = some (.loop (rec .ready none)):=by
  rw [<- hW1];have:=World.alloc_heap_new (w.alloc (.deferred (some []))) (.loop (rec .ready none));rwa [World.size_alloc] at this
 have hK1:W1.heap[w.heap.size]? = some (.deferred (some [])):=by
  rw [<- hW1];exact (Below.heap_alloc _ _ _ (by simp)).trans (World.alloc_heap_new w _)
 have hI1:I 0 W1:=hI 0 w W1 h0 (by rw [<- hW1];exact ((Only.refl T w).alloc _).alloc _)
 have hsame1:SameOn S w0 W1:=⟨by have:=hsame.size;omega,fun b hb=>by
  rw [<- hW1,Below.heap_alloc _ _ _ (by have:=hS b hb;simp;omega),Below.heap_alloc _ _ _ (hS b hb)]
  exact hsame.same b hb⟩
 refine ⟨w.heap.size + 1,[{ target:=.collected w.heap.size,args:=#[] }],W1,{ target:=.fn (.func gf) lb,args:=#[.func (.yield (w.heap.size + 1)) #[] #[]] },W1,gf,
  #[.func (.yield (w.heap.size + 1)) #[] #[]] ++ lb,W1,?_,?_,?_,?_,fun h=>by simp [Fence.wide] at h,?_⟩
 ·rw [<- hW1,hrec];exact run_enterLoop_outer _ _ _ _ _
 ·simp only [resolve,hg]
  simp [go_sem]
 ·intro f' hf';trivial
 ·simp [invoke,go_sem,eg]
 ·have hyy:=hy (w.heap.size + 1)
   (fun i A=>I i A /\ w.heap.size + 2 <= A.heap.size /\ A.heap[w.heap.size + 1]? = some (.loop (rec .ready none)) /\ A.heap[w.heap.size]? = some (.deferred (some [])))
   (fun i A=>∃ c,Ix c i A /\ A.heap[w.heap.size + 1]? = some (.loop (rec .done (some c))) /\ A.heap[w.heap.size]? = some (.deferred (some [])))
   W1 hsame1
   (fun i A B h ho=>⟨hI i A B h.1 ho,Nat.le_trans h.2.1 ho.size,Zaa h.2.2.1 ho (fun t=>by have:=hT _ t;omega),Zaa h.2.2.2 ho (fun t=>by have:=hT _ t;omega)⟩)
   (fun i A B h ho=>by
    obtain ⟨c,hc,hl,hk⟩:=h
    exact ⟨c,hX c i A B hc ho,Zaa hl ho (fun t=>by have:=hT _ t;omega),Zaa hk ho (fun t=>by have:=hT _ t;omega)⟩)
   ?_ ⟨hI1,by omega,hL1,hK1⟩
  ·refine (callsIn_wide.2 (callsIn_wide.1 hyy)).mono ?_
   rintro e W2 ⟨⟨v,rfl⟩,(⟨hi,_,hl,hk⟩ | ⟨i,hlt,c,hi,hl,hk⟩)⟩
   ·exact ⟨none,_,by have:=run_endLoop (P:=P) hl (by rw [hrec];simp);rw [hrec] at this;exact this,hdone _ (hIp _ _ _ _ _ hi (by omega) hl rfl) ((World.putObj_heap_other (by omega)).trans hk)⟩
   ·exact ⟨some c,_,by have:=run_endLoop (P:=P) hl (by rw [hrec];simp);rw [hrec] at this;exact this,hstop c i _ hlt (hXp _ _ _ _ _ _ hi (by omega) hl rfl) ((World.putObj_heap_other (by omega)).trans hk)⟩
  ·rintro i W hi ⟨hii,hsz,hl,hk⟩
   have hy':=run_yield (P:=P) (args:=row i) hl (by rw [hrec];exact hps _)
   rw [hrec] at hy'
   refine Zcf (n:=9) ⟨fn,_,assign,body,hy',roundIn_of_wpIn hfn (hassign _ i W _ ⟨_,run_beginRound hl (by rw [hrec]),?_⟩)⟩
   have hlt:w.heap.size + 1 < W.heap.size:=by omega
   have hl2:(W.putObj (w.heap.size + 1) (.loop { rec .ready none with state:=.busy })).heap[w.heap.size + 1]? = some (.loop { rec .ready none with state:=.busy }):=World.putObj_heap_same hlt
   have hk2:(W.putObj (w.heap.size + 1) (.loop { rec .ready none with state:=.busy })).heap[w.heap.size]? = some (.deferred (some [])):=(World.putObj_heap_other (by omega)).trans hk
   have hS2:∀ (A:World) (o:Obj),SameOn S A (A.putObj (w.heap.size + 1) o):=fun A o=>⟨by rw [World.putObj_size];exact Nat.le_refl _,fun b hb=>World.putObj_heap_other (by have:=hS b hb;omega)⟩
   refine wpIn_mono (hbody _ i hi _ (by rw [World.putObj_size];exact hsz) (hIp _ _ _ _ _ hii (by omega) hl rfl)) ?_
   have fin:∀ (jump:Option Code) (W3:World),KeepsFrom w.heap.size (W.putObj (w.heap.size + 1) (.loop { rec .ready none with state:=.busy })) W3 →
     (Instr.endRound (w.heap.size + 1) jump).run P W3 = .ok (.bool jump.isNone) (W3.putObj (w.heap.size + 1) (.loop (rec (if jump.isNone then .ready else .done) jump))) ∧
     W3.heap[w.heap.size + 1]? = some (.loop { rec .ready none with state:=.busy }) ∧
     (W3.putObj (w.heap.size + 1) (.loop (rec (if jump.isNone then .ready else .done) jump))).heap[w.heap.size + 1]? = some (.loop (rec (if jump.isNone then .ready else .done) jump)) ∧
     (W3.putObj (w.heap.size + 1) (.loop (rec (if jump.isNone then .ready else .done) jump))).heap[w.heap.size]? = some (.deferred (some [])) /\ w.heap.size + 2 <= (W3.putObj (w.heap.size + 1) (.loop (rec (if jump.isNone then .ready else .done) jump))).heap.size:=fun jump W3 hk3=>by
    have hl3:=hk3.same _ _ (by omega) hl2 rfl
    have:=run_endRound (P:=P) jump hl3
    rw [hrec] at this ⊢
    exact ⟨this,by rw [hrec] at hl3;exact hl3,World.putObj_heap_same (Array.getElem?_eq_some_iff.1 hl3).1,(World.putObj_heap_other (by omega)).trans (hk3.same _ _ (by omega) hk2 rfl),by rw [World.putObj_size];have:=(Array.getElem?_eq_some_iff.1 hl3).1;omega⟩
   rintro e a3 W3 hp
   cases e with
   | normal =>
    obtain ⟨hk3,hkp3,hi3⟩:=hp
    obtain ⟨hr,hl3,hl4,hk4,hz4⟩:=fin none W3 hk3
    exact ⟨_,_,hr,.inl ⟨rfl,⟨hIp _ _ _ _ _ hi3 (by omega) hl3 rfl,hz4,hl4,hk4⟩,((hS2 _ _).trans hkp3).trans (hS2 _ _)⟩⟩
   | ret =>
    obtain ⟨hk3,hi3⟩:=hp
    obtain ⟨hr,hl3,hl4,hk4,_⟩:=fin (some .ret) W3 hk3
    exact ⟨_,_,hr,.inr ⟨rfl,.ret,hXp _ _ _ _ _ _ hi3 (by omega) hl3 rfl,hl4,hk4⟩⟩
   | exit id =>
    obtain ⟨hk3,hi3⟩:=hp
    obtain ⟨hr,hl3,hl4,hk4,_⟩:=fin (some (.exit id)) W3 hk3
    exact ⟨_,_,hr,.inr ⟨rfl,.exit id,hXp _ _ _ _ _ _ hi3 (by omega) hl3 rfl,hl4,hk4⟩⟩
   | goto t =>
    obtain ⟨hk3,hi3⟩:=hp
    obtain ⟨hr,hl3,hl4,hk4,_⟩:=fin (some (.goto t)) W3 hk3
    exact ⟨_,_,hr,.inr ⟨rfl,.goto t,hXp _ _ _ _ _ _ hi3 (by omega) hl3 rfl,hl4,hk4⟩⟩
   | panic ch=>exact hp.elim
   | outgrown=>exact hp.elim
end Go.Proofs.YtnkpnjnfddjfpaaGreat

namespace Go.Proofs.YtnkpnjnfddjfpaaGreat
open Go.RowKit M04
theorem Zcr:ElemTy Tryz.prog 22 5 .u8 1:=⟨Tryz.underlying22,by kernel_rfl⟩
end Go.Proofs.YtnkpnjnfddjfpaaGreat

namespace Go.Proofs.YtnkpnjnfddjfpaaGreat
open Go.RowKit Go.Shelf M04
attribute [local go_sem] Oper.semAt_some
theorem RowN.same {k:IntKind} {w W:World} {a:Option Addr} {cap:Nat} {l:List Nat} (h:RowN k w a cap l) (hs:w.heap.size <= W.heap.size) (hb:∀ x,0 < l.length -> a = some x -> W.heap[x.block]? = w.heap[x.block]?):RowN k W a cap l:=by
 obtain ⟨h1,h2,h3⟩:=h
 refine ⟨h1,h2,?_⟩
 rcases h3 with h3 | ⟨b,off,rfl,hb',hc⟩
 ·exact .inl h3
 ·exact .inr ⟨b,off,rfl,by omega,fun i hi=>(World.cell?_of_block (a:=⟨b,off + i,none⟩) (hb ⟨b,off,none⟩ (by omega) rfl)).trans (hc i hi)⟩
theorem Zce {n m:Nat} {P:Program} {l:Nat} {f:FuncId} {tmps:Array Value} {assign body:Code} {w:World} {R:Ending -> World -> Prop} (h:RoundIn Fence.wide n P l f tmps assign body w R):RoundIn Fence.wide m P l f tmps assign body w R:=⟨h.1,fun c cs _=>h.2 c cs (room_wide _)⟩
theorem four (w:World) (o1 o2 o3 o4:Obj):((((w.alloc o1).alloc o2).alloc o3).alloc o4).heap.size = w.heap.size + 4 /\ ((((w.alloc o1).alloc o2).alloc o3).alloc o4).heap[w.heap.size]? = some o1 /\ ((((w.alloc o1).alloc o2).alloc o3).alloc o4).heap[w.heap.size + 1]? = some o2 ∧
  ((((w.alloc o1).alloc o2).alloc o3).alloc o4).heap[w.heap.size + 2]? = some o3 /\ ((((w.alloc o1).alloc o2).alloc o3).alloc o4).heap[w.heap.size + 3]? = some o4 /\ Below w.heap.size w ((((w.alloc o1).alloc o2).alloc o3).alloc o4):=by
 have h1:=World.alloc_heap_new w o1
 have h2:=World.alloc_heap_new (w.alloc o1) o2
 have h3:=World.alloc_heap_new ((w.alloc o1).alloc o2) o3
 have h4:=World.alloc_heap_new (((w.alloc o1).alloc o2).alloc o3) o4
 simp only [World.size_alloc] at h2 h3 h4
 refine ⟨by simp,?_,?_,?_,h4,(((((Below.refl _ w).alloc (Nat.le_refl _) _).alloc (by simp) _).alloc (by simp;omega) _).alloc (by simp;omega) _)⟩
 ·rw [Below.heap_alloc _ _ _ (by simp only [World.size_alloc];omega),Below.heap_alloc _ _ _ (by simp only [World.size_alloc];omega),Below.heap_alloc _ _ _ (by simp)];exact h1
 ·rw [Below.heap_alloc _ _ _ (by simp only [World.size_alloc];omega),Below.heap_alloc _ _ _ (by simp)];exact h2
 ·rw [Below.heap_alloc _ _ _ (by simp)];exact h3
end Go.Proofs.YtnkpnjnfddjfpaaGreat

namespace Go.Proofs.YtnkpnjnfddjfpaaGreat
open Go.RowKit
structure Enc (α:Type) where
 sz:Nat
 cells:α -> List Value
 len:∀ x,(cells x).length = sz
 one:∀ x,∀ u ∈ cells x,u.oneCell' = true
 pos:0 < sz
structure ElemS (P:Program) (T E:TypeId) {α:Type} (c:Enc α) (z:Value) (bytes:Nat):Prop where
 und:P.underlying T = some (.slice E)
 info:(P.info? E).map (fun i=>(i.zero,i.size,i.bytes)) = some (some z,c.sz,bytes)
 zs:z.cells.size = c.sz
def flat {α:Type} (c:Enc α) (l:List α):List Value:=l.flatMap c.cells
section
variable {α : Type} {c : Enc α}
theorem Zbu (l:List α):(flat c l).length = l.length * c.sz:=by
 induction l with
 | nil=>simp [flat]
 | cons a l ih=>simp only [flat,List.flatMap_cons,List.length_append,List.length_cons,c.len] at *;rw [ih,Nat.add_mul,Nat.one_mul,Nat.add_comm]
theorem Zdg (l m:List α):flat c (l ++ m) = flat c l ++ flat c m:=by simp [flat]
theorem Zfj (l:List α):∀ u ∈ flat c l,u.oneCell' = true:=by
 intro u hu
 simp only [flat,List.mem_flatMap] at hu
 obtain ⟨x,_,hx⟩:=hu
 exact c.one x u hx
theorem Zft (l:List α) (i j:Nat) (hi:i < l.length) (hj:j < c.sz):(flat c l)[i * c.sz + j]? = (c.cells l[i])[j]?:=by
 induction l generalizing i with
 | nil=>simp at hi
 | cons a l ih =>
  simp only [flat,List.flatMap_cons] at *
  cases i with
  | zero=>simp only [Nat.zero_mul,Nat.zero_add,List.getElem_cons_zero];rw [List.getElem?_append_left (by rw [c.len];exact hj)]
  | succ i =>
   simp only [List.length_cons] at hi
   rw [List.getElem?_append_right (by rw [c.len,Nat.add_mul];omega),c.len]
   have:(i + 1) * c.sz + j - c.sz = i * c.sz + j:=by rw [Nat.add_mul];omega
   rw [this,ih i (by omega)]
   simp
end
def RowS {α:Type} (c:Enc α) (w:World) (a:Option Addr) (cap:Nat) (l:List α):Prop :=
 l.length <= cap /\ (cap <= 9223372036854775807 /\ (a = none -> cap = 0)) /\ (l = [] \/ ∃ b off,a = some ⟨b,off,none⟩ /\ b < w.heap.size /\ ∀ i v,(flat c l)[i]? = some v -> w.cell? ⟨b,off + i,none⟩ = some v)
section
variable {α : Type} {c : Enc α} {w w' : World} {a : Option Addr} {cap : Nat} {l : List α}
theorem RowS.len (h:RowS c w a cap l):l.length <= 9223372036854775807:=by have:=h.1;have:=h.2.1.1;omega
theorem RowS.at (h:RowS c w a cap l) {i:Nat} (hi:i < l.length) :
  ∃ b off,a = some ⟨b,off,none⟩ /\ b < w.heap.size /\ ∀ j v,(c.cells l[i])[j]? = some v -> w.cell? ⟨b,off + (i * c.sz + j),none⟩ = some v:=by
 obtain ⟨_,_,rfl | ⟨b,off,rfl,hb,hc⟩⟩:=h
 ·simp at hi
 ·refine ⟨b,off,rfl,hb,fun j v hv=>hc _ v ?_⟩
  have hj:j < c.sz:=by have:=(List.getElem?_eq_some_iff.1 hv).1;rw [c.len] at this;exact this
  rw [Zft l i j hi hj];exact hv
theorem RowS.same (h:RowS c w a cap l) (hs:w.heap.size <= w'.heap.size) (hb:∀ x,0 < l.length -> a = some x -> w'.heap[x.block]? = w.heap[x.block]?):RowS c w' a cap l:=by
 obtain ⟨h1,h2,h3⟩:=h
 refine ⟨h1,h2,?_⟩
 rcases h3 with h3 | ⟨b,off,rfl,hb',hc⟩
 ·exact .inl h3
 ·by_cases h0:l = []
  ·exact .inl h0
  ·exact .inr ⟨b,off,rfl,by omega,fun i v hv=>(World.cell?_of_block (a:=⟨b,off + i,none⟩) (hb ⟨b,off,none⟩ (List.length_pos_iff.2 h0) rfl)).trans (hc i v hv)⟩
theorem RowS.below (h:RowS c w a cap l) (hb:Below w.heap.size w w'):RowS c w' a cap l:=by
 obtain ⟨h1,h2,h3⟩:=h
 refine ⟨h1,h2,?_⟩
 rcases h3 with h3 | ⟨b,off,ha,hb',hc⟩
 ·exact .inl h3
 ·exact .inr ⟨b,off,ha,Nat.lt_of_lt_of_le hb' hb.size,fun i v hv=>(hb.cell (p:=⟨b,off + i,none⟩) hb').trans (hc i v hv)⟩
theorem RowS.drewN (h:RowS c w a cap l) (n:Nat):RowS c (w.drewN n) a cap l:=h
theorem RowS.nil (c:Enc α) (w:World):RowS c w none 0 []:=⟨by simp,by simp,.inl rfl⟩
theorem RowS.lit (c:Enc α) (w:World) (l:List α) (E:TypeId) (cs:Array Value) (B:Nat) (hB:B = w.heap.size) (hc:cs = (flat c l).toArray) (hl:l.length <= 9223372036854775807) :
  RowS c (w.alloc (.cells cs E)) (some ⟨B,0,none⟩) l.length l:=by
 subst hc hB
 refine ⟨Nat.le_refl _,⟨hl,fun hn=>by cases hn⟩,.inr ⟨w.heap.size,0,rfl,by simp,fun i v hv=>?_⟩⟩
 rw [Nat.zero_add,World.cell?_alloc_at _ _ _ _ rfl]
 simpa using hv
end
def OwnS {α:Type} (c:Enc α) (E:TypeId) (w:World) (base:Nat) (a:Option Addr) (cap:Nat) (l:List α):Prop :=
 w.ownsRow base E c.sz (.slice a l.length cap) l.length (flat c l)
section
variable {α : Type} {c : Enc α} {E : TypeId} {w w' : World} {base cap : Nat} {a : Option Addr} {l : List α}
theorem OwnS.nil (c:Enc α) (E:TypeId) (w:World) (base:Nat):OwnS c E w base none 0 []:=World.ownsRow_nil w base E c.sz
theorem OwnS.lit0 (c:Enc α) (E:TypeId) (w:World) (base:Nat) (hb:base <= w.heap.size):OwnS c E (w.alloc (.cells #[] E)) base (some ⟨w.heap.size,0,none⟩) 0 [] :=
 World.ownsRow_made w #[] 0 hb (by decide) (by simp)
theorem OwnS.form (h:OwnS c E w base a cap l):(a = none /\ cap = 0 /\ l = []) \/ ∃ g,a = some ⟨g,0,none⟩ /\ base <= g /\ g < w.heap.size:=by
 rcases h.2 with ⟨h1,h2⟩ | ⟨g,cc,cur,h1,h2,h3,_⟩
 ·simp only [Value.slice.injEq] at h1
  exact .inl ⟨h1.1,h1.2.2,List.eq_nil_of_length_eq_zero h2⟩
 ·simp only [Value.slice.injEq] at h1
  exact .inr ⟨g,h1.1,h2,(Array.getElem?_eq_some_iff.1 h3).1⟩
theorem OwnS.caps (h:OwnS c E w base a cap l):l.length <= cap /\ cap <= 9223372036854775807:=by
 rcases h.2 with ⟨h1,h2⟩ | ⟨g,cc,cur,h1,h2,h3,h4,h5,_⟩
 ·simp only [Value.slice.injEq] at h1
  omega
 ·simp only [Value.slice.injEq] at h1
  obtain ⟨_,_,rfl⟩:=h1
  exact ⟨h4,by simpa [maxLen] using h5⟩
theorem OwnS.row (h:OwnS c E w base a cap l):RowS c w a cap l:=by
 refine ⟨h.caps.1,⟨h.caps.2,fun hn=>by rcases h.form with ⟨_,h1,_⟩ | ⟨g,h1,_⟩ <;> simp_all⟩,?_⟩
 rcases h.form with ⟨_,_,rfl⟩ | ⟨g,rfl,hb,hg⟩
 ·exact .inl rfl
 ·refine .inr ⟨g,0,rfl,hg,fun i v hv=>?_⟩
  have hi:i < l.length * c.sz:=by have:=(List.getElem?_eq_some_iff.1 hv).1;rwa [Zbu] at this
  rw [Nat.zero_add,World.ownsRow.cellAt h i hi];exact hv
theorem OwnS.kept {row:Option Nat} (h:OwnS c E w base a cap l) (hg:w.grownBy w' row) (hr:∀ g,a = some ⟨g,0,none⟩ -> row ≠ some g):OwnS c E w' base a cap l:=by
 refine World.ownsRow.kept h hg ?_
 rcases h.form with ⟨rfl,_,_⟩ | ⟨g,rfl,hb,hgg⟩
 ·exact .inl rfl
 ·exact .inr fun e=>hr g rfl e.symm
theorem OwnS.below (h:OwnS c E w base a cap l) (hb:Below w.heap.size w w'):OwnS c E w' base a cap l :=
 h.kept (row:=none) ⟨hb.os,hb.tape,hb.output,hb.size,fun k hk _=>hb.block k hk⟩ (fun _ _ e=>by cases e)
theorem OwnS.alloc (h:OwnS c E w base a cap l) (o:Obj):OwnS c E (w.alloc o) base a cap l:=World.ownsRow.alloc h o
theorem OwnS.other (h:OwnS c E w base a cap l) {p:Addr} (hp:∀ g,a = some ⟨g,0,none⟩ -> p.block ≠ g) (u:Value):OwnS c E (w.setCell p u) base a cap l:=by
 refine ownsRow_setCell_other h ?_ u
 rcases h.form with ⟨rfl,_,_⟩ | ⟨g,rfl,hb,hgg⟩
 ·simp [Value.ownBlock]
 ·simp only [Value.ownBlock,ne_eq,Option.some.injEq]
  exact fun e=>hp g rfl e.symm
theorem OwnS.mono (h:OwnS c E w base a cap l) {b:Nat} (hb:b <= base):OwnS c E w b a cap l:=by
 refine ⟨h.1,?_⟩
 rcases h.2 with h2 | ⟨g,cc,cur,h1,h2,h3⟩
 ·exact .inl h2
 ·exact .inr ⟨g,cc,cur,h1,by omega,h3⟩
end
section
variable {P : Program} {T E : TypeId} {α : Type} {cc : Enc α} {z : Value} {bytes : Nat}
end
end Go.Proofs.YtnkpnjnfddjfpaaGreat

namespace Go.Proofs.YtnkpnjnfddjfpaaGreat
open Go.RowKit Go.Shelf M01
theorem Zay {w:World} {b:Nat} {u v:Value} {t:TypeId} (h:w.heap[b]? = some (.cells #[u,v] t (0,0))):w.cell? ⟨b,0,none⟩ = some u /\ w.cell? ⟨b,1,none⟩ = some v /\ w.frozen? ⟨b,0,none⟩ = false /\ w.frozen? ⟨b,1,none⟩ = false:=by
 simp [World.cell?,World.frozen?,h]
theorem Zfc {w:World} {b:Nat} {u v x:Value} {t:TypeId} (h:w.heap[b]? = some (.cells #[u,v] t (0,0))) :
  (w.setCell ⟨b,0,none⟩ x).heap[b]? = some (.cells #[x,v] t (0,0)) /\ (w.setCell ⟨b,1,none⟩ x).heap[b]? = some (.cells #[u,x] t (0,0)):=by
 constructor
 ·show (w.heap.modify b _)[b]? = _
  rw [Array.getElem?_modify,if_pos rfl,h];rfl
 ·show (w.heap.modify b _)[b]? = _
  rw [Array.getElem?_modify,if_pos rfl,h];rfl
theorem RowN.drewN {k:IntKind} {w:World} {a:Option Addr} {cap:Nat} {l:List Nat} (h:RowN k w a cap l) (q:Nat):RowN k (w.drewN q) a cap l:=h
theorem eqNilT (w:World):(binOp .eql 22 (.slice none 0 0) (.slice none 0 0)).run Tryz.prog w = .ok (.bool true) w:=by kernel_rfl
theorem eqNilF (x:Addr) (n c:Nat) (w:World):(binOp .eql 22 (.slice (some x) n c) (.slice none 0 0)).run Tryz.prog w = .ok (.bool false) w:=by kernel_rfl
set_option maxRecDepth 100000 in
theorem Zbn (w:World) (a:Option Addr) (cap:Nat) (l:List Nat) (hr:RowN .u8 w a cap l) (hl:l.length <= 100000000) :
  Calls Tryz.prog 32 #[.slice a l.length cap] w fun e w'=>∃ a' c',e = .returned (.slice a' l.length c') /\ OwnN 5 .u8 w' w.heap.size a' c' l /\ Below w.heap.size w w':=by
 by_cases ha:a = none
 ·subst ha
  have h0:cap = 0:=hr.2.1.2 rfl
  subst h0
  have hl0:l = []:=List.eq_nil_of_length_eq_zero (by have:=hr.1;omega)
  subst hl0
  clear hr
  go_enter Tryz.func32,Tryz.ntmps32
  go_wp2_with fail
  rw [eqNilT]
  go_wp2
  go_ret
  exact ⟨none,0,rfl,OwnN.nil _ _ _ _,Below.refl _ _⟩
 ·obtain ⟨x,rfl⟩:=Option.ne_none_iff_exists'.1 ha
  clear ha
  go_enter Tryz.func32,Tryz.ntmps32
  go_wp2_with fail
  rw [eqNilF]
  go_wp2_with (at_builtin;refine appAnyN Zcr rfl (.tmp 5) (.tmp 6) rfl (a:=some ⟨w.heap.size,0,none⟩) (cap:=0) (l:=[]) (ys:=l) (base:=w.heap.size) rfl (OwnN.lit0 _ _ _ _ (Nat.le_refl _)) rfl rfl (hr.below ((Below.refl _ _).alloc (Nat.le_refl _) _)) (by simp;omega) (by simp;omega) (by simp) ?_;intro a1 cap1 w1 hown1 hg1 hb1;simp only [List.nil_append] at hown1;simp only [List.length_nil,Nat.zero_add])
  go_ret
  exact ⟨a1,cap1,rfl,hown1,((Below.refl w.heap.size w).alloc (Nat.le_refl _) _).trans hb1⟩
theorem Zbh {fn:Func} {t u v:Tmp} (h:fn.results = #[.tmp t,.tmp u,.tmp v]) (tmps:Array Value) (P:Program) (w:World) :
  (results fn tmps).run P w = .ok (.tuple #[tmps.getD t undef,tmps.getD u undef,tmps.getD v undef]) w:=by
 simp [results,h,go_sem]
theorem Zar (w:World) (o:Obj):Below w.heap.size w (w.alloc o):=(Below.refl _ _).alloc (Nat.le_refl _) _
theorem Zap (T:Nat -> Prop) (w:World) (q:Nat):Only T w (w.drewN q):=⟨rfl,rfl,rfl,Nat.le_refl _,fun _ _ _=>rfl⟩
theorem app1AtN {P:Program} {T E:TypeId} {k:IntKind} {bytes:Nat} (et:ElemTy P T E k bytes) {w:World} {ops:Array Oper} {rest:List Oper} {o:Oper} {ac:Act} {Q:Exit -> Act -> World -> Prop} (hgd:o.guard = none) (s x:Operand)
  (ho:o.op = .call { callee:=.builtin .append,args:=#[s,x],argTypes:=#[T,T] }) {base:Nat} {a:Option Addr} {cap:Nat} {l:List Nat} {y:Nat} {c E':Nat}
  (hs:ac.eval s = .slice a l.length cap) (hown:OwnN E k w base a cap l) (hx:ac.eval x = .slice (some ⟨w.heap.size,0,none⟩) 1 c) (hc:1 <= c) (hc':c <= 9223372036854775807)
  (hn:l.length + 1 <= 9223372036854775807) (hbytes:(l.length + 1) * bytes <= 140737488355328) (hbase:base <= w.heap.size)
  (h:∀ a' cap' w',OwnN E k w' base a' cap' (l ++ [y]) -> w.grownBy w' (Value.slice a l.length cap).ownBlock -> (∀ g,a' = some ⟨g,0,none⟩ -> a = some ⟨g,0,none⟩ \/ w.heap.size <= g) -> wpList P ops Q rest (ac.put o.dst (.slice a' (l.length + 1) cap')) w') :
  wpList P ops Q (o :: rest) ac (w.alloc (.cells #[.int k y] E')):=by
 obtain ⟨i,h2,h3,h4,h5⟩:=info_parts et.info
 refine wpList_plain hgd fun K hK'=>?_
 have hy:RowN k (w.alloc (.cells #[.int k y] E')) (some ⟨w.heap.size,0,none⟩) c [y]:=by
  refine ⟨by simpa using hc,⟨hc',fun hn=>by cases hn⟩,.inr ⟨w.heap.size,0,rfl,by simp,fun i hi=>?_⟩⟩
  obtain rfl:i = 0:=by simp at hi;omega
  simp [World.cell?_alloc_at]
 obtain ⟨v',w',hr,h6,h7,h8,h9⟩:=run_append_own_at (P:=P) (w.alloc (.cells #[.int k y] E')) base T o.type E i (.int k 0) 1 bytes et.und h2 h3 h4 h5 rfl (by decide) _ l.length _ (hown.alloc (.cells #[.int k y] E')) ⟨w.heap.size,0,none⟩ 1 c ([y].map fun (n:Nat)=>Value.int k n) (by simp)
  (Zaf hy _ rfl) (by intro u hu;simp only [List.mem_map] at hu;obtain ⟨n,_,rfl⟩:=hu;rfl) (by simpa [maxLen] using hn) hbytes (by simp;omega)
 have hv:∃ a' cap',v' = .slice a' (l.length + 1) cap':=by
  rcases h6.2 with ⟨h9,h10⟩ | ⟨g,c',cur,h9,_⟩
  ·exact ⟨none,0,by rw [h9,h10]⟩
  ·exact ⟨_,_,h9⟩
 obtain ⟨a',cap',rfl⟩:=hv
 have hown':OwnN E k w' base a' cap' (l ++ [y]):=by
  unfold OwnN;rw [List.length_append,List.map_append];exact h6
 unfold Oper.wp
 simp [execOp,ho,resolve,invoke,builtin,hs,hx,hr,Result.andThen]
 refine hK' _ _ (h a' cap' w' hown' ⟨h7.os,h7.tape,h7.output,Nat.le_trans (by simp) h7.size,fun q hq hr=>(h7.block q (by simp;omega) hr).trans (Below.heap_alloc _ _ _ hq)⟩ ?_)
 rintro g rfl
 rcases h9 with h9 | h9
 ·left
  rcases hown.form with ⟨rfl,_,_⟩ | ⟨g',rfl,_⟩
  ·simp [Value.ownBlock] at h9
  ·simp [Value.ownBlock] at h9
   rw [h9]
 ·right
  simp [Value.ownBlock] at h9
  omega
theorem Zfp {E:TypeId} {k:IntKind} {w:World} {base cap n sp:Nat} {a:Option Addr} {l:List Nat} (h:OwnN E k w base a cap l) (h7:∀ g,a = some ⟨g,0,none⟩ -> sp < g) (b:Nat) (hb:b <= sp):some b ≠ (Value.slice a n cap).ownBlock:=by
 rcases h.form with ⟨rfl,_,_⟩ | ⟨g,rfl,_⟩
 ·simp [Value.ownBlock]
 ·have:=h7 g rfl
  simp [Value.ownBlock]
  omega
theorem Zbi {k:IntKind} {w:World} {a:Option Addr} {cap:Nat} {l:List Nat} (h:RowN k w a cap l) (n:Nat):RowN k w a cap (l.take n):=by
 obtain ⟨h1,h2,h3⟩:=h
 refine ⟨by simp;omega,h2,?_⟩
 rcases h3 with rfl | ⟨b,off,rfl,hb,hc⟩
 ·exact .inl (by simp)
 ·refine .inr ⟨b,off,rfl,hb,fun i hi=>?_⟩
  have hi2:i < l.length:=by simp at hi;omega
  rw [hc i hi2]
  simp
theorem OwnN.lit {k:IntKind} (E:TypeId) (w:World) (base:Nat) (l:List Nat) (vs:Array Value) (B:Nat) (hB:B = w.heap.size) (hv:vs = (l.map fun (n:Nat)=>Value.int k n).toArray) (hb:base <= w.heap.size) (hl:l.length <= maxLen) :
  OwnN E k (w.alloc (.cells vs E)) base (some ⟨B,0,none⟩) l.length l:=by
 subst hB hv
 exact ⟨by simp,.inr ⟨w.heap.size,l.length,(l.map fun (n:Nat)=>Value.int k n).toArray,rfl,hb,World.alloc_heap_new w _,Nat.le_refl _,hl,by simp,by simp [List.take_of_length_le]⟩⟩
theorem Zei (l:List Nat):∀ r:ByteArray,((l.map fun (n:Nat)=>(n:Int)).foldl (fun r n=>r.push (UInt8.ofNat n.toNat)) r) = r ++ ByteArray.mk (l.map UInt8.ofNat).toArray:=by
 induction l with
 | nil=>intro r;simp [ByteArray.ext_iff]
 | cons x t ih =>
  intro r
  simp only [List.map_cons,List.foldl_cons,Int.toNat_natCast]
  rw [ih]
  simp [ByteArray.ext_iff]
theorem Zea (l:List Nat):strOf l = ByteArray.mk (l.map UInt8.ofNat).toArray:=by
 unfold strOf
 rw [Zei]
 simp
theorem Zej (l:List Nat):(strOf l).size = l.length:=by
 rw [Zea]
 simp [ByteArray.size]
end Go.Proofs.YtnkpnjnfddjfpaaGreat

namespace Go.Proofs.YtnkpnjnfddjfpaaGreat
open Go
section
variable {P : Program} {ops : Array Oper} {Q : Exit → Act → World → Prop} {md : Region.Mode}
def leftOf (ops:Array Oper) (listed:Array Bool):Nat:=((List.range ops.size).filter fun i=>!listed.getD i true).length
theorem Zdj {listed:Array Bool} (h:leftOf ops listed = 0):Region.ready md ops listed = []:=by
 have h1:((List.range ops.size).filter fun i=>!listed.getD i true) = []:=List.eq_nil_of_length_eq_zero h
 rw [List.filter_eq_nil_iff] at h1
 unfold Region.ready
 rw [List.filter_eq_nil_iff]
 intro i hi hc
 rw [Bool.and_eq_true] at hc
 exact h1 i hi hc.1
theorem Zeq {α:Type _} (p q:α -> Bool):∀ (l:List α),(∀ x ∈ l,q x = true -> p x = true) -> (∃ x ∈ l,p x = true /\ q x = false) -> (l.filter q).length < (l.filter p).length:=by
 intro l
 induction l with
 | nil=>rintro - ⟨x,hx,-⟩;cases hx
 | cons y t ih =>
  intro h hex
  have hle:(t.filter q).length <= (t.filter p).length:=by
   clear ih hex
   have h':∀ x ∈ t,q x = true -> p x = true:=fun x hx=>h x (by simp [hx])
   clear h
   induction t with
   | nil=>simp
   | cons z t ih =>
    have h1:=h' z (by simp)
    have h2:=ih (fun x hx=>h' x (by simp [hx]))
    simp only [List.filter_cons]
    cases hq:q z <;> cases hp:p z <;> simp_all <;> omega
  have hy:=h y (by simp)
  by_cases hc:p y = true /\ q y = false
  ·simp only [List.filter_cons,hc.1,hc.2];simp;omega
  ·obtain ⟨x,hx,hpx⟩:=hex
   have hxt:x ∈ t:=by
    rcases List.mem_cons.1 hx with rfl | hx
    ·exact absurd hpx hc
    ·exact hx
   have:=ih (fun x hx=>h x (by simp [hx])) ⟨x,hxt,hpx⟩
   simp only [List.filter_cons]
   cases hq:q y <;> cases hp:p y <;> simp_all
theorem Zed {listed:Array Bool} {i:Nat} (hi:i ∈ Region.ready md ops listed):leftOf ops (listed.setIfInBounds i true) < leftOf ops listed:=by
 have hm:=hi
 unfold Region.ready at hm
 rw [List.mem_filter,Bool.and_eq_true] at hm
 have h0:listed.getD i true = false:=by simpa using hm.2.1
 refine Zeq _ _ _ (fun x hx hq=>?_) ⟨i,hm.1,by rw [h0];rfl,?_⟩
 ·by_cases hxi:i = x
  ·subst hxi;rw [h0];rfl
  ·rw [getD_set_ne true hxi] at hq;exact hq
 ·have hlt:i < listed.size:=by
   rcases Nat.lt_or_ge i listed.size with h' | h'
   ·exact h'
   ·simp [Array.getElem?_eq_none h'] at h0
  simp [hlt]
theorem Zfe (I:Array Bool -> Act -> World -> Prop)
  (step:∀ listed a w i,I listed a w -> i ∈ Region.ready md ops listed -> wpOp P ops Q i (I (listed.setIfInBounds i true)) a w)
  (done:∀ listed a w,I listed a w -> Region.ready md ops listed = [] -> Q .normal a w) :
  ∀ fuel listed a w,leftOf ops listed <= fuel -> I listed a w -> wpAny P md ops Q fuel listed a w:=by
 intro fuel
 induction fuel with
 | zero=>intro listed a w hl hI;have:=Zdj (md:=md) (ops:=ops) (listed:=listed) (by omega);exact ⟨this,done _ _ _ hI this⟩
 | succ fuel ih =>
  intro listed a w hl hI
  refine ⟨fun h=>done _ _ _ hI h,fun i hi=>?_⟩
  have:=Zed hi
  exact wpOp_mono (fun a' w' h=>ih _ _ _ (by omega) h) (step _ _ _ _ hI hi)
theorem Zcu (ops:Array Oper):leftOf ops (Array.replicate ops.size false) <= ops.size:=by
 unfold leftOf
 exact Nat.le_trans (List.length_filter_le _ _) (by simp)
def backB (md:Region.Mode) (ops:Array Oper):Bool:=(List.range ops.size).all fun i=>((ops[i]?).map fun o=>o.after.all fun e=>!Region.binds md e || decide (e.on < i)).getD true
theorem Zaw {listed:Array Bool} (hs:listed.size = ops.size) (hb:∀ (i:Nat) (o:Oper),ops[i]? = some o -> ∀ e ∈ o.after,Region.binds md e = true -> e.on < i)
  (hr:Region.ready md ops listed = []):∀ i,i < ops.size -> listed.getD i false = true:=by
 intro i
 induction i using Nat.strongRecOn with
 | ind i ih =>
  intro hi
  cases h:listed.getD i false with
  | true=>rfl
  | false =>
   exfalso
   have h1:i ∈ Region.ready md ops listed:=by
    rw [mem_ready]
    have hlt:i < listed.size:=by omega
    refine ⟨by simpa [hlt] using h,_,Array.getElem?_eq_getElem hi,fun e he hbe=>?_⟩
    have:=hb i _ (Array.getElem?_eq_getElem hi) e he hbe
    exact ih _ this (by omega)
   rw [hr] at h1;cases h1
def dstsL (ops:Array Oper):List Tmp:=ops.toList.filterMap (·.dst)
def spread (ds:List Nat) (f:Nat -> Value):Nat -> List Value -> List Value
 | _,[]=>[]
 | n,x :: t=>(bif ds.contains n then f n else x) :: spread ds f (n + 1) t
theorem Zao? (ds:List Nat) (f:Nat -> Value):∀ (l:List Value) (n t:Nat),(spread ds f n l)[t]? = (l[t]?).map fun x=>bif ds.contains (n + t) then f (n + t) else x
 | [],_,_=>by simp [spread]
 | x :: l,n,0=>by simp [spread]
 | x :: l,n,t + 1=>by
  simp only [spread,List.getElem?_cons_succ,Zao? ds f l (n + 1) t]
  rw [show n + 1 + t = n + (t + 1) from by omega]
def anc (md:Region.Mode) (ops:Array Oper) (i:Nat):Nat -> Nat -> Bool
 | 0,_=>false
 | fuel + 1,j=>((ops[j]?).map fun o=>o.after.any fun e=>Region.binds md e && (e.on == i || anc md ops i fuel e.on)).getD false
def Shut (md:Region.Mode) (ops:Array Oper) (listed:Array Bool):Prop :=
 ∀ (j:Nat) (o:Oper),ops[j]? = some o -> listed.getD j false = true -> ∀ e ∈ o.after,Region.binds md e = true -> listed.getD e.on false = true
theorem Shut.anc {listed:Array Bool} (h:Shut md ops listed) (i:Nat):∀ fuel j,anc md ops i fuel j = true -> listed.getD j false = true -> listed.getD i false = true:=by
 intro fuel
 induction fuel with
 | zero=>intro j hj;cases hj
 | succ fuel ih =>
  intro j hj hl
  unfold Go.Proofs.YtnkpnjnfddjfpaaGreat.anc at hj
  cases ho:ops[j]? with
  | none=>simp [ho] at hj
  | some o =>
   simp only [ho,Option.map_some,Option.getD_some] at hj
   obtain ⟨e,he,hb⟩:=Array.any_eq_true'.1 hj
   rw [Bool.and_eq_true,Bool.or_eq_true] at hb
   have h1:=h j o ho hl e he hb.1
   rcases hb.2 with h2 | h2
   ·rw [beq_iff_eq] at h2;rw [<- h2];exact h1
   ·exact ih _ h2 h1
theorem Shut.ready {listed:Array Bool} (h:Shut md ops listed) {i k:Nat} {o:Oper} (hi:ops[i]? = some o) (hw:∀ e ∈ o.after,Region.binds md e = true -> listed.getD e.on false = true) :
  ∀ fuel,Go.Proofs.YtnkpnjnfddjfpaaGreat.anc md ops k fuel i = true -> listed.getD k false = true:=by
 intro fuel hf
 cases fuel with
 | zero=>cases hf
 | succ fuel =>
  unfold Go.Proofs.YtnkpnjnfddjfpaaGreat.anc at hf
  simp only [hi,Option.map_some,Option.getD_some] at hf
  obtain ⟨e,he,hb⟩:=Array.any_eq_true'.1 hf
  rw [Bool.and_eq_true,Bool.or_eq_true] at hb
  have h1:=hw e he hb.1
  rcases hb.2 with h2 | h2
  ·rw [beq_iff_eq] at h2;rw [<- h2];exact h1
  ·exact h.anc k _ _ h2 h1
def wantE (md:Region.Mode) (e:Edge):Bool:=Region.binds md e && (match e.ground with | .data=>true | _=>false)
theorem Zae {e:Edge} (h:wantE md e = true):Region.binds md e = true:=by unfold wantE at h;rw [Bool.and_eq_true] at h;exact h.1
def usedB (md:Region.Mode) (ops:Array Oper) (fin:Nat -> Bool) (i j:Nat):Bool :=
 !(i == j) && !(anc md ops i ops.size j) && (fin j || (List.range ops.size).any fun k=>!(k == i) && !(anc md ops k ops.size i) && ((ops[k]?).map fun o=>o.after.any fun e=>wantE md e && e.on == j).getD false)
def Wants (md:Region.Mode) (ops:Array Oper) (fin:Nat -> Bool) (listed:Array Bool) (j:Nat):Prop :=
 fin j = true \/ ∃ (k:Nat) (o:Oper) (e:Edge),ops[k]? = some o /\ listed.getD k true = false /\ e ∈ o.after /\ wantE md e = true /\ e.on = j
theorem Wants.used {fin:Nat -> Bool} {listed:Array Bool} {i j:Nat} {oi:Oper} (hij:i ≠ j) (hoi:ops[i]? = some oi) (hwi:∀ e ∈ oi.after,Region.binds md e = true -> listed.getD e.on false = true) (hi:i < listed.size) (hsh:Shut md ops listed) (hun:listed.getD i true = false) (hlj:listed.getD j false = true) (h:Wants md ops fin (listed.setIfInBounds i true) j):Wants md ops fin listed j /\ usedB md ops fin i j = true:=by
 have hna:anc md ops i ops.size j = false:=by
  cases hc:anc md ops i ops.size j with
  | false=>rfl
  | true =>
   have:=hsh.anc i _ _ hc hlj
   simp [hi] at this hun
   rw [hun] at this;cases this
 have hij':(i == j) = false:=by simpa using hij
 unfold usedB
 rw [hna,hij',Bool.not_false,Bool.true_and,Bool.true_and]
 rcases h with h | ⟨k,o,e,hk,hl,he,hb,hj⟩
 ·exact ⟨.inl h,by simp [h]⟩
 ·have hki:k ≠ i:=fun hc=>by
   subst hc;simp [hi] at hl
  rw [getD_set_ne true (Ne.symm hki)] at hl
  have hnk:anc md ops k ops.size i = false:=by
   cases hc:anc md ops k ops.size i with
   | false=>rfl
   | true =>
    have h1:=hsh.ready hoi hwi _ hc
    have hk2:k < listed.size:=by
     rcases Nat.lt_or_ge k listed.size with h' | h'
     ·exact h'
     ·simp [Array.getElem?_eq_none h'] at h1
    simp [hk2] at h1 hl
    rw [h1] at hl;cases hl
  refine ⟨.inr ⟨k,o,e,hk,hl,he,hb,hj⟩,?_⟩
  rw [Bool.or_eq_true];right
  rw [List.any_eq_true]
  refine ⟨k,by simpa using (Array.getElem?_eq_some_iff.1 hk).1,?_⟩
  simp only [hk,Option.map_some,Option.getD_some,Bool.and_eq_true,Bool.not_eq_true',beq_eq_false_iff_ne]
  refine ⟨⟨hki,hnk⟩,?_⟩
  rw [Array.any_eq_true']
  exact ⟨e,he,by simp [hb,hj]⟩
def leftBy (a:Act) (o:Oper):Value:=match o.dst with | some d=>a.tmps.getD d undef | none=>undef
structure FlowAt (md:Region.Mode) (ops:Array Oper) (fin:Nat -> Bool) (R:Array Bool -> World -> Prop) (V:Nat -> Value -> World -> Prop) (D:Nat -> Nat -> Value -> Value -> Prop) (a0:Act) (listed:Array Bool) (a:Act) (w:World):Prop where
 rel:R listed w
 size:a.tmps.size = a0.tmps.size
 defers:a.defers = a0.defers
 out:∀ t,t ∉ dstsL ops -> a.tmps.getD t undef = a0.tmps.getD t undef
 old:∀ (j:Nat) (oj:Oper) (d:Tmp),ops[j]? = some oj -> oj.dst = some d -> listed.getD j false = false -> a.tmps.getD d undef = a0.tmps.getD d undef
 len:listed.size = ops.size
 shut:Shut md ops listed
 val:∀ (i:Nat) (o:Oper),ops[i]? = some o -> listed.getD i false = true -> Wants md ops fin listed i -> V i (leftBy a o) w
 apart:∀ (i j:Nat) (o o':Oper),ops[i]? = some o -> ops[j]? = some o' -> listed.getD i false = true -> listed.getD j false = true -> Wants md ops fin listed i -> Wants md ops fin listed j -> i ≠ j -> D i j (leftBy a o) (leftBy a o')
theorem Zav {i:Nat} {o:Oper} {d:Tmp} (h:ops[i]? = some o) (hd:o.dst = some d):d ∈ dstsL ops:=by
 unfold dstsL
 rw [List.mem_filterMap]
 exact ⟨o,by simpa using Array.mem_of_getElem? h,hd⟩
structure OneEach (ops:Array Oper) (n:Nat):Prop where
 one:∀ (i j:Nat) (oi oj:Oper) (d:Tmp),ops[i]? = some oi -> ops[j]? = some oj -> oi.dst = some d -> oj.dst = some d -> i = j
 fits:∀ d ∈ dstsL ops,d < n
theorem OneEach.mk' {n:Nat} (h:((List.range ops.size).all fun i=>(List.range ops.size).all fun j=>i == j || (match (ops[i]?).bind (·.dst),(ops[j]?).bind (·.dst) with | some d,some e=>!(d == e) | _,_=>true)) = true)
  (hf:((dstsL ops).all fun d=>d < n) = true):OneEach ops n where
 one i j oi oj d hi hj di dj:=by
  rw [List.all_eq_true] at h
  have h1:=h i (by simpa using (Array.getElem?_eq_some_iff.1 hi).1)
  rw [List.all_eq_true] at h1
  have h2:=h1 j (by simpa using (Array.getElem?_eq_some_iff.1 hj).1)
  simpa [hi,hj,di,dj] using h2
 fits d hd:=by
  rw [List.all_eq_true] at hf
  simpa using hf d hd
theorem Zab {n:Nat} {a:Act} {i j:Nat} {o oj:Oper} {v:Value} (h1:OneEach ops n) (hi:ops[i]? = some o) (hj:ops[j]? = some oj) (hij:i ≠ j):leftBy (a.put o.dst v) oj = leftBy a oj:=by
 unfold leftBy
 cases hdj:oj.dst with
 | none=>rfl
 | some dj =>
  cases hd:o.dst with
  | none=>rfl
  | some d =>
   have:d ≠ dj:=fun e=>hij (h1.one i j o oj d hi hj hd (e ▸ hdj))
   simp [Act.put,Array.getElem?_setIfInBounds_ne this]
theorem Zah {a:Act} {i:Nat} {o:Oper} {v:Value} (h1:OneEach ops a.tmps.size) (hi:ops[i]? = some o):leftBy (a.put o.dst v) o = (match o.dst with | some _=>v | none=>undef):=by
 unfold leftBy
 cases hd:o.dst with
 | none=>rfl
 | some d =>
  have hlt:d < a.tmps.size:=h1.fits d (Zav hi hd)
  simp [Act.put,hlt]
theorem Zan {listed:Array Bool} {i:Nat} (hi:i < listed.size):(listed.setIfInBounds i true).getD i false = true:=by simp [hi]
theorem FlowAt.next {fin:Nat -> Bool} {R:Array Bool -> World -> Prop} {V:Nat -> Value -> World -> Prop} {D:Nat -> Nat -> Value -> Value -> Prop} {a0 a:Act} {listed:Array Bool} {w w':World} {i:Nat} {o:Oper} {v:Value}
  (h1:OneEach ops a0.tmps.size) (h:FlowAt md ops fin R V D a0 listed a w) (hi:ops[i]? = some o) (hun:listed.getD i true = false)
  (hw:∀ e ∈ o.after,Region.binds md e = true -> listed.getD e.on false = true)
  (hR:R (listed.setIfInBounds i true) w')
  (hmono:∀ j u,usedB md ops fin i j = true -> V j u w -> (∀ e ∈ o.after,wantE md e = true -> e.on ≠ j -> ∀ oe,ops[e.on]? = some oe -> D e.on j (leftBy a oe) u /\ D j e.on u (leftBy a oe)) →
   V j u w' /\ D i j (match o.dst with | some _=>v | none=>undef) u /\ D j i u (match o.dst with | some _=>v | none=>undef))
  (hv:V i (match o.dst with | some _=>v | none=>undef) w'):FlowAt md ops fin R V D a0 (listed.setIfInBounds i true) (a.put o.dst v) w':=by
 have hil:i < listed.size:=by rw [h.len];exact (Array.getElem?_eq_some_iff.1 hi).1
 have h1a:OneEach ops a.tmps.size:=h.size ▸ h1
 have wi:∀ e ∈ o.after,wantE md e = true -> Wants md ops fin listed e.on:=fun e he hb=>.inr ⟨i,o,e,hi,hun,he,hb,rfl⟩
 have key:∀ (j:Nat) (oj:Oper),i ≠ j -> ops[j]? = some oj -> (listed.setIfInBounds i true).getD j false = true -> Wants md ops fin (listed.setIfInBounds i true) j →
   V j (leftBy a oj) w' /\ D i j (match o.dst with | some _=>v | none=>undef) (leftBy a oj) /\ D j i (leftBy a oj) (match o.dst with | some _=>v | none=>undef):=by
  intro j oj hij hj hl hn
  rw [getD_set_ne false hij] at hl
  obtain ⟨hn',hu⟩:=hn.used hij hi hw hil h.shut hun hl
  refine hmono j _ hu (h.val j oj hj hl hn') fun e he hb hne oe hoe=>?_
  exact ⟨h.apart _ _ _ _ hoe hj (hw e he (Zae hb)) hl (wi e he hb) hn' hne,h.apart _ _ _ _ hj hoe hl (hw e he (Zae hb)) hn' (wi e he hb) (Ne.symm hne)⟩
 refine ⟨hR,?_,?_,?_,?_,?_,?_,?_,?_⟩
 ·rw [<- h.size];cases o.dst <;> simp [Act.put]
 ·rw [<- h.defers];cases o.dst <;> simp [Act.put]
 ·intro t ht
  rw [<- h.out t ht]
  cases hd:o.dst with
  | none=>rfl
  | some d =>
   have:d ≠ t:=fun e=>ht (e ▸ Zav hi hd)
   simp [Act.put,Array.getElem?_setIfInBounds_ne this]
 ·intro j oj d hj hd hl
  by_cases hij:i = j
  ·subst hij
   rw [Zan hil] at hl;cases hl
  ·rw [getD_set_ne false hij] at hl
   rw [<- h.old j oj d hj hd hl]
   cases hd':o.dst with
   | none=>rfl
   | some d' =>
    have:d' ≠ d:=fun e=>hij (h1.one i j o oj d hi hj (e ▸ hd') hd)
    simp [Act.put,Array.getElem?_setIfInBounds_ne this]
 ·rw [<- h.len];simp
 ·intro j oj hj hl e he hb
  by_cases hij:i = j
  ·subst hij
   rw [hi] at hj;cases hj
   exact getD_set_true (hw e he hb)
  ·rw [getD_set_ne false hij] at hl
   exact getD_set_true (h.shut j oj hj hl e he hb)
 ·intro j oj hj hl hn
  by_cases hij:i = j
  ·subst hij
   rw [hi] at hj;cases hj
   rw [Zah h1a hi];exact hv
  ·rw [Zab h1a hi hj hij]
   exact (key j oj hij hj hl hn).1
 ·intro j k oj ok hj hk hlj hlk hnj hnk hjk
  by_cases hij:i = j
  ·subst hij
   rw [hi] at hj;cases hj
   rw [Zah h1a hi,Zab h1a hi hk hjk]
   exact (key k ok hjk hk hlk hnk).2.1
  ·rw [Zab h1a hi hj hij]
   by_cases hik:i = k
   ·subst hik
    rw [hi] at hk;cases hk
    rw [Zah h1a hi]
    exact (key j oj hij hj hlj hnj).2.2
   ·rw [Zab h1a hi hk hik]
    rw [getD_set_ne false hij] at hlj
    rw [getD_set_ne false hik] at hlk
    exact h.apart _ _ _ _ hj hk hlj hlk (hnj.used hij hi hw hil h.shut hun hlj).1 (hnk.used hik hi hw hil h.shut hun hlk).1 hjk
theorem FlowAt.start {fin:Nat -> Bool} {R:Array Bool -> World -> Prop} {V:Nat -> Value -> World -> Prop} {D:Nat -> Nat -> Value -> Value -> Prop} {a0:Act} {w:World} (h:R (Array.replicate ops.size false) w):FlowAt md ops fin R V D a0 (Array.replicate ops.size false) a0 w where
 rel:=h
 size:=rfl
 defers:=rfl
 out _ _:=rfl
 old _ _ _ _ _ _:=rfl
 len:=by simp
 shut i o hi hl:=by
  exfalso
  have:=(Array.getElem?_eq_some_iff.1 hi).1
  simp [this] at hl
 val i o hi hl _:=by
  exfalso
  have:=(Array.getElem?_eq_some_iff.1 hi).1
  simp [this] at hl
 apart i j o o' hi hj hl _ _ _ _:=by
  exfalso
  have:=(Array.getElem?_eq_some_iff.1 hi).1
  simp [this] at hl
theorem FlowAt.end {fin:Nat -> Bool} {R:Array Bool -> World -> Prop} {V:Nat -> Value -> World -> Prop} {D:Nat -> Nat -> Value -> Value -> Prop} {l:List Value} {d:List Deferred} {listed:Array Bool} {a:Act} {w:World}
  (hb:∀ (i:Nat) (o:Oper),ops[i]? = some o -> ∀ e ∈ o.after,Region.binds md e = true -> e.on < i)
  (h:FlowAt md ops fin R V D ⟨l.toArray,d⟩ listed a w) (hr:Region.ready md ops listed = []) :
  R listed w /\ (∀ i,i < ops.size -> listed.getD i false = true) /\ (∀ (i:Nat) (o:Oper),ops[i]? = some o -> fin i = true -> V i (leftBy a o) w) ∧
  a = ⟨(spread (dstsL ops) (fun t=>a.tmps.getD t undef) 0 l).toArray,d⟩:=by
 refine ⟨h.rel,Zaw h.len hb hr,fun i o hi hf=>h.val i o hi (Zaw h.len hb hr i (Array.getElem?_eq_some_iff.1 hi).1) (.inl hf),?_⟩
 have h1:=h.size
 have h2:=h.defers
 have h3:=h.out
 cases a with
 | mk tm df =>
  simp only at h1 h2 h3 ⊢
  subst h2
  congr 1
  apply Array.ext_getElem?
  intro t
  have e2:(spread (dstsL ops) (fun t=>tm.getD t undef) 0 l).toArray[t]? = (spread (dstsL ops) (fun t=>tm.getD t undef) 0 l)[t]?:=by simp
  rw [e2,Zao?]
  simp only [Nat.zero_add]
  have hs:tm.size = l.length:=by simpa using h1
  by_cases ht:t < l.length
  ·have e1:tm[t]? = some (tm.getD t undef):=by simp [hs,ht]
   rw [e1,List.getElem?_eq_getElem ht]
   simp only [Option.map_some,Option.some.injEq]
   cases hc:(dstsL ops).contains t with
   | true=>rfl
   | false =>
    have:t ∉ dstsL ops:=fun hm=>by rw [List.contains_iff_mem.2 hm] at hc;cases hc
    have h4:=h3 t this
    rw [h4];simp [ht]
  ·rw [Array.getElem?_eq_none (by omega),List.getElem?_eq_none (by omega)];rfl
def StepTo (P:Program) (Q:Exit -> Act -> World -> Prop) (o:Oper) (a:Act) (w:World) (K:Act -> World -> Prop):Prop:=o.wp P a w K Q \/ (o.asks P a w /\ LetsOut Q)
theorem Zax {Q:Exit -> Act -> World -> Prop} {o:Oper} {a:Act} {w w':World} {K:Act -> World -> Prop} {v:Value} (hr:(execOp a.eval o).run P w = .ok (.value v) w') (h:K (a.put o.dst v) w'):StepTo P Q o a w K:=by
 left;unfold Oper.wp;rw [hr];exact h
theorem Zdp {Q:Exit -> Act -> World -> Prop} {o:Oper} {a:Act} {w w':World} {K:Act -> World -> Prop} (hr:(execOp a.eval o).run P w = .ok .skip w') (h:K (a.put o.dst undef) w'):StepTo P Q o a w K:=by
 left;unfold Oper.wp;rw [hr];exact h
theorem Zdo {Q:Exit -> Act -> World -> Prop} {o:Oper} {a:Act} {w:World} {K:Act -> World -> Prop} {f:FuncId} {args:Array Value} (hr:(execOp a.eval o).run P w = .ok (.enter f args) w)
  (hc:Calls P f args w fun e w'=>∃ v,e = .returned v /\ K (a.put o.dst v) w'):StepTo P Q o a w K:=by
 left;unfold Oper.wp;rw [hr,Oper.upon_enter]
 refine hc.mono ?_
 rintro e w' ⟨v,rfl,h⟩
 exact h
theorem used_mem {fin:Nat -> Bool} {i j:Nat} (hb:backB md ops = true)
  (hf:∀ j,fin j = true -> j < ops.size) (h:usedB md ops fin i j = true) (L:List Nat) (hL:(List.range ops.size).filter (usedB md ops fin i) = L):j ∈ L:=by
 rw [<- hL,List.mem_filter]
 refine ⟨?_,h⟩
 rw [List.mem_range]
 unfold usedB at h
 rw [Bool.and_eq_true,Bool.or_eq_true] at h
 rcases h.2 with h2 | h2
 ·exact hf j h2
 ·rw [List.any_eq_true] at h2
  obtain ⟨k,hk,h3⟩:=h2
  rw [Bool.and_eq_true] at h3
  cases ho:ops[k]? with
  | none=>rw [ho] at h3;simp at h3
  | some o =>
   rw [ho] at h3
   simp only [Option.map_some,Option.getD_some] at h3
   obtain ⟨e,he,h4⟩:=Array.any_eq_true'.1 h3.2
   rw [Bool.and_eq_true,beq_iff_eq] at h4
   unfold backB at hb
   rw [List.all_eq_true] at hb
   have h5:=hb k hk
   rw [ho] at h5
   simp only [Option.map_some,Option.getD_some] at h5
   rw [Array.all_eq_true_iff_forall_mem] at h5
   have h6:=h5 e he
   rw [Zae h4.1] at h6
   have:=List.mem_range.1 hk
   rw [<- h4.2]
   simp at h6
   omega
end
end Go.Proofs.YtnkpnjnfddjfpaaGreat

namespace Go.Proofs.YtnkpnjnfddjfpaaGreat
theorem Zda {l n:Nat} {P:Program} {row:String} {args:Array Value} {w:World} {R:Value -> World -> Prop} (h:Rows P row args w R):RowsIn (Fence.wide.inRound l) n P row args w R:=by
 intro c cs _
 obtain ⟨v,w',hr,hs⟩:=h c cs
 exact ⟨v,w',hr,stepsIn_wide.2 hs⟩
theorem Zee {l n:Nat} {P:Program} {o:Oper} {a:Act} {w:World} {next:Act -> World -> Prop} {Q:Exit -> Act -> World -> Prop} (hd:∀ c,o.op ≠ .defer c) (h:o.wp P a w next Q):o.wpIn (Fence.wide.inRound l) n P a w next Q:=by
 unfold Oper.wp at h
 refine ⟨fun f _=>trivial,?_⟩
 rw [Oper.semAt_plain _ _ _ hd]
 generalize (execOp a.eval o).run P w = r at *
 cases r with
 | ok x w' =>
  cases x <;> simp only [Oper.upon,Oper.uponIn] at h ⊢ <;> try exact h
  ·exact ⟨fun h0=>(by cases h0),callsIn_wide.2 h⟩
  ·exact ⟨fun h0=>(by cases h0),Zda h⟩
 | halt x w'=>cases x <;> simp only [Oper.upon,Oper.uponIn] at h ⊢ <;> exact h
def noDefer (ops:Array Oper):Bool:=ops.all fun o=>match o.op with | .defer _=>false | _=>true
theorem Zca {ops:Array Oper} (h:noDefer ops = true) {i:Nat} {o:Oper} (ho:ops[i]? = some o):∀ c,o.op ≠ .defer c:=by
 intro c hc
 unfold noDefer at h
 rw [Array.all_eq_true_iff_forall_mem] at h
 have:=h o (Array.mem_of_getElem? ho)
 rw [hc] at this
 cases this
theorem Zam {l n:Nat} {P:Program} {ops:Array Oper} {Q:Exit -> Act -> World -> Prop} {md:Region.Mode} (hQ:¬ LetsOut Q) (hd:noDefer ops = true) :
  ∀ (fuel:Nat) (listed:Array Bool) (a:Act) (w:World),wpAny P md ops Q fuel listed a w -> wpAnyIn (Fence.wide.inRound l) n P md ops Q fuel listed a w
 | 0,listed,a,w,h=>h
 | fuel + 1,listed,a,w,h=>by
  refine ⟨h.1,fun i hi=>?_⟩
  have h2:=h.2 i hi
  unfold wpOp at h2
  unfold wpOpIn
  cases ho:ops[i]? with
  | none=>rw [ho] at h2;exact Zam hQ hd fuel _ _ _ h2
  | some o =>
   rw [ho] at h2
   simp only at h2 ⊢
   split
   ·rename_i hw
    rw [if_pos hw] at h2
    rcases h2 with h2 | h2
    ·exact Oper.wpIn_mono (fun a w=>Zam hQ hd fuel _ a w) (Zee (Zca hd ho) h2)
    ·exact absurd h2.2 hQ
   ·rename_i hw
    rw [if_neg hw] at h2
    exact ⟨fun f _=>trivial,Zam hQ hd fuel _ _ _ h2⟩
open Go.RowKit in
open Go.RowKit in
theorem appEq {P:Program} {T E:TypeId} {k:IntKind} {bytes:Nat} (et:ElemTy P T E k bytes) {w:World} {base:Nat} {a b:Option Addr} {cap n m c:Nat} {l ys:List Nat} (ty:TypeId) (hown:OwnN E k w base a cap l) (hnl:n = l.length) (hm:m = ys.length) (hy:RowN k w b c ys)
  (hn:n + m <= 9223372036854775807) (hbytes:(n + m) * bytes <= 140737488355328) (hbase:base <= w.heap.size) :
  ∃ a' cap' w',OwnN E k w' base a' cap' (l ++ ys) /\ Below base w w' /\ w.grownBy w' (Value.slice a n cap).ownBlock ∧
   (Builtin.append_ #[T,T] ty #[.slice a n cap,.slice b m c]).run P w = .ok (.slice a' (n + m) cap') w':=by
 subst hnl hm
 obtain ⟨i,h2,h3,h4,h5⟩:=info_parts et.info
 have hbel:∀ {w':World},w.grownBy w' (Value.slice a l.length cap).ownBlock -> Below base w w':=fun h7=>Below.of_grown h7 hbase (by
  intro g hg
  exact (World.ownsRow.lt hown g hg).1)
 by_cases hy0:0 < ys.length
 ·obtain ⟨bb,off,rfl,_⟩:=hy.at hy0
  obtain ⟨v',w',hr,h6,h7,h8⟩:=run_append_own (P:=P) w base T ty E i (.int k 0) 1 bytes et.und h2 h3 h4 h5 rfl (by decide) _ l.length _ hown ⟨bb,off,none⟩ ys.length c (ys.map fun (n:Nat)=>Value.int k n) (by simp)
   (Zaf hy _ rfl) (by intro u hu;simp only [List.mem_map] at hu;obtain ⟨n,_,rfl⟩:=hu;rfl) (by simpa [maxLen] using hn) hbytes hbase
  have hv:∃ a' cap',v' = .slice a' (l.length + ys.length) cap':=by
   rcases h6.2 with ⟨h9,h10⟩ | ⟨g,c',cur,h9,_⟩
   ·exact ⟨none,0,by rw [h9,h10]⟩
   ·exact ⟨_,_,h9⟩
  obtain ⟨a',cap',rfl⟩:=hv
  have hown':OwnN E k w' base a' cap' (l ++ ys):=by
   unfold OwnN;rw [List.length_append,List.map_append];exact h6
  exact ⟨a',cap',w',hown',hbel h7,h7,hr⟩
 obtain rfl:ys = []:=List.eq_nil_of_length_eq_zero (by omega)
 cases b with
 | none =>
  obtain rfl:c = 0:=hy.2.1.2 rfl
  have hr:=run_append_owned_none (P:=P) w base T ty E i 1 et.und h2 _ l.length _ hown
  exact ⟨a,cap,w,by simpa using hown,Below.refl _ _,World.grownBy.refl _ _,by simpa using hr⟩
 | some ad =>
  obtain ⟨v',w',hr,h6,h7,h8⟩:=run_append_own (P:=P) w base T ty E i (.int k 0) 1 bytes et.und h2 h3 h4 h5 rfl (by decide) _ l.length _ hown ad 0 c [] (by simp)
   (by simp) (by simp) (by simpa [maxLen] using hn) (by simpa using hbytes) hbase
  have hv:∃ a' cap',v' = .slice a' l.length cap':=by
   rcases h6.2 with ⟨h9,h10⟩ | ⟨g,c',cur,h9,_⟩
   ·exact ⟨none,0,by rw [h9];simp at h10;rw [h10];rfl⟩
   ·exact ⟨_,_,h9⟩
  obtain ⟨a',cap',rfl⟩:=hv
  have hown':OwnN E k w' base a' cap' l:=by
   unfold OwnN;simpa using h6
  exact ⟨a',cap',w',by simpa using hown',hbel h7,h7,by simpa using hr⟩
end Go.Proofs.YtnkpnjnfddjfpaaGreat

namespace Go.Proofs.YtnkpnjnfddjfpaaGreat
open Go
theorem Zdb {n:Nat} {P:Program} {row:String} {args:Array Value} {w:World} {R:Value -> World -> Prop} (h:Rows P row args w R):RowsIn Fence.wide n P row args w R:=by
 intro c cs _
 obtain ⟨v,w',hr,hs⟩:=h c cs
 exact ⟨v,w',hr,stepsIn_wide.2 hs⟩
theorem Zdk {n:Nat} {P:Program} {o:Oper} {a:Act} {w:World} {next:Act -> World -> Prop} {Q:Exit -> Act -> World -> Prop} (hd:∀ c,o.op ≠ .defer c) (h:o.wp P a w next Q):o.wpIn Fence.wide n P a w next Q:=by
 unfold Oper.wp at h
 refine ⟨fun f _=>trivial,?_⟩
 rw [Oper.semAt_plain _ _ _ hd]
 generalize (execOp a.eval o).run P w = r at *
 cases r with
 | ok x w' =>
  cases x <;> simp only [Oper.upon,Oper.uponIn] at h ⊢ <;> try exact h
  ·exact ⟨fun h0=>(by cases h0),callsIn_wide.2 h⟩
  ·exact ⟨fun h0=>(by cases h0),Zdb h⟩
 | halt x w'=>cases x <;> simp only [Oper.upon,Oper.uponIn] at h ⊢ <;> exact h
theorem Zaj {n:Nat} {P:Program} {ops:Array Oper} {Q:Exit -> Act -> World -> Prop} {md:Region.Mode} (hQ:¬ LetsOut Q) (hd:noDefer ops = true) :
  ∀ (fuel:Nat) (listed:Array Bool) (a:Act) (w:World),wpAny P md ops Q fuel listed a w -> wpAnyIn Fence.wide n P md ops Q fuel listed a w
 | 0,listed,a,w,h=>h
 | fuel + 1,listed,a,w,h=>by
  refine ⟨h.1,fun i hi=>?_⟩
  have h2:=h.2 i hi
  unfold wpOp at h2
  unfold wpOpIn
  cases ho:ops[i]? with
  | none=>rw [ho] at h2;exact Zaj hQ hd fuel _ _ _ h2
  | some o =>
   rw [ho] at h2
   simp only at h2 ⊢
   split
   ·rename_i hw
    rw [if_pos hw] at h2
    rcases h2 with h2 | h2
    ·exact Oper.wpIn_mono (fun a w=>Zaj hQ hd fuel _ a w) (Zdk (Zca hd ho) h2)
    ·exact absurd h2.2 hQ
   ·rename_i hw
    rw [if_neg hw] at h2
    exact ⟨fun f _=>trivial,Zaj hQ hd fuel _ _ _ h2⟩
theorem Zac {dep:Nat} {P:Program} {id:Nat} {Q:Exit -> Act -> World -> Prop} {a:Act} {w:World} {l:List Oper} (hQ:¬ LetsOut Q) (hd:noDefer l.toArray = true) (hm:P.follows .mixedOrders = true) (hB:Region.lexB .any l.toArray = true)
  (h:wpQuiet P l.toArray (fun w'=>∃ n,w' = w.drewN n) (fun a'=>∀ w',(∃ n,w' = w.drewN n) -> Q .normal a' w') l a):(Code.region id l.toArray true).wpIn Fence.wide dep P Q a w:=by
 simp only [Region.lexB,Bool.and_eq_true] at hB
 refine wpIn_region_any hm (Zaj hQ hd _ _ _ _ ?_)
 refine wpAny_of_quiet (Q:=fun a'=>∀ w',(∃ n,w' = w.drewN n) -> Q .normal a' w') (fun _ w' hw' h=>h w' hw') _ _ _ _ ⟨1,rfl⟩ ?_
 have:=wpAnyQ_lex (C:=fun w'=>∃ n,w' = w.drewN n) (md:=.any) hB.1 l 0 (Array.replicate l.toArray.size false) a (by simp) (by simpa using hB.2) h
 simpa using this
end Go.Proofs.YtnkpnjnfddjfpaaGreat
