/- layer 27's law BunzipMasked. -/
import Derived.Test.YtnkpnjnfddjfpaaW01
import Derived.Test.YtnkpnjnfddjfpaaW02
import Derived.Test.YtnkpnjnfddjfpaaW03
import Derived.Test.YtnkpnjnfddjfpaaW04
import Derived.Test.YtnkpnjnfddjfpaaW05
import Derived.Test.YtnkpnjnfddjfpaaW06
import Derived.Test.YtnkpnjnfddjfpaaW07
import Derived.Test.YtnkpnjnfddjfpaaW08
import Derived.Test.YtnkpnjnfddjfpaaW09
import Derived.Test.YtnkpnjnfddjfpaaW10
import Derived.Test.YtnkpnjnfddjfpaaW11
import Derived.Test.YtnkpnjnfddjfpaaW12
import Derived.Test.YtnkpnjnfddjfpaaW13
import Derived.Test.YtnkpnjnfddjfpaaW14
import Derived.Test.YtnkpnjnfddjfpaaW15
import Derived.BigQuiet
import Derived.Lib.SlBytesConst
import Derived.Test.YtnkpnjnfddjfpaaChecked
import Derived.Laws.Bits64b
import Derived.Maps.AppendAt
import Derived.WalkLawsBesides
import Derived.Lib.SlicesS
import Derived.RangeFuncNested
import Derived.RangeFuncBound
import Derived.RangeFuncCalls
import Derived.RangeFuncLeaves
import Derived.RangeFuncWrites
import Derived.Shelf.Abstract
import Derived.Shelf.RegionOpen
import Derived.TacticsInMore
import Derived.LoopNIn
import Derived.LoopIn
import Derived.Below
import Derived.OneCell
import Derived.OwnWalkIn
import Derived.Laws.BytesString
import Derived.WalkKit
import Derived.WalkSpells
import Derived.Lib.Hide
import Derived.Deep.QuietTactic
import Derived.Deep.RegionLaw
import Derived.StillTailTactics
import Derived.Maps.Own
import Derived.Maps.OwnOps
import Derived.Maps.OwnSet
import Derived.Maps.Views
import Derived.DeepKeys4
import Derived.WalkArith
import Derived.Defers
import Derived.Recover
import Derived.Laws.Pointers
import Derived.Great.BuildSlice
import Derived.Laws.EntriesVeiled
import Derived.Laws.CopyRow
import Derived.Laws.IdiomCopy
import Derived.Laws.CopyOwn
import Derived.Lib.MakeNoZero
import Derived.Orders
import Derived.OrdersIn
import Derived.Tactics
import Derived.TacticsIn
import Derived.StillTail
import Derived.StillTactics
import Derived.Laws.Tables
import Derived.Laws.Rows
import Derived.Laws.StructEq
import Derived.KernelRfl
import Derived.Lib.ConvBytes
set_option linter.unusedVariables false
set_option linter.unusedSimpArgs false
namespace Go.Proofs.Ytnkpnjnfddjfpaa
open Go.RowKit M01 M02 M04 M06 M10 M27
def FmAt (w:World) (bx:Nat) (a:Option Addr) (c:Nat) (l:List Nat) (s u:Nat) (b:Bool):Prop:=FourC bx w (.slice a l.length c) (.int .i64 (s:Nat)) (.int .i64 (u:Nat)) (.bool b) /\ RowN .u8 w a c l
theorem FmAt.new {w:World} {a:Option Addr} {c:Nat} {l:List Nat} (s u:Nat) (b:Bool) (h:RowN .u8 w a c l):FmAt (w.alloc (.cells #[.slice a l.length c,.int .i64 (s:Nat),.int .i64 (u:Nat),.bool b] 24)) w.heap.size a c l s u b :=
 ⟨Zkp _ _ rfl,h.below (Zai w _)⟩
theorem FmAt.below {w w':World} {bx:Nat} {a:Option Addr} {c:Nat} {l:List Nat} {s u:Nat} {b:Bool} (h:FmAt w bx a c l s u b) (hb:Below w.heap.size w w'):FmAt w' bx a c l s u b :=
 ⟨FourC.below h.1 hb,h.2.below hb⟩
theorem fileR_len (m:Bool) (t:Int):∀ (ps:List (List Nat)) (i fold:Nat),(∀ p ∈ ps,p.length <= 200) -> (fileR m t ps i fold).length <= 15100 * ps.length + 100
 | [],i,fold,_=>by
  unfold fileR
  have:endM.length = 6:=rfl
  rw [List.length_append,Zbd,Zae,this]
  simp
 | p :: r,i,fold,h=>by
  have ih:=fileR_len m t r (i + 1) (foldS fold (sumI t i p)) (fun q hq=>h q (by simp [hq]))
  have hp:=h p (by simp)
  have h1:blockM.length = 6:=rfl
  have hml:(maskIf m p).length <= 200:=by unfold maskIf;split <;> simp [Zbj,hp]
  have h2:(rowG p (sumI t i p) m (i % 2) (grpN (maskIf m p))).length <= 15000:=by
   unfold rowG
   refine Zko _ _ _ _ _ (by omega) ?_
   have:=(Zcd (turnG (maskIf m p)).1).2
   rw [Zby] at this
   unfold grpN
   omega
  unfold fileR
  rw [List.length_append,List.length_append,Zbd,h1,List.length_cons]
  omega
theorem fileG_ok {lv:Nat} {ps:List (List Nat)} {m:Bool} {t:Int} (hlv:lv <= 9) (hps:∀ p ∈ ps,p.length <= 200) (hn:ps.length <= 4):(fileG lv ps m t).length <= 100000 /\ ∀ x ∈ fileG lv ps m t,x < 256:=by
 have h1:=fileR_len m t ps 0 0 hps
 have h2:=Zcu (ofB [66,90,104,48 + lv] ++ fileR m t ps 0 0)
 have h3:=Zia (ofB [66,90,104,48 + lv] ++ fileR m t ps 0 0)
 rw [List.length_append,Zbd] at h2
 have h4:[66,90,104,48 + lv].length = 4:=rfl
 refine ⟨?_,Zor (Zbp (Zlr _) (Zgz m t _ _ _))⟩
 unfold fileG
 omega
def sayA (ps:List (List Nat)):List Nat × Nat:=ps.foldl (partA 60000) ([],0)
theorem sayA_ok (ps:List (List Nat)) (hps:∀ p ∈ ps,p.length <= 200 /\ ∀ x ∈ p,x < 256) (hn:ps.length <= 4):(sayA ps).2 <= 100000:=by
 have aux:∀ (l:List (List Nat)) (s:List Nat × Nat),(∀ p ∈ l,p.length <= 200 /\ ∀ x ∈ p,x < 256) -> (l.foldl (partA 60000) s).2 <= s.2 + 10400 * l.length:=by
  intro l
  induction l with
  | nil=>intro s _;simp
  | cons p r ih =>
   intro s h
   have h1:=ih (partA 60000 s p) (fun q hq=>h q (by simp [hq]))
   obtain ⟨h2,h3⟩:=h p (by simp)
   have h4:=Zdu p 0 0 h3 (by decide)
   have h5:(partA 60000 s p).2 = s.2 + (say p).length:=rfl
   rw [List.length_cons]
   show (r.foldl (partA 60000) (partA 60000 s p)).2 <= _
   unfold say at h5
   omega
 have:=aux ps ([],0) hps
 unfold sayA
 simp at this
 omega
theorem bz_flat {w:World} {a:Option Addr} {c lv:Nat} {ps:List (List Nat)} {m:Bool} {t:Int} {b:Bool} (h:RowN .u8 w a c (fileG lv ps m t)) (hlv:1 <= lv /\ lv <= 9) (hps:∀ p ∈ ps,p ≠ [] /\ p.length <= 200 /\ ∀ x ∈ p,x < 256) (hn:ps.length <= 4)
  (hb:(b = false /\ ∀ j:Nat,j <= ps.length -> (j:Int) ≠ t) \/ (b = true /\ ∃ j:Nat,j <= ps.length /\ (j:Int) = t)) :
  Calls Try.prog 10 #[.slice a (fileG lv ps m t).length c,.int .i64 60000] w fun e w'=>Below w.heap.size w w' /\ ∃ a c,e = .returned (.tuple #[.agg #[.slice a (sayA ps).1.length c,.int .i64 ((sayA ps).2:Nat),.int .i64 ((fileG lv ps m t).length:Nat),.bool b],.int .i64 0]) /\ RowN .u8 w' a c (sayA ps).1:=by
 obtain ⟨F,h1,h2,h3,h4⟩:=Zxx (m:=m) (t:=t) (keep:=60000) hlv hps hn (by decide)
 obtain ⟨g1,g2⟩:=fileG_ok (lv:=lv) (ps:=ps) (m:=m) (t:=t) hlv.2 (fun p hp=>(hps p hp).2.1) hn
 have hbw:F.wrong = b:=by
  rcases hb with ⟨rfl,hb⟩ | ⟨rfl,hb⟩
  ·exact h3 hb
  ·exact h4 hb
 refine (Zky w a c _ 60000 h g2 g1 (by decide)).mono fun e w' hh=>?_
 rw [h1] at hh
 obtain ⟨h5,a2,c2,h6,h7⟩:=hh
 obtain ⟨fb,fs,fw⟩:=F
 have e1:(fb,fs) = sayA ps:=h2
 rw [<- e1,<- hbw]
 exact ⟨h5,a2,c2,h6,h7⟩
set_option maxRecDepth 100000 in
set_option maxHeartbeats 6400000 in
theorem law27_masked_all (w:World) (a:Option Addr) (ca:Nat) (es:Es) (lv tu:Nat) (ha:RowS encSl w a ca es) (hr:∀ i (h:i < es.length),RowN .u8 w es[i].1 es[i].2.1 es[i].2.2 /\ ∀ x ∈ es[i].2.2,x < 256) (hlv:lv < 256) (htu:tu < 256) :
  Calls Try.prog 4 #[.slice a es.length ca,.int .u8 (lv:Nat),.int .u8 (tu:Nat)] w fun e w'=>e = .returned (.bool true) /\ Below w.heap.size w w':=by
 by_cases c1:4 < es.length
 ·have t1:decide ((4:Int) < (es.length:Int)) = true:=by simp;omega
  clear ha hr hlv htu c1
  go_enter Try.func4,Try.ntmps4
  go_wp2
  go_ret
  exact ⟨rfl,Below.refl _ _⟩
 have t1:decide ((4:Int) < (es.length:Int)) = false:=by simp;omega
 obtain ⟨n,hn⟩:∃ n,es.length = n:=⟨_,rfl⟩
 have HNN:=Zh hn
 have hn4:n <= 4:=by omega
 have HA:=Zh ha
 have HR:=Zh hr
 rw [hn] at t1 ⊢
 obtain ⟨r9,hr9⟩:∃ r9,lv % 9 = r9:=⟨_,rfl⟩
 obtain ⟨k,hk⟩:∃ k,1 + r9 = k:=⟨_,rfl⟩
 obtain ⟨k2,hk2⟩:∃ k2,10 - k = k2:=⟨_,rfl⟩
 obtain ⟨n1,hn1⟩:∃ n1,n + 1 = n1:=⟨_,rfl⟩
 obtain ⟨tt,htt⟩:∃ tt,tu % n1 = tt:=⟨_,rfl⟩
 have hk9:1 <= k /\ k <= 9:=by omega
 have hk29:1 <= k2 /\ k2 <= 9:=by omega
 have htn:tt <= n:=by have:=Nat.mod_lt tu (show 0 < n1 by omega);omega
 have m1:Int.tmod (lv:Int) 9 = (r9:Int):=by rw [<- hr9];rfl
 have m2:(1:Int) + (r9:Int) = (k:Int):=by omega
 have m3:(10:Int) - (k:Int) = (k2:Int):=by omega
 have m4:(n:Int) + 1 = (n1:Int):=by omega
 have m5:Int.tmod (tu:Int) (n1:Int) = (tt:Int):=by rw [<- htt];rfl
 have m6:¬ ((n1:Int) = 0):=by omega
 have m7:¬ (n1 = 0):=by omega
 have m8:IntKind.i64.wrap (k:Int) = (k:Int):=IntWalk.i64_in _ (by omega)
 have m9:IntKind.i64.wrap (k2:Int) = (k2:Int):=IntWalk.i64_in _ (by omega)
 have m10:IntKind.i64.wrap (n1:Int) = (n1:Int):=IntWalk.i64_in _ (by omega)
 have K9:=Zh hk9
 have K29:=Zh hk29
 have TN:=Zh htn
 have N4:=Zh hn4
 clear hr9 hk hk2 hn1 htt hk9 hk29 htn ha hr hn c1
 go_enter Try.func4,Try.ntmps4
 go_wp2_with fail
 go_loopw [7] (fun iv A=>∃ i:Nat,i <= n /\ iv = .int .i64 (i:Nat) /\ A = w /\ Hid (∀ j (h:j < es.length),j < i -> 0 < es[j].2.2.length /\ es[j].2.2.length <= 200)) (fun iv _=>n - (intOf iv).toNat)
 case atStart=>exact ⟨0,Nat.zero_le _,rfl,rfl,fun j _ h=>absurd h (Nat.not_lt_zero j)⟩
 case round =>
  obtain ⟨i,hi,rfl,hw,HOK⟩:=hrel
  subst hw
  by_cases hlt:i < n
  ·have t0:decide ((i:Int) < (n:Int)) = true:=by simp;omega
   have hle:i < es.length:=by rw [HNN.out];exact hlt
   obtain ⟨b,off,rfl,hbb,hcl⟩:=HA.out.at hle
   have hc0:=hcl 0 _ rfl
   simp only [encSl,Nat.add_zero,Nat.mul_one] at hc0
   have HRI:=Zh (HR.out i hle)
   have HST:Hid (∀ (h:0 < es[i].2.2.length /\ es[i].2.2.length <= 200),∀ j (h:j < es.length),j < i + 1 -> 0 < es[j].2.2.length /\ es[j].2.2.length <= 200):=fun h j hj hji=>by
    rcases Nat.lt_or_ge j i with h2 | h2
    ·exact HOK.out j hj h2
    ·obtain rfl:j = i:=by omega
     exact h
   clear hcl
   generalize es[i] = en at *
   obtain ⟨pa,pc,p⟩:=en
   dsimp only at hc0 HRI HST
   obtain ⟨np,hnp⟩:∃ np,p.length = np:=⟨_,rfl⟩
   rw [hnp] at hc0 HST
   clear hnp
   by_cases h0:np = 0
   ·subst h0
    go_wp2_with fail
    refine (Zhw _).mono ?_
    rintro e w2 ⟨rfl,hb2⟩
    have HB2:=Zh hb2
    clear hb2
    go_wp2
    go_ret
    exact ⟨rfl,HB2.out⟩
   ·have t2:((np:Int) == 0) = false:=by simpa using h0
    by_cases h2:np <= 200
    ·have t3:decide ((200:Int) < (np:Int)) = false:=by simp;omega
     have HST2:=Zh (HST.out ⟨by omega,h2⟩)
     clear h0 h2 HST
     go_wp2_with fail
     go_roundw
     case rel=>exact ⟨i + 1,by omega,by go_num,by trivial,HST2.out⟩
     case measure=>simp [intOf];omega
    ·have t3:decide ((200:Int) < (np:Int)) = true:=by simp;omega
     clear h0 h2 HST
     go_wp2_with fail
     refine (Zhw _).mono ?_
     rintro e w2 ⟨rfl,hb2⟩
     have HB2:=Zh hb2
     clear hb2
     go_wp2
     go_ret
     exact ⟨rfl,HB2.out⟩
  obtain rfl:i = n:=by omega
  have t0:decide ((i:Int) < (i:Int)) = false:=by simp
  obtain ⟨ps,hps⟩:∃ ps,es.map (fun t=>t.2.2) = ps:=⟨_,rfl⟩
  have HPL:Hid (ps.length = i):=by unfold Hid;rw [<- hps,List.length_map];exact HNN.out
  have HPS:Hid (∀ p ∈ ps,p ≠ [] /\ p.length <= 200 /\ ∀ x ∈ p,x < 256):=by
   unfold Hid
   intro p hp
   rw [<- hps] at hp
   obtain ⟨e,he,rfl⟩:=List.mem_map.1 hp
   obtain ⟨j,hj,rfl⟩:=List.getElem_of_mem he
   obtain ⟨h1,h2⟩:=HOK.out j hj (by rw [<- HNN.out];exact hj)
   exact ⟨fun e=>by rw [e] at h1;simp at h1,h2,(HR.out j hj).2⟩
  have HF:=Zh (fun (lv:Nat) (m:Bool) (t:Int) (A:World) (hlv:lv <= 9) (ht:-1000 <= t /\ t <= 1000) (hA:Below wr.heap.size wr A) =>
   Zju lv a ca es m t A hlv (HA.out.below hA) (fun i h=>((HR.out i h).1).below hA) (fun p hp=>by rw [hps] at hp;obtain ⟨h1,h2,h3⟩:=HPS.out p hp;exact ⟨List.length_pos_iff.2 h1,by omega,h3⟩) (by rw [HNN.out];omega) ht)
  rw [hps,HNN.out] at HF
  have HZ:=Zh (sayA_ok ps (fun p hp=>(HPS.out p hp).2) (by rw [HPL.out];exact N4.out))
  obtain ⟨qb,hqb⟩:∃ qb,(sayA ps).1 = qb:=⟨_,rfl⟩
  obtain ⟨qs,hqs⟩:∃ qs,(sayA ps).2 = qs:=⟨_,rfl⟩
  have HBZ:=Zh (fun (A:World) (g:Option Addr) (c lv:Nat) (m:Bool) (t:Int) (b:Bool) (h:RowN .u8 A g c (fileG lv ps m t)) (hlv:1 <= lv /\ lv <= 9) hb=>bz_flat (b:=b) h hlv HPS.out (by rw [HPL.out];exact N4.out) hb)
  rw [hqb,hqs] at HBZ
  rw [hqs] at HZ
  rw [HPL.out] at HBZ
  have hq100:qs <= 100000:=HZ.out
  clear hps HOK hi hqb hqs HZ
  go_wp2_with fail
  refine (HF.out k true (-1) wr (by have:=K9.out;omega) (by decide) (Below.refl _ _)).mono ?_
  rintro e w1 ⟨g1,c1,rfl,ho1,hb1⟩
  have HB1:=Zh hb1
  have HR1:=Zh (OwnN.row ho1)
  clear ho1 hb1
  go_wp2_with fail
  refine (HBZ.out w1 g1 c1 k true (-1) false HR1.out K9.out (.inl ⟨rfl,fun j _=>by omega⟩)).mono ?_
  rintro e w2 ⟨hb2,a2,x2,rfl,hr2⟩
  obtain ⟨n2,hn2⟩:∃ n2,(fileG k ps true (-1)).length = n2:=⟨_,rfl⟩
  rw [hn2]
  have hb3:=Zai w2 (.cells #[.slice a2 qb.length x2,.int .i64 (qs:Nat),.int .i64 (n2:Nat),.bool false] 24)
  have HB3:=Zh ((HB1.out.trans (hb2.mono HB1.out.size)).trans (hb3.mono (HB1.out.trans (hb2.mono HB1.out.size)).size))
  have HF3:=Zh (FmAt.new (w:=w2) qs n2 false hr2)
  clear HB1 HR1 hb2 hb3 hr2 hn2
  go_wp2_with fail
  obtain ⟨w3,hw3⟩:∃ w3,w2.alloc (.cells #[.slice a2 qb.length x2,.int .i64 (qs:Nat),.int .i64 (n2:Nat),.bool false] 24) = w3:=⟨_,rfl⟩
  rw [hw3] at HB3 HF3
  rw [hw3]
  clear hw3
  generalize w2.heap.size = p1 at *
  refine (HF.out k2 false (-1) w3 (by have:=K29.out;omega) (by decide) HB3.out).mono ?_
  rintro e w4 ⟨g4,c4,rfl,ho4,hb4⟩
  have HB4:=Zh (HB3.out.trans (hb4.mono HB3.out.size))
  have HF4:=Zh (HF3.out.below hb4)
  have HR4:=Zh (OwnN.row ho4)
  clear ho4 hb4 HB3 HF3
  go_wp2_with fail
  refine (HBZ.out w4 g4 c4 k2 false (-1) false HR4.out K29.out (.inl ⟨rfl,fun j _=>by omega⟩)).mono ?_
  rintro e w5 ⟨hb5,a5,x5,rfl,hr5⟩
  obtain ⟨n5,hn5⟩:∃ n5,(fileG k2 ps false (-1)).length = n5:=⟨_,rfl⟩
  rw [hn5]
  have hb6:=Zai w5 (.cells #[.slice a5 qb.length x5,.int .i64 (qs:Nat),.int .i64 (n5:Nat),.bool false] 24)
  have HB6:=Zh ((HB4.out.trans (hb5.mono HB4.out.size)).trans (hb6.mono (HB4.out.trans (hb5.mono HB4.out.size)).size))
  have HF6:=Zh ((HF4.out.below hb5).below hb6)
  have HG6:=Zh (FmAt.new (w:=w5) qs n5 false hr5)
  clear HB4 HF4 HR4 hb5 hb6 hr5 hn5
  go_wp2_with fail
  obtain ⟨w6,hw6⟩:∃ w6,w5.alloc (.cells #[.slice a5 qb.length x5,.int .i64 (qs:Nat),.int .i64 (n5:Nat),.bool false] 24) = w6:=⟨_,rfl⟩
  rw [hw6] at HB6 HF6 HG6
  rw [hw6]
  clear hw6
  generalize w5.heap.size = p5 at *
  refine (HF.out k true (tt:Int) w6 (by have:=K9.out;omega) (by have:=TN.out;have:=N4.out;omega) HB6.out).mono ?_
  rintro e w7 ⟨g7,c7,rfl,ho7,hb7⟩
  have HB7:=Zh (HB6.out.trans (hb7.mono HB6.out.size))
  have HF7:=Zh (HF6.out.below hb7)
  have HG7:=Zh (HG6.out.below hb7)
  have HR7:=Zh (OwnN.row ho7)
  clear ho7 hb7 HB6 HF6 HG6
  go_wp2_with fail
  refine (HBZ.out w7 g7 c7 k true (tt:Int) true HR7.out K9.out (.inr ⟨rfl,tt,TN.out,rfl⟩)).mono ?_
  rintro e w8 ⟨hb8,a8,x8,rfl,hr8⟩
  obtain ⟨n8,hn8⟩:∃ n8,(fileG k ps true (tt:Int)).length = n8:=⟨_,rfl⟩
  rw [hn8]
  have hb9:=Zai w8 (.cells #[.slice a8 qb.length x8,.int .i64 (qs:Nat),.int .i64 (n8:Nat),.bool true] 24)
  have HB9:=Zh ((HB7.out.trans (hb8.mono HB7.out.size)).trans (hb9.mono (HB7.out.trans (hb8.mono HB7.out.size)).size))
  have HF9:=Zh ((HF7.out.below hb8).below hb9)
  have HG9:=Zh ((HG7.out.below hb8).below hb9)
  have HX9:=Zh (FmAt.new (w:=w8) qs n8 true hr8)
  clear HB7 HF7 HG7 HR7 hb8 hb9 hr8 hn8
  obtain ⟨w9,hw9⟩:∃ w9,w8.alloc (.cells #[.slice a8 qb.length x8,.int .i64 (qs:Nat),.int .i64 (n8:Nat),.bool true] 24) = w9:=⟨_,rfl⟩
  rw [hw9] at HB9 HF9 HG9 HX9
  have hcv1:(convert 22 9 (.slice a2 qb.length x2)).run Try.prog w9 = .ok (.string (strOf qb)) w9:=Zey Try.underlying22 Try.underlying5 Try.underlying9 rfl HF9.out.2
  have hcv2:(convert 22 9 (.slice a5 qb.length x5)).run Try.prog w9 = .ok (.string (strOf qb)) w9:=Zey Try.underlying22 Try.underlying5 Try.underlying9 rfl HG9.out.2
  have hcv3:(convert 22 9 (.slice a8 qb.length x8)).run Try.prog w9 = .ok (.string (strOf qb)) w9:=Zey Try.underlying22 Try.underlying5 Try.underlying9 rfl HX9.out.2
  obtain ⟨f0,f1,f2,f3,_,_⟩:=Zaf HF9.out.1
  obtain ⟨y0,y1,y2,y3,_,_⟩:=Zaf HG9.out.1
  obtain ⟨x0,x1,x2',x3,_,_⟩:=Zaf HX9.out.1
  have tz:((qs:Int) == (qs:Int)) = true:=by simp
  have HRD:=Zh (Zhw w9)
  generalize strOf qb = str at *
  have tl:(str.toList == str.toList) = true:=by simp
  rw [<- hw9] at f0 f1 f2 f3 y0 y1 y2 y3 x0 x1 x2' x3 hcv1 hcv2 hcv3 HRD HB9
  clear hw9 HF9 HG9 HX9
  go_wp2_with fail
  refine HRD.out.mono ?_
  rintro e w13 ⟨rfl,hb13⟩
  have HB13:=Zh (HB9.out.trans (hb13.mono HB9.out.size))
  clear hb13 HB9
  go_wp2
  go_ret
  exact ⟨rfl,HB13.out⟩
end Go.Proofs.Ytnkpnjnfddjfpaa
