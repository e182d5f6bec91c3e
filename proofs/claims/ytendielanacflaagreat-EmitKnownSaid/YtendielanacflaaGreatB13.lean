/- header.signs: contract. header.Put, header.Size, lsb.Writer.Len: contracts. emit.begin, emit.symbols: contracts. Printed by gen/emsym.py out of Lay. Plain mathematics of layer 10: a stream of blocks that were laid is read back, whatever stands behind. Plain mathematics of layer 17: bits of stored blocks. cost.cut: contract. Layer 17: the best codes, cut at their ends, may be a head's (plain). Layer 17: how often each symbol comes, the best codes for tokens, and that their symbols have words (plain). -/
import Derived.Test.YtendielanacflaaGreatB01
import Derived.Test.YtendielanacflaaGreatB04
import Derived.Test.YtendielanacflaaGreatB05
import Derived.Test.YtendielanacflaaGreatB06
import Derived.Test.YtendielanacflaaGreatB10
import Derived.Test.YtendielanacflaaGreatB11
import Derived.Test.YtendielanacflaaGreatB12
import Derived.Test.YtendielanacflaaGreatB02
import Derived.Lib.Hide
set_option linter.unusedVariables false
set_option linter.unusedSimpArgs false
namespace Go.Proofs.YtendielanacflaaGreat
open Go.RowKit Go.Shelf M04 M05 M07 M09
attribute [local go_sem] Oper.semAt_some
theorem concat2 (a b:Option Addr) (ca cb:Nat) (f o:List Nat) (w:World) (h1:RowN .u8 w a ca f) (h2:RowN .u8 w b cb o) (hl1:1 <= (f ++ o).length) (hl2:(f ++ o).length <= 1000) :
  Calls Tryz.prog 92 #[.slice (some ⟨w.heap.size,0,none⟩) 2 2] (w.alloc (.cells #[.slice a f.length ca,.slice b o.length cb] 24)) fun e w' =>
   ∃ a' c',e = .returned (.slice a' (f ++ o).length c') /\ RowN .u8 w' a' c' (f ++ o) /\ Below w.heap.size w w':=by
 have hb:=Zcu w (.cells #[.slice a f.length ca,.slice b o.length cb] 24)
 have hfl:(([(a,ca,f),(b,cb,o)]:List (Option Addr × Nat × List Nat)).flatMap fun x=>x.2.2) = f ++ o:=by simp
 have hR:=RowS.lit encSl w [(a,ca,f),(b,cb,o)] 24 #[.slice a f.length ca,.slice b o.length cb] _ rfl (by simp [flat,encSl]) (by simp)
 have h:=Zef (some ⟨w.heap.size,0,none⟩) 2 [(a,ca,f),(b,cb,o)] _ hR ?_ (by rw [hfl];exact hl1) (by rw [hfl];exact hl2) (by simp)
 ·rw [hfl] at h
  refine h.mono ?_
  rintro e w' ⟨a',c',rfl,hr,hb2⟩
  exact ⟨a',c',rfl,hr,hb.trans (hb2.mono (by simp))⟩
 ·intro x hx
  simp only [List.mem_cons,List.not_mem_nil,or_false] at hx
  rcases hx with rfl | rfl
  ·exact h1.below hb
  ·exact h2.below hb
theorem Zadf {k:IntKind} {E:TypeId} {w:World} {base cap b:Nat} {a:Option Addr} {l:List Nat} (h:OwnN E k w base a cap l) (hb:b <= base):∀ x,a = some x -> b <= x.block:=by
 intro x hx
 rcases h.form with ⟨h1,_⟩ | ⟨g,h1,h2,_⟩
 ·rw [h1] at hx;cases hx
 ·rw [h1] at hx;cases hx;exact Nat.le_trans hb h2
theorem Zain (f:List Nat) (k:Nat) (hk:k < sgN f):oneB (sgI f k) = true:=by
 unfold sgN at hk
 split at hk
 ·next h0 =>
  split at hk
  ·next h1 =>
   rcases (show k = 0 \/ k = 1 by omega) with rfl | rfl
   ·exact h0
   ·exact h1
  ·obtain rfl:k = 0:=by omega
   exact h0
 ·omega
theorem Zaim (f:List Nat) (M:Nat) (h:∀ x ∈ f,x <= M):∀ k,k <= f.length -> ∀ x ∈ sgI f k,x <= M + 1:=by
 intro k hk x hx
 obtain ⟨c,hc,rfl⟩:=List.getElem_of_mem hx
 have h1:=Zmt f k c hk
 rw [List.getD_eq_getElem?_getD,List.getElem?_eq_getElem hc] at h1
 simp only [Option.getD_some] at h1
 rw [h1]
 have:=M04.Zat h c
 split <;> omega
set_option maxRecDepth 100000 in
set_option maxHeartbeats 3200000 in
theorem Zoc (a b:Option Addr) (ca cb:Nat) (f o:List Nat) (w:World) (h1:RowN .u8 w a ca f) (h2:RowN .u8 w b cb o) (hl1:1 <= (f ++ o).length) (hl2:(f ++ o).length <= 1000) (h15:∀ x ∈ f ++ o,x <= 15) :
  Calls Tryz.prog 47 #[.slice a f.length ca,.slice b o.length cb] w fun e w'=>∃ a1 c1 a2 c2,e = .returned (.tuple #[.slice a1 (pack (f ++ o)).length c1,.slice a2 19 c2]) /\ RowS encSg w' a1 c1 (pack (f ++ o)) /\ RowN .u8 w' a2 c2 (sgLens (pack (f ++ o))) /\ Below w.heap.size w w' /\ (∀ x,a1 = some x -> w.heap.size <= x.block) /\ (∀ x,a2 = some x -> w.heap.size <= x.block):=by
 have HC:=Zh (concat2 a b ca cb f o w h1 h2 hl1 hl2)
 have H15:=Zh h15
 obtain ⟨_,hok,hpl⟩:=Zie (f ++ o) h15
 have HOK:=Zh hok
 clear h1 h2 h15 hok
 generalize hL:f ++ o = L at *
 clear hL
 obtain ⟨l,hl0⟩:∃ l,pack L = l:=⟨_,rfl⟩
 rw [hl0] at HOK hpl ⊢
 have HL0:=Zh hl0
 clear hl0
 obtain ⟨sl,hsl0⟩:∃ sl,sgLens l = sl:=⟨_,rfl⟩
 rw [hsl0]
 have HSL0:=Zh hsl0
 clear hsl0
 go_enter Tryz.func47,Tryz.ntmps47
 go_wp2_with fail
 refine HC.out.mono ?_
 rintro e w1 ⟨a1,c1,rfl,hr1,hb1⟩
 have HP:=Zh (by have:=Zrj a1 c1 L w1 hr1 H15.out hl2;rw [HL0.out] at this;exact this)
 have HB1:=Zh hb1
 clear hr1 hb1 HC
 go_wp2_with fail
 refine HP.out.mono ?_
 rintro e w2 ⟨pa,pc,rfl,ho,hb⟩
 have HR2:=Zh ho.row
 have HB2:=Zh (HB1.out.trans (hb.mono HB1.out.size))
 have hsz12:=hb.size
 have HPA:=Zh (show ∀ x,pa = some x -> w.heap.size <= x.block from fun x hx=>by
  have:=HB1.out.size
  rcases ho.form with ⟨h,_⟩ | ⟨g,h,h2,_⟩
  ·rw [h] at hx;cases hx
  ·rw [h] at hx;cases hx;exact Nat.le_trans this h2)
 clear ho hb HP HB1 H15
 have hl1000:l.length <= 1000:=by omega
 clear hpl hl1 hl2
 go_wp2_with (at_make;refine makeN (n:=19) Zfc rfl _ _ rfl w2.heap.size rfl rfl (by decide) (by decide) (Nat.le_refl _) ?_;intro w3 hown3 hg3;have HU3:=Zh hown3;have HB3:=Zh (Below.of_grown hg3 (Nat.le_refl _) (fun g hg=>by cases hg));clear hown3 hg3)
 go_loopw [10,25] (fun _ i A=>∃ k,i = .int .i64 (k:Nat) /\ k <= l.length /\ OwnN 3 .i64 A w2.heap.size (some ⟨w2.heap.size,0,none⟩) 19 (sgC (l.take k)) /\ Below w2.heap.size w2 A) (fun _ i _=>l.length - (intOf i).toNat)
 case atStart=>exact ⟨0,rfl,Nat.zero_le _,HU3.out,HB3.out⟩
 case round =>
  clear HU3 HB3
  obtain ⟨k,rfl,hk,hown,hbel⟩:=hrel
  have HBEL:=Zh hbel
  by_cases hlt:k < l.length
  ·have b1:decide (k < l.length) = true:=by simp;omega
   have hrA:=HR2.out.below hbel
   obtain ⟨b,off,rfl,hb,hcl⟩:=hrA.at hlt
   have c0:=hcl 0 _ rfl
   have c1:=hcl 1 _ rfl
   have hs:=HOK.out _ (List.getElem_mem hlt)
   have hc18:=hs.1
   have hx:=hs.lt
   have hsn:=Zads (l.take k) l[k] (by omega)
   rw [<- M04.Zaw l k hlt] at hsn
   have hle:=Zafg (l.take k)
   rw [List.length_take] at hle
   have h19:=Zfo (l.take k)
   have hcl19:l[k].1 < (sgC (l.take k)).length:=by omega
   have hgd:(sgC (l.take k)).getD l[k].1 0 = (sgC (l.take k))[l[k].1]'hcl19:=by rw [List.getD_eq_getElem?_getD,List.getElem?_eq_getElem hcl19];rfl
   have hv:=hle _ (List.getElem_mem hcl19)
   rw [hgd] at hsn
   have HAT:=Zh (fun ob=>(hown.alloc ob).at hcl19)
   have HST0:=Zh (fun ob v=>(hown.alloc ob).stored l[k].1 v)
   clear hgd hle hrA hcl hs hown hbel
   generalize (sgC (l.take k))[l[k].1]'hcl19 = v at *
   generalize l[k] = s at *
   obtain ⟨c,x⟩:=s
   simp only [encSg,Nat.add_zero] at c0 c1
   rw [<- Nat.add_assoc] at c1
   simp only at hsn hx hc18 HAT HST0
   obtain ⟨v1,hv1⟩:∃ v1,v + 1 = v1:=⟨_,rfl⟩
   have qv:(v:Int) + 1 = (v1:Int):=by omega
   rw [hv1] at hsn
   have HST:=Zh (fun ob=>(by have:=HST0.out ob v1;rw [<- hsn] at this;exact this:_))
   have hc19:(c:Int) < 19:=by omega
   have qk:(k:Int) < (l.length:Int):=by omega
   have HK:=Zh hk
   clear hsn HST0 hv1 hk
   obtain ⟨g9,hg9,_,_,hoc2,hof2⟩:=HAT.out (.cells #[.int .u8 (c:Nat),.int .u8 (x:Nat)] 95)
   simp only [Option.some.injEq,Addr.mk.injEq,and_true] at hg9
   subst hg9
   obtain ⟨e0,e1⟩:=Zbo wr (.int .u8 (c:Nat)) (.int .u8 (x:Nat)) 95
   have HSTW:=Zh (HST.out (.cells #[.int .u8 (c:Nat),.int .u8 (x:Nat)] 95))
   have HBW:=Zh (HBEL.out.trans ((Zav wr (.cells #[.int .u8 (c:Nat),.int .u8 (x:Nat)] 95)).mono HBEL.out.size))
   clear HAT HST HBEL
   go_wp2_with fail
   go_roundw
   case rel=>exact ⟨k + 1,by go_num,by omega,HSTW.out.1,HBW.out.trans (Below.of_grown HSTW.out.2 HBW.out.size (fun g hg=>by cases hg;exact Nat.le_refl _))⟩
   case measure=>simp [intOf];omega
  ·have b1:decide (k < l.length) = false:=by simp;omega
   obtain rfl:k = l.length:=by omega
   rw [List.take_of_length_le (Nat.le_refl _)] at hown
   have hF:=Zafg l
   have hF19:=Zfo l
   have HSF:Hid (limL (sgF (sgC l)) 7 = sl):=HSL0.out
   have hgr:=Zms l
   have hone:=Zsv (sgC l) (by omega)
   have hus:=Zfq (sgF (sgC l))
   have hsl:=Zjq l
   have HU4:=Zh hown
   have hle3:=Zafh (sgC l)
   unfold sgF at HSF hgr hone hus hsl
   clear hown hbel hlt
   generalize sgC l = F at *
   have HONE:=Zh hone
   have HLT:=Zh (Zain F)
   have HF:=Zh (Zaim F l.length hF)
   have HGR:=Zh hgr
   have HLL:=Zh (Zmu F)
   clear hone hF hgr
   generalize hw4:wr = w4 at *
   clear hw4
   go_wp2_with fail
   go_loopw [11] (fun x A=>∃ k,x = .int .i64 (k:Nat) /\ k <= sgN F /\ OwnN 3 .i64 A w2.heap.size (some ⟨w2.heap.size,0,none⟩) 19 (sgI F k) /\ Below w2.heap.size w2 A) (fun x _=>sgN F - (intOf x).toNat)
   case atStart=>exact ⟨0,rfl,Nat.zero_le _,HU4.out,HBEL.out⟩
   case round =>
    clear HU4 HBEL
    obtain ⟨k,rfl,hk,hown,hbel⟩:=hrel
    have HB5:=Zh hbel
    have hl19:(sgI F k).length = 19:=by rw [HLL.out,hF19]
    have hX:oneB (sgI F k) = (fstF (sgI F k) 0 19 == lstF (sgI F k) 19):=by unfold oneB;rw [hl19]
    have HI1:=Zh (fun A (h:RowN .i64 A (some ⟨w2.heap.size,0,none⟩) 19 (sgI F k))=>(by have:=Zql (some ⟨w2.heap.size,0,none⟩) 19 (sgI F k) A h;rw [hl19] at this;exact this:_))
    have HI2:=Zh (fun A (h:RowN .i64 A (some ⟨w2.heap.size,0,none⟩) 19 (sgI F k))=>(by have:=Zus (some ⟨w2.heap.size,0,none⟩) 19 (sgI F k) A h (by omega);rw [hl19] at this;exact this:_))
    have HROW:=Zh hown.row
    generalize fstF (sgI F k) 0 19 = X at *
    generalize lstF (sgI F k) 19 = Y at *
    clear hbel
    by_cases hkn:k < sgN F
    ·have hb2:(X == Y) = true:=by rw [<- hX];exact HLT.out k hkn
     have hk19:k < (sgI F k).length:=by omega
     have hgd:(sgI F k).getD k 0 = (sgI F k)[k]'hk19:=by rw [List.getD_eq_getElem?_getD,List.getElem?_eq_getElem hk19];rfl
     have hv:=HF.out k (by omega) _ (List.getElem_mem hk19)
     have hsn:sgI F (k + 1) = (sgI F k).set k ((sgI F k)[k]'hk19 + 1):=by rw [<- hgd];rfl
     obtain ⟨g9,hg9,_,_,hoc2,hof2⟩:=hown.at hk19
     simp only [Option.some.injEq,Addr.mk.injEq,and_true] at hg9
     subst hg9
     generalize (sgI F k)[k]'hk19 = v at *
     obtain ⟨v1,hv1⟩:∃ v1,v + 1 = v1:=⟨_,rfl⟩
     have qv:(v:Int) + 1 = (v1:Int):=by omega
     rw [hv1] at hsn
     have hst:=hown.stored k v1
     rw [<- hsn] at hst
     have HST:=Zh hst
     have qk:(k:Int) < 19:=by omega
     clear hst hsn hgd hX hown hv1
     go_wp2_with (first | (go_at_call 93;refine (HI1.out _ HROW.out).mono ?_;rintro e w' ⟨rfl,rfl⟩) | (go_at_call 95;refine (HI2.out _ HROW.out).mono ?_;rintro e w' ⟨rfl,rfl⟩))
     go_roundw
     case rel=>exact ⟨k + 1,by go_num,by omega,HST.out.1,HB5.out.trans (Below.of_grown HST.out.2 HB5.out.size (fun g hg=>by cases hg;exact Nat.le_refl _))⟩
     case measure=>simp [intOf];omega
    ·obtain rfl:k = sgN F:=by omega
     have hb2:(X == Y) = false:=by rw [<- hX];exact HONE.out
     have HLI:=Zh (fun A (h:RowN .i64 A (some ⟨w2.heap.size,0,none⟩) 19 (sgI F (sgN F)))=>Zme A (some ⟨w2.heap.size,0,none⟩) 19 (sgI F (sgN F)) 7 h (by omega) (by have:=(Zbg (sgI F (sgN F))).length_eq;have:=HGR.out.2;omega) (fun x hx=>by have:=HF.out (sgN F) (by omega) x hx;omega) (by decide) (by decide) (by have:=HGR.out.2;omega))
     rw [hl19] at HLI
     clear hX hown hkn
     go_wp2_with (first | (go_at_call 93;refine (HI1.out _ HROW.out).mono ?_;rintro e w' ⟨rfl,rfl⟩) | (go_at_call 95;refine (HI2.out _ HROW.out).mono ?_;rintro e w' ⟨rfl,rfl⟩) | (go_at_call 45;refine (HLI.out _ HROW.out).mono ?_;rintro e w6 ⟨la,lc,rfl,ho6,hb6⟩;have HO6:=Zh ho6.row;have HLA:=Zh (Zadf ho6 (Nat.le_trans HB2.out.size HB5.out.size));have HB6:=Zh (HB5.out.trans (hb6.mono HB5.out.size));clear ho6 hb6))
     go_ret2
     exact ⟨_,_,_,_,rfl,HR2.out.below HB6.out,by rw [<- HSF.out];exact HO6.out,HB2.out.trans (HB6.out.mono HB2.out.size),HPA.out,HLA.out⟩
end Go.Proofs.YtendielanacflaaGreat
namespace Go.Proofs.YtendielanacflaaGreat
open Go.RowKit Go.Shelf M01 M04 M05 M06 M07 M09
attribute [local go_sem] Oper.semAt_some
theorem ldU8h (p:Addr) (v:Value) (w:World) (h:w.cell? p = some v):(Instr.loadAt 5 (.pointer (some p))).run Tryz.prog w = .ok v w:=by
 simp [Instr.loadAt,Instr.sureAddr,loadVar,isAgg,run_underlying Tryz.underlying5,h,go_sem]
theorem Zif (lens:List Nat) (s:Wst) (k:Nat):(put3 lens s k).2 = s.2 + 3 * k:=by
 induction k with
 | zero=>rfl
 | succ k ih=>show (addNum _ _ 3).2 = _;rw [Zac,ih];omega
theorem Zox (s:Wst) (a b n:Nat):(put14 s a b n).2 = s.2 + 14:=by unfold put14;rw [Zac,Zac,Zac]
theorem Zgm (lens:List Nat) (s:Wst) (c:Nat):(addSym lens s c).2 = s.2 + lens.getD c 0:=Zbi _ _ _ _
theorem Zml (c:Nat):rbits c <= 7:=by unfold rbits;split <;> (try split) <;> (try split) <;> omega
theorem Zkw (lens:List Nat) (hl:∀ x ∈ lens,x <= 7):∀ (l:List Sg) (s:Wst),(putsS lens s l).2 <= s.2 + 14 * l.length:=by
 intro l
 induction l with
 | nil=>intro s;exact Nat.le_refl _
 | cons g l ih =>
  intro s
  have:=ih (putS lens s g)
  have h2:=M04.Zat hl g.1
  have h3:=Zml g.1
  have h4:(putS lens s g).2 = s.2 + lens.getD g.1 0 + rbits g.1:=by unfold putS;rw [Zac,Zgm]
  show (putsS lens (putS lens s g) l).2 <= _
  rw [List.length_cons]
  omega
theorem Zkx (lens:List Nat) (s:Wst) (l:List Sg) (g:Sg):putsS lens s (l ++ [g]) = putS lens (putsS lens s l) g:=by unfold putsS;rw [List.foldl_append];rfl
theorem Wr.monoP {P Q:Nat -> Prop} {w:World} {p:Nat} {s:Wst} (h:Wr P w p s) (hq:∀ k,P k -> Q k):Wr Q w p s:=by
 obtain ⟨⟨a,c,h1,h2,h3,h4,h5⟩,h6⟩:=h
 exact ⟨⟨a,c,h1,h2,hq _ h3,fun g hg=>⟨hq _ (h4 g hg).1,(h4 g hg).2⟩,fun b hb=>hq _ (h5 b hb)⟩,h6⟩
theorem Zty (l:List Nat) (c:Nat) (hc:c < l.length) (h20:∀ x ∈ l,x <= 20) (hw:weight l <= 2 ^ 20):(words l).getD c 0 < 4294967296:=by
 have hwd:(words l).getD c 0 = word l c:=by
  rw [List.getD_eq_getElem?_getD,List.getElem?_eq_getElem (by rw [Zbc];exact hc)]
  exact Zbu l c _
 have h1:=Zfa l c hc h20 hw
 have h2:=M04.Zat h20 c
 have h3:word l c < 2 ^ l.getD c 0:=by
  rcases Nat.lt_or_ge (word l c) (2 ^ l.getD c 0) with h | h
  ·exact h
  ·have:=Nat.div_pos h (Nat.pow_pos (by decide));omega
 have h4:2 ^ l.getD c 0 <= 2 ^ 20:=Nat.pow_le_pow_right (by decide) h2
 rw [hwd];omega
theorem Zgk (l:List Nat) (h20:∀ x ∈ l,x <= 20) (hl:l.length <= 512) (hw:weight l <= 2 ^ 20):(wordsE l).2 = 0:=by
 unfold wordsE
 rw [if_neg (fun h=>h ⟨h20,hl⟩),if_neg (by omega)]
set_option maxRecDepth 100000 in
theorem Zje {P:Nat -> Prop} {w:World} {p:Nat} {s:Wst} (h:Wr P w p s) :
  Calls Tryz.prog 27 #[.pointer (some ⟨p,0,none⟩)] w fun e w'=>e = .returned (.int .i64 (s.2:Nat)) /\ w' = w:=by
 obtain ⟨⟨a,c,h1,_⟩,_⟩:=h
 obtain ⟨c0,c1⟩:=Zck h1
 clear h1
 go_enter Tryz.func27,Tryz.ntmps27
 go_wp2
 go_ret
 trivial
theorem Zrd (k:Nat) (h:k < ordL.length):ordL[k] = ordL.getD k 0:=by simp [h]
def PutOut (P:Nat -> Prop) (w:World) (p:Nat) (s T:Wst) (b:Bool) (e:Ending) (w':World):Prop :=
 Only P w w' /\ match b with
  | true=>e = .returned (.int .i64 0) /\ Wr P w' p T
  | false=>e = .returned (.int .i64 5) /\ Wr P w' p s
set_option maxRecDepth 100000 in
set_option maxHeartbeats 6400000 in
theorem Zkn {P:Nat -> Prop} {w:World} {p:Nat} {s:Wst} (hW:Wr P w p s) (a b:Option Addr) (ca cb:Nat) (f o:List Nat) (h1:RowN .u8 w a ca f) (h2:RowN .u8 w b cb o) (hf:f.length <= 1000) (ho:o.length <= 1000) (hs:s.2 + 6000 <= 100000000) :
  Calls Tryz.prog 23 #[.pointer (some ⟨p,0,none⟩),.slice a f.length ca,.slice b o.length cb] w fun e w'=>PutOut P w p s (hputW s f o) (mayH f o) e w':=by
 have HM:=Zh (Zxr a b ca cb f o w h1 h2 hf ho)
 have HW:=Zh hW
 cases hm:mayH f o with
 | false =>
  rw [hm] at HM
  clear h1 h2 hW hm
  go_enter Tryz.func23,Tryz.ntmps23
  go_wp2_with (go_at_call 46;refine HM.out.mono ?_;rintro e w' ⟨rfl,rfl⟩)
  go_ret
  exact ⟨.refl _ _,rfl,HW.out⟩
 | true =>
  rw [hm] at HM
  obtain ⟨m1,m2,m3,m4,m5,m6⟩:=Zks hm
  have h15:∀ x ∈ f ++ o,x <= 15:=by
   intro x hx
   rcases List.mem_append.1 hx with h | h
   ·exact m5 x h
   ·exact m6 x h
  have HSG:=Zh (Zoc a b ca cb f o w h1 h2 (by rw [List.length_append];omega) (by rw [List.length_append];omega) h15)
  obtain ⟨_,hok,hpl⟩:=Zie (f ++ o) h15
  rw [List.length_append] at hpl
  obtain ⟨l,hl⟩:∃ l,pack (f ++ o) = l:=⟨_,rfl⟩
  rw [hl] at HSG hok hpl
  have hlen:=Zez l
  have hle:=Zey l
  have hwt:=Zee l
  have hpos:=fun g hg=>Zld l g hg (hok g hg).1
  obtain ⟨T,hT⟩:∃ T,hputW s f o = T:=⟨_,rfl⟩
  rw [hT]
  have HT:=Zh hT
  unfold hputW hputL at HT
  rw [hl] at HT
  generalize sgLens l = lens at *
  have HOK:=Zh hok
  have HLE:=Zh hle
  have HPOS:=Zh hpos
  have HWT:=Zh hwt
  have hN19:=Zlu lens 19
  have hN4:=Zqh lens 19 (by decide)
  obtain ⟨N,hN⟩:∃ N,cutN lens 19 = N:=⟨_,rfl⟩
  rw [hN] at HT hN19 hN4
  have HN:=Zh hN
  have hl1000:l.length <= 400:=by omega
  clear h1 h2 hW hm m5 m6 h15 hok hpl hl hT hle hwt hpos hN
  go_enter Tryz.func23,Tryz.ntmps23
  go_wp2_with (first | (go_at_call 46;refine HM.out.mono ?_;rintro e w' ⟨rfl,hww⟩;replace hww:=hww.symm;subst hww) | (go_at_call 47;refine HSG.out.mono ?_;rintro e w2 ⟨pa,pc,la,lc,rfl,hr1,hr2,hb2,hpa,hla⟩) | (go_at_call 48;refine (Zoa w2).mono ?_;rintro e w5 ⟨rfl,rfl⟩))
  obtain ⟨lb,lof,hla0,_,_⟩:=hr2.at (show 0 < lens.length by omega)
  subst hla0
  have hb25:=Zav w2 (.cells #[.int .u8 16,.int .u8 17,.int .u8 18,.int .u8 0,.int .u8 8,.int .u8 7,.int .u8 9,.int .u8 6,.int .u8 10,.int .u8 5,.int .u8 11,.int .u8 4,.int .u8 12,.int .u8 3,.int .u8 13,.int .u8 2,.int .u8 14,.int .u8 1,.int .u8 15] 5)
  have hszo:w2.heap.size < (w2.alloc (.cells #[.int .u8 16,.int .u8 17,.int .u8 18,.int .u8 0,.int .u8 8,.int .u8 7,.int .u8 9,.int .u8 6,.int .u8 10,.int .u8 5,.int .u8 11,.int .u8 4,.int .u8 12,.int .u8 3,.int .u8 13,.int .u8 2,.int .u8 14,.int .u8 1,.int .u8 15] 5)).heap.size:=by simp
  have HORD:=Zh (show RowN .u8 _ (some ⟨w2.heap.size,0,none⟩) 19 ordL from Zth .u8 w2 ordL 5 #[.int .u8 16,.int .u8 17,.int .u8 18,.int .u8 0,.int .u8 8,.int .u8 7,.int .u8 9,.int .u8 6,.int .u8 10,.int .u8 5,.int .u8 11,.int .u8 4,.int .u8 12,.int .u8 3,.int .u8 13,.int .u8 2,.int .u8 14,.int .u8 1,.int .u8 15] w2.heap.size rfl rfl (by decide))
  have HB5:=Zh (hb2.trans (hb25.mono hb2.size))
  have HR1:=Zh (hr1.below hb25)
  have HR2:=Zh (hr2.below hb25)
  have hw2s:=hb2.size
  clear hb25 hr1 hr2 hb2
  obtain ⟨ob,hob⟩:∃ ob,w2.heap.size = ob:=⟨_,rfl⟩
  simp only [hob] at hszo HORD hw2s
  simp only [hob]
  generalize w2.alloc (.cells #[.int .u8 16,.int .u8 17,.int .u8 18,.int .u8 0,.int .u8 8,.int .u8 7,.int .u8 9,.int .u8 6,.int .u8 10,.int .u8 5,.int .u8 11,.int .u8 4,.int .u8 12,.int .u8 3,.int .u8 13,.int .u8 2,.int .u8 14,.int .u8 1,.int .u8 15] 5) = w5 at *
  clear hob
  have HWN:=Zh (HW.out.narrow HB5.out)
  have HPA:=Zh hpa
  have HLA:=Zh hla
  obtain ⟨P1,hP1⟩:∃ P1,Sub P w.heap.size w5.heap.size = P1:=⟨_,rfl⟩
  rw [hP1] at HWN
  have HP1:=Zh (fun k=>(by rw [<- hP1];unfold Sub;exact Iff.rfl:P1 k ↔ (P k /\ ¬ (w.heap.size <= k /\ k < w5.heap.size))))
  clear hP1 hpa hla HW
  -- the rows stay as they are
  have HRS:=Zh (fun A (h:Only P1 w5 A)=>(show RowS encSg A pa pc l from HR1.out.same h.size (fun x h0 hx=>by
   obtain ⟨b',off,he,hlt,_⟩:=HR1.out.at h0
   rw [hx] at he;cases he
   exact h.block _ hlt (fun hp=>(HP1.out _ |>.1 hp).2 ⟨HPA.out _ hx,hlt⟩))))
  have HRL:=Zh (fun A (h:Only P1 w5 A)=>(show RowN .u8 A (some ⟨lb,lof,none⟩) lc lens from HR2.out.same h.size (fun x h0 hx=>by
   obtain ⟨b',off,he,hlt,_⟩:=HR2.out.at h0
   rw [hx] at he;cases he
   exact h.block _ hlt (fun hp=>(HP1.out _ |>.1 hp).2 ⟨HLA.out _ hx,hlt⟩))))
  have HRO:=Zh (fun A (h:Only P1 w5 A)=>(show RowN .u8 A (some ⟨ob,0,none⟩) 19 ordL from HORD.out.same h.size (fun x h0 hx=>by
   cases hx
   exact h.block _ hszo (fun hp=>(HP1.out _ |>.1 hp).2 ⟨hw2s,hszo⟩))))
  clear HORD HR1 HR2 HPA HLA
  go_loopw [10] (fun x A=>∃ k,x = .int .i64 (k:Nat) /\ k <= 19 /\ cutN lens k = N /\ A = w5) (fun x _=>(intOf x).toNat)
  case atStart=>exact ⟨19,rfl,Nat.le_refl _,HN.out,rfl⟩
  case round =>
   obtain ⟨k,rfl,hk,hcut,rfl⟩:=hrel
   have hstop:k = N -> ∃ v:Bool,True:=fun _=>⟨true,trivial⟩
   clear hstop
   have hrowL:=HRL.out wr (.refl _ _)
   have hrowO:=HRO.out wr (.refl _ _)
   by_cases h4:4 < k
   ·have b1:decide (4 < k) = true:=by simp;omega
    have b1':decide ((4:Int) < (k:Int)) = true:=by simp;omega
    obtain ⟨j,rfl⟩:∃ j,k = j + 1:=⟨k - 1,by omega⟩
    have hj19:j < ordL.length:=by show j < 19;omega
    obtain ⟨b1,off1,he1,_,hck⟩:=hrowO.at hj19
    simp only [Option.some.injEq,Addr.mk.injEq,and_true] at he1
    obtain ⟨rfl,rfl⟩:=he1
    rw [Nat.zero_add] at hck
    have hc19:=Zsx ⟨j,by omega⟩
    simp only at hc19
    rw [Zrd j hj19] at hck
    have hcl:ordL.getD j 0 < lens.length:=by omega
    obtain ⟨b2,off2,hla2,_,hvk⟩:=hrowL.at hcl
    simp only [Option.some.injEq,Addr.mk.injEq,and_true] at hla2
    obtain ⟨rfl,rfl⟩:=hla2
    have hgd:lens.getD (ordL.getD j 0) 0 = lens[ordL.getD j 0]'hcl:=by rw [List.getD_eq_getElem?_getD,List.getElem?_eq_getElem hcl];rfl
    unfold cutN at hcut
    rw [hgd] at hcut
    have hv7:=HLE.out _ (List.getElem_mem hcl)
    generalize lens[ordL.getD j 0]'hcl = v at *
    generalize ordL.getD j 0 = c at *
    obtain ⟨j1,hj1⟩:∃ j1,j + 1 = j1:=⟨_,rfl⟩
    have qj:(j1:Int) - 1 = (j:Int):=by omega
    have qjw:IntKind.i64.wrap (j:Int) = (j:Int):=IntWalk.i64_in _ (by omega)
    have qj19:(j:Int) < 19:=by omega
    have qc19:(c:Int) < 19:=by omega
    simp only [hj1] at b1 b1' hcut h4 hk
    simp only [hj1]
    by_cases hv0:v = 0
    ·rw [if_pos ⟨h4,hv0⟩] at hcut
     have HC:=Zh hcut
     have bv:((v:Int) == 0) = true:=by simp [hv0]
     clear hv0 hcut hgd
     go_wp2_with fail
     go_roundw
     case rel=>exact ⟨j,rfl,by omega,HC.out,(by first | rfl | trivial)⟩
     case measure=>simp [intOf];omega
    ·rw [if_neg (fun h=>hv0 h.2)] at hcut
     have bv:((v:Int) == 0) = false:=beq_eq_false_iff_ne.2 (by omega)
     obtain rfl:N = j1:=by omega
     clear hv0 hcut hgd
     -- tail begins
     have hb0:=HRL.out wr (.refl _ _)
     clear hb0
     obtain ⟨fa,hfa⟩:∃ fa,f.length - 257 = fa:=⟨_,rfl⟩
     obtain ⟨oa,hoa⟩:∃ oa,o.length - 1 = oa:=⟨_,rfl⟩
     obtain ⟨n4,hn4⟩:∃ n4,N - 4 = n4:=⟨_,rfl⟩
     have qfa:(f.length:Int) - 257 = (fa:Int):=by omega
     have qoa:(o.length:Int) - 1 = (oa:Int):=by omega
     have qn4:(N:Int) - 4 = (n4:Int):=by omega
     have HS14:=Zh (show put14 s f.length o.length N = addNum (addNum (addNum s fa 5) oa 5) n4 4 from by unfold put14;rw [hfa,hoa,hn4])
     have hfa32:fa < 32:=by omega
     have hoa32:oa < 32:=by omega
     have hn416:n4 < 16:=by omega
     have HL14:=Zh (Zox s f.length o.length N)
     have hcutN:(N:Int) <= 19:=by omega
     clear hfa hoa hn4
     go_wp2_with fail
     refine (Zau HWN.out fa 5 (by decide) hfa32 (by omega)).mono ?_
     rintro e w6 ⟨rfl,ho6,hw6⟩
     have HO6:=Zh ho6
     have HW6:=Zh hw6
     clear ho6 hw6
     go_wp2_with fail
     refine (Zau HW6.out oa 5 (by decide) hoa32 (by rw [Zac];omega)).mono ?_
     rintro e w7 ⟨rfl,ho7,hw7⟩
     have HO7:=Zh (HO6.out.trans ho7)
     have HW7:=Zh hw7
     clear ho7 hw7 HO6 HW6
     go_wp2_with fail
     refine (Zau HW7.out n4 4 (by decide) hn416 (by rw [Zac,Zac];omega)).mono ?_
     rintro e w8 ⟨rfl,ho8,hw8⟩
     have HO8:=Zh (HO7.out.trans ho8)
     rw [<- HS14.out] at hw8
     have HW8:=Zh hw8
     clear ho8 hw8 HO7 HW7 HS14 qfa qoa qn4
     obtain ⟨s14,hs14⟩:∃ s14,put14 s f.length o.length N = s14:=⟨_,rfl⟩
     rw [hs14] at HW8 HL14 HT
     clear hs14
     go_wp2_with fail
     go_loopw [12,70] (fun _ i A=>∃ k,i = .int .i64 (k:Nat) /\ k <= N /\ Wr P1 A p (put3 lens s14 k) /\ Only P1 wr A) (fun _ i _=>N - (intOf i).toNat)
     case atStart=>exact ⟨0,rfl,Nat.zero_le _,HW8.out,HO8.out⟩
     case round =>
      clear HW8 HO8
      obtain ⟨k,rfl,hkN,hw9,ho9⟩:=hrel
      have HW9:=Zh hw9
      have HO9:=Zh ho9
      clear hw9 ho9
      by_cases hkl:k < N
      ·have b5:decide (k < N) = true:=by simp;omega
       have hrowL:=HRL.out _ HO9.out
       have hrowO:=HRO.out _ HO9.out
       have hj19:k < ordL.length:=by show k < 19;omega
       obtain ⟨b1,off1,he1,_,hck⟩:=hrowO.at hj19
       simp only [Option.some.injEq,Addr.mk.injEq,and_true] at he1
       obtain ⟨rfl,rfl⟩:=he1
       rw [Nat.zero_add] at hck
       have hc19:=Zsx ⟨k,by omega⟩
       simp only at hc19
       rw [Zrd k hj19] at hck
       have hcl:ordL.getD k 0 < lens.length:=by omega
       obtain ⟨b2,off2,hla2,_,hvk⟩:=hrowL.at hcl
       simp only [Option.some.injEq,Addr.mk.injEq,and_true] at hla2
       obtain ⟨rfl,rfl⟩:=hla2
       have hgd:lens.getD (ordL.getD k 0) 0 = lens[ordL.getD k 0]'hcl:=by rw [List.getD_eq_getElem?_getD,List.getElem?_eq_getElem hcl];rfl
       have hp3:put3 lens s14 (k + 1) = addNum (put3 lens s14 k) (lens.getD (ordL.getD k 0) 0) 3:=rfl
       have hp3l:=Zif lens s14 k
       rw [hgd] at hp3
       have hv7:=HLE.out _ (List.getElem_mem hcl)
       generalize lens[ordL.getD k 0]'hcl = v at *
       generalize ordL.getD k 0 = c at *
       have qk:(k:Int) < (N:Int):=by omega
       have qc19:(c:Int) < 19:=by omega
       have HP3:=Zh hp3
       have h3:=HL14.out
       have HPT:=Zh (Zau HW9.out v 3 (by decide) (by omega) (by omega))
       rw [<- hp3] at HPT
       clear hp3 hp3l hgd hrowL hrowO h3
       go_wp2_with (go_at_call 18;refine HPT.out.mono ?_;rintro e w9 ⟨rfl,ho10,hw10⟩;have HW10:=Zh hw10;have HO10:=Zh (HO9.out.trans ho10);clear hw10 ho10)
       go_roundw
       case rel=>exact ⟨k + 1,by go_num,by omega,HW10.out,HO10.out⟩
       case measure=>simp [intOf];omega
      ·have b5:decide (k < N) = false:=by simp;omega
       obtain rfl:N = k:=by omega
       have hrowL:=HRL.out _ HO9.out
       have hwo:=Zgk lens (fun x hx=>Nat.le_trans (HLE.out x hx) (by decide)) (by omega) (by rw [HWT.out];exact Nat.le_refl _)
       generalize hwq:wr = w9 at *
       have HNW:=Zh ((Zcd (some ⟨lb,lof,none⟩) lc lens w9 hrowL).mono (fun e w' h=>(show Below w9.heap.size w9 w' /\ ∃ tp,e = .returned (.tuple #[.pointer (some ⟨tp,0,none⟩),.int .i64 0]) /\ Tb w9.heap.size w'.heap.size w' tp lens from by
        obtain ⟨z1,z2⟩:=h
        rw [if_pos hwo] at z2
        exact ⟨z1,z2⟩)))
       rw [hlen] at HNW
       clear hwo hrowL hwq
       obtain ⟨s15,hs15⟩:∃ s15,put3 lens s14 N = s15:=⟨_,rfl⟩
       have HL15:=Zif lens s14 N
       rw [hs15] at HW9 HT HL15
       clear hs15
       go_wp2_with (go_at_call 41;refine HNW.out.mono ?_;rintro e w10 ⟨hb10,tp,rfl,htb⟩;have HB10:=Zh hb10;have HTB:=Zh htb;clear hb10 htb)
       have HWB:=Zh (HW9.out.narrow HB10.out)
       obtain ⟨P2,hP2⟩:∃ P2,Sub P1 w9.heap.size w10.heap.size = P2:=⟨_,rfl⟩
       rw [hP2] at HWB
       have HP2:=Zh (fun k=>(by rw [<- hP2];unfold Sub;exact Iff.rfl:P2 k ↔ (P1 k /\ ¬ (w9.heap.size <= k /\ k < w10.heap.size))))
       have HOB:=Zh (HO9.out.trans (Only.ofBelow HB10.out))
       have HRS2:=Zh (fun A (h:Only P2 w10 A)=>HRS.out A (HOB.out.trans (h.mono (fun k _ hk=>(HP2.out k |>.1 hk).1))))
       have HTB2:=Zh (fun A (h:Only P2 w10 A)=>HTB.out.only h (fun b h1 h2 hb=>(HP2.out b |>.1 hb).2 ⟨h1,h2⟩))
       have h14:=HL14.out
       clear hP2 HNW HW9
       go_loopw [16,89] (fun _ i A=>∃ k,i = .int .i64 (k:Nat) /\ k <= l.length /\ Wr P2 A p (putsS lens s15 (l.take k)) /\ Only P2 w10 A) (fun _ i _=>l.length - (intOf i).toNat)
       case atStart=>exact ⟨0,rfl,Nat.zero_le _,HWB.out,.refl _ _⟩
       case round =>
        clear HWB
        obtain ⟨k,rfl,hkl2,hw11,ho11⟩:=hrel
        have HW11:=Zh hw11
        have HO11:=Zh ho11
        clear hw11 ho11
        by_cases hlt:k < l.length
        ·have b6:decide (k < l.length) = true:=by simp;omega
         have hrA:=HRS2.out _ HO11.out
         obtain ⟨b,off,hpa,hb,hcl⟩:=hrA.at hlt
         subst hpa
         have c0:=hcl 0 _ rfl
         have c1:=hcl 1 _ rfl
         have hs:=HOK.out _ (List.getElem_mem hlt)
         have hps:=HPOS.out _ (List.getElem_mem hlt)
         have hsn:=Zkx lens s15 (l.take k) l[k]
         rw [<- M04.Zaw l k hlt] at hsn
         have hbd:=Zkw lens HLE.out (l.take k) s15
         rw [List.length_take] at hbd
         have htbA:=HTB2.out _ HO11.out
         clear hcl hrA
         generalize l[k] = sg at *
         obtain ⟨c,x⟩:=sg
         simp only [encSg,Nat.add_zero] at c0 c1
         rw [<- Nat.add_assoc] at c1
         have hc18:c <= 18:=hs.1
         have hx:=hs.2
         simp only at hx hps
         unfold putS at hsn
         simp only at hsn
         have hrb:=Zml c
         have hc7:=M04.Zat HLE.out c
         have hwl:=Zty lens c (by omega) (fun x hx=>Nat.le_trans (HLE.out x hx) (by decide)) (by rw [HWT.out];exact Nat.le_refl _)
         generalize putsS lens s15 (l.take k) = st at *
         obtain ⟨nb,hnb⟩:∃ nb,wr.heap.size = nb:=⟨_,rfl⟩
         have hbx:=Zav wr (.cells #[.int .u8 (c:Nat),.int .u8 (x:Nat)] 95)
         have hnw:=HW11.out.narrow hbx
         have hsz:(wr.alloc (.cells #[.int .u8 (c:Nat),.int .u8 (x:Nat)] 95)).heap.size = nb + 1:=by simp [hnb]
         rw [hsz,hnb] at hnw
         obtain ⟨e0,e1⟩:=Zbo wr (.int .u8 (c:Nat)) (.int .u8 (x:Nat)) 95
         rw [hnb] at e0 e1 hbx
         obtain ⟨P3,hP3⟩:∃ P3,Sub P2 nb (nb + 1) = P3:=⟨_,rfl⟩
         rw [hP3] at hnw
         have HP3:=Zh (fun k=>(by rw [<- hP3];unfold Sub;exact Iff.rfl:P3 k ↔ (P2 k /\ ¬ (nb <= k /\ k < nb + 1))))
         have htw:=htbA.below (by rw [hnb];exact hbx)
         have hoW:Only P2 w10 (wr.alloc (.cells #[.int .u8 (c:Nat),.int .u8 (x:Nat)] 95)):=HO11.out.trans (Only.ofBelow (by rw [hnb];exact hbx))
         have HOW:=Zh hoW
         have hls:=Zgm lens st c
         have HPL:=Zh (Zeb htw hnw (fun b h1 h2 hb=>(HP2.out b |>.1 (HP3.out b |>.1 hb).1).2 ⟨h1,h2⟩) c (by omega) hps (by omega) hwl (by omega))
         have HSN:=Zh hsn
         have HBT:=Zh (fun w=>Zec c w)
         obtain ⟨rb,hrbe⟩:∃ rb,rbits c = rb:=⟨_,rfl⟩
         rw [hrbe] at HSN HBT hx hrb
         have h1000:(addSym lens st c).2 + rb <= 100000000:=by omega
         obtain ⟨s4,hs4⟩:∃ s4,addSym lens st c = s4:=⟨_,rfl⟩
         rw [hs4] at HSN HPL h1000
         have qk:(k:Int) < (l.length:Int):=by omega
         have hx128:x < 128:=hs.lt
         clear hP3 hnw htw htbA hoW hsn hrbe hls hs4 hbd hwl hs hps hbx HW11 HO11
         go_wp2_with fail
         try simp only [hnb]
         generalize wr.alloc (.cells #[.int .u8 (c:Nat),.int .u8 (x:Nat)] 95) = W at *
         refine HPL.out.mono ?_
         rintro e W2 ⟨rfl,ho12,hw12⟩
         have hnW:nb < W.heap.size:=by omega
         have hnP:¬ P3 nb:=fun h=>(HP3.out nb |>.1 h).2 ⟨Nat.le_refl _,Nat.lt_succ_self _⟩
         have z0:=(World.cell?_of_block (a:=⟨nb,0,none⟩) (ho12.block nb hnW hnP)).trans e0
         have z1:=(World.cell?_of_block (a:=⟨nb,1,none⟩) (ho12.block nb hnW hnP)).trans e1
         have HFIN:=Zh (fun A (h:Only P3 W2 A)=>(HOW.out.trans (ho12.mono (fun k _ hk=>(HP3.out k |>.1 hk).1))).trans (h.mono (fun k _ hk=>(HP3.out k |>.1 hk).1)))
         have HW12:=Zh hw12
         clear ho12 hw12 e0 e1 hsz hnW hnP HPL
         go_wp2_with fail
         obtain ⟨W0,hW0⟩:∃ W0,W2.drew = W0:=⟨_,rfl⟩
         have z0':W0.cell? ⟨nb,0,none⟩ = some (.int .u8 (c:Nat)):=by rw [<- hW0];exact z0
         have z1':W0.cell? ⟨nb,1,none⟩ = some (.int .u8 (x:Nat)):=by rw [<- hW0];exact z1
         have HCC:=Zh z0'
         have HCX:=Zh z1'
         have hwd:Wr P3 W0 p s4:=by rw [<- hW0];exact HW12.out
         have HPT:=Zh (Zau hwd x rb (by omega) hx h1000)
         have HFIN2:=Zh (fun A (h:Only P3 W0 A)=>HFIN.out A ((show Only P3 W2 W0 from by rw [<- hW0];exact Zak P3 W2 1).trans h))
         have HW0:=Zh hW0
         obtain ⟨s5,hs5⟩:∃ s5,addNum s4 x rb = s5:=⟨_,rfl⟩
         rw [hs5] at HPT HSN
         have HS5:=Zh HSN.out
         have qxw:IntKind.u32.wrap (x:Int) = (x:Int):=IntWalk.u32_in _ (by omega)
         clear z0 z1 z0' z1' hwd hW0 hs5 HSN HW12
         -- region begins
         refine Zao [99,100,101,102,103,104,105,106] (fun j=>false) (fun listed w1=>(listed.getD 7 false = false -> w1 = W0) /\ (listed.getD 7 false = true -> Only P3 W0 w1 /\ Wr P3 w1 p s5)) (fun j v _=>match j with | 0=>v = .pointer (some ⟨p,0,none⟩) | 1=>v = .pointer (some ⟨nb,1,none⟩) | 2=>v = .int .u8 (x:Nat) | 3=>v = .int .u32 (x:Nat) | 4=>v = .pointer (some ⟨nb,0,none⟩) | 5=>v = .int .u8 (c:Nat) | 6=>v = .int .i64 (rb:Nat) | 7=>v = .int .i64 0 | _=>True) (fun _ _ _ _=>True) (by kernel_rfl) (by kernel_rfl) (OneEach.mk' (by kernel_rfl) (by kernel_rfl)) (by kernel_rfl) (by kernel_rfl) (by exact ⟨fun _=>HW0.out,fun h=>by cases h⟩) ?_ ?_
         ·intro i0 o hi0 listed a1 w1 hR hil hunf hdes hanc hout hdep
          have hsz:i0 < 8:=(Array.getElem?_eq_some_iff.1 hi0).1
          have hall:i0 = 0 \/ i0 = 1 \/ i0 = 2 \/ i0 = 3 \/ i0 = 4 \/ i0 = 5 \/ i0 = 6 \/ i0 = 7:=by omega
          clear hsz
          rcases hall with rfl | rfl | rfl | rfl | rfl | rfl | rfl | rfl <;> simp only [List.getElem?_toArray,List.getElem?_cons_zero,List.getElem?_cons_succ,Option.some.injEq] at hi0 <;> subst hi0
          ·have f0:a1.eval (.tmp 0) = .pointer (some ⟨p,0,none⟩):=hout 0 (by decide)
           refine Zab (v:=.pointer (some ⟨p,0,none⟩)) (w':=w1) (by simp [execOp,f0]) ⟨_,rfl,?_,fun j u hu hV _=>⟨hV,trivial,trivial⟩,rfl⟩
           rw [Zaa (by decide)];exact hR
          ·have f16:a1.eval (.tmp 16) = .pointer (some ⟨nb,0,none⟩):=hout 16 (by decide)
           have x16:a1.tmps[16]?.getD undef = .pointer (some ⟨nb,0,none⟩):=by simpa [Act.eval] using f16
           refine Zab (v:=.pointer (some ⟨nb,1,none⟩)) (w':=w1) (by simp [execOp,x16,go_sem]) ⟨_,rfl,?_,fun j u hu hV _=>⟨hV,trivial,trivial⟩,rfl⟩
           rw [Zaa (by decide)];exact hR
          ·have e100:a1.eval (.tmp 100) = .pointer (some ⟨nb,1,none⟩):=hdep ⟨1,.data⟩ (by simp) rfl _ rfl
           have x100:a1.tmps[100]?.getD undef = .pointer (some ⟨nb,1,none⟩):=by simpa [Act.eval] using e100
           rw [hdes 7 (by kernel_rfl)] at hR
           obtain rfl:w1 = W0:=hR.1 rfl
           refine Zab (v:=.int .u8 (x:Nat)) (w':=w1) (by simp [execOp,e100,ldU8h _ _ _ HCX.out]) ⟨_,rfl,?_,fun j u hu hV _=>⟨hV,trivial,trivial⟩,rfl⟩
           rw [Zaa (by decide),hdes 7 (by kernel_rfl)];exact hR
          ·have e101:a1.eval (.tmp 101) = .int .u8 (x:Nat):=hdep ⟨2,.data⟩ (by simp) rfl _ rfl
           have x101:a1.tmps[101]?.getD undef = .int .u8 (x:Nat):=by simpa [Act.eval] using e101
           refine Zab (v:=.int .u32 (x:Nat)) (w':=w1) (by simp [execOp,x101,go_sem,qxw]) ⟨_,rfl,?_,fun j u hu hV _=>⟨hV,trivial,trivial⟩,rfl⟩
           rw [Zaa (by decide)];exact hR
          ·have f16:a1.eval (.tmp 16) = .pointer (some ⟨nb,0,none⟩):=hout 16 (by decide)
           have x16:a1.tmps[16]?.getD undef = .pointer (some ⟨nb,0,none⟩):=by simpa [Act.eval] using f16
           refine Zab (v:=.pointer (some ⟨nb,0,none⟩)) (w':=w1) (by simp [execOp,x16,go_sem]) ⟨_,rfl,?_,fun j u hu hV _=>⟨hV,trivial,trivial⟩,rfl⟩
           rw [Zaa (by decide)];exact hR
          ·have e103:a1.eval (.tmp 103) = .pointer (some ⟨nb,0,none⟩):=hdep ⟨4,.data⟩ (by simp) rfl _ rfl
           have x103:a1.tmps[103]?.getD undef = .pointer (some ⟨nb,0,none⟩):=by simpa [Act.eval] using e103
           rw [hdes 7 (by kernel_rfl)] at hR
           obtain rfl:w1 = W0:=hR.1 rfl
           refine Zab (v:=.int .u8 (c:Nat)) (w':=w1) (by simp [execOp,e103,ldU8h _ _ _ HCC.out]) ⟨_,rfl,?_,fun j u hu hV _=>⟨hV,trivial,trivial⟩,rfl⟩
           rw [Zaa (by decide),hdes 7 (by kernel_rfl)];exact hR
          ·have e104:a1.eval (.tmp 104) = .int .u8 (c:Nat):=hdep ⟨5,.data⟩ (by simp) rfl _ rfl
           have x104:a1.tmps[104]?.getD undef = .int .u8 (c:Nat):=by simpa [Act.eval] using e104
           rw [hdes 7 (by kernel_rfl)] at hR
           obtain rfl:w1 = W0:=hR.1 rfl
           refine Zam (f:=49) (args:=#[.int .u8 (c:Nat)]) (by simp [x104,go_sem]) ((HBT.out w1).mono ?_)
           rintro e w9 ⟨rfl,rfl⟩
           refine ⟨_,rfl,_,rfl,?_,fun j u hu hV _=>⟨hV,trivial,trivial⟩,rfl⟩
           rw [Zaa (by decide),hdes 7 (by kernel_rfl)]
           exact hR
          ·have e99:a1.eval (.tmp 99) = .pointer (some ⟨p,0,none⟩):=hdep ⟨0,.data⟩ (by simp) rfl _ rfl
           have x99:a1.tmps[99]?.getD undef = .pointer (some ⟨p,0,none⟩):=by simpa [Act.eval] using e99
           have e102:a1.eval (.tmp 102) = .int .u32 (x:Nat):=hdep ⟨3,.data⟩ (by simp) rfl _ rfl
           have x102:a1.tmps[102]?.getD undef = .int .u32 (x:Nat):=by simpa [Act.eval] using e102
           have e105:a1.eval (.tmp 105) = .int .i64 (rb:Nat):=hdep ⟨6,.data⟩ (by simp) rfl _ rfl
           have x105:a1.tmps[105]?.getD undef = .int .i64 (rb:Nat):=by simpa [Act.eval] using e105
           rw [hunf] at hR
           obtain rfl:w1 = W0:=hR.1 rfl
           refine Zam (f:=18) (args:=#[.pointer (some ⟨p,0,none⟩),.int .u32 (x:Nat),.int .i64 (rb:Nat)]) (by simp [x99,x102,x105,go_sem]) ((HPT.out).mono ?_)
           rintro e w9 ⟨rfl,ho,hw⟩
           refine ⟨_,rfl,_,rfl,?_,fun j u hu hV _=>⟨hV,trivial,trivial⟩,rfl⟩
           rw [Zad hil]
           exact ⟨fun h=>(by cases h),fun _=>⟨ho,hw⟩⟩
         ·intro listed fv w1 hR hall hV
          rw [hall 7 (by decide)] at hR
          obtain ⟨ho9,hw9⟩:=hR.2 rfl
          simp only [spread,List.contains_cons,List.contains_nil,Nat.reduceBEq,Bool.or_false,Bool.or_true,cond_true,cond_false,Nat.reduceAdd,Nat.zero_add]
          have HO9:=Zh ho9
          have HW9:=Zh hw9
          clear ho9 hw9
          go_wp2
          go_roundw
          case rel=>exact ⟨k + 1,by go_num,by omega,by rw [HS5.out];exact HW9.out.monoP (fun k hk=>(HP3.out k |>.1 hk).1),HFIN2.out w1 HO9.out⟩
          case measure=>simp [intOf];omega
         -- region ends
        ·have b6:decide (k < l.length) = false:=by simp;omega
         obtain rfl:k = l.length:=by omega
         rw [List.take_of_length_le (Nat.le_refl _)] at HW11
         have hfin:=HW11.out
         rw [HT.out] at hfin
         have HF:=Zh (hfin.monoP (fun k hk=>(HP1.out k |>.1 (HP2.out k |>.1 hk).1).1))
         have HFO:=Zh ((Only.ofBelow HB5.out:Only P w _).trans ((HOB.out.mono (fun k _ hk=>(HP1.out k |>.1 hk).1)).trans (HO11.out.mono (fun k _ hk=>(HP1.out k |>.1 (HP2.out k |>.1 hk).1).1))))
         clear hfin
         go_wp2
         go_ret
         exact ⟨HFO.out,rfl,HF.out⟩
     -- tail ends
   ·have b1:decide (4 < k) = false:=by simp;omega
    have b1':decide ((4:Int) < (k:Int)) = false:=by simp;omega
    obtain rfl:N = k:=by
     cases k with
     | zero=>exact hcut.symm
     | succ k=>unfold cutN at hcut;rw [if_neg (fun h=>by omega)] at hcut;exact hcut.symm
    -- tail2 begins
    have hb0:=HRL.out wr (.refl _ _)
    clear hb0
    obtain ⟨fa,hfa⟩:∃ fa,f.length - 257 = fa:=⟨_,rfl⟩
    obtain ⟨oa,hoa⟩:∃ oa,o.length - 1 = oa:=⟨_,rfl⟩
    obtain ⟨n4,hn4⟩:∃ n4,N - 4 = n4:=⟨_,rfl⟩
    have qfa:(f.length:Int) - 257 = (fa:Int):=by omega
    have qoa:(o.length:Int) - 1 = (oa:Int):=by omega
    have qn4:(N:Int) - 4 = (n4:Int):=by omega
    have HS14:=Zh (show put14 s f.length o.length N = addNum (addNum (addNum s fa 5) oa 5) n4 4 from by unfold put14;rw [hfa,hoa,hn4])
    have hfa32:fa < 32:=by omega
    have hoa32:oa < 32:=by omega
    have hn416:n4 < 16:=by omega
    have HL14:=Zh (Zox s f.length o.length N)
    have hcutN:(N:Int) <= 19:=by omega
    clear hfa hoa hn4
    go_wp2_with fail
    refine (Zau HWN.out fa 5 (by decide) hfa32 (by omega)).mono ?_
    rintro e w6 ⟨rfl,ho6,hw6⟩
    have HO6:=Zh ho6
    have HW6:=Zh hw6
    clear ho6 hw6
    go_wp2_with fail
    refine (Zau HW6.out oa 5 (by decide) hoa32 (by rw [Zac];omega)).mono ?_
    rintro e w7 ⟨rfl,ho7,hw7⟩
    have HO7:=Zh (HO6.out.trans ho7)
    have HW7:=Zh hw7
    clear ho7 hw7 HO6 HW6
    go_wp2_with fail
    refine (Zau HW7.out n4 4 (by decide) hn416 (by rw [Zac,Zac];omega)).mono ?_
    rintro e w8 ⟨rfl,ho8,hw8⟩
    have HO8:=Zh (HO7.out.trans ho8)
    rw [<- HS14.out] at hw8
    have HW8:=Zh hw8
    clear ho8 hw8 HO7 HW7 HS14 qfa qoa qn4
    obtain ⟨s14,hs14⟩:∃ s14,put14 s f.length o.length N = s14:=⟨_,rfl⟩
    rw [hs14] at HW8 HL14 HT
    clear hs14
    go_wp2_with fail
    go_loopw [12,70] (fun _ i A=>∃ k,i = .int .i64 (k:Nat) /\ k <= N /\ Wr P1 A p (put3 lens s14 k) /\ Only P1 wr A) (fun _ i _=>N - (intOf i).toNat)
    case atStart=>exact ⟨0,rfl,Nat.zero_le _,HW8.out,HO8.out⟩
    case round =>
     clear HW8 HO8
     obtain ⟨k,rfl,hkN,hw9,ho9⟩:=hrel
     have HW9:=Zh hw9
     have HO9:=Zh ho9
     clear hw9 ho9
     by_cases hkl:k < N
     ·have b5:decide (k < N) = true:=by simp;omega
      have hrowL:=HRL.out _ HO9.out
      have hrowO:=HRO.out _ HO9.out
      have hj19:k < ordL.length:=by show k < 19;omega
      obtain ⟨b1,off1,he1,_,hck⟩:=hrowO.at hj19
      simp only [Option.some.injEq,Addr.mk.injEq,and_true] at he1
      obtain ⟨rfl,rfl⟩:=he1
      rw [Nat.zero_add] at hck
      have hc19:=Zsx ⟨k,by omega⟩
      simp only at hc19
      rw [Zrd k hj19] at hck
      have hcl:ordL.getD k 0 < lens.length:=by omega
      obtain ⟨b2,off2,hla2,_,hvk⟩:=hrowL.at hcl
      simp only [Option.some.injEq,Addr.mk.injEq,and_true] at hla2
      obtain ⟨rfl,rfl⟩:=hla2
      have hgd:lens.getD (ordL.getD k 0) 0 = lens[ordL.getD k 0]'hcl:=by rw [List.getD_eq_getElem?_getD,List.getElem?_eq_getElem hcl];rfl
      have hp3:put3 lens s14 (k + 1) = addNum (put3 lens s14 k) (lens.getD (ordL.getD k 0) 0) 3:=rfl
      have hp3l:=Zif lens s14 k
      rw [hgd] at hp3
      have hv7:=HLE.out _ (List.getElem_mem hcl)
      generalize lens[ordL.getD k 0]'hcl = v at *
      generalize ordL.getD k 0 = c at *
      have qk:(k:Int) < (N:Int):=by omega
      have qc19:(c:Int) < 19:=by omega
      have HP3:=Zh hp3
      have h3:=HL14.out
      have HPT:=Zh (Zau HW9.out v 3 (by decide) (by omega) (by omega))
      rw [<- hp3] at HPT
      clear hp3 hp3l hgd hrowL hrowO h3
      go_wp2_with (go_at_call 18;refine HPT.out.mono ?_;rintro e w9 ⟨rfl,ho10,hw10⟩;have HW10:=Zh hw10;have HO10:=Zh (HO9.out.trans ho10);clear hw10 ho10)
      go_roundw
      case rel=>exact ⟨k + 1,by go_num,by omega,HW10.out,HO10.out⟩
      case measure=>simp [intOf];omega
     ·have b5:decide (k < N) = false:=by simp;omega
      obtain rfl:N = k:=by omega
      have hrowL:=HRL.out _ HO9.out
      have hwo:=Zgk lens (fun x hx=>Nat.le_trans (HLE.out x hx) (by decide)) (by omega) (by rw [HWT.out];exact Nat.le_refl _)
      generalize hwq:wr = w9 at *
      have HNW:=Zh ((Zcd (some ⟨lb,lof,none⟩) lc lens w9 hrowL).mono (fun e w' h=>(show Below w9.heap.size w9 w' /\ ∃ tp,e = .returned (.tuple #[.pointer (some ⟨tp,0,none⟩),.int .i64 0]) /\ Tb w9.heap.size w'.heap.size w' tp lens from by
       obtain ⟨z1,z2⟩:=h
       rw [if_pos hwo] at z2
       exact ⟨z1,z2⟩)))
      rw [hlen] at HNW
      clear hwo hrowL hwq
      obtain ⟨s15,hs15⟩:∃ s15,put3 lens s14 N = s15:=⟨_,rfl⟩
      have HL15:=Zif lens s14 N
      rw [hs15] at HW9 HT HL15
      clear hs15
      go_wp2_with (go_at_call 41;refine HNW.out.mono ?_;rintro e w10 ⟨hb10,tp,rfl,htb⟩;have HB10:=Zh hb10;have HTB:=Zh htb;clear hb10 htb)
      have HWB:=Zh (HW9.out.narrow HB10.out)
      obtain ⟨P2,hP2⟩:∃ P2,Sub P1 w9.heap.size w10.heap.size = P2:=⟨_,rfl⟩
      rw [hP2] at HWB
      have HP2:=Zh (fun k=>(by rw [<- hP2];unfold Sub;exact Iff.rfl:P2 k ↔ (P1 k /\ ¬ (w9.heap.size <= k /\ k < w10.heap.size))))
      have HOB:=Zh (HO9.out.trans (Only.ofBelow HB10.out))
      have HRS2:=Zh (fun A (h:Only P2 w10 A)=>HRS.out A (HOB.out.trans (h.mono (fun k _ hk=>(HP2.out k |>.1 hk).1))))
      have HTB2:=Zh (fun A (h:Only P2 w10 A)=>HTB.out.only h (fun b h1 h2 hb=>(HP2.out b |>.1 hb).2 ⟨h1,h2⟩))
      have h14:=HL14.out
      clear hP2 HNW HW9
      go_loopw [16,89] (fun _ i A=>∃ k,i = .int .i64 (k:Nat) /\ k <= l.length /\ Wr P2 A p (putsS lens s15 (l.take k)) /\ Only P2 w10 A) (fun _ i _=>l.length - (intOf i).toNat)
      case atStart=>exact ⟨0,rfl,Nat.zero_le _,HWB.out,.refl _ _⟩
      case round =>
       clear HWB
       obtain ⟨k,rfl,hkl2,hw11,ho11⟩:=hrel
       have HW11:=Zh hw11
       have HO11:=Zh ho11
       clear hw11 ho11
       by_cases hlt:k < l.length
       ·have b6:decide (k < l.length) = true:=by simp;omega
        have hrA:=HRS2.out _ HO11.out
        obtain ⟨b,off,hpa,hb,hcl⟩:=hrA.at hlt
        subst hpa
        have c0:=hcl 0 _ rfl
        have c1:=hcl 1 _ rfl
        have hs:=HOK.out _ (List.getElem_mem hlt)
        have hps:=HPOS.out _ (List.getElem_mem hlt)
        have hsn:=Zkx lens s15 (l.take k) l[k]
        rw [<- M04.Zaw l k hlt] at hsn
        have hbd:=Zkw lens HLE.out (l.take k) s15
        rw [List.length_take] at hbd
        have htbA:=HTB2.out _ HO11.out
        clear hcl hrA
        generalize l[k] = sg at *
        obtain ⟨c,x⟩:=sg
        simp only [encSg,Nat.add_zero] at c0 c1
        rw [<- Nat.add_assoc] at c1
        have hc18:c <= 18:=hs.1
        have hx:=hs.2
        simp only at hx hps
        unfold putS at hsn
        simp only at hsn
        have hrb:=Zml c
        have hc7:=M04.Zat HLE.out c
        have hwl:=Zty lens c (by omega) (fun x hx=>Nat.le_trans (HLE.out x hx) (by decide)) (by rw [HWT.out];exact Nat.le_refl _)
        generalize putsS lens s15 (l.take k) = st at *
        obtain ⟨nb,hnb⟩:∃ nb,wr.heap.size = nb:=⟨_,rfl⟩
        have hbx:=Zav wr (.cells #[.int .u8 (c:Nat),.int .u8 (x:Nat)] 95)
        have hnw:=HW11.out.narrow hbx
        have hsz:(wr.alloc (.cells #[.int .u8 (c:Nat),.int .u8 (x:Nat)] 95)).heap.size = nb + 1:=by simp [hnb]
        rw [hsz,hnb] at hnw
        obtain ⟨e0,e1⟩:=Zbo wr (.int .u8 (c:Nat)) (.int .u8 (x:Nat)) 95
        rw [hnb] at e0 e1 hbx
        obtain ⟨P3,hP3⟩:∃ P3,Sub P2 nb (nb + 1) = P3:=⟨_,rfl⟩
        rw [hP3] at hnw
        have HP3:=Zh (fun k=>(by rw [<- hP3];unfold Sub;exact Iff.rfl:P3 k ↔ (P2 k /\ ¬ (nb <= k /\ k < nb + 1))))
        have htw:=htbA.below (by rw [hnb];exact hbx)
        have hoW:Only P2 w10 (wr.alloc (.cells #[.int .u8 (c:Nat),.int .u8 (x:Nat)] 95)):=HO11.out.trans (Only.ofBelow (by rw [hnb];exact hbx))
        have HOW:=Zh hoW
        have hls:=Zgm lens st c
        have HPL:=Zh (Zeb htw hnw (fun b h1 h2 hb=>(HP2.out b |>.1 (HP3.out b |>.1 hb).1).2 ⟨h1,h2⟩) c (by omega) hps (by omega) hwl (by omega))
        have HSN:=Zh hsn
        have HBT:=Zh (fun w=>Zec c w)
        obtain ⟨rb,hrbe⟩:∃ rb,rbits c = rb:=⟨_,rfl⟩
        rw [hrbe] at HSN HBT hx hrb
        have h1000:(addSym lens st c).2 + rb <= 100000000:=by omega
        obtain ⟨s4,hs4⟩:∃ s4,addSym lens st c = s4:=⟨_,rfl⟩
        rw [hs4] at HSN HPL h1000
        have qk:(k:Int) < (l.length:Int):=by omega
        have hx128:x < 128:=hs.lt
        clear hP3 hnw htw htbA hoW hsn hrbe hls hs4 hbd hwl hs hps hbx HW11 HO11
        go_wp2_with fail
        try simp only [hnb]
        generalize wr.alloc (.cells #[.int .u8 (c:Nat),.int .u8 (x:Nat)] 95) = W at *
        refine HPL.out.mono ?_
        rintro e W2 ⟨rfl,ho12,hw12⟩
        have hnW:nb < W.heap.size:=by omega
        have hnP:¬ P3 nb:=fun h=>(HP3.out nb |>.1 h).2 ⟨Nat.le_refl _,Nat.lt_succ_self _⟩
        have z0:=(World.cell?_of_block (a:=⟨nb,0,none⟩) (ho12.block nb hnW hnP)).trans e0
        have z1:=(World.cell?_of_block (a:=⟨nb,1,none⟩) (ho12.block nb hnW hnP)).trans e1
        have HFIN:=Zh (fun A (h:Only P3 W2 A)=>(HOW.out.trans (ho12.mono (fun k _ hk=>(HP3.out k |>.1 hk).1))).trans (h.mono (fun k _ hk=>(HP3.out k |>.1 hk).1)))
        have HW12:=Zh hw12
        clear ho12 hw12 e0 e1 hsz hnW hnP HPL
        go_wp2_with fail
        obtain ⟨W0,hW0⟩:∃ W0,W2.drew = W0:=⟨_,rfl⟩
        have z0':W0.cell? ⟨nb,0,none⟩ = some (.int .u8 (c:Nat)):=by rw [<- hW0];exact z0
        have z1':W0.cell? ⟨nb,1,none⟩ = some (.int .u8 (x:Nat)):=by rw [<- hW0];exact z1
        have HCC:=Zh z0'
        have HCX:=Zh z1'
        have hwd:Wr P3 W0 p s4:=by rw [<- hW0];exact HW12.out
        have HPT:=Zh (Zau hwd x rb (by omega) hx h1000)
        have HFIN2:=Zh (fun A (h:Only P3 W0 A)=>HFIN.out A ((show Only P3 W2 W0 from by rw [<- hW0];exact Zak P3 W2 1).trans h))
        have HW0:=Zh hW0
        obtain ⟨s5,hs5⟩:∃ s5,addNum s4 x rb = s5:=⟨_,rfl⟩
        rw [hs5] at HPT HSN
        have HS5:=Zh HSN.out
        have qxw:IntKind.u32.wrap (x:Int) = (x:Int):=IntWalk.u32_in _ (by omega)
        clear z0 z1 z0' z1' hwd hW0 hs5 HSN HW12
        refine Zao [99,100,101,102,103,104,105,106] (fun j=>false) (fun listed w1=>(listed.getD 7 false = false -> w1 = W0) /\ (listed.getD 7 false = true -> Only P3 W0 w1 /\ Wr P3 w1 p s5)) (fun j v _=>match j with | 0=>v = .pointer (some ⟨p,0,none⟩) | 1=>v = .pointer (some ⟨nb,1,none⟩) | 2=>v = .int .u8 (x:Nat) | 3=>v = .int .u32 (x:Nat) | 4=>v = .pointer (some ⟨nb,0,none⟩) | 5=>v = .int .u8 (c:Nat) | 6=>v = .int .i64 (rb:Nat) | 7=>v = .int .i64 0 | _=>True) (fun _ _ _ _=>True) (by kernel_rfl) (by kernel_rfl) (OneEach.mk' (by kernel_rfl) (by kernel_rfl)) (by kernel_rfl) (by kernel_rfl) (by exact ⟨fun _=>HW0.out,fun h=>by cases h⟩) ?_ ?_
        ·intro i0 o hi0 listed a1 w1 hR hil hunf hdes hanc hout hdep
         have hsz:i0 < 8:=(Array.getElem?_eq_some_iff.1 hi0).1
         have hall:i0 = 0 \/ i0 = 1 \/ i0 = 2 \/ i0 = 3 \/ i0 = 4 \/ i0 = 5 \/ i0 = 6 \/ i0 = 7:=by omega
         clear hsz
         rcases hall with rfl | rfl | rfl | rfl | rfl | rfl | rfl | rfl <;> simp only [List.getElem?_toArray,List.getElem?_cons_zero,List.getElem?_cons_succ,Option.some.injEq] at hi0 <;> subst hi0
         ·have f0:a1.eval (.tmp 0) = .pointer (some ⟨p,0,none⟩):=hout 0 (by decide)
          refine Zab (v:=.pointer (some ⟨p,0,none⟩)) (w':=w1) (by simp [execOp,f0]) ⟨_,rfl,?_,fun j u hu hV _=>⟨hV,trivial,trivial⟩,rfl⟩
          rw [Zaa (by decide)];exact hR
         ·have f16:a1.eval (.tmp 16) = .pointer (some ⟨nb,0,none⟩):=hout 16 (by decide)
          have x16:a1.tmps[16]?.getD undef = .pointer (some ⟨nb,0,none⟩):=by simpa [Act.eval] using f16
          refine Zab (v:=.pointer (some ⟨nb,1,none⟩)) (w':=w1) (by simp [execOp,x16,go_sem]) ⟨_,rfl,?_,fun j u hu hV _=>⟨hV,trivial,trivial⟩,rfl⟩
          rw [Zaa (by decide)];exact hR
         ·have e100:a1.eval (.tmp 100) = .pointer (some ⟨nb,1,none⟩):=hdep ⟨1,.data⟩ (by simp) rfl _ rfl
          have x100:a1.tmps[100]?.getD undef = .pointer (some ⟨nb,1,none⟩):=by simpa [Act.eval] using e100
          rw [hdes 7 (by kernel_rfl)] at hR
          obtain rfl:w1 = W0:=hR.1 rfl
          refine Zab (v:=.int .u8 (x:Nat)) (w':=w1) (by simp [execOp,e100,ldU8h _ _ _ HCX.out]) ⟨_,rfl,?_,fun j u hu hV _=>⟨hV,trivial,trivial⟩,rfl⟩
          rw [Zaa (by decide),hdes 7 (by kernel_rfl)];exact hR
         ·have e101:a1.eval (.tmp 101) = .int .u8 (x:Nat):=hdep ⟨2,.data⟩ (by simp) rfl _ rfl
          have x101:a1.tmps[101]?.getD undef = .int .u8 (x:Nat):=by simpa [Act.eval] using e101
          refine Zab (v:=.int .u32 (x:Nat)) (w':=w1) (by simp [execOp,x101,go_sem,qxw]) ⟨_,rfl,?_,fun j u hu hV _=>⟨hV,trivial,trivial⟩,rfl⟩
          rw [Zaa (by decide)];exact hR
         ·have f16:a1.eval (.tmp 16) = .pointer (some ⟨nb,0,none⟩):=hout 16 (by decide)
          have x16:a1.tmps[16]?.getD undef = .pointer (some ⟨nb,0,none⟩):=by simpa [Act.eval] using f16
          refine Zab (v:=.pointer (some ⟨nb,0,none⟩)) (w':=w1) (by simp [execOp,x16,go_sem]) ⟨_,rfl,?_,fun j u hu hV _=>⟨hV,trivial,trivial⟩,rfl⟩
          rw [Zaa (by decide)];exact hR
         ·have e103:a1.eval (.tmp 103) = .pointer (some ⟨nb,0,none⟩):=hdep ⟨4,.data⟩ (by simp) rfl _ rfl
          have x103:a1.tmps[103]?.getD undef = .pointer (some ⟨nb,0,none⟩):=by simpa [Act.eval] using e103
          rw [hdes 7 (by kernel_rfl)] at hR
          obtain rfl:w1 = W0:=hR.1 rfl
          refine Zab (v:=.int .u8 (c:Nat)) (w':=w1) (by simp [execOp,e103,ldU8h _ _ _ HCC.out]) ⟨_,rfl,?_,fun j u hu hV _=>⟨hV,trivial,trivial⟩,rfl⟩
          rw [Zaa (by decide),hdes 7 (by kernel_rfl)];exact hR
         ·have e104:a1.eval (.tmp 104) = .int .u8 (c:Nat):=hdep ⟨5,.data⟩ (by simp) rfl _ rfl
          have x104:a1.tmps[104]?.getD undef = .int .u8 (c:Nat):=by simpa [Act.eval] using e104
          rw [hdes 7 (by kernel_rfl)] at hR
          obtain rfl:w1 = W0:=hR.1 rfl
          refine Zam (f:=49) (args:=#[.int .u8 (c:Nat)]) (by simp [x104,go_sem]) ((HBT.out w1).mono ?_)
          rintro e w9 ⟨rfl,rfl⟩
          refine ⟨_,rfl,_,rfl,?_,fun j u hu hV _=>⟨hV,trivial,trivial⟩,rfl⟩
          rw [Zaa (by decide),hdes 7 (by kernel_rfl)]
          exact hR
         ·have e99:a1.eval (.tmp 99) = .pointer (some ⟨p,0,none⟩):=hdep ⟨0,.data⟩ (by simp) rfl _ rfl
          have x99:a1.tmps[99]?.getD undef = .pointer (some ⟨p,0,none⟩):=by simpa [Act.eval] using e99
          have e102:a1.eval (.tmp 102) = .int .u32 (x:Nat):=hdep ⟨3,.data⟩ (by simp) rfl _ rfl
          have x102:a1.tmps[102]?.getD undef = .int .u32 (x:Nat):=by simpa [Act.eval] using e102
          have e105:a1.eval (.tmp 105) = .int .i64 (rb:Nat):=hdep ⟨6,.data⟩ (by simp) rfl _ rfl
          have x105:a1.tmps[105]?.getD undef = .int .i64 (rb:Nat):=by simpa [Act.eval] using e105
          rw [hunf] at hR
          obtain rfl:w1 = W0:=hR.1 rfl
          refine Zam (f:=18) (args:=#[.pointer (some ⟨p,0,none⟩),.int .u32 (x:Nat),.int .i64 (rb:Nat)]) (by simp [x99,x102,x105,go_sem]) ((HPT.out).mono ?_)
          rintro e w9 ⟨rfl,ho,hw⟩
          refine ⟨_,rfl,_,rfl,?_,fun j u hu hV _=>⟨hV,trivial,trivial⟩,rfl⟩
          rw [Zad hil]
          exact ⟨fun h=>(by cases h),fun _=>⟨ho,hw⟩⟩
        ·intro listed fv w1 hR hall hV
         rw [hall 7 (by decide)] at hR
         obtain ⟨ho9,hw9⟩:=hR.2 rfl
         simp only [spread,List.contains_cons,List.contains_nil,Nat.reduceBEq,Bool.or_false,Bool.or_true,cond_true,cond_false,Nat.reduceAdd,Nat.zero_add]
         have HO9:=Zh ho9
         have HW9:=Zh hw9
         clear ho9 hw9
         go_wp2
         go_roundw
         case rel=>exact ⟨k + 1,by go_num,by omega,by rw [HS5.out];exact HW9.out.monoP (fun k hk=>(HP3.out k |>.1 hk).1),HFIN2.out w1 HO9.out⟩
         case measure=>simp [intOf];omega
       ·have b6:decide (k < l.length) = false:=by simp;omega
        obtain rfl:k = l.length:=by omega
        rw [List.take_of_length_le (Nat.le_refl _)] at HW11
        have hfin:=HW11.out
        rw [HT.out] at hfin
        have HF:=Zh (hfin.monoP (fun k hk=>(HP1.out k |>.1 (HP2.out k |>.1 hk).1).1))
        have HFO:=Zh ((Only.ofBelow HB5.out:Only P w _).trans ((HOB.out.mono (fun k _ hk=>(HP1.out k |>.1 hk).1)).trans (HO11.out.mono (fun k _ hk=>(HP1.out k |>.1 (HP2.out k |>.1 hk).1).1))))
        clear hfin
        go_wp2
        go_ret
        exact ⟨HFO.out,rfl,HF.out⟩
    -- tail2 ends
theorem Zahs (w:World):Wr (fun b=>w.heap.size <= b) (w.alloc (.cells #[.slice none 0 0,.int .i64 0] 42)) w.heap.size ([],0) :=
 ⟨⟨none,0,World.alloc_heap_new w _,OwnN.nil _ _ _ _,Nat.le_refl _,fun g hg=>(by cases hg),fun b hb=>by simp at hb;omega⟩,⟨rfl,by simp⟩,Nat.zero_le _⟩
def SizeOut (w:World) (T:Wst) (b:Bool) (e:Ending) (w':World):Prop :=
 Below w.heap.size w w' /\ match b with
  | true=>e = .returned (.tuple #[.int .i64 (T.2:Nat),.int .i64 0])
  | false=>e = .returned (.tuple #[.int .i64 0,.int .i64 5])
set_option maxRecDepth 100000 in
theorem Zqq (w:World) (a b:Option Addr) (ca cb:Nat) (f o:List Nat) (h1:RowN .u8 w a ca f) (h2:RowN .u8 w b cb o) (hf:f.length <= 1000) (ho:o.length <= 1000) :
  Calls Tryz.prog 36 #[.slice a f.length ca,.slice b o.length cb] w fun e w'=>SizeOut w (hputW ([],0) f o) (mayH f o) e w':=by
 have hb:=Zav w (.cells #[.slice none 0 0,.int .i64 0] 42)
 have HP:=Zh (Zkn (Zahs w) a b ca cb f o (h1.below hb) (h2.below hb) hf ho (by show 0 + 6000 <= 100000000;decide))
 obtain ⟨T,hT⟩:∃ T,hputW ([],0) f o = T:=⟨_,rfl⟩
 rw [hT] at HP ⊢
 have HB:=Zh hb
 clear h1 h2 hT hb
 have hfin:∀ w',Only (fun b=>w.heap.size <= b) (w.alloc (.cells #[.slice none 0 0,.int .i64 0] 42)) w' -> Below w.heap.size w w':=fun w' h=>Below.only HB.out h (Nat.le_refl _) (fun b hb=>hb)
 have HF:=Zh hfin
 clear hfin
 cases hm:mayH f o with
 | false =>
  rw [hm] at HP
  clear hm
  go_enter Tryz.func36,Tryz.ntmps36
  go_wp2_with fail
  refine HP.out.mono ?_
  rintro e w2 ⟨ho2,rfl,hw2⟩
  have HL:=Zh (Zje hw2)
  have HB2:=Zh (HF.out _ ho2)
  clear ho2 hw2 HP HF
  go_wp2_with (go_at_call 27;refine HL.out.mono ?_;rintro e w' ⟨rfl,rfl⟩)
  go_ret2
  exact ⟨HB2.out,rfl⟩
 | true =>
  rw [hm] at HP
  clear hm
  go_enter Tryz.func36,Tryz.ntmps36
  go_wp2_with fail
  refine HP.out.mono ?_
  rintro e w2 ⟨ho2,rfl,hw2⟩
  have HL:=Zh (Zje hw2)
  have HB2:=Zh (HF.out _ ho2)
  clear ho2 hw2 HP HF
  go_wp2_with (go_at_call 27;refine HL.out.mono ?_;rintro e w' ⟨rfl,rfl⟩)
  go_ret2
  exact ⟨HB2.out,rfl⟩
end Go.Proofs.YtendielanacflaaGreat

namespace Go.Proofs.YtendielanacflaaGreat
open Go.RowKit Go.Shelf M01 M04 M06 M08 M10 M17
attribute [local go_sem] Oper.semAt_some
theorem Zcv {P:Nat -> Prop} {w:World} {p:Nat} {s:Wst} (hW:Wr P w p s) (last:Bool) (k:Nat) (hk:k <= 2) (hs:s.2 + 3 <= 100000000) :
  Calls Tryz.prog 68 #[.pointer (some ⟨p,0,none⟩),.bool last,.int .u32 (k:Nat)] w fun e w'=>e = .returned (.tuple #[]) /\ Only P w w' /\ Wr P w' p (begW s last k):=by
 have HP:=Zh (fun v (hv:v < 2 ^ 3)=>Zau hW v 3 (by decide) hv (by omega))
 clear hW
 have hc:k = 0 \/ k = 1 \/ k = 2:=by omega
 rcases hc with rfl | rfl | rfl <;> cases last
 ·have HC:=Zh (HP.out 0 (by decide))
  have HX:Hid (addNum s 0 3 = begW s false 0):=Zh (by simp [begW])
  rw [HX.out] at HC
  clear HP HX
  go_enter Tryz.func68,Tryz.ntmps68
  go_wp2_with fail
  refine HC.out.mono ?_
  rintro e w1 ⟨rfl,ho,hw⟩
  have HO:=Zh ho
  have HW:=Zh hw
  clear ho hw HC
  go_wp2
  go_end0
  exact ⟨rfl,HO.out,HW.out⟩
 ·have HC:=Zh (HP.out 1 (by decide))
  have HX:Hid (addNum s 1 3 = begW s true 0):=Zh (by simp [begW])
  rw [HX.out] at HC
  clear HP HX
  go_enter Tryz.func68,Tryz.ntmps68
  go_wp2_with fail
  refine HC.out.mono ?_
  rintro e w1 ⟨rfl,ho,hw⟩
  have HO:=Zh ho
  have HW:=Zh hw
  clear ho hw HC
  go_wp2
  go_end0
  exact ⟨rfl,HO.out,HW.out⟩
 ·have HC:=Zh (HP.out 2 (by decide))
  have HX:Hid (addNum s 2 3 = begW s false 1):=Zh (by simp [begW])
  rw [HX.out] at HC
  clear HP HX
  go_enter Tryz.func68,Tryz.ntmps68
  go_wp2_with fail
  refine HC.out.mono ?_
  rintro e w1 ⟨rfl,ho,hw⟩
  have HO:=Zh ho
  have HW:=Zh hw
  clear ho hw HC
  go_wp2
  go_end0
  exact ⟨rfl,HO.out,HW.out⟩
 ·have HC:=Zh (HP.out 3 (by decide))
  have HX:Hid (addNum s 3 3 = begW s true 1):=Zh (by simp [begW])
  rw [HX.out] at HC
  clear HP HX
  go_enter Tryz.func68,Tryz.ntmps68
  go_wp2_with fail
  refine HC.out.mono ?_
  rintro e w1 ⟨rfl,ho,hw⟩
  have HO:=Zh ho
  have HW:=Zh hw
  clear ho hw HC
  go_wp2
  go_end0
  exact ⟨rfl,HO.out,HW.out⟩
 ·have HC:=Zh (HP.out 4 (by decide))
  have HX:Hid (addNum s 4 3 = begW s false 2):=Zh (by simp [begW])
  rw [HX.out] at HC
  clear HP HX
  go_enter Tryz.func68,Tryz.ntmps68
  go_wp2_with fail
  refine HC.out.mono ?_
  rintro e w1 ⟨rfl,ho,hw⟩
  have HO:=Zh ho
  have HW:=Zh hw
  clear ho hw HC
  go_wp2
  go_end0
  exact ⟨rfl,HO.out,HW.out⟩
 ·have HC:=Zh (HP.out 5 (by decide))
  have HX:Hid (addNum s 5 3 = begW s true 2):=Zh (by simp [begW])
  rw [HX.out] at HC
  clear HP HX
  go_enter Tryz.func68,Tryz.ntmps68
  go_wp2_with fail
  refine HC.out.mono ?_
  rintro e w1 ⟨rfl,ho,hw⟩
  have HO:=Zh ho
  have HW:=Zh hw
  clear ho hw HC
  go_wp2
  go_end0
  exact ⟨rfl,HO.out,HW.out⟩
set_option maxRecDepth 100000 in
set_option maxHeartbeats 3200000 in
theorem Zhj {P:Nat -> Prop} {w:World} {p:Nat} {st:Wst} (hW:Wr P w p st) (a a1 a2:Option Addr) (cap c1 c2:Nat) (l:List Tok) (l1 l2:List Nat) (hr:RowS encT w a cap l) (hby:∀ t ∈ l,t.byte < 256)
  (hQ:∀ x,0 < l.length -> a = some x -> ¬ P x.block) (hQ2:∀ x,0 < l.length -> a = some x -> x.block < w.heap.size) (r1:RowN .u8 w a1 c1 l1) (r2:RowN .u8 w a2 c2 l2) (h1:(wordsE l1).2 = 0) (h2:(wordsE l2).2 = 0) (hl:l.length <= 1100) (hst:st.2 <= 10000000) :
  Calls Tryz.prog 107 #[.pointer (some ⟨p,0,none⟩),.slice a l.length cap,.slice a1 l1.length c1,.slice a2 l2.length c2] w fun e w' =>
   e = .returned (.tuple #[]) /\ Only P w w' /\ Wr P w' p (addSymE l1 (layTo l1 l2 st l) 256):=by
 have HM1:=Zh (Zdv h1)
 have HM2:=Zh (Zdv h2)
 have HN1:=Zh (Zcd a1 c1 l1 w r1)
 simp only [if_pos h1] at HN1
 have HN2:=Zh (fun w' (h:RowN .u8 w' a2 c2 l2)=>Zcd a2 c2 l2 w' h)
 simp only [if_pos h2] at HN2
 have HW:=Zh hW
 have HR:=Zh hr
 have HBY:=Zh hby
 have HQ:=Zh hQ
 have HQ2:=Zh hQ2
 have HR2:=Zh r2
 have HST:=Zh hst
 clear hW hr hby hQ hQ2 r1 r2 h1 h2 hst
 go_enter Tryz.func107,Tryz.ntmps107
 go_wp2_with fail
 refine HN1.out.mono ?_
 rintro e w1 ⟨hb1,t1,rfl,tb1⟩
 have HB1:=Zh hb1
 have HT1:=Zh tb1
 clear HN1 hb1 tb1
 go_wp2_with fail
 refine (HN2.out w1 (HR2.out.below HB1.out)).mono ?_
 rintro e w2 ⟨hb2,t2,rfl,tb2⟩
 have HB2:=Zh (HB1.out.trans (hb2.mono HB1.out.size))
 have HW2:=Zh (HW.out.narrow HB2.out)
 have HR3:=Zh (HR.out.below HB2.out)
 have hz1:=HB1.out.size
 have hz2:=hb2.size
 have HT12:=Zh ((HT1.out.below hb2).widen (Nat.le_refl _) hz2 (Nat.le_refl _))
 have HT22:=Zh (tb2.widen hz1 (Nat.le_refl _) (Nat.le_refl _))
 have HQ3:Hid (∀ x,0 < l.length -> a = some x -> ¬ Sub P w.heap.size w2.heap.size x.block):=fun x h0 hx h=>HQ.out x h0 hx h.1
 have HQ4:Hid (∀ x,0 < l.length -> a = some x -> x.block < w2.heap.size):=fun x h0 hx=>by have:=HQ2.out x h0 hx;omega
 have HP2:Hid (∀ b,w.heap.size <= b -> b < w2.heap.size -> ¬ Sub P w.heap.size w2.heap.size b):=fun b g1 g2 h=>h.2 ⟨g1,g2⟩
 have HWD:Hid (∀ A st',Only (Sub P w.heap.size w2.heap.size) w2 A -> Wr (Sub P w.heap.size w2.heap.size) A p st' -> Only P w A /\ Wr P A p st'):=fun A st' g1 g2=>⟨(Only.ofBelow HB2.out).trans g1.widen,g2.widen⟩
 generalize Sub P w.heap.size w2.heap.size = Q at *
 generalize w.heap.size = lo at *
 clear HB1 HT1 tb2 hb2 HW HR HQ HQ2 HR2 HN2 hz1 hz2
 obtain ⟨hi,hhi⟩:∃ hi,w2.heap.size = hi:=⟨_,rfl⟩
 rw [hhi] at HT12 HT22 HP2
 clear hhi HB2
 go_wp2_with fail
 go_loopw [30] (fun c A=>∃ k:Nat,k <= l.length /\ c = .int .i64 (k:Nat) /\ Only Q w2 A /\ Wr Q A p (layTo l1 l2 st (l.take k))) (fun c _=>l.length - (intOf c).toNat)
 case atStart=>exact ⟨0,by omega,rfl,Only.refl _ _,HW2.out⟩
 case round =>
  clear HW2
  obtain ⟨k,hk,rfl,ho,hw⟩:=hrel
  have HO:=Zh ho
  have HW:=Zh hw
  have HTA:=Zh (HT12.out.only ho HP2.out)
  have HTB:=Zh (HT22.out.only ho HP2.out)
  have hll:=Zxy HM1.out.1.1 HM2.out.1.1 (l.take k) st
  rw [List.length_take] at hll
  have hs1:(layTo l1 l2 st (l.take k)).2 <= 20000000:=by have:=HST.out;omega
  clear ho hw hll
  by_cases hlt:k < l.length
  ·have HSN:=Zh (Zuw l1 l2 st l k hlt)
   have hrA:=HR3.out.same HO.out.size (fun x h0 hx=>HO.out.block x.block (HQ4.out x h0 hx) (HQ3.out x h0 hx))
   obtain ⟨b,off,rfl,hbb,hcells⟩:=hrA.at hlt
   have HBB:=Zh (HQ4.out _ (by omega) rfl)
   have HQB:=Zh (HQ3.out _ (by omega) rfl)
   have htb:=HBY.out _ (List.getElem_mem hlt)
   generalize l[k] = t at *
   have e0:=hcells 0 (.int .i64 t.len) rfl
   have e1:=hcells 1 (.int .i64 t.dist) rfl
   have e2:=hcells 2 (.int .u8 (t.byte:Nat)) rfl
   rw [show off + (k * encT.sz + 0) = off + k * 3 by show off + (k * 3 + 0) = _;omega] at e0
   rw [show off + (k * encT.sz + 1) = off + k * 3 + 1 by show off + (k * 3 + 1) = _;omega] at e1
   rw [show off + (k * encT.sz + 2) = off + k * 3 + 2 by show off + (k * 3 + 2) = _;omega] at e2
   have q3:(0:Int) <= (k:Int):=by omega
   have q4:(k:Int) < (l.length:Int):=by omega
   clear hcells hrA hbb
   generalize layTo l1 l2 st (l.take k) = st0 at *
   have hbx:=Zai wr (.cells #[.int .i64 t.len,.int .i64 t.dist,.int .u8 (t.byte:Nat)] 40)
   have htc:=World.alloc_heap_new wr (.cells #[.int .i64 t.len,.int .i64 t.dist,.int .u8 (t.byte:Nat)] 40)
   have hsx:wr.heap.size < (wr.alloc (.cells #[.int .i64 t.len,.int .i64 t.dist,.int .u8 (t.byte:Nat)] 40)).heap.size:=by simp
   have HO0:=Zh (HO.out.trans (Only.ofBelow hbx))
   have HWX:=Zh (HW.out.narrow hbx)
   have HTA1:=Zh (HTA.out.below hbx)
   have HTB1:=Zh (HTB.out.below hbx)
   have HPX:Hid (∀ b,lo <= b -> b < hi -> ¬ Sub Q wr.heap.size (wr.alloc (.cells #[.int .i64 t.len,.int .i64 t.dist,.int .u8 (t.byte:Nat)] 40)).heap.size b):=fun b g1 g2 h=>HP2.out b g1 g2 h.1
   have HTC:Hid (∀ A,Only (Sub Q wr.heap.size (wr.alloc (.cells #[.int .i64 t.len,.int .i64 t.dist,.int .u8 (t.byte:Nat)] 40)).heap.size) (wr.alloc (.cells #[.int .i64 t.len,.int .i64 t.dist,.int .u8 (t.byte:Nat)] 40)) A -> A.cell? ⟨wr.heap.size,1,none⟩ = some (.int .i64 t.dist)):=fun A hA=>by
    have g:=(hA.block wr.heap.size hsx (fun h=>h.2 ⟨Nat.le_refl _,hsx⟩)).trans htc
    exact (cells3 g).2.1
   have HWDX:Hid (∀ A st',Only (Sub Q wr.heap.size (wr.alloc (.cells #[.int .i64 t.len,.int .i64 t.dist,.int .u8 (t.byte:Nat)] 40)).heap.size) (wr.alloc (.cells #[.int .i64 t.len,.int .i64 t.dist,.int .u8 (t.byte:Nat)] 40)) A -> Wr (Sub Q wr.heap.size (wr.alloc (.cells #[.int .i64 t.len,.int .i64 t.dist,.int .u8 (t.byte:Nat)] 40)).heap.size) A p st' -> Only Q w2 A /\ Wr Q A p st'):=fun A st' g1 g2=>⟨HO0.out.trans g1.widen,g2.widen⟩
   clear hbx htc hsx HO HW HTA HTB
   by_cases h0:t.len = 0
   ·have t0:(t.len == 0) = true:=by simpa using h0
    have HC:=Zh (Zcg HTA1.out HWX.out HPX.out HM1.out.1.1 HM1.out.2 t.byte (by omega))
    have HX:Hid (addSymE l1 st0 t.byte = layTo l1 l2 st (l.take (k + 1))):=by unfold Hid;rw [HSN.out];unfold layTok;rw [if_pos h0]
    rw [HX.out] at HC
    clear h0 HSN HX HTA1 HTB1 HWX HTC
    go_wp2_with fail
    refine HC.out.mono ?_
    rintro e w3 ⟨cc,rfl,ho3,hw3⟩
    have HO3:=Zh (HWDX.out _ _ ho3 hw3)
    clear ho3 hw3 HC HO0
    go_wp2
    go_roundw
    case rel=>exact ⟨k + 1,by omega,by go_num,HO3.out.1,HO3.out.2⟩
    case measure=>simp [intOf];omega
   ·have t0:(t.len == 0) = false:=by simpa using h0
    have HX:Hid (addNum (addSymE l2 (addNum (addSymE l1 st0 (lenS t.len)) (lenX t.len) (lenB t.len)) (dstS t.dist)) (dstX t.dist) (dstB t.dist) = layTo l1 l2 st (l.take (k + 1))):=by unfold Hid;rw [HSN.out];unfold layTok;rw [if_neg h0]
    obtain ⟨hx1,hx2⟩:=Zqw t.len
    obtain ⟨hy1,hy2⟩:=Zqj t.dist
    have HL:=Zh (fun A=>Zcm t.len A)
    have HD:=Zh (fun A=>Zbt t.dist A)
    clear h0 HSN
    generalize lenS t.len = s5 at *
    generalize lenX t.len = x5 at *
    generalize lenB t.len = n5 at *
    generalize lenE t.len = ee5 at *
    generalize dstS t.dist = s6 at *
    generalize dstX t.dist = x6 at *
    generalize dstB t.dist = n6 at *
    generalize dstE t.dist = ee6 at *
    have hp5:2 ^ n5 <= 2 ^ 5:=Nat.pow_le_pow_right (by decide) hx2
    have hp6:2 ^ n6 <= 2 ^ 13:=Nat.pow_le_pow_right (by decide) hy2
    have hx32:IntKind.u32.wrap (x5:Int) = (x5:Int):=by simp [IntKind.wrap,IntKind.bits,IntKind.signed];omega
    have hy32:IntKind.u32.wrap (x6:Int) = (x6:Int):=by simp [IntKind.wrap,IntKind.bits,IntKind.signed];omega
    have hx64:x5 < 4294967296:=by omega
    have hy64:x6 < 4294967296:=by omega
    have HX1:=Zh hx1
    have HY1:=Zh hy1
    clear hp5 hp6 hx1 hy1
    have hs2:=Zda HM1.out.1.1 st0 s5
    go_wp2_with fail
    refine (HL.out _).mono ?_
    rintro e w3 ⟨rfl,hb3⟩
    have HO3:=Zh (Only.ofBelow (T:=Sub Q wr.heap.size (wr.alloc (.cells #[.int .i64 t.len,.int .i64 t.dist,.int .u8 (t.byte:Nat)] 40)).heap.size) hb3)
    have HW3:=Zh (HWX.out.below hb3)
    have HC:=Zh (Zcg (HTA1.out.only HO3.out HPX.out) HW3.out HPX.out HM1.out.1.1 HM1.out.2 s5 (by omega))
    clear hb3 HL HWX HW3
    go_wp2_with fail
    refine HC.out.mono ?_
    rintro e w4 ⟨cc,rfl,ho4,hw4⟩
    have HO4:=Zh (HO3.out.trans ho4)
    have HC2:=Zh (Zau hw4 x5 n5 (by omega) HX1.out (by omega))
    have hl3:=Zac (addSymE l1 st0 s5) x5 n5
    clear ho4 hw4 HC HO3
    generalize addNum (addSymE l1 st0 s5) x5 n5 = st1 at *
    go_wp2_with fail
    refine HC2.out.mono ?_
    rintro e w5 ⟨rfl,ho5,hw5⟩
    have HO5:=Zh (HO4.out.trans ho5)
    have HW5:=Zh hw5
    have f1:=HTC.out w5 HO5.out
    clear ho5 hw5 HC2 HO4
    go_wp2_with fail
    refine (HD.out _).mono ?_
    rintro e w6 ⟨rfl,hb6⟩
    have HO6:=Zh (HO5.out.trans (Only.ofBelow hb6))
    have HW6:=Zh (HW5.out.below hb6)
    have HC3:=Zh (Zcg (HTB1.out.only HO6.out HPX.out) HW6.out HPX.out HM2.out.1.1 HM2.out.2 s6 (by omega))
    have hs4:=Zda HM2.out.1.1 st1 s6
    clear hb6 HD HO5 HW5 HW6 f1
    go_wp2_with fail
    refine HC3.out.mono ?_
    rintro e w7 ⟨cc2,rfl,ho7,hw7⟩
    have HO7:=Zh (HO6.out.trans ho7)
    have HC4:=Zh (Zau hw7 x6 n6 (by omega) HY1.out (by omega))
    rw [HX.out] at HC4
    clear ho7 hw7 HC3 HO6
    go_wp2_with fail
    refine HC4.out.mono ?_
    rintro e w8 ⟨rfl,ho8,hw8⟩
    have HO8:=Zh (HWDX.out _ _ (HO7.out.trans ho8) hw8)
    clear ho8 hw8 HC4 HO7 hs2 hl3 hs4
    go_wp2
    go_roundw
    case rel=>exact ⟨k + 1,by omega,by go_num,HO8.out.1,HO8.out.2⟩
    case measure=>simp [intOf];omega
  ·have htk:l.take k = l:=List.take_of_length_le (by omega)
   rw [htk] at HW hs1
   have HC:=Zh (Zcg HTA.out HW.out HP2.out HM1.out.1.1 HM1.out.2 256 (by omega))
   clear HTA HTB HW htk
   go_wp2_with fail
   refine (show Calls Tryz.prog 42 #[.pointer (some ⟨t1,0,none⟩),.pointer (some ⟨p,0,none⟩),.int .i64 256] wr _ from HC.out).mono ?_
   rintro e w3 ⟨cc,rfl,ho3,hw3⟩
   have HO3:=Zh (HWD.out _ _ (HO.out.trans ho3) hw3)
   clear ho3 hw3 HC HO
   go_wp2
   go_end0
   exact ⟨rfl,HO3.out.1,HO3.out.2⟩
end Go.Proofs.YtendielanacflaaGreat

namespace Go.Proofs.YtendielanacflaaGreat.M10
open Go.RowKit Go.Shelf M01 M04 M06 M08 M09 M17
def tailW (s:Wst) (x:List Nat):Wst:=(s.1 ++ x,8 * (s.1 ++ x).length)
theorem Zaai {s:Wst} (h:WG s) (x:List Nat) (hx:∀ c ∈ x,c < 256):WG (tailW s x) /\ ExtW s (tailW s x):=by
 have h1:=h.1.1
 refine ⟨⟨⟨?_,?_⟩,fun i hi=>Zqa _ i hi⟩,?_,?_⟩
 ·show (s.1 ++ x).length = (8 * (s.1 ++ x).length + 7) / 8;omega
 ·intro c hc
  rcases List.mem_append.1 hc with hc | hc
  ·exact h.1.2 c hc
  ·exact hx c hc
 ·show s.2 <= 8 * (s.1 ++ x).length
  rw [List.length_append];omega
 ·intro i hi
  show bit (s.1 ++ x) i = bit s.1 i
  unfold bit
  rw [List.getD_eq_getElem?_getD,List.getElem?_append_left (by omega),<- List.getD_eq_getElem?_getD]
theorem Zlj {s:Wst} (h:WG s):(s.2 + 7) / 8 = s.1.length:=h.1.1.symm
def HasW (l1 l2:List Nat) (l:List Tok):Prop:=(∀ t ∈ l,tokOk t) /\ (∀ t ∈ l,t.byte < 256) /\ ∀ r ∈ useU l,lensOf l1 l2 r ≠ 0
theorem HasW.toks {l1 l2:List Nat} {l:List Tok} (h:HasW l1 l2 l):l1.getD 256 0 ≠ 0 /\ ∀ x ∈ l,tokOk x /\ x.byte < 256 /\ ∀ r ∈ tokU x,lensOf l1 l2 r ≠ 0:=by
 obtain ⟨h1,h2,h3⟩:=h
 rw [Zhe l h1] at h3
 refine ⟨h3 endU (List.mem_append_right _ (List.mem_singleton_self _)),fun x hx=>⟨h1 x hx,h2 x hx,fun r hr=>h3 r (List.mem_append_left _ (List.mem_flatMap.2 ⟨x,hx,hr⟩))⟩⟩
theorem Zib {s:Wst} (h:WG s) (l1 l2:List Nat) (l:List Tok):WG (layBlk l1 l2 s l) /\ ExtW s (layBlk l1 l2 s l):=by
 have h1:=Zjb l1 l2 l h
 have h2:=Zbh h1.1 l1 256
 exact ⟨h2.1,h1.2.trans h2.2⟩
theorem Zxk {s t:Wst} (h:WG s) (hk:WG t) (last:Bool) (l:List Tok) (hc:Cod fixF fixD) (hw:HasW fixF fixD l) (ht:ExtW (layBlk fixF fixD (begW s last 1) l) t) (out out':List Nat) (he:expL out l = some out') (g:Nat -> List Nat -> Option (Nat × List Nat)) :
  inflStep t.1 g s.2 out = if last = true then some ((layBlk fixF fixD (begW s last 1) l).2,out') else g (layBlk fixF fixD (begW s last 1) l).2 out':=by
 have hb:=Zcn h last 1
 have hg:=Zib hb.1 fixF fixD l
 rw [Zlp h hk last 1 (by decide) (hg.2.trans ht) g out]
 have:blkK 1 t.1 (begW s last 1).2 out = some ((layBlk fixF fixD (begW s last 1) l).2,out'):=by
  unfold blkK
  rw [if_neg (by decide),if_pos rfl]
  exact Zps hc hb.1 hk hw.toks.1 l hw.toks.2 out out' ht he
 rw [this]
theorem Zxg {s t:Wst} (h:WG s) (hk:WG t) (last:Bool) (l:List Tok) (F O:List Nat) (hm:mayH F O = true) (hc:Cod F O) (hw:HasW F O l) (ht:ExtW (layBlk F O (hputW (begW s last 2) F O) l) t) (out out':List Nat) (he:expL out l = some out') (g:Nat -> List Nat -> Option (Nat × List Nat)) :
  inflStep t.1 g s.2 out = if last = true then some ((layBlk F O (hputW (begW s last 2) F O) l).2,out') else g (layBlk F O (hputW (begW s last 2) F O) l).2 out':=by
 have hb:=Zcn h last 2
 have hh:=Zqr hb.1 F O
 have hg:=Zib hh.1 F O l
 rw [Zlp h hk last 2 (by decide) (hh.2.trans (hg.2.trans ht)) g out]
 have:blkK 2 t.1 (begW s last 2).2 out = some ((layBlk F O (hputW (begW s last 2) F O) l).2,out'):=by
  unfold blkK
  rw [if_neg (by decide),if_neg (by decide),if_pos rfl]
  unfold dynB
  rw [Zace hb.1 hk F O hm (hg.2.trans ht)]
  exact Zps hc hh.1 hk hw.toks.1 l hw.toks.2 out out' ht he
 rw [this]
theorem Zpl {s t:Wst} (h:WG s) (hk:WG t) (last:Bool) (b:List Nat) (hn:b.length <= 65535) (hb:∀ x ∈ b,x < 256) (ht:ExtW (stoBlk (begW s last 0) b) t) (out:List Nat) (g:Nat -> List Nat -> Option (Nat × List Nat)) :
  inflStep t.1 g s.2 out = if last = true then some ((stoBlk (begW s last 0) b).2,out ++ b) else g (stoBlk (begW s last 0) b).2 (out ++ b):=by
 have hbg:=Zcn h last 0
 have hg:=Zto hbg.1 b
 rw [Zlp h hk last 0 (by decide) (hg.2.1.trans ht) g out]
 have:blkK 0 t.1 (begW s last 0).2 out = some ((stoBlk (begW s last 0) b).2,out ++ b):=by
  unfold blkK
  rw [if_pos rfl]
  exact Zaeb hbg.1 hk b hn hb ht out
 rw [this]
theorem codFix:Cod fixF fixD:=⟨by decide +kernel,by decide +kernel,by decide +kernel,by decide +kernel,by decide +kernel,by decide +kernel⟩
theorem fixHas {l:List Tok} (h:∀ t ∈ l,tokOk t) (hb:∀ t ∈ l,t.byte < 256):HasW fixF fixD l:=by
 have p1:∀ s,s < 286 -> fixF.getD s 0 ≠ 0:=by decide +kernel
 have p2:∀ s,s < 30 -> fixD.getD s 0 ≠ 0:=by decide +kernel
 refine ⟨h,hb,fun r hr=>?_⟩
 obtain ⟨h1,h2,h3⟩:=M17.Zde l h hb r hr
 unfold lensOf
 cases hf:r.far with
 | false=>rw [hf] at h3;simp only [Bool.false_eq_true,if_false] at h3 ⊢;exact p1 _ h3
 | true=>rw [hf] at h3;simp only [if_true] at h3 ⊢;exact p2 _ h3
end Go.Proofs.YtendielanacflaaGreat.M10

namespace Go.Proofs.YtendielanacflaaGreat.M17
def align (x:Nat):Nat:=(x + 7) / 8 * 8
def st (n at_:Nat):Nat:=if n <= 65535 then align (at_ + 3) + 32 + 8 * n else st (n - 65535) (align (at_ + 3) + 32 + 8 * 65535)
termination_by n
decreasing_by omega
def ev (at_:Nat):Nat -> Nat
 | 0=>at_
 | i + 1=>align (ev at_ i + 3) + 32 + 8 * 65535
theorem Zabs (at_ i:Nat):ev (align (at_ + 3) + 32 + 8 * 65535) i = ev at_ (i + 1):=by
 induction i with
 | zero=>rfl
 | succ i ih=>simp only [ev] at *;rw [ih]
theorem Zaiu (b:Nat):∀ n at_,(n + 65534) / 65535 = b + 1 -> st n at_ = align (ev at_ b + 3) + 32 + 8 * (n - 65535 * b):=by
 induction b with
 | zero =>
  intro n at_ h
  rw [st,if_pos (by omega)]
  simp [ev]
 | succ b ih =>
  intro n at_ h
  rw [st,if_neg (by omega),ih (n - 65535) _ (by omega),Zabs]
  have:n - 65535 - 65535 * b = n - 65535 * (b + 1):=by omega
  rw [this]
theorem Zaha (at_:Nat):st 0 at_ = align (at_ + 3) + 32:=by rw [st,if_pos (by omega)]
theorem Zht (x:Nat):x <= align x /\ align x <= x + 7 /\ align x % 8 = 0:=by unfold align;omega
theorem Zkc (n:Nat):∀ at_,at_ + 8 * n + 35 <= st n at_ /\ st n at_ <= at_ + 8 * n + 42 * (n / 65535 + 1) /\ st n at_ % 8 = 0:=by
 induction n using Nat.strongRecOn with
 | _ n ih =>
  intro at_
  have ha:=Zht (at_ + 3)
  rw [st]
  split
  ·omega
  ·have:=ih (n - 65535) (by omega) (align (at_ + 3) + 32 + 8 * 65535)
   have h1:n / 65535 = (n - 65535) / 65535 + 1:=by omega
   rw [h1]
   omega
end Go.Proofs.YtendielanacflaaGreat.M17

namespace Go.Proofs.YtendielanacflaaGreat
open Go.RowKit Go.Shelf M04
attribute [local go_sem] Oper.semAt_some
def cutZ (l:List Nat) (least:Nat):Nat -> Nat
 | 0=>0
 | n + 1=>if least < n + 1 /\ l.getD n 0 = 0 then cutZ l least n else n + 1
theorem Zlv (l:List Nat) (least n:Nat):cutZ l least n <= n:=by
 induction n with
 | zero=>exact Nat.le_refl _
 | succ n ih=>unfold cutZ;split <;> omega
theorem Zwz (l:List Nat) (least n:Nat) (h:least <= n):least <= cutZ l least n:=by
 induction n with
 | zero=>omega
 | succ n ih=>unfold cutZ;split <;> omega
theorem Zxa (l:List Nat) (least n k:Nat) (h:cutZ l least n <= k) (hk:k < n):l.getD k 0 = 0:=by
 induction n with
 | zero=>omega
 | succ n ih =>
  unfold cutZ at h
  split at h
  ·next hc =>
   by_cases e:k = n
   ·subst e;exact hc.2
   ·exact ih h (by omega)
  ·omega
set_option maxRecDepth 100000 in
theorem Zsi (w:World) (a:Option Addr) (cap:Nat) (l:List Nat) (least:Nat) (hr:RowN .u8 w a cap l) (hl:l.length <= 1000) :
  Calls Tryz.prog 72 #[.slice a l.length cap,.int .i64 (least:Nat)] w fun e w'=>e = .returned (.slice a (cutZ l least l.length) cap) /\ w' = w:=by
 have HR:=Zh hr
 obtain ⟨N,hN⟩:∃ N,cutZ l least l.length = N:=⟨_,rfl⟩
 rw [hN]
 have HN:=Zh hN
 have hcap:=hr.1
 clear hr hN
 go_enter Tryz.func72,Tryz.ntmps72
 go_wp2
 go_loopw [0] (fun x A=>∃ k,x = .slice a k cap /\ k <= l.length /\ cutZ l least k = N /\ A = w) (fun x _=>match x with | .slice _ k _=>k | _=>0)
 case atStart=>exact ⟨l.length,rfl,Nat.le_refl _,HN.out,rfl⟩
 case round =>
  obtain ⟨k,rfl,hk,hcut,rfl⟩:=hrel
  by_cases h4:least < k
  ·have b1:decide (least < k) = true:=by simp;omega
   obtain ⟨j,rfl⟩:∃ j,k = j + 1:=⟨k - 1,by omega⟩
   obtain ⟨bb,off,rfl,_,hck⟩:=HR.out.at (show j < l.length by omega)
   have hgd:l.getD j 0 = l[j]'(by omega):=by rw [List.getD_eq_getElem?_getD,List.getElem?_eq_getElem (by omega)];rfl
   unfold cutZ at hcut
   rw [hgd] at hcut
   generalize l[j]'(by omega) = v at *
   obtain ⟨j1,hj1⟩:∃ j1,j + 1 = j1:=⟨_,rfl⟩
   have qj:(j1:Int) - 1 = (j:Int):=by omega
   have qjw:IntKind.i64.wrap (j:Int) = (j:Int):=IntWalk.i64_in _ (by omega)
   have qjl:(j:Int) < (j1:Int):=by omega
   simp only [hj1] at b1 hcut h4 hk
   simp only [hj1]
   have hsl:=cutU8 bb off j j1 cap (by omega)
   by_cases hv0:v = 0
   ·rw [if_pos ⟨h4,hv0⟩] at hcut
    have HC:=Zh hcut
    have bv:((v:Int) == 0) = true:=by simp [hv0]
    have hjj:j < j1:=by omega
    clear hv0 hcut hgd
    go_wp2_with fail
    go_roundw
    case rel=>exact ⟨j,rfl,by omega,HC.out,(by first | rfl | trivial)⟩
    case measure=>exact hjj
   ·rw [if_neg (fun h=>hv0 h.2)] at hcut
    have bv:((v:Int) == 0) = false:=beq_eq_false_iff_ne.2 (by omega)
    obtain rfl:N = j1:=by omega
    clear hv0 hcut hgd
    go_wp2
    go_ret
    exact ⟨rfl,rfl⟩
  ·have b1:decide (least < k) = false:=by simp;omega
   obtain rfl:N = k:=by
    cases k with
    | zero=>exact hcut.symm
    | succ k=>unfold cutZ at hcut;rw [if_neg (fun h=>h4 h.1)] at hcut;exact hcut.symm
   go_wp2
   go_ret
   exact ⟨rfl,rfl⟩
end Go.Proofs.YtendielanacflaaGreat

namespace Go.Proofs.YtendielanacflaaGreat
open Go.RowKit Go.Shelf M01 M04 M05 M06 M07 M09 M10
theorem Zln {l:List Nat} {k:Nat} (h:∀ j,k <= j -> j < l.length -> l.getD j 0 = 0):∀ x ∈ l.drop k,x = 0:=by
 intro x hx
 obtain ⟨i,hi,rfl⟩:=List.getElem_of_mem hx
 rw [List.length_drop] at hi
 have:=h (k + i) (by omega) (by omega)
 rw [List.getElem_drop]
 rw [List.getD_eq_getElem?_getD,List.getElem?_eq_getElem (by omega)] at this
 exact this
theorem Zwb (a b:List Nat):weight (a ++ b) = weight a + weight b:=by simp [weight]
theorem Zpx (l:List Nat) (h:∀ x ∈ l,x = 0):weight l = 0:=by
 induction l with
 | nil=>rfl
 | cons x l ih =>
  have hx:=h x (by simp)
  have:=ih (fun y hy=>h y (by simp [hy]))
  subst hx
  unfold weight at this ⊢
  rw [List.map_cons,List.sum_cons,this]
  rfl
theorem Zzy (l:List Nat) (h:∀ x ∈ l,x = 0):l.sum = 0:=by
 induction l with
 | nil=>rfl
 | cons x l ih=>rw [List.sum_cons,ih (fun y hy=>h y (by simp [hy])),h x (by simp)]
theorem Zhf {l:List Nat} {k:Nat} (h:∀ j,k <= j -> j < l.length -> l.getD j 0 = 0):weight (l.take k) = weight l:=by
 have:=Zwb (l.take k) (l.drop k)
 rw [List.take_append_drop,Zpx _ (Zln h)] at this
 omega
theorem Zwm {l:List Nat} {k:Nat} (hm:May l) (h:∀ j,k <= j -> j < l.length -> l.getD j 0 = 0):(clsE (l.take k)).1 = (clsE l).1:=by
 have hm2:May (l.take k):=⟨fun x hx=>hm.1 x (List.mem_of_mem_take hx),by rw [List.length_take];have:=hm.2;omega⟩
 unfold clsE
 rw [if_pos hm,if_pos hm2]
 show cls _ = cls _
 unfold cls
 rw [Zhf h]
theorem Zle {l:List Nat} {k:Nat} (h:∀ j,k <= j -> j < l.length -> l.getD j 0 = 0):singleB (l.take k) = singleB l:=by
 have hz:=Zln h
 have hs:(l.take k).sum = l.sum:=by
  have:=List.sum_append (l₁:=l.take k) (l₂:=l.drop k)
  rw [List.take_append_drop,Zzy _ hz] at this
  omega
 have hall:(∀ x ∈ l.take k,x <= 1) ↔ (∀ x ∈ l,x <= 1):=by
  constructor
  ·intro h1 x hx
   rw [<- List.take_append_drop k l] at hx
   rcases List.mem_append.1 hx with h2 | h2
   ·exact h1 x h2
   ·rw [hz x h2];omega
  ·intro h1 x hx;exact h1 x (List.mem_of_mem_take hx)
 unfold singleB
 rw [hs]
 simp only [hall]
def bestF (f:List Nat):List Nat:=(limL f 15).take (cutZ (limL f 15) 257 (limL f 15).length)
def bestO (o:List Nat):List Nat:=(limL o 15).take (cutZ (limL o 15) 1 (limL o 15).length)
theorem Zdw (l:List Nat) (least:Nat):∀ j,cutZ l least l.length <= j -> j < l.length -> l.getD j 0 = 0:=fun j h1 h2=>Zxa l least l.length j h1 h2
theorem Zun (l:List Nat) (k j:Nat) (h:j < k):(l.take k).getD j 0 = l.getD j 0:=by
 rw [List.getD_eq_getElem?_getD,List.getD_eq_getElem?_getD,List.getElem?_take_of_lt h]
theorem Zlz (l:List Nat) (least j:Nat):(l.take (cutZ l least l.length)).getD j 0 = l.getD j 0:=by
 by_cases h:j < cutZ l least l.length
 ·exact Zun _ _ _ h
 ·rw [List.getD_eq_getElem?_getD,List.getElem?_eq_none (by rw [List.length_take];omega)]
  by_cases h2:j < l.length
  ·exact (Zdw l least j (by omega) h2).symm
  ·rw [List.getD_eq_getElem?_getD,List.getElem?_eq_none (by omega)]
theorem Znh (f:List Nat) (h:257 <= f.length):257 <= (bestF f).length /\ (bestF f).length <= f.length:=by
 unfold bestF
 have h1:=Zwz (limL f 15) 257 (limL f 15).length (by rw [Zas];exact h)
 have h2:=Zlv (limL f 15) 257 (limL f 15).length
 have h3:=Zas f 15
 rw [List.length_take];omega
theorem Zni (o:List Nat) (h:1 <= o.length):1 <= (bestO o).length /\ (bestO o).length <= o.length:=by
 unfold bestO
 have h1:=Zwz (limL o 15) 1 (limL o 15).length (by rw [Zas];exact h)
 have h2:=Zlv (limL o 15) 1 (limL o 15).length
 have h3:=Zas o 15
 rw [List.length_take];omega
theorem Zww (f o:List Nat) (h1:257 <= f.length) (h2:f.length <= 286) (h3:1 <= o.length) (h4:o.length <= 30) (h5:0 < f.getD 256 0):mayH (bestF f) (bestO o) = true:=by
 obtain ⟨f1,f2⟩:=Zcp f h2
 obtain ⟨o1,o2⟩:=Zcp o (by omega)
 have hm:=Zaaz f o h1 h2 h3 h4 h5
 have bf:=Znh f h1
 have bo:=Zni o h3
 have mf:May (limL f 15):=⟨fun x hx=>Nat.le_trans (f1 x hx) (by decide),by rw [Zas];omega⟩
 have mo:May (limL o 15):=⟨fun x hx=>Nat.le_trans (o1 x hx) (by decide),by rw [Zas];omega⟩
 have cf:=Zwm mf (Zdw (limL f 15) 257)
 have co:=Zwm mo (Zdw (limL o 15) 1)
 have sf:=Zle (Zdw (limL f 15) 257)
 have so:=Zle (Zdw (limL o 15) 1)
 have lf:long (bestF f) = false:=by unfold long;simp;intro x hx;exact f1 x (List.mem_of_mem_take hx)
 have lo:long (bestO o) = false:=by unfold long;simp;intro x hx;exact o1 x (List.mem_of_mem_take hx)
 have hz:(bestF f).getD 256 0 = (limL f 15).getD 256 0:=Zlz _ _ _
 unfold mayH at hm ⊢
 simp only [Bool.and_eq_true,decide_eq_true_eq,Bool.or_eq_true,Bool.not_eq_true'] at hm ⊢
 obtain ⟨⟨⟨⟨⟨_,g5⟩,_⟩,_⟩,g8⟩,g9⟩:=hm
 refine ⟨⟨⟨⟨⟨⟨⟨⟨bf.1,by omega⟩,bo.1⟩,by omega⟩,by rw [hz];exact g5⟩,lf⟩,lo⟩,?_⟩,?_⟩
 ·show (clsE (List.take _ _)).1 = 2 \/ singleB (List.take _ _) = true
  rw [cf,sf];exact g8
 ·show ((clsE (List.take _ _)).1 = 2 \/ (clsE (List.take _ _)).1 = 0) \/ singleB (List.take _ _) = true
  rw [co,so];exact g9
end Go.Proofs.YtendielanacflaaGreat

namespace Go.Proofs.YtendielanacflaaGreat
open Go.RowKit Go.Shelf M01 M04 M05 M06 M07 M08 M09 M10 M17
def cntU (far:Bool) (n:Nat) (us:List URow):List Nat:=us.foldl (fun F r=>if r.far = far then F.set r.sym (F.getD r.sym 0 + 1) else F) (List.replicate n 0)
theorem Zno (far:Bool) (n:Nat) (us:List URow) (r:URow):cntU far n (us ++ [r]) = if r.far = far then (cntU far n us).set r.sym ((cntU far n us).getD r.sym 0 + 1) else cntU far n us:=by
 unfold cntU;rw [List.foldl_append];rfl
theorem Znn (far:Bool):∀ (us:List URow) (F:List Nat),(us.foldl (fun F r=>if r.far = far then F.set r.sym (F.getD r.sym 0 + 1) else F) F).length = F.length:=by
 intro us
 induction us with
 | nil=>intro F;rfl
 | cons r us ih =>
  intro F
  rw [List.foldl_cons,ih]
  split
  ·rw [List.length_set]
  ·rfl
theorem Zaj (far:Bool) (n:Nat) (us:List URow):(cntU far n us).length = n:=by unfold cntU;rw [Znn,List.length_replicate]
theorem Znp (far:Bool) (n:Nat) (us:List URow) (i:Nat) (h:i < us.length):cntU far n (us.take (i + 1)) = if us[i].far = far then (cntU far n (us.take i)).set us[i].sym ((cntU far n (us.take i)).getD us[i].sym 0 + 1) else cntU far n (us.take i):=by
 rw [List.take_succ_eq_append_getElem h,Zno]
theorem Zwn (far:Bool) (n:Nat) (us:List URow):∀ i,i <= us.length -> ∀ x ∈ cntU far n (us.take i),x <= i:=by
 intro i
 induction i with
 | zero =>
  intro _ x hx
  have:x ∈ List.replicate n 0:=hx
  have:=List.eq_of_mem_replicate this
  omega
 | succ i ih =>
  intro hi x hx
  have ih:=ih (by omega)
  rw [Znp far n us i (by omega)] at hx
  split at hx
  ·rcases List.mem_or_eq_of_mem_set hx with h | rfl
   ·have:=ih x h;omega
   ·have:=M04.Zat ih us[i].sym;omega
  ·have:=ih x hx;omega
theorem Zwo (far:Bool) (s:Nat):∀ (us:List URow) (F:List Nat),F.getD s 0 <= (us.foldl (fun F r=>if r.far = far then F.set r.sym (F.getD r.sym 0 + 1) else F) F).getD s 0:=by
 intro us
 induction us with
 | nil=>intro F;exact Nat.le_refl _
 | cons r us ih =>
  intro F
  rw [List.foldl_cons]
  refine Nat.le_trans ?_ (ih _)
  split
  ·by_cases h:r.sym = s
   ·subst h
    by_cases hl:r.sym < F.length
    ·rw [List.getD_eq_getElem?_getD (l:=F.set _ _),List.getElem?_set_self hl];show _ <= F.getD r.sym 0 + 1;omega
    ·rw [List.getD_eq_getElem?_getD,List.getElem?_eq_none (by omega)];exact Nat.zero_le _
   ·rw [List.getD_eq_getElem?_getD (l:=F.set _ _),List.getElem?_set_ne h,<- List.getD_eq_getElem?_getD];exact Nat.le_refl _
  ·exact Nat.le_refl _
theorem Zlt (far:Bool) (n:Nat) (us:List URow) (r:URow) (h:r ∈ us) (hf:r.far = far) (hs:r.sym < n):0 < (cntU far n us).getD r.sym 0:=by
 obtain ⟨a,b,rfl⟩:=List.append_of_mem h
 have h1:cntU far n (a ++ r :: b) = b.foldl (fun F r=>if r.far = far then F.set r.sym (F.getD r.sym 0 + 1) else F) (cntU far n (a ++ [r])):=by
  unfold cntU;rw [<- List.foldl_append];simp
 rw [h1]
 refine Nat.lt_of_lt_of_le ?_ (Zwo far r.sym b _)
 rw [Zno,if_pos hf,List.getD_eq_getElem?_getD,List.getElem?_set_self (by rw [Zaj];exact hs)]
 exact Nat.succ_pos _
theorem Zaaq (l:List Tok) (h:∀ t ∈ l,tokOk t):endU ∈ useU l:=by rw [Zhe l h];simp
def codE (l:List Tok):Nat:=if ∀ t ∈ l,tokOk t then 0 else 5
def codF (l:List Tok):List Nat:=bestF (cntU false 286 (useU l))
def codO (l:List Tok):List Nat:=bestO (cntU true 30 (useU l))
theorem Zqd (l:List Tok) (h:∀ t ∈ l,tokOk t):mayH (codF l) (codO l) = true:=by
 refine Zww _ _ ?_ ?_ ?_ ?_ ?_
 ·rw [Zaj];decide
 ·rw [Zaj];decide
 ·rw [Zaj];decide
 ·rw [Zaj];decide
 ·exact Zlt false 286 (useU l) endU (Zaaq l h) rfl (by decide)
theorem Zde (l:List Tok) (hb:∀ t ∈ l,t.byte < 256) (h:∀ t ∈ l,tokOk t):∀ r ∈ useU l,rowOk r:=by
 intro r hr
 rw [Zhe l h] at hr
 rcases List.mem_append.1 hr with h1 | h1
 ·obtain ⟨t,ht,hrt⟩:=List.mem_flatMap.1 h1
  exact Zsa t (h t ht) (hb t ht) r hrt
 ·rw [List.mem_singleton] at h1
  subst h1
  exact ⟨rfl,by decide,by decide⟩
theorem Zye (f:List Nat) (s:Nat) (hl:f.length <= 300) (hs:s < f.length) (h:0 < f.getD s 0):(limL f 15).getD s 0 ≠ 0:=by
 have hr1:=(Zbg f).length_eq
 have hr2:=Zfq f
 rw [Zfv f 15 s hs]
 have:=(Zev f 15 s (by decide) (pow15 _ (by omega)) hs).2
 omega
theorem Zwv (l:List Tok) (hb:∀ t ∈ l,t.byte < 256) (h:∀ t ∈ l,tokOk t):∀ r ∈ useU l,r.err = 0 /\ lensOf (codF l) (codO l) r ≠ 0:=by
 intro r hr
 obtain ⟨h1,h2,h3⟩:=Zde l hb h r hr
 refine ⟨h1,?_⟩
 unfold lensOf
 cases hf:r.far with
 | false =>
  rw [hf] at h3
  simp only [Bool.false_eq_true,if_false] at h3 ⊢
  unfold codF bestF
  rw [Zlz]
  exact Zye _ _ (by rw [Zaj];decide) (by rw [Zaj];exact h3) (Zlt false 286 _ r hr hf h3)
 | true =>
  rw [hf] at h3
  simp only [if_true] at h3 ⊢
  unfold codO bestO
  rw [Zlz]
  exact Zye _ _ (by rw [Zaj];decide) (by rw [Zaj];exact h3) (Zlt true 30 _ r hr hf h3)
theorem Zaae (f o:List Nat):∀ (us:List URow) (n:Nat),(∀ r ∈ us,r.err = 0 /\ lensOf f o r ≠ 0) -> ∃ m,symU f o us n = some m:=by
 intro us
 induction us with
 | nil=>intro n _;exact ⟨n,rfl⟩
 | cons r us ih =>
  intro n h
  obtain ⟨h1,h2⟩:=h r (by simp)
  unfold symU
  rw [if_neg (by simp [h1,h2])]
  exact ih _ (fun r hr=>h r (by simp [hr]))
end Go.Proofs.YtendielanacflaaGreat
