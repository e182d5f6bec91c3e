/- layer 5: the library's stable sort, up to 600 elements: contract. layer 5: limit.rarest and limit.Lengths for up to 600 used symbols: contracts. Printed by gen/lena.py out of Len. The best lengths may be a head's. -/
import Derived.Test.YtendielanacflaaGreatB01
import Derived.Test.YtendielanacflaaGreatB06
import Derived.Test.YtendielanacflaaGreatB08
import Derived.Test.YtendielanacflaaGreatB09
set_option linter.unusedVariables false
set_option linter.unusedSimpArgs false
namespace Go.Proofs.YtendielanacflaaGreat
open Go.RowKit Go.Shelf M04 M05
attribute [local go_sem] Oper.semAt_some
theorem SrtI.self {A0 A:World} {g base cap p fc n:Nat} {fa:Option Addr} {f D:List Nat} (h:SrtI A0 g base cap p fa fc f n D A):SrtI A g base cap p fa fc f n D A:=⟨h.own,h.len,h.mem,.refl _ _,h.cell,h.row⟩
set_option maxRecDepth 100000 in
set_option maxHeartbeats 6400000 in
theorem Zvp (A:World) (g base cap p n:Nat) (fa:Option Addr) (fc:Nat) (f:List Nat) (hI:SrtI A g base cap p fa fc f n (used f) A) (hp:p < base) (hfa:∀ x,0 < f.length -> fa = some x -> x.block < base) (hn:n <= 600) :
  Calls Tryz.prog 146 #[.slice (some ⟨g,0,none⟩) n cap,.int .i64 (n:Nat),.func (.func 119) #[] #[.pointer (some ⟨p,0,none⟩)]] A fun e w'=>e = .returned (.tuple #[]) /\ SrtI A g base cap p fa fc f n (rar f) w':=by
 have HI:=Zh hI
 have hl0:(used f).length = n:=hI.len
 have hd:=Zwa f
 have HINS:=Zh (fun D A' a b (h:SrtI A g base cap p fa fc f n D A') (hab:a <= b) (hb:b <= n)=>(by
  have hD:=h.len
  have:=Zacm A' g base cap p a b fa fc f D (by rw [hD];exact h.self) hp hfa hab (by omega) (by omega)
  rw [hD] at this
  exact this.mono (fun e w' hh=>⟨hh.1,h.after hh.2⟩):Calls Tryz.prog 155 #[.slice (some ⟨g,0,none⟩) n cap,.int .i64 (a:Nat),.int .i64 (b:Nat),.func (.func 119) #[] #[.pointer (some ⟨p,0,none⟩)]] A' fun e w'=>e = .returned (.tuple #[]) /\ SrtI A g base cap p fa fc f n (insS f a b D) w'))
 have HA1:=Zh (fun k D (h:RelA f (used f) k D) hb=>Zzb f (used f) hd k D h hb)
 have HA2:=Zh (fun k D (h:RelA f (used f) k D) h1 hb=>Zadm f (used f) hd k D h h1 hb)
 have HA0:=Zh (Zvi f (used f))
 have HMS:=Zh (fun s k b D A' (h:RelM f (used f) s k D) (hi:SrtI A g base cap p fa fc f n D A') (hs:0 < s) (hm:2 * s * k + s < b) (hb:b <= n) (hb2:b = 2 * s * k + 2 * s \/ b < 2 * s * k + 2 * s /\ b = n)=>(by
  have hD:=hi.len
  obtain ⟨P,L,R,Q,e1,e2,e3,e4,e5,e6,e7,e8⟩:=Zzd f (used f) hd s k b D h hm (by omega) (by rw [hD];exact hb2)
  subst e1
  have:=Zaag A g base cap p n fa fc f hp hfa hn (L.length + R.length) A' P L R Q (Nat.le_refl _) (by omega) (by omega) hi e5 e6 e7
  rw [e4,e2,e3] at this
  refine this.mono ?_
  rintro e w' ⟨h1,M,h2,h3,h4⟩
  exact ⟨h1,_,e8 M h2 h3,h4⟩:Calls Tryz.prog 156 #[.slice (some ⟨g,0,none⟩) n cap,.int .i64 ((2 * s * k:Nat):Int),.int .i64 ((2 * s * k + s:Nat):Int),.int .i64 (b:Nat),.func (.func 119) #[] #[.pointer (some ⟨p,0,none⟩)]] A' fun e w'=>e = .returned (.tuple #[]) /\ ∃ D',RelM f (used f) s (k + 1) D' /\ SrtI A g base cap p fa fc f n D' w'))
 have HM0:=Zh (fun s D (h:D.length = (used f).length) hb=>Zvj f (used f) s D h hb)
 have HME:=Zh (fun s k D (h:RelM f (used f) s k D) hb hl=>Zadn f (used f) s k D h hb hl)
 have HMD:=Zh (fun s k D (h:RelM f (used f) s k D) hl=>Zzc f (used f) s k D h hl)
 have HALL:=Zh (fun s D (hl:D.length = (used f).length) hs h=>Zafu f s D hl hs h)
 have HL0:=Zh hl0
 clear hI hd hl0
 generalize used f = d0 at *
 go_enter Tryz.func146,Tryz.ntmps146
 go_wp2
 go_loopw [7,8] (fun x y A'=>∃ a b k D,x = .int .i64 (a:Nat) /\ y = .int .i64 (b:Nat) /\ a = 20 * k /\ b = a + 20 /\ a <= n /\ RelA f d0 k D /\ SrtI A g base cap p fa fc f n D A') (fun x y _=>1000 - (intOf x).toNat)
 case atStart=>exact ⟨0,20,0,d0,rfl,rfl,rfl,rfl,Nat.zero_le _,HA0.out,HI.out⟩
 case round =>
  clear HI HA0
  obtain ⟨a,b,k,D,rfl,rfl,ha,hb,han,hrA,hs⟩:=hrel
  have HS:=Zh hs
  have HR:=Zh hrA
  have HA:=Zh ha
  have HB:=Zh hb
  have hab:a <= b:=by omega
  have hb9:b <= 1000:=by omega
  clear hs hrA ha hb
  by_cases hbn:b <= n
  ·have b1:decide (b <= n) = true:=by simp;omega
   obtain ⟨b2,hb2⟩:∃ b2,b + 20 = b2:=⟨_,rfl⟩
   have qb2:(b:Int) + 20 = (b2:Int):=by omega
   have HB2:=Zh hb2
   have HC:=Zh (HINS.out D wr a b HS.out hab hbn)
   clear hb2
   go_wp2_with (go_at_call 155;refine HC.out.mono ?_;rintro e w' ⟨rfl,hs⟩;have HS2:=Zh hs;clear hs)
   go_roundw
   case rel=>exact ⟨b,b2,k + 1,_,rfl,rfl,by have:=HA.out;have:=HB.out;omega,HB2.out.symm,hbn,HA1.out k D HR.out (by have:=HA.out;have:=HB.out;have:=HS.out.len;omega),by have h:=HS2.out;rw [HB.out,HA.out] at h;exact h⟩
   case measure=>simp [intOf];have:=HB.out;omega
  ·have b1:decide (b <= n) = false:=by simp;omega
   have HC:=Zh (HINS.out D wr a n HS.out han (Nat.le_refl _))
   have hend:=HA2.out k D HR.out (by have:=HA.out;have:=HS.out.len;omega) (by have:=HA.out;have:=HB.out;have:=HS.out.len;omega)
   rw [HS.out.len,<- HA.out] at hend
   have HE:=Zh hend
   clear hend hbn
   go_wp2_with (go_at_call 155;refine HC.out.mono ?_;rintro e w' ⟨rfl,hs⟩;have HS2:=Zh hs;clear hs)
   go_loopw [6,7,8,9] (fun x _ _ _ A'=>∃ s D,x = .int .i64 (s:Nat) /\ 20 <= s /\ s <= 1200 /\ D.length = d0.length /\ (∀ j,Blk f d0 s D j) /\ SrtI A g base cap p fa fc f n D A') (fun x _ _ _ _=>2000 - (intOf x).toNat)
   case atStart=>exact ⟨20,_,rfl,Nat.le_refl _,by decide,HE.out.1,HE.out.2,HS2.out⟩
   case round =>
    clear HS2 HE HS HR HC
    obtain ⟨s,D,rfl,hs20,hs12,hDl,hblk,hs⟩:=hrel
    have HS:=Zh hs
    have HBK:=Zh hblk
    have HDL:=Zh hDl
    clear hs hblk hDl
    by_cases hsn:s < n
    ·have b2:decide (s < n) = true:=by simp;omega
     obtain ⟨s2,hs2⟩:∃ s2,2 * s = s2:=⟨_,rfl⟩
     have qs2:2 * (s:Int) = (s2:Int):=by omega
     have qs2':(s:Int) * 2 = (s2:Int):=by omega
     have HS2:=Zh hs2
     have hs2b:s2 <= 1200:=by omega
     have hs2c:s < s2:=by omega
     clear hs2
     go_wp2
     go_loopw [7,8] (fun x y A'=>∃ a b k D,x = .int .i64 (a:Nat) /\ y = .int .i64 (b:Nat) /\ a = 2 * s * k /\ b = a + s2 /\ a <= n /\ RelM f d0 s k D /\ SrtI A g base cap p fa fc f n D A') (fun x y _=>1000 - (intOf x).toNat)
     case atStart=>exact ⟨0,s2,0,D,rfl,rfl,by simp,by omega,Nat.zero_le _,HM0.out s D HDL.out HBK.out,HS.out⟩
     case round =>
      clear HS HBK HDL
      obtain ⟨a,b,k,D,rfl,rfl,ha,hb,han,hrM,hs⟩:=hrel
      have HS:=Zh hs
      have HR:=Zh hrM
      have HA:=Zh ha
      have HB:=Zh hb
      have hab:a <= b:=by omega
      have hb9:b <= 2000:=by omega
      have hDn:=hs.len
      obtain ⟨m,hm⟩:∃ m,a + s = m:=⟨_,rfl⟩
      have qm:(a:Int) + (s:Int) = (m:Int):=by omega
      have hmb:m < b:=by omega
      have HM:=Zh hm
      clear hs hrM ha hb hm
      by_cases hbn:b <= n
      ·have b3:decide (b <= n) = true:=by simp;omega
       obtain ⟨b2,hb2⟩:∃ b2,b + s2 = b2:=⟨_,rfl⟩
       have qb2:(b:Int) + (s2:Int) = (b2:Int):=by omega
       have HB2:=Zh hb2
       have hc:=HMS.out s k b D wr HR.out HS.out (by omega) (by rw [<- HA.out];have:=HM.out;omega) hbn (.inl (by rw [<- HA.out,HS2.out];exact HB.out))
       rw [<- HA.out,HM.out] at hc
       have HC:=Zh hc
       clear hc hb2
       go_wp2_with (go_at_call 156;refine HC.out.mono ?_;rintro e w' ⟨rfl,D2,hr2,hs⟩;have HS3:=Zh hs;have HR3:=Zh hr2;clear hs hr2)
       go_roundw
       case rel=>exact ⟨b,b2,k + 1,D2,rfl,rfl,by rw [HB.out,HA.out,Nat.mul_succ,HS2.out],HB2.out.symm,hbn,HR3.out,HS3.out⟩
       case measure=>simp [intOf];have:=HB.out;omega
      ·have b3:decide (b <= n) = false:=by simp;omega
       by_cases hmn:m < n
       ·have b4:decide (m < n) = true:=by simp;omega
        have hc:=HMS.out s k n D wr HR.out HS.out (by omega) (by rw [<- HA.out];have:=HM.out;omega) (Nat.le_refl _) (.inr ⟨by rw [<- HA.out,HS2.out];have:=HB.out;omega,rfl⟩)
        rw [<- HA.out,HM.out] at hc
        have HC:=Zh hc
        have hdone:n <= 2 * s * (k + 1):=by rw [Nat.mul_succ,<- HA.out,HS2.out];have:=HB.out;omega
        clear hc
        have HDN:=Zh hdone
        clear hdone
        go_wp2_with (go_at_call 156;refine HC.out.mono ?_;rintro e w' ⟨rfl,D2,hr2,hs⟩;have HS3:=Zh hs;have HR3:=Zh hr2;clear hs hr2)
        go_roundw
        case rel=>exact ⟨s2,D2,rfl,by omega,hs2b,HR3.out.1,by rw [<- HS2.out];exact HMD.out s (k + 1) D2 HR3.out (by rw [HS3.out.len];exact HDN.out),HS3.out⟩
        case measure=>simp [intOf];omega
       ·have b4:decide (m < n) = false:=by simp;omega
        have hbe:=HME.out s k D HR.out (by rw [hDn,<- HA.out,HS2.out];have:=HB.out;omega) (by rw [hDn,<- HA.out];have:=HM.out;omega)
        rw [HS2.out] at hbe
        have HBE:=Zh hbe
        clear hbe
        go_wp2
        go_roundw
        case rel=>exact ⟨s2,D,rfl,by omega,hs2b,HR.out.1,HBE.out,HS.out⟩
        case measure=>simp [intOf];omega
    ·have b2:decide (s < n) = false:=by simp;omega
     have hfin:=HALL.out s D HDL.out (by rw [HS.out.len];omega) (HBK.out 0)
     have HFIN:=Zh (by rw [<- hfin];exact HS.out:SrtI A g base cap p fa fc f n (rar f) wr)
     clear hfin
     go_wp2
     go_end0
     exact ⟨rfl,HFIN.out⟩
set_option maxRecDepth 100000 in
theorem Zadv (A:World) (g base cap p n:Nat) (fa:Option Addr) (fc:Nat) (f:List Nat) (hI:SrtI A g base cap p fa fc f n (used f) A) (hp:p < base) (hfa:∀ x,0 < f.length -> fa = some x -> x.block < base) (hn:n <= 600) :
  Calls Tryz.prog 118 #[.slice (some ⟨g,0,none⟩) n cap,.func (.func 119) #[] #[.pointer (some ⟨p,0,none⟩)]] A fun e w'=>e = .returned (.tuple #[]) /\ SrtI A g base cap p fa fc f n (rar f) w':=by
 have HST:=Zh (Zvp A g base cap p n fa fc f hI hp hfa hn)
 clear hI
 go_enter Tryz.func118,Tryz.ntmps118
 go_wp2_with (go_at_call 146;refine HST.out.mono ?_;rintro e w' ⟨rfl,hs⟩)
 go_end0
 exact ⟨rfl,hs⟩
end Go.Proofs.YtendielanacflaaGreat
namespace Go.Proofs.YtendielanacflaaGreat
open Go.RowKit Go.Shelf M04 M05
attribute [local go_sem] Oper.semAt_some
set_option maxRecDepth 100000 in
set_option maxHeartbeats 3200000 in
theorem Zmf (w:World) (a:Option Addr) (cap:Nat) (f:List Nat) (hr:RowN .i64 w a cap f) (hl:f.length <= 600) (hu:(used f).length <= 600) :
  Calls Tryz.prog 84 #[.slice a f.length cap] w fun e w'=>∃ a' c',e = .returned (.slice a' (rar f).length c') /\ OwnN 3 .i64 w' w.heap.size a' c' (rar f) /\ Below w.heap.size w w':=by
 have hrl:(rar f).length = (used f).length:=(Zbg f).length_eq
 have HB0:=Zh (Zav w (.cells #[.slice a f.length cap] 88))
 have hz:(w.alloc (.cells #[.slice a f.length cap] 88)).heap.size = w.heap.size + 1:=by simp
 have hc:=cell_of_one (World.alloc_heap_new w (.cells #[.slice a f.length cap] 88))
 have HR:=Zh (hr.below HB0.out)
 have HA:=Zh (fun x (h0:0 < f.length) (hx:a = some x)=>(show x.block < w.heap.size from by obtain ⟨b',off,he,hlt,_⟩:=hr.at h0;rw [hx] at he;cases he;exact hlt))
 have HO0:=Zh (fun W=>OwnN.nil 3 .i64 W (w.heap.size + 1))
 clear hr
 go_enter Tryz.func84,Tryz.ntmps84
 go_wp2
 generalize w.alloc (.cells #[.slice a f.length cap] 88) = W0 at *
 go_loopw [3,4,5,8] (fun o _ _ i A'=>∃ k a' c',i = .int .i64 (k:Nat) /\ k <= f.length /\ o = .slice a' (usedT f k).length c' /\ OwnN 3 .i64 A' (w.heap.size + 1) a' c' (usedT f k) /\ Below (w.heap.size + 1) W0 A') (fun _ _ _ i _=>f.length - (intOf i).toNat)
 case atStart=>exact ⟨0,none,0,rfl,Nat.zero_le _,rfl,HO0.out _,.refl _ _⟩
 case round =>
  obtain ⟨k,a',c',rfl,hk,rfl,ho,hb⟩:=hrel
  have HO:=Zh ho
  have HB:=Zh hb
  have hul:=Zaas f k
  have hszr:w.heap.size + 1 <= wr.heap.size:=by have:=hb.size;omega
  clear ho hb
  by_cases hkf:k < f.length
  ·have b1:decide (k < f.length) = true:=by simp;omega
   have hrow:=HR.out.same HB.out.size (fun x h0 hx=>HB.out.block _ (by have:=HA.out x h0 hx;omega))
   obtain ⟨b,off,hae,hbb,hck⟩:=hrow.at hkf
   have hv:f.getD k 0 = f[k]:=by rw [List.getD_eq_getElem?_getD,List.getElem?_eq_getElem hkf];rfl
   have HU:=Zh (Zvz f k)
   rw [hv] at HU
   subst hae
   have qk:(k:Int) < (f.length:Int):=by omega
   clear hv hrow
   generalize f[k] = v at *
   by_cases h0:0 < v
   ·have b2:decide (0 < v) = true:=by simp;omega
    rw [if_pos h0] at HU
    clear h0
    go_wp2_with (at_builtin;refine app1AtN Zfc rfl (.tmp 15) (.tmp 17) rfl (base:=w.heap.size + 1) (y:=k) rfl HO.out rfl (Nat.le_refl _) (by decide) (by omega) (by omega) hszr ?_;intro a7 c7 w7 hown7 hg7 hat7;have HO7:=Zh hown7;have HB7:=Zh (HB.out.trans (Below.of_grown hg7 (by omega) (fun g hg=>by rcases HO.out.form with ⟨rfl,_⟩ | ⟨g',rfl,hb,_⟩ <;> simp [Value.ownBlock] at hg;omega)));clear hown7 hg7 hat7)
    go_roundw
    case rel=>exact ⟨k + 1,a7,c7,by go_num,by omega,by rw [HU.out,List.length_append];rfl,by rw [HU.out];exact HO7.out,HB7.out⟩
    case measure=>simp [intOf];omega
   ·have b2:decide (0 < v) = false:=by simp;omega
    rw [if_neg h0] at HU
    clear h0
    go_wp2
    go_roundw
    case rel=>exact ⟨k + 1,a',c',by go_num,by omega,by rw [HU.out],by rw [HU.out];exact HO.out,HB.out⟩
    case measure=>simp [intOf];omega
  ·have b1:decide (k < f.length) = false:=by simp;omega
   obtain rfl:k = f.length:=by omega
   rw [Zaar] at *
   have hb2:=HB0.out.trans (HB.out.mono (by omega))
   rcases HO.out.form with ⟨rfl,rfl,hnil⟩ | ⟨g,rfl,hg1,hg2⟩
   ·have HS:=Zh (fun fv=>Zadw wr fv)
    have HN:=Zh (show rar f = [] from by have:=Zbg f;rw [hnil] at this;exact this.eq_nil)
    have hn0:(used f).length = 0:=by rw [hnil];rfl
    rw [hn0]
    go_wp2_with (go_at_call 118;refine (HS.out _).mono ?_;rintro e w' ⟨rfl,rfl⟩)
    go_ret
    exact ⟨none,0,by rw [HN.out];rfl,by rw [HN.out];exact OwnN.nil _ _ _ _,hb2⟩
   ·have hcw:wr.cell? ⟨w.heap.size,0,none⟩ = some (.slice a f.length cap):=(World.cell?_of_block (a:=⟨w.heap.size,0,none⟩) (HB.out.block w.heap.size (by omega))).trans hc
    have hrow:=HR.out.same HB.out.size (fun x h0 hx=>HB.out.block _ (by have:=HA.out x h0 hx;omega))
    have HS:=Zh (Zadv wr g (w.heap.size + 1) c' w.heap.size (used f).length a cap f ⟨HO.out,rfl,fun x hx=>by have:=List.mem_filter.1 hx;exact List.mem_range.1 this.1,.refl _ _,hcw,hrow⟩ (by omega) (fun x h0 hx=>by have:=HA.out x h0 hx;omega) hu)
    clear hcw hrow
    go_wp2_with (go_at_call 118;refine HS.out.mono ?_;rintro e w' ⟨rfl,hs⟩)
    go_ret
    refine ⟨some ⟨g,0,none⟩,c',by rw [hrl];rfl,hs.own.mono (by omega),?_⟩
    exact Below.only hb2 hs.only (Nat.le_refl _) (fun b hb=>by omega)
set_option maxRecDepth 100000 in
set_option maxHeartbeats 6400000 in
theorem Zdl (w:World) (a:Option Addr) (cap:Nat) (f:List Nat) (lim:Nat) (hr:RowN .i64 w a cap f) (hl:f.length <= 512) (hu:(used f).length <= 600) (hx:∀ x ∈ f,x <= 1099511627776) (h1:1 <= lim) (h17:lim <= 17) (hm:(rar f).length <= 2 ^ lim) :
  Calls Tryz.prog 45 #[.slice a f.length cap,.int .i64 (lim:Nat)] w fun e w'=>∃ a' c',e = .returned (.tuple #[.slice a' f.length c',.int .i64 0]) /\ OwnN 5 .u8 w' w.heap.size a' c' (limL f lim) /\ Below w.heap.size w w':=by
 have HCF:=Zh (Zoj a cap f w hr hx)
 have HRA:=Zh (fun w' (h:Below w.heap.size w w')=>Zmf w' a cap f (hr.below h) (by omega) hu)
 have HR:=Zh hr
 have hru:(rar f).length <= 600:=by have:=(Zbg f).length_eq;omega
 have HX:=Zh hx
 have HM:=Zh hm
 clear hr hx hu hm
 have b1:decide (lim < 1) = false:=by simp;omega
 have b1':decide ((lim:Int) < 1) = false:=by simp;omega
 have b2:decide (17 < lim) = false:=by simp;omega
 have b3:decide (512 < f.length) = false:=by simp;omega
 have b2':decide ((17:Int) < (lim:Int)) = false:=by simp;omega
 have b3':decide ((512:Int) < (f.length:Int)) = false:=by simp;omega
 obtain ⟨P,hP⟩:∃ P,2 ^ lim = P:=⟨_,rfl⟩
 have HP:=Zh hP
 have qP:=Zadi lim P h17 hP
 rw [hP] at HM
 have b4:decide (P < (rar f).length) = false:=by have:=HM.out;simp;omega
 have b4':decide ((P:Int) < ((rar f).length:Int)) = false:=by have:=HM.out;simp;omega
 clear hP
 rcases (show (rar f).length = 0 \/ (rar f).length = 1 \/ 2 <= (rar f).length by omega) with hn | hn | hn
 ·have HL:=Zh (Zom f lim hn)
  have b5:(((rar f).length:Int) == 1) = false:=beq_eq_false_iff_ne.2 (by omega)
  have b6:decide ((rar f).length < 2) = true:=by simp;omega
  have b6':decide (((rar f).length:Int) < 2) = true:=by simp;omega
  clear hn
  go_enter Tryz.func45,Tryz.ntmps45
  go_wp2_with (first | (go_at_call 83;refine HCF.out.mono ?_;rintro e w' ⟨rfl,rfl⟩) | (go_at_call 84;refine (HRA.out _ (.refl _ _)).mono ?_;rintro e w1 ⟨oa,oc,rfl,ho,hb⟩;have HO:=Zh ho;have HB:=Zh hb;clear ho hb) | (at_make;refine makeN (n:=f.length) Zfb rfl _ _ rfl w1.heap.size rfl rfl (by omega) (by omega) (Nat.le_refl _) ?_;intro w2 hown2 hg2;have HU:=Zh hown2;have HG2:=Zh hg2;clear hown2 hg2))
  go_ret2
  exact ⟨_,_,rfl,by rw [HL.out];exact HU.out.mono HB.out.size,HB.out.trans (Below.of_grown HG2.out HB.out.size (fun g hg=>by cases hg))⟩
 ·have b5:(((rar f).length:Int) == 1) = true:=by rw [hn];rfl
  have b6:decide ((rar f).length < 2) = true:=by simp;omega
  obtain ⟨s0,hs0⟩:∃ s0,rar f = [s0]:=List.length_eq_one_iff.1 hn
  have HS0:=Zh hs0
  clear hs0
  have hs0f:s0 < f.length:=((Zcb f s0).1 (by rw [HS0.out];exact List.mem_singleton_self _)).1
  have qs0:(s0:Int) < (f.length:Int):=by omega
  have hn1:1 <= (rar f).length:=by omega
  have hn2:(rar f).length <= 1:=by omega
  have HN1:=Zh hn
  clear hn
  go_enter Tryz.func45,Tryz.ntmps45
  go_wp2_with (first | (go_at_call 83;refine HCF.out.mono ?_;rintro e w' ⟨rfl,rfl⟩) | (go_at_call 84;refine (HRA.out _ (.refl _ _)).mono ?_;rintro e w1 ⟨oa,oc,rfl,ho,hb⟩;have HO:=Zh ho;have HB:=Zh hb;obtain ⟨bo,oo,rfl,hbo,hoc⟩:=ho.row.at (show 0 < (rar f).length by omega);simp only [HS0.out,List.getElem_cons_zero,Nat.add_zero] at hoc;clear ho hb) | (at_make;refine makeN (n:=f.length) Zfb rfl _ _ rfl w1.heap.size rfl rfl (by omega) (by omega) (Nat.le_refl _) ?_;intro w2 hown2 hg2;have HU:=Zh hown2;have HG2:=Zh hg2;have hoc2:=(World.cell?_of_block (a:=⟨bo,oo,none⟩) (hg2.block bo hbo (fun e=>by cases e))).trans hoc;obtain ⟨g9,hg9,_,_,huc,huf⟩:=hown2.at (show s0 < (List.replicate f.length 0).length by rw [List.length_replicate];exact hs0f);simp only [Option.some.injEq,Addr.mk.injEq,and_true] at hg9;subst hg9;clear hown2 hg2))
  clear qP
  have HUL0:=Zh (show OwnN 5 .u8 (w2.setCell ⟨w1.heap.size,s0,none⟩ (.int .u8 1)) w1.heap.size (some ⟨w1.heap.size,0,none⟩) f.length (len0 f) from by
   unfold len0
   rw [if_pos HN1.out,HS0.out]
   have:=(HU.out.stored s0 1).1
   exact this)
  have hg22:w2.grownBy (w2.setCell ⟨w1.heap.size,s0,none⟩ (.int .u8 1)) (some w1.heap.size):=(HU.out.stored s0 1).2
  have hlt2:bo < w1.heap.size:=hbo
  have HG22:=Zh hg22
  clear hg22
  generalize w2.setCell ⟨w1.heap.size,s0,none⟩ (.int .u8 1) = w22 at *
  have HRO:=Zh (HO.out.row)
  have HRO2:=Zh (fun A' (h:Below w22.heap.size w22 A')=>(HO.out.row.same (Nat.le_trans (Nat.le_trans HG2.out.size HG22.out.size) h.size) (fun x h0 hx=>by
   simp only [Option.some.injEq] at hx
   subst hx
   have z1:=HG2.out.size
   have z2:=HG22.out.size
   exact ((h.block bo (by omega)).trans (HG22.out.block bo (by omega) (fun e=>by cases e;omega))).trans (HG2.out.block bo hlt2 (fun e=>by cases e))):RowN .i64 A' (some ⟨bo,oo,none⟩) oc (rar f)))
  have HB2:=Zh ((HB.out.trans (Below.of_grown HG2.out HB.out.size (fun g hg=>by cases hg))).trans (Below.of_grown HG22.out (by have:=HB.out.size;have:=HG2.out.size;omega) (fun g hg=>by cases hg;exact HB.out.size)))
  clear hoc2 huc huf hoc HU HG2 HG22
  have HUL:=Zh HUL0.out
  clear HUL0
  generalize hoo:(some ⟨bo,oo,none⟩:Option Addr) = oa at *
  clear hoo hbo hlt2
  have HF2:=Zh (fun A' (h:Below w22.heap.size w22 A')=>(HR.out.below (HB2.out.trans (h.mono HB2.out.size)):RowN .i64 A' a cap f))
  -- one begins
  go_loopw [10,12,62] (fun o _ i A'=>∃ k a' c',i = .int .i64 (k:Nat) /\ k <= (rar f).length /\ o = .slice a' ((symW f).take k).length c' /\ OwnN 3 .i64 A' w22.heap.size a' c' ((symW f).take k) /\ Below w22.heap.size w22 A') (fun _ _ i _=>(rar f).length - (intOf i).toNat)
  case atStart=>exact ⟨0,none,0,rfl,Nat.zero_le _,rfl,OwnN.nil _ _ _ _,.refl _ _⟩
  case round =>
   obtain ⟨k,a',c',rfl,hk,rfl,ho,hb⟩:=hrel
   have HO3:=Zh ho
   have HB3:=Zh hb
   have hszr:=hb.size
   have hsl:=Zbq f
   have htl:((symW f).take k).length = k:=by rw [List.length_take];omega
   clear ho hb
   by_cases hkn:k < (rar f).length
   ·have b7:decide (k < (rar f).length) = true:=by simp;omega
    obtain ⟨bo,oo,hoe,hob,hoc⟩:=(HRO2.out wr HB3.out).at hkn
    have hs1:(rar f)[k] < f.length:=((Zcb f _).1 (List.getElem_mem hkn)).1
    obtain ⟨bf,of,hfe,hfb,hfc⟩:=(HF2.out wr HB3.out).at hs1
    have HW:=Zh (Zaw (symW f) k (by omega))
    have hwk:(symW f)[k] = f[(rar f)[k]]:=by
     unfold symW
     rw [List.getElem_map,List.getD_eq_getElem?_getD,List.getElem?_eq_getElem hs1];rfl
    rw [hwk] at HW
    subst hoe
    subst hfe
    have qk:(k:Int) < ((rar f).length:Int):=by omega
    clear hwk
    generalize f[(rar f)[k]] = v at *
    generalize (rar f)[k] = s at *
    have qs:(s:Int) < (f.length:Int):=by omega
    have htl2:((symW f).take k).length <= 600:=by omega
    clear htl hsl
    generalize (symW f).take k = tk at *
    go_wp2_with (at_builtin;refine app1AtN Zfc rfl (.tmp 66) (.tmp 71) rfl (base:=w22.heap.size) (y:=v) rfl HO3.out rfl (Nat.le_refl _) (by decide) (by omega) (by omega) hszr ?_;intro a7 c7 w7 hown7 hg7 hat7;have HO7:=Zh hown7;have HB7:=Zh (HB3.out.trans (Below.of_grown hg7 hszr (fun g hg=>by rcases HO3.out.form with ⟨rfl,_⟩ | ⟨g',rfl,hb,_⟩ <;> simp [Value.ownBlock] at hg;omega)));clear hown7 hg7 hat7)
    go_roundw
    case rel=>exact ⟨k + 1,a7,c7,by go_num,by omega,by rw [HW.out,List.length_append];rfl,by rw [HW.out];exact HO7.out,HB7.out⟩
    case measure=>simp [intOf];omega
   ·have b7:decide (k < (rar f).length) = false:=by simp;omega
    obtain rfl:k = (rar f).length:=by omega
    rw [List.take_of_length_le (by omega)] at *
    have hsy:=Zaaf f _ HX.out
    have HSW:=Zh (Zjn (symW f) 1099511627776 hsy)
    have HSY:=Zh hsy
    have HRL:=Zh (Zrl (symW f) (by omega))
    have hn20:(symW f).length <= 600:=by omega
    clear hsy htl
    generalize hsy0:symW f = sy at *
    have HSE:=Zh hsy0
    clear hsy0
    have HTF:=Zh (Zpu sy lim (by omega) (by rw [hsl];have:=HM.out;have:=HP.out;omega) h1)
    have HCN:=Zh (Zwr sy lim (by omega) (by rw [hsl];have:=HM.out;have:=HP.out;omega) h1)
    go_wp2_with (at_make;refine makeRw (n:=lim) Ztj rfl _ _ rfl wr.heap.size rfl rfl (by omega) (by omega) (Nat.le_refl _) ?_;intro w4 hown4 hg4;have HR4:=Zh hown4;have HG4:=Zh hg4;clear hown4 hg4)
    generalize hw3:wr = w3 at *
    clear hw3
    have HWT:=Zh (fun A' (h:Only (fun b=>b = w3.heap.size) w4 A')=>(HO3.out.row.same (Nat.le_trans HG4.out.size h.size) (fun x h0 hx=>by
     obtain ⟨b',off,he,hlt,_⟩:=HO3.out.row.at h0
     rw [hx] at he;cases he
     exact (h.block _ (Nat.lt_of_lt_of_le hlt HG4.out.size) (by show ¬ b' = _;omega)).trans (HG4.out.block _ hlt (fun e=>by cases e))):RowN .i64 A' a' c' sy))
    have HNX:=Zh (fun A' (h:Only (fun b=>b = w3.heap.size) w4 A') la la2 lc lm lc2 last h2 hl hll=>Zkr A' a' la la2 c' lc lm lc2 sy last (HWT.out A' h) h2 (fun x hx=>by have:=HSY.out x hx;omega) hl (by omega) hll)
    rw [hsl] at HNX
    have hsz4:w3.heap.size < w4.heap.size:=by
     rcases HR4.out.form with ⟨h,_⟩ | ⟨g',h,_,h5⟩
     ·cases h
     ·simp only [Option.some.injEq,Addr.mk.injEq,and_true] at h;omega
    go_loopw [14,77] (fun _ i A'=>∃ k L,i = .int .i64 (k:Nat) /\ k <= lim /\ OwnS encRw 144 A' w3.heap.size (some ⟨w3.heap.size,0,none⟩) lim L /\ L.length = lim /\ (∀ j (h:j < L.length),j < k -> RwAt A' (w3.heap.size + 1) L[j] (rowS sy j)) /\ Only (fun b=>b = w3.heap.size) w4 A') (fun _ i _=>lim - (intOf i).toNat)
    case atStart=>exact ⟨0,List.replicate lim row0,rfl,Nat.zero_le _,HR4.out,by simp,fun j _ h=>absurd h (by omega),.refl _ _⟩
    case round =>
     obtain ⟨k,L,rfl,hk,hro,hLl,hok,hon⟩:=hrel
     have HRW:=Zh hro
     have HOK:=Zh hok
     have HON:=Zh hon
     clear hro hok hon
     by_cases hkl:k < lim
     ·have b8:decide (k < lim) = true:=by simp;omega
      by_cases hk0:k = 0
      ·have b9:decide (0 < k) = false:=by simp;omega
       have b9':decide ((0:Int) < (k:Int)) = false:=by simp;omega
       have qkl:(k:Int) < (lim:Int):=by omega
       have HK0:=Zh hk0
       clear hk0
       have HNX0:=Zh (HNX.out wr HON.out none none 0 0 0 [] ⟨by simp,by simp,.inl rfl⟩ (by simp) (by simp))
       have hgw:w3.heap.size < wr.heap.size:=Nat.lt_of_lt_of_le hsz4 HON.out.size
       go_wp2_with fail
       refine HNX0.out.mono ?_
       rintro e w5 ⟨na,nc,na2,nc2,rfl,ho1,ho2,hb5⟩
       have HN1:=Zh ho1
       have HN2:=Zh ho2
       have HB5:=Zh hb5
       have HRW5:=Zh (HRW.out.below hb5)
       obtain ⟨c0,c1,f0,f1⟩:=HRW5.out.atRw (show k < L.length by omega)
       have HST:=Zh (HRW5.out.storedRw k ((na,(nextR sy []).length,nc),(na2,(nextR sy []).length,nc2)) (show k < L.length by omega))
       have HOW:=Zh (show Only (fun b=>b = w3.heap.size) wr ((w5.setCell ⟨w3.heap.size,2 * k,none⟩ (.slice na (nextR sy []).length nc)).setCell ⟨w3.heap.size,2 * k + 1,none⟩ (.slice na2 (nextR sy []).length nc2)) from
        (Only.ofBelow HB5.out).trans (Only.trans ⟨HST.out.2.1.os,HST.out.2.1.tape,HST.out.2.1.output,HST.out.2.1.size,fun b hb hne=>HST.out.2.1.block b hb (fun e=>by cases e;exact hne rfl)⟩ ⟨HST.out.2.2.os,HST.out.2.2.tape,HST.out.2.2.output,HST.out.2.2.size,fun b hb hne=>HST.out.2.2.block b hb (fun e=>by cases e;exact hne rfl)⟩))
       have HOW5:=Zh (show Only (fun b=>b = w3.heap.size) w5 ((w5.setCell ⟨w3.heap.size,2 * k,none⟩ (.slice na (nextR sy []).length nc)).setCell ⟨w3.heap.size,2 * k + 1,none⟩ (.slice na2 (nextR sy []).length nc2)) from
        Only.trans ⟨HST.out.2.1.os,HST.out.2.1.tape,HST.out.2.1.output,HST.out.2.1.size,fun b hb hne=>HST.out.2.1.block b hb (fun e=>by cases e;exact hne rfl)⟩ ⟨HST.out.2.2.os,HST.out.2.2.tape,HST.out.2.2.output,HST.out.2.2.size,fun b hb hne=>HST.out.2.2.block b hb (fun e=>by cases e;exact hne rfl)⟩)
       have HNEW:=Zh (show RwAt w5 (w3.heap.size + 1) ((na,(nextR sy []).length,nc),(na2,(nextR sy []).length,nc2)) (rowS sy k) from by
        rw [HK0.out]
        refine ⟨rfl,rfl,HN1.out.row,HN2.out.row,fun b hb=>?_,fun b hb=>?_⟩
        ·rcases HN1.out.form with ⟨h,_⟩ | ⟨g',h,h2,h3⟩
         ·rw [show na = some b from hb] at h;cases h
         ·rw [show na = some b from hb] at h;cases h;exact ⟨by show _ <= g';omega,h3⟩
        ·rcases HN2.out.form with ⟨h,_⟩ | ⟨g',h,h2,h3⟩
         ·rw [show na2 = some b from hb] at h;cases h
         ·rw [show na2 = some b from hb] at h;cases h;exact ⟨by show _ <= g';omega,h3⟩)
       rw [Nat.mul_comm 2 k] at c0 c1 f0 f1 HST HOW HOW5
       clear ho1 ho2 hb5
       go_wp2_with fail
       go_roundw
       case rel =>
        refine ⟨k + 1,L.set k ((na,(nextR sy []).length,nc),(na2,(nextR sy []).length,nc2)),by go_num,by omega,HST.out.1,by rw [List.length_set];exact hLl,fun j hj hjk=>?_,HON.out.trans HOW.out⟩
        rw [List.length_set] at hj
        by_cases hjk2:j = k
        ·subst hjk2
         rw [List.getElem_set_self]
         exact HNEW.out.only HOW5.out (fun b h1 _ h=>by omega)
        ·rw [List.getElem_set_ne (fun e=>hjk2 e.symm)]
         exact (HOK.out j hj (by omega)).only HOW.out (fun b h1 _ h=>by omega)
       case measure=>simp [intOf];omega
      ·have b9:decide (0 < k) = true:=by simp;omega
       have b9':decide ((0:Int) < (k:Int)) = true:=by simp;omega
       have qkl:(k:Int) < (lim:Int):=by omega
       obtain ⟨k1,hk1⟩:∃ k1,k = k1 + 1:=⟨k - 1,by omega⟩
       have HK0:=Zh hk1
       have qk1:(k:Int) - 1 = (k1:Int):=by omega
       have qk1l:(k1:Int) < (lim:Int):=by omega
       have qk1w:IntKind.i64.wrap (k1:Int) = (k1:Int):=IntWalk.i64_in _ (by omega)
       have hat:=HOK.out k1 (by omega) (by omega)
       obtain ⟨p0,p1,_,_⟩:=HRW.out.atRw (show k1 < L.length by omega)
       generalize L[k1]'(by omega) = X at *
       obtain ⟨⟨xa,xn,xc⟩,⟨ya,yn,yc⟩⟩:=X
       obtain ⟨e1,e2,e3,e4,_,_⟩:=hat
       simp only at e1 e2 e3 p0 p1
       have hwl:(wts (rowS sy k1)).length = xn:=by rw [Zes,e1]
       have hrle:=HRL.out k1
       have hpw:1099511627776 * 2 ^ (k1 + 1) <= 288230376151711744:=by
        have:2 ^ (k1 + 1) <= 2 ^ 18:=Nat.pow_le_pow_right (by decide) (by omega)
        omega
       have HNX0:=Zh (HNX.out wr HON.out xa ya xc yn yc (wts (rowS sy k1)) e3 (fun x hx=>Nat.le_trans (HSW.out k1 x hx) hpw) (by rw [Zes];omega))
       rw [hwl] at HNX0
       have HRE:=Zh (show rowS sy k = nextR sy (wts (rowS sy k1)) from by rw [hk1];rfl)
       rw [Nat.mul_comm 2 k1] at p0 p1
       clear hk1 hk0 e1 e2 e3 e4 hwl hrle hpw
       obtain ⟨lst,hlst⟩:∃ lst,wts (rowS sy k1) = lst:=⟨_,rfl⟩
       rw [hlst] at HNX0 HRE
       clear hlst
       have hgw:w3.heap.size < wr.heap.size:=Nat.lt_of_lt_of_le hsz4 HON.out.size
       go_wp2_with fail
       refine HNX0.out.mono ?_
       rintro e w5 ⟨na,nc,na2,nc2,rfl,ho1,ho2,hb5⟩
       have HN1:=Zh ho1
       have HN2:=Zh ho2
       have HB5:=Zh hb5
       have HRW5:=Zh (HRW.out.below hb5)
       obtain ⟨c0,c1,f0,f1⟩:=HRW5.out.atRw (show k < L.length by omega)
       have HST:=Zh (HRW5.out.storedRw k ((na,(nextR sy lst).length,nc),(na2,(nextR sy lst).length,nc2)) (show k < L.length by omega))
       have HOW:=Zh (show Only (fun b=>b = w3.heap.size) wr ((w5.setCell ⟨w3.heap.size,2 * k,none⟩ (.slice na (nextR sy lst).length nc)).setCell ⟨w3.heap.size,2 * k + 1,none⟩ (.slice na2 (nextR sy lst).length nc2)) from
        (Only.ofBelow HB5.out).trans (Only.trans ⟨HST.out.2.1.os,HST.out.2.1.tape,HST.out.2.1.output,HST.out.2.1.size,fun b hb hne=>HST.out.2.1.block b hb (fun e=>by cases e;exact hne rfl)⟩ ⟨HST.out.2.2.os,HST.out.2.2.tape,HST.out.2.2.output,HST.out.2.2.size,fun b hb hne=>HST.out.2.2.block b hb (fun e=>by cases e;exact hne rfl)⟩))
       have HOW5:=Zh (show Only (fun b=>b = w3.heap.size) w5 ((w5.setCell ⟨w3.heap.size,2 * k,none⟩ (.slice na (nextR sy lst).length nc)).setCell ⟨w3.heap.size,2 * k + 1,none⟩ (.slice na2 (nextR sy lst).length nc2)) from
        Only.trans ⟨HST.out.2.1.os,HST.out.2.1.tape,HST.out.2.1.output,HST.out.2.1.size,fun b hb hne=>HST.out.2.1.block b hb (fun e=>by cases e;exact hne rfl)⟩ ⟨HST.out.2.2.os,HST.out.2.2.tape,HST.out.2.2.output,HST.out.2.2.size,fun b hb hne=>HST.out.2.2.block b hb (fun e=>by cases e;exact hne rfl)⟩)
       have HNEW:=Zh (show RwAt w5 (w3.heap.size + 1) ((na,(nextR sy lst).length,nc),(na2,(nextR sy lst).length,nc2)) (rowS sy k) from by
        rw [HRE.out]
        refine ⟨rfl,rfl,HN1.out.row,HN2.out.row,fun b hb=>?_,fun b hb=>?_⟩
        ·rcases HN1.out.form with ⟨h,_⟩ | ⟨g',h,h2,h3⟩
         ·rw [show na = some b from hb] at h;cases h
         ·rw [show na = some b from hb] at h;cases h;exact ⟨by show _ <= g';omega,h3⟩
        ·rcases HN2.out.form with ⟨h,_⟩ | ⟨g',h,h2,h3⟩
         ·rw [show na2 = some b from hb] at h;cases h
         ·rw [show na2 = some b from hb] at h;cases h;exact ⟨by show _ <= g';omega,h3⟩)
       rw [Nat.mul_comm 2 k] at c0 c1 f0 f1 HST HOW HOW5
       clear ho1 ho2 hb5
       go_wp2_with fail
       go_roundw
       case rel =>
        refine ⟨k + 1,L.set k ((na,(nextR sy lst).length,nc),(na2,(nextR sy lst).length,nc2)),by go_num,by omega,HST.out.1,by rw [List.length_set];exact hLl,fun j hj hjk=>?_,HON.out.trans HOW.out⟩
        rw [List.length_set] at hj
        by_cases hjk2:j = k
        ·subst hjk2
         rw [List.getElem_set_self]
         exact HNEW.out.only HOW5.out (fun b h1 _ h=>by omega)
        ·rw [List.getElem_set_ne (fun e=>hjk2 e.symm)]
         exact (HOK.out j hj (by omega)).only HOW.out (fun b h1 _ h=>by omega)
       case measure=>simp [intOf];omega
     ·have b8:decide (k < lim) = false:=by simp;omega
      obtain rfl:lim = k:=by omega
      have HB5:=Zh (show Below w22.heap.size w22 wr from Below.only (HB3.out.trans (Below.of_grown HG4.out (HB3.out.size) (fun g hg=>by cases hg))) HON.out (Nat.le_refl _) (fun b hb=>by omega))
      have HU5:=Zh (HUL.out.below HB5.out)
      obtain ⟨bo,oo,hoe,hbo,_⟩:=HRO.out.at (show 0 < (rar f).length by omega)
      subst hoe
      have hcapo:=HRO.out.1
      have hw12:w1.heap.size < w22.heap.size:=by
       rcases HUL.out.form with ⟨h,_⟩ | ⟨g',h,_,h5⟩
       ·cases h
       ·simp only [Option.some.injEq,Addr.mk.injEq,and_true] at h;omega
      have hgw3:w3.heap.size < wr.heap.size:=Nat.lt_of_lt_of_le hsz4 HON.out.size
      have HRO5:=Zh (fun A' (h:Only (fun b=>b = w1.heap.size) wr A')=>((HRO2.out wr HB5.out).same h.size (fun x h0 hx=>by
       simp only [Option.some.injEq] at hx
       subst hx
       exact h.block bo (by have:=HB5.out.size;omega) (by show ¬ bo = _;omega)):RowN .i64 A' (some ⟨bo,oo,none⟩) oc (rar f)))
      go_wp2_with fail
      generalize hw5:wr = w5 at *
      clear hw5
      go_loopw [15,16,17,104] (fun t _ _ i A'=>∃ k tk,i = .int .i64 (k:Nat) /\ k <= lim /\ t = .int .i64 (tk:Nat) /\ tk = tkn sy lim k /\ OwnN 5 .u8 A' w1.heap.size (some ⟨w1.heap.size,0,none⟩) f.length (lenInL f lim k 0) /\ Only (fun b=>b = w1.heap.size) w5 A') (fun _ _ _ i _=>lim - (intOf i).toNat)
      case atStart=>exact ⟨0,tkn sy lim 0,rfl,Nat.zero_le _,congrArg (Value.int IntKind.i64) (by show _ = ((2 * sy.length - 2:Nat):Int);omega),rfl,by rw [Zfk];exact HU5.out,.refl _ _⟩
      case round =>
       obtain ⟨k,tk,rfl,hk,rfl,htk,ho,hon5⟩:=hrel
       have HO5:=Zh ho
       have HN5:=Zh hon5
       clear ho hon5
       by_cases hkl2:k < lim
       ·have b10:decide (k < lim) = true:=by simp;omega
        obtain ⟨l1,hl1⟩:∃ l1,lim - 1 = l1:=⟨_,rfl⟩
        obtain ⟨j,hj⟩:∃ j,l1 - k = j:=⟨_,rfl⟩
        have ql1:(lim:Int) - 1 = (l1:Int):=by omega
        have qj:(l1:Int) - (k:Int) = (j:Int):=by omega
        have qjl:(j:Int) < (lim:Int):=by omega
        have hjL:j < L.length:=by omega
        have hat:=(HOK.out j hjL (by omega)).only HN5.out (fun b h1 _ h=>by omega)
        obtain ⟨_,p1,_,_⟩:=HRW.out.atRw hjL
        have p1':=(World.cell?_of_block (a:=⟨w3.heap.size,2 * j + 1,none⟩) (HN5.out.block w3.heap.size (by omega) (by show ¬ w3.heap.size = _;omega))).trans p1
        generalize L[j]'hjL = X at *
        obtain ⟨⟨xa,xn,xc⟩,⟨ya,yn,yc⟩⟩:=X
        obtain ⟨_,e2,_,e4,_,_⟩:=hat
        simp only at e2 e4 p1'
        rw [e2] at p1'
        have hfit:=HTF.out k hkl2
        have hcn:=HCN.out k hkl2
        have hnx:=Zfj f lim k
        rw [HSE.out] at hnx
        have hjj:lim - 1 - k = j:=by omega
        have hcd:symN (rowS sy j) tk = cnt sy lim k:=by rw [htk,<- hjj];rfl
        rw [hjj,<- htk] at hfit
        have htd:tkn sy lim (k + 1) = 2 * (tk - cnt sy lim k):=by rw [htk];rfl
        have hle:=Zim sy lim k
        rw [<- htk] at hle
        have hrle:=HRL.out j
        rw [Nat.mul_comm 2 j] at p1'
        have HFI:=Zh (Zjo wr w3.heap.size (j * 2) ya yc (rowS sy j) tk p1' e4 hfit (by omega))
        rw [hcd] at HFI
        clear hcd e2 e4 p1' p1
        generalize cnt sy lim k = n at *
        generalize htk2:tkn sy lim (k + 1) = d2 at *
        obtain ⟨d,hd⟩:∃ d,tk - n = d:=⟨_,rfl⟩
        rw [hd] at htd
        have qd:(tk:Int) - (n:Int) = (d:Int):=by omega
        have qd2:2 * (d:Int) = (d2:Int):=by omega
        have hcut:=cutInts bo oo n (rar f).length oc (by omega)
        have HNX5:=Zh hnx
        have HTK2:=Zh htk2
        have hd2:d2 <= 3000:=by omega
        have hn20:n <= 600:=by omega
        clear hnx htk2 htk hd htd hj hl1 hjj
        go_wp2_with (go_at_call 86;refine HFI.out.mono ?_;rintro e w' ⟨rfl,rfl⟩)
        go_loopw [19,119] (fun _ i A'=>∃ t,i = .int .i64 (t:Nat) /\ t <= n /\ OwnN 5 .u8 A' w1.heap.size (some ⟨w1.heap.size,0,none⟩) f.length (lenInL f lim k t) /\ Only (fun b=>b = w1.heap.size) w5 A') (fun _ i _=>n - (intOf i).toNat)
        case atStart=>exact ⟨0,rfl,Nat.zero_le _,HO5.out,HN5.out⟩
        case round =>
         obtain ⟨t,rfl,ht,ho,hon5⟩:=hrel
         have HO6:=Zh ho
         have HN6:=Zh hon5
         clear ho hon5 HO5 HN5
         by_cases htn:t < n
         ·have b11:decide (t < n) = true:=by simp;omega
          have htr:t < (rar f).length:=by omega
          obtain ⟨bo2,oo2,hoe2,_,hoc⟩:=(HRO5.out wr HN6.out).at htr
          simp only [Option.some.injEq,Addr.mk.injEq,and_true] at hoe2
          obtain ⟨rfl,rfl⟩:=hoe2
          have hs1:(rar f)[t] < f.length:=((Zcb f _).1 (List.getElem_mem htr)).1
          have hst:=Zjd f lim k t htr
          have hll:=Zbz f lim k t
          have hsL:(rar f)[t] < (lenInL f lim k t).length:=by rw [hll];exact hs1
          have hv0:(lenInL f lim k t).getD (rar f)[t] 0 = (lenInL f lim k t)[(rar f)[t]]'hsL:=by rw [List.getD_eq_getElem?_getD,List.getElem?_eq_getElem hsL];rfl
          have hv1:=Zok f lim k t _ (List.getElem_mem hsL)
          obtain ⟨g9,hg9,_,_,hoc2,hof2⟩:=HO6.out.at hsL
          simp only [Option.some.injEq,Addr.mk.injEq,and_true] at hg9
          subst hg9
          rw [hv0] at hst
          generalize (lenInL f lim k t)[(rar f)[t]]'hsL = v at *
          generalize (rar f)[t] = s at *
          obtain ⟨v1,hv1e⟩:∃ v1,v + 1 = v1:=⟨_,rfl⟩
          have qv:(v:Int) + 1 = (v1:Int):=by omega
          have qvw:IntKind.u8.wrap (v1:Int) = (v1:Int):=IntWalk.u8_in _ (by omega)
          rw [hv1e] at hst
          have HST:=Zh (HO6.out.stored s v1)
          rw [<- hst] at HST
          have qt:(t:Int) < (n:Int):=by omega
          have qs:(s:Int) < (f.length:Int):=by omega
          clear hst hv0 hv1e
          go_wp2_with fail
          go_roundw
          case rel=>exact ⟨t + 1,by go_num,by omega,HST.out.1,HN6.out.trans ⟨HST.out.2.os,HST.out.2.tape,HST.out.2.output,HST.out.2.size,fun b hb hne=>HST.out.2.block b hb (fun e=>by cases e;exact hne rfl)⟩⟩
          case measure=>simp [intOf];omega
         ·have b11:decide (t < n) = false:=by simp;omega
          obtain rfl:n = t:=by omega
          go_wp2_with fail
          go_roundw
          case rel=>exact ⟨k + 1,d2,by go_num,by omega,rfl,HTK2.out.symm,by rw [<- HNX5.out];exact HO6.out,HN6.out⟩
          case measure=>simp [intOf];omega
       ·have b10:decide (k < lim) = false:=by simp;omega
        obtain rfl:lim = k:=by omega
        have HAL:=Zh (Zgv f lim)
        go_wp2
        go_ret2
        exact ⟨_,_,rfl,by rw [<- HAL.out];exact HO5.out.mono HB.out.size,Below.only (HB2.out.trans (HB5.out.mono HB2.out.size)) HN5.out (Nat.le_refl _) (fun b hb=>by have:=HB.out.size;omega)⟩
  -- one ends
 ·have b5:(((rar f).length:Int) == 1) = false:=beq_eq_false_iff_ne.2 (by omega)
  have b6:decide ((rar f).length < 2) = false:=by simp;omega
  have b6':decide (((rar f).length:Int) < 2) = false:=by simp;omega
  go_enter Tryz.func45,Tryz.ntmps45
  go_wp2_with (first | (go_at_call 83;refine HCF.out.mono ?_;rintro e w' ⟨rfl,rfl⟩) | (go_at_call 84;refine (HRA.out _ (.refl _ _)).mono ?_;rintro e w1 ⟨oa,oc,rfl,ho,hb⟩;have HO:=Zh ho;have HB:=Zh hb;clear ho hb) | (at_make;refine makeN (n:=f.length) Zfb rfl _ _ rfl w1.heap.size rfl rfl (by omega) (by omega) (Nat.le_refl _) ?_;intro w2 hown2 hg2;have HU:=Zh hown2;have HG2:=Zh hg2;clear hown2 hg2))
  have HUL:=Zh (show OwnN 5 .u8 w2 w1.heap.size (some ⟨w1.heap.size,0,none⟩) f.length (len0 f) from by unfold len0;rw [if_neg (by omega)];exact HU.out)
  clear qP
  have HRO:=Zh (HO.out.row)
  have HRO2:=Zh (fun A' (h:Below w2.heap.size w2 A')=>(HO.out.row.same (Nat.le_trans HG2.out.size h.size) (fun x h0 hx=>(h.block _ (by have:=HG2.out.size;obtain ⟨b',off,he,hlt,_⟩:=HRO.out.at h0;rw [hx] at he;cases he;exact Nat.lt_of_lt_of_le hlt this)).trans (HG2.out.block _ (by obtain ⟨b',off,he,hlt,_⟩:=HRO.out.at h0;rw [hx] at he;cases he;exact hlt) (fun e=>by cases e))):RowN .i64 A' oa oc (rar f)))
  have HB2:=Zh (HB.out.trans (Below.of_grown HG2.out HB.out.size (fun g hg=>by cases hg)))
  have HF2:=Zh (fun A' (h:Below w2.heap.size w2 A')=>(HR.out.below (HB2.out.trans (h.mono HB2.out.size)):RowN .i64 A' a cap f))
  -- two begins
  go_loopw [10,12,62] (fun o _ i A'=>∃ k a' c',i = .int .i64 (k:Nat) /\ k <= (rar f).length /\ o = .slice a' ((symW f).take k).length c' /\ OwnN 3 .i64 A' w2.heap.size a' c' ((symW f).take k) /\ Below w2.heap.size w2 A') (fun _ _ i _=>(rar f).length - (intOf i).toNat)
  case atStart=>exact ⟨0,none,0,rfl,Nat.zero_le _,rfl,OwnN.nil _ _ _ _,.refl _ _⟩
  case round =>
   obtain ⟨k,a',c',rfl,hk,rfl,ho,hb⟩:=hrel
   have HO3:=Zh ho
   have HB3:=Zh hb
   have hszr:=hb.size
   have hsl:=Zbq f
   have htl:((symW f).take k).length = k:=by rw [List.length_take];omega
   clear ho hb
   by_cases hkn:k < (rar f).length
   ·have b7:decide (k < (rar f).length) = true:=by simp;omega
    obtain ⟨bo,oo,hoe,hob,hoc⟩:=(HRO2.out wr HB3.out).at hkn
    have hs1:(rar f)[k] < f.length:=((Zcb f _).1 (List.getElem_mem hkn)).1
    obtain ⟨bf,of,hfe,hfb,hfc⟩:=(HF2.out wr HB3.out).at hs1
    have HW:=Zh (Zaw (symW f) k (by omega))
    have hwk:(symW f)[k] = f[(rar f)[k]]:=by
     unfold symW
     rw [List.getElem_map,List.getD_eq_getElem?_getD,List.getElem?_eq_getElem hs1];rfl
    rw [hwk] at HW
    subst hoe
    subst hfe
    have qk:(k:Int) < ((rar f).length:Int):=by omega
    clear hwk
    generalize f[(rar f)[k]] = v at *
    generalize (rar f)[k] = s at *
    have qs:(s:Int) < (f.length:Int):=by omega
    have htl2:((symW f).take k).length <= 600:=by omega
    clear htl hsl
    generalize (symW f).take k = tk at *
    go_wp2_with (at_builtin;refine app1AtN Zfc rfl (.tmp 66) (.tmp 71) rfl (base:=w2.heap.size) (y:=v) rfl HO3.out rfl (Nat.le_refl _) (by decide) (by omega) (by omega) hszr ?_;intro a7 c7 w7 hown7 hg7 hat7;have HO7:=Zh hown7;have HB7:=Zh (HB3.out.trans (Below.of_grown hg7 hszr (fun g hg=>by rcases HO3.out.form with ⟨rfl,_⟩ | ⟨g',rfl,hb,_⟩ <;> simp [Value.ownBlock] at hg;omega)));clear hown7 hg7 hat7)
    go_roundw
    case rel=>exact ⟨k + 1,a7,c7,by go_num,by omega,by rw [HW.out,List.length_append];rfl,by rw [HW.out];exact HO7.out,HB7.out⟩
    case measure=>simp [intOf];omega
   ·have b7:decide (k < (rar f).length) = false:=by simp;omega
    obtain rfl:k = (rar f).length:=by omega
    rw [List.take_of_length_le (by omega)] at *
    have hsy:=Zaaf f _ HX.out
    have HSW:=Zh (Zjn (symW f) 1099511627776 hsy)
    have HSY:=Zh hsy
    have HRL:=Zh (Zrl (symW f) (by omega))
    have hn20:(symW f).length <= 600:=by omega
    clear hsy htl
    generalize hsy0:symW f = sy at *
    have HSE:=Zh hsy0
    clear hsy0
    have HTF:=Zh (Zpu sy lim (by omega) (by rw [hsl];have:=HM.out;have:=HP.out;omega) h1)
    have HCN:=Zh (Zwr sy lim (by omega) (by rw [hsl];have:=HM.out;have:=HP.out;omega) h1)
    go_wp2_with (at_make;refine makeRw (n:=lim) Ztj rfl _ _ rfl wr.heap.size rfl rfl (by omega) (by omega) (Nat.le_refl _) ?_;intro w4 hown4 hg4;have HR4:=Zh hown4;have HG4:=Zh hg4;clear hown4 hg4)
    generalize hw3:wr = w3 at *
    clear hw3
    have HWT:=Zh (fun A' (h:Only (fun b=>b = w3.heap.size) w4 A')=>(HO3.out.row.same (Nat.le_trans HG4.out.size h.size) (fun x h0 hx=>by
     obtain ⟨b',off,he,hlt,_⟩:=HO3.out.row.at h0
     rw [hx] at he;cases he
     exact (h.block _ (Nat.lt_of_lt_of_le hlt HG4.out.size) (by show ¬ b' = _;omega)).trans (HG4.out.block _ hlt (fun e=>by cases e))):RowN .i64 A' a' c' sy))
    have HNX:=Zh (fun A' (h:Only (fun b=>b = w3.heap.size) w4 A') la la2 lc lm lc2 last h2 hl hll=>Zkr A' a' la la2 c' lc lm lc2 sy last (HWT.out A' h) h2 (fun x hx=>by have:=HSY.out x hx;omega) hl (by omega) hll)
    rw [hsl] at HNX
    have hsz4:w3.heap.size < w4.heap.size:=by
     rcases HR4.out.form with ⟨h,_⟩ | ⟨g',h,_,h5⟩
     ·cases h
     ·simp only [Option.some.injEq,Addr.mk.injEq,and_true] at h;omega
    go_loopw [14,77] (fun _ i A'=>∃ k L,i = .int .i64 (k:Nat) /\ k <= lim /\ OwnS encRw 144 A' w3.heap.size (some ⟨w3.heap.size,0,none⟩) lim L /\ L.length = lim /\ (∀ j (h:j < L.length),j < k -> RwAt A' (w3.heap.size + 1) L[j] (rowS sy j)) /\ Only (fun b=>b = w3.heap.size) w4 A') (fun _ i _=>lim - (intOf i).toNat)
    case atStart=>exact ⟨0,List.replicate lim row0,rfl,Nat.zero_le _,HR4.out,by simp,fun j _ h=>absurd h (by omega),.refl _ _⟩
    case round =>
     obtain ⟨k,L,rfl,hk,hro,hLl,hok,hon⟩:=hrel
     have HRW:=Zh hro
     have HOK:=Zh hok
     have HON:=Zh hon
     clear hro hok hon
     by_cases hkl:k < lim
     ·have b8:decide (k < lim) = true:=by simp;omega
      by_cases hk0:k = 0
      ·have b9:decide (0 < k) = false:=by simp;omega
       have b9':decide ((0:Int) < (k:Int)) = false:=by simp;omega
       have qkl:(k:Int) < (lim:Int):=by omega
       have HK0:=Zh hk0
       clear hk0
       have HNX0:=Zh (HNX.out wr HON.out none none 0 0 0 [] ⟨by simp,by simp,.inl rfl⟩ (by simp) (by simp))
       have hgw:w3.heap.size < wr.heap.size:=Nat.lt_of_lt_of_le hsz4 HON.out.size
       go_wp2_with fail
       refine HNX0.out.mono ?_
       rintro e w5 ⟨na,nc,na2,nc2,rfl,ho1,ho2,hb5⟩
       have HN1:=Zh ho1
       have HN2:=Zh ho2
       have HB5:=Zh hb5
       have HRW5:=Zh (HRW.out.below hb5)
       obtain ⟨c0,c1,f0,f1⟩:=HRW5.out.atRw (show k < L.length by omega)
       have HST:=Zh (HRW5.out.storedRw k ((na,(nextR sy []).length,nc),(na2,(nextR sy []).length,nc2)) (show k < L.length by omega))
       have HOW:=Zh (show Only (fun b=>b = w3.heap.size) wr ((w5.setCell ⟨w3.heap.size,2 * k,none⟩ (.slice na (nextR sy []).length nc)).setCell ⟨w3.heap.size,2 * k + 1,none⟩ (.slice na2 (nextR sy []).length nc2)) from
        (Only.ofBelow HB5.out).trans (Only.trans ⟨HST.out.2.1.os,HST.out.2.1.tape,HST.out.2.1.output,HST.out.2.1.size,fun b hb hne=>HST.out.2.1.block b hb (fun e=>by cases e;exact hne rfl)⟩ ⟨HST.out.2.2.os,HST.out.2.2.tape,HST.out.2.2.output,HST.out.2.2.size,fun b hb hne=>HST.out.2.2.block b hb (fun e=>by cases e;exact hne rfl)⟩))
       have HOW5:=Zh (show Only (fun b=>b = w3.heap.size) w5 ((w5.setCell ⟨w3.heap.size,2 * k,none⟩ (.slice na (nextR sy []).length nc)).setCell ⟨w3.heap.size,2 * k + 1,none⟩ (.slice na2 (nextR sy []).length nc2)) from
        Only.trans ⟨HST.out.2.1.os,HST.out.2.1.tape,HST.out.2.1.output,HST.out.2.1.size,fun b hb hne=>HST.out.2.1.block b hb (fun e=>by cases e;exact hne rfl)⟩ ⟨HST.out.2.2.os,HST.out.2.2.tape,HST.out.2.2.output,HST.out.2.2.size,fun b hb hne=>HST.out.2.2.block b hb (fun e=>by cases e;exact hne rfl)⟩)
       have HNEW:=Zh (show RwAt w5 (w3.heap.size + 1) ((na,(nextR sy []).length,nc),(na2,(nextR sy []).length,nc2)) (rowS sy k) from by
        rw [HK0.out]
        refine ⟨rfl,rfl,HN1.out.row,HN2.out.row,fun b hb=>?_,fun b hb=>?_⟩
        ·rcases HN1.out.form with ⟨h,_⟩ | ⟨g',h,h2,h3⟩
         ·rw [show na = some b from hb] at h;cases h
         ·rw [show na = some b from hb] at h;cases h;exact ⟨by show _ <= g';omega,h3⟩
        ·rcases HN2.out.form with ⟨h,_⟩ | ⟨g',h,h2,h3⟩
         ·rw [show na2 = some b from hb] at h;cases h
         ·rw [show na2 = some b from hb] at h;cases h;exact ⟨by show _ <= g';omega,h3⟩)
       rw [Nat.mul_comm 2 k] at c0 c1 f0 f1 HST HOW HOW5
       clear ho1 ho2 hb5
       go_wp2_with fail
       go_roundw
       case rel =>
        refine ⟨k + 1,L.set k ((na,(nextR sy []).length,nc),(na2,(nextR sy []).length,nc2)),by go_num,by omega,HST.out.1,by rw [List.length_set];exact hLl,fun j hj hjk=>?_,HON.out.trans HOW.out⟩
        rw [List.length_set] at hj
        by_cases hjk2:j = k
        ·subst hjk2
         rw [List.getElem_set_self]
         exact HNEW.out.only HOW5.out (fun b h1 _ h=>by omega)
        ·rw [List.getElem_set_ne (fun e=>hjk2 e.symm)]
         exact (HOK.out j hj (by omega)).only HOW.out (fun b h1 _ h=>by omega)
       case measure=>simp [intOf];omega
      ·have b9:decide (0 < k) = true:=by simp;omega
       have b9':decide ((0:Int) < (k:Int)) = true:=by simp;omega
       have qkl:(k:Int) < (lim:Int):=by omega
       obtain ⟨k1,hk1⟩:∃ k1,k = k1 + 1:=⟨k - 1,by omega⟩
       have HK0:=Zh hk1
       have qk1:(k:Int) - 1 = (k1:Int):=by omega
       have qk1l:(k1:Int) < (lim:Int):=by omega
       have qk1w:IntKind.i64.wrap (k1:Int) = (k1:Int):=IntWalk.i64_in _ (by omega)
       have hat:=HOK.out k1 (by omega) (by omega)
       obtain ⟨p0,p1,_,_⟩:=HRW.out.atRw (show k1 < L.length by omega)
       generalize L[k1]'(by omega) = X at *
       obtain ⟨⟨xa,xn,xc⟩,⟨ya,yn,yc⟩⟩:=X
       obtain ⟨e1,e2,e3,e4,_,_⟩:=hat
       simp only at e1 e2 e3 p0 p1
       have hwl:(wts (rowS sy k1)).length = xn:=by rw [Zes,e1]
       have hrle:=HRL.out k1
       have hpw:1099511627776 * 2 ^ (k1 + 1) <= 288230376151711744:=by
        have:2 ^ (k1 + 1) <= 2 ^ 18:=Nat.pow_le_pow_right (by decide) (by omega)
        omega
       have HNX0:=Zh (HNX.out wr HON.out xa ya xc yn yc (wts (rowS sy k1)) e3 (fun x hx=>Nat.le_trans (HSW.out k1 x hx) hpw) (by rw [Zes];omega))
       rw [hwl] at HNX0
       have HRE:=Zh (show rowS sy k = nextR sy (wts (rowS sy k1)) from by rw [hk1];rfl)
       rw [Nat.mul_comm 2 k1] at p0 p1
       clear hk1 hk0 e1 e2 e3 e4 hwl hrle hpw
       obtain ⟨lst,hlst⟩:∃ lst,wts (rowS sy k1) = lst:=⟨_,rfl⟩
       rw [hlst] at HNX0 HRE
       clear hlst
       have hgw:w3.heap.size < wr.heap.size:=Nat.lt_of_lt_of_le hsz4 HON.out.size
       go_wp2_with fail
       refine HNX0.out.mono ?_
       rintro e w5 ⟨na,nc,na2,nc2,rfl,ho1,ho2,hb5⟩
       have HN1:=Zh ho1
       have HN2:=Zh ho2
       have HB5:=Zh hb5
       have HRW5:=Zh (HRW.out.below hb5)
       obtain ⟨c0,c1,f0,f1⟩:=HRW5.out.atRw (show k < L.length by omega)
       have HST:=Zh (HRW5.out.storedRw k ((na,(nextR sy lst).length,nc),(na2,(nextR sy lst).length,nc2)) (show k < L.length by omega))
       have HOW:=Zh (show Only (fun b=>b = w3.heap.size) wr ((w5.setCell ⟨w3.heap.size,2 * k,none⟩ (.slice na (nextR sy lst).length nc)).setCell ⟨w3.heap.size,2 * k + 1,none⟩ (.slice na2 (nextR sy lst).length nc2)) from
        (Only.ofBelow HB5.out).trans (Only.trans ⟨HST.out.2.1.os,HST.out.2.1.tape,HST.out.2.1.output,HST.out.2.1.size,fun b hb hne=>HST.out.2.1.block b hb (fun e=>by cases e;exact hne rfl)⟩ ⟨HST.out.2.2.os,HST.out.2.2.tape,HST.out.2.2.output,HST.out.2.2.size,fun b hb hne=>HST.out.2.2.block b hb (fun e=>by cases e;exact hne rfl)⟩))
       have HOW5:=Zh (show Only (fun b=>b = w3.heap.size) w5 ((w5.setCell ⟨w3.heap.size,2 * k,none⟩ (.slice na (nextR sy lst).length nc)).setCell ⟨w3.heap.size,2 * k + 1,none⟩ (.slice na2 (nextR sy lst).length nc2)) from
        Only.trans ⟨HST.out.2.1.os,HST.out.2.1.tape,HST.out.2.1.output,HST.out.2.1.size,fun b hb hne=>HST.out.2.1.block b hb (fun e=>by cases e;exact hne rfl)⟩ ⟨HST.out.2.2.os,HST.out.2.2.tape,HST.out.2.2.output,HST.out.2.2.size,fun b hb hne=>HST.out.2.2.block b hb (fun e=>by cases e;exact hne rfl)⟩)
       have HNEW:=Zh (show RwAt w5 (w3.heap.size + 1) ((na,(nextR sy lst).length,nc),(na2,(nextR sy lst).length,nc2)) (rowS sy k) from by
        rw [HRE.out]
        refine ⟨rfl,rfl,HN1.out.row,HN2.out.row,fun b hb=>?_,fun b hb=>?_⟩
        ·rcases HN1.out.form with ⟨h,_⟩ | ⟨g',h,h2,h3⟩
         ·rw [show na = some b from hb] at h;cases h
         ·rw [show na = some b from hb] at h;cases h;exact ⟨by show _ <= g';omega,h3⟩
        ·rcases HN2.out.form with ⟨h,_⟩ | ⟨g',h,h2,h3⟩
         ·rw [show na2 = some b from hb] at h;cases h
         ·rw [show na2 = some b from hb] at h;cases h;exact ⟨by show _ <= g';omega,h3⟩)
       rw [Nat.mul_comm 2 k] at c0 c1 f0 f1 HST HOW HOW5
       clear ho1 ho2 hb5
       go_wp2_with fail
       go_roundw
       case rel =>
        refine ⟨k + 1,L.set k ((na,(nextR sy lst).length,nc),(na2,(nextR sy lst).length,nc2)),by go_num,by omega,HST.out.1,by rw [List.length_set];exact hLl,fun j hj hjk=>?_,HON.out.trans HOW.out⟩
        rw [List.length_set] at hj
        by_cases hjk2:j = k
        ·subst hjk2
         rw [List.getElem_set_self]
         exact HNEW.out.only HOW5.out (fun b h1 _ h=>by omega)
        ·rw [List.getElem_set_ne (fun e=>hjk2 e.symm)]
         exact (HOK.out j hj (by omega)).only HOW.out (fun b h1 _ h=>by omega)
       case measure=>simp [intOf];omega
     ·have b8:decide (k < lim) = false:=by simp;omega
      obtain rfl:lim = k:=by omega
      have HB5:=Zh (show Below w2.heap.size w2 wr from Below.only (HB3.out.trans (Below.of_grown HG4.out (HB3.out.size) (fun g hg=>by cases hg))) HON.out (Nat.le_refl _) (fun b hb=>by omega))
      have HU5:=Zh (HUL.out.below HB5.out)
      obtain ⟨bo,oo,hoe,hbo,_⟩:=HRO.out.at (show 0 < (rar f).length by omega)
      subst hoe
      have hcapo:=HRO.out.1
      have hw12:w1.heap.size < w2.heap.size:=by
       rcases HUL.out.form with ⟨h,_⟩ | ⟨g',h,_,h5⟩
       ·cases h
       ·simp only [Option.some.injEq,Addr.mk.injEq,and_true] at h;omega
      have hgw3:w3.heap.size < wr.heap.size:=Nat.lt_of_lt_of_le hsz4 HON.out.size
      have HRO5:=Zh (fun A' (h:Only (fun b=>b = w1.heap.size) wr A')=>((HRO2.out wr HB5.out).same h.size (fun x h0 hx=>by
       simp only [Option.some.injEq] at hx
       subst hx
       exact h.block bo (by have:=HB5.out.size;omega) (by show ¬ bo = _;omega)):RowN .i64 A' (some ⟨bo,oo,none⟩) oc (rar f)))
      go_wp2_with fail
      generalize hw5:wr = w5 at *
      clear hw5
      go_loopw [15,16,17,104] (fun t _ _ i A'=>∃ k tk,i = .int .i64 (k:Nat) /\ k <= lim /\ t = .int .i64 (tk:Nat) /\ tk = tkn sy lim k /\ OwnN 5 .u8 A' w1.heap.size (some ⟨w1.heap.size,0,none⟩) f.length (lenInL f lim k 0) /\ Only (fun b=>b = w1.heap.size) w5 A') (fun _ _ _ i _=>lim - (intOf i).toNat)
      case atStart=>exact ⟨0,tkn sy lim 0,rfl,Nat.zero_le _,congrArg (Value.int IntKind.i64) (by show _ = ((2 * sy.length - 2:Nat):Int);omega),rfl,by rw [Zfk];exact HU5.out,.refl _ _⟩
      case round =>
       obtain ⟨k,tk,rfl,hk,rfl,htk,ho,hon5⟩:=hrel
       have HO5:=Zh ho
       have HN5:=Zh hon5
       clear ho hon5
       by_cases hkl2:k < lim
       ·have b10:decide (k < lim) = true:=by simp;omega
        obtain ⟨l1,hl1⟩:∃ l1,lim - 1 = l1:=⟨_,rfl⟩
        obtain ⟨j,hj⟩:∃ j,l1 - k = j:=⟨_,rfl⟩
        have ql1:(lim:Int) - 1 = (l1:Int):=by omega
        have qj:(l1:Int) - (k:Int) = (j:Int):=by omega
        have qjl:(j:Int) < (lim:Int):=by omega
        have hjL:j < L.length:=by omega
        have hat:=(HOK.out j hjL (by omega)).only HN5.out (fun b h1 _ h=>by omega)
        obtain ⟨_,p1,_,_⟩:=HRW.out.atRw hjL
        have p1':=(World.cell?_of_block (a:=⟨w3.heap.size,2 * j + 1,none⟩) (HN5.out.block w3.heap.size (by omega) (by show ¬ w3.heap.size = _;omega))).trans p1
        generalize L[j]'hjL = X at *
        obtain ⟨⟨xa,xn,xc⟩,⟨ya,yn,yc⟩⟩:=X
        obtain ⟨_,e2,_,e4,_,_⟩:=hat
        simp only at e2 e4 p1'
        rw [e2] at p1'
        have hfit:=HTF.out k hkl2
        have hcn:=HCN.out k hkl2
        have hnx:=Zfj f lim k
        rw [HSE.out] at hnx
        have hjj:lim - 1 - k = j:=by omega
        have hcd:symN (rowS sy j) tk = cnt sy lim k:=by rw [htk,<- hjj];rfl
        rw [hjj,<- htk] at hfit
        have htd:tkn sy lim (k + 1) = 2 * (tk - cnt sy lim k):=by rw [htk];rfl
        have hle:=Zim sy lim k
        rw [<- htk] at hle
        have hrle:=HRL.out j
        rw [Nat.mul_comm 2 j] at p1'
        have HFI:=Zh (Zjo wr w3.heap.size (j * 2) ya yc (rowS sy j) tk p1' e4 hfit (by omega))
        rw [hcd] at HFI
        clear hcd e2 e4 p1' p1
        generalize cnt sy lim k = n at *
        generalize htk2:tkn sy lim (k + 1) = d2 at *
        obtain ⟨d,hd⟩:∃ d,tk - n = d:=⟨_,rfl⟩
        rw [hd] at htd
        have qd:(tk:Int) - (n:Int) = (d:Int):=by omega
        have qd2:2 * (d:Int) = (d2:Int):=by omega
        have hcut:=cutInts bo oo n (rar f).length oc (by omega)
        have HNX5:=Zh hnx
        have HTK2:=Zh htk2
        have hd2:d2 <= 3000:=by omega
        have hn20:n <= 600:=by omega
        clear hnx htk2 htk hd htd hj hl1 hjj
        go_wp2_with (go_at_call 86;refine HFI.out.mono ?_;rintro e w' ⟨rfl,rfl⟩)
        go_loopw [19,119] (fun _ i A'=>∃ t,i = .int .i64 (t:Nat) /\ t <= n /\ OwnN 5 .u8 A' w1.heap.size (some ⟨w1.heap.size,0,none⟩) f.length (lenInL f lim k t) /\ Only (fun b=>b = w1.heap.size) w5 A') (fun _ i _=>n - (intOf i).toNat)
        case atStart=>exact ⟨0,rfl,Nat.zero_le _,HO5.out,HN5.out⟩
        case round =>
         obtain ⟨t,rfl,ht,ho,hon5⟩:=hrel
         have HO6:=Zh ho
         have HN6:=Zh hon5
         clear ho hon5 HO5 HN5
         by_cases htn:t < n
         ·have b11:decide (t < n) = true:=by simp;omega
          have htr:t < (rar f).length:=by omega
          obtain ⟨bo2,oo2,hoe2,_,hoc⟩:=(HRO5.out wr HN6.out).at htr
          simp only [Option.some.injEq,Addr.mk.injEq,and_true] at hoe2
          obtain ⟨rfl,rfl⟩:=hoe2
          have hs1:(rar f)[t] < f.length:=((Zcb f _).1 (List.getElem_mem htr)).1
          have hst:=Zjd f lim k t htr
          have hll:=Zbz f lim k t
          have hsL:(rar f)[t] < (lenInL f lim k t).length:=by rw [hll];exact hs1
          have hv0:(lenInL f lim k t).getD (rar f)[t] 0 = (lenInL f lim k t)[(rar f)[t]]'hsL:=by rw [List.getD_eq_getElem?_getD,List.getElem?_eq_getElem hsL];rfl
          have hv1:=Zok f lim k t _ (List.getElem_mem hsL)
          obtain ⟨g9,hg9,_,_,hoc2,hof2⟩:=HO6.out.at hsL
          simp only [Option.some.injEq,Addr.mk.injEq,and_true] at hg9
          subst hg9
          rw [hv0] at hst
          generalize (lenInL f lim k t)[(rar f)[t]]'hsL = v at *
          generalize (rar f)[t] = s at *
          obtain ⟨v1,hv1e⟩:∃ v1,v + 1 = v1:=⟨_,rfl⟩
          have qv:(v:Int) + 1 = (v1:Int):=by omega
          have qvw:IntKind.u8.wrap (v1:Int) = (v1:Int):=IntWalk.u8_in _ (by omega)
          rw [hv1e] at hst
          have HST:=Zh (HO6.out.stored s v1)
          rw [<- hst] at HST
          have qt:(t:Int) < (n:Int):=by omega
          have qs:(s:Int) < (f.length:Int):=by omega
          clear hst hv0 hv1e
          go_wp2_with fail
          go_roundw
          case rel=>exact ⟨t + 1,by go_num,by omega,HST.out.1,HN6.out.trans ⟨HST.out.2.os,HST.out.2.tape,HST.out.2.output,HST.out.2.size,fun b hb hne=>HST.out.2.block b hb (fun e=>by cases e;exact hne rfl)⟩⟩
          case measure=>simp [intOf];omega
         ·have b11:decide (t < n) = false:=by simp;omega
          obtain rfl:n = t:=by omega
          go_wp2_with fail
          go_roundw
          case rel=>exact ⟨k + 1,d2,by go_num,by omega,rfl,HTK2.out.symm,by rw [<- HNX5.out];exact HO6.out,HN6.out⟩
          case measure=>simp [intOf];omega
       ·have b10:decide (k < lim) = false:=by simp;omega
        obtain rfl:lim = k:=by omega
        have HAL:=Zh (Zgv f lim)
        go_wp2
        go_ret2
        exact ⟨_,_,rfl,by rw [<- HAL.out];exact HO5.out.mono HB.out.size,Below.only (HB2.out.trans (HB5.out.mono HB2.out.size)) HN5.out (Nat.le_refl _) (fun b hb=>by have:=HB.out.size;omega)⟩
  -- two ends
end Go.Proofs.YtendielanacflaaGreat
namespace Go.Proofs.YtendielanacflaaGreat
open Go.RowKit Go.Shelf M01 M04 M05 M06 M07 M09
attribute [local go_sem] Oper.semAt_some
theorem pow15 (n:Nat) (h:n <= 300):n <= 2 ^ 15:=Nat.le_trans h (by decide)
theorem Zacv (f:List Nat) (lim:Nat) (h:(rar f).length = 1):limL f lim = len0 f:=by
 have hk:∀ i,lenInL f lim i 0 = lenInL f lim 0 0:=by
  intro i
  induction i with
  | zero=>rfl
  | succ i ih =>
   rw [<- ih,<- Zfj]
   have hc:cnt (symW f) lim i = 0:=by
    have:=Zim (symW f) lim i
    rw [Zrx (symW f) lim (by rw [Zbq];exact h)] at this;omega
   rw [hc]
 rw [<- Zgv,hk,Zfk]
theorem Zahd (n s:Nat) (hs:s < n):((List.replicate n 0).set s 1).sum = 1:=by
 induction n generalizing s with
 | zero=>omega
 | succ n ih =>
  rw [List.replicate_succ]
  cases s with
  | zero=>simp
  | succ s=>rw [List.set_cons_succ,List.sum_cons,ih s (by omega)]
theorem Zcp (f:List Nat) (hl:f.length <= 286):(∀ x ∈ limL f 15,x <= 15) /\ (((clsE (limL f 15)).1 = 2 \/ singleB (limL f 15) = true) \/ ((clsE (limL f 15)).1 = 0 /\ (rar f).length = 0)):=by
 have hr1:=(Zbg f).length_eq
 have hr2:=Zfq f
 have h15:∀ x ∈ limL f 15,x <= 15:=by
  intro x hx
  obtain ⟨c,hc,rfl⟩:=List.getElem_of_mem hx
  have hc':=hc
  rw [Zas] at hc'
  have h1:=Zfv f 15 c hc'
  rw [List.getD_eq_getElem?_getD,List.getElem?_eq_getElem hc] at h1
  simp only [Option.getD_some] at h1
  rw [h1]
  exact (Zev f 15 c (by decide) (pow15 _ (by omega)) hc').1
 have hmay:May (limL f 15):=⟨fun x hx=>Nat.le_trans (h15 x hx) (by decide),by rw [Zas];omega⟩
 refine ⟨h15,?_⟩
 rcases (show (rar f).length = 0 \/ (rar f).length = 1 \/ 2 <= (rar f).length by omega) with h | h | h
 ·right
  refine ⟨?_,h⟩
  have hw:weight (limL f 15) = 0:=by
   rw [Zom f 15 h]
   unfold weight
   rw [List.map_replicate]
   generalize f.length = n
   induction n with
   | zero=>rfl
   | succ n ih=>rw [List.replicate_succ,List.sum_cons,ih];rfl
  unfold clsE
  rw [if_pos hmay]
  show cls (limL f 15) = 0
  unfold cls
  rw [if_pos hw]
 ·left;right
  rw [Zacv f 15 h]
  unfold len0
  rw [if_pos h]
  obtain ⟨s0,hs0⟩:=List.length_eq_one_iff.1 h
  have hm:=(Zcb f s0).1 (by rw [hs0];exact List.mem_singleton_self _)
  rw [hs0]
  show singleB ((List.replicate f.length 0).set s0 1) = true
  unfold singleB
  rw [Zahd f.length s0 hm.1]
  simp only [and_true,decide_eq_true_eq]
  intro x hx
  rcases List.mem_or_eq_of_mem_set hx with h' | rfl
  ·have:=List.eq_of_mem_replicate h';omega
  ·exact Nat.le_refl _
 ·left;left
  have hw:=Zol f 15 (by decide) (by decide) h (pow15 _ (by omega))
  unfold clsE
  rw [if_pos hmay]
  show cls (limL f 15) = 2
  unfold cls
  rw [hw]
  decide
theorem Zaaz (f o:List Nat) (h1:257 <= f.length) (h2:f.length <= 286) (h3:1 <= o.length) (h4:o.length <= 30) (h5:0 < f.getD 256 0):mayH (limL f 15) (limL o 15) = true:=by
 obtain ⟨f1,f2⟩:=Zcp f h2
 obtain ⟨o1,o2⟩:=Zcp o (by omega)
 have hr1:=(Zbg f).length_eq
 have hr2:=Zfq f
 have hz:(limL f 15).getD 256 0 ≠ 0:=by
  rw [Zfv f 15 256 (by omega)]
  have:=(Zev f 15 256 (by decide) (pow15 _ (by omega)) (by omega)).2
  omega
 have hf:(clsE (limL f 15)).1 = 2 \/ singleB (limL f 15) = true:=by
  rcases f2 with h | ⟨_,h⟩
  ·exact h
  ·have:(256:Nat) ∈ rar f:=(Zcb f 256).2 ⟨by omega,h5⟩
   rw [List.length_eq_zero_iff.1 h] at this;cases this
 have hlf:long (limL f 15) = false:=by
  unfold long;simp;intro x hx;exact f1 x hx
 have hlo:long (limL o 15) = false:=by
  unfold long;simp;intro x hx;exact o1 x hx
 unfold mayH
 simp only [Zas,hlf,hlo,Bool.not_false,Bool.and_true,Bool.and_eq_true,decide_eq_true_eq,Bool.or_eq_true]
 refine ⟨⟨⟨⟨⟨⟨h1,h2⟩,h3⟩,h4⟩,hz⟩,hf⟩,?_⟩
 rcases o2 with h | ⟨h,_⟩
 ·rcases h with h | h
  ·exact .inl (.inl h)
  ·exact .inr h
 ·exact .inl (.inr h)
theorem cutU8 (b off m n c:Nat) (h:m <= c) (w:World):(Instr.sliceAt 24 (.slice (some ⟨b,off,none⟩) n c) none (some (.int .i64 (m:Nat))) none).run Tryz.prog w = .ok (.slice (some ⟨b,off,none⟩) m c) w:=by
 have hz:(Tryz.prog.info? 5).map (·.size) = some 1:=by kernel_rfl
 cases h5:Tryz.prog.info? 5 with
 | none=>rw [h5] at hz;cases hz
 | some ie =>
  simp [Instr.sliceAt,Instr.slice,Instr.sliceBounds,Instr.sliceBound,run_underlying Tryz.underlying24,asIntOf,sizeOf,typeInfo,h5,go_sem,h,Addr.add]
theorem Zme (w:World) (a:Option Addr) (cap:Nat) (f:List Nat) (lim:Nat) (hr:RowN .i64 w a cap f) (hl:f.length <= 512) (hu:(used f).length < 20) (hx:∀ x ∈ f,x <= 1099511627776) (h1:1 <= lim) (h17:lim <= 17) (hm:(rar f).length <= 2 ^ lim) :
  Calls Tryz.prog 45 #[.slice a f.length cap,.int .i64 (lim:Nat)] w fun e w'=>∃ a' c',e = .returned (.tuple #[.slice a' f.length c',.int .i64 0]) /\ OwnN 5 .u8 w' w.heap.size a' c' (limL f lim) /\ Below w.heap.size w w':=by
 exact Zdl w a cap f lim hr hl (by omega) hx h1 h17 hm
end Go.Proofs.YtendielanacflaaGreat
