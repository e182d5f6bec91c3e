/- header.signs: the first and the last frequency above 0: contracts. Plain mathematics of layers 1 and 6: bits that were laid are read back. Plain mathematics of layer 9: a head that is laid, and read back. Plain mathematics of layer 10: symbols by two codes. Layer 10: blocks, a stream; and what is read depends on the bits that are read. Plain mathematics of layer 10: blocks that were laid are read back. Plain mathematics of layer 5: the insertion sort by frequency puts the rarest first. -/
import Derived.Test.YtendielanacflaaGreatB01
import Derived.Test.YtendielanacflaaGreatB04
import Derived.Test.YtendielanacflaaGreatB05
import Derived.Test.YtendielanacflaaGreatB03
set_option linter.unusedVariables false
set_option linter.unusedSimpArgs false
namespace Go.Proofs.YtendielanacflaaGreat
open Go.RowKit Go.Shelf M04 M05
attribute [local go_sem] Oper.semAt_some
def lstF (f:List Nat):Nat -> Int
 | 0=>-1
 | k + 1=>if 0 < f.getD k 0 then (k:Int) else lstF f k
def fstF (f:List Nat):Nat -> Nat -> Int
 | _,0=>-1
 | k,n + 1=>if 0 < f.getD k 0 then (k:Int) else fstF f (k + 1) n
set_option maxRecDepth 100000 in
theorem Zus (a:Option Addr) (cap:Nat) (l:List Nat) (w:World) (hr:RowN .i64 w a cap l) (hl:l.length <= 100000) :
  Calls Tryz.prog 95 #[.slice a l.length cap] w fun e w'=>e = .returned (.int .i64 (lstF l l.length)) /\ w' = w:=by
 obtain ⟨T,hT⟩:∃ T,lstF l l.length = T:=⟨_,rfl⟩
 have HT:=Zh hT
 rw [hT]
 clear hT
 go_enter Tryz.func95,Tryz.ntmps95
 go_wp2_with fail
 go_loop [2,3] (fun _ i=>∃ k:Nat,k <= l.length /\ i = .int .i64 ((k:Int) - 1) /\ lstF l k = T) (fun _ i=>(intOf i + 1).toNat)
 case atStart=>exact ⟨l.length,Nat.le_refl _,by go_num,HT.out⟩
 case round =>
  clear HT
  obtain ⟨k,hk,rfl,ht⟩:=hrel
  have HT:=Zh ht
  clear ht
  by_cases h0:0 < k
  ·obtain ⟨j,rfl⟩:∃ j,k = j + 1:=⟨k - 1,by omega⟩
   have hj:j < l.length:=by omega
   obtain ⟨b,off,rfl,hb,hck⟩:=hr.at hj
   have hg:l.getD j 0 = l[j]:=by rw [List.getD_eq_getElem?_getD,List.getElem?_eq_getElem hj];rfl
   have HT2:=Zh (show (if 0 < l.getD j 0 then (j:Int) else lstF l j) = T from HT.out)
   rw [hg] at HT2
   clear hr HT hg h0
   have e1:((j + 1:Nat):Int) - 1 = (j:Int):=by omega
   rw [e1]
   have qj:(j:Int) < (l.length:Int):=by omega
   have b0:decide ((0:Int) <= (j:Int)) = true:=by simp
   clear e1
   generalize l[j] = x at *
   by_cases hx:0 < x
   ·have b1:decide (0 < x) = true:=by simpa using hx
    rw [if_pos hx] at HT2
    clear hx
    go_wp2
    go_ret
    exact ⟨by rw [<- HT2.out];rfl,rfl⟩
   ·have b1:decide (0 < x) = false:=by simpa using hx
    rw [if_neg hx] at HT2
    clear hx
    go_wp2
    go_round
    case rel=>exact ⟨j,by omega,by go_num,HT2.out⟩
    case measure=>simp [intOf]
  ·obtain rfl:k = 0:=by omega
   have HT2:=Zh (show (-1:Int) = T from HT.out)
   clear HT h0
   have b0:decide ((0:Int) <= ((0:Nat):Int) - 1) = false:=rfl
   go_wp2
   go_ret
   exact ⟨by rw [<- HT2.out];rfl,rfl⟩
set_option maxRecDepth 100000 in
theorem Ztn (x:Nat) (w:World):Calls Tryz.prog 94 #[.int .i64 (x:Nat)] w fun e w'=>e = .returned (.bool (decide (0 < x))) /\ w' = w:=by
 go_enter Tryz.func94,Tryz.ntmps94
 go_wp2
 go_ret
 simp
set_option maxRecDepth 100000 in
theorem Zql (a:Option Addr) (cap:Nat) (l:List Nat) (w:World) (hr:RowN .i64 w a cap l) :
  Calls Tryz.prog 93 #[.slice a l.length cap,.func (Fn.func 94) #[] #[]] w fun e w'=>e = .returned (.int .i64 (fstF l 0 l.length)) /\ w' = w:=by
 have hlen:=hr.len
 obtain ⟨T,hT⟩:∃ T,fstF l 0 l.length = T:=⟨_,rfl⟩
 have HT:=Zh hT
 rw [hT]
 clear hT
 go_enter Tryz.func93,Tryz.ntmps93
 go_wp2_with fail
 go_loop [5,8] (fun _ i=>∃ k:Nat,k <= l.length /\ i = .int .i64 k /\ fstF l k (l.length - k) = T) (fun _ i=>l.length - (intOf i).toNat)
 case atStart=>exact ⟨0,by omega,rfl,HT.out⟩
 case round =>
  clear HT
  obtain ⟨k,hk,rfl,ht⟩:=hrel
  have HT:=Zh ht
  clear ht
  by_cases hlt:k < l.length
  ·obtain ⟨b,off,rfl,hb,hck⟩:=hr.at hlt
   clear hr
   have hg:l.getD k 0 = l[k]:=by rw [List.getD_eq_getElem?_getD,List.getElem?_eq_getElem hlt];rfl
   obtain ⟨m,hm⟩:∃ m,l.length - k = m + 1:=⟨l.length - k - 1,by omega⟩
   have HT2:=Zh (show (if 0 < l.getD k 0 then (k:Int) else fstF l (k + 1) m) = T from by have:=HT.out;rw [hm] at this;exact this)
   have HM:=Zh (show m = l.length - (k + 1) from by omega)
   rw [hg] at HT2
   clear hm HT hg
   generalize l[k] = x at *
   by_cases hx:0 < x
   ·have hd:decide (0 < x) = true:=by simpa using hx
    rw [if_pos hx] at HT2
    clear hx
    go_wp2_with (go_at_call 94;refine (Ztn x _).mono ?_;rintro e w' ⟨rfl,rfl⟩;rw [hd])
    go_ret
    exact ⟨by rw [<- HT2.out];rfl,rfl⟩
   ·have hd:decide (0 < x) = false:=by simpa using hx
    rw [if_neg hx] at HT2
    clear hx
    go_wp2_with (go_at_call 94;refine (Ztn x _).mono ?_;rintro e w' ⟨rfl,rfl⟩;rw [hd])
    go_round
    case rel=>exact ⟨k + 1,by omega,by go_num,by rw [<- HM.out];exact HT2.out⟩
    case measure=>simp [intOf];omega
  ·have b1:decide (k < l.length) = false:=by simp;omega
   have HT2:=Zh (show (-1:Int) = T from by have:=HT.out;rw [show l.length - k = 0 by omega] at this;exact this)
   clear HT
   go_wp2
   go_ret
   exact ⟨by rw [<- HT2.out];rfl,rfl⟩
end Go.Proofs.YtendielanacflaaGreat
namespace Go.Proofs.YtendielanacflaaGreat.M01
open M04 M06 M10
theorem Zlq (bs:List Nat) (i:Nat):bit bs i = ((bs.getD (i / 8) 0).testBit (i % 8)).toNat:=by
 unfold bit;rw [Nat.toNat_testBit]
theorem Zqa (bs:List Nat) (i:Nat) (h:8 * bs.length <= i):bit bs i = 0:=by
 unfold bit
 rw [List.getD_eq_getElem?_getD,List.getElem?_eq_none (by omega)];simp
def WZ (s:Wst):Prop:=∀ i,s.2 <= i -> bit s.1 i = 0
def ExtW (s s':Wst):Prop:=s.2 <= s'.2 /\ ∀ i,i < s.2 -> bit s'.1 i = bit s.1 i
theorem ExtW.refl (s:Wst):ExtW s s:=⟨Nat.le_refl _,fun _ _=>rfl⟩
theorem ExtW.trans {s t u:Wst} (h:ExtW s t) (h2:ExtW t u):ExtW s u :=
 ⟨Nat.le_trans h.1 h2.1,fun i hi=>(h2.2 i (Nat.lt_of_lt_of_le hi h.1)).trans (h.2 i hi)⟩
theorem Znk (s:Wst) (i:Nat):bit (roomy s) i = bit s.1 i:=by
 unfold roomy
 split
 ·unfold bit
  congr 2
  rw [List.getD_eq_getElem?_getD,List.getD_eq_getElem?_getD]
  by_cases h:i / 8 < s.1.length
  ·rw [List.getElem?_append_left h]
  ·rw [List.getElem?_eq_none (l:=s.1) (by omega)]
   by_cases h2:i / 8 = s.1.length
   ·rw [h2,List.getElem?_concat_length];rfl
   ·rw [List.getElem?_eq_none (by simp;omega)]
 ·rfl
theorem Zgn {s:Wst} (h:WOk s) (hz:WZ s) {b:Nat} (hb:b < 2) (i:Nat):bit (addBit s b).1 i = if i = s.2 then b else bit s.1 i:=by
 have hl:=Zgb h
 rw [<- Znk s i]
 show bit ((roomy s).set (s.2 / 8) ((roomy s).getD (s.2 / 8) 0 ||| b * 2 ^ (s.2 % 8))) i = _
 by_cases h8:i / 8 = s.2 / 8
 ·rw [Zlq]
  have hget:((roomy s).set (s.2 / 8) ((roomy s).getD (s.2 / 8) 0 ||| b * 2 ^ (s.2 % 8))).getD (i / 8) 0 = (roomy s).getD (i / 8) 0 ||| b * 2 ^ (s.2 % 8):=by
   rw [h8,List.getD_eq_getElem?_getD,List.getElem?_set_self (by omega)];rfl
  rw [hget,Nat.testBit_or]
  have hb2:(b * 2 ^ (s.2 % 8)).testBit (i % 8) = (decide (b = 1) && decide (s.2 % 8 = i % 8)):=by
   rcases (show b = 0 \/ b = 1 by omega) with rfl | rfl
   ·simp
   ·rw [Nat.one_mul,Nat.testBit_two_pow];simp
  rw [hb2]
  by_cases hi:i = s.2
  ·subst hi
   have h0:=hz s.2 (Nat.le_refl _)
   rw [<- Znk s,Zlq] at h0
   have h1:((roomy s).getD (s.2 / 8) 0).testBit (s.2 % 8) = false:=by
    cases hc:((roomy s).getD (s.2 / 8) 0).testBit (s.2 % 8)
    ·rfl
    ·rw [hc] at h0;cases h0
   rw [h1,if_pos rfl]
   rcases (show b = 0 \/ b = 1 by omega) with rfl | rfl <;> simp
  ·rw [if_neg hi,Zlq]
   have hm:¬ s.2 % 8 = i % 8:=by omega
   simp [hm]
 ·rw [if_neg (fun e=>h8 (by rw [e]))]
  unfold bit
  congr 2
  rw [List.getD_eq_getElem?_getD,List.getElem?_set_ne (fun e=>h8 e.symm),<- List.getD_eq_getElem?_getD]
theorem Zua {s:Wst} (h:WOk s) (hz:WZ s) {b:Nat} (hb:b < 2):WZ (addBit s b) /\ ExtW s (addBit s b) /\ bit (addBit s b).1 s.2 = b:=by
 have h2:(addBit s b).2 = s.2 + 1:=rfl
 refine ⟨fun i hi=>?_,⟨by omega,fun i hi=>?_⟩,?_⟩
 ·rw [Zgn h hz hb,if_neg (by omega)];exact hz i (by omega)
 ·rw [Zgn h hz hb,if_neg (by omega)]
 ·rw [Zgn h hz hb,if_pos rfl]
theorem Zgl {s:Wst} (h:WOk s) (hz:WZ s) (v n:Nat):WZ (addNum s v n) /\ ExtW s (addNum s v n) /\ ∀ j,j < n -> bit (addNum s v n).1 (s.2 + j) = v / 2 ^ j % 2:=by
 induction n with
 | zero=>exact ⟨hz,.refl _,fun j hj=>absurd hj (by omega)⟩
 | succ n ih =>
  obtain ⟨i1,i2,i3⟩:=ih
  obtain ⟨a1,a2,a3⟩:=Zua (Zij h v n) i1 (show v / 2 ^ n % 2 < 2 from Nat.mod_lt _ (by decide))
  refine ⟨a1,i2.trans a2,fun j hj=>?_⟩
  show bit (addBit (addNum s v n) (v / 2 ^ n % 2)).1 (s.2 + j) = _
  by_cases hjn:j = n
  ·subst hjn
   rw [Zac] at a3;exact a3
  ·rw [a2.2 _ (by rw [Zac];omega)];exact i3 j (by omega)
theorem Zrc (bs:List Nat) (at_ v:Nat):∀ n,(∀ j,j < n -> bit bs (at_ + j) = v / 2 ^ j % 2) -> num bs at_ n = v % 2 ^ n:=by
 intro n
 induction n with
 | zero=>intro _;simp [num,Nat.mod_one]
 | succ n ih =>
  intro h
  rw [num,ih (fun j hj=>h j (by omega)),h n (by omega),Nat.pow_succ,Nat.mod_mul,Nat.mul_comm]
theorem Zcf {s t:Wst} (h:WOk s) (hz:WZ s) (v n:Nat) (hv:v < 2 ^ n) (ht:ExtW (addNum s v n) t):num t.1 s.2 n = v:=by
 obtain ⟨_,_,h3⟩:=Zgl h hz v n
 rw [Zrc t.1 s.2 v n (fun j hj=>by rw [ht.2 _ (by rw [Zac];omega)];exact h3 j hj),Nat.mod_eq_of_lt hv]
theorem Zik {s:Wst} (h:WOk s) (hz:WZ s) (x n:Nat):∀ m,m <= n -> WOk (addWord s x n m) /\ WZ (addWord s x n m) /\ ExtW s (addWord s x n m) /\ ∀ j,j < m -> bit (addWord s x n m).1 (s.2 + j) = x / 2 ^ (n - 1 - j) % 2:=by
 intro m
 induction m with
 | zero=>intro _;exact ⟨h,hz,.refl _,fun j hj=>absurd hj (by omega)⟩
 | succ m ih =>
  intro hm
  obtain ⟨i0,i1,i2,i3⟩:=ih (by omega)
  obtain ⟨a1,a2,a3⟩:=Zgl i0 i1 (x / 2 ^ (n - 1 - m) % 2) 1
  refine ⟨Zij i0 _ _,a1,i2.trans a2,fun j hj=>?_⟩
  show bit (addNum (addWord s x n m) (x / 2 ^ (n - 1 - m) % 2) 1).1 (s.2 + j) = _
  by_cases hjn:j = m
  ·subst hjn
   have:=a3 0 (by omega)
   rw [Zbi] at this
   simpa using this
  ·rw [a2.2 _ (by rw [Zbi];omega)];exact i3 j (by omega)
theorem Zaeg (l bs:List Nat) (h20:∀ x ∈ l,x <= 20) (s at_:Nat) (hs:s < l.length) (h0:0 < l.getD s 0) (hw:weight l <= 2 ^ 20)
  (hb:∀ j,j < l.getD s 0 -> bit bs (at_ + j) = word l s / 2 ^ (l.getD s 0 - 1 - j) % 2) (hlen:at_ + l.getD s 0 <= 8 * bs.length):sym l bs at_ = some (s,at_ + l.getD s 0):=by
 have hL:l.getD s 0 <= 20:=M04.Zat h20 s
 have hsm:=Zfa l s hs h20 hw
 generalize hLe:l.getD s 0 = L at *
 have key:∀ d n,n + d = L -> decF (tabOf l) bs (22 - n) (word l s / 2 ^ (L - n)) n (at_ + n) = some (s,at_ + L):=by
  intro d
  induction d with
  | zero =>
   intro n hn
   obtain rfl:n = L:=by omega
   obtain ⟨k,hk⟩:∃ k,22 - n = k + 1:=⟨21 - n,by omega⟩
   rw [hk,Zabf l bs h20 k _ n (at_ + n) s hs ⟨by omega,by omega,by rw [hLe]⟩ hLe.symm]
  | succ d ih =>
   intro n hn
   obtain ⟨k,hk⟩:∃ k,22 - n = k + 1:=⟨21 - n,by omega⟩
   rw [hk,Zafv l bs h20 k _ n (at_ + n) s hs ⟨by omega,by omega,by rw [hLe]⟩ (by omega),if_pos (by omega),hb n (by omega)]
   have h1:=ih (n + 1) (by omega)
   have h2:2 * (word l s / 2 ^ (L - n)) + word l s / 2 ^ (L - 1 - n) % 2 = word l s / 2 ^ (L - (n + 1)):=by
    rw [show L - n = (L - (n + 1)) + 1 by omega,Nat.pow_succ,<- Nat.div_div_eq_div_mul,show L - 1 - n = L - (n + 1) by omega]
    omega
   rw [h2,show k = 22 - (n + 1) by omega]
   exact h1
 have h3:=key L 0 (by omega)
 simp only [Nat.sub_zero,Nat.add_zero] at h3
 rw [hsm] at h3
 exact h3
theorem Zcs {s:Wst} (h:WOk s) (hz:WZ s) (l:List Nat) (c:Nat):WOk (addSym l s c) /\ WZ (addSym l s c) /\ ExtW s (addSym l s c) /\ (addSym l s c).2 = s.2 + l.getD c 0:=by
 obtain ⟨a,b,d,_⟩:=Zik h hz ((words l).getD c 0) (l.getD c 0) _ (Nat.le_refl _)
 exact ⟨a,b,d,Zbi _ _ _ _⟩
theorem Zdk {s t:Wst} (h:WOk t) (he:ExtW s t):s.2 <= 8 * t.1.length:=by
 have:=h.1;have:=he.1;omega
theorem Zts {s t:Wst} (h:WOk s) (hz:WZ s) (l:List Nat) (h20:∀ x ∈ l,x <= 20) (hw:weight l <= 2 ^ 20) (c:Nat) (hc:c < l.length) (h0:0 < l.getD c 0) (ht:ExtW (addSym l s c) t) (hk:WOk t):sym l t.1 s.2 = some (c,s.2 + l.getD c 0):=by
 obtain ⟨_,_,_,h3⟩:=Zik h hz ((words l).getD c 0) (l.getD c 0) _ (Nat.le_refl _)
 have hwd:(words l).getD c 0 = word l c:=by
  rw [List.getD_eq_getElem?_getD,List.getElem?_eq_getElem (by rw [Zbc];exact hc)]
  exact Zbu l c _
 have hl2:(addSym l s c).2 = s.2 + l.getD c 0:=Zbi _ _ _ _
 refine Zaeg l t.1 h20 c s.2 hc h0 hw (fun j hj=>?_) ?_
 ·rw [ht.2 _ (by rw [hl2];omega),<- hwd]
  exact h3 j hj
 ·rw [<- hl2];exact Zdk hk ht
end Go.Proofs.YtendielanacflaaGreat.M01
namespace Go.Proofs.YtendielanacflaaGreat.M09
open M01 M04 M05 M06 M07 M10
def sgC (l:List Sg):List Nat:=(List.range 19).map fun c=>(l.map fun s=>s.1).count c
theorem Zfo (l:List Sg):(sgC l).length = 19:=by simp [sgC]
theorem Zzs (l:List Sg) (c:Nat) (h:c < 19):(sgC l).getD c 0 = (l.map fun s=>s.1).count c:=by
 rw [List.getD_eq_getElem?_getD,List.getElem?_eq_getElem (by rw [Zfo];exact h)];simp [sgC]
theorem Zads (l:List Sg) (s:Sg) (hs:s.1 < 19):sgC (l ++ [s]) = (sgC l).set s.1 ((sgC l).getD s.1 0 + 1):=by
 apply List.ext_getElem
 ·simp [sgC]
 ·intro i h1 h2
  rw [Zfo] at h1
  have g:∀ l':List Sg,∀ h:i < (sgC l').length,(sgC l')[i] = (l'.map fun s=>s.1).count i:=by intro l' h;simp [sgC]
  rw [g,List.getElem_set,g,Zzs l s.1 hs]
  rw [List.map_append,List.count_append]
  by_cases hi:s.1 = i
  ·rw [if_pos hi,hi];simp [hi]
  ·rw [if_neg hi];simp [hi]
theorem Zafg (l:List Sg):∀ x ∈ sgC l,x <= l.length:=by
 intro x hx
 unfold sgC at hx
 obtain ⟨c,_,rfl⟩:=List.mem_map.1 hx
 have:=List.count_le_length (a:=c) (l:=l.map fun s=>s.1)
 rw [List.length_map] at this;exact this
def sg1 (f:List Nat) (i:Nat):List Nat:=f.set i (f.getD i 0 + 1)
def sgI (f:List Nat):Nat -> List Nat
 | 0=>f
 | i + 1=>sg1 (sgI f i) i
def oneB (f:List Nat):Bool:=fstF f 0 f.length == lstF f f.length
def sgN (f:List Nat):Nat:=if oneB (sgI f 0) = true then (if oneB (sgI f 1) = true then 2 else 1) else 0
def sgF (f:List Nat):List Nat:=sgI f (sgN f)
theorem Zmu (f:List Nat) (i:Nat):(sgI f i).length = f.length:=by
 induction i with
 | zero=>rfl
 | succ i ih=>show ((sgI f i).set i _).length = _;rw [List.length_set,ih]
theorem Zmt (f:List Nat) (i c:Nat) (hi:i <= f.length):(sgI f i).getD c 0 = f.getD c 0 + if c < i then 1 else 0:=by
 induction i with
 | zero=>simp [sgI]
 | succ i ih =>
  show ((sgI f i).set i ((sgI f i).getD i 0 + 1)).getD c 0 = _
  rw [List.getD_eq_getElem?_getD]
  by_cases h:c = i
  ·subst h
   rw [List.getElem?_set_self (by rw [Zmu];omega),if_pos (by omega),ih (by omega),if_neg (by omega)]
   rfl
  ·rw [List.getElem?_set_ne (fun e=>h e.symm),<- List.getD_eq_getElem?_getD,ih (by omega)]
   by_cases h2:c < i
   ·rw [if_pos h2,if_pos (by omega)]
   ·rw [if_neg h2,if_neg (by omega)]
theorem Zyh (f:List Nat) (n c:Nat) (hc:c < n) (h:0 < f.getD c 0):(c:Int) <= lstF f n:=by
 induction n with
 | zero=>omega
 | succ n ih =>
  unfold lstF
  split
  ·omega
  ·next hn =>
   by_cases hcn:c = n
   ·subst hcn;exact absurd h hn
   ·exact ih (by omega)
theorem Zst (f:List Nat) (n:Nat):lstF f n = -1 \/ ∃ c:Nat,lstF f n = c /\ c < n /\ 0 < f.getD c 0:=by
 induction n with
 | zero=>exact .inl rfl
 | succ n ih =>
  unfold lstF
  split
  ·next h=>exact .inr ⟨n,rfl,by omega,h⟩
  ·rcases ih with h | ⟨c,h1,h2,h3⟩
   ·exact .inl h
   ·exact .inr ⟨c,h1,by omega,h3⟩
theorem Zacb (f:List Nat) (n k:Nat):fstF f k n = -1 \/ ∃ c:Nat,fstF f k n = c /\ k <= c /\ c < k + n /\ 0 < f.getD c 0:=by
 induction n generalizing k with
 | zero=>exact .inl rfl
 | succ n ih =>
  unfold fstF
  split
  ·next h=>exact .inr ⟨k,rfl,by omega,by omega,h⟩
  ·rcases ih (k + 1) with h | ⟨c,h1,h2,h3,h4⟩
   ·exact .inl h
   ·exact .inr ⟨c,h1,by omega,by omega,h4⟩
theorem Zagd (f:List Nat) (n k c:Nat) (h1:k <= c) (h2:c < k + n) (h:0 < f.getD c 0):fstF f k n <= (c:Int):=by
 induction n generalizing k with
 | zero=>omega
 | succ n ih =>
  unfold fstF
  split
  ·omega
  ·next hn =>
   by_cases hck:c = k
   ·subst hck;exact absurd h hn
   ·exact ih (k + 1) (by omega) (by omega)
theorem Zacz (f:List Nat) (a b:Nat) (hab:a < b) (hb:b < f.length) (ha:0 < f.getD a 0) (hb0:0 < f.getD b 0):oneB f = false:=by
 unfold oneB
 have h1:=Zagd f f.length 0 a (by omega) (by omega) ha
 have h2:=Zyh f f.length b hb hb0
 exact beq_eq_false_iff_ne.2 (by omega)
theorem Zacy (f:List Nat) (h:2 <= f.length):oneB (sgI f 2) = false :=
 Zacz _ 0 1 (by omega) (by rw [Zmu];omega) (by rw [Zmt f 2 0 h];simp) (by rw [Zmt f 2 1 h];simp)
theorem Zafh (f:List Nat):sgN f <= 2:=by unfold sgN;split <;> (try split) <;> omega
theorem Zsv (f:List Nat) (h:2 <= f.length):oneB (sgF f) = false:=by
 unfold sgF sgN
 by_cases h0:oneB (sgI f 0) = true
 ·rw [if_pos h0]
  by_cases h1:oneB (sgI f 1) = true
  ·rw [if_pos h1];exact Zacy f h
  ·rw [if_neg h1];simpa using h1
 ·rw [if_neg h0];simpa using h0
theorem Zsb (f:List Nat) (h:oneB f = false):2 <= (used f).length:=by
 unfold oneB at h
 have h:=beq_eq_false_iff_ne.1 h
 rcases Zacb f f.length 0 with h1 | ⟨a,h1,_,h2,h3⟩
 ·rcases Zst f f.length with h4 | ⟨b,h4,h5,h6⟩
  ·exact absurd (h1.trans h4.symm) h
  ·have h7:∀ n k,k <= b -> b < k + n -> fstF f k n ≠ -1:=by
    intro n
    induction n with
    | zero=>intro k g1 g2;omega
    | succ n ih =>
     intro k g1 g2
     unfold fstF
     split
     ·omega
     ·next hn =>
      by_cases e:b = k
      ·subst e;exact absurd h6 hn
      ·exact ih (k + 1) (by omega) (by omega)
   exact absurd h1 (h7 f.length 0 (by omega) (by omega))
 ·rcases Zst f f.length with h4 | ⟨b,h4,h5,h6⟩
  ·have:=Zyh f f.length a (by omega) h3;omega
  ·have hab:a ≠ b:=fun e=>h (by rw [h1,h4,e])
   have ha:a ∈ used f:=by unfold used;simp;exact ⟨by omega,by simpa [List.getD_eq_getElem?_getD] using h3⟩
   have hb:b ∈ used f:=by unfold used;simp;exact ⟨by omega,by simpa [List.getD_eq_getElem?_getD] using h6⟩
   match hu:used f with
   | []=>rw [hu] at ha;cases ha
   | [x] =>
    rw [hu] at ha hb
    exact absurd ((List.mem_singleton.1 ha).trans (List.mem_singleton.1 hb).symm) hab
   | _ :: _ :: _=>simp
theorem Zfq (f:List Nat):(used f).length <= f.length:=by
 have:=List.length_filter_le (fun s=>decide (0 < f.getD s 0)) (List.range f.length)
 rw [List.length_range] at this;exact this
def sgLens (l:List Sg):List Nat:=limL (sgF (sgC l)) 7
theorem Zjq (l:List Sg):(sgF (sgC l)).length = 19:=by unfold sgF;rw [Zmu,Zfo]
theorem Zms (l:List Sg):2 <= (rar (sgF (sgC l))).length /\ (rar (sgF (sgC l))).length <= 19:=by
 have h1:=(Zbg (sgF (sgC l))).length_eq
 have h2:=Zsb _ (Zsv (sgC l) (by rw [Zfo];decide))
 have h3:=Zfq (sgF (sgC l))
 rw [Zjq] at h3
 omega
theorem Zez (l:List Sg):(sgLens l).length = 19:=by unfold sgLens;rw [Zas,Zjq]
theorem Zee (l:List Sg):weight (sgLens l) = 2 ^ 20 :=
 Zol _ 7 (by decide) (by decide) (Zms l).1 (by have:=(Zms l).2;omega)
theorem Zhn (l:List Sg) (c:Nat) (hc:c < 19):(sgLens l).getD c 0 <= 7 /\ ((sgLens l).getD c 0 = 0 ↔ (sgF (sgC l)).getD c 0 = 0):=by
 unfold sgLens
 rw [Zfv _ _ _ (by rw [Zjq];exact hc)]
 exact Zev _ 7 c (by decide) (by have:=(Zms l).2;omega) (by rw [Zjq];exact hc)
theorem Zey (l:List Sg):∀ x ∈ sgLens l,x <= 7:=by
 intro x hx
 obtain ⟨c,hc,rfl⟩:=List.getElem_of_mem hx
 have hc':=hc
 rw [Zez] at hc'
 have:=(Zhn l c hc').1
 rw [List.getD_eq_getElem?_getD,List.getElem?_eq_getElem hc] at this
 exact this
theorem Zld (l:List Sg) (s:Sg) (hs:s ∈ l) (h18:s.1 <= 18):0 < (sgLens l).getD s.1 0:=by
 have h1:=(Zhn l s.1 (by omega)).2
 have h2:0 < (sgF (sgC l)).getD s.1 0:=by
  unfold sgF
  rw [Zmt _ _ _ (by have:=Zafh (sgC l);rw [Zfo];omega),Zzs l _ (by omega)]
  have h3:0 < (l.map fun s=>s.1).count s.1:=List.count_pos_iff.2 (List.mem_map.2 ⟨s,hs,rfl⟩)
  omega
 omega
theorem Zvn (l:List Sg):(clsE (sgLens l)).1 = 2:=by
 unfold clsE
 rw [if_pos ⟨fun x hx=>Nat.le_trans (Zey l x hx) (by decide),by rw [Zez];decide⟩]
 show cls (sgLens l) = 2
 unfold cls
 rw [Zee]
 decide
def cutN (lens:List Nat):Nat -> Nat
 | 0=>0
 | n + 1=>if 4 < n + 1 /\ lens.getD (ordL.getD n 0) 0 = 0 then cutN lens n else n + 1
theorem Zlu (lens:List Nat) (n:Nat):cutN lens n <= n:=by
 induction n with
 | zero=>exact Nat.le_refl _
 | succ n ih=>unfold cutN;split <;> omega
theorem Zqh (lens:List Nat) (n:Nat) (h:4 <= n):4 <= cutN lens n:=by
 induction n with
 | zero=>omega
 | succ n ih=>unfold cutN;split <;> omega
theorem Zwy (lens:List Nat) (n k:Nat) (h:cutN lens n <= k) (hk:k < n):lens.getD (ordL.getD k 0) 0 = 0:=by
 induction n with
 | zero=>omega
 | succ n ih =>
  unfold cutN at h
  split at h
  ·next hc =>
   by_cases e:k = n
   ·subst e;exact hc.2
   ·exact ih h (by omega)
  ·omega
def put3 (lens:List Nat) (s:Wst):Nat -> Wst
 | 0=>s
 | k + 1=>addNum (put3 lens s k) (lens.getD (ordL.getD k 0) 0) 3
def putS (lens:List Nat) (s:Wst) (g:Sg):Wst:=addNum (addSym lens s g.1) g.2 (rbits g.1)
def putsS (lens:List Nat) (s:Wst) (l:List Sg):Wst:=l.foldl (putS lens) s
def put14 (s:Wst) (a b n:Nat):Wst:=addNum (addNum (addNum s (a - 257) 5) (b - 1) 5) (n - 4) 4
def hputL (s:Wst) (a b:Nat) (l:List Sg) (lens:List Nat):Wst:=putsS lens (put3 lens (put14 s a b (cutN lens 19)) (cutN lens 19)) l
def hputW (s:Wst) (f o:List Nat):Wst:=hputL s f.length o.length (pack (f ++ o)) (sgLens (pack (f ++ o)))
def WG (s:Wst):Prop:=WOk s /\ WZ s
theorem Zal {s:Wst} (h:WG s) (v n:Nat):WG (addNum s v n) /\ ExtW s (addNum s v n):=by
 obtain ⟨a,b,_⟩:=Zgl h.1 h.2 v n
 exact ⟨⟨Zij h.1 v n,a⟩,b⟩
theorem Zoy {s:Wst} (h:WG s) (lens:List Nat) (k:Nat):WG (put3 lens s k) /\ ExtW s (put3 lens s k) /\ (put3 lens s k).2 = s.2 + 3 * k:=by
 induction k with
 | zero=>exact ⟨h,.refl _,rfl⟩
 | succ k ih =>
  obtain ⟨a,b,c⟩:=ih
  obtain ⟨d,e⟩:=Zal a (lens.getD (ordL.getD k 0) 0) 3
  exact ⟨d,b.trans e,by show (addNum _ _ 3).2 = _;rw [Zac,c];omega⟩
theorem Zadk {s : Wst} (h : WG s) (lens : List Nat) {j k : Nat} (hjk : j ≤ k) : ExtW (put3 lens s j) (put3 lens s k) := by
  induction k with
  | zero => obtain rfl : j = 0 := by omega
            exact .refl _
  | succ k ih =>
    by_cases e : j = k + 1
    · subst e; exact .refl _
    · exact (ih (by omega)).trans (Zal (Zoy h lens k).1 _ 3).2
theorem Zyw {s t:Wst} (h:WG s) (lens:List Nat) (k:Nat) (hl:∀ x ∈ lens,x <= 7) (ht:ExtW (put3 lens s k) t) (j:Nat) (hj:j < k):num t.1 (s.2 + 3 * j) 3 = lens.getD (ordL.getD j 0) 0:=by
 obtain ⟨a,_,c⟩:=Zoy h lens j
 have:=Zcf a.1 a.2 (lens.getD (ordL.getD j 0) 0) 3 (by have:=M04.Zat hl (ordL.getD j 0);omega) (t:=t) ((Zadk h lens (show j + 1 <= k from hj)).trans ht)
 rw [c] at this;exact this
theorem Zmh:∀ k:Fin 19,ordL.idxOf (ordL.getD k.val 0) = k.val /\ ordL.idxOf k.val < 19 /\ ordL.getD (ordL.idxOf k.val) 0 = k.val /\ ordL.getD k.val 0 < 19:=by decide
theorem Zyc (bs:List Nat) (p k i:Nat) (hk:k <= 19) (hi:i < 19):(lensL bs p k).getD i 0 = if ordL.idxOf i < k then num bs (p + 3 * ordL.idxOf i) 3 else 0:=by
 induction k with
 | zero =>
  have hz:∀ i:Fin 19,(List.replicate 19 0).getD i.val 0 = 0:=by decide
  rw [if_neg (by omega)]
  exact hz ⟨i,hi⟩
 | succ k ih =>
  show ((lensL bs p k).set (ordL.getD k 0) (num bs (p + 3 * k) 3)).getD i 0 = _
  obtain ⟨o1,o2,o3,o4⟩:=Zmh ⟨k,by omega⟩
  obtain ⟨q1,q2,q3,q4⟩:=Zmh ⟨i,hi⟩
  simp only at o1 o2 o3 o4 q1 q2 q3 q4
  rw [List.getD_eq_getElem?_getD]
  by_cases he:ordL.getD k 0 = i
  ·rw [he,List.getElem?_set_self (by rw [Zeo];exact hi)]
   have:ordL.idxOf i = k:=by rw [<- he];exact o1
   rw [this,if_pos (by omega)];rfl
  ·rw [List.getElem?_set_ne he,<- List.getD_eq_getElem?_getD,ih (by omega)]
   have hne:ordL.idxOf i ≠ k:=fun e=>he (by rw [<- e];exact q3)
   by_cases h2:ordL.idxOf i < k
   ·rw [if_pos h2,if_pos (by omega)]
   ·rw [if_neg h2,if_neg (by omega)]
theorem Zabu {l m:List Nat} (h:l.length = m.length) (hg:∀ i,i < l.length -> l.getD i 0 = m.getD i 0):l = m:=by
 apply List.ext_getElem h
 intro i h1 h2
 have:=hg i h1
 rw [List.getD_eq_getElem?_getD,List.getD_eq_getElem?_getD,List.getElem?_eq_getElem h1,List.getElem?_eq_getElem h2] at this
 exact this
theorem Zuy {s t:Wst} (h:WG s) (lens:List Nat) (hn:lens.length = 19) (hl:∀ x ∈ lens,x <= 7) (ht:ExtW (put3 lens s (cutN lens 19)) t):lensL t.1 s.2 (cutN lens 19) = lens:=by
 have hc:=Zlu lens 19
 refine Zabu (by rw [Zeo,hn]) (fun i hi=>?_)
 rw [Zeo] at hi
 rw [Zyc _ _ _ _ hc hi]
 obtain ⟨q1,q2,q3,q4⟩:=Zmh ⟨i,hi⟩
 simp only at q1 q2 q3 q4
 split
 ·next hlt=>rw [Zyw h lens _ hl ht _ hlt,q3]
 ·next hge =>
  have:=Zwy lens 19 (ordL.idxOf i) (by omega) q2
  rw [q3] at this
  exact this.symm
theorem Zyx {s:Wst} (h:WG s) (lens:List Nat) (g:Sg):WG (putS lens s g) /\ ExtW s (putS lens s g) /\ (putS lens s g).2 = s.2 + lens.getD g.1 0 + rbits g.1:=by
 obtain ⟨a,b,c,d⟩:=Zcs h.1 h.2 lens g.1
 obtain ⟨e,f⟩:=Zal ⟨a,b⟩ g.2 (rbits g.1)
 exact ⟨e,c.trans f,by show (addNum _ _ _).2 = _;rw [Zac,d]⟩
theorem Zri (lens:List Nat):∀ (l:List Sg) {s:Wst},WG s -> WG (putsS lens s l) /\ ExtW s (putsS lens s l):=by
 intro l
 induction l with
 | nil=>intro s h;exact ⟨h,.refl _⟩
 | cons g l ih =>
  intro s h
  obtain ⟨a,b,_⟩:=Zyx h lens g
  obtain ⟨c,d⟩:=ih a
  exact ⟨c,b.trans d⟩
def timesL (l:List Sg):Nat:=(l.map times).sum
theorem Zadt (lens:List Nat) (hn:lens.length = 19) (hl:∀ x ∈ lens,x <= 7) (hw:weight lens <= 2 ^ 20) {t:Wst} (hk:WG t) (tot:Nat) :
  ∀ (l:List Sg) (f:Nat) (s:Wst) (said:Nat) (acc:List Sg),l.length < f -> WG s -> (∀ g ∈ l,SgOk g /\ 0 < lens.getD g.1 0) -> said + timesL l = tot -> ExtW (putsS lens s l) t -> sgL lens t.1 tot f s.2 said acc = some (acc ++ l,(putsS lens s l).2):=by
 intro l
 induction l with
 | nil =>
  intro f s said acc hf hs hg ht he
  obtain ⟨f,rfl⟩:∃ k,f = k + 1:=⟨f - 1,by simp at hf;omega⟩
  rw [Zed]
  unfold sgStep
  simp [timesL] at ht
  rw [if_neg (by omega),List.append_nil]
  rfl
 | cons g l ih =>
  intro f s said acc hf hs hg ht he
  obtain ⟨f,rfl⟩:∃ k,f = k + 1:=⟨f - 1,by simp at hf;omega⟩
  rw [Zed]
  unfold sgStep
  obtain ⟨hgo,hgl⟩:=hg g (by simp)
  have htt:timesL (g :: l) = times g + timesL l:=by simp [timesL]
  have htb:=(Zfp hgo).1
  obtain ⟨p1,p2,p3⟩:=Zyx hs lens g
  obtain ⟨a1,a2,a3,a4⟩:=Zcs hs.1 hs.2 lens g.1
  obtain ⟨n1,n2⟩:=Zal ⟨a1,a2⟩ g.2 (rbits g.1)
  have he1:ExtW (putS lens s g) t:=(Zri lens l p1).2.trans he
  have hsym:=Zts hs.1 hs.2 lens (fun x hx=>Nat.le_trans (hl x hx) (by decide)) hw g.1 (by rw [hn];exact Nat.lt_succ_of_le hgo.1) hgl (n2.trans he1) hk.1
  have hnum:=Zcf a1 a2 g.2 (rbits g.1) hgo.2 (t:=t) he1
  rw [a4] at hnum
  have hlen:=Zdk hk.1 he1
  rw [p3] at hlen
  rw [if_pos (by omega),hsym]
  simp only
  rw [if_pos hlen,hnum]
  have hih:=ih f (putS lens s g) (said + times g) (acc ++ [g]) (by simp at hf;omega) p1 (fun x hx=>hg x (by simp [hx])) (by omega) he
  rw [p3] at hih
  rw [hih,List.append_assoc]
  rfl
theorem Zaan {n:Nat}:∀ (l:List Sg) (out all:List Nat),unp n l out = some all -> out.length + timesL l = n:=by
 intro l
 induction l with
 | nil =>
  intro out all h
  unfold unp at h
  split at h
  ·simp [timesL];assumption
  ·cases h
 | cons s l ih =>
  intro out all h
  unfold unp at h
  split at h
  ·cases h
  ·split at h
   ·cases h
   ·have:=ih _ _ h
    rw [List.length_append,List.length_replicate] at this
    have htt:timesL (s :: l) = times s + timesL l:=by simp [timesL]
    omega
theorem Zks {f o:List Nat} (h:mayH f o = true):257 <= f.length /\ f.length <= 286 /\ 1 <= o.length /\ o.length <= 30 /\ (∀ x ∈ f,x <= 15) /\ (∀ x ∈ o,x <= 15):=by
 unfold mayH at h
 simp only [Bool.and_eq_true,decide_eq_true_eq,Bool.not_eq_true'] at h
 obtain ⟨⟨⟨⟨⟨⟨⟨⟨h1,h2⟩,h3⟩,h4⟩,_⟩,h5⟩,h6⟩,_⟩,_⟩:=h
 refine ⟨h1,h2,h3,h4,?_,?_⟩
 ·intro x hx
  unfold long at h5
  simp at h5
  exact h5 x hx
 ·intro x hx
  unfold long at h6
  simp at h6
  exact h6 x hx
theorem Zrh {s:Wst} (h:WG s) (a b n:Nat):WG (put14 s a b n) /\ ExtW s (put14 s a b n) /\ (put14 s a b n).2 = s.2 + 14:=by
 obtain ⟨a1,a2⟩:=Zal h (a - 257) 5
 obtain ⟨b1,b2⟩:=Zal a1 (b - 1) 5
 obtain ⟨c1,c2⟩:=Zal b1 (n - 4) 4
 exact ⟨c1,(a2.trans b2).trans c2,by unfold put14;rw [Zac,Zac,Zac]⟩
theorem Zagf {s:Wst} (h:WG s) (a b:Nat) (l:List Sg) (lens:List Nat):WG (hputL s a b l lens) /\ ExtW s (hputL s a b l lens):=by
 obtain ⟨a1,a2,_⟩:=Zrh h a b (cutN lens 19)
 obtain ⟨b1,b2,_⟩:=Zoy a1 lens (cutN lens 19)
 obtain ⟨c1,c2⟩:=Zri lens l b1
 exact ⟨c1,(a2.trans b2).trans c2⟩
theorem Zqr {s:Wst} (h:WG s) (f o:List Nat):WG (hputW s f o) /\ ExtW s (hputW s f o):=Zagf h _ _ _ _
theorem Zace {s t:Wst} (h:WG s) (hk:WG t) (f o:List Nat) (hm:mayH f o = true) (ht:ExtW (hputW s f o) t):hdr t.1 s.2 = some ((f,o),(hputW s f o).2):=by
 obtain ⟨m1,m2,m3,m4,m5,m6⟩:=Zks hm
 have h15:∀ x ∈ f ++ o,x <= 15:=by
  intro x hx
  rcases List.mem_append.1 hx with h1 | h1
  ·exact m5 x h1
  ·exact m6 x h1
 obtain ⟨u1,u2,u3⟩:=Zie (f ++ o) h15
 have hlen:=Zez (pack (f ++ o))
 have hle:=Zey (pack (f ++ o))
 have hwt:=Zee (pack (f ++ o))
 have hcl:=Zvn (pack (f ++ o))
 have hpos:∀ g ∈ pack (f ++ o),SgOk g /\ 0 < (sgLens (pack (f ++ o))).getD g.1 0:=fun g hg=>⟨u2 g hg,Zld _ g hg (u2 g hg).1⟩
 have htt:=Zaan _ _ _ u1
 unfold hputW hputL at ht ⊢
 rw [List.length_append] at u1 u3 htt
 generalize hP:pack (f ++ o) = l at *
 generalize hL:sgLens l = lens at *
 generalize hN:cutN lens 19 = n at *
 have hn19:n <= 19:=by rw [<- hN];exact Zlu _ _
 have hn4:4 <= n:=by rw [<- hN];exact Zqh _ _ (by decide)
 obtain ⟨a1,a2⟩:=Zal h (f.length - 257) 5
 obtain ⟨b1,b2⟩:=Zal a1 (o.length - 1) 5
 obtain ⟨c1,c2⟩:=Zal b1 (n - 4) 4
 obtain ⟨p1,p2,p3⟩:=Zrh h f.length o.length n
 obtain ⟨q1,q2,q3⟩:=Zoy p1 lens n
 obtain ⟨r1,r2⟩:=Zri lens l q1
 have e3:ExtW (put3 lens (put14 s f.length o.length n) n) t:=r2.trans ht
 have e2:ExtW (put14 s f.length o.length n) t:=q2.trans e3
 have hx:=Zcf h.1 h.2 (f.length - 257) 5 (by omega) (t:=t) ((b2.trans c2).trans e2)
 have hy:=Zcf a1.1 a1.2 (o.length - 1) 5 (by omega) (t:=t) (c2.trans e2)
 have hz:=Zcf b1.1 b1.2 (n - 4) 4 (by omega) (t:=t) e2
 rw [Zac] at hy hz
 rw [Zac] at hz
 have g2:=Zdk hk.1 e2
 have g3:=Zdk hk.1 e3
 rw [p3] at g2
 rw [q3,p3] at g3
 unfold hdr
 rw [if_neg (by omega),hx,hy,show s.2 + 10 = s.2 + 5 + 5 by omega,hz]
 unfold hdrB
 rw [show f.length - 257 + 257 = f.length by omega,show o.length - 1 + 1 = o.length by omega,show n - 4 + 4 = n by omega]
 have hLL:=Zuy p1 lens hlen hle (t:=t) (by rw [hN];exact e3)
 rw [hN,p3] at hLL
 rw [if_neg (by omega),hLL,if_neg (by rw [hcl];simp)]
 have hsg:=Zadt lens hlen hle (by rw [hwt];exact Nat.le_refl _) hk (f.length + o.length) l 400 (put3 lens (put14 s f.length o.length n) n) 0 [] (by omega) q1 hpos (by simpa using htt) ht
 rw [q3,p3] at hsg
 rw [hsg]
 unfold hdrE
 simp only [List.nil_append]
 rw [u1]
 simp only
 rw [List.take_left' rfl,List.drop_left' rfl,if_pos hm]
theorem Zyy (lens:List Nat) (hl:∀ x ∈ lens,x <= 7):∀ (l:List Sg) (s:Wst),WG s -> (putsS lens s l).2 <= s.2 + 14 * l.length:=by
 intro l
 induction l with
 | nil=>intro s _;exact Nat.le_refl _
 | cons g l ih =>
  intro s h
  obtain ⟨p1,_,p3⟩:=Zyx h lens g
  have:=ih (putS lens s g) p1
  have h2:=M04.Zat hl g.1
  have h3:rbits g.1 <= 7:=by unfold rbits;split <;> (try split) <;> (try split) <;> omega
  rw [p3] at this
  show (putsS lens (putS lens s g) l).2 <= _
  rw [List.length_cons]
  omega
theorem Zoh {s:Wst} (h:WG s) (f o:List Nat) (h15:∀ x ∈ f ++ o,x <= 15):(hputW s f o).2 <= s.2 + 14 + 57 + 14 * (f.length + o.length):=by
 obtain ⟨u1,u2,u3⟩:=Zie (f ++ o) h15
 rw [List.length_append] at u3
 unfold hputW hputL
 obtain ⟨p1,p2,p3⟩:=Zrh h f.length o.length (cutN (sgLens (pack (f ++ o))) 19)
 obtain ⟨q1,q2,q3⟩:=Zoy p1 (sgLens (pack (f ++ o))) (cutN (sgLens (pack (f ++ o))) 19)
 have:=Zyy (sgLens (pack (f ++ o))) (Zey _) (pack (f ++ o)) _ q1
 have hc:=Zlu (sgLens (pack (f ++ o))) 19
 omega
theorem Zbv:WG ([],0):=⟨⟨rfl,by simp⟩,fun i _=>Zqa [] i (by simp)⟩
end Go.Proofs.YtendielanacflaaGreat.M09

namespace Go.Proofs.YtendielanacflaaGreat.M10
open M01 M04 M06 M08
theorem Zxb {l bs:List Nat} {F:TF} {i:Nat} (hg:Good l F i):∀ f x k at_ s at2,decF F bs f x k at_ = some (s,at2) -> s < i /\ at2 + k = at_ + l.getD s 0 /\ at_ <= at2 /\ 0 < l.getD s 0:=by
 intro f
 induction f with
 | zero=>intro x k at_ s at2 h;simp [decF] at h
 | succ f ih =>
  intro x k at_ s at2 h
  unfold decF at h
  split at h
  ·simp at h
  ·next v hv =>
   obtain ⟨_,h2⟩:=hg x k v hv
   split at h
   ·next h0 =>
    rcases h2 with rfl | ⟨s',rfl,h3,h4,h5,h6⟩
    ·omega
    ·simp only [Option.some.injEq,Prod.mk.injEq,Int.toNat_natCast] at h
     obtain ⟨rfl,rfl⟩:=h
     omega
   ·split at h
    ·have:=ih _ _ _ _ _ h
     omega
    ·simp at h
theorem Zii {l bs:List Nat} {at_ s at2:Nat} (h20:∀ x ∈ l,x <= 20) (h:sym l bs at_ = some (s,at2)):s < l.length /\ at2 = at_ + l.getD s 0 /\ at_ < at2:=by
 obtain ⟨h1,h2,h3,h4⟩:=Zxb (Zsn l h20) _ _ _ _ _ _ h
 omega
def symsStep (l1 l2 bs:List Nat) (k:Nat -> List Nat -> Option (Nat × List Nat)) (at_:Nat) (out:List Nat):Option (Nat × List Nat) :=
 match sym l1 bs at_ with
 | none=>none
 | some (c,a1)=>if c < 256 then k a1 (out ++ [c]) else if c = 256 then some (a1,out) else if (loS c).2.2 ≠ 0 then none else
  match rdN bs (loS c).2.1 a1 with
  | none=>none
  | some (x,a2)=>match sym l2 bs a2 with
   | none=>none
   | some (d,a3)=>if (doS d).2.2 ≠ 0 then none else match rdN bs (doS d).2.1 a3 with
    | none=>none
    | some (y,a4)=>if out.length < (doS d).1 + y then none else k a4 (repOut ((doS d).1 + y) out ((loS c).1 + x))
def symsL (l1 l2 bs:List Nat):Nat -> Nat -> List Nat -> Option (Nat × List Nat)
 | 0=>fun _ _=>none
 | f + 1=>symsStep l1 l2 bs (symsL l1 l2 bs f)
theorem Zce (l1 l2 bs:List Nat) (f at_:Nat) (out:List Nat):symsL l1 l2 bs (f + 1) at_ out = symsStep l1 l2 bs (symsL l1 l2 bs f) at_ out:=rfl
def symsB (l1 l2 bs:List Nat) (at_:Nat) (out:List Nat):Option (Nat × List Nat) :=
 if (wordsE l1).2 = 0 then if (wordsE l2).2 = 0 then symsL l1 l2 bs (8 * bs.length + 1) at_ out else none else none
theorem Zyf (c:Nat) (h:(loS c).2.2 = 0):(loS c).2.1 <= 5 /\ (loS c).1 + 2 ^ (loS c).2.1 <= 259:=by
 by_cases hc:257 <= c /\ c <= 285
 ·obtain ⟨k,rfl⟩:∃ k,c = 257 + k:=⟨c - 257,by omega⟩
  have hk:k < 29:=by omega
  have hall:∀ k:Fin 29,(loS (257 + k.val:Nat)).2.1 <= 5 /\ (loS (257 + k.val:Nat)).1 + 2 ^ (loS (257 + k.val:Nat)).2.1 <= 259:=by decide +kernel
  exact hall ⟨k,hk⟩
 ·unfold loS at h
  rw [if_neg (by omega)] at h
  simp at h
theorem Znu (c:Nat) (h:(doS c).2.2 = 0):(doS c).2.1 <= 13 /\ 1 <= (doS c).1 /\ (doS c).1 <= 32768:=by
 by_cases hc:c < 30
 ·have hall:∀ k:Fin 30,(doS (k.val:Nat)).2.1 <= 13 /\ 1 <= (doS (k.val:Nat)).1 /\ (doS (k.val:Nat)).1 <= 32768:=by decide +kernel
  exact hall ⟨c,hc⟩
 ·unfold doS at h
  rw [if_neg (by omega)] at h
  simp at h
end Go.Proofs.YtendielanacflaaGreat.M10

namespace Go.Proofs.YtendielanacflaaGreat.M10
open M01 M04 M06 M07 M08 M09
def dynB (bs:List Nat) (at_:Nat) (out:List Nat):Option (Nat × List Nat) :=
 match hdr bs at_ with
 | none=>none
 | some (fo,a2)=>symsB fo.1 fo.2 bs a2 out
def blkK (k:Nat) (bs:List Nat) (at_:Nat) (out:List Nat):Option (Nat × List Nat) :=
 if k = 0 then stoB bs at_ out else if k = 1 then symsB fixF fixD bs at_ out else if k = 2 then dynB bs at_ out else none
def inflStep (bs:List Nat) (k:Nat -> List Nat -> Option (Nat × List Nat)) (at_:Nat) (out:List Nat):Option (Nat × List Nat) :=
 if at_ + 1 <= 8 * bs.length then if at_ + 1 + 2 <= 8 * bs.length then
  match blkK (num bs (at_ + 1) 2) bs (at_ + 1 + 2) out with
  | none=>none
  | some (a2,o2)=>if num bs at_ 1 = 0 then k a2 o2 else some (a2,o2)
 else none else none
def inflL (bs:List Nat):Nat -> Nat -> List Nat -> Option (Nat × List Nat)
 | 0=>fun _ _=>none
 | f + 1=>inflStep bs (inflL bs f)
theorem Zgt (bs:List Nat) (f at_:Nat) (out:List Nat):inflL bs (f + 1) at_ out = inflStep bs (inflL bs f) at_ out:=rfl
def inflB (bs:List Nat):Option (Nat × List Nat):=inflL bs (8 * bs.length + 1) 0 []
end Go.Proofs.YtendielanacflaaGreat.M10
namespace Go.Proofs.YtendielanacflaaGreat.M10
open M01 M04 M06 M07 M08 M09
def Agr (d:Nat) (bs bs':List Nat) (a b:Nat):Prop:=(∀ i,a <= i -> i < b -> bit bs' (i + d) = bit bs i) /\ b + d <= 8 * bs'.length
theorem Agr.sub {d a b a' b':Nat} {bs bs':List Nat} (h:Agr d bs bs' a b) (h1:a <= a') (h2:b' <= b):Agr d bs bs' a' b' :=
 ⟨fun i hi hj=>h.1 i (by omega) (by omega),by have:=h.2;omega⟩
theorem Agr.num {d:Nat} {bs bs':List Nat} (a n:Nat) (h:Agr d bs bs' a (a + n)):num bs' (a + d) n = num bs a n:=by
 induction n with
 | zero=>rfl
 | succ n ih =>
  have h1:=h.1 (a + n) (by omega) (by omega)
  simp only [M01.num]
  rw [ih (h.sub (Nat.le_refl _) (by omega)),show a + d + n = a + n + d by omega,h1]
theorem Zabg {d:Nat} {bs bs':List Nat} {F:TF}:∀ f x k at_ s at2,decF F bs f x k at_ = some (s,at2) -> at_ <= at2 /\ (at_ <= 8 * bs.length -> at2 <= 8 * bs.length) /\ (Agr d bs bs' at_ at2 -> decF F bs' f x k (at_ + d) = some (s,at2 + d)):=by
 intro f
 induction f with
 | zero=>intro x k at_ s at2 h;simp [decF] at h
 | succ f ih =>
  intro x k at_ s at2 h
  unfold decF at h ⊢
  split at h
  ·simp at h
  ·next v hv =>
   split at h
   ·next h0 =>
    simp only [Option.some.injEq,Prod.mk.injEq] at h
    obtain ⟨rfl,rfl⟩:=h
    exact ⟨Nat.le_refl _,id,fun _=>by simp [h0]⟩
   ·next h0 =>
    split at h
    ·next h1 =>
     obtain ⟨i1,i2,i3⟩:=ih _ _ _ _ _ h
     refine ⟨by omega,fun _=>i2 h1,fun ha=>?_⟩
     have hb:=ha.1 at_ (Nat.le_refl _) (by omega)
     have hl:=ha.2
     simp only [h0,if_false]
     rw [if_pos (by omega),hb,show at_ + d + 1 = at_ + 1 + d by omega]
     exact i3 (ha.sub (by omega) (Nat.le_refl _))
    ·simp at h
theorem Zhb {d:Nat} {bs bs' l:List Nat} {at_ s at2:Nat} (h:sym l bs at_ = some (s,at2)):at_ <= at2 /\ (at_ <= 8 * bs.length -> at2 <= 8 * bs.length) /\ (Agr d bs bs' at_ at2 -> sym l bs' (at_ + d) = some (s,at2 + d)):=Zabg _ _ _ _ _ _ h
theorem Zmm {d:Nat} {bs bs':List Nat} {n at_ v at2:Nat} (h:rdN bs n at_ = some (v,at2)):at2 = at_ + n /\ at2 <= 8 * bs.length /\ (Agr d bs bs' at_ at2 -> rdN bs' n (at_ + d) = some (v,at2 + d)):=by
 unfold rdN at h
 split at h
 ·next h1 =>
  simp only [Option.some.injEq,Prod.mk.injEq] at h
  obtain ⟨rfl,rfl⟩:=h
  refine ⟨rfl,h1,fun ha=>?_⟩
  have hl:=ha.2
  unfold rdN
  rw [if_pos (by omega),ha.num,show at_ + d + n = at_ + n + d by omega]
 ·simp at h
theorem Zacd (pre out:List Nat) (k d:Nat) (h:d <= k) (hk:k = out.length) (hd:1 <= d):(pre ++ out).getD (pre.length + k - d) 0 = out.getD (k - d) 0:=by
 simp only [List.getD]
 rw [List.getElem?_append_right (by omega),show pre.length + k - d - pre.length = k - d by omega]
theorem Zgx (pre out:List Nat) (d:Nat) (h:d <= out.length) (hd:1 <= d):∀ n,repOut d (pre ++ out) n = pre ++ repOut d out n:=by
 intro n
 induction n with
 | zero=>rfl
 | succ n ih =>
  have hl:=Zdu d out n
  simp only [repOut,ih]
  rw [List.length_append,Zacd pre _ _ d (by omega) rfl hd,List.append_assoc]
theorem Zaah {d:Nat} {l1 l2 bs bs' pre:List Nat} (h20:∀ x ∈ l1,x <= 20):∀ f at_ out at2 o,symsL l1 l2 bs f at_ out = some (at2,o) -> at_ < at2 /\ (at_ <= 8 * bs.length -> at2 <= 8 * bs.length) /\ out.length <= o.length ∧
  (Agr d bs bs' at_ at2 -> ∀ f',at2 <= at_ + f' -> symsL l1 l2 bs' f' (at_ + d) (pre ++ out) = some (at2 + d,pre ++ o)):=by
 intro f
 induction f with
 | zero=>intro at_ out at2 o h;simp [symsL] at h
 | succ f ih =>
  intro at_ out at2 o h
  rw [Zce] at h
  unfold symsStep at h
  split at h
  ·simp at h
  ·next c a1 hs =>
   obtain ⟨-,-,s1⟩:=Zii h20 hs
   have s2:=(Zhb (d:=0) (bs':=bs) hs).2.1
   have s3:=fun ha=>(Zhb (d:=d) (bs':=bs') hs).2.2 ha
   split at h
   ·next hc =>
    obtain ⟨i1,i2,i3,i4⟩:=ih _ _ _ _ h
    refine ⟨by omega,fun h=>i2 (s2 h),by simp at i3;omega,fun ha f' hf=>?_⟩
    obtain ⟨f',rfl⟩:∃ g,f' = g + 1:=⟨f' - 1,by omega⟩
    rw [Zce]
    unfold symsStep
    rw [s3 (ha.sub (Nat.le_refl _) (by omega))]
    simp only [hc,if_true]
    rw [List.append_assoc]
    exact i4 (ha.sub (by omega) (Nat.le_refl _)) f' (by omega)
   ·next hc =>
    split at h
    ·next hc2 =>
     simp only [Option.some.injEq,Prod.mk.injEq] at h
     obtain ⟨rfl,rfl⟩:=h
     refine ⟨s1,s2,Nat.le_refl _,fun ha f' hf=>?_⟩
     obtain ⟨f',rfl⟩:∃ g,f' = g + 1:=⟨f' - 1,by omega⟩
     rw [Zce]
     unfold symsStep
     rw [s3 ha]
     simp only [hc2,if_true]
     simp
    ·next hc2 =>
     split at h
     ·simp at h
     ·next hc3 =>
      split at h
      ·simp at h
      ·next x a2 hx =>
       obtain ⟨x1,x2,-⟩:=Zmm (d:=0) (bs':=bs) hx
       have x3:=fun ha=>(Zmm (d:=d) (bs':=bs') hx).2.2 ha
       split at h
       ·simp at h
       ·next dd a3 hd =>
        obtain ⟨d1,d2,-⟩:=Zhb (d:=0) (bs':=bs) hd
        have d3:=fun ha=>(Zhb (d:=d) (bs':=bs') hd).2.2 ha
        split at h
        ·simp at h
        ·next hd3 =>
         split at h
         ·simp at h
         ·next y a4 hy =>
          obtain ⟨y1,y2,-⟩:=Zmm (d:=0) (bs':=bs) hy
          have y3:=fun ha=>(Zmm (d:=d) (bs':=bs') hy).2.2 ha
          split at h
          ·simp at h
          ·next hfar =>
           obtain ⟨i1,i2,i3,i4⟩:=ih _ _ _ _ h
           rw [Zdu] at i3
           have hdb:=(Znu dd (by omega)).2.1
           refine ⟨by omega,fun h=>i2 y2,by omega,fun ha f' hf=>?_⟩
           obtain ⟨f',rfl⟩:∃ g,f' = g + 1:=⟨f' - 1,by omega⟩
           rw [Zce]
           unfold symsStep
           rw [s3 (ha.sub (Nat.le_refl _) (by omega))]
           simp only [hc,hc2,hc3,if_false]
           rw [x3 (ha.sub (by omega) (by omega))]
           simp only []
           rw [d3 (ha.sub (by omega) (by omega))]
           simp only [hd3,if_false]
           rw [y3 (ha.sub (by omega) (by omega))]
           simp only []
           rw [if_neg (by simp;omega),Zgx pre out _ (by omega) (by omega)]
           exact i4 (ha.sub (by omega) (Nat.le_refl _)) f' (by omega)
theorem Zse {l:List Nat} (h:(wordsE l).2 = 0):∀ x ∈ l,x <= 20:=(Zdv h).1.1
theorem Zpr {d:Nat} {l1 l2 bs bs' pre out o:List Nat} {at_ at2:Nat} (h:symsB l1 l2 bs at_ out = some (at2,o)):at_ < at2 /\ (at_ <= 8 * bs.length -> at2 <= 8 * bs.length) /\ out.length <= o.length ∧
  (Agr d bs bs' at_ at2 -> symsB l1 l2 bs' (at_ + d) (pre ++ out) = some (at2 + d,pre ++ o)):=by
 unfold symsB at h ⊢
 split at h
 ·next h1 =>
  split at h
  ·next h2 =>
   obtain ⟨i1,i2,i3,i4⟩:=Zaah (d:=d) (bs':=bs') (pre:=pre) (Zse h1) _ _ _ _ _ h
   refine ⟨i1,i2,i3,fun ha=>?_⟩
   have hl:=ha.2
   rw [if_pos h1,if_pos h2]
   exact i4 ha _ (by omega)
  ·simp at h
 ·simp at h
theorem Zaea {d:Nat} {bs bs' pre:List Nat}:∀ n at_ out at2 o,stoL bs n at_ out = some (at2,o) -> at2 = at_ + 8 * n /\ (at_ <= 8 * bs.length -> at2 <= 8 * bs.length) /\ o.length = out.length + n ∧
  (Agr d bs bs' at_ at2 -> stoL bs' n (at_ + d) (pre ++ out) = some (at2 + d,pre ++ o)):=by
 intro n
 induction n with
 | zero =>
  intro at_ out at2 o h
  simp only [stoL,Option.some.injEq,Prod.mk.injEq] at h
  obtain ⟨rfl,rfl⟩:=h
  exact ⟨rfl,id,rfl,fun _=>rfl⟩
 | succ n ih =>
  intro at_ out at2 o h
  unfold stoL at h ⊢
  split at h
  ·next h1 =>
   obtain ⟨i1,i2,i3,i4⟩:=ih _ _ _ _ h
   refine ⟨by omega,fun _=>i2 h1,by simp at i3;omega,fun ha=>?_⟩
   have hl:=ha.2
   rw [if_pos (by omega),(ha.sub (Nat.le_refl _) (by omega)).num,List.append_assoc,show at_ + d + 8 = at_ + 8 + d by omega]
   exact i4 (ha.sub (by omega) (Nat.le_refl _))
  ·simp at h
theorem Zrs {d:Nat} {bs bs' pre out o:List Nat} {at_ at2:Nat} (h:stored0 bs at_ out = some (at2,o)):at_ + 32 <= at2 /\ at2 <= 8 * bs.length /\ out.length <= o.length ∧
  (Agr d bs bs' at_ at2 -> stored0 bs' (at_ + d) (pre ++ out) = some (at2 + d,pre ++ o)):=by
 unfold stored0 at h ⊢
 split at h
 ·next h1 =>
  split at h
  ·next h2 =>
   obtain ⟨i1,i2,i3,i4⟩:=Zaea (d:=d) (bs':=bs') (pre:=pre) _ _ _ _ _ h
   refine ⟨by omega,i2 h1,by omega,fun ha=>?_⟩
   have hl:=ha.2
   rw [if_pos (by omega),show at_ + d + 16 = at_ + 16 + d by omega,(ha.sub (by omega) (by omega)).num,(ha.sub (Nat.le_refl _) (by omega)).num,if_pos h2,show at_ + d + 32 = at_ + 32 + d by omega]
   exact i4 (ha.sub (by omega) (Nat.le_refl _))
  ·simp at h
 ·simp at h
theorem Zadz {d:Nat} {bs bs' pre out o:List Nat} {at_ at2:Nat} (hd:d % 8 = 0) (h:stoB bs at_ out = some (at2,o)):at_ < at2 /\ at2 <= 8 * bs.length /\ out.length <= o.length ∧
  (Agr d bs bs' at_ at2 -> stoB bs' (at_ + d) (pre ++ out) = some (at2 + d,pre ++ o)):=by
 unfold stoB at h ⊢
 obtain ⟨i1,i2,i3,i4⟩:=Zrs (d:=d) (bs':=bs') (pre:=pre) h
 refine ⟨by omega,i2,i3,fun ha=>?_⟩
 rw [show (at_ + d + 7) / 8 * 8 = (at_ + 7) / 8 * 8 + d by omega]
 exact i4 (ha.sub (by omega) (Nat.le_refl _))
theorem Zyd {d:Nat} {bs bs':List Nat} (p:Nat):∀ k,Agr d bs bs' p (p + 3 * k) -> M09.lensL bs' (p + d) k = M09.lensL bs p k:=by
 intro k
 induction k with
 | zero=>intro _;rfl
 | succ k ih =>
  intro ha
  unfold M09.lensL
  rw [ih (ha.sub (Nat.le_refl _) (by omega)),show p + d + 3 * k = p + 3 * k + d by omega,(ha.sub (by omega) (by omega)).num]
theorem Zzt {d:Nat} {lens bs bs':List Nat} {tot:Nat}:∀ f at_ said acc l at2,sgL lens bs tot f at_ said acc = some (l,at2) -> at_ <= at2 /\ (at_ <= 8 * bs.length -> at2 <= 8 * bs.length) /\ (Agr d bs bs' at_ at2 -> sgL lens bs' tot f (at_ + d) said acc = some (l,at2 + d)):=by
 intro f
 induction f with
 | zero=>intro at_ said acc l at2 h;simp [sgL] at h
 | succ f ih =>
  intro at_ said acc l at2 h
  rw [Zed] at h
  unfold sgStep at h
  split at h
  ·next h0 =>
   split at h
   ·simp at h
   ·next c a1 hs =>
    obtain ⟨s1,s2,-⟩:=Zhb (d:=0) (bs':=bs) hs
    have s3:=fun ha=>(Zhb (d:=d) (bs':=bs') hs).2.2 ha
    split at h
    ·next h1 =>
     obtain ⟨i1,i2,i3⟩:=ih _ _ _ _ _ h
     refine ⟨by omega,fun _=>i2 h1,fun ha=>?_⟩
     have hl:=ha.2
     rw [Zed]
     unfold sgStep
     rw [if_pos h0,s3 (ha.sub (Nat.le_refl _) (by omega))]
     simp only []
     rw [if_pos (by omega),(ha.sub (by omega) (by omega)).num,show a1 + d + rbits c = a1 + rbits c + d by omega]
     exact i3 (ha.sub (by omega) (Nat.le_refl _))
    ·simp at h
  ·next h0 =>
   simp only [Option.some.injEq,Prod.mk.injEq] at h
   obtain ⟨rfl,rfl⟩:=h
   refine ⟨Nat.le_refl _,id,fun _=>?_⟩
   rw [Zed]
   unfold sgStep
   rw [if_neg h0]
theorem Zqp {d:Nat} {bs bs':List Nat} {at_ at2:Nat} {fo:List Nat × List Nat} (h:hdr bs at_ = some (fo,at2)):at_ <= at2 /\ at2 <= 8 * bs.length /\ (Agr d bs bs' at_ at2 -> hdr bs' (at_ + d) = some (fo,at2 + d)):=by
 unfold hdr at h ⊢
 split at h
 ·simp at h
 ·next h0 =>
  unfold hdrB at h ⊢
  split at h
  ·simp at h
  ·next h1 =>
   split at h
   ·simp at h
   ·next h2 =>
    unfold hdrE at h ⊢
    split at h
    ·simp at h
    ·next l a2 hsg =>
     obtain ⟨i1,i2,-⟩:=Zzt (d:=0) (bs':=bs) _ _ _ _ _ _ hsg
     have i3:=fun ha=>(Zzt (d:=d) (bs':=bs') _ _ _ _ _ _ hsg).2.2 ha
     split at h
     ·simp at h
     ·next all hun =>
      split at h
      ·next hm =>
       simp only [Option.some.injEq,Prod.mk.injEq] at h
       obtain ⟨rfl,rfl⟩:=h
       refine ⟨by omega,i2 (by omega),fun ha=>?_⟩
       have hl:=ha.2
       have e1:=(ha.sub (a':=at_) (b':=at_ + 5) (by omega) (by omega)).num
       have e2:=(ha.sub (a':=at_ + 5) (b':=at_ + 5 + 5) (by omega) (by omega)).num
       have e3:=(ha.sub (a':=at_ + 10) (b':=at_ + 10 + 4) (by omega) (by omega)).num
       rw [if_neg (by omega),e1,show at_ + d + 5 = at_ + 5 + d by omega,e2,show at_ + d + 10 = at_ + 10 + d by omega,e3,show at_ + d + 14 = at_ + 14 + d by omega]
       rw [if_neg (by omega),Zyd _ _ (ha.sub (by omega) (by omega)),if_neg h2,show at_ + 14 + d + 3 * (num bs (at_ + 10) 4 + 4) = at_ + 14 + 3 * (num bs (at_ + 10) 4 + 4) + d by omega,i3 (ha.sub (by omega) (Nat.le_refl _))]
       simp only [hun,hm,if_true]
      ·simp at h
theorem Zabm {d:Nat} {bs bs' pre out o:List Nat} {at_ at2:Nat} (h:dynB bs at_ out = some (at2,o)):at_ < at2 /\ at2 <= 8 * bs.length /\ out.length <= o.length ∧
  (Agr d bs bs' at_ at2 -> dynB bs' (at_ + d) (pre ++ out) = some (at2 + d,pre ++ o)):=by
 unfold dynB at h ⊢
 split at h
 ·simp at h
 ·next fo a2 hh =>
  obtain ⟨h1,h2,-⟩:=Zqp (d:=0) (bs':=bs) hh
  have h3:=fun ha=>(Zqp (d:=d) (bs':=bs') hh).2.2 ha
  obtain ⟨i1,i2,i3,i4⟩:=Zpr (d:=d) (bs':=bs') (pre:=pre) h
  refine ⟨by omega,i2 h2,i3,fun ha=>?_⟩
  rw [h3 (ha.sub (Nat.le_refl _) (by omega))]
  exact i4 (ha.sub (by omega) (Nat.le_refl _))
theorem Zabc {d k:Nat} {bs bs' pre out o:List Nat} {at_ at2:Nat} (hd:d % 8 = 0) (hat:at_ <= 8 * bs.length) (h:blkK k bs at_ out = some (at2,o)):at_ < at2 /\ at2 <= 8 * bs.length /\ out.length <= o.length ∧
  (Agr d bs bs' at_ at2 -> blkK k bs' (at_ + d) (pre ++ out) = some (at2 + d,pre ++ o)):=by
 unfold blkK at h ⊢
 split at h
 ·next hk=>simp only [hk,if_true];exact Zadz hd h
 ·next hk =>
  simp only [hk,if_false]
  split at h
  ·next hk1 =>
   simp only [hk1,if_true]
   obtain ⟨i1,i2,i3,i4⟩:=Zpr (d:=d) (bs':=bs') (pre:=pre) h
   exact ⟨i1,i2 hat,i3,i4⟩
  ·next hk1 =>
   simp only [hk1,if_false]
   split at h
   ·next hk2=>simp only [hk2,if_true];exact Zabm h
   ·simp at h
end Go.Proofs.YtendielanacflaaGreat.M10

namespace Go.Proofs.YtendielanacflaaGreat.M10
open Go.RowKit Go.Shelf M01 M04 M06 M08 M09 M17
def expT (out:List Nat) (t:Tok):Option (List Nat):=if t.len = 0 then some (out ++ [t.byte]) else if (out.length:Int) < t.dist then none else some (repOut t.dist.toNat out t.len.toNat)
def expL:List Nat -> List Tok -> Option (List Nat)
 | out,[]=>some out
 | out,t :: l=>(expT out t).bind fun o=>expL o l
theorem Zlw (l m:List Tok):∀ out,expL out (l ++ m) = (expL out l).bind fun o=>expL o m:=by
 induction l with
 | nil=>intro out;rfl
 | cons t l ih =>
  intro out
  simp only [List.cons_append,expL]
  cases expT out t with
  | none=>rfl
  | some o=>exact ih o
theorem Zny (l:List Tok) (k:Nat) (hk:k < l.length) (out:List Nat):expL out (l.take (k + 1)) = (expL out (l.take k)).bind fun o=>expT o l[k]:=by
 rw [List.take_succ_eq_append_getElem hk,Zlw]
 cases expL out (l.take k) with
 | none=>rfl
 | some o=>simp [expL]
theorem Zbh {s:Wst} (h:WG s) (l:List Nat) (c:Nat):WG (addSymE l s c) /\ ExtW s (addSymE l s c):=by
 unfold addSymE
 split
 ·exact ⟨h,.refl _⟩
 ·obtain ⟨a,b,d,_⟩:=Zcs h.1 h.2 l c
  exact ⟨⟨a,b⟩,d⟩
theorem Zic {s:Wst} (h:WG s) (l1 l2:List Nat) (t:Tok):WG (layTok l1 l2 s t) /\ ExtW s (layTok l1 l2 s t):=by
 unfold layTok
 split
 ·exact Zbh h _ _
 ·have h1:=Zbh h l1 (lenS t.len)
  have h2:=Zal h1.1 (lenX t.len) (lenB t.len)
  have h3:=Zbh h2.1 l2 (dstS t.dist)
  have h4:=Zal h3.1 (dstX t.dist) (dstB t.dist)
  exact ⟨h4.1,h1.2.trans (h2.2.trans (h3.2.trans h4.2))⟩
theorem Zjb (l1 l2:List Nat):∀ (l:List Tok) {s:Wst},WG s -> WG (layTo l1 l2 s l) /\ ExtW s (layTo l1 l2 s l):=by
 intro l
 induction l with
 | nil=>intro s h;exact ⟨h,.refl _⟩
 | cons t l ih =>
  intro s h
  have h1:=Zic h l1 l2 t
  have h2:=ih h1.1
  exact ⟨h2.1,h1.2.trans h2.2⟩
theorem Zacu (n:Int) (h1:3 <= n) (h2:n <= 258):257 <= lenS n /\ lenS n < 286 /\ (loS (lenS n:Nat)).2.2 = 0 /\ (loS (lenS n:Nat)).2.1 = lenB n /\ (loS (lenS n:Nat)).1 + lenX n = n.toNat:=by
 obtain ⟨m,rfl⟩:=Int.eq_ofNat_of_zero_le (by omega:0 <= n)
 have hall:∀ m:Fin 259,3 <= m.val -> 257 <= lenS (m.val:Nat) /\ lenS (m.val:Nat) < 286 /\ (loS (lenS (m.val:Nat):Nat)).2.2 = 0 /\ (loS (lenS (m.val:Nat):Nat)).2.1 = lenB (m.val:Nat) /\ (loS (lenS (m.val:Nat):Nat)).1 + lenX (m.val:Nat) = m.val:=by decide +kernel
 exact hall ⟨m,by omega⟩ (by show 3 <= m;omega)
theorem Zabl (n:Int) (h1:1 <= n) (h2:n <= 32768):dstS n < 30 /\ (doS (dstS n:Nat)).2.2 = 0 /\ (doS (dstS n:Nat)).2.1 = dstB n /\ (doS (dstS n:Nat)).1 + dstX n = n.toNat:=by
 obtain ⟨m,rfl⟩:=Int.eq_ofNat_of_zero_le (by omega:0 <= n)
 have h:1 <= ((m:Nat):Int) /\ ((m:Nat):Int) <= 32768:=⟨h1,h2⟩
 unfold dstS dstB dstX
 simp only [if_pos h,Int.toNat_natCast]
 have hk:dk m < 30:=Zxf m
 obtain ⟨s1,s2⟩:=Zfi Zxe m (by decide) (show distL.getD 0 0 <= m from by show 1 <= m;omega)
 rw [show lastLe distL m = dk m from rfl] at s1 s2
 generalize dk m = k at *
 unfold doS
 rw [if_pos (by omega)]
 simp only [Int.toNat_natCast]
 exact ⟨hk,trivial,trivial,by omega⟩
structure Cod (l1 l2:List Nat):Prop where
 a20:∀ x ∈ l1,x <= 15
 b20:∀ x ∈ l2,x <= 15
 aw:weight l1 <= 2 ^ 20
 bw:weight l2 <= 2 ^ 20
 al:l1.length <= 300
 bl:l2.length <= 40
theorem Zgh {s t:Wst} (h:WG s) (hk:WG t) (l:List Nat) (h15:∀ x ∈ l,x <= 15) (hw:weight l <= 2 ^ 20) (c:Nat) (h0:l.getD c 0 ≠ 0) (ht:ExtW (addSymE l s c) t):sym l t.1 s.2 = some (c,(addSymE l s c).2):=by
 unfold addSymE at ht ⊢
 rw [if_neg h0] at ht ⊢
 have hc:c < l.length:=by
  rcases Nat.lt_or_ge c l.length with h | h
  ·exact h
  ·exact absurd (by rw [List.getD_eq_getElem?_getD,List.getElem?_eq_none h];rfl) h0
 rw [Zts h.1 h.2 l (fun x hx=>Nat.le_trans (h15 x hx) (by decide)) hw c hc (by omega) ht hk.1,(Zcs h.1 h.2 l c).2.2.2]
theorem Zte {s t:Wst} (h:WG s) (hk:WG t) (v n:Nat) (hv:v < 2 ^ n) (ht:ExtW (addNum s v n) t):rdN t.1 n s.2 = some (v,(addNum s v n).2):=by
 unfold rdN
 have hl:=Zdk hk.1 ht
 rw [Zac] at hl ⊢
 rw [if_pos hl,Zcf h.1 h.2 v n hv ht]
theorem Zaen {s t:Wst} (h:WG s) (hk:WG t) {l1 l2:List Nat} (hc:Cod l1 l2) (tk:Tok) (hok:tokOk tk) (hb:tk.byte < 256) (hw:∀ r ∈ tokU tk,lensOf l1 l2 r ≠ 0) (ht:ExtW (layTok l1 l2 s tk) t) (out out':List Nat) (he:expT out tk = some out') (k:Nat -> List Nat -> Option (Nat × List Nat)) :
  symsStep l1 l2 t.1 k s.2 out = k (layTok l1 l2 s tk).2 out':=by
 by_cases h0:tk.len = 0
 ·have hD:tk.dist = 0:=by unfold tokOk at hok;rw [if_pos h0] at hok;exact hok
  have hu:tokU tk = [⟨false,tk.byte,0,0⟩]:=by unfold tokU;rw [if_pos h0,if_pos hD]
  have hl:layTok l1 l2 s tk = addSymE l1 s tk.byte:=by unfold layTok;rw [if_pos h0]
  rw [hl] at ht ⊢
  have hz:l1.getD tk.byte 0 ≠ 0:=hw ⟨false,tk.byte,0,0⟩ (by rw [hu];exact List.mem_singleton_self _)
  have hsy:=Zgh h hk l1 hc.a20 hc.aw tk.byte hz ht
  unfold expT at he
  rw [if_pos h0] at he
  simp only [Option.some.injEq] at he
  unfold symsStep
  rw [hsy]
  simp only
  rw [if_pos hb,he]
 ·have hf:tk.byte = 0 /\ 3 <= tk.len /\ tk.len <= 258 /\ 1 <= tk.dist /\ tk.dist <= 32768:=by
   unfold tokOk at hok;rw [if_neg h0] at hok;exact hok
  obtain ⟨_,f1,f2,f3,f4⟩:=hf
  obtain ⟨g1,g2,g3,g4,g5⟩:=Zacu tk.len f1 f2
  obtain ⟨d1,d2,d3,d4⟩:=Zabl tk.dist f3 f4
  have hu:tokU tk = [⟨false,257 + lk tk.len.toNat,lbits (257 + lk tk.len.toNat),0⟩,⟨true,dk tk.dist.toNat,dbits (dk tk.dist.toNat),0⟩]:=by unfold tokU;rw [if_neg h0,if_pos hok]
  have e1:lenS tk.len = 257 + lk tk.len.toNat:=by unfold lenS;rw [if_pos ⟨f1,f2⟩]
  have e2:dstS tk.dist = dk tk.dist.toNat:=by unfold dstS;rw [if_pos ⟨f3,f4⟩]
  have hz1:l1.getD (lenS tk.len) 0 ≠ 0:=by rw [e1];exact hw _ (by rw [hu];exact List.mem_cons_self)
  have hz2:l2.getD (dstS tk.dist) 0 ≠ 0:=by
   rw [e2];exact hw ⟨true,dk tk.dist.toNat,dbits (dk tk.dist.toNat),0⟩ (by rw [hu];exact List.mem_cons_of_mem _ (List.mem_singleton_self _))
  have hl:layTok l1 l2 s tk = addNum (addSymE l2 (addNum (addSymE l1 s (lenS tk.len)) (lenX tk.len) (lenB tk.len)) (dstS tk.dist)) (dstX tk.dist) (dstB tk.dist):=by unfold layTok;rw [if_neg h0]
  rw [hl] at ht ⊢
  have h1:=Zbh h l1 (lenS tk.len)
  have h2:=Zal h1.1 (lenX tk.len) (lenB tk.len)
  have h3:=Zbh h2.1 l2 (dstS tk.dist)
  have h4:=Zal h3.1 (dstX tk.dist) (dstB tk.dist)
  have t3:=h4.2.trans ht
  have t2:=h3.2.trans t3
  have t1:=h2.2.trans t2
  have s1:=Zgh h hk l1 hc.a20 hc.aw _ hz1 t1
  have r1:=Zte h1.1 hk _ _ (Zqw tk.len).1 t2
  have s2:=Zgh h2.1 hk l2 hc.b20 hc.bw _ hz2 t3
  have r2:=Zte h3.1 hk _ _ (Zqj tk.dist).1 ht
  unfold expT at he
  rw [if_neg h0] at he
  split at he
  ·cases he
  next hd =>
  simp only [Option.some.injEq] at he
  unfold symsStep
  rw [s1]
  simp only
  rw [if_neg (by omega),if_neg (by omega),if_neg (by omega),g4,r1]
  simp only
  rw [s2]
  simp only
  rw [if_neg (by omega),d3,r2]
  simp only
  rw [d4,g5,if_neg (by omega),he]
def layBlk (l1 l2:List Nat) (s:Wst) (l:List Tok):Wst:=addSymE l1 (layTo l1 l2 s l) 256
theorem Zaal {l1 l2:List Nat} (hc:Cod l1 l2) {t:Wst} (hk:WG t) (h256:l1.getD 256 0 ≠ 0):∀ (l:List Tok) (s:Wst) (out out':List Nat) (f:Nat),WG s -> (∀ x ∈ l,tokOk x /\ x.byte < 256 /\ ∀ r ∈ tokU x,lensOf l1 l2 r ≠ 0) -> ExtW (layBlk l1 l2 s l) t -> expL out l = some out' →
  symsL l1 l2 t.1 (l.length + 1 + f) s.2 out = some ((layBlk l1 l2 s l).2,out'):=by
 intro l
 induction l with
 | nil =>
  intro s out out' f h _ ht he
  simp only [expL,Option.some.injEq] at he
  subst he
  have hs:=Zgh h hk l1 hc.a20 hc.aw 256 h256 ht
  rw [show ([]:List Tok).length + 1 + f = f + 1 by simp;omega,Zce]
  unfold symsStep
  rw [show sym l1 t.1 s.2 = some (256,(addSymE l1 s 256).2) from hs]
  simp only
  rw [if_neg (by omega)]
  simp
  rfl
 | cons x l ih =>
  intro s out out' f h hx ht he
  obtain ⟨x1,x2,x3⟩:=hx x (by simp)
  simp only [expL] at he
  cases hx':expT out x with
  | none=>rw [hx'] at he;cases he
  | some o =>
   rw [hx'] at he
   have hg:=Zic h l1 l2 x
   have e:layBlk l1 l2 s (x :: l) = layBlk l1 l2 (layTok l1 l2 s x) l:=rfl
   rw [e] at ht ⊢
   have hext:ExtW (layTok l1 l2 s x) t:=((Zjb l1 l2 l hg.1).2.trans (Zbh (Zjb l1 l2 l hg.1).1 l1 256).2).trans ht
   rw [show (x :: l).length + 1 + f = (l.length + 1 + f) + 1 by simp;omega,Zce,Zaen h hk hc x x1 x2 x3 hext out o hx' (symsL l1 l2 t.1 (l.length + 1 + f))]
   exact ih _ o out' f hg.1 (fun y hy=>hx y (by simp [hy])) ht he
theorem Zqu {s:Wst} (h:WG s) {l1 l2:List Nat} (tk:Tok) (hok:tokOk tk) (hw:∀ r ∈ tokU tk,lensOf l1 l2 r ≠ 0):s.2 + 1 <= (layTok l1 l2 s tk).2:=by
 have key:∀ c,l1.getD c 0 ≠ 0 -> s.2 + 1 <= (addSymE l1 s c).2:=by
  intro c hc
  unfold addSymE
  rw [if_neg hc,(Zcs h.1 h.2 l1 c).2.2.2]
  omega
 by_cases h0:tk.len = 0
 ·have hD:tk.dist = 0:=by unfold tokOk at hok;rw [if_pos h0] at hok;exact hok
  have hu:tokU tk = [⟨false,tk.byte,0,0⟩]:=by unfold tokU;rw [if_pos h0,if_pos hD]
  unfold layTok
  rw [if_pos h0]
  exact key _ (hw ⟨false,tk.byte,0,0⟩ (by rw [hu];exact List.mem_singleton_self _))
 ·have hf:tk.byte = 0 /\ 3 <= tk.len /\ tk.len <= 258 /\ 1 <= tk.dist /\ tk.dist <= 32768:=by
   unfold tokOk at hok;rw [if_neg h0] at hok;exact hok
  have hu:tokU tk = [⟨false,257 + lk tk.len.toNat,lbits (257 + lk tk.len.toNat),0⟩,⟨true,dk tk.dist.toNat,dbits (dk tk.dist.toNat),0⟩]:=by unfold tokU;rw [if_neg h0,if_pos hok]
  have e1:lenS tk.len = 257 + lk tk.len.toNat:=by unfold lenS;rw [if_pos ⟨hf.2.1,hf.2.2.1⟩]
  have h1:=key (lenS tk.len) (by rw [e1];exact hw _ (by rw [hu];exact List.mem_cons_self))
  unfold layTok
  rw [if_neg h0]
  have g1:=Zbh h l1 (lenS tk.len)
  have g2:=Zal g1.1 (lenX tk.len) (lenB tk.len)
  have g3:=Zbh g2.1 l2 (dstS tk.dist)
  have g4:=Zal g3.1 (dstX tk.dist) (dstB tk.dist)
  have:=g2.2.1
  have:=g3.2.1
  have:=g4.2.1
  omega
theorem Zuv {l1 l2:List Nat}:∀ (l:List Tok) {s:Wst},WG s -> (∀ x ∈ l,tokOk x /\ x.byte < 256 /\ ∀ r ∈ tokU x,lensOf l1 l2 r ≠ 0) -> s.2 + l.length <= (layTo l1 l2 s l).2:=by
 intro l
 induction l with
 | nil=>intro s h _;exact Nat.le_refl _
 | cons x l ih =>
  intro s h hx
  obtain ⟨x1,x2,x3⟩:=hx x (by simp)
  have h1:=Zqu h x x1 x3
  have h2:=ih (Zic h l1 l2 x).1 (fun y hy=>hx y (by simp [hy]))
  show _ <= (layTo l1 l2 (layTok l1 l2 s x) l).2
  rw [List.length_cons]
  omega
theorem Zlm {l:List Nat} (h15:∀ x ∈ l,x <= 15) (hw:weight l <= 2 ^ 20) (hl:l.length <= 300):(wordsE l).2 = 0:=by
 unfold wordsE
 rw [if_neg (fun h=>h ⟨fun x hx=>Nat.le_trans (h15 x hx) (by decide),by omega⟩),if_neg (by omega)]
theorem Zps {l1 l2:List Nat} (hc:Cod l1 l2) {s t:Wst} (h:WG s) (hk:WG t) (h256:l1.getD 256 0 ≠ 0) (l:List Tok) (hl:∀ x ∈ l,tokOk x /\ x.byte < 256 /\ ∀ r ∈ tokU x,lensOf l1 l2 r ≠ 0) (out out':List Nat) (ht:ExtW (layBlk l1 l2 s l) t) (he:expL out l = some out') :
  symsB l1 l2 t.1 s.2 out = some ((layBlk l1 l2 s l).2,out'):=by
 unfold symsB
 rw [if_pos (Zlm hc.a20 hc.aw hc.al),if_pos (Zlm hc.b20 hc.bw (by have:=hc.bl;omega))]
 have h1:=Zuv l h hl
 have h2:(layTo l1 l2 s l).2 <= t.2:=Nat.le_trans (Zbh (Zjb l1 l2 l h).1 l1 256).2.1 ht.1
 have h3:=Zdk hk.1 (ExtW.refl t)
 obtain ⟨f,hf⟩:∃ f,8 * t.1.length + 1 = l.length + 1 + f:=⟨8 * t.1.length - l.length,by omega⟩
 rw [hf]
 exact Zaal hc hk h256 l s out out' f h hl ht he
def alignW (s:Wst):Wst:=(s.1,8 * s.1.length)
theorem Zet {s:Wst} (h:WG s):WG (alignW s) /\ ExtW s (alignW s):=by
 refine ⟨⟨⟨?_,h.1.2⟩,fun i hi=>Zqa s.1 i hi⟩,?_,fun i _=>rfl⟩
 ·show s.1.length = (8 * s.1.length + 7) / 8;omega
 ·exact Zdk h.1 (ExtW.refl s)
theorem Zct {s:Wst} (h:WG s):(alignW s).2 = (s.2 + 7) / 8 * 8:=by
 have:=h.1.1
 show 8 * s.1.length = _
 omega
def putB (s:Wst) (b:List Nat):Wst:=b.foldl (fun s c=>addNum s c 8) s
theorem Zji:∀ (b:List Nat) {s:Wst},WG s -> WG (putB s b) /\ ExtW s (putB s b) /\ (putB s b).2 = s.2 + 8 * b.length:=by
 intro b
 induction b with
 | nil=>intro s h;exact ⟨h,.refl _,rfl⟩
 | cons c b ih =>
  intro s h
  have h1:=Zal h c 8
  obtain ⟨a1,a2,a3⟩:=ih h1.1
  refine ⟨a1,h1.2.trans a2,?_⟩
  show (putB (addNum s c 8) b).2 = _
  rw [a3,Zac,List.length_cons];omega
theorem Zga (s:Wst) (b:List Nat) (k:Nat) (hk:k < b.length):putB s (b.take (k + 1)) = addNum (putB s (b.take k)) b[k] 8:=by
 unfold putB
 rw [List.take_succ_eq_append_getElem hk,List.foldl_append]
 rfl
theorem Zzu {t:Wst} (hk:WG t):∀ (b:List Nat) (s:Wst) (out:List Nat),WG s -> (∀ x ∈ b,x < 256) -> ExtW (putB s b) t -> stoL t.1 b.length s.2 out = some ((putB s b).2,out ++ b):=by
 intro b
 induction b with
 | nil=>intro s out _ _ _;simp [stoL,putB]
 | cons c b ih =>
  intro s out h hb ht
  have h1:=Zal h c 8
  have e:putB s (c :: b) = putB (addNum s c 8) b:=rfl
  rw [e] at ht ⊢
  have hx:ExtW (addNum s c 8) t:=(Zji b h1.1).2.1.trans ht
  have hl:=Zdk hk.1 hx
  rw [Zac] at hl
  rw [List.length_cons,stoL,if_pos hl,Zcf h.1 h.2 c 8 (hb c (by simp)) hx]
  have:=ih (addNum s c 8) (out ++ [c]) h1.1 (fun x hx=>hb x (by simp [hx])) ht
  rw [Zac] at this
  rw [this,List.append_assoc];rfl
def stoBlk (s:Wst) (b:List Nat):Wst:=putB (addNum (addNum (alignW s) b.length 16) (65535 - b.length) 16) b
theorem Zto {s:Wst} (h:WG s) (b:List Nat):WG (stoBlk s b) /\ ExtW s (stoBlk s b) /\ (stoBlk s b).2 = (s.2 + 7) / 8 * 8 + 32 + 8 * b.length:=by
 have h0:=Zet h
 have h1:=Zal h0.1 b.length 16
 have h2:=Zal h1.1 (65535 - b.length) 16
 obtain ⟨a1,a2,a3⟩:=Zji b h2.1
 refine ⟨a1,h0.2.trans (h1.2.trans (h2.2.trans a2)),?_⟩
 show (putB _ b).2 = _
 rw [a3,Zac,Zac,Zct h]
theorem Zaeb {s t:Wst} (h:WG s) (hk:WG t) (b:List Nat) (hn:b.length <= 65535) (hb:∀ x ∈ b,x < 256) (ht:ExtW (stoBlk s b) t) (out:List Nat):stoB t.1 s.2 out = some ((stoBlk s b).2,out ++ b):=by
 have h0:=Zet h
 have h1:=Zal h0.1 b.length 16
 have h2:=Zal h1.1 (65535 - b.length) 16
 obtain ⟨a1,a2,a3⟩:=Zji b h2.1
 have t2:ExtW (addNum (addNum (alignW s) b.length 16) (65535 - b.length) 16) t:=a2.trans ht
 have t1:=h2.2.trans t2
 have n1:=Zcf h0.1.1 h0.1.2 b.length 16 (by omega) t1
 have n2:=Zcf h1.1.1 h1.1.2 (65535 - b.length) 16 (by omega) t2
 rw [Zac] at n2
 have hl:=Zdk hk.1 t2
 rw [Zac,Zac] at hl
 have hs:=Zzu hk b _ out h2.1 hb ht
 rw [Zac,Zac] at hs
 unfold stoB stored0
 rw [<- Zct h,if_pos (by omega),n1,n2,if_pos rfl]
 exact hs
def begW (s:Wst) (last:Bool) (k:Nat):Wst:=addNum s (2 * k + if last then 1 else 0) 3
theorem Zcn {s:Wst} (h:WG s) (last:Bool) (k:Nat):WG (begW s last k) /\ ExtW s (begW s last k) /\ (begW s last k).2 = s.2 + 3:=by
 obtain ⟨a,b⟩:=Zal h (2 * k + if last then 1 else 0) 3
 exact ⟨a,b,Zac _ _ _⟩
theorem Zyk (bs:List Nat) (at_ v:Nat) (hv:v < 8) (h:num bs at_ 3 = v):num bs at_ 1 = v % 2 /\ num bs (at_ + 1) 2 = v / 2:=by
 have h0:=Zkj bs at_
 have h1:=Zkj bs (at_ + 1)
 have h2:=Zkj bs (at_ + 2)
 have e:at_ + 1 + 1 = at_ + 2:=rfl
 simp only [num,Nat.add_zero,Nat.pow_zero,Nat.mul_one,Nat.zero_add,Nat.reduceAdd,Nat.reducePow,e] at h ⊢
 omega
theorem Zlp {s t:Wst} (h:WG s) (hk:WG t) (last:Bool) (k:Nat) (hk2:k <= 3) (ht:ExtW (begW s last k) t) (g:Nat -> List Nat -> Option (Nat × List Nat)) (out:List Nat) :
  inflStep t.1 g s.2 out = match blkK k t.1 (begW s last k).2 out with | none=>none | some (a2,o2)=>if last = true then some (a2,o2) else g a2 o2:=by
 have hv:(2 * k + if last then 1 else 0) < 2 ^ 3:=by cases last <;> simp <;> omega
 have hn:=Zcf h.1 h.2 _ 3 hv ht
 obtain ⟨n1,n2⟩:=Zyk t.1 s.2 _ (by simpa using hv) hn
 have hl:=Zdk hk.1 ht
 rw [(Zcn h last k).2.2] at hl ⊢
 unfold inflStep
 rw [if_pos (by omega),if_pos (by omega),n1,n2]
 have e1:(2 * k + if last then 1 else 0) / 2 = k:=by cases last <;> simp <;> omega
 have e2:(2 * k + if last then 1 else 0) % 2 = if last then 1 else 0:=by cases last <;> simp <;> omega
 rw [e1,e2,show s.2 + 1 + 2 = s.2 + 3 by omega]
 cases blkK k t.1 (s.2 + 3) out with
 | none=>rfl
 | some p=>cases last <;> rfl
end Go.Proofs.YtendielanacflaaGreat.M10

namespace Go.Proofs.YtendielanacflaaGreat.M05
def swapL (d:List Nat) (j:Nat):List Nat:=(d.set (j + 1) (d.getD j 0)).set j (d.getD (j + 1) 0)
def insD (f:List Nat) (a:Nat):Nat -> List Nat -> List Nat
 | 0,d=>d
 | j + 1,d=>if a < j + 1 /\ f.getD (d.getD (j + 1) 0) 0 < f.getD (d.getD j 0) 0 then insD f a j (swapL d j) else d
def insO (f:List Nat) (a:Nat):Nat -> Nat -> List Nat -> List Nat
 | _,0,d=>d
 | i,n + 1,d=>insO f a (i + 1) n (insD f a i d)
def insS (f:List Nat) (a b:Nat) (d:List Nat):List Nat:=insO f a (a + 1) (b - (a + 1)) d
theorem Zju (d:List Nat) (j:Nat):(swapL d j).length = d.length:=by simp [swapL]
theorem Zach (f:List Nat) (a:Nat):∀ j d,(insD f a j d).length = d.length:=by
 intro j
 induction j with
 | zero=>intro d;rfl
 | succ j ih =>
  intro d
  unfold insD
  split
  ·rw [ih,Zju]
  ·rfl
def inr (f:List Nat) (x:Nat):List Nat -> List Nat
 | []=>[x]
 | y :: ys=>if f.getD x 0 < f.getD y 0 then y :: inr f x ys else x :: y :: ys
theorem Zagg (f:List Nat) (x:Nat):∀ r,(inr f x r).length = r.length + 1:=by
 intro r
 induction r with
 | nil=>rfl
 | cons y ys ih =>
  unfold inr
  split
  ·simp [ih]
  ·rfl
theorem Zmb (f:List Nat) (x:Nat):∀ r,(inr f x r).Perm (x :: r):=by
 intro r
 induction r with
 | nil=>exact .refl _
 | cons y ys ih =>
  unfold inr
  split
  ·exact (List.Perm.cons y ih).trans (List.Perm.swap x y ys)
  ·exact .refl _
theorem Zgs (a:List Nat) (x:Nat) (b:List Nat):(a ++ x :: b).getD a.length 0 = x:=by
 rw [List.getD_eq_getElem?_getD,List.getElem?_append_right (Nat.le_refl _)];simp
theorem Zahg (a:List Nat) (y x:Nat) (b:List Nat):swapL (a ++ y :: x :: b) a.length = a ++ x :: y :: b:=by
 have h1:(a ++ y :: x :: b).getD a.length 0 = y:=Zgs a y _
 have h2:(a ++ y :: x :: b).getD (a.length + 1) 0 = x:=by
  simp
 unfold swapL
 rw [h1,h2,List.set_append_right _ _ (by omega)]
 rw [show a.length + 1 - a.length = 1 by omega]
 rw [List.set_append_right _ _ (by omega),Nat.sub_self]
 rfl
theorem Zacg (f:List Nat):∀ (r:List Nat) (x:Nat) (suf:List Nat),insD f 0 r.length (r.reverse ++ x :: suf) = (inr f x r).reverse ++ suf:=by
 intro r
 induction r with
 | nil=>intro x suf;rfl
 | cons y ys ih =>
  intro x suf
  have e:(y :: ys).reverse ++ x :: suf = ys.reverse ++ y :: x :: suf:=by simp
  rw [e]
  have hl:ys.reverse.length = ys.length:=by simp
  have h1:(ys.reverse ++ y :: x :: suf).getD ys.length 0 = y:=by rw [<- hl];exact Zgs _ _ _
  have h2:(ys.reverse ++ y :: x :: suf).getD (ys.length + 1) 0 = x:=by
   simp
  show (if 0 < ys.length + 1 /\ _ then _ else _) = _
  rw [h1,h2]
  unfold inr
  by_cases hlt:f.getD x 0 < f.getD y 0
  ·rw [if_pos ⟨by omega,hlt⟩,if_pos hlt]
   have:=Zahg ys.reverse y x suf
   rw [hl] at this
   rw [this,ih]
   simp
  ·rw [if_neg (fun h=>hlt h.2),if_neg hlt]
   simp
theorem Zxt (f:List Nat):∀ (suf r:List Nat),insO f 0 r.length suf.length (r.reverse ++ suf) = (suf.foldl (fun r x=>inr f x r) r).reverse:=by
 intro suf
 induction suf with
 | nil=>intro r;simp [insO]
 | cons x s ih =>
  intro r
  show insO f 0 (r.length + 1) s.length (insD f 0 r.length (r.reverse ++ x :: s)) = _
  rw [Zacg,<- Zagg f x r,ih]
  rfl
def LexR (f:List Nat) (r:List Nat):Prop:=r.Pairwise fun a b=>ltF f b a = true
theorem Zagh (f:List Nat) (x:Nat):∀ r,LexR f r -> (∀ y ∈ r,y < x) -> LexR f (inr f x r):=by
 intro r
 induction r with
 | nil=>intro _ _;simp [inr,LexR]
 | cons y ys ih =>
  intro h hx
  unfold LexR at h
  rw [List.pairwise_cons] at h
  have hyx:=hx y (by simp)
  unfold inr
  split
  ·next hlt =>
   refine List.pairwise_cons.2 ⟨fun z hz=>?_,ih h.2 (fun z hz=>hx z (by simp [hz]))⟩
   rcases List.mem_cons.1 ((Zmb f x ys).mem_iff.1 hz) with rfl | hz
   ·unfold ltF;simp only [Bool.or_eq_true,decide_eq_true_eq];exact .inl hlt
   ·exact h.1 z hz
  ·next hlt =>
   have hy:ltF f y x = true:=by
    unfold ltF
    simp only [Bool.or_eq_true,Bool.and_eq_true,decide_eq_true_eq]
    omega
   refine List.pairwise_cons.2 ⟨fun z hz=>?_,List.pairwise_cons.2 h⟩
   rcases List.mem_cons.1 hz with rfl | hz
   ·exact hy
   ·exact Zbj f _ _ _ (h.1 z hz) hy
theorem Zaca (f:List Nat):∀ (suf r:List Nat),suf.Pairwise (· < ·) -> LexR f r -> (∀ y ∈ r,∀ x ∈ suf,y < x) →
  LexR f (suf.foldl (fun r x=>inr f x r) r) /\ (suf.foldl (fun r x=>inr f x r) r).Perm (r ++ suf):=by
 intro suf
 induction suf with
 | nil=>intro r _ h _;exact ⟨h,by simp⟩
 | cons x s ih =>
  intro r hs hr hx
  rw [List.pairwise_cons] at hs
  obtain ⟨h1,h2⟩:=ih (inr f x r) hs.2 (Zagh f x r hr (fun y hy=>hx y hy x (by simp))) (by
   intro y hy z hz
   rcases List.mem_cons.1 ((Zmb f x r).mem_iff.1 hy) with rfl | hy
   ·exact hs.1 z hz
   ·exact hx y hy z (by simp [hz]))
  refine ⟨h1,h2.trans ?_⟩
  exact ((Zmb f x r).append_right s).trans List.perm_middle.symm
theorem Zwa (f:List Nat):(used f).Pairwise (· < ·):=List.Pairwise.filter _ List.pairwise_lt_range
end Go.Proofs.YtendielanacflaaGreat.M05
