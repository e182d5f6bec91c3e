/- prefix: PutLow: contract. cost.may, cost.uses: contracts. Laying tokens by two codes: plain. Plain mathematics of layer 5: lengths that cost least: rows of packages, what is taken of each, the lengths; they make a full code. kraft.Single: contract. Plain mathematics of layer 7: signs. -/
import Derived.Test.YtendielanacflaaGreatB01
import Derived.Test.YtendielanacflaaGreatB03
import Derived.Test.YtendielanacflaaGreatB02
import Derived.Lib.Hide
set_option linter.unusedVariables false
set_option linter.unusedSimpArgs false
namespace Go.Proofs.YtendielanacflaaGreat
open Go.RowKit Go.Shelf M01 M04 M06
def addWord (s:Wst) (x n:Nat):Nat -> Wst
 | 0=>s
 | j + 1=>addNum (addWord s x n j) (x / 2 ^ (n - 1 - j) % 2) 1
def addSym (l:List Nat) (st:Wst) (s:Nat):Wst:=addWord st ((words l).getD s 0) (l.getD s 0) (l.getD s 0)
theorem Zbi (s:Wst) (x n j:Nat):(addWord s x n j).2 = s.2 + j:=by
 induction j with
 | zero=>rfl
 | succ j ih=>unfold addWord;rw [Zac,ih];omega
theorem Zlg (w:World) (lo hi p:Nat) (l:List Nat) (s:Nat) (h:Tb lo hi w p l) (hs:s < l.length) (hx:l.getD s 0 <= 255) :
  Calls Tryz.prog 114 #[.pointer (some ⟨p,0,none⟩),.int .i64 (s:Nat)] w fun e w'=>e = .returned (.int .i64 (l.getD s 0:Nat)) /\ w' = w:=by
 obtain ⟨a1,c1,a2,c2,mb,nn,g1,g2,g3,g4,_⟩:=h
 obtain ⟨b,off,rfl,hb,hck⟩:=g2.at hs
 have hge:l[s] = l.getD s 0:=by simp [List.getD,List.getElem?_eq_getElem hs]
 rw [hge] at hck
 have c0:w.cell? ⟨p,0,none⟩ = some (.slice (some ⟨b,off,none⟩) l.length c1):=by simp [World.cell?,g1]
 have t1:decide (l.length <= s) = false:=by simp;omega
 have q1:(0:Int) <= (s:Int):=by omega
 have q2:(s:Int) < (l.length:Int):=by omega
 generalize l.getD s 0 = x at *
 clear g1 g2 g3 g4 hge hb
 go_enter Tryz.func114,Tryz.ntmps114
 go_wp2
 go_ret
 exact ⟨rfl,rfl⟩
set_option maxRecDepth 100000 in
set_option maxHeartbeats 1600000 in
theorem Zvg {P:Nat -> Prop} {w:World} {lo hi tp p:Nat} {l:List Nat} {st:Wst} (hT:Tb lo hi w tp l) (hW:Wr P w p st) (hP:∀ b,lo <= b -> b < hi -> ¬ P b) (s n:Nat) (hs:s < l.length) (hn:l.getD s 0 = n) (h0:0 < n) (h20:n <= 20)
  (hx:(words l).getD s 0 < 4294967296) (hb:st.2 + n <= 100000000) :
  Calls Tryz.prog 78 #[.pointer (some ⟨tp,0,none⟩),.pointer (some ⟨p,0,none⟩),.int .i64 (s:Nat),.func (Fn.func 18) #[.pointer (some ⟨p,0,none⟩)] #[]] w fun e w' =>
   e = .returned (.int .i64 0) /\ Only P w w' /\ Wr P w' p (addWord st ((words l).getD s 0) n n):=by
 have HB:=Zh (Zlg w lo hi tp l s hT hs (by omega))
 rw [hn] at HB
 obtain ⟨x,hxe⟩:∃ x,(words l).getD s 0 = x:=⟨_,rfl⟩
 rw [hxe] at hx ⊢
 have HT:=Zh hT
 have HW:=Zh hW
 have HP:=Zh hP
 have t0:((n:Int) == 0) = false:=beq_eq_false_iff_ne.2 (by omega)
 obtain ⟨n1,hn1⟩:∃ n1,n = n1 + 1:=⟨n - 1,by omega⟩
 have q0:(n:Int) - 1 = (n1:Int):=by omega
 replace hn1:=Zh hn1
 have HXE:=Zh hxe
 have hwl:=Zbc l
 clear hT hW hP hxe
 go_enter Tryz.func78,Tryz.ntmps78
 go_wp2_with fail
 refine HB.out.mono ?_
 rintro e w1 ⟨rfl,rfl⟩
 go_wp2_with fail
 go_loopw [10] (fun c A=>Only P w1 A /\ ((∃ r:Nat,c = .int .i64 (r:Nat) /\ r < n /\ Wr P A p (addWord st x n (n - 1 - r))) \/ (c = .int .i64 (-1) /\ Wr P A p (addWord st x n n)))) (fun c _=>(intOf c + 1).toNat)
 case atStart=>exact ⟨Only.refl _ _,.inl ⟨n1,rfl,by have:=hn1.out;omega,by rw [show n - 1 - n1 = 0 by have:=hn1.out;omega];exact HW.out⟩⟩
 case round =>
  clear HB q0 t0
  obtain ⟨ho,hrel⟩:=hrel
  have HO:=Zh ho
  rcases hrel with ⟨r,rfl,hr,hw⟩ | ⟨rfl,hw⟩
  ·have HW2:=Zh hw
   have HT2:=Zh (HT.out.only ho HP.out)
   obtain ⟨a1,c1,a2,c2,mb,nn,g1,g2,g3,g4,_⟩:=HT2.out
   obtain ⟨b,off,rfl,hbb,hck⟩:=g3.at (i:=s) (by rw [hwl];exact hs)
   have hge:(words l)[s]'(by rw [hwl];exact hs) = x:=by rw [<- HXE.out];simp [List.getD,List.getElem?_eq_getElem (show s < (words l).length by rw [hwl];exact hs)]
   rw [hge] at hck
   have k1:wr.cell? ⟨tp,1,none⟩ = some (.slice (some ⟨b,off,none⟩) l.length c2):=by simp [World.cell?,g1]
   obtain ⟨y,hy⟩:∃ y,x / 2 ^ r = y:=⟨_,rfl⟩
   have hy2:y < 4294967296:=by rw [<- hy];exact Nat.lt_of_le_of_lt (Nat.div_le_self _ _) hx
   have q1:(x:Int) / 2 ^ r = (y:Int):=by rw [<- hy];simp
   obtain ⟨z,hz⟩:∃ z,y % 2 = z:=⟨_,rfl⟩
   have q2:bits .and .u32 (y:Int) 1 = (z:Int):=by rw [and1 y hy2,hz]
   have q3:(0:Int) <= (s:Int):=by omega
   have q4:(s:Int) < (l.length:Int):=by omega
   have q5:(0:Int) <= (r:Int):=by omega
   have hr32:r <= 32:=by omega
   have hll:(addWord st x n (n - 1 - r)).2 + 1 <= 100000000:=by rw [Zbi];omega
   have HPU:=Zh (show Calls Tryz.prog 18 #[.pointer (some ⟨p,0,none⟩),.int .u32 (z:Nat),.int .i64 1] wr _ from Zau HW2.out z 1 (by decide) (by omega) hll)
   have HA:Hid (addNum (addWord st x n (n - 1 - r)) z 1 = addWord st x n (n - r)):=by
    unfold Hid
    rw [show n - r = (n - 1 - r) + 1 by omega]
    show _ = addNum _ (x / 2 ^ (n - 1 - (n - 1 - r)) % 2) 1
    rw [show n - 1 - (n - 1 - r) = r by omega,hy,hz]
   rw [HA.out] at HPU
   clear ho hw HW2 HT2 g1 g2 g3 g4 hge hll HA hy hz hbb
   go_wp2_with (go_at_call 18;refine HPU.out.mono ?_;rintro e w2 ⟨rfl,ho2,hw2⟩;replace ho2:=Zh ho2;replace hw2:=Zh hw2)
   go_roundw
   case rel =>
    refine ⟨HO.out.trans ho2.out,?_⟩
    cases r with
    | zero=>exact .inr ⟨rfl,hw2.out⟩
    | succ r=>exact .inl ⟨r,congrArg (Value.int IntKind.i64) (by omega),by omega,by rw [show n - 1 - r = n - (r + 1) by omega];exact hw2.out⟩
   case measure=>simp [intOf]
  ·have HW2:=Zh hw
   clear ho hw
   go_wp2
   go_ret
   exact ⟨rfl,HO.out,HW2.out⟩
theorem Zeb {P:Nat -> Prop} {w:World} {lo hi tp p:Nat} {l:List Nat} {st:Wst} (hT:Tb lo hi w tp l) (hW:Wr P w p st) (hP:∀ b,lo <= b -> b < hi -> ¬ P b) (s:Nat) (hs:s < l.length) (h0:0 < l.getD s 0) (h20:l.getD s 0 <= 20)
  (hx:(words l).getD s 0 < 4294967296) (hb:st.2 + l.getD s 0 <= 100000000) :
  Calls Tryz.prog 42 #[.pointer (some ⟨tp,0,none⟩),.pointer (some ⟨p,0,none⟩),.int .i64 (s:Nat)] w fun e w' =>
   e = .returned (.int .i64 0) /\ Only P w w' /\ Wr P w' p (addSym l st s):=by
 have HC:=Zh (Zvg hT hW hP s _ hs rfl h0 h20 hx hb)
 have hmf:∀ (fn:Fn) (first cap:Array Value) (w:World),(Instr.makeFunc fn first cap).run Tryz.prog w = .ok (.func fn first cap) w:=fun _ _ _ _=>rfl
 have HD:Hid (addWord st ((words l).getD s 0) (l.getD s 0) (l.getD s 0) = addSym l st s):=rfl
 rw [HD.out] at HC
 clear hT hW hP h0 h20 hx hb
 go_enter Tryz.func42,Tryz.ntmps42
 go_wp2_with fail
 refine HC.out.mono ?_
 rintro e w2 ⟨rfl,ho,hw⟩
 have HO:=Zh ho
 have HW:=Zh hw
 clear ho hw HC
 go_wp2
 go_ret
 exact ⟨rfl,HO.out,HW.out⟩
theorem Zna (w:World) (lo hi p:Nat) (l:List Nat) (s:Nat) (h:Tb lo hi w p l) (hs:l.length <= s) :
  Calls Tryz.prog 114 #[.pointer (some ⟨p,0,none⟩),.int .i64 (s:Nat)] w fun e w'=>e = .returned (.int .i64 0) /\ w' = w:=by
 obtain ⟨a1,c1,a2,c2,mb,nn,g1,g2,g3,g4,_⟩:=h
 have c0:w.cell? ⟨p,0,none⟩ = some (.slice a1 l.length c1):=by simp [World.cell?,g1]
 have t1:decide (l.length <= s) = true:=by simpa using hs
 clear g1 g2 g3 g4 hs
 go_enter Tryz.func114,Tryz.ntmps114
 go_wp2
 go_ret
 exact ⟨rfl,rfl⟩
def addSymE (l:List Nat) (st:Wst) (s:Nat):Wst:=if l.getD s 0 = 0 then st else addSym l st s
theorem Zke (w:World) (lo hi p:Nat) (l:List Nat) (s:Nat) (h:Tb lo hi w p l) (hx:∀ x ∈ l,x <= 20) :
  Calls Tryz.prog 114 #[.pointer (some ⟨p,0,none⟩),.int .i64 (s:Nat)] w fun e w'=>e = .returned (.int .i64 (l.getD s 0:Nat)) /\ w' = w:=by
 by_cases hs:s < l.length
 ·exact Zlg w lo hi p l s h hs (by have:=Zat hx s;omega)
 ·have h0:l.getD s 0 = 0:=by simp [List.getD,List.getElem?_eq_none (show l.length <= s by omega)]
  rw [h0]
  exact Zna w lo hi p l s h (by omega)
theorem Zkb (w:World) (lo hi tp p:Nat) (l:List Nat) (s:Nat) (hT:Tb lo hi w tp l) (hx:∀ x ∈ l,x <= 20) (h0:l.getD s 0 = 0) :
  Calls Tryz.prog 42 #[.pointer (some ⟨tp,0,none⟩),.pointer (some ⟨p,0,none⟩),.int .i64 (s:Nat)] w fun e w'=>e = .returned (.int .i64 5) /\ w' = w:=by
 have HB:=Zh (Zke w lo hi tp l s hT hx)
 rw [h0] at HB
 have hmf:∀ (fn:Fn) (first cap:Array Value) (w:World),(Instr.makeFunc fn first cap).run Tryz.prog w = .ok (.func fn first cap) w:=fun _ _ _ _=>rfl
 clear hT hx h0
 go_enter Tryz.func42,Tryz.ntmps42
 go_wp2_with fail
 go_enter Tryz.func78,Tryz.ntmps78
 go_wp2_with fail
 refine HB.out.mono ?_
 rintro e w1 ⟨rfl,rfl⟩
 go_wp2
 go_ret
 go_wp2
theorem Zcg {P:Nat -> Prop} {w:World} {lo hi tp p:Nat} {l:List Nat} {st:Wst} (hT:Tb lo hi w tp l) (hW:Wr P w p st) (hP:∀ b,lo <= b -> b < hi -> ¬ P b) (h20:∀ x ∈ l,x <= 20) (hwt:weight l <= 2 ^ 20) (s:Nat) (hb:st.2 + 20 <= 100000000) :
  Calls Tryz.prog 42 #[.pointer (some ⟨tp,0,none⟩),.pointer (some ⟨p,0,none⟩),.int .i64 (s:Nat)] w fun e w' =>
   ∃ c:Nat,e = .returned (.int .i64 (c:Nat)) /\ Only P w w' /\ Wr P w' p (addSymE l st s):=by
 unfold addSymE
 by_cases h0:l.getD s 0 = 0
 ·rw [if_pos h0]
  refine (Zkb w lo hi tp p l s hT h20 h0).mono ?_
  rintro e w' ⟨rfl,rfl⟩
  exact ⟨5,rfl,Only.refl _ _,hW⟩
 ·rw [if_neg h0]
  have hs:s < l.length:=by
   rcases Nat.lt_or_ge s l.length with h | h
   ·exact h
   ·exact absurd (by simp [List.getD,List.getElem?_eq_none h]) h0
  have hle:=Zat h20 s
  have hx:(words l).getD s 0 < 4294967296:=by
   have h1:=Zfa l s hs h20 hwt
   have h2:(words l).getD s 0 = word l s:=by simp [List.getD,List.getElem?_eq_getElem (show s < (words l).length by rw [Zbc];exact hs),Zbu]
   have h3:word l s < 2 ^ l.getD s 0:=by
    rcases Nat.lt_or_ge (word l s) (2 ^ l.getD s 0) with h | h
    ·exact h
    ·have:=Nat.div_pos h (Nat.pow_pos (by decide));omega
   have h4:2 ^ l.getD s 0 <= 2 ^ 20:=Nat.pow_le_pow_right (by decide) hle
   omega
  refine (Zeb hT hW hP s hs (by omega) hle hx (by omega)).mono ?_
  rintro e w' ⟨rfl,h1,h2⟩
  exact ⟨0,rfl,h1,h2⟩
theorem Wr.below {P:Nat -> Prop} {w w':World} {p:Nat} {s:Wst} (h:Wr P w p s) (hb:Below w.heap.size w w'):Wr P w' p s:=by
 have hlt:=h.lt
 obtain ⟨⟨a,c,h1,h2,h3,h4,h5⟩,h6⟩:=h
 exact ⟨⟨a,c,(hb.block p hlt).trans h1,h2.below hb,h3,h4,fun b hb'=>h5 b (Nat.le_trans hb.size hb')⟩,h6⟩
theorem Wr.narrow {P:Nat -> Prop} {w w':World} {p:Nat} {s:Wst} (h:Wr P w p s) (hb:Below w.heap.size w w'):Wr (Sub P w.heap.size w'.heap.size) w' p s:=by
 have hlt:=h.lt
 obtain ⟨⟨a,c,h1,h2,h3,h4,h5⟩,h6⟩:=h
 have hz:=hb.size
 refine ⟨⟨a,c,(hb.block p hlt).trans h1,h2.below hb,⟨h3,by omega⟩,fun g hg=>⟨⟨(h4 g hg).1,?_⟩,(h4 g hg).2⟩,fun b hb'=>⟨h5 b (by omega),by omega⟩⟩,h6⟩
 rcases h2.form with ⟨rfl,_,_⟩ | ⟨g',rfl,_,hg'⟩
 ·cases hg
 ·cases hg;omega
theorem Wr.widen {P:Nat -> Prop} {lo hi:Nat} {w:World} {p:Nat} {s:Wst} (h:Wr (Sub P lo hi) w p s):Wr P w p s:=by
 obtain ⟨⟨a,c,h1,h2,h3,h4,h5⟩,h6⟩:=h
 exact ⟨⟨a,c,h1,h2,h3.1,fun g hg=>⟨(h4 g hg).1.1,(h4 g hg).2⟩,fun b hb=>(h5 b hb).1⟩,h6⟩
theorem Zda {l:List Nat} (h:∀ x ∈ l,x <= 20) (st:Wst) (s:Nat):(addSymE l st s).2 <= st.2 + 20:=by
 unfold addSymE
 split
 ·omega
 ·unfold addSym
  rw [Zbi]
  have:=Zat h s
  omega
end Go.Proofs.YtendielanacflaaGreat

namespace Go.Proofs.YtendielanacflaaGreat
open Go.RowKit Go.Shelf M08 M17
attribute [local go_sem] Oper.semAt_some
def mayN (t:Tok):Nat:=if (t.len = 0 /\ t.dist ≠ 0) \/ (t.len ≠ 0 /\ t.byte ≠ 0) then 5 else 0
theorem Zai (w:World) (o:Obj):Below w.heap.size w (w.alloc o):=(Below.refl _ _).alloc (Nat.le_refl _) _
theorem Zhx (t:Tok) (w:World) :
  Calls Tryz.prog 109 #[tokV t] w fun e w'=>e = .returned (.int .i64 (mayN t:Nat)) /\ Below w.heap.size w w':=by
 obtain ⟨L,D,b⟩:=t
 unfold tokV
 by_cases h0:L = 0
 ·by_cases h1:D = 0
  ·have H:Hid (mayN ⟨L,D,b⟩ = 0):=by unfold Hid mayN;rw [if_neg (by simp [h0,h1])]
   have b0:(L == 0) = true:=by simp [h0]
   have b2:(L != 0) = false:=by simp [h0]
   have b1:(D != 0) = false:=by simp [h1]
   clear h0 h1
   go_enter Tryz.func109,Tryz.ntmps109
   go_wp2
   go_ret
   exact ⟨Zdm (by rw [H.out];rfl),Zai _ _⟩
  ·have H:Hid (mayN ⟨L,D,b⟩ = 5):=by unfold Hid mayN;rw [if_pos (by simp [h0,h1])]
   have b0:(L == 0) = true:=by simp [h0]
   have b2:(L != 0) = false:=by simp [h0]
   have b1:(D != 0) = true:=by simp [h1]
   clear h0 h1
   go_enter Tryz.func109,Tryz.ntmps109
   go_wp2
   go_ret
   exact ⟨Zdm (by rw [H.out];rfl),Zai _ _⟩
 ·by_cases h1:b = 0
  ·have H:Hid (mayN ⟨L,D,b⟩ = 0):=by unfold Hid mayN;rw [if_neg (by simp [h0,h1])]
   have b0:(L == 0) = false:=by simp [h0]
   have b2:(L != 0) = true:=by simp [h0]
   have b1:((b:Int) != 0) = false:=by simp;omega
   clear h0 h1
   go_enter Tryz.func109,Tryz.ntmps109
   go_wp2
   go_ret
   exact ⟨Zdm (by rw [H.out];rfl),Zai _ _⟩
  ·have H:Hid (mayN ⟨L,D,b⟩ = 5):=by unfold Hid mayN;rw [if_pos (by simp [h0,h1])]
   have b0:(L == 0) = false:=by simp [h0]
   have b2:(L != 0) = true:=by simp [h0]
   have b1:((b:Int) != 0) = true:=by simp;omega
   clear h0 h1
   go_enter Tryz.func109,Tryz.ntmps109
   go_wp2
   go_ret
   exact ⟨Zdm (by rw [H.out];rfl),Zai _ _⟩
theorem Znr (a:Option Addr) (cap n:Nat) (w:World) :
  Calls Tryz.prog 71 #[.slice a n cap] w fun e w'=>e = .returned (.func (.func 108) #[] #[.pointer (some ⟨w.heap.size,0,none⟩)]) /\ w' = w.alloc (.cells #[.slice a n cap] 22):=by
 have hmf:∀ (fn:Fn) (first cap:Array Value) (w:World),(Instr.makeFunc fn first cap).run Tryz.prog w = .ok (.func fn first cap) w:=fun _ _ _ _=>rfl
 go_enter Tryz.func71,Tryz.ntmps71
 go_wp2
 go_ret
 exact ⟨rfl,rfl⟩
def lenS (n:Int):Nat:=if 3 <= n /\ n <= 258 then 257 + lk n.toNat else 0
def lenB (n:Int):Nat:=if 3 <= n /\ n <= 258 then lbits (257 + lk n.toNat) else 0
def lenX (n:Int):Nat:=if 3 <= n /\ n <= 258 then n.toNat - lensL.getD (lk n.toNat) 0 else 0
def lenE (n:Int):Nat:=if 3 <= n /\ n <= 258 then 0 else 5
def dstS (n:Int):Nat:=if 1 <= n /\ n <= 32768 then dk n.toNat else 0
def dstB (n:Int):Nat:=if 1 <= n /\ n <= 32768 then dbits (dk n.toNat) else 0
def dstX (n:Int):Nat:=if 1 <= n /\ n <= 32768 then n.toNat - distL.getD (dk n.toNat) 0 else 0
def dstE (n:Int):Nat:=if 1 <= n /\ n <= 32768 then 0 else 5
theorem Zcm (n:Int) (w:World) :
  Calls Tryz.prog 43 #[.int .i64 n] w fun e w'=>e = .returned (.tuple #[.int .i64 (lenS n:Nat),.int .i64 (lenB n:Nat),.int .i64 (lenX n:Nat),.int .i64 (lenE n:Nat)]) /\ Below w.heap.size w w':=by
 unfold lenS lenB lenX lenE
 by_cases h:3 <= n /\ n <= 258
 ·obtain ⟨m,rfl⟩:=Int.eq_ofNat_of_zero_le (by omega:0 <= n)
  simp only [if_pos h,Int.toNat_natCast]
  exact Zpv m w (by omega) (by omega)
 ·simp only [if_neg h]
  exact (Zjv n w (by omega)).mono fun e w' ⟨h1,h2⟩=>⟨h1,h2 ▸ Below.refl _ _⟩
theorem Zbt (n:Int) (w:World) :
  Calls Tryz.prog 44 #[.int .i64 n] w fun e w'=>e = .returned (.tuple #[.int .i64 (dstS n:Nat),.int .i64 (dstB n:Nat),.int .i64 (dstX n:Nat),.int .i64 (dstE n:Nat)]) /\ Below w.heap.size w w':=by
 unfold dstS dstB dstX dstE
 by_cases h:1 <= n /\ n <= 32768
 ·obtain ⟨m,rfl⟩:=Int.eq_ofNat_of_zero_le (by omega:0 <= n)
  simp only [if_pos h,Int.toNat_natCast]
  exact Zkf m w (by omega) (by omega)
 ·simp only [if_neg h]
  exact (Zhd n w (by omega)).mono fun e w' ⟨h1,h2⟩=>⟨h1,h2 ▸ Below.refl _ _⟩
def useRow (l:List Tok) (i:Nat):Array Value :=
 let r:=(useU l).getD i endU
 #[.agg #[.bool r.far,.int .i64 (r.sym:Nat),.int .i64 (r.bits:Nat)],.int .i64 (r.err:Nat)]
def useP (l:List Tok) (k:Nat):Nat:=((l.take k).flatMap tokU).length
theorem Zcl {l:List Tok} {i:Nat} {r:URow} (h:(useU l)[i]? = some r):i < (useU l).length /\ useRow l i = #[.agg #[.bool r.far,.int .i64 (r.sym:Nat),.int .i64 (r.bits:Nat)],.int .i64 (r.err:Nat)]:=by
 refine ⟨(List.getElem?_eq_some_iff.1 h).1,?_⟩
 simp [useRow,List.getD,h]
theorem Zaao (l:List Tok) (k:Nat) (hk:k < l.length):useP l (k + 1) = useP l k + (tokU l[k]).length:=by
 unfold useP
 rw [List.take_succ_eq_append_getElem hk,List.flatMap_append,List.length_append]
 simp
theorem Zahq (l:List Tok) (k:Nat) (hk:k < l.length) (h:∀ t ∈ l.take k,tokOk t) (j:Nat) (hj:j < (tokU l[k]).length):(useU l)[useP l k + j]? = (tokU l[k])[j]?:=by
 rw [Zaap l k hk h]
 unfold useP
 rw [List.getElem?_append_right (by omega),Nat.add_sub_cancel_left]
 split
 ·rw [List.getElem?_append_left hj]
 ·rfl
theorem Zaeq (l:List Tok) (k:Nat) (hk:k < l.length) (h:∀ t ∈ l.take k,tokOk t) (hb:¬ tokOk l[k]):(useU l).length = useP l k + (tokU l[k]).length:=by
 rw [Zaap l k hk h,if_neg hb,List.length_append];rfl
theorem Zahp (l:List Tok) (h:∀ t ∈ l,tokOk t):(useU l)[useP l l.length]? = some endU /\ (useU l).length = useP l l.length + 1:=by
 rw [Zhe l h]
 unfold useP
 rw [List.take_length]
 refine ⟨?_,by simp⟩
 rw [List.getElem?_append_right (Nat.le_refl _),Nat.sub_self];rfl
theorem Zaaj {l:List Tok} {k:Nat} (hk:k < l.length) (h:∀ t ∈ l.take k,tokOk t) (h2:tokOk l[k]):∀ t ∈ l.take (k + 1),tokOk t:=by
 rw [List.take_succ_eq_append_getElem hk]
 intro t ht
 rcases List.mem_append.1 ht with ht | ht
 ·exact h t ht
 ·simp at ht;exact ht ▸ h2
theorem Zaem {t:Tok} (h:t.len = 0) (h1:t.dist = 0):tokOk t /\ tokU t = [⟨false,t.byte,0,0⟩]:=by
 refine ⟨by unfold tokOk;rw [if_pos h];exact h1,?_⟩
 unfold tokU;rw [if_pos h,if_pos h1]
theorem Zrz {t:Tok} (h:t.len = 0) (h1:t.dist ≠ 0):¬ tokOk t /\ tokU t = [⟨false,t.byte,0,5⟩]:=by
 refine ⟨by unfold tokOk;rw [if_pos h];exact h1,?_⟩
 unfold tokU;rw [if_pos h,if_neg h1]
theorem Zael {t:Tok} (h:t.len ≠ 0) (h1:tokOk t):tokU t = [⟨false,lenS t.len,lenB t.len,0⟩,⟨true,dstS t.dist,dstB t.dist,0⟩] /\ lenE t.len = 0 /\ dstE t.dist = 0 /\ mayN t = 0:=by
 have h2:=h1
 unfold tokOk at h2
 rw [if_neg h] at h2
 unfold tokU lenS lenB dstS dstB lenE dstE mayN
 rw [if_neg h,if_pos h1,if_pos ⟨h2.2.1,h2.2.2.1⟩,if_pos ⟨h2.2.1,h2.2.2.1⟩,if_pos h2.2.2.2,if_pos h2.2.2.2,if_pos ⟨h2.2.1,h2.2.2.1⟩,if_pos h2.2.2.2,if_neg (by simp [h,h2.1])]
 exact ⟨rfl,rfl,rfl,rfl⟩
theorem Zry {t:Tok} (h:t.len ≠ 0) (h1:¬ tokOk t):tokU t = [⟨false,lenS t.len,lenB t.len,5⟩] /\ max (max (lenE t.len) (dstE t.dist)) (mayN t) = 5:=by
 have h2:=h1
 unfold tokOk at h2
 rw [if_neg h] at h2
 unfold tokU lenS lenB
 rw [if_neg h,if_neg h1]
 refine ⟨rfl,?_⟩
 unfold lenE dstE mayN
 by_cases a:3 <= t.len /\ t.len <= 258
 ·by_cases b:1 <= t.dist /\ t.dist <= 32768
  ·have hb:t.byte ≠ 0:=fun hb=>h2 ⟨hb,a.1,a.2,b.1,b.2⟩
   rw [if_pos a,if_pos b,if_pos (.inr ⟨h,hb⟩)];rfl
  ·rw [if_neg b];split <;> split <;> rfl
 ·rw [if_neg a];split <;> split <;> rfl
theorem box3 {wr w1:World} {x y z:Value} {t:TypeId} (h:Below (wr.alloc (.cells #[x,y,z] t)).heap.size (wr.alloc (.cells #[x,y,z] t)) w1):w1.heap[wr.heap.size]? = some (.cells #[x,y,z] t) :=
 (h.block _ (by simp)).trans (World.alloc_heap_new _ _)
theorem cells3 {w:World} {b:Nat} {x y z:Value} {t:TypeId} (h:w.heap[b]? = some (.cells #[x,y,z] t)):w.cell? ⟨b,0,none⟩ = some x /\ w.cell? ⟨b,1,none⟩ = some y /\ w.cell? ⟨b,2,none⟩ = some z:=by
 simp [World.cell?,h]
def useS (a:Option Addr) (B:Nat) (l:List Tok) (b:Nat):Prop:=b = B \/ (0 < l.length /\ ∃ x,a = some x /\ b = x.block)
set_option maxRecDepth 100000 in
set_option maxHeartbeats 3200000 in
theorem Zjx (a:Option Addr) (cap:Nat) (l:List Tok) (w:World) (B:Nat) (hl:l.length <= 100000) (hby:∀ t ∈ l,t.byte < 256) (hr:RowS encT w a cap l) (hB:w.heap[B]? = some (.cells #[.slice a l.length cap] 22 (0,0))) :
  Yields Tryz.prog 108 #[.pointer (some ⟨B,0,none⟩)] (useU l).length (useRow l) (useS a B l) (fun _=>False) w:=by
 intro y J Jx W hsame hJ hJx hY h0
 have HY:=Zh hY
 have HJ:=Zh hJ
 have hbox:W.cell? ⟨B,0,none⟩ = some (.slice a l.length cap):=cell_of_one ((hsame.same B (.inl rfl)).trans hB)
 have HBY:=Zh hby
 clear hJ hJx hY hby
 refine callsIn_of_wp Tryz.func108 rfl trivial ?_ rfl
 simp only [Tryz.ntmps108,List.size_toArray,List.length_cons,List.length_nil,Nat.reduceAdd,Nat.reduceSub,Array.replicate_succ,Array.replicate_zero,List.push_toArray,List.append_toArray,List.nil_append,List.cons_append]
 gi_wp2
 gi_loopw [4,5,6,7,8,9,10,11,12,13,16] (fun _ _ _ _ _ _ _ _ _ _ i A=>∃ k:Nat,k <= l.length /\ i = .int .i64 k /\ (∀ t ∈ l.take k,tokOk t) /\ SameOn (useS a B l) w A /\ J (useP l k) A) (fun _ _ _ _ _ _ _ _ _ _ i _=>l.length - (intOf i).toNat)
 case atStart=>exact ⟨0,by omega,rfl,by simp,hsame,by simpa [useP] using h0⟩
 case round =>
  clear hsame hbox h0
  obtain ⟨k,hk,rfl,hok,hsameA,hJA⟩:=hrel
  have HO:=Zh hok
  have HA:=Zh hJA
  clear hok hJA
  by_cases hlt:k < l.length
  ·have hrA:=hr.same hsameA.size (fun x h0 hx=>hsameA.same _ (.inr ⟨h0,x,hx,rfl⟩))
   obtain ⟨b,off,rfl,hb,hcl⟩:=hrA.at hlt
   have c0:=hcl 0 _ rfl
   have c1:=hcl 1 _ rfl
   have c2:=hcl 2 _ rfl
   have G:=Zh (fun j (hj:j < (tokU l[k]).length)=>Zahq l k hlt HO.out j hj)
   have GL:=Zh (fun hb=>Zaeq l k hlt HO.out hb)
   have GS:=Zh (Zaao l k hlt)
   have GT:=Zh (fun h2=>Zaaj hlt HO.out h2)
   have hbt:=HBY.out _ (List.getElem_mem hlt)
   clear hrA hcl
   generalize l[k] = t at *
   obtain ⟨L,D,bt⟩:=t
   simp only [encT,Nat.add_zero] at c0 c1 c2 hbt
   rw [<- Nat.add_assoc] at c1 c2
   have HS:Hid (∀ x,useS (some ⟨b,off,none⟩) B l x -> x < wr.heap.size /\ ¬ False):=by
    rintro x (rfl | ⟨h0,x',hx',rfl⟩)
    ·exact ⟨Nat.lt_of_lt_of_le (Array.getElem?_eq_some_iff.1 hB).1 hsameA.size,id⟩
    ·cases hx';exact ⟨hb,id⟩
   by_cases h0:L = 0
   ·by_cases h1:D = 0
    ·obtain ⟨t1,t2⟩:=Zaem (t:=⟨L,D,bt⟩) h0 h1
     obtain ⟨hi,hrow⟩:=Zcl ((G.out 0 (by rw [t2];simp)).trans (by rw [t2];rfl))
     have b0:(L == 0) = true:=by simp [h0]
     have hm:mayN ⟨0,0,bt⟩ = 0:=by simp [mayN]
     subst h0 h1
     have T2:=Zh t2
     have T1:=Zh t1
     have HM:=Zh hm
     have HROW:=Zh hrow
     clear t1 t2 hm hrow
     gi_wp2
     refine ⟨trivial,?_⟩
     gi_at_call 109
     refine (callsIn_wide.2 (Zhx ⟨0,0,bt⟩ _)).mono ?_
     rintro e w1 ⟨rfl,hb1⟩
     rw [HM.out]
     obtain ⟨q0,q1,q2⟩:=cells3 (box3 hb1)
     have hO:Only (fun _=>False) wr w1:=((Only.refl _ _).alloc _).below hb1
     have hJ1:=HJ.out _ _ _ HA.out hO
     obtain ⟨fn,tmps,assign,body,hy,hR⟩:=HY.out _ _ hi hJ1
     rw [HROW.out] at hy
     simp only [Int.cast_ofNat_Int] at hy
     have HR:=Zh hR
     have HK:=Zh (hO.sameOn (S:=useS (some ⟨b,off,none⟩) B l) HS.out)
     clear hR hJ1 hO hb1
     gi_wp2
     refine (Zbb HR.out).mono ?_
     rintro e W' (⟨rfl,hJ',hk'⟩ | ⟨rfl,hJx'⟩)
     ·gi_wp2
      go_roundw
      case rel=>exact ⟨k + 1,by omega,by go_num,GT.out T1.out,(hsameA.trans HK.out).trans hk',by rw [GS.out,T2.out];exact hJ'⟩
      case measure=>simp [intOf];omega
     ·gi_wp2
      refine bodyPost_ret (results_none rfl _ _ _) rfl ?_
      exact ⟨⟨_,rfl⟩,.inr ⟨_,hi,hJx'⟩⟩
    ·have b1:(D == 0) = false:=by simp [h1]
     obtain ⟨t1,t2⟩:=Zrz (t:=⟨L,D,bt⟩) h0 h1
     obtain ⟨hi,hrow⟩:=Zcl ((G.out 0 (by rw [t2];simp)).trans (by rw [t2];rfl))
     have b0:(L == 0) = true:=by simp [h0]
     have hm:mayN ⟨0,D,bt⟩ = 5:=by simp [mayN,h1]
     subst h0
     have T2:=Zh t2
     have T1:=Zh t1
     have HM:=Zh hm
     have HROW:=Zh hrow
     clear t1 t2 hm hrow
     gi_wp2
     refine ⟨trivial,?_⟩
     gi_at_call 109
     refine (callsIn_wide.2 (Zhx ⟨0,D,bt⟩ _)).mono ?_
     rintro e w1 ⟨rfl,hb1⟩
     rw [HM.out]
     obtain ⟨q0,q1,q2⟩:=cells3 (box3 hb1)
     have hO:Only (fun _=>False) wr w1:=((Only.refl _ _).alloc _).below hb1
     have hJ1:=HJ.out _ _ _ HA.out hO
     obtain ⟨fn,tmps,assign,body,hy,hR⟩:=HY.out _ _ hi hJ1
     rw [HROW.out] at hy
     simp only [Int.cast_ofNat_Int] at hy
     have HR:=Zh hR
     have HK:=Zh (hO.sameOn (S:=useS (some ⟨b,off,none⟩) B l) HS.out)
     clear hR hJ1 hO hb1
     gi_wp2
     refine (Zbb HR.out).mono ?_
     rintro e W' (⟨rfl,hJ',hk'⟩ | ⟨rfl,hJx'⟩)
     ·gi_wp2
      refine bodyPost_ret (results_none rfl _ _ _) rfl ?_
      exact ⟨⟨_,rfl⟩,.inl (by rw [GL.out T1.out,T2.out];exact hJ')⟩
     ·gi_wp2
      refine bodyPost_ret (results_none rfl _ _ _) rfl ?_
      exact ⟨⟨_,rfl⟩,.inr ⟨_,hi,hJx'⟩⟩
   ·have b0:(L == 0) = false:=by simp [h0]
    by_cases hok:tokOk ⟨L,D,bt⟩
    ·obtain ⟨t2,tl,td,hm⟩:=Zael (t:=⟨L,D,bt⟩) h0 hok
     obtain ⟨hi,hrow⟩:=Zcl ((G.out 0 (by rw [t2];simp)).trans (by rw [t2];rfl))
     obtain ⟨hi2,hrow2⟩:=Zcl ((G.out 1 (by rw [t2];simp)).trans (by rw [t2];rfl))
     have T2:=Zh t2
     have T1:=Zh hok
     have HM:=Zh hm
     have HL:=Zh tl
     have HD:=Zh td
     have HROW:=Zh hrow
     have HROW2:=Zh hrow2
     clear t2 tl td hm hrow hrow2 h0 hok
     gi_wp2
     refine ⟨trivial,?_⟩
     gi_at_call 43
     refine (callsIn_wide.2 (Zcm L _)).mono ?_
     rintro e w1 ⟨rfl,hb1⟩
     have q1:=box3 hb1
     obtain ⟨_,p1,_⟩:=cells3 q1
     have hO1:Only (fun _=>False) wr w1:=((Only.refl _ _).alloc _).below hb1
     have hw1:wr.heap.size < w1.heap.size:=(Array.getElem?_eq_some_iff.1 q1).1
     have Q1:=Zh q1
     have HO1:=Zh hO1
     clear hb1 q1 hO1
     rw [HL.out]
     gi_wp2
     refine ⟨trivial,?_⟩
     gi_at_call 44
     refine (callsIn_wide.2 (Zbt D _)).mono ?_
     rintro e w2 ⟨rfl,hb2⟩
     have q2:=(hb2.block _ hw1).trans Q1.out
     obtain ⟨p20,p21,p22⟩:=cells3 q2
     have hO2:Only (fun _=>False) wr w2:=HO1.out.below hb2
     have hw2:wr.heap.size < w2.heap.size:=(Array.getElem?_eq_some_iff.1 q2).1
     have HO2:=Zh hO2
     clear hb2 q2 hO2 HO1 Q1 p1
     rw [HD.out]
     gi_wp2
     refine ⟨trivial,?_⟩
     gi_at_call 109
     refine (callsIn_wide.2 (Zhx ⟨L,D,bt⟩ _)).mono ?_
     rintro e w3 ⟨rfl,hb3⟩
     have hO:=HO2.out.below hb3
     have hJ1:=HJ.out _ _ _ HA.out hO
     have HK:=Zh (hO.sameOn (S:=useS (some ⟨b,off,none⟩) B l) HS.out)
     clear hO hb3 p20 p21 p22 HO2
     rw [HM.out]
     obtain ⟨fn,tmps,assign,body,hy,hR⟩:=HY.out _ _ hi hJ1
     rw [HROW.out] at hy
     simp only [Int.cast_ofNat_Int] at hy
     have HR:=Zh hR
     have HI2:=Zh hi2
     have HI:=Zh hi
     clear hR hJ1 hi hi2
     gi_wp2
     refine (Zbb HR.out).mono ?_
     rintro e W' (⟨rfl,hJ',hk'⟩ | ⟨rfl,hJx'⟩)
     ·obtain ⟨fn2,tmps2,assign2,body2,hy2,hR2⟩:=HY.out _ _ HI2.out hJ'
      rw [HROW2.out] at hy2
      simp only [Int.cast_ofNat_Int] at hy2
      have HR2:=Zh hR2
      have HK2:=Zh hk'
      clear hR2 hJ' hy HR hk'
      gi_wp2
      refine (Zbb HR2.out).mono ?_
      rintro e W2 (⟨rfl,hJ2,hk2⟩ | ⟨rfl,hJx2⟩)
      ·gi_wp2
       go_roundw
       case rel=>exact ⟨k + 1,by omega,by go_num,GT.out T1.out,((hsameA.trans HK.out).trans HK2.out).trans hk2,by rw [GS.out,T2.out];exact hJ2⟩
       case measure=>simp [intOf];omega
      ·gi_wp2
       refine bodyPost_ret (results_none rfl _ _ _) rfl ?_
       exact ⟨⟨_,rfl⟩,.inr ⟨_,HI2.out,hJx2⟩⟩
     ·gi_wp2
      refine ⟨fun _ h=>(by cases h),?_⟩
      gi_wp2
      refine bodyPost_ret (results_none rfl _ _ _) rfl ?_
      exact ⟨⟨_,rfl⟩,.inr ⟨_,HI.out,hJx'⟩⟩
    ·obtain ⟨t2,tm⟩:=Zry (t:=⟨L,D,bt⟩) h0 hok
     obtain ⟨hi,hrow⟩:=Zcl ((G.out 0 (by rw [t2];simp)).trans (by rw [t2];rfl))
     have T2:=Zh t2
     have T1:=Zh hok
     have HROW:=Zh hrow
     clear t2 hrow h0
     have hx:lenE L = 0 \/ lenE L = 5:=by unfold lenE;split <;> simp
     have hy:dstE D = 0 \/ dstE D = 5:=by unfold dstE;split <;> simp
     have hz:mayN ⟨L,D,bt⟩ = 0 \/ mayN ⟨L,D,bt⟩ = 5:=by unfold mayN;split <;> simp
     rcases hx with hx | hx <;> rcases hy with hy | hy <;> rcases hz with hz | hz <;> rw [hx,hy,hz] at tm <;> first | (exact absurd tm (by decide)) | skip
     all_goals
      have HL:=Zh hx
      have HD:=Zh hy
      have HM:=Zh hz
      clear hx hy hz tm hok
      gi_wp2
      refine ⟨trivial,?_⟩
      gi_at_call 43
      refine (callsIn_wide.2 (Zcm L _)).mono ?_
      rintro e w1 ⟨rfl,hb1⟩
      have q1:=box3 hb1
      obtain ⟨_,p1,_⟩:=cells3 q1
      have hO1:Only (fun _=>False) wr w1:=((Only.refl _ _).alloc _).below hb1
      have hw1:wr.heap.size < w1.heap.size:=(Array.getElem?_eq_some_iff.1 q1).1
      have Q1:=Zh q1
      have HO1:=Zh hO1
      clear hb1 q1 hO1
      rw [HL.out]
      gi_wp2
      refine ⟨trivial,?_⟩
      gi_at_call 44
      refine (callsIn_wide.2 (Zbt D _)).mono ?_
      rintro e w2 ⟨rfl,hb2⟩
      have q2:=(hb2.block _ hw1).trans Q1.out
      obtain ⟨p20,p21,p22⟩:=cells3 q2
      have hO2:Only (fun _=>False) wr w2:=HO1.out.below hb2
      have hw2:wr.heap.size < w2.heap.size:=(Array.getElem?_eq_some_iff.1 q2).1
      have HO2:=Zh hO2
      clear hb2 q2 hO2 HO1 Q1 p1
      rw [HD.out]
      gi_wp2
      refine ⟨trivial,?_⟩
      gi_at_call 109
      refine (callsIn_wide.2 (Zhx ⟨L,D,bt⟩ _)).mono ?_
      rintro e w3 ⟨rfl,hb3⟩
      have hO:=HO2.out.below hb3
      have hJ1:=HJ.out _ _ _ HA.out hO
      have HK:=Zh (hO.sameOn (S:=useS (some ⟨b,off,none⟩) B l) HS.out)
      clear hO hb3 p20 p21 p22 HO2
      rw [HM.out]
      obtain ⟨fn,tmps,assign,body,hy,hR⟩:=HY.out _ _ hi hJ1
      rw [HROW.out] at hy
      simp only [Int.cast_ofNat_Int] at hy
      have HR:=Zh hR
      have HI:=Zh hi
      clear hR hJ1 hi
      gi_wp2
      refine (Zbb HR.out).mono ?_
      rintro e W' (⟨rfl,hJ',hk'⟩ | ⟨rfl,hJx'⟩)
      ·gi_wp2
       refine ⟨fun _ h=>(by cases h),?_⟩
       gi_wp2
       refine bodyPost_ret (results_none rfl _ _ _) rfl ?_
       exact ⟨⟨_,rfl⟩,.inl (by rw [GL.out T1.out,T2.out];exact hJ')⟩
      ·gi_wp2
       refine ⟨fun _ h=>(by cases h),?_⟩
       gi_wp2
       refine bodyPost_ret (results_none rfl _ _ _) rfl ?_
       exact ⟨⟨_,rfl⟩,.inr ⟨_,HI.out,hJx'⟩⟩
  ·obtain rfl:k = l.length:=by omega
   have hall:∀ t ∈ l,tokOk t:=by have:=HO.out;rwa [List.take_length] at this
   obtain ⟨g1,g2⟩:=Zahp l hall
   obtain ⟨hi,hrow⟩:=Zcl g1
   obtain ⟨fn,tmps,assign,body,hy,hR⟩:=HY.out _ _ hi HA.out
   rw [hrow] at hy
   simp only [endU,Int.cast_ofNat_Int] at hy
   have HR:=Zh hR
   have HI:=Zh hi
   have HG:=Zh g2
   clear hR hi hrow g1 g2 hall
   gi_wp2
   refine (Zbb HR.out).mono ?_
   rintro e W' (⟨rfl,hJ',hk'⟩ | ⟨rfl,hJx'⟩)
   ·gi_wp2
    go_end0
    exact ⟨⟨_,rfl⟩,.inl (by rw [HG.out];exact hJ')⟩
   ·gi_wp2
    go_end0
    exact ⟨⟨_,rfl⟩,.inr ⟨_,HI.out,hJx'⟩⟩
end Go.Proofs.YtendielanacflaaGreat

namespace Go.Proofs.YtendielanacflaaGreat
open Go.RowKit Go.Shelf M01 M04 M06 M08 M17
def layTok (l1 l2:List Nat) (st:Wst) (t:Tok):Wst :=
 if t.len = 0 then addSymE l1 st t.byte else addNum (addSymE l2 (addNum (addSymE l1 st (lenS t.len)) (lenX t.len) (lenB t.len)) (dstS t.dist)) (dstX t.dist) (dstB t.dist)
def layTo (l1 l2:List Nat) (st:Wst) (l:List Tok):Wst:=l.foldl (layTok l1 l2) st
theorem Zqw (n:Int):lenX n < 2 ^ lenB n /\ lenB n <= 5:=by
 unfold lenX lenB
 by_cases h:3 <= n /\ n <= 258
 ·simp only [if_pos h]
  obtain ⟨m,rfl⟩:=Int.eq_ofNat_of_zero_le (by omega:0 <= n)
  have hall:∀ m:Fin 259,3 <= m.val -> m.val - lensL.getD (lk m.val) 0 < 2 ^ lbits (257 + lk m.val) /\ lbits (257 + lk m.val) <= 5:=by decide +kernel
  exact hall ⟨m,by omega⟩ (by show 3 <= m;omega)
 ·simp only [if_neg h];decide
theorem Zqj (n:Int):dstX n < 2 ^ dstB n /\ dstB n <= 13:=by
 unfold dstX dstB
 by_cases h:1 <= n /\ n <= 32768
 ·simp only [if_pos h]
  obtain ⟨m,rfl⟩:=Int.eq_ofNat_of_zero_le (by omega:0 <= n)
  simp only [Int.toNat_natCast]
  obtain ⟨s1,s2⟩:=Zfi Zxe m (by decide) (show distL.getD 0 0 <= m from by show 1 <= m;omega)
  have hk:dk m < 30:=Zxf m
  rw [show lastLe distL m = dk m from rfl] at s1 s2
  generalize dk m = k at *
  have hall:∀ k:Fin 30,(k.val + 1 < 30 -> distL.getD (k.val + 1) 0 <= distL.getD k.val 0 + 2 ^ dbits k.val) /\ (k.val = 29 -> 32768 < distL.getD k.val 0 + 2 ^ dbits k.val) /\ dbits k.val <= 13:=by decide
  obtain ⟨g1,g2,g3⟩:=hall ⟨k,hk⟩
  simp only at g1 g2 g3
  refine ⟨?_,g3⟩
  by_cases h29:k = 29
  ·have:=g2 h29
   omega
  ·have:=g1 (by omega)
   have:=s2 (by show k + 1 < 30;omega)
   omega
 ·simp only [if_neg h];decide
theorem Zux {l1 l2:List Nat} (h1:∀ x ∈ l1,x <= 20) (h2:∀ x ∈ l2,x <= 20) (st:Wst) (t:Tok):(layTok l1 l2 st t).2 <= st.2 + 58:=by
 unfold layTok
 split
 ·have:=Zda h1 st t.byte;omega
 ·rw [Zac]
  have:=Zda h2 (addNum (addSymE l1 st (lenS t.len)) (lenX t.len) (lenB t.len)) (dstS t.dist)
  rw [Zac] at this
  have:=Zda h1 st (lenS t.len)
  have:=(Zqw t.len).2
  have:=(Zqj t.dist).2
  omega
theorem Zuw (l1 l2:List Nat) (st:Wst) (l:List Tok) (k:Nat) (hk:k < l.length):layTo l1 l2 st (l.take (k + 1)) = layTok l1 l2 (layTo l1 l2 st (l.take k)) l[k]:=by
 unfold layTo
 rw [List.take_succ_eq_append_getElem hk,List.foldl_append]
 rfl
theorem Zxy {l1 l2:List Nat} (h1:∀ x ∈ l1,x <= 20) (h2:∀ x ∈ l2,x <= 20) (l:List Tok):∀ st,(layTo l1 l2 st l).2 <= st.2 + 58 * l.length:=by
 induction l with
 | nil=>intro st;simp [layTo]
 | cons t l ih =>
  intro st
  have:=ih (layTok l1 l2 st t)
  have:=Zux h1 h2 st t
  simp only [layTo,List.foldl_cons,List.length_cons] at *
  omega
end Go.Proofs.YtendielanacflaaGreat

namespace Go.Proofs.YtendielanacflaaGreat.M05
def ltF (f:List Nat) (a b:Nat):Bool:=decide (f.getD a 0 < f.getD b 0) || (decide (f.getD a 0 = f.getD b 0) && decide (a < b))
def insF (f:List Nat) (x:Nat):List Nat -> List Nat
 | []=>[x]
 | y :: l=>if ltF f x y then x :: y :: l else y :: insF f x l
def used (f:List Nat):List Nat:=(List.range f.length).filter fun s=>decide (0 < f.getD s 0)
def rar (f:List Nat):List Nat:=(used f).foldr (insF f) []
abbrev Item:=Nat × Nat
def nextF:Nat -> List Nat -> List Nat -> List Item
 | 0,_,_=>[]
 | f + 1,s :: sy,a :: b :: t=>if s <= a + b then (s,1) :: nextF f sy (a :: b :: t) else (a + b,0) :: nextF f (s :: sy) t
 | f + 1,s :: sy,l=>(s,1) :: nextF f sy l
 | f + 1,[],a :: b :: t=>(a + b,0) :: nextF f [] t
 | _ + 1,[],_=>[]
def nextR (sy last:List Nat):List Item:=nextF (sy.length + last.length + 1) sy last
def wts (r:List Item):List Nat:=r.map fun x=>x.1
def symN (r:List Item) (t:Nat):Nat:=((r.take t).map fun x=>x.2).sum
def rowS (sy:List Nat):Nat -> List Item
 | 0=>nextR sy []
 | i + 1=>nextR sy (wts (rowS sy i))
def tkn (sy:List Nat) (lim:Nat):Nat -> Nat
 | 0=>2 * sy.length - 2
 | i + 1=>2 * (tkn sy lim i - symN (rowS sy (lim - 1 - i)) (tkn sy lim i))
def cnt (sy:List Nat) (lim i:Nat):Nat:=symN (rowS sy (lim - 1 - i)) (tkn sy lim i)
def lenJ (sy:List Nat) (lim j:Nat):Nat:=((List.range lim).filter fun i=>decide (j < cnt sy lim i)).length
theorem Zdr:∀ (f g:Nat) (sy last:List Nat),sy.length + last.length + 1 <= f -> sy.length + last.length + 1 <= g -> nextF f sy last = nextF g sy last:=by
 intro f
 induction f with
 | zero=>intro g sy last h;omega
 | succ f ih =>
  intro g sy last h1 h2
  obtain ⟨g,rfl⟩:∃ k,g = k + 1:=⟨g - 1,by omega⟩
  match sy,last with
  | s :: sy,a :: b :: t =>
   simp only [List.length_cons] at h1 h2
   simp only [nextF]
   rw [ih g sy (a :: b :: t) (by simp;omega) (by simp;omega),ih g (s :: sy) t (by simp;omega) (by simp;omega)]
  | s :: sy,[a] =>
   simp only [List.length_cons,List.length_nil] at h1 h2
   simp only [nextF]
   rw [ih g sy [a] (by simp;omega) (by simp;omega)]
  | s :: sy,[] =>
   simp only [List.length_cons,List.length_nil] at h1 h2
   simp only [nextF]
   rw [ih g sy [] (by simp;omega) (by simp;omega)]
  | [],a :: b :: t =>
   simp only [List.length_cons,List.length_nil] at h1 h2
   simp only [nextF]
   rw [ih g [] t (by simp;omega) (by simp;omega)]
  | [],[a]=>simp [nextF]
  | [],[]=>simp [nextF]
theorem Zoq (s a b:Nat) (sy t:List Nat):nextR (s :: sy) (a :: b :: t) = if s <= a + b then (s,1) :: nextR sy (a :: b :: t) else (a + b,0) :: nextR (s :: sy) t:=by
 unfold nextR
 rw [nextF]
 rw [Zdr _ (sy.length + (a :: b :: t).length + 1) sy (a :: b :: t) (by simp;omega) (by omega),Zdr _ ((s :: sy).length + t.length + 1) (s :: sy) t (by simp;omega) (by omega)]
theorem Zfw (s:Nat) (sy l:List Nat) (hl:l.length < 2):nextR (s :: sy) l = (s,1) :: nextR sy l:=by
 unfold nextR
 match l,hl with
 | [a],_=>rw [nextF];rw [Zdr _ (sy.length + [a].length + 1) sy [a] (by simp) (by omega)];intro a' b' t h;cases h
 | [],_=>rw [nextF];rw [Zdr _ (sy.length + ([]:List Nat).length + 1) sy [] (by simp) (by omega)];intro a' b' t h;cases h
theorem Zop (a b:Nat) (t:List Nat):nextR [] (a :: b :: t) = (a + b,0) :: nextR [] t:=by
 unfold nextR
 rw [nextF]
 rw [Zdr _ (([]:List Nat).length + t.length + 1) [] t (by simp) (by omega)]
theorem Zjg (l:List Nat) (hl:l.length < 2):nextR [] l = []:=by
 unfold nextR
 match l,hl with
 | [a],_=>rfl
 | [],_=>rfl
theorem Zyj:∀ (n:Nat) (sy last:List Nat),sy.length + last.length <= n -> (nextR sy last).length = sy.length + last.length / 2:=by
 intro n
 induction n with
 | zero =>
  intro sy last h
  have h1:sy = []:=List.eq_nil_of_length_eq_zero (by omega)
  have h2:last = []:=List.eq_nil_of_length_eq_zero (by omega)
  subst h1 h2;rfl
 | succ n ih =>
  intro sy last h
  match sy,last with
  | s :: sy,a :: b :: t =>
   simp only [List.length_cons] at h
   rw [Zoq]
   split
   ·rw [List.length_cons,ih _ _ (by simp;omega)];simp;omega
   ·rw [List.length_cons,ih _ _ (by simp;omega)];simp;omega
  | s :: sy,[a]=>rw [Zfw _ _ _ (by simp),List.length_cons,ih _ _ (by simp at h ⊢;omega)];simp
  | s :: sy,[]=>rw [Zfw _ _ _ (by simp),List.length_cons,ih _ _ (by simp at h ⊢;omega)];simp
  | [],a :: b :: t =>
   simp only [List.length_cons,List.length_nil] at h
   rw [Zop,List.length_cons,ih _ _ (by simp;omega)];simp;omega
  | [],[a]=>rw [Zjg _ (by simp)];simp
  | [],[]=>rfl
theorem Zdi (sy last:List Nat):(nextR sy last).length = sy.length + last.length / 2:=Zyj _ sy last (Nat.le_refl _)
theorem Zcj (r:List Item) (t:Nat) (h:t < r.length):symN r (t + 1) = symN r t + r[t].2:=by
 unfold symN
 rw [List.take_succ_eq_append_getElem h,List.map_append,List.sum_append]
 simp
theorem Zaab (x:Item) (r:List Item) (t:Nat):symN (x :: r) (t + 1) = x.2 + symN r t:=by simp [symN]
theorem Zgg (r:List Item):symN r 0 = 0:=by simp [symN]
def isSym (r:List Item):Prop:=∀ x ∈ r,x.2 <= 1
theorem Zahh (r:List Item) (h:isSym r) (t:Nat):symN r t <= t:=by
 induction t generalizing r with
 | zero=>simp [symN]
 | succ t ih =>
  cases r with
  | nil=>simp [symN]
  | cons x r =>
   rw [Zaab]
   have:=h x (by simp)
   have:=ih r (fun y hy=>h y (by simp [hy]))
   omega
def pkg (last:List Nat) (p:Nat):Nat:=last.getD (2 * p) 0 + last.getD (2 * p + 1) 0
theorem Zob (sy last:List Nat) (x:Item) (r:List Item) (h:nextR sy last = x :: r) :
  (x = (sy.getD 0 0,1) /\ 0 < sy.length /\ r = nextR (sy.drop 1) last /\ (2 <= last.length -> sy.getD 0 0 <= pkg last 0)) ∨
  (x = (pkg last 0,0) /\ 2 <= last.length /\ r = nextR sy (last.drop 2) /\ (0 < sy.length -> pkg last 0 < sy.getD 0 0)):=by
 match sy,last with
 | s :: sy,a :: b :: t =>
  rw [Zoq] at h
  split at h
  ·next hle =>
   simp only [List.cons.injEq] at h
   obtain ⟨rfl,rfl⟩:=h
   exact .inl ⟨rfl,by simp,rfl,fun _=>hle⟩
  ·next hle =>
   simp only [List.cons.injEq] at h
   obtain ⟨rfl,rfl⟩:=h
   exact .inr ⟨rfl,by simp,rfl,fun _=>by show a + b < s;omega⟩
 | s :: sy,[a] =>
  rw [Zfw _ _ _ (by simp)] at h
  simp only [List.cons.injEq] at h
  obtain ⟨rfl,rfl⟩:=h
  exact .inl ⟨rfl,by simp,rfl,fun h=>by simp at h⟩
 | s :: sy,[] =>
  rw [Zfw _ _ _ (by simp)] at h
  simp only [List.cons.injEq] at h
  obtain ⟨rfl,rfl⟩:=h
  exact .inl ⟨rfl,by simp,rfl,fun h=>by simp at h⟩
 | [],a :: b :: t =>
  rw [Zop] at h
  simp only [List.cons.injEq] at h
  obtain ⟨rfl,rfl⟩:=h
  exact .inr ⟨rfl,by simp,rfl,fun h=>by simp at h⟩
 | [],[a]=>rw [Zjg _ (by simp)] at h;cases h
 | [],[]=>rw [Zjg _ (by simp)] at h;cases h
theorem Zel (l:List Nat) (i j:Nat):(l.drop i).getD j 0 = l.getD (i + j) 0:=by
 simp [List.getD_eq_getElem?_getD,List.getElem?_drop]
theorem Zmj (last:List Nat) (p q:Nat):pkg (last.drop (2 * p)) q = pkg last (p + q):=by
 unfold pkg
 rw [Zel,Zel,show 2 * p + 2 * q = 2 * (p + q) by omega,show 2 * p + (2 * q + 1) = 2 * (p + q) + 1 by omega]
theorem Zbd (sy last:List Nat):∀ t,t <= (nextR sy last).length →
  (nextR sy last).drop t = nextR (sy.drop (symN (nextR sy last) t)) (last.drop (2 * (t - symN (nextR sy last) t))) /\ symN (nextR sy last) t <= t /\ symN (nextR sy last) t <= sy.length /\ 2 * (t - symN (nextR sy last) t) <= last.length:=by
 intro t
 induction t with
 | zero=>intro _;simp [symN]
 | succ t ih =>
  intro ht
  obtain ⟨h1,h2,h3,h4⟩:=ih (by omega)
  rw [List.drop_eq_getElem_cons (by omega)] at h1
  rw [Zcj _ t (by omega)]
  generalize (nextR sy last)[t] = x at *
  generalize symN (nextR sy last) t = S at *
  rcases Zob _ _ _ _ h1.symm with ⟨rfl,h5,h6,_⟩ | ⟨rfl,h5,h6,_⟩
  ·simp only [List.length_drop] at h5
   rw [h6,List.drop_drop,show t + 1 - (S + 1) = t - S by omega]
   exact ⟨rfl,by omega,by omega,h4⟩
  ·simp only [List.length_drop] at h5
   rw [h6,List.drop_drop,Nat.add_zero,show 2 * (t - S) + 2 = 2 * (t + 1 - S) by omega]
   exact ⟨rfl,by omega,h3,by omega⟩
theorem Zds (sy last:List Nat) (t:Nat) (ht:t < (nextR sy last).length) :
  ((nextR sy last)[t] = (sy.getD (symN (nextR sy last) t) 0,1) /\ symN (nextR sy last) t < sy.length /\ (2 * (t - symN (nextR sy last) t) + 2 <= last.length -> sy.getD (symN (nextR sy last) t) 0 <= pkg last (t - symN (nextR sy last) t))) ∨
  ((nextR sy last)[t] = (pkg last (t - symN (nextR sy last) t),0) /\ 2 * (t - symN (nextR sy last) t) + 2 <= last.length /\ (symN (nextR sy last) t < sy.length -> pkg last (t - symN (nextR sy last) t) < sy.getD (symN (nextR sy last) t) 0)):=by
 obtain ⟨h1,h2,h3,h4⟩:=Zbd sy last t (by omega)
 rw [List.drop_eq_getElem_cons ht] at h1
 generalize (nextR sy last)[t] = x at *
 generalize symN (nextR sy last) t = S at *
 rcases Zob _ _ _ _ h1.symm with ⟨rfl,h5,_,h6⟩ | ⟨rfl,h5,_,h6⟩
 ·left
  simp only [List.length_drop] at h5 h6
  rw [Zel,Zmj] at h6
  rw [Zel]
  exact ⟨rfl,by omega,fun h=>h6 (by omega)⟩
 ·right
  simp only [List.length_drop] at h5 h6
  rw [Zel,Zmj] at h6
  rw [Zmj]
  exact ⟨rfl,by omega,fun h=>h6 (by omega)⟩
theorem Zfn (sy last:List Nat):isSym (nextR sy last):=by
 intro x hx
 obtain ⟨t,ht,rfl⟩:=List.getElem_of_mem hx
 rcases Zds sy last t ht with ⟨h,_⟩ | ⟨h,_⟩ <;> rw [h] <;> simp
theorem Ztq (sy last:List Nat):symN (nextR sy last) (nextR sy last).length = sy.length:=by
 obtain ⟨h1,h2,h3,h4⟩:=Zbd sy last _ (Nat.le_refl _)
 have hl:=Zdi sy last
 rw [List.drop_length] at h1
 have h5:=congrArg List.length h1
 rw [Zdi,List.length_drop,List.length_drop] at h5
 simp at h5
 omega
def Rises (l:List Nat):Prop:=∀ i j,i <= j -> j < l.length -> l.getD i 0 <= l.getD j 0
theorem Zpp (sy last:List Nat) (hs:Rises sy):∀ t,t <= (nextR sy last).length -> ∀ p,p < t - symN (nextR sy last) t -> ∀ j,j < sy.length -> sy.getD j 0 <= pkg last p -> j < symN (nextR sy last) t:=by
 intro t
 induction t with
 | zero=>intro _ p hp;omega
 | succ t ih =>
  intro ht p hp j hj hle
  have hst:=(Zbd sy last t (by omega)).2.1
  rw [Zcj _ t (by omega)] at hp ⊢
  rcases Zds sy last t (by omega) with ⟨h1,h2,_⟩ | ⟨h1,h2,h3⟩
  ·rw [h1] at hp ⊢
   simp only at hp ⊢
   have:=ih (by omega) p (by omega) j hj hle
   omega
  ·rw [h1] at hp ⊢
   simp only at hp ⊢
   by_cases hpt:p < t - symN (nextR sy last) t
   ·exact ih (by omega) p hpt j hj hle
   ·obtain rfl:p = t - symN (nextR sy last) t:=by omega
    rcases Nat.lt_or_ge j (symN (nextR sy last) t) with h | h
    ·exact h
    ·have h4:=h3 (by omega)
     have:=hs _ _ h hj
     omega
theorem Zafk (sy last:List Nat):∀ t,t <= (nextR sy last).length -> ∀ c,c < symN (nextR sy last) t -> ∃ q,q < t /\ (wts (nextR sy last)).getD q 0 = sy.getD c 0:=by
 intro t
 induction t with
 | zero=>intro _ c hc;rw [Zgg] at hc;omega
 | succ t ih =>
  intro ht c hc
  rw [Zcj _ t (by omega)] at hc
  by_cases h:c < symN (nextR sy last) t
  ·obtain ⟨q,hq,h2⟩:=ih (by omega) c h
   exact ⟨q,by omega,h2⟩
  ·rcases Zds sy last t (by omega) with ⟨h1,h2,_⟩ | ⟨h1,h2,_⟩
   ·rw [h1] at hc
    simp only at hc
    obtain rfl:c = symN (nextR sy last) t:=by omega
    refine ⟨t,by omega,?_⟩
    unfold wts
    rw [List.getD_eq_getElem?_getD,List.getElem?_map,List.getElem?_eq_getElem (by omega),h1]
    rfl
   ·rw [h1] at hc
    simp only at hc
    omega
def lastOf (sy:List Nat):Nat -> List Nat
 | 0=>[]
 | k + 1=>wts (rowS sy k)
theorem Zax (sy:List Nat) (k:Nat):rowS sy k = nextR sy (lastOf sy k):=by cases k <;> rfl
theorem Zew (sy:List Nat) (k:Nat):(rowS sy k).length = sy.length + (lastOf sy k).length / 2:=by rw [Zax,Zdi]
theorem Zeu (sy:List Nat) (k:Nat):(lastOf sy (k + 1)).length = (rowS sy k).length:=by simp [lastOf,wts]
theorem Zrl (sy:List Nat) (h:1 <= sy.length) (k:Nat):(rowS sy k).length <= 2 * sy.length - 1:=by
 induction k with
 | zero=>rw [Zew];simp [lastOf];omega
 | succ k ih=>rw [Zew,Zeu];omega
theorem Zagw (sy:List Nat) (k:Nat):2 * sy.length * 2 ^ k <= (rowS sy k).length * 2 ^ k + sy.length + 2 ^ k - 1:=by
 induction k with
 | zero=>rw [Zew];simp [lastOf];omega
 | succ k ih =>
  rw [Zew,Zeu]
  have hp:0 < 2 ^ k:=Nat.pos_of_ne_zero (by simp)
  generalize (rowS sy k).length = r at *
  generalize sy.length = m at *
  rw [Nat.pow_succ]
  have h2:r <= 2 * (r / 2) + 1:=by omega
  have h3:r * 2 ^ k <= 2 * (r / 2) * 2 ^ k + 2 ^ k:=by
   calc r * 2 ^ k <= (2 * (r / 2) + 1) * 2 ^ k:=Nat.mul_le_mul_right _ h2
    _ = _:=by rw [Nat.add_mul,Nat.one_mul]
  have h4:2 * m * (2 ^ k * 2) = 2 * m * 2 ^ k + 2 * m * 2 ^ k:=by rw [<- Nat.mul_assoc];omega
  have h5:(m + r / 2) * (2 ^ k * 2) = 2 * m * 2 ^ k + 2 * (r / 2) * 2 ^ k:=by
   rw [<- Nat.mul_assoc,Nat.add_mul,Nat.add_mul,Nat.mul_comm 2 m,Nat.mul_right_comm m 2,Nat.mul_comm 2 (r / 2),Nat.mul_right_comm (r / 2) 2]
  rw [h4,h5]
  generalize 2 * m * 2 ^ k = A at *
  generalize 2 * (r / 2) * 2 ^ k = B at *
  omega
theorem Zjm (sy:List Nat) (k:Nat) (h1:1 <= sy.length) (h:sy.length <= 2 ^ (k + 1)):2 * sy.length - 2 <= (rowS sy k).length:=by
 have h2:=Zagw sy k
 have hp:0 < 2 ^ k:=Nat.pos_of_ne_zero (by simp)
 rw [Nat.pow_succ] at h
 rcases Nat.lt_or_ge (rowS sy k).length (2 * sy.length - 2) with h3 | h3
 ·exfalso
  have h4:(rowS sy k).length + 3 <= 2 * sy.length:=by omega
  have h5:((rowS sy k).length + 3) * 2 ^ k <= 2 * sy.length * 2 ^ k:=Nat.mul_le_mul_right _ h4
  rw [Nat.add_mul] at h5
  omega
 ·exact h3
theorem Zwf (sy:List Nat) (hs:Rises sy) (h2:2 <= sy.length):∀ k,symN (rowS sy k) (min (rowS sy k).length (2 * sy.length - 2)) = sy.length:=by
 intro k
 induction k with
 | zero =>
  have hl:(rowS sy 0).length = sy.length:=by rw [Zew];simp [lastOf]
  rw [hl,Nat.min_eq_left (by omega)]
  have:=Ztq sy []
  have hl2:(nextR sy []).length = sy.length:=hl
  rw [hl2] at this
  exact this
 | succ k ih =>
  have hle:=Zrl sy (by omega) (k + 1)
  have hall:=Ztq sy (lastOf sy (k + 1))
  rw [<- Zax] at hall
  by_cases hc:(rowS sy (k + 1)).length <= 2 * sy.length - 2
  ·rw [Nat.min_eq_left hc,hall]
  ·have hl:(rowS sy (k + 1)).length = 2 * sy.length - 1:=by omega
   rw [Nat.min_eq_right (by omega)]
   have hlen:=Zew sy (k + 1)
   rw [Zeu] at hlen
   have hk2:2 * sy.length - 2 <= (rowS sy k).length:=by omega
   rw [Nat.min_eq_right hk2] at ih
   have hst:=Zbd sy (lastOf sy (k + 1)) (2 * sy.length - 2) (by rw [<- Zax];omega)
   rw [<- Zax] at hst
   have hsucc:=Zcj (rowS sy (k + 1)) (2 * sy.length - 2) (by omega)
   rw [show 2 * sy.length - 2 + 1 = (rowS sy (k + 1)).length by omega,hall] at hsucc
   have hone:=Zfn sy (lastOf sy (k + 1))
   rw [<- Zax] at hone
   have h1:=hone _ (List.getElem_mem (show 2 * sy.length - 2 < (rowS sy (k + 1)).length by omega))
   by_cases hS:symN (rowS sy (k + 1)) (2 * sy.length - 2) = sy.length
   ·exact hS
   ·exfalso
    have hS1:symN (rowS sy (k + 1)) (2 * sy.length - 2) = sy.length - 1:=by omega
    -- the heaviest symbol lies in a package that came
    obtain ⟨q,hq,hqw⟩:=Zafk sy (lastOf sy k) (2 * sy.length - 2) (by rw [<- Zax];exact hk2) (sy.length - 1) (by rw [<- Zax,ih];omega)
    rw [<- Zax] at hqw
    have hpk:sy.getD (sy.length - 1) 0 <= pkg (lastOf sy (k + 1)) (q / 2):=by
     rw [<- hqw]
     unfold pkg
     show (wts (rowS sy k)).getD q 0 <= (wts (rowS sy k)).getD _ 0 + (wts (rowS sy k)).getD _ 0
     rcases Nat.mod_two_eq_zero_or_one q with h | h
     ·rw [show 2 * (q / 2) = q by omega];omega
     ·rw [show 2 * (q / 2) + 1 = q by omega];omega
    have:=Zpp sy (lastOf sy (k + 1)) hs (2 * sy.length - 2) (by rw [<- Zax];omega) (q / 2) (by rw [<- Zax,hS1];omega) (sy.length - 1) (by omega) hpk
    rw [<- Zax,hS1] at this
    omega
theorem Zim (sy:List Nat) (lim i:Nat):cnt sy lim i <= tkn sy lim i:=by
 unfold cnt
 rw [Zax]
 exact Zahh _ (Zfn _ _) _
theorem Zgi (sy:List Nat) (lim:Nat) (h2:2 <= sy.length) (hl:sy.length <= 2 ^ lim) (h0:1 <= lim):∀ i,i < lim -> tkn sy lim i <= (rowS sy (lim - 1 - i)).length:=by
 intro i
 induction i with
 | zero =>
  intro _
  exact Zjm sy (lim - 1 - 0) (by omega) (by rw [show lim - 1 - 0 + 1 = lim by omega];exact hl)
 | succ i ih =>
  intro hi
  have h1:=ih (by omega)
  have h3:=Zbd sy (lastOf sy (lim - 1 - i)) (tkn sy lim i) (by rw [<- Zax];exact h1)
  rw [<- Zax] at h3
  have h4:lim - 1 - i = (lim - 1 - (i + 1)) + 1:=by omega
  have h5:=h3.2.2.2
  rw [h4,Zeu,<- h4] at h5
  exact h5
theorem Zwq (sy:List Nat) (lim:Nat) (hs:Rises sy) (h2:2 <= sy.length) (hl:sy.length <= 2 ^ lim) (h0:1 <= lim):cnt sy lim 0 = sy.length:=by
 have h:=Zwf sy hs h2 (lim - 1 - 0)
 rw [Nat.min_eq_right (Zjm sy (lim - 1 - 0) (by omega) (by rw [show lim - 1 - 0 + 1 = lim by omega];exact hl))] at h
 exact h
theorem Zwp (sy:List Nat) (lim:Nat) (hs:Rises sy) (h2:2 <= sy.length) (hl:sy.length <= 2 ^ lim) (h0:1 <= lim) (i:Nat) (hi:i + 1 < lim):cnt sy lim (i + 1) <= cnt sy lim i:=by
 have h1:=Zgi sy lim h2 hl h0 i (by omega)
 have h1':=Zgi sy lim h2 hl h0 (i + 1) hi
 have h4:lim - 1 - i = (lim - 1 - (i + 1)) + 1:=by omega
 rcases Nat.eq_zero_or_pos (cnt sy lim (i + 1)) with hz | hz
 ·omega
 ·have hc:cnt sy lim (i + 1) <= sy.length:=by
   unfold cnt
   rw [Zax]
   exact (Zbd sy _ _ (by rw [<- Zax];exact h1')).2.2.1
  obtain ⟨q,hq,hqw⟩:=Zafk sy (lastOf sy (lim - 1 - (i + 1))) (tkn sy lim (i + 1)) (by rw [<- Zax];exact h1') (cnt sy lim (i + 1) - 1) (by rw [<- Zax];unfold cnt at hz ⊢;omega)
  rw [<- Zax] at hqw
  have hpk:sy.getD (cnt sy lim (i + 1) - 1) 0 <= pkg (lastOf sy (lim - 1 - i)) (q / 2):=by
   rw [<- hqw,h4]
   unfold pkg
   show (wts (rowS sy (lim - 1 - (i + 1)))).getD q 0 <= (wts (rowS sy (lim - 1 - (i + 1)))).getD _ 0 + (wts (rowS sy (lim - 1 - (i + 1)))).getD _ 0
   rcases Nat.mod_two_eq_zero_or_one q with h | h
   ·rw [show 2 * (q / 2) = q by omega];omega
   ·rw [show 2 * (q / 2) + 1 = q by omega];omega
  have hq2:q / 2 < tkn sy lim i - symN (rowS sy (lim - 1 - i)) (tkn sy lim i):=by
   have:tkn sy lim (i + 1) = 2 * (tkn sy lim i - symN (rowS sy (lim - 1 - i)) (tkn sy lim i)):=rfl
   omega
  rw [Zax] at hq2 h1
  have:=Zpp sy (lastOf sy (lim - 1 - i)) hs (tkn sy lim i) h1 (q / 2) hq2 (cnt sy lim (i + 1) - 1) (by omega) hpk
  rw [<- Zax] at this
  unfold cnt at *
  omega
theorem Zahk (sy:List Nat) (lim:Nat) (h2:2 <= sy.length) (hl:sy.length <= 2 ^ lim) (h0:1 <= lim):tkn sy lim lim = 0:=by
 obtain ⟨k,rfl⟩:∃ k,lim = k + 1:=⟨lim - 1,by omega⟩
 have h1:=Zgi sy (k + 1) h2 hl h0 k (by omega)
 rw [show k + 1 - 1 - k = 0 by omega] at h1
 have h3:=Zbd sy (lastOf sy 0) (tkn sy (k + 1) k) (by rw [<- Zax];exact h1)
 rw [<- Zax] at h3
 have h4:=h3.2.2.2
 simp [lastOf] at h4
 show 2 * (tkn sy (k + 1) k - symN (rowS sy (k + 1 - 1 - k)) (tkn sy (k + 1) k)) = 0
 rw [show k + 1 - 1 - k = 0 by omega]
 omega
def sumN (f:Nat -> Nat):Nat -> Nat
 | 0=>0
 | n + 1=>sumN f n + f n
theorem Zcz {f g:Nat -> Nat} {n:Nat} (h:∀ i,i < n -> f i = g i):sumN f n = sumN g n:=by
 induction n with
 | zero=>rfl
 | succ n ih=>simp only [sumN];rw [ih (fun i hi=>h i (by omega)),h n (by omega)]
theorem Ztp (f g:Nat -> Nat) (n:Nat):sumN (fun i=>f i + g i) n = sumN f n + sumN g n:=by
 induction n with
 | zero=>rfl
 | succ n ih=>simp only [sumN,ih];omega
theorem Zgz (c n:Nat):sumN (fun _=>c) n = n * c:=by
 induction n with
 | zero=>simp [sumN]
 | succ n ih=>simp only [sumN,ih,Nat.add_mul,Nat.one_mul]
theorem Zzx (n:Nat):sumN (fun _=>0) n = 0:=by rw [Zgz,Nat.mul_zero]
theorem Zzw (g:Nat -> Nat -> Nat) (n m:Nat):sumN (fun j=>sumN (fun i=>g i j) n) m = sumN (fun i=>sumN (fun j=>g i j) m) n:=by
 induction n with
 | zero=>simp only [sumN,Zzx]
 | succ n ih =>
  simp only [sumN]
  rw [Ztp,ih]
theorem Zahc (c n m : Nat) (h : c ≤ m) : sumN (fun j => if j < c then n else 0) m = c * n := by
  induction m with
  | zero => obtain rfl : c = 0 := by omega
            simp [sumN]
  | succ m ih =>
    simp only [sumN]
    rcases Nat.lt_or_ge m c with h1 | h1
    · obtain rfl : c = m + 1 := by omega
      rw [if_pos h1, Zcz (g := fun _ => n) (fun i hi => if_pos (by omega)), Zgz, Nat.add_mul, Nat.one_mul]
    · rw [if_neg (by omega), ih h1, Nat.add_zero]
theorem Zmx (f:Nat -> Nat) (n:Nat):((List.range n).map f).sum = sumN f n:=by
 induction n with
 | zero=>rfl
 | succ n ih=>rw [List.range_succ,List.map_append,List.sum_append,ih];simp [sumN]
theorem Zkk (sy:List Nat) (lim:Nat) (h2:2 <= sy.length) (hl:sy.length <= 2 ^ lim) (h0:1 <= lim) (i:Nat) (hi:i < lim):cnt sy lim i <= sy.length:=by
 have h1:=Zgi sy lim h2 hl h0 i hi
 unfold cnt
 rw [Zax] at h1 ⊢
 exact (Zbd sy _ _ h1).2.2.1
theorem Zahl (sy:List Nat) (lim L:Nat) (hL:lim <= L):∀ i,i <= lim -> tkn sy lim 0 * 2 ^ L = sumN (fun j=>cnt sy lim j * 2 ^ (L - j)) i + tkn sy lim i * 2 ^ (L - i):=by
 intro i
 induction i with
 | zero=>intro _;simp [sumN]
 | succ i ih =>
  intro hi
  rw [ih (by omega)]
  simp only [sumN]
  have h1:=Zim sy lim i
  have h2:tkn sy lim (i + 1) = 2 * (tkn sy lim i - cnt sy lim i):=rfl
  have h3:2 ^ (L - i) = 2 * 2 ^ (L - (i + 1)):=by rw [show L - i = L - (i + 1) + 1 by omega,Nat.pow_succ,Nat.mul_comm]
  rw [h2]
  have h4:2 * (tkn sy lim i - cnt sy lim i) * 2 ^ (L - (i + 1)) = (tkn sy lim i - cnt sy lim i) * 2 ^ (L - i):=by
   rw [h3,Nat.mul_comm 2,Nat.mul_assoc]
  rw [h4,Nat.sub_mul]
  have h5:cnt sy lim i * 2 ^ (L - i) <= tkn sy lim i * 2 ^ (L - i):=Nat.mul_le_mul_right _ h1
  omega
theorem Zabd (sy : List Nat) (lim : Nat) (hs : Rises sy) (h2 : 2 ≤ sy.length) (hl : sy.length ≤ 2 ^ lim) (h0 : 1 ≤ lim) {i j : Nat} (hij : i ≤ j) (hj : j < lim) : cnt sy lim j ≤ cnt sy lim i := by
  induction j with
  | zero => obtain rfl : i = 0 := by omega
            exact Nat.le_refl _
  | succ j ih =>
    rcases Nat.lt_or_ge j i with h | h
    · obtain rfl : i = j + 1 := by omega
      exact Nat.le_refl _
    · exact Nat.le_trans (Zwp sy lim hs h2 hl h0 j hj) (ih h (by omega))
theorem Zgr (p:Nat -> Bool) (n:Nat) (h:∀ i j,i <= j -> j < n -> p j = true -> p i = true):∀ i,i < n -> (p i = true ↔ i < ((List.range n).filter p).length):=by
 induction n with
 | zero=>intro i hi;omega
 | succ n ih =>
  intro i hi
  have ih':=ih (fun i j hij hj=>h i j hij (by omega))
  rw [List.range_succ,List.filter_append,List.length_append]
  by_cases hp:p n = true
  ·have hall:((List.range n).filter p) = List.range n:=by
    rw [List.filter_eq_self]
    intro x hx
    exact h x n (by have:=List.mem_range.1 hx;omega) (by omega) hp
   rw [hall,List.length_range]
   simp only [List.filter_cons,hp,if_true,List.filter_nil,List.length_singleton]
   exact ⟨fun _=>hi,fun _=>h i n (by omega) (by omega) hp⟩
  ·simp only [List.filter_cons,hp,List.filter_nil]
   by_cases hin:i < n
   ·simpa using ih' i hin
   ·obtain rfl:i = n:=by omega
    have hle:((List.range i).filter p).length <= i:=by have:=List.length_filter_le p (List.range i);simpa using this
    simp [hp];omega
theorem Zmd (sy:List Nat) (lim:Nat) (hs:Rises sy) (h2:2 <= sy.length) (hl:sy.length <= 2 ^ lim) (h0:1 <= lim) (j i:Nat) (hi:i < lim):j < cnt sy lim i ↔ i < lenJ sy lim j:=by
 have:=Zgr (fun i=>decide (j < cnt sy lim i)) lim (fun a b hab hb h=>by
  simp only [decide_eq_true_eq] at h ⊢
  exact Nat.lt_of_lt_of_le h (Zabd sy lim hs h2 hl h0 hab hb)) i hi
 simpa [lenJ] using this
theorem Zqv (sy:List Nat) (lim j:Nat):lenJ sy lim j <= lim:=by
 unfold lenJ
 have:=List.length_filter_le (fun i=>decide (j < cnt sy lim i)) (List.range lim)
 simpa using this
theorem Zsr (sy:List Nat) (lim:Nat) (hs:Rises sy) (h2:2 <= sy.length) (hl:sy.length <= 2 ^ lim) (h0:1 <= lim) (j:Nat) (hj:j < sy.length):1 <= lenJ sy lim j:=by
 have:=(Zmd sy lim hs h2 hl h0 j 0 (by omega)).1 (by rw [Zwq sy lim hs h2 hl h0];exact hj)
 omega
theorem Zagu (l:Nat) (hl:l <= 20):2 ^ (20 - l) + sumN (fun i=>2 ^ (19 - i)) l = 2 ^ 20:=by
 induction l with
 | zero=>rfl
 | succ l ih =>
  simp only [sumN]
  have h1:=ih (by omega)
  have h2:2 ^ (20 - l) = 2 * 2 ^ (19 - l):=by rw [show 20 - l = 19 - l + 1 by omega,Nat.pow_succ,Nat.mul_comm]
  rw [show 20 - (l + 1) = 19 - l by omega]
  omega
theorem Zvs (f : Nat → Nat) (l n : Nat) (h : l ≤ n) : sumN (fun i => if i < l then f i else 0) n = sumN f l := by
  induction n with
  | zero => obtain rfl : l = 0 := by omega
            rfl
  | succ n ih =>
    simp only [sumN]
    rcases Nat.lt_or_ge n l with h1 | h1
    · obtain rfl : l = n + 1 := by omega
      rw [if_pos h1]
      simp only [sumN]
      rw [Zcz (g := f) (fun i hi => if_pos (by omega))]
    · rw [if_neg (by omega), ih h1, Nat.add_zero]
theorem Zya (sy:List Nat) (lim:Nat) (hs:Rises sy) (h2:2 <= sy.length) (hl:sy.length <= 2 ^ lim) (h0:1 <= lim) (h17:lim <= 17):sumN (fun j=>2 ^ (20 - lenJ sy lim j)) sy.length = 2 ^ 20:=by
 have h1:sumN (fun j=>2 ^ (20 - lenJ sy lim j) + sumN (fun i=>2 ^ (19 - i)) (lenJ sy lim j)) sy.length = sy.length * 2 ^ 20:=by
  rw [<- Zgz]
  exact Zcz (fun j _=>Zagu _ (by have:=Zqv sy lim j;omega))
 rw [Ztp] at h1
 have h3:sumN (fun j=>sumN (fun i=>2 ^ (19 - i)) (lenJ sy lim j)) sy.length = sumN (fun i=>cnt sy lim i * 2 ^ (19 - i)) lim:=by
  have e1:sumN (fun j=>sumN (fun i=>2 ^ (19 - i)) (lenJ sy lim j)) sy.length = sumN (fun j=>sumN (fun i=>if j < cnt sy lim i then 2 ^ (19 - i) else 0) lim) sy.length:=by
   refine Zcz (fun j _=>?_)
   rw [<- Zvs (fun i=>2 ^ (19 - i)) (lenJ sy lim j) lim (Zqv _ _ _)]
   refine Zcz (fun i hi=>?_)
   by_cases h:j < cnt sy lim i
   ·rw [if_pos h,if_pos ((Zmd sy lim hs h2 hl h0 j i hi).1 h)]
   ·rw [if_neg h,if_neg (fun hc=>h ((Zmd sy lim hs h2 hl h0 j i hi).2 hc))]
  rw [e1,Zzw]
  exact Zcz (fun i hi=>Zahc _ _ _ (Zkk sy lim h2 hl h0 i hi))
 have h4:=Zahl sy lim 19 (by omega) lim (Nat.le_refl _)
 rw [Zahk sy lim h2 hl h0,Nat.zero_mul,Nat.add_zero] at h4
 have h5:tkn sy lim 0 = 2 * sy.length - 2:=rfl
 rw [h3,<- h4,h5] at h1
 have h6:(2 * sy.length - 2) * 2 ^ 19 = sy.length * 2 ^ 20 - 2 ^ 20:=by
  rw [Nat.sub_mul];omega
 have h7:2 ^ 20 <= sy.length * 2 ^ 20:=by omega
 omega
def symW (f:List Nat):List Nat:=(rar f).map fun s=>f.getD s 0
def limS (f:List Nat) (lim s:Nat):Nat:=if f.getD s 0 = 0 then 0 else (if (rar f).length = 1 then 1 else 0) + lenJ (symW f) lim ((rar f).idxOf s)
def limL (f:List Nat) (lim:Nat):List Nat:=(List.range f.length).map (limS f lim)
theorem Zas (f:List Nat) (lim:Nat):(limL f lim).length = f.length:=by simp [limL]
theorem Zfv (f:List Nat) (lim s:Nat) (hs:s < f.length):(limL f lim).getD s 0 = limS f lim s:=by
 unfold limL
 rw [List.getD_eq_getElem?_getD,List.getElem?_map,List.getElem?_range hs]
 rfl
theorem Ziw (f:List Nat) (x:Nat) (l:List Nat):(insF f x l).Perm (x :: l):=by
 induction l with
 | nil=>exact .refl _
 | cons y l ih =>
  unfold insF
  split
  ·exact .refl _
  ·exact (List.Perm.cons y ih).trans (List.Perm.swap x y l)
theorem Zbg (f:List Nat):(rar f).Perm (used f):=by
 unfold rar
 generalize used f = l
 induction l with
 | nil=>exact .refl _
 | cons x l ih=>exact (Ziw f x _).trans (List.Perm.cons x ih)
theorem Zlk (f:List Nat):(used f).Nodup:=List.Pairwise.filter _ List.nodup_range
theorem Zpa (f:List Nat):(rar f).Nodup:=(Zbg f).nodup_iff.2 (Zlk f)
theorem Zcb (f:List Nat) (s:Nat):s ∈ rar f ↔ s < f.length /\ 0 < f.getD s 0:=by
 rw [(Zbg f).mem_iff]
 simp [used]
def Lex (f:List Nat) (l:List Nat):Prop:=l.Pairwise fun a b=>ltF f a b = true
theorem Zaij (f:List Nat) (a b:Nat) (h:a ≠ b):ltF f a b = true \/ ltF f b a = true:=by
 unfold ltF
 simp only [Bool.or_eq_true,Bool.and_eq_true,decide_eq_true_eq]
 omega
theorem Zbj (f:List Nat) (a b c:Nat) (h:ltF f a b = true) (h':ltF f b c = true):ltF f a c = true:=by
 unfold ltF at *
 simp only [Bool.or_eq_true,Bool.and_eq_true,decide_eq_true_eq] at *
 omega
theorem Zacj (f:List Nat) (x:Nat) (l:List Nat) (h:Lex f l) (hx:x ∉ l):Lex f (insF f x l):=by
 induction l with
 | nil=>simp [insF,Lex]
 | cons y l ih =>
  unfold Lex at *
  rw [List.pairwise_cons] at h
  unfold insF
  split
  ·next hlt =>
   refine List.pairwise_cons.2 ⟨fun z hz=>?_,List.pairwise_cons.2 h⟩
   rcases List.mem_cons.1 hz with rfl | hz
   ·exact hlt
   ·exact Zbj f _ _ _ hlt (h.1 z hz)
  ·next hlt =>
   refine List.pairwise_cons.2 ⟨fun z hz=>?_,ih h.2 (fun hc=>hx (by simp [hc]))⟩
   rcases List.mem_cons.1 ((Ziw f x l).mem_iff.1 hz) with rfl | hz
   ·rcases Zaij f y z (fun e=>hx (by simp [e])) with h1 | h1
    ·exact h1
    ·exact absurd h1 hlt
   ·exact h.1 z hz
theorem Zyz (f:List Nat):Lex f (rar f):=by
 unfold rar
 have hn:=Zlk f
 revert hn
 generalize used f = l
 intro hn
 induction l with
 | nil=>simp [Lex]
 | cons x l ih =>
  rw [List.nodup_cons] at hn
  refine Zacj f x _ (ih hn.2) (fun hc=>hn.1 ?_)
  have:(l.foldr (insF f) []).Perm l:=by
   clear ih hn hc
   induction l with
   | nil=>exact .refl _
   | cons x l ih=>exact (Ziw f x _).trans (List.Perm.cons x ih)
  exact this.mem_iff.1 hc
theorem Zuz (f:List Nat):∀ (l m:List Nat),l.Perm m -> Lex f l -> Lex f m -> l = m:=by
 intro l
 induction l with
 | nil=>intro m hp _ _;exact hp.symm.eq_nil.symm
 | cons x l ih =>
  intro m hp h1 h2
  cases m with
  | nil=>exact absurd hp.length_eq (by simp)
  | cons y m =>
   unfold Lex at h1 h2
   rw [List.pairwise_cons] at h1 h2
   have hxy:x = y:=by
    rcases List.mem_cons.1 (hp.mem_iff.1 (List.mem_cons_self (a:=x) (l:=l))) with h | h
    ·exact h
    ·rcases List.mem_cons.1 (hp.mem_iff.2 (List.mem_cons_self (a:=y) (l:=m))) with h' | h'
     ·exact h'.symm
     ·exfalso
      have a:=h2.1 x h
      have b:=h1.1 y h'
      have c:=Zbj f _ _ _ a b
      unfold ltF at c
      simp at c
   subst hxy
   rw [ih m (List.Perm.cons_inv hp) h1.2 h2.2]
theorem Zha (f:List Nat):Rises (symW f):=by
 intro i j hij hj
 unfold symW at hj ⊢
 rw [List.length_map] at hj
 rw [List.getD_eq_getElem?_getD,List.getD_eq_getElem?_getD,List.getElem?_map,List.getElem?_map,List.getElem?_eq_getElem (by omega),List.getElem?_eq_getElem hj]
 simp only [Option.map_some,Option.getD_some]
 rcases Nat.lt_or_ge i j with h | h
 ·have:=List.pairwise_iff_getElem.1 (Zyz f) i j (by omega) hj h
  unfold ltF at this
  simp only [Bool.or_eq_true,Bool.and_eq_true,decide_eq_true_eq] at this
  omega
 ·obtain rfl:i = j:=by omega
  exact Nat.le_refl _
theorem Zbq (f:List Nat):(symW f).length = (rar f).length:=by simp [symW]
theorem Zev (f:List Nat) (lim s:Nat) (h0:1 <= lim) (hm:(rar f).length <= 2 ^ lim) (hs:s < f.length):limS f lim s <= lim /\ (limS f lim s = 0 ↔ f.getD s 0 = 0):=by
 unfold limS
 by_cases hf:f.getD s 0 = 0
 ·rw [if_pos hf];exact ⟨Nat.zero_le _,⟨fun _=>hf,fun _=>rfl⟩⟩
 ·rw [if_neg hf]
  have hmem:=(Zcb f s).2 ⟨hs,by omega⟩
  have hidx:=List.idxOf_lt_length_of_mem hmem
  by_cases h1:(rar f).length = 1
  ·rw [if_pos h1]
   have hz:lenJ (symW f) lim ((rar f).idxOf s) = 0:=by
    unfold lenJ
    rw [List.length_eq_zero_iff,List.filter_eq_nil_iff]
    intro i hi
    have hc:cnt (symW f) lim i = 0:=by
     have ht:∀ i,tkn (symW f) lim i = 0:=by
      intro i
      induction i with
      | zero=>show 2 * (symW f).length - 2 = 0;rw [Zbq,h1]
      | succ i ih=>show 2 * (tkn (symW f) lim i - _) = 0;rw [ih];simp
     have:=Zim (symW f) lim i
     rw [ht] at this
     omega
    rw [hc];simp
   rw [hz]
   exact ⟨by omega,⟨fun h=>by omega,fun h=>absurd h hf⟩⟩
  ·rw [if_neg h1,Nat.zero_add]
   have h2:2 <= (symW f).length:=by rw [Zbq];omega
   have h3:=Zsr (symW f) lim (Zha f) h2 (by rw [Zbq];exact hm) h0 _ (by rw [Zbq];exact hidx)
   exact ⟨Zqv _ _ _,by omega⟩
theorem Zpn {l m:List Nat} (h:l.Perm m) (g:Nat -> Nat):(l.map g).sum = (m.map g).sum:=by
 induction h with
 | nil=>rfl
 | cons x _ ih=>simp [ih]
 | swap x y l=>simp;omega
 | trans _ _ ih1 ih2=>exact ih1.trans ih2
theorem Zol (f:List Nat) (lim:Nat) (h0:1 <= lim) (h17:lim <= 17) (h2:2 <= (rar f).length) (hm:(rar f).length <= 2 ^ lim):M04.weight (limL f lim) = 2 ^ 20:=by
 have hf:=Zya (symW f) lim (Zha f) (by rw [Zbq];exact h2) (by rw [Zbq];exact hm) h0 h17
 have e1:M04.weight (limL f lim) = ((used f).map fun s=>M04.wt (limS f lim s)).sum:=by
  unfold M04.weight limL used
  rw [List.map_map]
  generalize List.range f.length = l
  induction l with
  | nil=>rfl
  | cons s l ih =>
   rw [List.map_cons,List.sum_cons,ih,List.filter_cons]
   by_cases hz:f.getD s 0 = 0
   ·have h3:limS f lim s = 0:=by unfold limS;rw [if_pos hz]
    have hd:decide (0 < f.getD s 0) = false:=by rw [decide_eq_false_iff_not];omega
    rw [hd,if_neg (by decide)]
    show M04.wt (limS f lim s) + _ = _
    rw [h3]
    simp [M04.wt]
   ·have hd:decide (0 < f.getD s 0) = true:=by rw [decide_eq_true_eq];omega
    rw [hd,if_pos rfl,List.map_cons,List.sum_cons]
    rfl
 rw [e1,<- Zpn (Zbg f)]
 have e2:((rar f).map fun s=>M04.wt (limS f lim s)) = (List.range (rar f).length).map fun j=>2 ^ (20 - lenJ (symW f) lim j):=by
  apply List.ext_getElem
  ·simp
  ·intro j h1 h3
   simp only [List.length_map] at h1
   simp only [List.getElem_map,List.getElem_range]
   have hmem:=(Zcb f (rar f)[j]).1 (List.getElem_mem h1)
   have hidx:(rar f).idxOf (rar f)[j] = j:=(Zpa f).idxOf_getElem j h1
   have hl:limS f lim (rar f)[j] = lenJ (symW f) lim j:=by
    unfold limS
    rw [if_neg (by omega),if_neg (by omega),hidx,Nat.zero_add]
   have hp:=Zsr (symW f) lim (Zha f) (by rw [Zbq];exact h2) (by rw [Zbq];exact hm) h0 j (by rw [Zbq];exact h1)
   rw [hl]
   unfold M04.wt
   rw [if_neg (by omega)]
 rw [e2,Zmx,<- Zbq f]
 exact hf
end Go.Proofs.YtendielanacflaaGreat.M05

namespace Go.Proofs.YtendielanacflaaGreat
open Go.RowKit M04
def singleB (l:List Nat):Bool:=decide ((∀ x ∈ l,x <= 1) /\ l.sum = 1)
theorem Zrv (l:List Nat) (k:Nat) (h:∀ x ∈ l.take k,x <= 1):(l.take k).sum <= k:=by
 have:∀ m:List Nat,(∀ x ∈ m,x <= 1) -> m.sum <= m.length:=by
  intro m hm
  induction m with
  | nil=>simp
  | cons a m ih =>
   have:=hm a (by simp)
   have:=ih fun x hx=>hm x (by simp [hx])
   simp only [List.sum_cons,List.length_cons];omega
 exact Nat.le_trans (this _ h) (by simp;omega)
set_option maxHeartbeats 400000 in
theorem Zhk (a:Option Addr) (cap:Nat) (l:List Nat) (w:World) (hr:RowN .u8 w a cap l) :
  Calls Tryz.prog 90 #[.slice a l.length cap] w fun e w'=>e = .returned (.bool (singleB l)) /\ w = w':=by
 have hlen:=hr.len
 go_enter Tryz.func90,Tryz.ntmps90
 go_wp2
 go_loop [3,8] (fun t i=>∃ k:Nat,k <= l.length /\ i = .int .i64 k /\ t = .int .i64 ((l.take k).sum:Nat) /\ ∀ x ∈ l.take k,x <= 1) (fun _ i=>l.length - (intOf i).toNat)
 case atStart=>exact ⟨0,Nat.zero_le _,rfl,by simp,by simp⟩
 case round =>
  obtain ⟨k,hk,rfl,rfl,hall⟩:=hrel
  have HA:=Zh hall
  have hs:=Zrv l k hall
  clear hall
  by_cases hlt:k < l.length
  ·obtain ⟨b,off,rfl,hb,hck⟩:=hr.at hlt
   clear hr
   have HS:Hid ((l.take (k + 1)).sum = (l.take k).sum + l[k]):=by rw [Hid,Zaw l k hlt];simp only [List.sum_append,List.sum_cons,List.sum_nil];omega
   by_cases hx:l[k] <= 1
   ·have H:Hid (∀ x ∈ l.take (k + 1),x <= 1):=by
     rw [Hid,Zaw l k hlt]
     intro x hm
     rcases List.mem_append.1 hm with hm | hm
     ·exact HA.out x hm
     ·simp at hm;omega
    generalize l[k] = x at *
    generalize (l.take k).sum = s at *
    go_wp2
    go_round
    case rel=>exact ⟨k + 1,by omega,by go_num,by rw [HS.out];go_num,H.out⟩
    case measure=>simp [intOf];omega
   ·have H:Hid (singleB l = false):=by
     show decide (_ /\ _) = false
     rw [decide_eq_false_iff_not]
     exact fun h=>hx (h.1 _ (List.getElem_mem hlt))
    generalize l[k] = x at *
    go_wp2
    go_ret
    exact ⟨Zbs H.out.symm,rfl⟩
  ·have h2:l.take k = l:=List.take_of_length_le (by omega)
   rw [h2] at HA
   rw [h2] at hs
   rw [h2]
   have H:Hid (singleB l = ((l.sum:Int) == 1)):=by
    show decide (_ /\ _) = _
    rw [Bool.eq_iff_iff,decide_eq_true_eq,beq_iff_eq]
    constructor
    ·intro h;omega
    ·intro h;exact ⟨HA.out,by omega⟩
   go_wp2
   go_ret
   exact ⟨Zbs H.out.symm,rfl⟩
theorem Zth (k:IntKind) (w:World) (l:List Nat) (E:TypeId) (c:Array Value) (B:Nat) (hB:B = w.heap.size) (hc:c = (l.map fun (n:Nat)=>Value.int k n).toArray) (hl:l.length <= 9223372036854775807) :
  RowN k (w.alloc (.cells c E)) (some ⟨B,0,none⟩) l.length l:=by
 subst hc hB
 refine ⟨Nat.le_refl _,⟨hl,fun hn=>by cases hn⟩,.inr ⟨w.heap.size,0,rfl,by simp,fun i hi=>?_⟩⟩
 rw [Nat.zero_add,World.cell?_alloc_at _ _ _ _ rfl]
 simp [hi]
end Go.Proofs.YtendielanacflaaGreat

namespace Go.Proofs.YtendielanacflaaGreat.M07
abbrev Sg:=Nat × Nat
def rbits (c:Nat):Nat:=if c = 16 then 2 else if c = 17 then 3 else if c = 18 then 7 else 0
def times (s:Sg):Nat:=if s.1 < 16 then 1 else if s.1 < 18 then 3 + s.2 else 11 + s.2
def SgOk (s:Sg):Prop:=s.1 <= 18 /\ s.2 < 2 ^ rbits s.1
theorem SgOk.lt {s:Sg} (h:SgOk s):s.2 < 128:=by
 obtain ⟨h1,h2⟩:=h
 have:2 ^ rbits s.1 <= 2 ^ 7:=Nat.pow_le_pow_right (by decide) (by unfold rbits;(repeat' split) <;> omega)
 omega
theorem Zfp {s:Sg} (h:SgOk s):1 <= times s /\ times s <= 138:=by
 have:=h.lt
 unfold times
 (repeat' split) <;> omega
def kOf (c:Nat) (out:List Nat):Nat:=if c = 16 then out.getD (out.length - 1) 0 else if 16 < c then 0 else c
def unp (n:Nat):List Sg -> List Nat -> Option (List Nat)
 | [],out=>if out.length = n then some out else none
 | s :: l,out=>if s.1 = 16 /\ out.length = 0 then none else if n < out.length + times s then none else unp n l (out ++ List.replicate (times s) (kOf s.1 out))
end Go.Proofs.YtendielanacflaaGreat.M07
