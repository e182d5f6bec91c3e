/- Plain mathematics of layer 18: blocks of three kinds, laid part by part: how many bits they have, and that they are read back. cost.Codes: its closure that counts a use: contract. A range over a function whose loop variables lie in cells: the assignment of a round may make memory. cost.Symbols: contract. -/
import Derived.Test.YtendielanacflaaGreatB13
import Derived.Test.YtendielanacflaaGreatB04
import Derived.Test.YtendielanacflaaGreatB01
import Derived.Test.YtendielanacflaaGreatB07
set_option linter.unusedVariables false
set_option linter.unusedSimpArgs false
namespace Go.Proofs.YtendielanacflaaGreat.M18
open Go.RowKit Go.Shelf M01 M04 M05 M06 M07 M08 M09 M10 M17
def stoW (s:Wst) (last:Bool) (b:List Nat):Wst :=
 if b.length <= 65535 then stoBlk (begW s last 0) b else stoW (stoBlk (begW s false 0) (b.take 65535)) last (b.drop 65535)
termination_by b.length
decreasing_by rw [List.length_drop]; omega
theorem Zmw (s:Wst) (last:Bool) (b:List Nat) (h:b.length <= 65535):stoW s last b = stoBlk (begW s last 0) b:=by rw [stoW,if_pos h]
theorem Zjs (s:Wst) (last:Bool) (b:List Nat) (h:65535 < b.length):stoW s last b = stoW (stoBlk (begW s false 0) (b.take 65535)) last (b.drop 65535):=by rw [stoW,if_neg (by omega)]
theorem Zeh {s:Wst} (h:WG s) (last:Bool) (b:List Nat):WG (stoBlk (begW s last 0) b) /\ ExtW s (stoBlk (begW s last 0) b) /\ (stoBlk (begW s last 0) b).2 = align (s.2 + 3) + 32 + 8 * b.length:=by
 have h1:=Zcn h last 0
 have h2:=Zto h1.1 b
 refine ⟨h2.1,h1.2.1.trans h2.2.1,?_⟩
 rw [h2.2.2,h1.2.2];rfl
theorem Zgd:∀ (n:Nat) (b:List Nat) (s:Wst) (last:Bool),b.length <= n -> WG s -> WG (stoW s last b) /\ ExtW s (stoW s last b) /\ (stoW s last b).2 = st b.length s.2:=by
 intro n
 induction n using Nat.strongRecOn with
 | _ n ih =>
  intro b s last hn h
  by_cases hb:b.length <= 65535
  ·rw [Zmw s last b hb,st,if_pos hb]
   exact Zeh h last b
  ·have h1:=Zeh h false (b.take 65535)
   rw [List.length_take,Nat.min_eq_left (by omega)] at h1
   obtain ⟨a1,a2,a3⟩:=ih (n - 1) (by omega) (b.drop 65535) _ last (by rw [List.length_drop];omega) h1.1
   rw [Zjs s last b (by omega)]
   refine ⟨a1,h1.2.1.trans a2,?_⟩
   rw [a3,h1.2.2,List.length_drop]
   conv=>rhs;rw [st,if_neg hb]
def RdOn (t s s':Wst) (out out':List Nat):Prop:=∃ m,s.2 + m <= s'.2 /\ ∀ f,inflL t.1 (m + f) s.2 out = inflL t.1 f s'.2 out'
def RdEnd (t s s':Wst) (out out':List Nat):Prop:=∃ m,s.2 + m <= s'.2 /\ ∀ f,inflL t.1 (m + f) s.2 out = some (s'.2,out')
def Rd (last:Bool) (t s s':Wst) (out out':List Nat):Prop:=if last = true then RdEnd t s s' out out' else RdOn t s s' out out'
theorem Rd.join {last:Bool} {t s s1 s2:Wst} {o o1 o2:List Nat} (h:RdOn t s s1 o o1) (h2:Rd last t s1 s2 o1 o2):Rd last t s s2 o o2:=by
 obtain ⟨m,h3,h4⟩:=h
 unfold Rd at h2 ⊢
 split at h2
 ·next hl =>
  rw [if_pos hl]
  obtain ⟨m2,h5,h6⟩:=h2
  refine ⟨m + m2,by omega,fun f=>?_⟩
  rw [Nat.add_assoc,h4,h6]
 ·next hl =>
  rw [if_neg hl]
  obtain ⟨m2,h5,h6⟩:=h2
  refine ⟨m + m2,by omega,fun f=>?_⟩
  rw [Nat.add_assoc,h4,h6]
theorem Rd.one {last:Bool} {t s s':Wst} {o o':List Nat} (hle:s.2 + 1 <= s'.2) (h:∀ g,inflStep t.1 g s.2 o = if last = true then some (s'.2,o') else g s'.2 o'):Rd last t s s' o o':=by
 unfold Rd
 cases last with
 | true =>
  refine ⟨1,hle,fun f=>?_⟩
  rw [Nat.add_comm,Zgt,h];rfl
 | false =>
  refine ⟨1,hle,fun f=>?_⟩
  rw [Nat.add_comm,Zgt,h];rfl
theorem Zpk:∀ (n:Nat) (b:List Nat) (s t:Wst) (last:Bool) (out:List Nat),b.length <= n -> WG s -> WG t -> (∀ x ∈ b,x < 256) -> ExtW (stoW s last b) t -> Rd last t s (stoW s last b) out (out ++ b):=by
 intro n
 induction n using Nat.strongRecOn with
 | _ n ih =>
  intro b s t last out hn h hk hb ht
  by_cases hl:b.length <= 65535
  ·rw [Zmw s last b hl] at ht ⊢
   have h1:=Zeh h last b
   refine Rd.one (by rw [h1.2.2];have:=Zht (s.2 + 3);omega) (fun g=>Zpl h hk last b hl hb ht out g)
  ·have h1:=Zeh h false (b.take 65535)
   rw [Zjs s last b (by omega)] at ht ⊢
   have h2:=Zgd b.length (b.drop 65535) _ last (by rw [List.length_drop];omega) h1.1
   have hr1:Rd false t s (stoBlk (begW s false 0) (b.take 65535)) out (out ++ b.take 65535) :=
    Rd.one (by rw [h1.2.2];have:=Zht (s.2 + 3);omega) (fun g=>Zpl h hk false _ (by rw [List.length_take];omega) (fun x hx=>hb x (List.mem_of_mem_take hx)) (h2.2.1.trans ht) out g)
   have hr2:=ih (n - 1) (by omega) (b.drop 65535) _ t last (out ++ b.take 65535) (by rw [List.length_drop];omega) h1.1 hk (fun x hx=>hb x (List.mem_of_mem_drop hx)) ht
   have:=Rd.join (by unfold Rd at hr1;rw [if_neg (by decide)] at hr1;exact hr1) hr2
   rw [List.append_assoc,List.take_append_drop] at this
   exact this
theorem Zjj (lens:List Nat):∀ (l:List Sg) (s:Wst),(putsS lens s l).2 = s.2 + (l.map fun g=>lens.getD g.1 0 + rbits g.1).sum:=by
 intro l
 induction l with
 | nil=>intro s;rfl
 | cons g l ih =>
  intro s
  have:=ih (putS lens s g)
  have h4:(putS lens s g).2 = s.2 + lens.getD g.1 0 + rbits g.1:=by unfold putS;rw [Zac];unfold addSym;rw [Zbi]
  show (putsS lens (putS lens s g) l).2 = _
  rw [List.map_cons,List.sum_cons,this,h4]
  omega
theorem Zmk (lens:List Nat) (s:Wst):∀ k,(put3 lens s k).2 = s.2 + 3 * k:=by
 intro k
 induction k with
 | zero=>rfl
 | succ k ih =>
  show (addNum (put3 lens s k) _ 3).2 = _
  rw [Zac,ih];omega
theorem Zacf (s:Wst) (f o:List Nat):(hputW s f o).2 = s.2 + (hputW ([],0) f o).2:=by
 unfold hputW hputL
 rw [Zjj,Zjj,Zmk,Zmk]
 unfold put14
 rw [Zac,Zac,Zac,Zac,Zac,Zac]
 simp only
 omega
theorem Zmz {l1:List Nat} {s:Wst} (h:WG s) (c:Nat):(addSymE l1 s c).2 = s.2 + l1.getD c 0:=by
 unfold addSymE
 split
 ·next h0=>rw [h0];rfl
 ·exact (Zcs h.1 h.2 l1 c).2.2.2
theorem Zahm {l1 l2:List Nat} {s:Wst} (h:WG s) (t:Tok) (hok:tokOk t):(layTok l1 l2 s t).2 = s.2 + sumL (fun r=>lensOf l1 l2 r + r.bits) (tokU t):=by
 by_cases h0:t.len = 0
 ·have hD:t.dist = 0:=by unfold tokOk at hok;rw [if_pos h0] at hok;exact hok
  have hu:tokU t = [⟨false,t.byte,0,0⟩]:=by unfold tokU;rw [if_pos h0,if_pos hD]
  unfold layTok
  rw [if_pos h0,Zmz h,hu]
  simp [sumL,lensOf]
 ·have hf:t.byte = 0 /\ 3 <= t.len /\ t.len <= 258 /\ 1 <= t.dist /\ t.dist <= 32768:=by
   unfold tokOk at hok;rw [if_neg h0] at hok;exact hok
  have hu:tokU t = [⟨false,257 + lk t.len.toNat,lbits (257 + lk t.len.toNat),0⟩,⟨true,dk t.dist.toNat,dbits (dk t.dist.toNat),0⟩]:=by unfold tokU;rw [if_neg h0,if_pos hok]
  have e1:lenS t.len = 257 + lk t.len.toNat:=by unfold lenS;rw [if_pos ⟨hf.2.1,hf.2.2.1⟩]
  have e2:dstS t.dist = dk t.dist.toNat:=by unfold dstS;rw [if_pos ⟨hf.2.2.2.1,hf.2.2.2.2⟩]
  have e3:lenB t.len = lbits (257 + lk t.len.toNat):=by unfold lenB;rw [if_pos ⟨hf.2.1,hf.2.2.1⟩]
  have e4:dstB t.dist = dbits (dk t.dist.toNat):=by unfold dstB;rw [if_pos ⟨hf.2.2.2.1,hf.2.2.2.2⟩]
  have g1:=Zbh h l1 (lenS t.len)
  have g2:=Zal g1.1 (lenX t.len) (lenB t.len)
  unfold layTok
  rw [if_neg h0,Zac,Zmz g2.1,Zac,Zmz h,hu,e1,e2,e3,e4]
  simp [sumL,lensOf]
  omega
theorem Zxz {l1 l2:List Nat}:∀ (l:List Tok) (s:Wst),WG s -> (∀ t ∈ l,tokOk t) -> (layTo l1 l2 s l).2 = s.2 + sumL (fun r=>lensOf l1 l2 r + r.bits) (l.flatMap tokU):=by
 intro l
 induction l with
 | nil=>intro s h _;simp [layTo,sumL]
 | cons t l ih =>
  intro s h hok
  have h1:=ih (layTok l1 l2 s t) (Zic h l1 l2 t).1 (fun x hx=>hok x (by simp [hx]))
  show (layTo l1 l2 (layTok l1 l2 s t) l).2 = _
  rw [h1,Zahm h t (hok t (by simp)),List.flatMap_cons,Zjt]
  omega
theorem Zwh {l1 l2:List Nat} {s:Wst} (h:WG s) (l:List Tok) (hok:∀ t ∈ l,tokOk t) (hw:∀ r ∈ useU l,r.err = 0 /\ lensOf l1 l2 r ≠ 0):(layBlk l1 l2 s l).2 = s.2 + (symOut l1 l2 l).1:=by
 unfold layBlk
 rw [Zmz (Zjb l1 l2 l h).1,Zxz l s h hok]
 have e:symOut l1 l2 l = (sumL (fun r=>lensOf l1 l2 r + r.bits) (useU l),0):=by
  unfold symOut
  rw [Zaad _ _ _ _ (fun r hr=>(hw r hr).1),if_pos (fun r hr=>(hw r hr).2),Nat.zero_add]
 rw [e,Zhe l hok,Zjt]
 simp [sumL,endU,lensOf]
 omega
def sizT (t:Tok):Nat:=if t.len = 0 then 1 else t.len.toNat
def sizL (l:List Tok):Nat:=(l.map sizT).sum
theorem Zmv (l m:List Tok):sizL (l ++ m) = sizL l + sizL m:=by simp [sizL]
theorem Zgx (d:Nat) (out:List Nat):∀ n,out <+: repOut d out n:=by
 intro n
 induction n with
 | zero=>exact List.prefix_refl _
 | succ n ih=>exact ih.trans (List.prefix_append _ _)
theorem Zabt {out out':List Nat} {t:Tok} (h:expT out t = some out'):out <+: out' /\ out'.length = out.length + sizT t:=by
 unfold expT at h
 unfold sizT
 split at h
 ·next h0 =>
  simp only [Option.some.injEq] at h
  subst h
  rw [if_pos h0]
  exact ⟨List.prefix_append _ _,by simp⟩
 ·next h0 =>
  rw [if_neg h0]
  split at h
  ·cases h
  ·simp only [Option.some.injEq] at h
   subst h
   exact ⟨Zgx _ _ _,by rw [Zdu]⟩
theorem Zfr:∀ (l:List Tok) {out out':List Nat},expL out l = some out' -> out <+: out' /\ out'.length = out.length + sizL l:=by
 intro l
 induction l with
 | nil=>intro out out' h;simp only [expL,Option.some.injEq] at h;subst h;exact ⟨List.prefix_refl _,by simp [sizL]⟩
 | cons t l ih =>
  intro out out' h
  simp only [expL] at h
  cases ht:expT out t with
  | none=>rw [ht] at h;cases h
  | some o =>
   rw [ht] at h
   obtain ⟨h1,h2⟩:=Zabt ht
   obtain ⟨h3,h4⟩:=ih h
   exact ⟨h1.trans h3,by rw [h4,h2];simp [sizL];omega⟩
theorem Zul {l m:List Tok} {out x:List Nat} (h:expL out (l ++ m) = some (out ++ x)):expL out l = some (out ++ x.take (sizL l)) /\ expL (out ++ x.take (sizL l)) m = some ((out ++ x.take (sizL l)) ++ x.drop (sizL l)) /\ sizL l <= x.length:=by
 rw [Zlw] at h
 cases h1:expL out l with
 | none=>rw [h1] at h;cases h
 | some o =>
  rw [h1] at h
  simp only [Option.bind_some] at h
  obtain ⟨a1,a2⟩:=Zfr l h1
  obtain ⟨b1,b2⟩:=Zfr m h
  obtain ⟨y,rfl⟩:=a1
  obtain ⟨z,hz⟩:=b1
  rw [List.append_assoc] at hz
  have hx:x = y ++ z:=(List.append_cancel_left hz).symm
  rw [List.length_append] at a2
  have hy:sizL l = y.length:=by omega
  subst hx
  rw [hy,List.take_left',List.drop_left']
  ·refine ⟨rfl,?_,by simp⟩
   rw [h];simp
  ·rfl
  ·rfl
theorem Znx:∀ (l:List Tok) (out out':List Nat),(∀ t ∈ l,t.byte < 256) -> (∀ c ∈ out,c < 256) -> expL out l = some out' -> ∀ c ∈ out',c < 256:=by
 have hrep:∀ (d:Nat) (out:List Nat),(∀ c ∈ out,c < 256) -> ∀ n,∀ c ∈ repOut d out n,c < 256:=by
  intro d out ho n
  induction n with
  | zero=>exact ho
  | succ n ih =>
   intro c hc
   simp only [repOut] at hc
   rcases List.mem_append.1 hc with h | h
   ·exact ih c h
   ·rw [List.mem_singleton] at h
    rw [h]
    have:=M04.Zat (n:=255) (l:=repOut d out n) (fun x hx=>by have:=ih x hx;omega) ((repOut d out n).length - d)
    omega
 intro l
 induction l with
 | nil=>intro out out' _ ho h;simp only [expL,Option.some.injEq] at h;subst h;exact ho
 | cons t l ih =>
  intro out out' hb ho h
  simp only [expL] at h
  cases ht:expT out t with
  | none=>rw [ht] at h;cases h
  | some o =>
   rw [ht] at h
   refine ih o out' (fun x hx=>hb x (by simp [hx])) ?_ h
   unfold expT at ht
   split at ht
   ·simp only [Option.some.injEq] at ht
    subst ht
    intro c hc
    rcases List.mem_append.1 hc with h1 | h1
    ·exact ho c h1
    ·rw [List.mem_singleton] at h1;subst h1;exact hb t (by simp)
   ·split at ht
    ·cases ht
    ·simp only [Option.some.injEq] at ht
     subst ht
     exact hrep _ _ ho _
end Go.Proofs.YtendielanacflaaGreat.M18

namespace Go.Proofs.YtendielanacflaaGreat
open Go.RowKit Go.Shelf M04
attribute [local go_sem] Oper.semAt_some
set_option maxRecDepth 100000 in
theorem Zqe (w:World) (fb g0 g1 n0 n1 c0 c1 base sym bits v:Nat) (F:List Nat) (hbox:w.heap[fb]? = some (.cells #[.slice (some ⟨g0,0,none⟩) n0 c0,.slice (some ⟨g1,0,none⟩) n1 c1] 110)) (hown:OwnN 3 .i64 w base (some ⟨g0,0,none⟩) c0 F) (hn:F.length = n0) (hs:sym < n0) (hv:F.getD sym 0 = v) (hvb:v <= 1000000) :
  Calls Tryz.prog 70 #[.agg #[.bool false,.int .i64 (sym:Nat),.int .i64 (bits:Nat)],.pointer (some ⟨fb,0,none⟩)] w fun e w'=>e = .returned (.tuple #[]) /\ OwnN 3 .i64 w' base (some ⟨g0,0,none⟩) c0 (F.set sym (v + 1)) /\ Only (fun b=>b = g0) w w':=by
 have hbx:=Zav w (.cells #[.bool false,.int .i64 (sym:Nat),.int .i64 (bits:Nat)] 112)
 have hlt:fb < w.heap.size:=(Array.getElem?_eq_some_iff.1 hbox).1
 obtain ⟨k0,k1⟩:=Zck ((hbx.block fb hlt).trans hbox)
 obtain ⟨e0,e1,e2⟩:=cells3 (World.alloc_heap_new w (.cells #[.bool false,.int .i64 (sym:Nat),.int .i64 (bits:Nat)] 112))
 have hown2:=hown.below hbx
 obtain ⟨g9,hg9,_,_,hcv,hfv⟩:=hown2.at (show sym < F.length by omega)
 simp only [Option.some.injEq,Addr.mk.injEq,and_true] at hg9
 subst hg9
 have hgd:F[sym]'(by omega) = v:=by rw [<- hv,List.getD_eq_getElem?_getD,List.getElem?_eq_getElem (by omega)];rfl
 rw [hgd] at hcv
 obtain ⟨v1,hv1⟩:∃ v1,v + 1 = v1:=⟨_,rfl⟩
 have qv:(v:Int) + 1 = (v1:Int):=by omega
 have qvw:IntKind.i64.wrap (v1:Int) = (v1:Int):=IntWalk.i64_in _ (by omega)
 rw [hv1]
 have hst:=hown2.stored sym v1
 have HST:=Zh hst.1
 have HON:=Zh ((Only.ofBelow hbx:Only (fun b=>b = g0) w _).trans ⟨hst.2.os,hst.2.tape,hst.2.output,hst.2.size,fun b hb hne=>hst.2.block b hb (fun e=>by cases e;exact hne rfl)⟩)
 have qs:(sym:Int) < (n0:Int):=by omega
 clear hst hv1 hgd hown2 hown hbox hbx hlt hv hn
 go_enter Tryz.func70,Tryz.ntmps70
 go_wp2_with fail
 generalize w.alloc (.cells #[.bool false,.int .i64 (sym:Nat),.int .i64 (bits:Nat)] 112) = W at *
 go_still_tail 9,(by kernel_rfl)
 go_wp2
 go_end0
 exact ⟨rfl,HST.out,HON.out.trans (Zak _ _ 1)⟩
set_option maxRecDepth 100000 in
theorem Zqf (w:World) (fb g0 g1 n0 n1 c0 c1 base sym bits v:Nat) (F:List Nat) (hbox:w.heap[fb]? = some (.cells #[.slice (some ⟨g0,0,none⟩) n0 c0,.slice (some ⟨g1,0,none⟩) n1 c1] 110)) (hown:OwnN 3 .i64 w base (some ⟨g1,0,none⟩) c1 F) (hn:F.length = n1) (hs:sym < n1) (hv:F.getD sym 0 = v) (hvb:v <= 1000000) :
  Calls Tryz.prog 70 #[.agg #[.bool true,.int .i64 (sym:Nat),.int .i64 (bits:Nat)],.pointer (some ⟨fb,0,none⟩)] w fun e w'=>e = .returned (.tuple #[]) /\ OwnN 3 .i64 w' base (some ⟨g1,0,none⟩) c1 (F.set sym (v + 1)) /\ Only (fun b=>b = g1) w w':=by
 have hbx:=Zav w (.cells #[.bool true,.int .i64 (sym:Nat),.int .i64 (bits:Nat)] 112)
 have hlt:fb < w.heap.size:=(Array.getElem?_eq_some_iff.1 hbox).1
 obtain ⟨k0,k1⟩:=Zck ((hbx.block fb hlt).trans hbox)
 obtain ⟨e0,e1,e2⟩:=cells3 (World.alloc_heap_new w (.cells #[.bool true,.int .i64 (sym:Nat),.int .i64 (bits:Nat)] 112))
 have hown2:=hown.below hbx
 obtain ⟨g9,hg9,_,_,hcv,hfv⟩:=hown2.at (show sym < F.length by omega)
 simp only [Option.some.injEq,Addr.mk.injEq,and_true] at hg9
 subst hg9
 have hgd:F[sym]'(by omega) = v:=by rw [<- hv,List.getD_eq_getElem?_getD,List.getElem?_eq_getElem (by omega)];rfl
 rw [hgd] at hcv
 obtain ⟨v1,hv1⟩:∃ v1,v + 1 = v1:=⟨_,rfl⟩
 have qv:(v:Int) + 1 = (v1:Int):=by omega
 have qvw:IntKind.i64.wrap (v1:Int) = (v1:Int):=IntWalk.i64_in _ (by omega)
 rw [hv1]
 have hst:=hown2.stored sym v1
 have HST:=Zh hst.1
 have HON:=Zh ((Only.ofBelow hbx:Only (fun b=>b = g1) w _).trans ⟨hst.2.os,hst.2.tape,hst.2.output,hst.2.size,fun b hb hne=>hst.2.block b hb (fun e=>by cases e;exact hne rfl)⟩)
 have qs:(sym:Int) < (n1:Int):=by omega
 clear hst hv1 hgd hown2 hown hbox hbx hlt hv hn
 go_enter Tryz.func70,Tryz.ntmps70
 go_wp2_with fail
 generalize w.alloc (.cells #[.bool true,.int .i64 (sym:Nat),.int .i64 (bits:Nat)] 112) = W at *
 go_still_tail 9,(by kernel_rfl)
 go_wp2
 go_end0
 exact ⟨rfl,HST.out,HON.out.trans (Zak _ _ 1)⟩
end Go.Proofs.YtendielanacflaaGreat

namespace Go.Proofs.YtendielanacflaaGreat
open Go.RowKit
theorem Zky {P:Program} {g:Operand} {ps:Array Tmp} {assign body:Code} {Q:Exit -> Act -> World -> Prop} {a:Act} {w:World}
  {gf:Nat} {lb:Array Value} (hg:a.eval g = .func (.func gf) #[] lb) (eg:∀ args w,(callFunc gf args).run P w = .ok (.enter gf args) w)
  {n:Nat} {row:Nat -> Array Value} {S T:Nat -> Prop} {w0:World} (hy:Yields P gf lb n row S T w0) (hsame:SameOn S w0 w) (hS:∀ b,S b -> b < w.heap.size) (hT:∀ b,T b -> b < w.heap.size)
  (hps:∀ i,(row i).size = ps.size)
  (I:Nat -> World -> Prop) (Ix:Code -> Nat -> World -> Prop)
  (hI:∀ i A B,I i A -> Only T A B -> I i B) (hIp:∀ i A l o o',I i A -> w.heap.size <= l -> A.heap[l]? = some o -> o.isCells = false -> I i (A.putObj l o'))
  (hX:∀ c i A B,Ix c i A -> Only T A B -> Ix c i B) (hXp:∀ c i A l o o',Ix c i A -> w.heap.size <= l -> A.heap[l]? = some o -> o.isCells = false -> Ix c i (A.putObj l o'))
  (h0:I 0 w) (Ax:Nat -> Act -> World -> Prop)
  (hAp:∀ i a' A l o o',Ax i a' A -> w.heap.size <= l -> A.heap[l]? = some o -> o.isCells = false -> Ax i a' (A.putObj l o'))
  (hassign:∀ (l i:Nat) (W:World) (K:Act -> World -> Prop),i < n -> w.heap.size + 2 <= W.heap.size -> I i W -> (∀ a' W',KeepsFrom w.heap.size W W' -> SameOn S W W' -> Ax i a' W' -> K a' W') →
   assign.wpIn (Fence.wide.inRound l) 9 P (Exit.then K (fun _ _ _=>False)) { tmps:=(ps.zip (row i)).foldl (fun t (p,v)=>t.setIfInBounds p v) a.tmps,defers:=[] } W)
  (hbody:∀ (l i:Nat) (hi:i < n) (a':Act) (A:World),w.heap.size + 2 <= A.heap.size -> Ax i a' A -> body.wpIn (Fence.wide.inRound l) 9 P (roundEnds w.heap.size S I Ix i A) a' A)
  (hdone:∀ (A:World),I n A -> A.heap[w.heap.size]? = some (.deferred (some [])) -> Q .normal { a with defers:={ target:=.collected w.heap.size,args:=#[] } :: a.defers } A)
  (hstop:∀ (c:Code) (i:Nat) (A:World),i < n -> Ix c (i + 1) A -> A.heap[w.heap.size]? = some (.deferred (some [])) -> c.wpIn Fence.wide 9 P Q { a with defers:={ target:=.collected w.heap.size,args:=#[] } :: a.defers } A) :
  (Code.rangeFunc g ps assign body).wpIn Fence.wide 9 P Q a w:=by
 refine wpIn_rangeFunc ?_
 intro fn hfn
 obtain ⟨rec,hrec⟩:∃ rec:LoopState -> Option Code -> Loop,rec = fun st pe=>{ state:=st,pending:=pe,fn,tmps:=a.tmps,params:=ps,assign,body,defers:=w.heap.size }:=⟨_,rfl⟩
 obtain ⟨W1,hW1⟩:∃ W1,(w.alloc (.deferred (some []))).alloc (.loop (rec .ready none)) = W1:=⟨_,rfl⟩
 have hs1:W1.heap.size = w.heap.size + 2:=by rw [<- hW1];simp
 have hL1:W1.heap[w.heap.size + 1]? = some (.loop (rec .ready none)):=by
  rw [<- hW1];have:=World.alloc_heap_new (w.alloc (.deferred (some []))) (.loop (rec .ready none));rwa [World.size_alloc] at this
 have hK1:W1.heap[w.heap.size]? = some (.deferred (some [])):=by
  rw [<- hW1];exact (Below.heap_alloc _ _ _ (by simp)).trans (World.alloc_heap_new w _)
 have hI1:I 0 W1:=hI 0 w W1 h0 (by rw [<- hW1];exact ((Only.refl T w).alloc _).alloc _)
 have hsame1:SameOn S w0 W1:=⟨by have:=hsame.size;omega,fun b hb=>by
  rw [<- hW1,Below.heap_alloc _ _ _ (by have:=hS b hb;simp;omega),Below.heap_alloc _ _ _ (hS b hb)]
  exact hsame.same b hb⟩
 refine ⟨w.heap.size + 1,[{ target:=.collected w.heap.size,args:=#[] }],W1,{ target:=.fn (.func gf) lb,args:=#[.func (.yield (w.heap.size + 1)) #[] #[]] },W1,gf,
  #[.func (.yield (w.heap.size + 1)) #[] #[]] ++ lb,W1,?_,?_,?_,?_,fun h=>by simp [Fence.wide] at h,?_⟩
 ·rw [<- hW1,hrec];exact run_enterLoop_outer _ _ _ _ _
 ·simp only [resolve,hg]
  simp [go_sem]
 ·intro f' hf';trivial
 ·simp [invoke,go_sem,eg]
 ·have hyy:=hy (w.heap.size + 1)
   (fun i A=>I i A /\ w.heap.size + 2 <= A.heap.size /\ A.heap[w.heap.size + 1]? = some (.loop (rec .ready none)) /\ A.heap[w.heap.size]? = some (.deferred (some [])))
   (fun i A=>∃ c,Ix c i A /\ A.heap[w.heap.size + 1]? = some (.loop (rec .done (some c))) /\ A.heap[w.heap.size]? = some (.deferred (some [])))
   W1 hsame1
   (fun i A B h ho=>⟨hI i A B h.1 ho,Nat.le_trans h.2.1 ho.size,Zah h.2.2.1 ho (fun t=>by have:=hT _ t;omega),Zah h.2.2.2 ho (fun t=>by have:=hT _ t;omega)⟩)
   (fun i A B h ho=>by
    obtain ⟨c,hc,hl,hk⟩:=h
    exact ⟨c,hX c i A B hc ho,Zah hl ho (fun t=>by have:=hT _ t;omega),Zah hk ho (fun t=>by have:=hT _ t;omega)⟩)
   ?_ ⟨hI1,by omega,hL1,hK1⟩
  ·refine (callsIn_wide.2 (callsIn_wide.1 hyy)).mono ?_
   rintro e W2 ⟨⟨v,rfl⟩,(⟨hi,_,hl,hk⟩ | ⟨i,hlt,c,hi,hl,hk⟩)⟩
   ·exact ⟨none,_,by have:=run_endLoop (P:=P) hl (by rw [hrec];simp);rw [hrec] at this;exact this,hdone _ (hIp _ _ _ _ _ hi (by omega) hl rfl) ((World.putObj_heap_other (by omega)).trans hk)⟩
   ·exact ⟨some c,_,by have:=run_endLoop (P:=P) hl (by rw [hrec];simp);rw [hrec] at this;exact this,hstop c i _ hlt (hXp _ _ _ _ _ _ hi (by omega) hl rfl) ((World.putObj_heap_other (by omega)).trans hk)⟩
  ·rintro i W hi ⟨hii,hsz,hl,hk⟩
   have hy':=run_yield (P:=P) (args:=row i) hl (by rw [hrec];exact hps _)
   rw [hrec] at hy'
   refine Zhg (n:=9) ⟨fn,_,assign,body,hy',roundIn_of_wpIn hfn (hassign _ i W _ hi hsz hii fun a' W' hk0 hs0 hax=>⟨_,run_beginRound (hk0.same _ _ (by omega) hl rfl) (by rw [hrec]),?_⟩)⟩
   replace hl:=hk0.same _ _ (by omega) hl rfl
   replace hk:=hk0.same _ _ (by omega) hk rfl
   have hlt:w.heap.size + 1 < W'.heap.size:=by have:=hk0.size;omega
   have hl2:(W'.putObj (w.heap.size + 1) (.loop { rec .ready none with state:=.busy })).heap[w.heap.size + 1]? = some (.loop { rec .ready none with state:=.busy }):=World.putObj_heap_same hlt
   have hk2:(W'.putObj (w.heap.size + 1) (.loop { rec .ready none with state:=.busy })).heap[w.heap.size]? = some (.deferred (some [])):=(World.putObj_heap_other (by omega)).trans hk
   have hS2:∀ (A:World) (o:Obj),SameOn S A (A.putObj (w.heap.size + 1) o):=fun A o=>⟨by rw [World.putObj_size];exact Nat.le_refl _,fun b hb=>World.putObj_heap_other (by have:=hS b hb;omega)⟩
   refine wpIn_mono (hbody _ i hi _ _ (by rw [World.putObj_size];omega) (hAp _ _ _ _ _ _ hax (by omega) hl rfl)) ?_
   have fin:∀ (jump:Option Code) (W3:World),KeepsFrom w.heap.size (W'.putObj (w.heap.size + 1) (.loop { rec .ready none with state:=.busy })) W3 →
     (Instr.endRound (w.heap.size + 1) jump).run P W3 = .ok (.bool jump.isNone) (W3.putObj (w.heap.size + 1) (.loop (rec (if jump.isNone then .ready else .done) jump))) ∧
     W3.heap[w.heap.size + 1]? = some (.loop { rec .ready none with state:=.busy }) ∧
     (W3.putObj (w.heap.size + 1) (.loop (rec (if jump.isNone then .ready else .done) jump))).heap[w.heap.size + 1]? = some (.loop (rec (if jump.isNone then .ready else .done) jump)) ∧
     (W3.putObj (w.heap.size + 1) (.loop (rec (if jump.isNone then .ready else .done) jump))).heap[w.heap.size]? = some (.deferred (some [])) /\ w.heap.size + 2 <= (W3.putObj (w.heap.size + 1) (.loop (rec (if jump.isNone then .ready else .done) jump))).heap.size:=fun jump W3 hk3=>by
    have hl3:=hk3.same _ _ (by omega) hl2 rfl
    have:=run_endRound (P:=P) jump hl3
    rw [hrec] at this ⊢
    exact ⟨this,by rw [hrec] at hl3;exact hl3,World.putObj_heap_same (Array.getElem?_eq_some_iff.1 hl3).1,(World.putObj_heap_other (by omega)).trans (hk3.same _ _ (by omega) hk2 rfl),by rw [World.putObj_size];have:=(Array.getElem?_eq_some_iff.1 hl3).1;omega⟩
   rintro e a3 W3 hp
   cases e with
   | normal =>
    obtain ⟨hk3,hkp3,hi3⟩:=hp
    obtain ⟨hr,hl3,hl4,hk4,hz4⟩:=fin none W3 hk3
    exact ⟨_,_,hr,.inl ⟨rfl,⟨hIp _ _ _ _ _ hi3 (by omega) hl3 rfl,hz4,hl4,hk4⟩,((hs0.trans (hS2 _ _)).trans hkp3).trans (hS2 _ _)⟩⟩
   | ret =>
    obtain ⟨hk3,hi3⟩:=hp
    obtain ⟨hr,hl3,hl4,hk4,_⟩:=fin (some .ret) W3 hk3
    exact ⟨_,_,hr,.inr ⟨rfl,.ret,hXp _ _ _ _ _ _ hi3 (by omega) hl3 rfl,hl4,hk4⟩⟩
   | exit id =>
    obtain ⟨hk3,hi3⟩:=hp
    obtain ⟨hr,hl3,hl4,hk4,_⟩:=fin (some (.exit id)) W3 hk3
    exact ⟨_,_,hr,.inr ⟨rfl,.exit id,hXp _ _ _ _ _ _ hi3 (by omega) hl3 rfl,hl4,hk4⟩⟩
   | goto t =>
    obtain ⟨hk3,hi3⟩:=hp
    obtain ⟨hr,hl3,hl4,hk4,_⟩:=fin (some (.goto t)) W3 hk3
    exact ⟨_,_,hr,.inr ⟨rfl,.goto t,hXp _ _ _ _ _ _ hi3 (by omega) hl3 rfl,hl4,hk4⟩⟩
   | panic ch=>exact hp.elim
   | outgrown=>exact hp.elim
end Go.Proofs.YtendielanacflaaGreat

namespace Go.Proofs.YtendielanacflaaGreat
open Go.RowKit Go.Shelf M08 M17
attribute [local go_sem] Oper.semAt_some
theorem five (w:World) (o1 o2 o3 o4 o5 o6:Obj):((((((w.alloc o1).alloc o2).alloc o3).alloc o4).alloc o5).alloc o6).heap.size = w.heap.size + 6 /\ ((((((w.alloc o1).alloc o2).alloc o3).alloc o4).alloc o5).alloc o6).heap[w.heap.size]? = some o1 /\ ((((((w.alloc o1).alloc o2).alloc o3).alloc o4).alloc o5).alloc o6).heap[w.heap.size + 1]? = some o2 ∧
  ((((((w.alloc o1).alloc o2).alloc o3).alloc o4).alloc o5).alloc o6).heap[w.heap.size + 1 + 1]? = some o3 /\ ((((((w.alloc o1).alloc o2).alloc o3).alloc o4).alloc o5).alloc o6).heap[w.heap.size + 1 + 1 + 1]? = some o4 /\ ((((((w.alloc o1).alloc o2).alloc o3).alloc o4).alloc o5).alloc o6).heap[w.heap.size + 1 + 1 + 1 + 1]? = some o5 ∧
  ((((((w.alloc o1).alloc o2).alloc o3).alloc o4).alloc o5).alloc o6).heap[w.heap.size + 1 + 1 + 1 + 1 + 1]? = some o6 /\ Below w.heap.size w ((((((w.alloc o1).alloc o2).alloc o3).alloc o4).alloc o5).alloc o6):=by
 obtain ⟨h0,h1,h2,h3,h4,hb⟩:=alloc4 w o1 o2 o3 o4
 generalize (((w.alloc o1).alloc o2).alloc o3).alloc o4 = W at *
 have e5:=World.alloc_heap_new W o5
 have e6:=World.alloc_heap_new (W.alloc o5) o6
 have hb2:Below W.heap.size W ((W.alloc o5).alloc o6):=((Below.refl _ W).alloc (Nat.le_refl _) _).alloc (by simp) _
 rw [World.size_alloc] at e6
 rw [h0] at e5 e6
 refine ⟨by simp [h0],(hb2.block _ (by omega)).trans h1,(hb2.block _ (by omega)).trans h2,(hb2.block _ (by omega)).trans h3,(hb2.block _ (by omega)).trans h4,?_,e6,hb.trans (hb2.mono (by omega))⟩
 rw [Below.heap_alloc _ _ _ (by rw [World.size_alloc,h0];omega)];exact e5
def symAct (s0 s1 s2 s4 s5 s6 s7 s8 s12 s13:Value) (g:Nat) (r:URow):Act :=
 ⟨#[s0,s1,s2,undef,s4,s5,s6,s7,s8,.pointer (some ⟨g,0,none⟩),.int .i64 (r.err:Nat),undef,s12,s13,.agg #[.bool r.far,.int .i64 (r.sym:Nat),.int .i64 (r.bits:Nat)],.int .i64 (r.err:Nat),undef,undef,undef,undef,undef,undef,undef,undef,undef,undef,undef,undef,undef,undef,undef,undef,undef,undef,undef,undef,undef,undef,undef,undef,undef,undef,undef,undef,undef,undef,undef,undef,undef],[]⟩
structure SymI (w:World) (v1 v2:Value) (f o:List Nat) (l:List Tok) (i:Nat) (A:World):Prop where
 b0:A.heap[w.heap.size]? = some (.cells #[v1] 24)
 b1:A.heap[w.heap.size + 1]? = some (.cells #[v2] 24)
 b2:A.heap[w.heap.size + 1 + 1]? = some (.cells #[.int .i64 0] 3)
 b3:A.heap[w.heap.size + 1 + 1 + 1]? = some (.cells #[.int .i64 0] 25)
 b4:∃ acc:Nat,A.heap[w.heap.size + 1 + 1 + 1 + 1]? = some (.cells #[.int .i64 (acc:Nat)] 3) /\ symU f o ((useU l).take i) 0 = some acc /\ acc <= i * 1000
 bel:Below w.heap.size w A
structure SymX (w:World) (f o:List Nat) (l:List Tok) (A:World):Prop where
 none:symU f o (useU l) 0 = none
 b2:A.heap[w.heap.size + 1 + 1]? = some (.cells #[.int .i64 0] 3)
 b3:A.heap[w.heap.size + 1 + 1 + 1]? = some (.cells #[.int .i64 5] 25)
 bel:Below w.heap.size w A
section
variable {w : World} {v1 v2 : Value} {f o : List Nat} {l : List Tok} {i : Nat} {A B : World}
theorem SymI.only (h:SymI w v1 v2 f o l i A) (ho:Only (fun _=>False) A B):SymI w v1 v2 f o l i B:=by
 obtain ⟨acc,h4,h5,h6⟩:=h.b4
 exact ⟨Zah h.b0 ho id,Zah h.b1 ho id,Zah h.b2 ho id,Zah h.b3 ho id,⟨acc,Zah h4 ho id,h5,h6⟩,Below.only h.bel ho (Nat.le_refl _) (fun _ h=>h.elim)⟩
theorem SymI.put (h:SymI w v1 v2 f o l i A) {r:Nat} {ob:Obj} (h0:w.heap.size <= r) (hro:A.heap[r]? = some ob) (hoc:ob.isCells = false) (o':Obj):SymI w v1 v2 f o l i (A.putObj r o'):=by
 obtain ⟨acc,h4,h5,h6⟩:=h.b4
 exact ⟨Zap h.b0 hro hoc,Zap h.b1 hro hoc,Zap h.b2 hro hoc,Zap h.b3 hro hoc,⟨acc,Zap h4 hro hoc,h5,h6⟩,Below.put h.bel (Nat.le_refl _) hro h0 _⟩
theorem SymX.only (h:SymX w f o l A) (ho:Only (fun _=>False) A B):SymX w f o l B :=
 ⟨h.none,Zah h.b2 ho id,Zah h.b3 ho id,Below.only h.bel ho (Nat.le_refl _) (fun _ h=>h.elim)⟩
theorem SymX.put (h:SymX w f o l A) {r:Nat} {ob:Obj} (h0:w.heap.size <= r) (hro:A.heap[r]? = some ob) (hoc:ob.isCells = false) (o':Obj):SymX w f o l (A.putObj r o') :=
 ⟨h.none,Zap h.b2 hro hoc,Zap h.b3 hro hoc,Below.put h.bel (Nat.le_refl _) hro h0 _⟩
end
theorem Zhc {w:World} {v1 v2:Value} {f o:List Nat} {l:List Tok} {i:Nat} {A:World} (h:SymI w v1 v2 f o l i A) (N:Nat) (hn:symU f o (useU l) 0 = none) :
  KeepsFrom N A ((A.setCell ⟨w.heap.size + 1 + 1,0,none⟩ (.int .i64 0)).setCell ⟨w.heap.size + 1 + 1 + 1,0,none⟩ (.int .i64 5)) /\ Code.ret = .ret /\ SymX w f o l ((A.setCell ⟨w.heap.size + 1 + 1,0,none⟩ (.int .i64 0)).setCell ⟨w.heap.size + 1 + 1 + 1,0,none⟩ (.int .i64 5)):=by
 refine ⟨((KeepsOthers.setCell _ _ _).trans (KeepsOthers.setCell _ _ _)).from _,rfl,hn,?_,?_,(h.bel.setCell (by show w.heap.size <= w.heap.size + 1 + 1;omega) _).setCell (by show w.heap.size <= w.heap.size + 1 + 1 + 1;omega) _⟩
 ·exact (Below.heap_setCell _ _ _ _ (by show w.heap.size + 1 + 1 ≠ w.heap.size + 1 + 1 + 1;omega)).trans (one_setCell h.b2)
 ·exact one_setCell ((Below.heap_setCell _ _ _ _ (by show w.heap.size + 1 + 1 + 1 ≠ w.heap.size + 1 + 1;omega)).trans h.b3)
theorem Zpq {w:World} {v1 v2:Value} {f o:List Nat} {l:List Tok} {i:Nat} {A:World} (h:SymI w v1 v2 f o l i A) (N:Nat) (S:Nat -> Prop) (hS:∀ b,S b -> b < A.heap.size /\ b ≠ w.heap.size + 1 + 1 + 1 + 1) {acc acc':Nat} (h4:A.heap[w.heap.size + 1 + 1 + 1 + 1]? = some (.cells #[.int .i64 (acc:Nat)] 3))
  (hs:symU f o ((useU l).take (i + 1)) 0 = some acc') (hle:acc' <= (i + 1) * 1000) :
  KeepsFrom N A (A.drew.setCell ⟨w.heap.size + 1 + 1 + 1 + 1,0,none⟩ (.int .i64 (acc':Nat))) /\ SameOn S A (A.drew.setCell ⟨w.heap.size + 1 + 1 + 1 + 1,0,none⟩ (.int .i64 (acc':Nat))) /\ SymI w v1 v2 f o l (i + 1) (A.drew.setCell ⟨w.heap.size + 1 + 1 + 1 + 1,0,none⟩ (.int .i64 (acc':Nat))):=by
 have hk:KeepsOthers A (A.drew.setCell ⟨w.heap.size + 1 + 1 + 1 + 1,0,none⟩ (.int .i64 (acc':Nat))):=⟨by simp [World.setCell],fun k o ho hoc=>(KeepsOthers.setCell A.drew ⟨w.heap.size + 1 + 1 + 1 + 1,0,none⟩ (.int .i64 (acc':Nat))).same k o ho hoc⟩
 refine ⟨hk.from _,((Only.refl (fun b=>b = w.heap.size + 1 + 1 + 1 + 1) A).drew.setCell (.inl rfl) _).sameOn hS,?_⟩
 have ne:∀ k,k ≠ w.heap.size + 1 + 1 + 1 + 1 -> (A.drew.setCell ⟨w.heap.size + 1 + 1 + 1 + 1,0,none⟩ (.int .i64 (acc':Nat))).heap[k]? = A.heap[k]?:=fun k hk=>Below.heap_setCell A.drew _ _ _ hk
 exact ⟨(ne _ (by omega)).trans h.b0,(ne _ (by omega)).trans h.b1,(ne _ (by omega)).trans h.b2,(ne _ (by omega)).trans h.b3,⟨acc',one_setCell (w:=A.drew) h4,hs,hle⟩,(belDN h.bel 1).setCell (by show w.heap.size <= w.heap.size + 1 + 1 + 1 + 1;omega) _⟩
theorem fldU1 (R:Nat) (w:World):(Instr.fieldAt 112 (.pointer (some ⟨R,0,none⟩)) 1).run Tryz.prog w = .ok (.pointer (some ⟨R,1,none⟩)) w:=by kernel_rfl
theorem fldU2 (R:Nat) (w:World):(Instr.fieldAt 112 (.pointer (some ⟨R,0,none⟩)) 2).run Tryz.prog w = .ok (.pointer (some ⟨R,2,none⟩)) w:=by kernel_rfl
theorem ixU8 (b off k N c:Nat) (h:k < N) (w:World):(Instr.indexAt 24 (.slice (some ⟨b,off,none⟩) N c) (.int .i64 (k:Nat))).run Tryz.prog w = .ok (.pointer (some ⟨b,off + k,none⟩)) w:=by
 simp [Instr.indexAt,asIntOf,run_underlying Tryz.underlying24,h,go_sem]
theorem ldU8 (p:Addr) (v:Value) (w:World) (h:w.cell? p = some v):(Instr.loadAt 5 (.pointer (some p))).run Tryz.prog w = .ok v w:=by
 simp [Instr.loadAt,Instr.sureAddr,loadVar,isAgg,run_underlying Tryz.underlying5,h,go_sem]
theorem cvU8 (x:Nat) (h:x <= 255) (w:World):(convert 5 3 (.int .u8 (x:Nat))).run Tryz.prog w = .ok (.int .i64 (x:Nat)) w:=by
 have hx:IntKind.i64.wrap (x:Int) = x:=IntWalk.i64_in _ (by omega)
 simp [convert,run_underlying Tryz.underlying5,run_underlying Tryz.underlying3,Conv.intToInt,hx,go_sem]
theorem getD_set_ne {l:Array Bool} {i k:Nat} (h:i ≠ k):(l.setIfInBounds i true).getD k false = l.getD k false:=by
 simp [Array.getElem?_setIfInBounds_ne h]
theorem Zaeh {f o:List Nat} {l:List Tok} {i acc:Nat} (hi:i < (useU l).length) (h:symU f o ((useU l).take i) 0 = some acc) :
  ((useU l)[i].err ≠ 0 \/ lensOf f o (useU l)[i] = 0 -> symU f o (useU l) 0 = none) ∧
  ((useU l)[i].err = 0 -> lensOf f o (useU l)[i] ≠ 0 -> symU f o ((useU l).take (i + 1)) 0 = some (acc + (lensOf f o (useU l)[i] + (useU l)[i].bits))):=by
 constructor
 ·intro hc
  have e:useU l = (useU l).take i ++ (useU l)[i] :: (useU l).drop (i + 1):=by rw [<- List.drop_eq_getElem_cons hi,List.take_append_drop]
  rw [e,Ztr,h]
  simp only [Option.bind_some,symU]
  rw [if_pos hc]
 ·intro h1 h2
  rw [List.take_succ_eq_append_getElem hi,Ztr,h]
  simp only [Option.bind_some,symU]
  rw [if_neg (by simp [h1,h2])]
theorem Zgo (l:List Tok):∀ r ∈ useU l,r.bits <= 100:=by
 have hl:∀ n,lbits (257 + lk n) <= 100:=fun n=>by
  have h:lk n < 29:=Zfu n (by decide)
  generalize lk n = k at *
  unfold lbits;split <;> omega
 have hd:∀ n,dbits (dk n) <= 100:=fun n=>by
  have h:=Zxf n
  generalize dk n = k at *
  unfold dbits;split <;> omega
 have ht:∀ t:Tok,∀ r ∈ tokU t,r.bits <= 100:=by
  intro t r hr
  unfold tokU at hr
  split at hr
  ·simp at hr;subst hr;simp
  ·split at hr
   ·simp at hr
    rcases hr with rfl | rfl
    ·exact hl _
    ·exact hd _
   ·simp at hr;subst hr
    show (if _ then _ else _) <= 100
    split
    ·exact hl _
    ·omega
 induction l with
 | nil=>intro r hr;simp [useU] at hr;subst hr;decide
 | cons t l ih =>
  intro r hr
  simp only [useU] at hr
  split at hr
  ·rcases List.mem_append.1 hr with hr | hr
   ·exact ht t r hr
   ·exact ih r hr
  ·exact ht t r hr
set_option maxRecDepth 100000 in
set_option maxHeartbeats 1600000 in
theorem Zhi (a a1 a2:Option Addr) (cap c1 c2:Nat) (l:List Tok) (f o:List Nat) (w:World) (hl:l.length <= 1100) (hby:∀ t ∈ l,t.byte < 256) (hr:RowS encT w a cap l) (h1:RowN .u8 w a1 c1 f) (h2:RowN .u8 w a2 c2 o) (hf:∀ x ∈ f,x <= 255) (ho:∀ x ∈ o,x <= 255) :
  Calls Tryz.prog 37 #[.slice a l.length cap,.slice a1 f.length c1,.slice a2 o.length c2] w fun e w'=>e = .returned (.tuple #[.int .i64 ((symOut f o l).1:Nat),.int .i64 ((symOut f o l).2:Nat)]) /\ Below w.heap.size w w':=by
 have HF:=Zh hf
 have HO:=Zh ho
 have HBY:=Zh hby
 clear hf ho hby
 refine (callsIn_wide (n:=9)).1 ?_
 refine callsIn_of_wp_marks Tryz.func37 rfl trivial ?_ rfl
 simp only [Tryz.ntmps37,List.size_toArray,List.length_cons,List.length_nil,Nat.reduceAdd,Nat.reduceSub,Array.replicate_succ,Array.replicate_zero,List.push_toArray,List.append_toArray,List.nil_append,List.cons_append]
 gi_wp2_with (refine ⟨trivial,?_⟩;gi_at_call 71;refine (callsIn_wide.2 (Znr _ _ _ _)).mono ?_;rintro e w' ⟨rfl,rfl⟩)
 obtain ⟨hz,hb0,hb1,hb2,hb3,hb4,hb5,hbel⟩:=five w (.cells #[.slice a1 f.length c1] 24) (.cells #[.slice a2 o.length c2] 24) (.cells #[.int .i64 0] 3) (.cells #[.int .i64 0] 25) (.cells #[.int .i64 0] 3) (.cells #[.slice a l.length cap] 22)
 generalize (((((w.alloc (Obj.cells #[.slice a1 f.length c1] 24)).alloc (.cells #[.slice a2 o.length c2] 24)).alloc (.cells #[.int .i64 0] 3)).alloc (.cells #[.int .i64 0] 25)).alloc (.cells #[.int .i64 0] 3)).alloc (.cells #[.slice a l.length cap] 22) = W0 at *
 have hr4:RowS encT W0 a cap l:=hr.below hbel
 refine Zky (g:=.tmp 13) (gf:=108) (lb:=#[.pointer (some ⟨w.heap.size + 1 + 1 + 1 + 1 + 1,0,none⟩)]) rfl (enters_of Tryz.func108 (by kernel_rfl) rfl)
  (Zjx a cap l W0 (w.heap.size + 1 + 1 + 1 + 1 + 1) (by omega) HBY.out hr4 hb5) (SameOn.refl _ _) ?hS (fun _ h=>h.elim) (fun _=>rfl)
  (SymI w (.slice a1 f.length c1) (.slice a2 o.length c2) f o l)
  (fun c _ A=>c = .ret /\ SymX w f o l A) (fun _ _ _ h ho=>h.only ho) (fun _ _ _ _ o' h h0 h1 h2=>h.put (by omega) h1 h2 o') (fun _ _ _ _ h ho=>⟨h.1,h.2.only ho⟩) (fun _ _ _ _ _ o' h h0 h1 h2=>⟨h.1,h.2.put (by omega) h1 h2 o'⟩) ?h0
  (fun i a' A=>SymI w (.slice a1 f.length c1) (.slice a2 o.length c2) f o l i A /\ ∃ (g:Nat) (r:URow),(useU l)[i]? = some r /\ A.heap[g]? = some (.cells #[.bool r.far,.int .i64 (r.sym:Nat),.int .i64 (r.bits:Nat)] 112) ∧
   a' = symAct (.slice a l.length cap) (.slice a1 f.length c1) (.slice a2 o.length c2) (.pointer (some ⟨w.heap.size,0,none⟩)) (.pointer (some ⟨w.heap.size + 1,0,none⟩)) (.pointer (some ⟨w.heap.size + 1 + 1,0,none⟩)) (.pointer (some ⟨w.heap.size + 1 + 1 + 1,0,none⟩)) (.pointer (some ⟨w.heap.size + 1 + 1 + 1 + 1,0,none⟩)) (.slice a l.length cap)
    (.func (.func 108) #[] #[.pointer (some ⟨w.heap.size + 1 + 1 + 1 + 1 + 1,0,none⟩)]) g r) ?hAp ?assign ?body ?done ?stop
 case hS =>
  rintro b (rfl | ⟨h0,x,hx,rfl⟩)
  ·omega
  ·obtain ⟨b',off,he,hlt,_⟩:=hr4.at h0
   rw [hx] at he
   cases he
   exact hlt
 case h0=>exact ⟨hb0,hb1,hb2,hb3,⟨0,hb4,by simp [symU],by omega⟩,hbel⟩
 case hAp =>
  rintro i a' A r ob o' ⟨h,g,u,hu,hg,ha⟩ h0 h1 h2
  exact ⟨h.put (by omega) h1 h2 o',g,u,hu,Zap hg h1 h2,ha⟩
 case assign =>
  rintro y i W K hi hsz hI hK
  obtain ⟨r,hr0⟩:∃ r,(useU l)[i]? = some r:=⟨_,List.getElem?_eq_getElem hi⟩
  obtain ⟨-,hrow⟩:=Zcl hr0
  rw [hrow]
  have HK:=Zh hK
  have HI:=Zh hI
  have HI0:=Zh hr0
  clear hK hrow hI hr0 hi
  gi_wp2
  have hb:Below W.heap.size W (W.alloc (.cells #[.bool r.far,.int .i64 (r.sym:Nat),.int .i64 (r.bits:Nat)] 112)):=Zai _ _
  refine HK.out _ _ (KeepsFrom.of_grownBy (row:=none) ⟨hb.os,hb.tape,hb.output,hb.size,fun k hk _=>hb.block k hk⟩ (fun j e=>by cases e)) (((Only.refl (fun _=>False) _).alloc _).sameOn ?_) ⟨HI.out.only ((Only.refl _ _).alloc _),W.heap.size,r,HI0.out,World.alloc_heap_new _ _,rfl⟩
  intro b hb
  refine ⟨?_,id⟩
  rcases hb with rfl | ⟨h0,x,hx,rfl⟩
  ·omega
  ·obtain ⟨b',off,he,hlt,_⟩:=hr4.at h0
   rw [hx] at he
   cases he
   show b' < _
   omega
 case body =>
  rintro y i hi a' A hsz ⟨hI,g,r,hri,hg,rfl⟩
  unfold symAct
  have hir:(useU l)[i] = r:=by rw [List.getElem?_eq_getElem hi] at hri;exact Option.some.inj hri
  obtain ⟨acc,h4,h5,h6⟩:=hI.b4
  obtain ⟨st1,st2⟩:=Zaeh hi h5
  rw [hir] at st1 st2
  have hbits:=Zgo l r (by rw [<- hir];exact List.getElem_mem hi)
  have hil:i <= 2201:=by have:=Zej l;omega
  have r1:=h1.below hI.bel
  have r2:=h2.below hI.bel
  have k0:=cell_of_one hI.b0
  have k1:=cell_of_one hI.b1
  have k2:=cell_of_one hI.b2
  have z2:=free_of_one hI.b2
  have k3:=cell_of_one hI.b3
  have z3:=free_of_one hI.b3
  have k4:=cell_of_one h4
  have z4:=free_of_one h4
  obtain ⟨g0,g1,g2⟩:=cells3 hg
  obtain ⟨far,sym,bits,err⟩:=r
  have HS:Hid (∀ b,useS a (w.heap.size + 1 + 1 + 1 + 1 + 1) l b -> b < A.heap.size /\ b ≠ w.heap.size + 1 + 1 + 1 + 1):=by
   intro b hb
   rcases hb with rfl | ⟨h0,x,hx,rfl⟩
   ·exact ⟨by omega,by omega⟩
   ·obtain ⟨b',off,he,hlt,_⟩:=hr.at h0
    rw [hx] at he
    cases he
    show b' < _ /\ b' ≠ _
    exact ⟨by omega,by omega⟩
  have ST1:=Zh st1
  have ST2:=Zh st2
  have HI:=Zh hI
  have H4:=Zh h4
  clear st1 st2 hI h4 h5 hri hir hg hb0 hb1 hb2 hb3 hb4 hb5 hr4
  simp only at g0 g1 g2 hbits ⊢
  have hlf:=h1.len
  have hlo:=h2.len
  cases far with
  | false =>
   by_cases he:err = 0
   case neg =>
    have b0:((err:Int) != 0) = true:=by simp;omega
    have HN:=Zh (ST1.out (.inl he))
    clear he
    gi_wp2
    exact Zhc HI.out _ HN.out
   subst he
   by_cases hs:sym < f.length
   case neg =>
    have HN:=Zh (ST1.out (.inr (by show (if false then o else f).getD sym 0 = 0;simp [List.getElem?_eq_none (Nat.le_of_not_lt hs)])))
    have b1:decide (f.length <= sym) = true:=by simp;omega
    clear hs
    gi_wp2
    exact Zhc HI.out _ HN.out
   have b1:decide (f.length <= sym) = false:=by simp;omega
   obtain ⟨b,off,rfl,hb,hck⟩:=r1.at hs
   have hx:f.getD sym 0 = f[sym]:=by simp [hs]
   have hxl:=HF.out _ (List.getElem_mem hs)
   by_cases hz:f[sym] = 0
   ·have HN:=Zh (ST1.out (.inr (by show (if false then o else f).getD sym 0 = 0;simp [hs,hz])))
    rw [hz] at hck
    clear hz hx hxl
    gi_wp2
    exact Zhc HI.out _ HN.out
   ·have HN:=Zh (ST2.out rfl (by show (if false then o else f).getD sym 0 ≠ 0;simpa [hs] using hz))
    have HV:Hid (lensOf f o ⟨false,sym,bits,0⟩ = f[sym]):=by show (if false then o else f).getD sym 0 = _;simp [hs]
    have b2:((f[sym]:Int) == 0) = false:=by simp;omega
    clear hz hx
    generalize f[sym] = x at *
    gi_wp2
    have hw1:IntKind.i64.wrap ((x:Int) + (bits:Int)) = ((x + bits:Nat):Int):=by rw [IntWalk.i64_in _ (by omega)];simp
    have hw2:IntKind.i64.wrap ((acc:Int) + ((x:Int) + (bits:Int))) = (acc:Int) + ((x:Int) + (bits:Int)):=IntWalk.i64_in _ (by omega)
    have c4:A.drew.cell? ⟨w.heap.size + 1 + 1 + 1 + 1,0,none⟩ = some (.int .i64 (acc:Nat)):=k4
    have d4:A.drew.frozen? ⟨w.heap.size + 1 + 1 + 1 + 1,0,none⟩ = false:=z4
    replace g1:A.drew.cell? ⟨g,1,none⟩ = some (.int .i64 (sym:Nat)):=g1
    replace g2:A.drew.cell? ⟨g,2,none⟩ = some (.int .i64 (bits:Nat)):=g2
    replace hck:A.drew.cell? ⟨b,off + sym,none⟩ = some (.int .u8 (x:Nat)):=hck
    refine Zar [37,38,39,40,41,42,43,44,45,46,47] (fun _=>false) (fun listed w1=>w1 = if listed.getD 11 false = true then A.drew.setCell ⟨w.heap.size + 1 + 1 + 1 + 1,0,none⟩ (.int .i64 ((acc + (x + bits):Nat):Int)) else A.drew) (fun j v _=>match j with | 0=>v = .int .i64 (acc:Nat) | 1=>v = .slice (some ⟨b,off,none⟩) f.length c1 | 2=>v = .pointer (some ⟨g,1,none⟩) | 3=>v = .int .i64 (sym:Nat) | 4=>v = .pointer (some ⟨b,off + sym,none⟩) | 5=>v = .int .u8 (x:Nat) | 6=>v = .int .i64 (x:Nat) | 7=>v = .pointer (some ⟨g,2,none⟩) | 8=>v = .int .i64 (bits:Nat) | 9=>v = .int .i64 ((x + bits:Nat):Int) | 10=>v = .int .i64 ((acc + (x + bits):Nat):Int) | _=>True) (fun _ _ _ _=>True) (by kernel_rfl) (by kernel_rfl) (OneEach.mk' (by kernel_rfl) (by kernel_rfl)) (by kernel_rfl) (by kernel_rfl) (by simp) ?_ ?_
    ·intro i0 o hi0 listed a1 w1 hR hil hunf hdes hanc hout hdep
     have hsz:i0 < 12:=(Array.getElem?_eq_some_iff.1 hi0).1
     have hall:i0 = 0 \/ i0 = 1 \/ i0 = 2 \/ i0 = 3 \/ i0 = 4 \/ i0 = 5 \/ i0 = 6 \/ i0 = 7 \/ i0 = 8 \/ i0 = 9 \/ i0 = 10 \/ i0 = 11:=by omega
     clear hsz
     rcases hall with rfl | rfl | rfl | rfl | rfl | rfl | rfl | rfl | rfl | rfl | rfl | rfl <;> simp only [List.getElem?_toArray,List.getElem?_cons_zero,List.getElem?_cons_succ,Option.some.injEq] at hi0 <;> subst hi0
     ·rw [hdes 11 (by kernel_rfl)] at hR
      simp only [Bool.false_eq_true,if_false] at hR
      subst hR
      have f8:a1.eval (.tmp 8) = .pointer (some ⟨w.heap.size + 1 + 1 + 1 + 1,0,none⟩):=hout 8 (by decide)
      refine Zaf (by intro c h;cases h) (by intro c h;cases h) (v:=.int .i64 (acc:Nat)) (w':=A.drew) (by simp [execOp,f8,ldInt _ _ _ c4]) ⟨_,rfl,?_,fun j u hu hV _=>⟨hV,trivial,trivial⟩,rfl⟩
      rw [if_neg]
      intro he;have:=hdes 11 (by kernel_rfl);rw [getD_set_ne (by decide)] at he;rw [this] at he;cases he
     ·rw [hdes 11 (by kernel_rfl)] at hR
      simp only [Bool.false_eq_true,if_false] at hR
      subst hR
      have f11:a1.eval (.tmp 11) = .slice (some ⟨b,off,none⟩) f.length c1:=hout 11 (by decide)
      refine Zaf (by intro c h;cases h) (by intro c h;cases h) (v:=.slice (some ⟨b,off,none⟩) f.length c1) (w':=A.drew) (by simp [execOp,f11]) ⟨_,rfl,?_,fun j u hu hV _=>⟨hV,trivial,trivial⟩,rfl⟩
      rw [if_neg]
      intro he;have:=hdes 11 (by kernel_rfl);rw [getD_set_ne (by decide)] at he;rw [this] at he;cases he
     ·rw [hdes 11 (by kernel_rfl)] at hR
      simp only [Bool.false_eq_true,if_false] at hR
      subst hR
      have f9:a1.eval (.tmp 9) = .pointer (some ⟨g,0,none⟩):=hout 9 (by decide)
      refine Zaf (by intro c h;cases h) (by intro c h;cases h) (v:=.pointer (some ⟨g,1,none⟩)) (w':=A.drew) (by simp [execOp,f9,fldU1]) ⟨_,rfl,?_,fun j u hu hV _=>⟨hV,trivial,trivial⟩,rfl⟩
      rw [if_neg]
      intro he;have:=hdes 11 (by kernel_rfl);rw [getD_set_ne (by decide)] at he;rw [this] at he;cases he
     ·rw [hdes 11 (by kernel_rfl)] at hR
      simp only [Bool.false_eq_true,if_false] at hR
      subst hR
      have e39:a1.eval (.tmp 39) = .pointer (some ⟨g,1,none⟩):=hdep ⟨2,.data⟩ (by simp) rfl _ rfl
      refine Zaf (by intro c h;cases h) (by intro c h;cases h) (v:=.int .i64 (sym:Nat)) (w':=A.drew) (by simp [execOp,e39,ldInt _ _ _ g1]) ⟨_,rfl,?_,fun j u hu hV _=>⟨hV,trivial,trivial⟩,rfl⟩
      rw [if_neg]
      intro he;have:=hdes 11 (by kernel_rfl);rw [getD_set_ne (by decide)] at he;rw [this] at he;cases he
     ·rw [hdes 11 (by kernel_rfl)] at hR
      simp only [Bool.false_eq_true,if_false] at hR
      subst hR
      have e38:a1.eval (.tmp 38) = .slice (some ⟨b,off,none⟩) f.length c1:=hdep ⟨1,.data⟩ (by simp) rfl _ rfl
      have e40:a1.eval (.tmp 40) = .int .i64 (sym:Nat):=hdep ⟨3,.data⟩ (by simp) rfl _ rfl
      refine Zaf (by intro c h;cases h) (by intro c h;cases h) (v:=.pointer (some ⟨b,off + sym,none⟩)) (w':=A.drew) (by simp [execOp,e38,e40,ixU8 b off sym _ _ hs]) ⟨_,rfl,?_,fun j u hu hV _=>⟨hV,trivial,trivial⟩,rfl⟩
      rw [if_neg]
      intro he;have:=hdes 11 (by kernel_rfl);rw [getD_set_ne (by decide)] at he;rw [this] at he;cases he
     ·rw [hdes 11 (by kernel_rfl)] at hR
      simp only [Bool.false_eq_true,if_false] at hR
      subst hR
      have e41:a1.eval (.tmp 41) = .pointer (some ⟨b,off + sym,none⟩):=hdep ⟨4,.data⟩ (by simp) rfl _ rfl
      refine Zaf (by intro c h;cases h) (by intro c h;cases h) (v:=.int .u8 (x:Nat)) (w':=A.drew) (by simp [execOp,e41,ldU8 _ _ _ hck]) ⟨_,rfl,?_,fun j u hu hV _=>⟨hV,trivial,trivial⟩,rfl⟩
      rw [if_neg]
      intro he;have:=hdes 11 (by kernel_rfl);rw [getD_set_ne (by decide)] at he;rw [this] at he;cases he
     ·rw [hdes 11 (by kernel_rfl)] at hR
      simp only [Bool.false_eq_true,if_false] at hR
      subst hR
      have e42:a1.eval (.tmp 42) = .int .u8 (x:Nat):=hdep ⟨5,.data⟩ (by simp) rfl _ rfl
      refine Zaf (by intro c h;cases h) (by intro c h;cases h) (v:=.int .i64 (x:Nat)) (w':=A.drew) (by simp [execOp,e42,cvU8 x hxl]) ⟨_,rfl,?_,fun j u hu hV _=>⟨hV,trivial,trivial⟩,rfl⟩
      rw [if_neg]
      intro he;have:=hdes 11 (by kernel_rfl);rw [getD_set_ne (by decide)] at he;rw [this] at he;cases he
     ·rw [hdes 11 (by kernel_rfl)] at hR
      simp only [Bool.false_eq_true,if_false] at hR
      subst hR
      have f9:a1.eval (.tmp 9) = .pointer (some ⟨g,0,none⟩):=hout 9 (by decide)
      refine Zaf (by intro c h;cases h) (by intro c h;cases h) (v:=.pointer (some ⟨g,2,none⟩)) (w':=A.drew) (by simp [execOp,f9,fldU2]) ⟨_,rfl,?_,fun j u hu hV _=>⟨hV,trivial,trivial⟩,rfl⟩
      rw [if_neg]
      intro he;have:=hdes 11 (by kernel_rfl);rw [getD_set_ne (by decide)] at he;rw [this] at he;cases he
     ·rw [hdes 11 (by kernel_rfl)] at hR
      simp only [Bool.false_eq_true,if_false] at hR
      subst hR
      have e44:a1.eval (.tmp 44) = .pointer (some ⟨g,2,none⟩):=hdep ⟨7,.data⟩ (by simp) rfl _ rfl
      refine Zaf (by intro c h;cases h) (by intro c h;cases h) (v:=.int .i64 (bits:Nat)) (w':=A.drew) (by simp [execOp,e44,ldInt _ _ _ g2]) ⟨_,rfl,?_,fun j u hu hV _=>⟨hV,trivial,trivial⟩,rfl⟩
      rw [if_neg]
      intro he;have:=hdes 11 (by kernel_rfl);rw [getD_set_ne (by decide)] at he;rw [this] at he;cases he
     ·rw [hdes 11 (by kernel_rfl)] at hR
      simp only [Bool.false_eq_true,if_false] at hR
      subst hR
      have e43:a1.eval (.tmp 43) = .int .i64 (x:Nat):=hdep ⟨6,.data⟩ (by simp) rfl _ rfl
      have e45:a1.eval (.tmp 45) = .int .i64 (bits:Nat):=hdep ⟨8,.data⟩ (by simp) rfl _ rfl
      refine Zaf (by intro c h;cases h) (by intro c h;cases h) (v:=.int .i64 ((x + bits:Nat):Int)) (w':=A.drew) (by simp [execOp,e43,e45,eqgA,addI,hw1]) ⟨_,rfl,?_,fun j u hu hV _=>⟨hV,trivial,trivial⟩,rfl⟩
      rw [if_neg]
      intro he;have:=hdes 11 (by kernel_rfl);rw [getD_set_ne (by decide)] at he;rw [this] at he;cases he
     ·rw [hdes 11 (by kernel_rfl)] at hR
      simp only [Bool.false_eq_true,if_false] at hR
      subst hR
      have e37:a1.eval (.tmp 37) = .int .i64 (acc:Nat):=hdep ⟨0,.data⟩ (by simp) rfl _ rfl
      have e46:a1.eval (.tmp 46) = .int .i64 ((x + bits:Nat):Int):=hdep ⟨9,.data⟩ (by simp) rfl _ rfl
      refine Zaf (by intro c h;cases h) (by intro c h;cases h) (v:=.int .i64 ((acc + (x + bits):Nat):Int)) (w':=A.drew) (by simp [execOp,e37,e46,eqgA,addI,hw2]) ⟨_,rfl,?_,fun j u hu hV _=>⟨hV,trivial,trivial⟩,rfl⟩
      rw [if_neg]
      intro he;have:=hdes 11 (by kernel_rfl);rw [getD_set_ne (by decide)] at he;rw [this] at he;cases he
     ·rw [hunf] at hR
      simp only [Bool.false_eq_true,if_false] at hR
      subst hR
      have f8:a1.eval (.tmp 8) = .pointer (some ⟨w.heap.size + 1 + 1 + 1 + 1,0,none⟩):=hout 8 (by decide)
      have e47:a1.eval (.tmp 47) = .int .i64 ((acc + (x + bits):Nat):Int):=hdep ⟨10,.data⟩ (by simp) rfl _ rfl
      refine Zeg (by intro c h;cases h) (by intro c h;cases h) (w':=A.drew.setCell ⟨w.heap.size + 1 + 1 + 1 + 1,0,none⟩ (.int .i64 ((acc + (x + bits):Nat):Int))) (by simp only [execOp,f8,e47];simp [stInt _ _ _ _ c4 d4]) ⟨undef,rfl,?_,fun j u hu hV _=>⟨hV,trivial,trivial⟩,trivial⟩
      rw [if_pos (Zad hil)]
    ·intro listed f w1 hR hall hV
     rw [if_pos (hall 11 (by decide))] at hR
     subst hR
     simp only [spread,List.contains_cons,List.contains_nil,Nat.reduceBEq,Bool.or_false,Bool.or_true,cond_true,cond_false,Nat.reduceAdd,Nat.zero_add]
     gi_wp2
     exact Zpq HI.out _ _ HS.out H4.out (by have:=HN.out;rw [HV.out] at this;exact this) (by omega)
  | true =>
   by_cases he:err = 0
   case neg =>
    have b0:((err:Int) != 0) = true:=by simp;omega
    have HN:=Zh (ST1.out (.inl he))
    clear he
    gi_wp2
    exact Zhc HI.out _ HN.out
   subst he
   by_cases hs:sym < o.length
   case neg =>
    have HN:=Zh (ST1.out (.inr (by show (if true then o else f).getD sym 0 = 0;simp [List.getElem?_eq_none (Nat.le_of_not_lt hs)])))
    have b1:decide (o.length <= sym) = true:=by simp;omega
    clear hs
    gi_wp2
    exact Zhc HI.out _ HN.out
   have b1:decide (o.length <= sym) = false:=by simp;omega
   obtain ⟨b,off,rfl,hb,hck⟩:=r2.at hs
   have hx:o.getD sym 0 = o[sym]:=by simp [hs]
   have hxl:=HO.out _ (List.getElem_mem hs)
   by_cases hz:o[sym] = 0
   ·have HN:=Zh (ST1.out (.inr (by show (if true then o else f).getD sym 0 = 0;simp [hs,hz])))
    rw [hz] at hck
    clear hz hx hxl
    gi_wp2
    exact Zhc HI.out _ HN.out
   ·have HN:=Zh (ST2.out rfl (by show (if true then o else f).getD sym 0 ≠ 0;simpa [hs] using hz))
    have HV:Hid (lensOf f o ⟨true,sym,bits,0⟩ = o[sym]):=by show (if true then o else f).getD sym 0 = _;simp [hs]
    have b2:((o[sym]:Int) == 0) = false:=by simp;omega
    clear hz hx
    generalize o[sym] = x at *
    gi_wp2
    have hw1:IntKind.i64.wrap ((x:Int) + (bits:Int)) = ((x + bits:Nat):Int):=by rw [IntWalk.i64_in _ (by omega)];simp
    have hw2:IntKind.i64.wrap ((acc:Int) + ((x:Int) + (bits:Int))) = (acc:Int) + ((x:Int) + (bits:Int)):=IntWalk.i64_in _ (by omega)
    have c4:A.drew.cell? ⟨w.heap.size + 1 + 1 + 1 + 1,0,none⟩ = some (.int .i64 (acc:Nat)):=k4
    have d4:A.drew.frozen? ⟨w.heap.size + 1 + 1 + 1 + 1,0,none⟩ = false:=z4
    replace g1:A.drew.cell? ⟨g,1,none⟩ = some (.int .i64 (sym:Nat)):=g1
    replace g2:A.drew.cell? ⟨g,2,none⟩ = some (.int .i64 (bits:Nat)):=g2
    replace hck:A.drew.cell? ⟨b,off + sym,none⟩ = some (.int .u8 (x:Nat)):=hck
    refine Zar [37,38,39,40,41,42,43,44,45,46,47] (fun _=>false) (fun listed w1=>w1 = if listed.getD 11 false = true then A.drew.setCell ⟨w.heap.size + 1 + 1 + 1 + 1,0,none⟩ (.int .i64 ((acc + (x + bits):Nat):Int)) else A.drew) (fun j v _=>match j with | 0=>v = .int .i64 (acc:Nat) | 1=>v = .slice (some ⟨b,off,none⟩) o.length c2 | 2=>v = .pointer (some ⟨g,1,none⟩) | 3=>v = .int .i64 (sym:Nat) | 4=>v = .pointer (some ⟨b,off + sym,none⟩) | 5=>v = .int .u8 (x:Nat) | 6=>v = .int .i64 (x:Nat) | 7=>v = .pointer (some ⟨g,2,none⟩) | 8=>v = .int .i64 (bits:Nat) | 9=>v = .int .i64 ((x + bits:Nat):Int) | 10=>v = .int .i64 ((acc + (x + bits):Nat):Int) | _=>True) (fun _ _ _ _=>True) (by kernel_rfl) (by kernel_rfl) (OneEach.mk' (by kernel_rfl) (by kernel_rfl)) (by kernel_rfl) (by kernel_rfl) (by simp) ?_ ?_
    ·intro i0 o hi0 listed a1 w1 hR hil hunf hdes hanc hout hdep
     have hsz:i0 < 12:=(Array.getElem?_eq_some_iff.1 hi0).1
     have hall:i0 = 0 \/ i0 = 1 \/ i0 = 2 \/ i0 = 3 \/ i0 = 4 \/ i0 = 5 \/ i0 = 6 \/ i0 = 7 \/ i0 = 8 \/ i0 = 9 \/ i0 = 10 \/ i0 = 11:=by omega
     clear hsz
     rcases hall with rfl | rfl | rfl | rfl | rfl | rfl | rfl | rfl | rfl | rfl | rfl | rfl <;> simp only [List.getElem?_toArray,List.getElem?_cons_zero,List.getElem?_cons_succ,Option.some.injEq] at hi0 <;> subst hi0
     ·rw [hdes 11 (by kernel_rfl)] at hR
      simp only [Bool.false_eq_true,if_false] at hR
      subst hR
      have f8:a1.eval (.tmp 8) = .pointer (some ⟨w.heap.size + 1 + 1 + 1 + 1,0,none⟩):=hout 8 (by decide)
      refine Zaf (by intro c h;cases h) (by intro c h;cases h) (v:=.int .i64 (acc:Nat)) (w':=A.drew) (by simp [execOp,f8,ldInt _ _ _ c4]) ⟨_,rfl,?_,fun j u hu hV _=>⟨hV,trivial,trivial⟩,rfl⟩
      rw [if_neg]
      intro he;have:=hdes 11 (by kernel_rfl);rw [getD_set_ne (by decide)] at he;rw [this] at he;cases he
     ·rw [hdes 11 (by kernel_rfl)] at hR
      simp only [Bool.false_eq_true,if_false] at hR
      subst hR
      have f11:a1.eval (.tmp 11) = .slice (some ⟨b,off,none⟩) o.length c2:=hout 11 (by decide)
      refine Zaf (by intro c h;cases h) (by intro c h;cases h) (v:=.slice (some ⟨b,off,none⟩) o.length c2) (w':=A.drew) (by simp [execOp,f11]) ⟨_,rfl,?_,fun j u hu hV _=>⟨hV,trivial,trivial⟩,rfl⟩
      rw [if_neg]
      intro he;have:=hdes 11 (by kernel_rfl);rw [getD_set_ne (by decide)] at he;rw [this] at he;cases he
     ·rw [hdes 11 (by kernel_rfl)] at hR
      simp only [Bool.false_eq_true,if_false] at hR
      subst hR
      have f9:a1.eval (.tmp 9) = .pointer (some ⟨g,0,none⟩):=hout 9 (by decide)
      refine Zaf (by intro c h;cases h) (by intro c h;cases h) (v:=.pointer (some ⟨g,1,none⟩)) (w':=A.drew) (by simp [execOp,f9,fldU1]) ⟨_,rfl,?_,fun j u hu hV _=>⟨hV,trivial,trivial⟩,rfl⟩
      rw [if_neg]
      intro he;have:=hdes 11 (by kernel_rfl);rw [getD_set_ne (by decide)] at he;rw [this] at he;cases he
     ·rw [hdes 11 (by kernel_rfl)] at hR
      simp only [Bool.false_eq_true,if_false] at hR
      subst hR
      have e39:a1.eval (.tmp 39) = .pointer (some ⟨g,1,none⟩):=hdep ⟨2,.data⟩ (by simp) rfl _ rfl
      refine Zaf (by intro c h;cases h) (by intro c h;cases h) (v:=.int .i64 (sym:Nat)) (w':=A.drew) (by simp [execOp,e39,ldInt _ _ _ g1]) ⟨_,rfl,?_,fun j u hu hV _=>⟨hV,trivial,trivial⟩,rfl⟩
      rw [if_neg]
      intro he;have:=hdes 11 (by kernel_rfl);rw [getD_set_ne (by decide)] at he;rw [this] at he;cases he
     ·rw [hdes 11 (by kernel_rfl)] at hR
      simp only [Bool.false_eq_true,if_false] at hR
      subst hR
      have e38:a1.eval (.tmp 38) = .slice (some ⟨b,off,none⟩) o.length c2:=hdep ⟨1,.data⟩ (by simp) rfl _ rfl
      have e40:a1.eval (.tmp 40) = .int .i64 (sym:Nat):=hdep ⟨3,.data⟩ (by simp) rfl _ rfl
      refine Zaf (by intro c h;cases h) (by intro c h;cases h) (v:=.pointer (some ⟨b,off + sym,none⟩)) (w':=A.drew) (by simp [execOp,e38,e40,ixU8 b off sym _ _ hs]) ⟨_,rfl,?_,fun j u hu hV _=>⟨hV,trivial,trivial⟩,rfl⟩
      rw [if_neg]
      intro he;have:=hdes 11 (by kernel_rfl);rw [getD_set_ne (by decide)] at he;rw [this] at he;cases he
     ·rw [hdes 11 (by kernel_rfl)] at hR
      simp only [Bool.false_eq_true,if_false] at hR
      subst hR
      have e41:a1.eval (.tmp 41) = .pointer (some ⟨b,off + sym,none⟩):=hdep ⟨4,.data⟩ (by simp) rfl _ rfl
      refine Zaf (by intro c h;cases h) (by intro c h;cases h) (v:=.int .u8 (x:Nat)) (w':=A.drew) (by simp [execOp,e41,ldU8 _ _ _ hck]) ⟨_,rfl,?_,fun j u hu hV _=>⟨hV,trivial,trivial⟩,rfl⟩
      rw [if_neg]
      intro he;have:=hdes 11 (by kernel_rfl);rw [getD_set_ne (by decide)] at he;rw [this] at he;cases he
     ·rw [hdes 11 (by kernel_rfl)] at hR
      simp only [Bool.false_eq_true,if_false] at hR
      subst hR
      have e42:a1.eval (.tmp 42) = .int .u8 (x:Nat):=hdep ⟨5,.data⟩ (by simp) rfl _ rfl
      refine Zaf (by intro c h;cases h) (by intro c h;cases h) (v:=.int .i64 (x:Nat)) (w':=A.drew) (by simp [execOp,e42,cvU8 x hxl]) ⟨_,rfl,?_,fun j u hu hV _=>⟨hV,trivial,trivial⟩,rfl⟩
      rw [if_neg]
      intro he;have:=hdes 11 (by kernel_rfl);rw [getD_set_ne (by decide)] at he;rw [this] at he;cases he
     ·rw [hdes 11 (by kernel_rfl)] at hR
      simp only [Bool.false_eq_true,if_false] at hR
      subst hR
      have f9:a1.eval (.tmp 9) = .pointer (some ⟨g,0,none⟩):=hout 9 (by decide)
      refine Zaf (by intro c h;cases h) (by intro c h;cases h) (v:=.pointer (some ⟨g,2,none⟩)) (w':=A.drew) (by simp [execOp,f9,fldU2]) ⟨_,rfl,?_,fun j u hu hV _=>⟨hV,trivial,trivial⟩,rfl⟩
      rw [if_neg]
      intro he;have:=hdes 11 (by kernel_rfl);rw [getD_set_ne (by decide)] at he;rw [this] at he;cases he
     ·rw [hdes 11 (by kernel_rfl)] at hR
      simp only [Bool.false_eq_true,if_false] at hR
      subst hR
      have e44:a1.eval (.tmp 44) = .pointer (some ⟨g,2,none⟩):=hdep ⟨7,.data⟩ (by simp) rfl _ rfl
      refine Zaf (by intro c h;cases h) (by intro c h;cases h) (v:=.int .i64 (bits:Nat)) (w':=A.drew) (by simp [execOp,e44,ldInt _ _ _ g2]) ⟨_,rfl,?_,fun j u hu hV _=>⟨hV,trivial,trivial⟩,rfl⟩
      rw [if_neg]
      intro he;have:=hdes 11 (by kernel_rfl);rw [getD_set_ne (by decide)] at he;rw [this] at he;cases he
     ·rw [hdes 11 (by kernel_rfl)] at hR
      simp only [Bool.false_eq_true,if_false] at hR
      subst hR
      have e43:a1.eval (.tmp 43) = .int .i64 (x:Nat):=hdep ⟨6,.data⟩ (by simp) rfl _ rfl
      have e45:a1.eval (.tmp 45) = .int .i64 (bits:Nat):=hdep ⟨8,.data⟩ (by simp) rfl _ rfl
      refine Zaf (by intro c h;cases h) (by intro c h;cases h) (v:=.int .i64 ((x + bits:Nat):Int)) (w':=A.drew) (by simp [execOp,e43,e45,eqgA,addI,hw1]) ⟨_,rfl,?_,fun j u hu hV _=>⟨hV,trivial,trivial⟩,rfl⟩
      rw [if_neg]
      intro he;have:=hdes 11 (by kernel_rfl);rw [getD_set_ne (by decide)] at he;rw [this] at he;cases he
     ·rw [hdes 11 (by kernel_rfl)] at hR
      simp only [Bool.false_eq_true,if_false] at hR
      subst hR
      have e37:a1.eval (.tmp 37) = .int .i64 (acc:Nat):=hdep ⟨0,.data⟩ (by simp) rfl _ rfl
      have e46:a1.eval (.tmp 46) = .int .i64 ((x + bits:Nat):Int):=hdep ⟨9,.data⟩ (by simp) rfl _ rfl
      refine Zaf (by intro c h;cases h) (by intro c h;cases h) (v:=.int .i64 ((acc + (x + bits):Nat):Int)) (w':=A.drew) (by simp [execOp,e37,e46,eqgA,addI,hw2]) ⟨_,rfl,?_,fun j u hu hV _=>⟨hV,trivial,trivial⟩,rfl⟩
      rw [if_neg]
      intro he;have:=hdes 11 (by kernel_rfl);rw [getD_set_ne (by decide)] at he;rw [this] at he;cases he
     ·rw [hunf] at hR
      simp only [Bool.false_eq_true,if_false] at hR
      subst hR
      have f8:a1.eval (.tmp 8) = .pointer (some ⟨w.heap.size + 1 + 1 + 1 + 1,0,none⟩):=hout 8 (by decide)
      have e47:a1.eval (.tmp 47) = .int .i64 ((acc + (x + bits):Nat):Int):=hdep ⟨10,.data⟩ (by simp) rfl _ rfl
      refine Zeg (by intro c h;cases h) (by intro c h;cases h) (w':=A.drew.setCell ⟨w.heap.size + 1 + 1 + 1 + 1,0,none⟩ (.int .i64 ((acc + (x + bits):Nat):Int))) (by simp only [execOp,f8,e47];simp [stInt _ _ _ _ c4 d4]) ⟨undef,rfl,?_,fun j u hu hV _=>⟨hV,trivial,trivial⟩,trivial⟩
      rw [if_pos (Zad hil)]
    ·intro listed f w1 hR hall hV
     rw [if_pos (hall 11 (by decide))] at hR
     subst hR
     simp only [spread,List.contains_cons,List.contains_nil,Nat.reduceBEq,Bool.or_false,Bool.or_true,cond_true,cond_false,Nat.reduceAdd,Nat.zero_add]
     gi_wp2
     exact Zpq HI.out _ _ HS.out H4.out (by have:=HN.out;rw [HV.out] at this;exact this) (by omega)
 case done =>
  rintro A ⟨b0,b1,b2,b3,⟨acc,b4,hs,hle⟩,hbA⟩ hD
  have k2:=cell_of_one b2
  have z2:=free_of_one b2
  have k3:=cell_of_one b3
  have z3:=free_of_one b3
  have k4:=cell_of_one b4
  have hS:Hid (symOut f o l = (acc,0)):=by
   unfold Hid symOut
   rw [List.take_length] at hs
   rw [hs]
  have B2:=Zh b2
  have B3:=Zh b3
  have HB:=Zh hbA
  have HD:=Zh hD
  clear b0 b1 b2 b3 b4 hs hbA hD
  gi_wp2
  have H2':((A.setCell ⟨w.heap.size + 1 + 1,0,none⟩ (.int .i64 (acc:Nat))).setCell ⟨w.heap.size + 1 + 1 + 1,0,none⟩ (.int .i64 0)).heap[w.heap.size + 1 + 1]? = some (.cells #[.int .i64 (acc:Nat)] 3):=(Below.heap_setCell _ _ _ _ (by show w.heap.size + 1 + 1 ≠ w.heap.size + 1 + 1 + 1;omega)).trans (one_setCell B2.out)
  have H3':((A.setCell ⟨w.heap.size + 1 + 1,0,none⟩ (.int .i64 (acc:Nat))).setCell ⟨w.heap.size + 1 + 1 + 1,0,none⟩ (.int .i64 0)).heap[w.heap.size + 1 + 1 + 1]? = some (.cells #[.int .i64 0] 25):=one_setCell ((Below.heap_setCell _ _ _ _ (by show w.heap.size + 1 + 1 + 1 ≠ w.heap.size + 1 + 1;omega)).trans B3.out)
  have HD':((A.setCell ⟨w.heap.size + 1 + 1,0,none⟩ (.int .i64 (acc:Nat))).setCell ⟨w.heap.size + 1 + 1 + 1,0,none⟩ (.int .i64 0)).heap[W0.heap.size]? = some (.deferred (some [])):=(Below.heap_setCell _ _ _ _ (by show W0.heap.size ≠ w.heap.size + 1 + 1 + 1;omega)).trans ((Below.heap_setCell _ _ _ _ (by show W0.heap.size ≠ w.heap.size + 1 + 1;omega)).trans HD.out)
  have q2:=(World.putObj_heap_other (w:=((A.setCell ⟨w.heap.size + 1 + 1,0,none⟩ (.int .i64 (acc:Nat))).setCell ⟨w.heap.size + 1 + 1 + 1,0,none⟩ (.int .i64 0))) (o:=.deferred none) (by omega:w.heap.size + 1 + 1 ≠ W0.heap.size)).trans H2'
  have q3:=(World.putObj_heap_other (w:=((A.setCell ⟨w.heap.size + 1 + 1,0,none⟩ (.int .i64 (acc:Nat))).setCell ⟨w.heap.size + 1 + 1 + 1,0,none⟩ (.int .i64 0))) (o:=.deferred none) (by omega:w.heap.size + 1 + 1 + 1 ≠ W0.heap.size)).trans H3'
  have s2:=cell_of_one q2
  have s3:=cell_of_one q3
  refine ⟨by simp,.inl ⟨_,_,rfl,run_takeDeferred HD',?_⟩⟩
  refine ⟨.tuple #[.int .i64 (acc:Nat),.int .i64 0],by simp [results,Tryz.results37,s2,s3,go_sem],by rw [hS.out];rfl,?_⟩
  exact Below.put ((HB.out.setCell (by show w.heap.size <= w.heap.size + 1 + 1;omega) _).setCell (by show w.heap.size <= w.heap.size + 1 + 1 + 1;omega) _) (Nat.le_refl _) HD' (by omega) _
 case stop =>
  rintro c i A hi ⟨rfl,hn,b2,b3,hbA⟩ hD
  have hS:Hid (symOut f o l = (0,5)):=by
   unfold Hid symOut
   rw [hn]
  gi_wp2
  have q2:=(World.putObj_heap_other (w:=A) (o:=.deferred none) (by omega:w.heap.size + 1 + 1 ≠ W0.heap.size)).trans b2
  have q3:=(World.putObj_heap_other (w:=A) (o:=.deferred none) (by omega:w.heap.size + 1 + 1 + 1 ≠ W0.heap.size)).trans b3
  have s2:=cell_of_one q2
  have s3:=cell_of_one q3
  refine ⟨by simp,.inl ⟨_,_,rfl,run_takeDeferred hD,?_⟩⟩
  refine ⟨.tuple #[.int .i64 0,.int .i64 5],by simp [results,Tryz.results37,s2,s3,go_sem],by rw [hS.out];rfl,?_⟩
  exact Below.put hbA (Nat.le_refl _) hD (by omega) _
end Go.Proofs.YtendielanacflaaGreat
