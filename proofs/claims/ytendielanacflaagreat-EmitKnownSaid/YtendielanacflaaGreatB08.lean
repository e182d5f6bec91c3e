/- layer 5: the library's merge of two sorted parts of a row: contract. Printed by gen/sym.py. -/
import Derived.Test.YtendielanacflaaGreatB01
import Derived.Test.YtendielanacflaaGreatB07
set_option linter.unusedVariables false
set_option linter.unusedSimpArgs false
namespace Go.Proofs.YtendielanacflaaGreat
open Go.RowKit Go.Shelf M04 M05
attribute [local go_sem] Oper.semAt_some
theorem Zft (s h:Nat) (hs:s < 9000000000000000000) (hh:s / 2 = h):(s:Int) / 2 = (h:Int):=by omega
theorem u64_in (s:Nat) (hs:s < 18446744073709551616):IntKind.u64.wrap (s:Int) = (s:Int):=IntWalk.u64_in _ (by omega)
set_option maxRecDepth 100000 in
set_option maxHeartbeats 12800000 in
theorem Zaag (A0:World) (g base cap p n:Nat) (fa:Option Addr) (fc:Nat) (f:List Nat) (hp:p < base) (hfa:∀ x,0 < f.length -> fa = some x -> x.block < base) (hn:n <= 600) :
  ∀ (N:Nat) (A:World) (P L R Q:List Nat),L.length + R.length <= N -> 0 < L.length -> 0 < R.length -> SrtI A0 g base cap p fa fc f n (P ++ (L ++ (R ++ Q))) A -> Lex f L -> Lex f R -> (∀ x ∈ L,∀ y ∈ R,x < y) →
   Calls Tryz.prog 156 #[.slice (some ⟨g,0,none⟩) n cap,.int .i64 (P.length:Nat),.int .i64 ((P.length + L.length:Nat):Int),.int .i64 ((P.length + L.length + R.length:Nat):Int),.func (.func 119) #[] #[.pointer (some ⟨p,0,none⟩)]] A fun e w' =>
    e = .returned (.tuple #[]) /\ ∃ M,M.Perm (L ++ R) /\ Lex f M /\ SrtI A0 g base cap p fa fc f n (P ++ (M ++ Q)) w':=by
 intro N
 induction N with
 | zero=>intro A P L R Q h1 h2 h3;omega
 | succ N ih =>
  intro A P L R Q hN hL0 hR0 hI hLx hRx hcr
  have IH:=Zh ih
  clear ih
  have hlen:=hI.len
  simp only [List.length_append] at hlen
  obtain ⟨a,ha⟩:∃ a,P.length = a:=⟨_,rfl⟩
  obtain ⟨m,hm⟩:∃ m,a + L.length = m:=⟨_,rfl⟩
  obtain ⟨b,hb⟩:∃ b,m + R.length = b:=⟨_,rfl⟩
  rw [ha,hm,hb]
  have hbn:b <= n:=by omega
  have HSW:=Zh (fun D A' i j (h:SrtI A0 g base cap p fa fc f n D A') (hi:i < n) (hj:j < n)=>h.sw2 hp hfa hi hj)
  by_cases hL1:L.length = 1
  ·obtain ⟨x0,rfl⟩:=List.length_eq_one_iff.1 hL1
   have q0:(m:Int) - (a:Int) = 1:=by omega
   obtain ⟨D,hDe⟩:∃ D,P ++ ([x0] ++ (R ++ Q)) = D:=⟨_,rfl⟩
   rw [hDe] at hI
   have HINS:=Zh (fun e (he1:m <= e) (he2:e <= b) (h1:e = b \/ ¬ fLt f (D.getD e 0) (D.getD a 0)) (h2:e = m \/ fLt f (D.getD (e - 1) 0) (D.getD a 0))=>(by
    have:=Zacl f P R Q x0 e hRx (fun y hy=>hcr x0 (by simp) y hy) (by omega) (by omega) (by rw [hDe,ha];rcases h1 with h | h;exact .inl (by omega);exact .inr h) (by rw [hDe,ha];rcases h2 with h | h;exact .inl (by omega);exact .inr h)
    rw [ha] at this;exact this:(R.take (e - (a + 1)) ++ x0 :: R.drop (e - (a + 1))).Perm ([x0] ++ R) /\ Lex f (R.take (e - (a + 1)) ++ x0 :: R.drop (e - (a + 1)))))
   have HDE:=Zh hDe
   have HI:=Zh hI
   have HPA:=Zh ha
   have HRB:=Zh hb
   have HMA:=Zh (show m = a + 1 by omega)
   have ham:a < m:=by omega
   have hmb:m <= b:=by omega
   clear hLx hRx hcr hDe hI hN hL0 hR0 hL1 hm ha hb IH hlen
   go_enter Tryz.func156,Tryz.ntmps156
   go_wp2
   go_loopw [10,11,12] (fun u v _ A'=>∃ i j,u = .int .i64 (i:Nat) /\ v = .int .i64 (j:Nat) /\ m <= i /\ i <= j /\ j <= b /\ (i = m \/ fLt f (D.getD (i - 1) 0) (D.getD a 0)) /\ (j = b \/ ¬ fLt f (D.getD j 0) (D.getD a 0)) /\ SrtI A0 g base cap p fa fc f n D A') (fun u v _ _=>(intOf v).toNat - (intOf u).toNat)
   case atStart=>exact ⟨m,b,rfl,rfl,Nat.le_refl _,by have:=HRB.out;omega,Nat.le_refl _,.inl rfl,.inl rfl,HI.out⟩
   case round =>
    clear HI
    obtain ⟨i,j,rfl,rfl,h1,h2,h3,h4,h5,hs⟩:=hrel
    by_cases hij:i < j
    ·have HS:=Zh hs
     have b1:decide (i < j) = true:=by simp;omega
     obtain ⟨s,hse⟩:∃ s,i + j = s:=⟨_,rfl⟩
     obtain ⟨h,hhe⟩:∃ h,s / 2 = h:=⟨_,rfl⟩
     have qs:(i:Int) + (j:Int) = (s:Int):=by omega
     have qsw:IntKind.i64.wrap (s:Int) = (s:Int):=IntWalk.i64_in _ (by omega)
     have qsu:IntKind.u64.wrap (s:Int) = (s:Int):=u64_in s (by omega)
     have qh:(s:Int) / 2 = (h:Int):=Zft s h (by omega) hhe
     have qhu:IntKind.u64.wrap (h:Int) = (h:Int):=u64_in h (by omega)
     have qhw:IntKind.i64.wrap (h:Int) = (h:Int):=IntWalk.i64_in _ (by omega)
     have hih:i <= h:=by omega
     have hhj:h < j:=by omega
     obtain ⟨hcx,_⟩:=hs.at (i:=h) (by omega)
     obtain ⟨hcy,_⟩:=hs.at (i:=a) (by omega)
     have HCMP:=Zh (fun q=>hs.cmp (i:=h) (j:=a) (by omega) (by omega) q)
     have hlt:=Zls (f.getD (D.getD (h) 0) 0) (f.getD (D.getD (a) 0) 0)
     obtain ⟨xx,hxx⟩:∃ xx,D.getD (h) 0 = xx:=⟨_,rfl⟩
     obtain ⟨xy,hxy⟩:∃ xy,D.getD (a) 0 = xy:=⟨_,rfl⟩
     rw [hxx] at hcx HCMP hlt
     rw [hxy] at hcy HCMP hlt
     obtain ⟨cm,hcm⟩:∃ cm,cmpN (f.getD xx 0) (f.getD xy 0) = cm:=⟨_,rfl⟩
     rw [hcm] at HCMP hlt
     have HXX:=Zh hxx
     have HXY:=Zh hxy
     have H4:=Zh h4
     have H5:=Zh h5
     clear hcm hxx hxy h4 h5 hs hse hhe
     by_cases hc:f.getD xx 0 < f.getD xy 0
     ·have b3:decide (cm < 0) = true:=by rw [hlt];exact decide_eq_true hc
      have HCC:=Zh hc
      clear hlt hc
      go_wp2_with fail
      go_quiet ((go_at_call 119;exact (HCMP.out _)))
      go_wp2
      go_roundw
      case rel=>exact ⟨h + 1,j,by go_num,rfl,by omega,by omega,h3,.inr (by rw [Nat.add_sub_cancel,HXX.out,HXY.out];exact HCC.out),H5.out,HS.out.drewN _⟩
      case measure=>simp [intOf];omega
     ·have b3:decide (cm < 0) = false:=by rw [hlt];exact decide_eq_false hc
      have HCC:=Zh hc
      clear hlt hc
      go_wp2_with fail
      go_quiet ((go_at_call 119;exact (HCMP.out _)))
      go_wp2
      go_roundw
      case rel=>exact ⟨i,h,rfl,rfl,h1,hih,by omega,H4.out,.inr (by rw [HXX.out,HXY.out];exact HCC.out),HS.out.drewN _⟩
      case measure=>simp [intOf];omega
    ·have b1:decide (i < j) = false:=by simp;omega
     obtain rfl:i = j:=by omega
     have HINS2:=Zh (HINS.out i h1 h3 h5 h4)
     obtain ⟨i1,hi1⟩:∃ i1,i - 1 = i1:=⟨_,rfl⟩
     have qi1:(i:Int) - 1 = (i1:Int):=by omega
     have hi1a:i1 = a + (i - (a + 1)):=by have:=HMA.out;omega
     have hRl:i - (a + 1) <= R.length:=by have:=HRB.out;have:=HMA.out;omega
     obtain ⟨r,hr⟩:∃ r,i - (a + 1) = r:=⟨_,rfl⟩
     rw [hr] at HINS2 hi1a hRl
     have hib:i1 < n:=by omega
     have HIA:=Zh hi1a
     have HST:=Zh (show SrtI A0 g base cap p fa fc f n (P ++ (R.take 0 ++ x0 :: (R.drop 0 ++ Q))) wr from by have:=hs;rw [<- HDE.out] at this;exact this)
     clear hs hr hi1 h4 h5 HINS hij hi1a
     go_wp2
     go_loopw [13] (fun u A'=>∃ k t,u = .int .i64 (k:Nat) /\ k = a + t /\ t <= r /\ SrtI A0 g base cap p fa fc f n (P ++ (R.take t ++ x0 :: (R.drop t ++ Q))) A') (fun u _=>i1 - (intOf u).toNat)
     case atStart=>exact ⟨a,0,rfl,rfl,Nat.zero_le _,HST.out⟩
     case round =>
      clear HST
      obtain ⟨x,t,rfl,hxt,htr,hs⟩:=hrel
      have hi1a:=HIA.out
      by_cases hk:x < i1
      ·have b2:decide (x < i1) = true:=by simp;omega
       have htR:t < R.length:=by omega
       obtain ⟨y,hy⟩:∃ y,x + 1 = y:=⟨_,rfl⟩
       have qk:(x:Int) + 1 = (y:Int):=by omega
       have qwk:IntKind.i64.wrap (y:Int) = (y:Int):=IntWalk.i64_in _ (by omega)
       have hxn:x < n:=by omega
       have hyn:y < n:=by omega
       have hsw:sw2 (P ++ (R.take t ++ x0 :: (R.drop t ++ Q))) x y = P ++ (R.take (t + 1) ++ x0 :: (R.drop (t + 1) ++ Q)):=by
        have h:=Zaio P (R.take t) (R.drop (t + 1) ++ Q) x0 R[t]
        have hl:(R.take t).length = t:=by rw [List.length_take];omega
        rw [hl,HPA.out,<- hxt,hy] at h
        rw [Zma htR,List.cons_append,h,List.take_succ_eq_append_getElem htR]
       obtain ⟨D',hD'⟩:∃ D',P ++ (R.take t ++ x0 :: (R.drop t ++ Q)) = D':=⟨_,rfl⟩
       rw [hD'] at hs hsw
       have HREL:=Zh (fun w' (h:SrtI A0 g base cap p fa fc f n (sw2 D' x y) w')=>(⟨y,t + 1,rfl,by omega,by omega,by rw [hsw] at h;exact h⟩:∃ k t',Value.int .i64 (y:Nat) = .int .i64 (k:Nat) /\ k = a + t' /\ t' <= r /\ SrtI A0 g base cap p fa fc f n (P ++ (R.take t' ++ x0 :: (R.drop t' ++ Q))) w'))
       clear hsw hD' hxt hy hi1a
       have HS:=Zh hs
       obtain ⟨W0,hW0⟩:∃ W0,wr.drew = W0:=⟨_,rfl⟩
       have hs1:SrtI A0 g base cap p fa fc f n D' W0:=by rw [<- hW0];exact HS.out.drewN 1
       obtain ⟨kv,hk1,hk2⟩:=hs1.kept hxn hyn (D'.getD y 0)
       have hend:=HSW.out D' W0 x y hs1 hxn hyn
       obtain ⟨hcu,hfu⟩:=hs1.at hxn
       obtain ⟨hcv,_⟩:=hs1.at hyn
       generalize hxu:D'.getD x 0 = xu at *
       generalize hxv:D'.getD y 0 = xv at *
       have HW0:=Zh hW0
       obtain ⟨W1,hW1⟩:∃ W1,W0.setCell ⟨g,x,none⟩ (.int .i64 (xv:Nat)) = W1:=⟨_,rfl⟩
       rw [hW1] at hk1 hk2 hend
       have HW1:=Zh hW1
       obtain ⟨W2,hW2⟩:∃ W2,W1.setCell ⟨g,y,none⟩ (.int .i64 (xu:Nat)) = W2:=⟨_,rfl⟩
       rw [hW2] at hend
       have HW2:=Zh hW2
       have HCU:=Zh hcu
       have HCV:=Zh hcv
       have HF1:=Zh hfu
       have HCK:=Zh hk1
       have HF2:=Zh hk2
       have HEND:=Zh hend
       clear hk1 hk2 hend hcu hcv hfu hW0 hW1 hW2 hs1 hxu hxv hs
       go_wp2_with fail
       refine Zao [61,62,63,64,65,66,67,68,69,70,71,72,73,74,75,76] (fun j=>false) (fun listed w1=>w1 = Ph2 W0 W1 W2 (listed.getD 15 false) (listed.getD 17 false)) (fun j v _=>match j with | 0=>v = .slice (some ⟨g,0,none⟩) n cap | 1=>v = .int .i64 (x:Nat) | 2=>v = .slice (some ⟨g,0,none⟩) n cap | 3=>v = .int .i64 (x:Nat) | 4=>v = .int .i64 (y:Nat) | 5=>v = .slice (some ⟨g,0,none⟩) n cap | 6=>v = .int .i64 (x:Nat) | 7=>v = .int .i64 (y:Nat) | 8=>v = .pointer (some ⟨g,y,none⟩) | 9=>v = .int .i64 (xv:Nat) | 10=>v = .slice (some ⟨g,0,none⟩) n cap | 11=>v = .int .i64 (x:Nat) | 12=>v = .pointer (some ⟨g,x,none⟩) | 13=>v = .int .i64 (xu:Nat) | 14=>v = .pointer (some ⟨g,x,none⟩) | 16=>v = .pointer (some ⟨g,y,none⟩) | _=>True) (fun _ _ _ _=>True) (by kernel_rfl) (by kernel_rfl) (OneEach.mk' (by kernel_rfl) (by kernel_rfl)) (by kernel_rfl) (by kernel_rfl) (by exact HW0.out) ?_ ?_
       ·intro i0 o hi0 listed a1 w1 hR hil hunf hdes hanc hout hdep
        have hsz:i0 < 18:=(Array.getElem?_eq_some_iff.1 hi0).1
        have hall:i0 = 0 \/ i0 = 1 \/ i0 = 2 \/ i0 = 3 \/ i0 = 4 \/ i0 = 5 \/ i0 = 6 \/ i0 = 7 \/ i0 = 8 \/ i0 = 9 \/ i0 = 10 \/ i0 = 11 \/ i0 = 12 \/ i0 = 13 \/ i0 = 14 \/ i0 = 15 \/ i0 = 16 \/ i0 = 17:=by omega
        clear hsz
        rcases hall with rfl | rfl | rfl | rfl | rfl | rfl | rfl | rfl | rfl | rfl | rfl | rfl | rfl | rfl | rfl | rfl | rfl | rfl <;> simp only [List.getElem?_toArray,List.getElem?_cons_zero,List.getElem?_cons_succ,Option.some.injEq] at hi0 <;> subst hi0
        ·have f0:a1.eval (.tmp 0) = .slice (some ⟨g,0,none⟩) n cap:=hout 0 (by decide)
         refine Zab (v:=.slice (some ⟨g,0,none⟩) n cap) (w':=w1) (by simp [execOp,f0]) ⟨_,rfl,?_,fun j u hu hV _=>⟨hV,trivial,trivial⟩,rfl⟩
         rw [Zaa (by decide),Zaa (by decide)];exact hR
        ·have f13:a1.eval (.tmp 13) = .int .i64 (x:Nat):=hout 13 (by decide)
         refine Zab (v:=.int .i64 (x:Nat)) (w':=w1) (by simp [execOp,f13]) ⟨_,rfl,?_,fun j u hu hV _=>⟨hV,trivial,trivial⟩,rfl⟩
         rw [Zaa (by decide),Zaa (by decide)];exact hR
        ·have f0:a1.eval (.tmp 0) = .slice (some ⟨g,0,none⟩) n cap:=hout 0 (by decide)
         refine Zab (v:=.slice (some ⟨g,0,none⟩) n cap) (w':=w1) (by simp [execOp,f0]) ⟨_,rfl,?_,fun j u hu hV _=>⟨hV,trivial,trivial⟩,rfl⟩
         rw [Zaa (by decide),Zaa (by decide)];exact hR
        ·have f13:a1.eval (.tmp 13) = .int .i64 (x:Nat):=hout 13 (by decide)
         refine Zab (v:=.int .i64 (x:Nat)) (w':=w1) (by simp [execOp,f13]) ⟨_,rfl,?_,fun j u hu hV _=>⟨hV,trivial,trivial⟩,rfl⟩
         rw [Zaa (by decide),Zaa (by decide)];exact hR
        ·have e64:a1.eval (.tmp 64) = .int .i64 (x:Nat):=hdep ⟨3,.data⟩ (by simp) rfl _ rfl
         refine Zab (v:=.int .i64 (y:Nat)) (w':=w1) (by simp [execOp,e64,evalC,eqgA,addI,qk,qwk]) ⟨_,rfl,?_,fun j u hu hV _=>⟨hV,trivial,trivial⟩,rfl⟩
         rw [Zaa (by decide),Zaa (by decide)];exact hR
        ·have f0:a1.eval (.tmp 0) = .slice (some ⟨g,0,none⟩) n cap:=hout 0 (by decide)
         refine Zab (v:=.slice (some ⟨g,0,none⟩) n cap) (w':=w1) (by simp [execOp,f0]) ⟨_,rfl,?_,fun j u hu hV _=>⟨hV,trivial,trivial⟩,rfl⟩
         rw [Zaa (by decide),Zaa (by decide)];exact hR
        ·have f13:a1.eval (.tmp 13) = .int .i64 (x:Nat):=hout 13 (by decide)
         refine Zab (v:=.int .i64 (x:Nat)) (w':=w1) (by simp [execOp,f13]) ⟨_,rfl,?_,fun j u hu hV _=>⟨hV,trivial,trivial⟩,rfl⟩
         rw [Zaa (by decide),Zaa (by decide)];exact hR
        ·have e67:a1.eval (.tmp 67) = .int .i64 (x:Nat):=hdep ⟨6,.data⟩ (by simp) rfl _ rfl
         refine Zab (v:=.int .i64 (y:Nat)) (w':=w1) (by simp [execOp,e67,evalC,eqgA,addI,qk,qwk]) ⟨_,rfl,?_,fun j u hu hV _=>⟨hV,trivial,trivial⟩,rfl⟩
         rw [Zaa (by decide),Zaa (by decide)];exact hR
        ·have e66:a1.eval (.tmp 66) = .slice (some ⟨g,0,none⟩) n cap:=hdep ⟨5,.data⟩ (by simp) rfl _ rfl
         have e68:a1.eval (.tmp 68) = .int .i64 (y:Nat):=hdep ⟨7,.data⟩ (by simp) rfl _ rfl
         refine Zab (v:=.pointer (some ⟨g,y,none⟩)) (w':=w1) (by simp [execOp,e66,e68,ixI g y n cap hyn]) ⟨_,rfl,?_,fun j u hu hV _=>⟨hV,trivial,trivial⟩,rfl⟩
         rw [Zaa (by decide),Zaa (by decide)];exact hR
        ·have e69:a1.eval (.tmp 69) = .pointer (some ⟨g,y,none⟩):=hdep ⟨8,.data⟩ (by simp) rfl _ rfl
         have x69:a1.tmps[69]?.getD undef = .pointer (some ⟨g,y,none⟩):=by simpa [Act.eval] using e69
         have hc:w1.cell? ⟨g,y,none⟩ = some (.int .i64 (xv:Nat)):=by
          rw [hdes 15 (by kernel_rfl),hdes 17 (by kernel_rfl)] at hR
          rw [hR];exact HCV.out
         refine Zab (v:=.int .i64 (xv:Nat)) (w':=w1) (by simp [execOp,e69,ldInt _ _ _ hc]) ⟨_,rfl,?_,fun j u hu hV _=>⟨hV,trivial,trivial⟩,rfl⟩
         rw [Zaa (by decide),Zaa (by decide)];exact hR
        ·have f0:a1.eval (.tmp 0) = .slice (some ⟨g,0,none⟩) n cap:=hout 0 (by decide)
         refine Zab (v:=.slice (some ⟨g,0,none⟩) n cap) (w':=w1) (by simp [execOp,f0]) ⟨_,rfl,?_,fun j u hu hV _=>⟨hV,trivial,trivial⟩,rfl⟩
         rw [Zaa (by decide),Zaa (by decide)];exact hR
        ·have f13:a1.eval (.tmp 13) = .int .i64 (x:Nat):=hout 13 (by decide)
         refine Zab (v:=.int .i64 (x:Nat)) (w':=w1) (by simp [execOp,f13]) ⟨_,rfl,?_,fun j u hu hV _=>⟨hV,trivial,trivial⟩,rfl⟩
         rw [Zaa (by decide),Zaa (by decide)];exact hR
        ·have e71:a1.eval (.tmp 71) = .slice (some ⟨g,0,none⟩) n cap:=hdep ⟨10,.data⟩ (by simp) rfl _ rfl
         have e72:a1.eval (.tmp 72) = .int .i64 (x:Nat):=hdep ⟨11,.data⟩ (by simp) rfl _ rfl
         refine Zab (v:=.pointer (some ⟨g,x,none⟩)) (w':=w1) (by simp [execOp,e71,e72,ixI g x n cap hxn]) ⟨_,rfl,?_,fun j u hu hV _=>⟨hV,trivial,trivial⟩,rfl⟩
         rw [Zaa (by decide),Zaa (by decide)];exact hR
        ·have e73:a1.eval (.tmp 73) = .pointer (some ⟨g,x,none⟩):=hdep ⟨12,.data⟩ (by simp) rfl _ rfl
         have x73:a1.tmps[73]?.getD undef = .pointer (some ⟨g,x,none⟩):=by simpa [Act.eval] using e73
         have hc:w1.cell? ⟨g,x,none⟩ = some (.int .i64 (xu:Nat)):=by
          rw [hdes 15 (by kernel_rfl),hdes 17 (by kernel_rfl)] at hR
          rw [hR];exact HCU.out
         refine Zab (v:=.int .i64 (xu:Nat)) (w':=w1) (by simp [execOp,e73,ldInt _ _ _ hc]) ⟨_,rfl,?_,fun j u hu hV _=>⟨hV,trivial,trivial⟩,rfl⟩
         rw [Zaa (by decide),Zaa (by decide)];exact hR
        ·have e61:a1.eval (.tmp 61) = .slice (some ⟨g,0,none⟩) n cap:=hdep ⟨0,.data⟩ (by simp) rfl _ rfl
         have e62:a1.eval (.tmp 62) = .int .i64 (x:Nat):=hdep ⟨1,.data⟩ (by simp) rfl _ rfl
         refine Zab (v:=.pointer (some ⟨g,x,none⟩)) (w':=w1) (by simp [execOp,e61,e62,ixI g x n cap hxn]) ⟨_,rfl,?_,fun j u hu hV _=>⟨hV,trivial,trivial⟩,rfl⟩
         rw [Zaa (by decide),Zaa (by decide)];exact hR
        ·have e75:a1.eval (.tmp 75) = .pointer (some ⟨g,x,none⟩):=hdep ⟨14,.data⟩ (by simp) rfl _ rfl
         have x75:a1.tmps[75]?.getD undef = .pointer (some ⟨g,x,none⟩):=by simpa [Act.eval] using e75
         have e70:a1.eval (.tmp 70) = .int .i64 (xv:Nat):=hdep ⟨9,.data⟩ (by simp) rfl _ rfl
         have x70:a1.tmps[70]?.getD undef = .int .i64 (xv:Nat):=by simpa [Act.eval] using e70
         rw [hunf,hdes 17 (by kernel_rfl)] at hR
         obtain rfl:w1 = W0:=hR
         refine Zan (w':=W1) (by simp [execOp,e75,e70,stInt _ _ _ w1 HCU.out HF1.out,HW1.out]) ⟨undef,rfl,?_,fun j u hu hV _=>⟨hV,trivial,trivial⟩,trivial⟩
         rw [Zad hil,Zaa (by decide),hdes 17 (by kernel_rfl)]
         rfl
        ·have e63:a1.eval (.tmp 63) = .slice (some ⟨g,0,none⟩) n cap:=hdep ⟨2,.data⟩ (by simp) rfl _ rfl
         have e65:a1.eval (.tmp 65) = .int .i64 (y:Nat):=hdep ⟨4,.data⟩ (by simp) rfl _ rfl
         refine Zab (v:=.pointer (some ⟨g,y,none⟩)) (w':=w1) (by simp [execOp,e63,e65,ixI g y n cap hyn]) ⟨_,rfl,?_,fun j u hu hV _=>⟨hV,trivial,trivial⟩,rfl⟩
         rw [Zaa (by decide),Zaa (by decide)];exact hR
        ·have e76:a1.eval (.tmp 76) = .pointer (some ⟨g,y,none⟩):=hdep ⟨16,.data⟩ (by simp) rfl _ rfl
         have x76:a1.tmps[76]?.getD undef = .pointer (some ⟨g,y,none⟩):=by simpa [Act.eval] using e76
         have e74:a1.eval (.tmp 74) = .int .i64 (xu:Nat):=hdep ⟨13,.data⟩ (by simp) rfl _ rfl
         have x74:a1.tmps[74]?.getD undef = .int .i64 (xu:Nat):=by simpa [Act.eval] using e74
         rw [hanc 15 (by kernel_rfl),hunf] at hR
         obtain rfl:w1 = W1:=hR
         refine Zan (w':=W2) (by simp [execOp,e76,e74,stInt _ _ _ w1 HCK.out HF2.out,HW2.out]) ⟨undef,rfl,?_,fun j u hu hV _=>⟨hV,trivial,trivial⟩,trivial⟩
         rw [Zad hil,Zaa (by decide),hanc 15 (by kernel_rfl)]
         rfl
       ·intro listed fv w1 hR hall hV
        rw [hall 15 (by decide),hall 17 (by decide)] at hR
        obtain rfl:w1 = W2:=hR
        simp only [spread,List.contains_cons,List.contains_nil,Nat.reduceBEq,Bool.or_false,Bool.or_true,cond_true,cond_false,Nat.reduceAdd,Nat.zero_add]
        go_wp2
        go_roundw
        case rel=>exact HREL.out _ HEND.out
        case measure=>simp [intOf];omega
      ·have b2:decide (x < i1) = false:=by simp;omega
       obtain rfl:t = r:=by omega
       have HS:=Zh hs
       clear hs hk hxt hi1a
       go_wp2
       refine bodyPost_ret (results_none rfl _ _ _) rfl ?_
       exact ⟨rfl,_,HINS2.out.1,HINS2.out.2,by rw [List.append_assoc,List.cons_append];exact HS.out⟩
  ·by_cases hR1:R.length = 1
   ·obtain ⟨y0,rfl⟩:=List.length_eq_one_iff.1 hR1
    obtain ⟨lL,hlL⟩:∃ lL,L.length = lL:=⟨_,rfl⟩
    have q0:(m:Int) - (a:Int) = (lL:Int):=by omega
    have b0:((lL:Int) == 1) = false:=beq_eq_false_iff_ne.2 (by omega)
    have q1:(b:Int) - (m:Int) = 1:=by omega
    obtain ⟨D,hDe⟩:∃ D,P ++ (L ++ ([y0] ++ Q)) = D:=⟨_,rfl⟩
    rw [hDe] at hI
    have hPm:P.length + L.length = m:=by omega
    have HINS:=Zh (fun s (hs1:a <= s) (hs2:s <= m) (h1:s = a \/ ¬ fLt f (D.getD m 0) (D.getD (s - 1) 0)) (h2:s = m \/ fLt f (D.getD m 0) (D.getD s 0))=>(by
     have:=Zxu f P L Q y0 s hLx (fun x hx=>hcr x hx y0 (by simp)) (by omega) (by omega) (by rw [hDe,hPm,ha];exact h1) (by rw [hDe,hPm];exact h2)
     rw [ha] at this;exact this:(L.take (s - a) ++ y0 :: L.drop (s - a)).Perm (L ++ [y0]) /\ Lex f (L.take (s - a) ++ y0 :: L.drop (s - a))))
    have HDE:=Zh hDe
    have HI:=Zh hI
    have HPA:=Zh ha
    have HLM:=Zh (show a + L.length = m by omega)
    have ham:a + 2 <= m:=by omega
    have hmn:m < n:=by omega
    clear hLx hRx hcr hDe hI hN hL0 hR0 hL1 hR1 hm ha hb IH hlen hPm hlL
    go_enter Tryz.func156,Tryz.ntmps156
    go_wp2
    go_loopw [14,15,16] (fun u v _ A'=>∃ i j,u = .int .i64 (i:Nat) /\ v = .int .i64 (j:Nat) /\ a <= i /\ i <= j /\ j <= m /\ (i = a \/ ¬ fLt f (D.getD m 0) (D.getD (i - 1) 0)) /\ (j = m \/ fLt f (D.getD m 0) (D.getD j 0)) /\ SrtI A0 g base cap p fa fc f n D A') (fun u v _ _=>(intOf v).toNat - (intOf u).toNat)
    case atStart=>exact ⟨a,m,rfl,rfl,Nat.le_refl _,by omega,Nat.le_refl _,.inl rfl,.inl rfl,HI.out⟩
    case round =>
     clear HI
     obtain ⟨i,j,rfl,rfl,h1,h2,h3,h4,h5,hs⟩:=hrel
     by_cases hij:i < j
     ·have HS:=Zh hs
      have b1:decide (i < j) = true:=by simp;omega
      obtain ⟨s,hse⟩:∃ s,i + j = s:=⟨_,rfl⟩
      obtain ⟨h,hhe⟩:∃ h,s / 2 = h:=⟨_,rfl⟩
      have qs:(i:Int) + (j:Int) = (s:Int):=by omega
      have qsw:IntKind.i64.wrap (s:Int) = (s:Int):=IntWalk.i64_in _ (by omega)
      have qsu:IntKind.u64.wrap (s:Int) = (s:Int):=u64_in s (by omega)
      have qh:(s:Int) / 2 = (h:Int):=Zft s h (by omega) hhe
      have qhu:IntKind.u64.wrap (h:Int) = (h:Int):=u64_in h (by omega)
      have qhw:IntKind.i64.wrap (h:Int) = (h:Int):=IntWalk.i64_in _ (by omega)
      have hih:i <= h:=by omega
      have hhj:h < j:=by omega
      obtain ⟨hcx,_⟩:=hs.at (i:=m) (by omega)
      obtain ⟨hcy,_⟩:=hs.at (i:=h) (by omega)
      have HCMP:=Zh (fun q=>hs.cmp (i:=m) (j:=h) (by omega) (by omega) q)
      have hlt:=Zls (f.getD (D.getD (m) 0) 0) (f.getD (D.getD (h) 0) 0)
      obtain ⟨xx,hxx⟩:∃ xx,D.getD (m) 0 = xx:=⟨_,rfl⟩
      obtain ⟨xy,hxy⟩:∃ xy,D.getD (h) 0 = xy:=⟨_,rfl⟩
      rw [hxx] at hcx HCMP hlt
      rw [hxy] at hcy HCMP hlt
      obtain ⟨cm,hcm⟩:∃ cm,cmpN (f.getD xx 0) (f.getD xy 0) = cm:=⟨_,rfl⟩
      rw [hcm] at HCMP hlt
      have HXX:=Zh hxx
      have HXY:=Zh hxy
      have H4:=Zh h4
      have H5:=Zh h5
      clear hcm hxx hxy h4 h5 hs hse hhe
      by_cases hc:f.getD xx 0 < f.getD xy 0
      ·have b3:decide (cm < 0) = true:=by rw [hlt];exact decide_eq_true hc
       have HCC:=Zh hc
       clear hlt hc
       go_wp2_with fail
       go_quiet ((go_at_call 119;exact (HCMP.out _)))
       go_wp2
       go_roundw
       case rel=>exact ⟨i,h,rfl,rfl,h1,hih,by omega,H4.out,.inr (by rw [HXX.out,HXY.out];exact HCC.out),HS.out.drewN _⟩
       case measure=>simp [intOf];omega
      ·have b3:decide (cm < 0) = false:=by rw [hlt];exact decide_eq_false hc
       have HCC:=Zh hc
       clear hlt hc
       go_wp2_with fail
       go_quiet ((go_at_call 119;exact (HCMP.out _)))
       go_wp2
       go_roundw
       case rel=>exact ⟨h + 1,j,by go_num,rfl,by omega,by omega,h3,.inr (by rw [Nat.add_sub_cancel,HXX.out,HXY.out];exact HCC.out),H5.out,HS.out.drewN _⟩
       case measure=>simp [intOf];omega
     ·have b1:decide (i < j) = false:=by simp;omega
      obtain rfl:i = j:=by omega
      have HINS2:=Zh (HINS.out i h1 h3 h4 h5)
      obtain ⟨r,hr⟩:∃ r,i - a = r:=⟨_,rfl⟩
      rw [hr] at HINS2
      have HIA:=Zh (show i = a + r by omega)
      have HST:=Zh (show SrtI A0 g base cap p fa fc f n (P ++ (L.take L.length ++ y0 :: (L.drop L.length ++ Q))) wr from by rw [List.take_of_length_le (Nat.le_refl _),List.drop_of_length_le (Nat.le_refl _)];have:=hs;rw [<- HDE.out] at this;exact this)
      clear hs hr h4 h5 HINS hij
      go_wp2
      go_loopw [17] (fun u A'=>∃ k t,u = .int .i64 (k:Nat) /\ k = a + t /\ r <= t /\ t <= L.length /\ SrtI A0 g base cap p fa fc f n (P ++ (L.take t ++ y0 :: (L.drop t ++ Q))) A') (fun u _=>(intOf u).toNat - i)
      case atStart=>exact ⟨m,L.length,rfl,HLM.out.symm,by have:=HLM.out;have:=HIA.out;omega,Nat.le_refl _,HST.out⟩
      case round =>
       clear HST
       obtain ⟨x,t,rfl,hxt,htr,htL,hs⟩:=hrel
       have hlm:=HLM.out
       have hia:=HIA.out
       by_cases hk:i < x
       ·have b2:decide (i < x) = true:=by simp;omega
        obtain ⟨t1,rfl⟩:∃ t1,t = t1 + 1:=⟨t - 1,by omega⟩
        have htR:t1 < L.length:=by omega
        obtain ⟨y,hy⟩:∃ y,x - 1 = y:=⟨_,rfl⟩
        have qk:(x:Int) - 1 = (y:Int):=by omega
        have qwk:IntKind.i64.wrap (y:Int) = (y:Int):=IntWalk.i64_in _ (by omega)
        have hxn:x < n:=by omega
        have hyn:y < n:=by omega
        have hsw:sw2 (P ++ (L.take (t1 + 1) ++ y0 :: (L.drop (t1 + 1) ++ Q))) x y = P ++ (L.take t1 ++ y0 :: (L.drop t1 ++ Q)):=by
         have h:=Zaed P (L.take t1) (L.drop (t1 + 1) ++ Q) y0 L[t1]
         have hl:(L.take t1).length = t1:=by rw [List.length_take];omega
         rw [hl,HPA.out,show a + t1 + 1 = x by omega,show a + t1 = y by omega] at h
         rw [List.take_succ_eq_append_getElem htR,List.append_assoc,List.singleton_append,h,Zma htR,List.cons_append]
        obtain ⟨D',hD'⟩:∃ D',P ++ (L.take (t1 + 1) ++ y0 :: (L.drop (t1 + 1) ++ Q)) = D':=⟨_,rfl⟩
        rw [hD'] at hs hsw
        have HREL:=Zh (fun w' (h:SrtI A0 g base cap p fa fc f n (sw2 D' x y) w')=>(⟨y,t1,rfl,by omega,by omega,by omega,by rw [hsw] at h;exact h⟩:∃ k t',Value.int .i64 (y:Nat) = .int .i64 (k:Nat) /\ k = a + t' /\ r <= t' /\ t' <= L.length /\ SrtI A0 g base cap p fa fc f n (P ++ (L.take t' ++ y0 :: (L.drop t' ++ Q))) w'))
        clear hsw hD' hlm hxt hy hia
        have HS:=Zh hs
        obtain ⟨W0,hW0⟩:∃ W0,wr.drew = W0:=⟨_,rfl⟩
        have hs1:SrtI A0 g base cap p fa fc f n D' W0:=by rw [<- hW0];exact HS.out.drewN 1
        obtain ⟨kv,hk1,hk2⟩:=hs1.kept hxn hyn (D'.getD y 0)
        have hend:=HSW.out D' W0 x y hs1 hxn hyn
        obtain ⟨hcu,hfu⟩:=hs1.at hxn
        obtain ⟨hcv,_⟩:=hs1.at hyn
        generalize hxu:D'.getD x 0 = xu at *
        generalize hxv:D'.getD y 0 = xv at *
        have HW0:=Zh hW0
        obtain ⟨W1,hW1⟩:∃ W1,W0.setCell ⟨g,x,none⟩ (.int .i64 (xv:Nat)) = W1:=⟨_,rfl⟩
        rw [hW1] at hk1 hk2 hend
        have HW1:=Zh hW1
        obtain ⟨W2,hW2⟩:∃ W2,W1.setCell ⟨g,y,none⟩ (.int .i64 (xu:Nat)) = W2:=⟨_,rfl⟩
        rw [hW2] at hend
        have HW2:=Zh hW2
        have HCU:=Zh hcu
        have HCV:=Zh hcv
        have HF1:=Zh hfu
        have HCK:=Zh hk1
        have HF2:=Zh hk2
        have HEND:=Zh hend
        clear hk1 hk2 hend hcu hcv hfu hW0 hW1 hW2 hs1 hxu hxv hs
        go_wp2_with fail
        refine Zao [113,114,115,116,117,118,119,120,121,122,123,124,125,126,127,128] (fun j=>false) (fun listed w1=>w1 = Ph2 W0 W1 W2 (listed.getD 15 false) (listed.getD 17 false)) (fun j v _=>match j with | 0=>v = .slice (some ⟨g,0,none⟩) n cap | 1=>v = .int .i64 (x:Nat) | 2=>v = .slice (some ⟨g,0,none⟩) n cap | 3=>v = .int .i64 (x:Nat) | 4=>v = .int .i64 (y:Nat) | 5=>v = .slice (some ⟨g,0,none⟩) n cap | 6=>v = .int .i64 (x:Nat) | 7=>v = .int .i64 (y:Nat) | 8=>v = .pointer (some ⟨g,y,none⟩) | 9=>v = .int .i64 (xv:Nat) | 10=>v = .slice (some ⟨g,0,none⟩) n cap | 11=>v = .int .i64 (x:Nat) | 12=>v = .pointer (some ⟨g,x,none⟩) | 13=>v = .int .i64 (xu:Nat) | 14=>v = .pointer (some ⟨g,x,none⟩) | 16=>v = .pointer (some ⟨g,y,none⟩) | _=>True) (fun _ _ _ _=>True) (by kernel_rfl) (by kernel_rfl) (OneEach.mk' (by kernel_rfl) (by kernel_rfl)) (by kernel_rfl) (by kernel_rfl) (by exact HW0.out) ?_ ?_
        ·intro i0 o hi0 listed a1 w1 hR hil hunf hdes hanc hout hdep
         have hsz:i0 < 18:=(Array.getElem?_eq_some_iff.1 hi0).1
         have hall:i0 = 0 \/ i0 = 1 \/ i0 = 2 \/ i0 = 3 \/ i0 = 4 \/ i0 = 5 \/ i0 = 6 \/ i0 = 7 \/ i0 = 8 \/ i0 = 9 \/ i0 = 10 \/ i0 = 11 \/ i0 = 12 \/ i0 = 13 \/ i0 = 14 \/ i0 = 15 \/ i0 = 16 \/ i0 = 17:=by omega
         clear hsz
         rcases hall with rfl | rfl | rfl | rfl | rfl | rfl | rfl | rfl | rfl | rfl | rfl | rfl | rfl | rfl | rfl | rfl | rfl | rfl <;> simp only [List.getElem?_toArray,List.getElem?_cons_zero,List.getElem?_cons_succ,Option.some.injEq] at hi0 <;> subst hi0
         ·have f0:a1.eval (.tmp 0) = .slice (some ⟨g,0,none⟩) n cap:=hout 0 (by decide)
          refine Zab (v:=.slice (some ⟨g,0,none⟩) n cap) (w':=w1) (by simp [execOp,f0]) ⟨_,rfl,?_,fun j u hu hV _=>⟨hV,trivial,trivial⟩,rfl⟩
          rw [Zaa (by decide),Zaa (by decide)];exact hR
         ·have f17:a1.eval (.tmp 17) = .int .i64 (x:Nat):=hout 17 (by decide)
          refine Zab (v:=.int .i64 (x:Nat)) (w':=w1) (by simp [execOp,f17]) ⟨_,rfl,?_,fun j u hu hV _=>⟨hV,trivial,trivial⟩,rfl⟩
          rw [Zaa (by decide),Zaa (by decide)];exact hR
         ·have f0:a1.eval (.tmp 0) = .slice (some ⟨g,0,none⟩) n cap:=hout 0 (by decide)
          refine Zab (v:=.slice (some ⟨g,0,none⟩) n cap) (w':=w1) (by simp [execOp,f0]) ⟨_,rfl,?_,fun j u hu hV _=>⟨hV,trivial,trivial⟩,rfl⟩
          rw [Zaa (by decide),Zaa (by decide)];exact hR
         ·have f17:a1.eval (.tmp 17) = .int .i64 (x:Nat):=hout 17 (by decide)
          refine Zab (v:=.int .i64 (x:Nat)) (w':=w1) (by simp [execOp,f17]) ⟨_,rfl,?_,fun j u hu hV _=>⟨hV,trivial,trivial⟩,rfl⟩
          rw [Zaa (by decide),Zaa (by decide)];exact hR
         ·have e116:a1.eval (.tmp 116) = .int .i64 (x:Nat):=hdep ⟨3,.data⟩ (by simp) rfl _ rfl
          refine Zab (v:=.int .i64 (y:Nat)) (w':=w1) (by simp [execOp,e116,evalC,eqgS,subI,qk,qwk]) ⟨_,rfl,?_,fun j u hu hV _=>⟨hV,trivial,trivial⟩,rfl⟩
          rw [Zaa (by decide),Zaa (by decide)];exact hR
         ·have f0:a1.eval (.tmp 0) = .slice (some ⟨g,0,none⟩) n cap:=hout 0 (by decide)
          refine Zab (v:=.slice (some ⟨g,0,none⟩) n cap) (w':=w1) (by simp [execOp,f0]) ⟨_,rfl,?_,fun j u hu hV _=>⟨hV,trivial,trivial⟩,rfl⟩
          rw [Zaa (by decide),Zaa (by decide)];exact hR
         ·have f17:a1.eval (.tmp 17) = .int .i64 (x:Nat):=hout 17 (by decide)
          refine Zab (v:=.int .i64 (x:Nat)) (w':=w1) (by simp [execOp,f17]) ⟨_,rfl,?_,fun j u hu hV _=>⟨hV,trivial,trivial⟩,rfl⟩
          rw [Zaa (by decide),Zaa (by decide)];exact hR
         ·have e119:a1.eval (.tmp 119) = .int .i64 (x:Nat):=hdep ⟨6,.data⟩ (by simp) rfl _ rfl
          refine Zab (v:=.int .i64 (y:Nat)) (w':=w1) (by simp [execOp,e119,evalC,eqgS,subI,qk,qwk]) ⟨_,rfl,?_,fun j u hu hV _=>⟨hV,trivial,trivial⟩,rfl⟩
          rw [Zaa (by decide),Zaa (by decide)];exact hR
         ·have e118:a1.eval (.tmp 118) = .slice (some ⟨g,0,none⟩) n cap:=hdep ⟨5,.data⟩ (by simp) rfl _ rfl
          have e120:a1.eval (.tmp 120) = .int .i64 (y:Nat):=hdep ⟨7,.data⟩ (by simp) rfl _ rfl
          refine Zab (v:=.pointer (some ⟨g,y,none⟩)) (w':=w1) (by simp [execOp,e118,e120,ixI g y n cap hyn]) ⟨_,rfl,?_,fun j u hu hV _=>⟨hV,trivial,trivial⟩,rfl⟩
          rw [Zaa (by decide),Zaa (by decide)];exact hR
         ·have e121:a1.eval (.tmp 121) = .pointer (some ⟨g,y,none⟩):=hdep ⟨8,.data⟩ (by simp) rfl _ rfl
          have x121:a1.tmps[121]?.getD undef = .pointer (some ⟨g,y,none⟩):=by simpa [Act.eval] using e121
          have hc:w1.cell? ⟨g,y,none⟩ = some (.int .i64 (xv:Nat)):=by
           rw [hdes 15 (by kernel_rfl),hdes 17 (by kernel_rfl)] at hR
           rw [hR];exact HCV.out
          refine Zab (v:=.int .i64 (xv:Nat)) (w':=w1) (by simp [execOp,e121,ldInt _ _ _ hc]) ⟨_,rfl,?_,fun j u hu hV _=>⟨hV,trivial,trivial⟩,rfl⟩
          rw [Zaa (by decide),Zaa (by decide)];exact hR
         ·have f0:a1.eval (.tmp 0) = .slice (some ⟨g,0,none⟩) n cap:=hout 0 (by decide)
          refine Zab (v:=.slice (some ⟨g,0,none⟩) n cap) (w':=w1) (by simp [execOp,f0]) ⟨_,rfl,?_,fun j u hu hV _=>⟨hV,trivial,trivial⟩,rfl⟩
          rw [Zaa (by decide),Zaa (by decide)];exact hR
         ·have f17:a1.eval (.tmp 17) = .int .i64 (x:Nat):=hout 17 (by decide)
          refine Zab (v:=.int .i64 (x:Nat)) (w':=w1) (by simp [execOp,f17]) ⟨_,rfl,?_,fun j u hu hV _=>⟨hV,trivial,trivial⟩,rfl⟩
          rw [Zaa (by decide),Zaa (by decide)];exact hR
         ·have e123:a1.eval (.tmp 123) = .slice (some ⟨g,0,none⟩) n cap:=hdep ⟨10,.data⟩ (by simp) rfl _ rfl
          have e124:a1.eval (.tmp 124) = .int .i64 (x:Nat):=hdep ⟨11,.data⟩ (by simp) rfl _ rfl
          refine Zab (v:=.pointer (some ⟨g,x,none⟩)) (w':=w1) (by simp [execOp,e123,e124,ixI g x n cap hxn]) ⟨_,rfl,?_,fun j u hu hV _=>⟨hV,trivial,trivial⟩,rfl⟩
          rw [Zaa (by decide),Zaa (by decide)];exact hR
         ·have e125:a1.eval (.tmp 125) = .pointer (some ⟨g,x,none⟩):=hdep ⟨12,.data⟩ (by simp) rfl _ rfl
          have x125:a1.tmps[125]?.getD undef = .pointer (some ⟨g,x,none⟩):=by simpa [Act.eval] using e125
          have hc:w1.cell? ⟨g,x,none⟩ = some (.int .i64 (xu:Nat)):=by
           rw [hdes 15 (by kernel_rfl),hdes 17 (by kernel_rfl)] at hR
           rw [hR];exact HCU.out
          refine Zab (v:=.int .i64 (xu:Nat)) (w':=w1) (by simp [execOp,e125,ldInt _ _ _ hc]) ⟨_,rfl,?_,fun j u hu hV _=>⟨hV,trivial,trivial⟩,rfl⟩
          rw [Zaa (by decide),Zaa (by decide)];exact hR
         ·have e113:a1.eval (.tmp 113) = .slice (some ⟨g,0,none⟩) n cap:=hdep ⟨0,.data⟩ (by simp) rfl _ rfl
          have e114:a1.eval (.tmp 114) = .int .i64 (x:Nat):=hdep ⟨1,.data⟩ (by simp) rfl _ rfl
          refine Zab (v:=.pointer (some ⟨g,x,none⟩)) (w':=w1) (by simp [execOp,e113,e114,ixI g x n cap hxn]) ⟨_,rfl,?_,fun j u hu hV _=>⟨hV,trivial,trivial⟩,rfl⟩
          rw [Zaa (by decide),Zaa (by decide)];exact hR
         ·have e127:a1.eval (.tmp 127) = .pointer (some ⟨g,x,none⟩):=hdep ⟨14,.data⟩ (by simp) rfl _ rfl
          have x127:a1.tmps[127]?.getD undef = .pointer (some ⟨g,x,none⟩):=by simpa [Act.eval] using e127
          have e122:a1.eval (.tmp 122) = .int .i64 (xv:Nat):=hdep ⟨9,.data⟩ (by simp) rfl _ rfl
          have x122:a1.tmps[122]?.getD undef = .int .i64 (xv:Nat):=by simpa [Act.eval] using e122
          rw [hunf,hdes 17 (by kernel_rfl)] at hR
          obtain rfl:w1 = W0:=hR
          refine Zan (w':=W1) (by simp [execOp,e127,e122,stInt _ _ _ w1 HCU.out HF1.out,HW1.out]) ⟨undef,rfl,?_,fun j u hu hV _=>⟨hV,trivial,trivial⟩,trivial⟩
          rw [Zad hil,Zaa (by decide),hdes 17 (by kernel_rfl)]
          rfl
         ·have e115:a1.eval (.tmp 115) = .slice (some ⟨g,0,none⟩) n cap:=hdep ⟨2,.data⟩ (by simp) rfl _ rfl
          have e117:a1.eval (.tmp 117) = .int .i64 (y:Nat):=hdep ⟨4,.data⟩ (by simp) rfl _ rfl
          refine Zab (v:=.pointer (some ⟨g,y,none⟩)) (w':=w1) (by simp [execOp,e115,e117,ixI g y n cap hyn]) ⟨_,rfl,?_,fun j u hu hV _=>⟨hV,trivial,trivial⟩,rfl⟩
          rw [Zaa (by decide),Zaa (by decide)];exact hR
         ·have e128:a1.eval (.tmp 128) = .pointer (some ⟨g,y,none⟩):=hdep ⟨16,.data⟩ (by simp) rfl _ rfl
          have x128:a1.tmps[128]?.getD undef = .pointer (some ⟨g,y,none⟩):=by simpa [Act.eval] using e128
          have e126:a1.eval (.tmp 126) = .int .i64 (xu:Nat):=hdep ⟨13,.data⟩ (by simp) rfl _ rfl
          have x126:a1.tmps[126]?.getD undef = .int .i64 (xu:Nat):=by simpa [Act.eval] using e126
          rw [hanc 15 (by kernel_rfl),hunf] at hR
          obtain rfl:w1 = W1:=hR
          refine Zan (w':=W2) (by simp [execOp,e128,e126,stInt _ _ _ w1 HCK.out HF2.out,HW2.out]) ⟨undef,rfl,?_,fun j u hu hV _=>⟨hV,trivial,trivial⟩,trivial⟩
          rw [Zad hil,Zaa (by decide),hanc 15 (by kernel_rfl)]
          rfl
        ·intro listed fv w1 hR hall hV
         rw [hall 15 (by decide),hall 17 (by decide)] at hR
         obtain rfl:w1 = W2:=hR
         simp only [spread,List.contains_cons,List.contains_nil,Nat.reduceBEq,Bool.or_false,Bool.or_true,cond_true,cond_false,Nat.reduceAdd,Nat.zero_add]
         go_wp2
         go_roundw
         case rel=>exact HREL.out _ HEND.out
         case measure=>simp [intOf];omega
       ·have b2:decide (i < x) = false:=by simp;omega
        obtain rfl:t = r:=by omega
        have HS:=Zh hs
        clear hs hk hlm hxt hia
        go_wp2
        refine bodyPost_ret (results_none rfl _ _ _) rfl ?_
        exact ⟨rfl,_,HINS2.out.1,HINS2.out.2,by rw [List.append_assoc,List.cons_append];exact HS.out⟩
   ·obtain ⟨lL,hlL⟩:∃ lL,L.length = lL:=⟨_,rfl⟩
    obtain ⟨lR,hlR⟩:∃ lR,R.length = lR:=⟨_,rfl⟩
    have q0:(m:Int) - (a:Int) = (lL:Int):=by omega
    have b0:((lL:Int) == 1) = false:=beq_eq_false_iff_ne.2 (by omega)
    have q1:(b:Int) - (m:Int) = (lR:Int):=by omega
    have b1:((lR:Int) == 1) = false:=beq_eq_false_iff_ne.2 (by omega)
    obtain ⟨s0,hs0⟩:∃ s0,a + b = s0:=⟨_,rfl⟩
    obtain ⟨mid,hmid⟩:∃ mid,s0 / 2 = mid:=⟨_,rfl⟩
    obtain ⟨nn,hnn⟩:∃ nn,mid + m = nn:=⟨_,rfl⟩
    obtain ⟨pp,hpp⟩:∃ pp,nn - 1 = pp:=⟨_,rfl⟩
    have q2:(a:Int) + (b:Int) = (s0:Int):=by omega
    have q2w:IntKind.i64.wrap (s0:Int) = (s0:Int):=IntWalk.i64_in _ (by omega)
    have q2u:IntKind.u64.wrap (s0:Int) = (s0:Int):=u64_in s0 (by omega)
    have q3:(s0:Int) / 2 = (mid:Int):=Zft s0 mid (by omega) hmid
    have q3u:IntKind.u64.wrap (mid:Int) = (mid:Int):=u64_in mid (by omega)
    have q3w:IntKind.i64.wrap (mid:Int) = (mid:Int):=IntWalk.i64_in _ (by omega)
    have q4:(mid:Int) + (m:Int) = (nn:Int):=by omega
    have q5:(nn:Int) - 1 = (pp:Int):=by omega
    have ham:a + 2 <= m:=by omega
    have hmb:m + 2 <= b:=by omega
    have hmid2:2 * mid <= a + b /\ a + b <= 2 * mid + 1:=by omega
    have hPm:P.length + L.length = m:=by omega
    obtain ⟨D,hDe⟩:∃ D,P ++ (L ++ (R ++ Q)) = D:=⟨_,rfl⟩
    have HCUT:=Zh (fun s e (hs1:a <= s) (hs2:s <= m) (he1:m <= e) (he2:e <= b) (h1:s = a \/ e = b \/ ¬ fLt f (D.getD e 0) (D.getD (s - 1) 0)) (h2:e = m \/ s = m \/ fLt f (D.getD (e - 1) 0) (D.getD s 0))=>(by
     have:=Zns f P L R Q s e hLx hRx hcr (by omega) (by omega) (by omega) (by omega) (by rw [hDe,hPm,hb,ha];exact h1) (by rw [hDe,hPm];exact h2)
     rw [hPm,ha] at this;exact this:∀ x ∈ L.take (s - a) ++ R.take (e - m),∀ y ∈ L.drop (s - a) ++ R.drop (e - m),ltF f x y = true))
    rw [hDe] at hI
    have HDE:=Zh hDe
    have HI:=Zh hI
    have HPA:=Zh ha
    have HLM:=Zh (show a + L.length = m by omega)
    have HRB:=Zh (show m + R.length = b by omega)
    have HLX:=Zh hLx
    have HRX:=Zh hRx
    have HCR:=Zh hcr
    have HNN:=Zh hN
    have HDL:=Zh (show D.length = n from hI.len)
    clear hLx hRx hcr hDe hI hN hL0 hR0 hL1 hR1 hm ha hb hlen hPm hlL hlR hs0 hmid
    by_cases hmm:mid < m
    ·have b2:decide (mid < m) = true:=by simp;omega
     obtain ⟨lo,hlo⟩:∃ lo,nn - b = lo:=⟨_,rfl⟩
     have qlo:(nn:Int) - (b:Int) = (lo:Int):=by omega
     have hlo1:a <= lo:=by omega
     have hhi1:mid <= m:=by omega
     have hlohi:lo <= mid:=by omega
     have hpb:pp - lo < b:=by omega
     have hph:m <= pp - mid + 1:=by omega
     have hppb:mid <= pp + 1:=by omega
     have HLO:=Zh hlo
     clear hlo
     go_enter Tryz.func156,Tryz.ntmps156
     go_wp2
     go_loopw [20,21,23] (fun u v _ A'=>∃ i j,u = .int .i64 (i:Nat) /\ v = .int .i64 (j:Nat) /\ lo <= i /\ i <= j /\ j <= mid /\ (i = lo \/ ¬ fLt f (D.getD (pp - (i - 1)) 0) (D.getD (i - 1) 0)) /\ (j = mid \/ fLt f (D.getD (pp - j) 0) (D.getD j 0)) /\ SrtI A0 g base cap p fa fc f n D A') (fun u v _ _=>(intOf v).toNat - (intOf u).toNat)
     case atStart=>exact ⟨lo,mid,rfl,rfl,Nat.le_refl _,by omega,Nat.le_refl _,.inl rfl,.inl rfl,HI.out⟩
     case round =>
      clear HI
      obtain ⟨i,j,rfl,rfl,h1,h2,h3,h4,h5,hs⟩:=hrel
      by_cases hij:i < j
      ·have HS:=Zh hs
       have b9:decide (i < j) = true:=by simp;omega
       obtain ⟨s,hse⟩:∃ s,i + j = s:=⟨_,rfl⟩
       obtain ⟨h,hhe⟩:∃ h,s / 2 = h:=⟨_,rfl⟩
       have qs:(i:Int) + (j:Int) = (s:Int):=by omega
       have qsw:IntKind.i64.wrap (s:Int) = (s:Int):=IntWalk.i64_in _ (by omega)
       have qsu:IntKind.u64.wrap (s:Int) = (s:Int):=u64_in s (by omega)
       have qh:(s:Int) / 2 = (h:Int):=Zft s h (by omega) hhe
       have qhu:IntKind.u64.wrap (h:Int) = (h:Int):=u64_in h (by omega)
       have qhw:IntKind.i64.wrap (h:Int) = (h:Int):=IntWalk.i64_in _ (by omega)
       have hih:i <= h:=by omega
       have hhj:h < j:=by omega
       obtain ⟨ph,hphe⟩:∃ ph,pp - h = ph:=⟨_,rfl⟩
       have qph:(pp:Int) - (h:Int) = (ph:Int):=by omega
       have qphw:IntKind.i64.wrap (ph:Int) = (ph:Int):=IntWalk.i64_in _ (by omega)
       have hphb:ph < n:=by omega
       have HPH:=Zh hphe
       clear hphe
       obtain ⟨hcx,_⟩:=hs.at (i:=ph) (by omega)
       obtain ⟨hcy,_⟩:=hs.at (i:=h) (by omega)
       have HCMP:=Zh (fun q=>hs.cmp (i:=ph) (j:=h) (by omega) (by omega) q)
       have hlt:=Zls (f.getD (D.getD (ph) 0) 0) (f.getD (D.getD (h) 0) 0)
       obtain ⟨xx,hxx⟩:∃ xx,D.getD (ph) 0 = xx:=⟨_,rfl⟩
       obtain ⟨xy,hxy⟩:∃ xy,D.getD (h) 0 = xy:=⟨_,rfl⟩
       rw [hxx] at hcx HCMP hlt
       rw [hxy] at hcy HCMP hlt
       obtain ⟨cm,hcm⟩:∃ cm,cmpN (f.getD xx 0) (f.getD xy 0) = cm:=⟨_,rfl⟩
       rw [hcm] at HCMP hlt
       have HXX:=Zh hxx
       have HXY:=Zh hxy
       have H4:=Zh h4
       have H5:=Zh h5
       clear hcm hxx hxy h4 h5 hs hse hhe
       by_cases hc:f.getD xx 0 < f.getD xy 0
       ·have b3:decide (cm < 0) = true:=by rw [hlt];exact decide_eq_true hc
        have HCC:=Zh hc
        clear hlt hc
        go_wp2_with fail
        go_quiet ((go_at_call 119;exact (HCMP.out _)))
        go_wp2
        go_roundw
        case rel=>exact ⟨i,h,rfl,rfl,h1,hih,by omega,H4.out,.inr (by rw [HPH.out,HXX.out,HXY.out];exact HCC.out),HS.out.drewN _⟩
        case measure=>simp [intOf];omega
       ·have b3:decide (cm < 0) = false:=by rw [hlt];exact decide_eq_false hc
        have HCC:=Zh hc
        clear hlt hc
        go_wp2_with fail
        go_quiet ((go_at_call 119;exact (HCMP.out _)))
        go_wp2
        go_roundw
        case rel=>exact ⟨h + 1,j,by go_num,rfl,by omega,by omega,h3,.inr (by rw [Nat.add_sub_cancel,HPH.out,HXX.out,HXY.out];exact HCC.out),H5.out,HS.out.drewN _⟩
        case measure=>simp [intOf];omega
      ·have b3:decide (i < j) = false:=by simp;omega
       obtain rfl:i = j:=by omega
       obtain ⟨e,he⟩:∃ e,nn - i = e:=⟨_,rfl⟩
       have HS0:=Zh hs
       have heb:e <= b:=by have hlo:=HLO.out;omega
       have hme:m <= e:=by have hlo:=HLO.out;omega
       have hai:a <= i:=by omega
       have him:i <= m:=by omega
       have q6:(nn:Int) - (i:Int) = (e:Int):=by have hlo:=HLO.out;omega
       have hcutA:=HCUT.out i e hai him hme heb (by
        have hlo:=HLO.out
        by_cases hz:i = lo
        ·exact .inr (.inl (by omega))
        ·rcases h4 with h | h
         ·exact absurd h hz
         ·rw [show pp - (i - 1) = e by omega] at h
          exact .inr (.inr h)) (by
        have hlo:=HLO.out
        rcases h5 with h | h
        ·exact .inl (by omega)
        ·rw [show pp - i = e - 1 by omega] at h
         exact .inr (.inr h))
       have hmidE:i + (e - m) = mid:=by omega
       have hNN:=HNN.out
       have hll:=HLM.out
       have hrr:=HRB.out
       obtain ⟨L1,hL1⟩:∃ L1,L.take (i - a) = L1:=⟨_,rfl⟩
       obtain ⟨L2,hL2⟩:∃ L2,L.drop (i - a) = L2:=⟨_,rfl⟩
       obtain ⟨R1,hR1⟩:∃ R1,R.take (e - m) = R1:=⟨_,rfl⟩
       obtain ⟨R2,hR2⟩:∃ R2,R.drop (e - m) = R2:=⟨_,rfl⟩
       have l1:L1.length = i - a:=by rw [<- hL1,List.length_take];omega
       have l2:L2.length = m - i:=by rw [<- hL2,List.length_drop];omega
       have r1:R1.length = e - m:=by rw [<- hR1,List.length_take];omega
       have r2:R2.length = b - e:=by rw [<- hR2,List.length_drop];omega
       have eL:L = L1 ++ L2:=by rw [<- hL1,<- hL2,List.take_append_drop]
       have eR:R = R1 ++ R2:=by rw [<- hR1,<- hR2,List.take_append_drop]
       rw [hL1,hL2,hR1,hR2] at hcutA
       have hLX:=HLX.out
       have hRX:=HRX.out
       have hCR:=HCR.out
       obtain ⟨xL1,xL2⟩:=Zdq hLX eL
       obtain ⟨xR1,xR2⟩:=Zdq hRX eR
       have cr1:∀ x ∈ L1,∀ y ∈ R1,x < y:=fun x hx y hy=>hCR x (by rw [eL];simp [hx]) y (by rw [eR];simp [hy])
       have cr2:∀ x ∈ L2,∀ y ∈ R2,x < y:=fun x hx y hy=>hCR x (by rw [eL];simp [hx]) y (by rw [eR];simp [hy])
       have hDD:D = (P ++ L1) ++ (L2 ++ (R1 ++ (R2 ++ Q))):=by rw [<- HDE.out,eL,eR];simp only [List.append_assoc]
       have HROT:=Zh (fun A' (h:SrtI A0 g base cap p fa fc f n D A') (g1:i < m) (g2:m < e)=>(by
        have hr:=rotate A0 A' g base cap p i m e (m - i) (e - m) fa fc f D (by rw [HDL.out];exact h) hp hfa (by omega) (by omega) (by omega) (by omega) (by rw [HDL.out];omega) (by rw [HDL.out];omega)
        have hl:=Zpb ((m - i) + (e - m)) (P ++ L1) L2 R1 (R2 ++ Q) (by omega) (by omega) (by omega)
        rw [<- hDD,show (P ++ L1).length + L2.length = m by rw [List.length_append,HPA.out];omega,l2,r1] at hl
        rw [HDL.out,hl] at hr
        exact hr:Calls Tryz.prog 158 #[.slice (some ⟨g,0,none⟩) n cap,.int .i64 (i:Nat),.int .i64 (m:Nat),.int .i64 (e:Nat),.func (.func 119) #[] #[.pointer (some ⟨p,0,none⟩)]] A' fun e w'=>e = .returned (.tuple #[]) /\ SrtI A0 g base cap p fa fc f n ((P ++ L1) ++ (R1 ++ (L2 ++ (R2 ++ Q)))) w'))
       have HEQ:=Zh (fun A' (h:SrtI A0 g base cap p fa fc f n D A') (g1:¬ (i < m /\ m < e))=>(by
        rw [hDD] at h
        have hz:L2 = [] \/ R1 = []:=by
         by_cases h1:i < m
         ·right;exact List.eq_nil_of_length_eq_zero (by omega)
         ·left;exact List.eq_nil_of_length_eq_zero (by omega)
        rcases hz with hz | hz
        ·rw [hz] at h ⊢;simpa using h
        ·rw [hz] at h ⊢;simpa using h:SrtI A0 g base cap p fa fc f n ((P ++ L1) ++ (R1 ++ (L2 ++ (R2 ++ Q)))) A'))
       have HM1:=Zh (fun A' (h:SrtI A0 g base cap p fa fc f n ((P ++ L1) ++ (R1 ++ (L2 ++ (R2 ++ Q)))) A') (g1:a < i) (g2:i < mid)=>(by
        have:=IH.out A' P L1 R1 (L2 ++ (R2 ++ Q)) (by omega) (by omega) (by omega) (by rw [<- List.append_assoc];exact h) xL1 xR1 cr1
        rw [HPA.out,show a + L1.length = i by omega,show i + R1.length = mid by omega] at this
        exact this:Calls Tryz.prog 156 #[.slice (some ⟨g,0,none⟩) n cap,.int .i64 (a:Nat),.int .i64 (i:Nat),.int .i64 (mid:Nat),.func (.func 119) #[] #[.pointer (some ⟨p,0,none⟩)]] A' fun e w'=>e = .returned (.tuple #[]) /\ ∃ M,M.Perm (L1 ++ R1) /\ Lex f M /\ SrtI A0 g base cap p fa fc f n (P ++ (M ++ (L2 ++ (R2 ++ Q)))) w'))
       have HN1:=Zh (fun A' (h:SrtI A0 g base cap p fa fc f n ((P ++ L1) ++ (R1 ++ (L2 ++ (R2 ++ Q)))) A') (g1:¬ (a < i /\ i < mid))=>(by
        refine ⟨.refl _,?_,by rw [List.append_assoc] at h;rw [List.append_assoc];exact h⟩
        by_cases h1:a < i
        ·rw [show R1 = [] from List.eq_nil_of_length_eq_zero (by omega),List.append_nil];exact xL1
        ·rw [show L1 = [] from List.eq_nil_of_length_eq_zero (by omega),List.nil_append];exact xR1:(L1 ++ R1).Perm (L1 ++ R1) /\ Lex f (L1 ++ R1) /\ SrtI A0 g base cap p fa fc f n (P ++ ((L1 ++ R1) ++ (L2 ++ (R2 ++ Q)))) A'))
       have HM2:=Zh (fun A' M1 (hl:M1.Perm (L1 ++ R1)) (h:SrtI A0 g base cap p fa fc f n (P ++ (M1 ++ (L2 ++ (R2 ++ Q)))) A') (g1:mid < e) (g2:e < b)=>(by
        have hl1:=hl.length_eq
        rw [List.length_append] at hl1
        have:=IH.out A' (P ++ M1) L2 R2 Q (by omega) (by omega) (by omega) (by rw [List.append_assoc];exact h) xL2 xR2 cr2
        rw [List.length_append,HPA.out,show a + M1.length = mid by omega,show mid + L2.length = e by omega,show e + R2.length = b by omega] at this
        exact this:Calls Tryz.prog 156 #[.slice (some ⟨g,0,none⟩) n cap,.int .i64 (mid:Nat),.int .i64 (e:Nat),.int .i64 (b:Nat),.func (.func 119) #[] #[.pointer (some ⟨p,0,none⟩)]] A' fun e w'=>e = .returned (.tuple #[]) /\ ∃ M,M.Perm (L2 ++ R2) /\ Lex f M /\ SrtI A0 g base cap p fa fc f n ((P ++ M1) ++ (M ++ Q)) w'))
       have HN2:=Zh (fun A' M1 (h:SrtI A0 g base cap p fa fc f n (P ++ (M1 ++ (L2 ++ (R2 ++ Q)))) A') (g1:¬ (mid < e /\ e < b))=>(by
        refine ⟨.refl _,?_,by rw [List.append_assoc,List.append_assoc];exact h⟩
        by_cases h1:mid < e
        ·rw [show R2 = [] from List.eq_nil_of_length_eq_zero (by omega),List.append_nil];exact xL2
        ·rw [show L2 = [] from List.eq_nil_of_length_eq_zero (by omega),List.nil_append];exact xR2:(L2 ++ R2).Perm (L2 ++ R2) /\ Lex f (L2 ++ R2) /\ SrtI A0 g base cap p fa fc f n ((P ++ M1) ++ ((L2 ++ R2) ++ Q)) A'))
       have HJ:=Zh (fun A' M1 M2 (p1:M1.Perm (L1 ++ R1)) (l1:Lex f M1) (p2:M2.Perm (L2 ++ R2)) (l2:Lex f M2) (h:SrtI A0 g base cap p fa fc f n ((P ++ M1) ++ (M2 ++ Q)) A')=>(by
        obtain ⟨j1,j2⟩:=Zkt f L1 L2 R1 R2 M1 M2 hcutA p1 l1 p2 l2
        rw [<- eL,<- eR] at j1
        refine ⟨M1 ++ M2,j1,j2,?_⟩
        rw [List.append_assoc] at h
        rw [List.append_assoc];exact h:∃ M,M.Perm (L ++ R) /\ Lex f M /\ SrtI A0 g base cap p fa fc f n (P ++ (M ++ Q)) A'))
       clear hcutA cr1 cr2 xL1 xL2 xR1 xR2 hLX hRX hCR hDD eL eR hL1 hL2 hR1 hR2 l1 l2 r1 r2 hNN hll hrr hs h4 h5 he hij hmidE HCUT
       rcases (show (i < m /\ m < e) \/ ¬ i < m \/ (i < m /\ ¬ m < e) by omega) with hA | hA | hA <;> rcases (show (a < i /\ i < mid) \/ ¬ a < i \/ (a < i /\ ¬ i < mid) by omega) with hB | hB | hB <;> rcases (show (mid < e /\ e < b) \/ ¬ mid < e \/ (mid < e /\ ¬ e < b) by omega) with hC | hC | hC
       ·have dA1:decide (i < m) = true:=by simp;omega
        have dA2:decide (m < e) = true:=by simp;omega
        have dB1:decide (a < i) = true:=by simp;omega
        have dB2:decide (i < mid) = true:=by simp;omega
        have dC1:decide (mid < e) = true:=by simp;omega
        have dC2:decide (e < b) = true:=by simp;omega
        go_wp2_with (first | (go_at_call 158;refine (HROT.out _ HS0.out (by omega) (by omega)).mono ?_;rintro e9 w9 ⟨rfl,hs9⟩;have HS1:=Zh hs9;clear hs9 HS0) | (go_at_call 156;refine (HM1.out _ HS1.out (by omega) (by omega)).mono ?_;rintro e9 w9 ⟨rfl,M1,p1,l1,hs9⟩;have HP1:=Zh p1;have HL1:=Zh l1;have HS2:=Zh hs9;clear hs9 p1 l1 HS1) | (go_at_call 156;refine (HM2.out _ _ HP1.out HS2.out (by omega) (by omega)).mono ?_;rintro e9 w9 ⟨rfl,M2,p2,l2,hs9⟩;have HP2:=Zh p2;have HL2:=Zh l2;have HS3:=Zh hs9;clear hs9 p2 l2 HS2))
        go_end0
        exact ⟨rfl,HJ.out _ _ _ HP1.out HL1.out HP2.out HL2.out HS3.out⟩
       ·have dA1:decide (i < m) = true:=by simp;omega
        have dA2:decide (m < e) = true:=by simp;omega
        have dB1:decide (a < i) = true:=by simp;omega
        have dB2:decide (i < mid) = true:=by simp;omega
        have dC1:decide (mid < e) = false:=by simp;omega
        go_wp2_with (first | (go_at_call 158;refine (HROT.out _ HS0.out (by omega) (by omega)).mono ?_;rintro e9 w9 ⟨rfl,hs9⟩;have HS1:=Zh hs9;clear hs9 HS0) | (go_at_call 156;refine (HM1.out _ HS1.out (by omega) (by omega)).mono ?_;rintro e9 w9 ⟨rfl,M1,p1,l1,hs9⟩;have HP1:=Zh p1;have HL1:=Zh l1;have HS2:=Zh hs9;clear hs9 p1 l1 HS1))
        obtain ⟨p2,l2,hs3⟩:=HN2.out _ _ HS2.out (fun h=>by omega)
        go_end0
        exact ⟨rfl,HJ.out _ _ _ HP1.out HL1.out p2 l2 hs3⟩
       ·have dA1:decide (i < m) = true:=by simp;omega
        have dA2:decide (m < e) = true:=by simp;omega
        have dB1:decide (a < i) = true:=by simp;omega
        have dB2:decide (i < mid) = true:=by simp;omega
        have dC1:decide (mid < e) = true:=by simp;omega
        have dC2:decide (e < b) = false:=by simp;omega
        go_wp2_with (first | (go_at_call 158;refine (HROT.out _ HS0.out (by omega) (by omega)).mono ?_;rintro e9 w9 ⟨rfl,hs9⟩;have HS1:=Zh hs9;clear hs9 HS0) | (go_at_call 156;refine (HM1.out _ HS1.out (by omega) (by omega)).mono ?_;rintro e9 w9 ⟨rfl,M1,p1,l1,hs9⟩;have HP1:=Zh p1;have HL1:=Zh l1;have HS2:=Zh hs9;clear hs9 p1 l1 HS1))
        obtain ⟨p2,l2,hs3⟩:=HN2.out _ _ HS2.out (fun h=>by omega)
        go_end0
        exact ⟨rfl,HJ.out _ _ _ HP1.out HL1.out p2 l2 hs3⟩
       ·have dA1:decide (i < m) = true:=by simp;omega
        have dA2:decide (m < e) = true:=by simp;omega
        have dB1:decide (a < i) = false:=by simp;omega
        have dC1:decide (mid < e) = true:=by simp;omega
        have dC2:decide (e < b) = true:=by simp;omega
        go_wp2_with (first | (go_at_call 158;refine (HROT.out _ HS0.out (by omega) (by omega)).mono ?_;rintro e9 w9 ⟨rfl,hs9⟩;have HS1:=Zh hs9;clear hs9 HS0;obtain ⟨p1,l1,hs2⟩:=HN1.out _ HS1.out (fun h=>by omega);have HP1:=Zh p1;have HL1:=Zh l1;have HS2:=Zh hs2;clear p1 l1 hs2 HS1) | (go_at_call 156;refine (HM2.out _ _ HP1.out HS2.out (by omega) (by omega)).mono ?_;rintro e9 w9 ⟨rfl,M2,p2,l2,hs9⟩;have HP2:=Zh p2;have HL2:=Zh l2;have HS3:=Zh hs9;clear hs9 p2 l2 HS2))
        go_end0
        exact ⟨rfl,HJ.out _ _ _ HP1.out HL1.out HP2.out HL2.out HS3.out⟩
       ·have dA1:decide (i < m) = true:=by simp;omega
        have dA2:decide (m < e) = true:=by simp;omega
        have dB1:decide (a < i) = false:=by simp;omega
        have dC1:decide (mid < e) = false:=by simp;omega
        go_wp2_with ((go_at_call 158;refine (HROT.out _ HS0.out (by omega) (by omega)).mono ?_;rintro e9 w9 ⟨rfl,hs9⟩;have HS1:=Zh hs9;clear hs9 HS0;obtain ⟨p1,l1,hs2⟩:=HN1.out _ HS1.out (fun h=>by omega);have HP1:=Zh p1;have HL1:=Zh l1;have HS2:=Zh hs2;clear p1 l1 hs2 HS1))
        obtain ⟨p2,l2,hs3⟩:=HN2.out _ _ HS2.out (fun h=>by omega)
        go_end0
        exact ⟨rfl,HJ.out _ _ _ HP1.out HL1.out p2 l2 hs3⟩
       ·have dA1:decide (i < m) = true:=by simp;omega
        have dA2:decide (m < e) = true:=by simp;omega
        have dB1:decide (a < i) = false:=by simp;omega
        have dC1:decide (mid < e) = true:=by simp;omega
        have dC2:decide (e < b) = false:=by simp;omega
        go_wp2_with ((go_at_call 158;refine (HROT.out _ HS0.out (by omega) (by omega)).mono ?_;rintro e9 w9 ⟨rfl,hs9⟩;have HS1:=Zh hs9;clear hs9 HS0;obtain ⟨p1,l1,hs2⟩:=HN1.out _ HS1.out (fun h=>by omega);have HP1:=Zh p1;have HL1:=Zh l1;have HS2:=Zh hs2;clear p1 l1 hs2 HS1))
        obtain ⟨p2,l2,hs3⟩:=HN2.out _ _ HS2.out (fun h=>by omega)
        go_end0
        exact ⟨rfl,HJ.out _ _ _ HP1.out HL1.out p2 l2 hs3⟩
       ·have dA1:decide (i < m) = true:=by simp;omega
        have dA2:decide (m < e) = true:=by simp;omega
        have dB1:decide (a < i) = true:=by simp;omega
        have dB2:decide (i < mid) = false:=by simp;omega
        have dC1:decide (mid < e) = true:=by simp;omega
        have dC2:decide (e < b) = true:=by simp;omega
        go_wp2_with (first | (go_at_call 158;refine (HROT.out _ HS0.out (by omega) (by omega)).mono ?_;rintro e9 w9 ⟨rfl,hs9⟩;have HS1:=Zh hs9;clear hs9 HS0;obtain ⟨p1,l1,hs2⟩:=HN1.out _ HS1.out (fun h=>by omega);have HP1:=Zh p1;have HL1:=Zh l1;have HS2:=Zh hs2;clear p1 l1 hs2 HS1) | (go_at_call 156;refine (HM2.out _ _ HP1.out HS2.out (by omega) (by omega)).mono ?_;rintro e9 w9 ⟨rfl,M2,p2,l2,hs9⟩;have HP2:=Zh p2;have HL2:=Zh l2;have HS3:=Zh hs9;clear hs9 p2 l2 HS2))
        go_end0
        exact ⟨rfl,HJ.out _ _ _ HP1.out HL1.out HP2.out HL2.out HS3.out⟩
       ·have dA1:decide (i < m) = true:=by simp;omega
        have dA2:decide (m < e) = true:=by simp;omega
        have dB1:decide (a < i) = true:=by simp;omega
        have dB2:decide (i < mid) = false:=by simp;omega
        have dC1:decide (mid < e) = false:=by simp;omega
        go_wp2_with ((go_at_call 158;refine (HROT.out _ HS0.out (by omega) (by omega)).mono ?_;rintro e9 w9 ⟨rfl,hs9⟩;have HS1:=Zh hs9;clear hs9 HS0;obtain ⟨p1,l1,hs2⟩:=HN1.out _ HS1.out (fun h=>by omega);have HP1:=Zh p1;have HL1:=Zh l1;have HS2:=Zh hs2;clear p1 l1 hs2 HS1))
        obtain ⟨p2,l2,hs3⟩:=HN2.out _ _ HS2.out (fun h=>by omega)
        go_end0
        exact ⟨rfl,HJ.out _ _ _ HP1.out HL1.out p2 l2 hs3⟩
       ·have dA1:decide (i < m) = true:=by simp;omega
        have dA2:decide (m < e) = true:=by simp;omega
        have dB1:decide (a < i) = true:=by simp;omega
        have dB2:decide (i < mid) = false:=by simp;omega
        have dC1:decide (mid < e) = true:=by simp;omega
        have dC2:decide (e < b) = false:=by simp;omega
        go_wp2_with ((go_at_call 158;refine (HROT.out _ HS0.out (by omega) (by omega)).mono ?_;rintro e9 w9 ⟨rfl,hs9⟩;have HS1:=Zh hs9;clear hs9 HS0;obtain ⟨p1,l1,hs2⟩:=HN1.out _ HS1.out (fun h=>by omega);have HP1:=Zh p1;have HL1:=Zh l1;have HS2:=Zh hs2;clear p1 l1 hs2 HS1))
        obtain ⟨p2,l2,hs3⟩:=HN2.out _ _ HS2.out (fun h=>by omega)
        go_end0
        exact ⟨rfl,HJ.out _ _ _ HP1.out HL1.out p2 l2 hs3⟩
       ·have dA1:decide (i < m) = false:=by simp;omega
        have dB1:decide (a < i) = true:=by simp;omega
        have dB2:decide (i < mid) = true:=by simp;omega
        have dC1:decide (mid < e) = true:=by simp;omega
        have dC2:decide (e < b) = true:=by simp;omega
        have HS1:=Zh (HEQ.out _ HS0.out (fun h=>by omega));clear HS0
        go_wp2_with (first | (go_at_call 156;refine (HM1.out _ HS1.out (by omega) (by omega)).mono ?_;rintro e9 w9 ⟨rfl,M1,p1,l1,hs9⟩;have HP1:=Zh p1;have HL1:=Zh l1;have HS2:=Zh hs9;clear hs9 p1 l1 HS1) | (go_at_call 156;refine (HM2.out _ _ HP1.out HS2.out (by omega) (by omega)).mono ?_;rintro e9 w9 ⟨rfl,M2,p2,l2,hs9⟩;have HP2:=Zh p2;have HL2:=Zh l2;have HS3:=Zh hs9;clear hs9 p2 l2 HS2))
        go_end0
        exact ⟨rfl,HJ.out _ _ _ HP1.out HL1.out HP2.out HL2.out HS3.out⟩
       ·have dA1:decide (i < m) = false:=by simp;omega
        have dB1:decide (a < i) = true:=by simp;omega
        have dB2:decide (i < mid) = true:=by simp;omega
        have dC1:decide (mid < e) = false:=by simp;omega
        have HS1:=Zh (HEQ.out _ HS0.out (fun h=>by omega));clear HS0
        go_wp2_with ((go_at_call 156;refine (HM1.out _ HS1.out (by omega) (by omega)).mono ?_;rintro e9 w9 ⟨rfl,M1,p1,l1,hs9⟩;have HP1:=Zh p1;have HL1:=Zh l1;have HS2:=Zh hs9;clear hs9 p1 l1 HS1))
        obtain ⟨p2,l2,hs3⟩:=HN2.out _ _ HS2.out (fun h=>by omega)
        go_end0
        exact ⟨rfl,HJ.out _ _ _ HP1.out HL1.out p2 l2 hs3⟩
       ·have dA1:decide (i < m) = false:=by simp;omega
        have dB1:decide (a < i) = true:=by simp;omega
        have dB2:decide (i < mid) = true:=by simp;omega
        have dC1:decide (mid < e) = true:=by simp;omega
        have dC2:decide (e < b) = false:=by simp;omega
        have HS1:=Zh (HEQ.out _ HS0.out (fun h=>by omega));clear HS0
        go_wp2_with ((go_at_call 156;refine (HM1.out _ HS1.out (by omega) (by omega)).mono ?_;rintro e9 w9 ⟨rfl,M1,p1,l1,hs9⟩;have HP1:=Zh p1;have HL1:=Zh l1;have HS2:=Zh hs9;clear hs9 p1 l1 HS1))
        obtain ⟨p2,l2,hs3⟩:=HN2.out _ _ HS2.out (fun h=>by omega)
        go_end0
        exact ⟨rfl,HJ.out _ _ _ HP1.out HL1.out p2 l2 hs3⟩
       ·have dA1:decide (i < m) = false:=by simp;omega
        have dB1:decide (a < i) = false:=by simp;omega
        have dC1:decide (mid < e) = true:=by simp;omega
        have dC2:decide (e < b) = true:=by simp;omega
        have HS1:=Zh (HEQ.out _ HS0.out (fun h=>by omega));clear HS0
        obtain ⟨p1,l1,hs2⟩:=HN1.out _ HS1.out (fun h=>by omega);have HP1:=Zh p1;have HL1:=Zh l1;have HS2:=Zh hs2;clear p1 l1 hs2 HS1
        go_wp2_with ((go_at_call 156;refine (HM2.out _ _ HP1.out HS2.out (by omega) (by omega)).mono ?_;rintro e9 w9 ⟨rfl,M2,p2,l2,hs9⟩;have HP2:=Zh p2;have HL2:=Zh l2;have HS3:=Zh hs9;clear hs9 p2 l2 HS2))
        go_end0
        exact ⟨rfl,HJ.out _ _ _ HP1.out HL1.out HP2.out HL2.out HS3.out⟩
       ·have dA1:decide (i < m) = false:=by simp;omega
        have dB1:decide (a < i) = false:=by simp;omega
        have dC1:decide (mid < e) = false:=by simp;omega
        have HS1:=Zh (HEQ.out _ HS0.out (fun h=>by omega));clear HS0
        obtain ⟨p1,l1,hs2⟩:=HN1.out _ HS1.out (fun h=>by omega);have HP1:=Zh p1;have HL1:=Zh l1;have HS2:=Zh hs2;clear p1 l1 hs2 HS1
        go_wp2
        obtain ⟨p2,l2,hs3⟩:=HN2.out _ _ HS2.out (fun h=>by omega)
        go_end0
        exact ⟨rfl,HJ.out _ _ _ HP1.out HL1.out p2 l2 hs3⟩
       ·have dA1:decide (i < m) = false:=by simp;omega
        have dB1:decide (a < i) = false:=by simp;omega
        have dC1:decide (mid < e) = true:=by simp;omega
        have dC2:decide (e < b) = false:=by simp;omega
        have HS1:=Zh (HEQ.out _ HS0.out (fun h=>by omega));clear HS0
        obtain ⟨p1,l1,hs2⟩:=HN1.out _ HS1.out (fun h=>by omega);have HP1:=Zh p1;have HL1:=Zh l1;have HS2:=Zh hs2;clear p1 l1 hs2 HS1
        go_wp2
        obtain ⟨p2,l2,hs3⟩:=HN2.out _ _ HS2.out (fun h=>by omega)
        go_end0
        exact ⟨rfl,HJ.out _ _ _ HP1.out HL1.out p2 l2 hs3⟩
       ·have dA1:decide (i < m) = false:=by simp;omega
        have dB1:decide (a < i) = true:=by simp;omega
        have dB2:decide (i < mid) = false:=by simp;omega
        have dC1:decide (mid < e) = true:=by simp;omega
        have dC2:decide (e < b) = true:=by simp;omega
        have HS1:=Zh (HEQ.out _ HS0.out (fun h=>by omega));clear HS0
        obtain ⟨p1,l1,hs2⟩:=HN1.out _ HS1.out (fun h=>by omega);have HP1:=Zh p1;have HL1:=Zh l1;have HS2:=Zh hs2;clear p1 l1 hs2 HS1
        go_wp2_with ((go_at_call 156;refine (HM2.out _ _ HP1.out HS2.out (by omega) (by omega)).mono ?_;rintro e9 w9 ⟨rfl,M2,p2,l2,hs9⟩;have HP2:=Zh p2;have HL2:=Zh l2;have HS3:=Zh hs9;clear hs9 p2 l2 HS2))
        go_end0
        exact ⟨rfl,HJ.out _ _ _ HP1.out HL1.out HP2.out HL2.out HS3.out⟩
       ·have dA1:decide (i < m) = false:=by simp;omega
        have dB1:decide (a < i) = true:=by simp;omega
        have dB2:decide (i < mid) = false:=by simp;omega
        have dC1:decide (mid < e) = false:=by simp;omega
        have HS1:=Zh (HEQ.out _ HS0.out (fun h=>by omega));clear HS0
        obtain ⟨p1,l1,hs2⟩:=HN1.out _ HS1.out (fun h=>by omega);have HP1:=Zh p1;have HL1:=Zh l1;have HS2:=Zh hs2;clear p1 l1 hs2 HS1
        go_wp2
        obtain ⟨p2,l2,hs3⟩:=HN2.out _ _ HS2.out (fun h=>by omega)
        go_end0
        exact ⟨rfl,HJ.out _ _ _ HP1.out HL1.out p2 l2 hs3⟩
       ·have dA1:decide (i < m) = false:=by simp;omega
        have dB1:decide (a < i) = true:=by simp;omega
        have dB2:decide (i < mid) = false:=by simp;omega
        have dC1:decide (mid < e) = true:=by simp;omega
        have dC2:decide (e < b) = false:=by simp;omega
        have HS1:=Zh (HEQ.out _ HS0.out (fun h=>by omega));clear HS0
        obtain ⟨p1,l1,hs2⟩:=HN1.out _ HS1.out (fun h=>by omega);have HP1:=Zh p1;have HL1:=Zh l1;have HS2:=Zh hs2;clear p1 l1 hs2 HS1
        go_wp2
        obtain ⟨p2,l2,hs3⟩:=HN2.out _ _ HS2.out (fun h=>by omega)
        go_end0
        exact ⟨rfl,HJ.out _ _ _ HP1.out HL1.out p2 l2 hs3⟩
       ·have dA1:decide (i < m) = true:=by simp;omega
        have dA2:decide (m < e) = false:=by simp;omega
        have dB1:decide (a < i) = true:=by simp;omega
        have dB2:decide (i < mid) = true:=by simp;omega
        have dC1:decide (mid < e) = true:=by simp;omega
        have dC2:decide (e < b) = true:=by simp;omega
        have HS1:=Zh (HEQ.out _ HS0.out (fun h=>by omega));clear HS0
        go_wp2_with (first | (go_at_call 156;refine (HM1.out _ HS1.out (by omega) (by omega)).mono ?_;rintro e9 w9 ⟨rfl,M1,p1,l1,hs9⟩;have HP1:=Zh p1;have HL1:=Zh l1;have HS2:=Zh hs9;clear hs9 p1 l1 HS1) | (go_at_call 156;refine (HM2.out _ _ HP1.out HS2.out (by omega) (by omega)).mono ?_;rintro e9 w9 ⟨rfl,M2,p2,l2,hs9⟩;have HP2:=Zh p2;have HL2:=Zh l2;have HS3:=Zh hs9;clear hs9 p2 l2 HS2))
        go_end0
        exact ⟨rfl,HJ.out _ _ _ HP1.out HL1.out HP2.out HL2.out HS3.out⟩
       ·have dA1:decide (i < m) = true:=by simp;omega
        have dA2:decide (m < e) = false:=by simp;omega
        have dB1:decide (a < i) = true:=by simp;omega
        have dB2:decide (i < mid) = true:=by simp;omega
        have dC1:decide (mid < e) = false:=by simp;omega
        have HS1:=Zh (HEQ.out _ HS0.out (fun h=>by omega));clear HS0
        go_wp2_with ((go_at_call 156;refine (HM1.out _ HS1.out (by omega) (by omega)).mono ?_;rintro e9 w9 ⟨rfl,M1,p1,l1,hs9⟩;have HP1:=Zh p1;have HL1:=Zh l1;have HS2:=Zh hs9;clear hs9 p1 l1 HS1))
        obtain ⟨p2,l2,hs3⟩:=HN2.out _ _ HS2.out (fun h=>by omega)
        go_end0
        exact ⟨rfl,HJ.out _ _ _ HP1.out HL1.out p2 l2 hs3⟩
       ·have dA1:decide (i < m) = true:=by simp;omega
        have dA2:decide (m < e) = false:=by simp;omega
        have dB1:decide (a < i) = true:=by simp;omega
        have dB2:decide (i < mid) = true:=by simp;omega
        have dC1:decide (mid < e) = true:=by simp;omega
        have dC2:decide (e < b) = false:=by simp;omega
        have HS1:=Zh (HEQ.out _ HS0.out (fun h=>by omega));clear HS0
        go_wp2_with ((go_at_call 156;refine (HM1.out _ HS1.out (by omega) (by omega)).mono ?_;rintro e9 w9 ⟨rfl,M1,p1,l1,hs9⟩;have HP1:=Zh p1;have HL1:=Zh l1;have HS2:=Zh hs9;clear hs9 p1 l1 HS1))
        obtain ⟨p2,l2,hs3⟩:=HN2.out _ _ HS2.out (fun h=>by omega)
        go_end0
        exact ⟨rfl,HJ.out _ _ _ HP1.out HL1.out p2 l2 hs3⟩
       ·have dA1:decide (i < m) = true:=by simp;omega
        have dA2:decide (m < e) = false:=by simp;omega
        have dB1:decide (a < i) = false:=by simp;omega
        have dC1:decide (mid < e) = true:=by simp;omega
        have dC2:decide (e < b) = true:=by simp;omega
        have HS1:=Zh (HEQ.out _ HS0.out (fun h=>by omega));clear HS0
        obtain ⟨p1,l1,hs2⟩:=HN1.out _ HS1.out (fun h=>by omega);have HP1:=Zh p1;have HL1:=Zh l1;have HS2:=Zh hs2;clear p1 l1 hs2 HS1
        go_wp2_with ((go_at_call 156;refine (HM2.out _ _ HP1.out HS2.out (by omega) (by omega)).mono ?_;rintro e9 w9 ⟨rfl,M2,p2,l2,hs9⟩;have HP2:=Zh p2;have HL2:=Zh l2;have HS3:=Zh hs9;clear hs9 p2 l2 HS2))
        go_end0
        exact ⟨rfl,HJ.out _ _ _ HP1.out HL1.out HP2.out HL2.out HS3.out⟩
       ·have dA1:decide (i < m) = true:=by simp;omega
        have dA2:decide (m < e) = false:=by simp;omega
        have dB1:decide (a < i) = false:=by simp;omega
        have dC1:decide (mid < e) = false:=by simp;omega
        have HS1:=Zh (HEQ.out _ HS0.out (fun h=>by omega));clear HS0
        obtain ⟨p1,l1,hs2⟩:=HN1.out _ HS1.out (fun h=>by omega);have HP1:=Zh p1;have HL1:=Zh l1;have HS2:=Zh hs2;clear p1 l1 hs2 HS1
        go_wp2
        obtain ⟨p2,l2,hs3⟩:=HN2.out _ _ HS2.out (fun h=>by omega)
        go_end0
        exact ⟨rfl,HJ.out _ _ _ HP1.out HL1.out p2 l2 hs3⟩
       ·have dA1:decide (i < m) = true:=by simp;omega
        have dA2:decide (m < e) = false:=by simp;omega
        have dB1:decide (a < i) = false:=by simp;omega
        have dC1:decide (mid < e) = true:=by simp;omega
        have dC2:decide (e < b) = false:=by simp;omega
        have HS1:=Zh (HEQ.out _ HS0.out (fun h=>by omega));clear HS0
        obtain ⟨p1,l1,hs2⟩:=HN1.out _ HS1.out (fun h=>by omega);have HP1:=Zh p1;have HL1:=Zh l1;have HS2:=Zh hs2;clear p1 l1 hs2 HS1
        go_wp2
        obtain ⟨p2,l2,hs3⟩:=HN2.out _ _ HS2.out (fun h=>by omega)
        go_end0
        exact ⟨rfl,HJ.out _ _ _ HP1.out HL1.out p2 l2 hs3⟩
       ·have dA1:decide (i < m) = true:=by simp;omega
        have dA2:decide (m < e) = false:=by simp;omega
        have dB1:decide (a < i) = true:=by simp;omega
        have dB2:decide (i < mid) = false:=by simp;omega
        have dC1:decide (mid < e) = true:=by simp;omega
        have dC2:decide (e < b) = true:=by simp;omega
        have HS1:=Zh (HEQ.out _ HS0.out (fun h=>by omega));clear HS0
        obtain ⟨p1,l1,hs2⟩:=HN1.out _ HS1.out (fun h=>by omega);have HP1:=Zh p1;have HL1:=Zh l1;have HS2:=Zh hs2;clear p1 l1 hs2 HS1
        go_wp2_with ((go_at_call 156;refine (HM2.out _ _ HP1.out HS2.out (by omega) (by omega)).mono ?_;rintro e9 w9 ⟨rfl,M2,p2,l2,hs9⟩;have HP2:=Zh p2;have HL2:=Zh l2;have HS3:=Zh hs9;clear hs9 p2 l2 HS2))
        go_end0
        exact ⟨rfl,HJ.out _ _ _ HP1.out HL1.out HP2.out HL2.out HS3.out⟩
       ·have dA1:decide (i < m) = true:=by simp;omega
        have dA2:decide (m < e) = false:=by simp;omega
        have dB1:decide (a < i) = true:=by simp;omega
        have dB2:decide (i < mid) = false:=by simp;omega
        have dC1:decide (mid < e) = false:=by simp;omega
        have HS1:=Zh (HEQ.out _ HS0.out (fun h=>by omega));clear HS0
        obtain ⟨p1,l1,hs2⟩:=HN1.out _ HS1.out (fun h=>by omega);have HP1:=Zh p1;have HL1:=Zh l1;have HS2:=Zh hs2;clear p1 l1 hs2 HS1
        go_wp2
        obtain ⟨p2,l2,hs3⟩:=HN2.out _ _ HS2.out (fun h=>by omega)
        go_end0
        exact ⟨rfl,HJ.out _ _ _ HP1.out HL1.out p2 l2 hs3⟩
       ·have dA1:decide (i < m) = true:=by simp;omega
        have dA2:decide (m < e) = false:=by simp;omega
        have dB1:decide (a < i) = true:=by simp;omega
        have dB2:decide (i < mid) = false:=by simp;omega
        have dC1:decide (mid < e) = true:=by simp;omega
        have dC2:decide (e < b) = false:=by simp;omega
        have HS1:=Zh (HEQ.out _ HS0.out (fun h=>by omega));clear HS0
        obtain ⟨p1,l1,hs2⟩:=HN1.out _ HS1.out (fun h=>by omega);have HP1:=Zh p1;have HL1:=Zh l1;have HS2:=Zh hs2;clear p1 l1 hs2 HS1
        go_wp2
        obtain ⟨p2,l2,hs3⟩:=HN2.out _ _ HS2.out (fun h=>by omega)
        go_end0
        exact ⟨rfl,HJ.out _ _ _ HP1.out HL1.out p2 l2 hs3⟩
    ·have b2:decide (mid < m) = false:=by simp;omega
     have hlo1:a <= a:=by omega
     have hhi1:m <= m:=by omega
     have hlohi:a <= m:=by omega
     have hpb:pp - a < b:=by omega
     have hph:m <= pp - m + 1:=by omega
     have hppb:m <= pp + 1:=by omega
     go_enter Tryz.func156,Tryz.ntmps156
     go_wp2
     go_loopw [20,21,23] (fun u v _ A'=>∃ i j,u = .int .i64 (i:Nat) /\ v = .int .i64 (j:Nat) /\ a <= i /\ i <= j /\ j <= m /\ (i = a \/ ¬ fLt f (D.getD (pp - (i - 1)) 0) (D.getD (i - 1) 0)) /\ (j = m \/ fLt f (D.getD (pp - j) 0) (D.getD j 0)) /\ SrtI A0 g base cap p fa fc f n D A') (fun u v _ _=>(intOf v).toNat - (intOf u).toNat)
     case atStart=>exact ⟨a,m,rfl,rfl,Nat.le_refl _,by omega,Nat.le_refl _,.inl rfl,.inl rfl,HI.out⟩
     case round =>
      clear HI
      obtain ⟨i,j,rfl,rfl,h1,h2,h3,h4,h5,hs⟩:=hrel
      by_cases hij:i < j
      ·have HS:=Zh hs
       have b9:decide (i < j) = true:=by simp;omega
       obtain ⟨s,hse⟩:∃ s,i + j = s:=⟨_,rfl⟩
       obtain ⟨h,hhe⟩:∃ h,s / 2 = h:=⟨_,rfl⟩
       have qs:(i:Int) + (j:Int) = (s:Int):=by omega
       have qsw:IntKind.i64.wrap (s:Int) = (s:Int):=IntWalk.i64_in _ (by omega)
       have qsu:IntKind.u64.wrap (s:Int) = (s:Int):=u64_in s (by omega)
       have qh:(s:Int) / 2 = (h:Int):=Zft s h (by omega) hhe
       have qhu:IntKind.u64.wrap (h:Int) = (h:Int):=u64_in h (by omega)
       have qhw:IntKind.i64.wrap (h:Int) = (h:Int):=IntWalk.i64_in _ (by omega)
       have hih:i <= h:=by omega
       have hhj:h < j:=by omega
       obtain ⟨ph,hphe⟩:∃ ph,pp - h = ph:=⟨_,rfl⟩
       have qph:(pp:Int) - (h:Int) = (ph:Int):=by omega
       have qphw:IntKind.i64.wrap (ph:Int) = (ph:Int):=IntWalk.i64_in _ (by omega)
       have hphb:ph < n:=by omega
       have HPH:=Zh hphe
       clear hphe
       obtain ⟨hcx,_⟩:=hs.at (i:=ph) (by omega)
       obtain ⟨hcy,_⟩:=hs.at (i:=h) (by omega)
       have HCMP:=Zh (fun q=>hs.cmp (i:=ph) (j:=h) (by omega) (by omega) q)
       have hlt:=Zls (f.getD (D.getD (ph) 0) 0) (f.getD (D.getD (h) 0) 0)
       obtain ⟨xx,hxx⟩:∃ xx,D.getD (ph) 0 = xx:=⟨_,rfl⟩
       obtain ⟨xy,hxy⟩:∃ xy,D.getD (h) 0 = xy:=⟨_,rfl⟩
       rw [hxx] at hcx HCMP hlt
       rw [hxy] at hcy HCMP hlt
       obtain ⟨cm,hcm⟩:∃ cm,cmpN (f.getD xx 0) (f.getD xy 0) = cm:=⟨_,rfl⟩
       rw [hcm] at HCMP hlt
       have HXX:=Zh hxx
       have HXY:=Zh hxy
       have H4:=Zh h4
       have H5:=Zh h5
       clear hcm hxx hxy h4 h5 hs hse hhe
       by_cases hc:f.getD xx 0 < f.getD xy 0
       ·have b3:decide (cm < 0) = true:=by rw [hlt];exact decide_eq_true hc
        have HCC:=Zh hc
        clear hlt hc
        go_wp2_with fail
        go_quiet ((go_at_call 119;exact (HCMP.out _)))
        go_wp2
        go_roundw
        case rel=>exact ⟨i,h,rfl,rfl,h1,hih,by omega,H4.out,.inr (by rw [HPH.out,HXX.out,HXY.out];exact HCC.out),HS.out.drewN _⟩
        case measure=>simp [intOf];omega
       ·have b3:decide (cm < 0) = false:=by rw [hlt];exact decide_eq_false hc
        have HCC:=Zh hc
        clear hlt hc
        go_wp2_with fail
        go_quiet ((go_at_call 119;exact (HCMP.out _)))
        go_wp2
        go_roundw
        case rel=>exact ⟨h + 1,j,by go_num,rfl,by omega,by omega,h3,.inr (by rw [Nat.add_sub_cancel,HPH.out,HXX.out,HXY.out];exact HCC.out),H5.out,HS.out.drewN _⟩
        case measure=>simp [intOf];omega
      ·have b3:decide (i < j) = false:=by simp;omega
       obtain rfl:i = j:=by omega
       obtain ⟨e,he⟩:∃ e,nn - i = e:=⟨_,rfl⟩
       have HS0:=Zh hs
       have heb:e <= b:=by omega
       have hme:m <= e:=by omega
       have hai:a <= i:=by omega
       have him:i <= m:=by omega
       have q6:(nn:Int) - (i:Int) = (e:Int):=by omega
       have hcutA:=HCUT.out i e hai him hme heb (by
        skip
        by_cases hz:i = a
        ·exact .inl hz
        ·rcases h4 with h | h
         ·exact absurd h hz
         ·rw [show pp - (i - 1) = e by omega] at h
          exact .inr (.inr h)) (by
        skip
        rcases h5 with h | h
        ·exact .inr (.inl h)
        ·rw [show pp - i = e - 1 by omega] at h
         exact .inr (.inr h))
       have hmidE:i + (e - m) = mid:=by omega
       have hNN:=HNN.out
       have hll:=HLM.out
       have hrr:=HRB.out
       obtain ⟨L1,hL1⟩:∃ L1,L.take (i - a) = L1:=⟨_,rfl⟩
       obtain ⟨L2,hL2⟩:∃ L2,L.drop (i - a) = L2:=⟨_,rfl⟩
       obtain ⟨R1,hR1⟩:∃ R1,R.take (e - m) = R1:=⟨_,rfl⟩
       obtain ⟨R2,hR2⟩:∃ R2,R.drop (e - m) = R2:=⟨_,rfl⟩
       have l1:L1.length = i - a:=by rw [<- hL1,List.length_take];omega
       have l2:L2.length = m - i:=by rw [<- hL2,List.length_drop];omega
       have r1:R1.length = e - m:=by rw [<- hR1,List.length_take];omega
       have r2:R2.length = b - e:=by rw [<- hR2,List.length_drop];omega
       have eL:L = L1 ++ L2:=by rw [<- hL1,<- hL2,List.take_append_drop]
       have eR:R = R1 ++ R2:=by rw [<- hR1,<- hR2,List.take_append_drop]
       rw [hL1,hL2,hR1,hR2] at hcutA
       have hLX:=HLX.out
       have hRX:=HRX.out
       have hCR:=HCR.out
       obtain ⟨xL1,xL2⟩:=Zdq hLX eL
       obtain ⟨xR1,xR2⟩:=Zdq hRX eR
       have cr1:∀ x ∈ L1,∀ y ∈ R1,x < y:=fun x hx y hy=>hCR x (by rw [eL];simp [hx]) y (by rw [eR];simp [hy])
       have cr2:∀ x ∈ L2,∀ y ∈ R2,x < y:=fun x hx y hy=>hCR x (by rw [eL];simp [hx]) y (by rw [eR];simp [hy])
       have hDD:D = (P ++ L1) ++ (L2 ++ (R1 ++ (R2 ++ Q))):=by rw [<- HDE.out,eL,eR];simp only [List.append_assoc]
       have HROT:=Zh (fun A' (h:SrtI A0 g base cap p fa fc f n D A') (g1:i < m) (g2:m < e)=>(by
        have hr:=rotate A0 A' g base cap p i m e (m - i) (e - m) fa fc f D (by rw [HDL.out];exact h) hp hfa (by omega) (by omega) (by omega) (by omega) (by rw [HDL.out];omega) (by rw [HDL.out];omega)
        have hl:=Zpb ((m - i) + (e - m)) (P ++ L1) L2 R1 (R2 ++ Q) (by omega) (by omega) (by omega)
        rw [<- hDD,show (P ++ L1).length + L2.length = m by rw [List.length_append,HPA.out];omega,l2,r1] at hl
        rw [HDL.out,hl] at hr
        exact hr:Calls Tryz.prog 158 #[.slice (some ⟨g,0,none⟩) n cap,.int .i64 (i:Nat),.int .i64 (m:Nat),.int .i64 (e:Nat),.func (.func 119) #[] #[.pointer (some ⟨p,0,none⟩)]] A' fun e w'=>e = .returned (.tuple #[]) /\ SrtI A0 g base cap p fa fc f n ((P ++ L1) ++ (R1 ++ (L2 ++ (R2 ++ Q)))) w'))
       have HEQ:=Zh (fun A' (h:SrtI A0 g base cap p fa fc f n D A') (g1:¬ (i < m /\ m < e))=>(by
        rw [hDD] at h
        have hz:L2 = [] \/ R1 = []:=by
         by_cases h1:i < m
         ·right;exact List.eq_nil_of_length_eq_zero (by omega)
         ·left;exact List.eq_nil_of_length_eq_zero (by omega)
        rcases hz with hz | hz
        ·rw [hz] at h ⊢;simpa using h
        ·rw [hz] at h ⊢;simpa using h:SrtI A0 g base cap p fa fc f n ((P ++ L1) ++ (R1 ++ (L2 ++ (R2 ++ Q)))) A'))
       have HM1:=Zh (fun A' (h:SrtI A0 g base cap p fa fc f n ((P ++ L1) ++ (R1 ++ (L2 ++ (R2 ++ Q)))) A') (g1:a < i) (g2:i < mid)=>(by
        have:=IH.out A' P L1 R1 (L2 ++ (R2 ++ Q)) (by omega) (by omega) (by omega) (by rw [<- List.append_assoc];exact h) xL1 xR1 cr1
        rw [HPA.out,show a + L1.length = i by omega,show i + R1.length = mid by omega] at this
        exact this:Calls Tryz.prog 156 #[.slice (some ⟨g,0,none⟩) n cap,.int .i64 (a:Nat),.int .i64 (i:Nat),.int .i64 (mid:Nat),.func (.func 119) #[] #[.pointer (some ⟨p,0,none⟩)]] A' fun e w'=>e = .returned (.tuple #[]) /\ ∃ M,M.Perm (L1 ++ R1) /\ Lex f M /\ SrtI A0 g base cap p fa fc f n (P ++ (M ++ (L2 ++ (R2 ++ Q)))) w'))
       have HN1:=Zh (fun A' (h:SrtI A0 g base cap p fa fc f n ((P ++ L1) ++ (R1 ++ (L2 ++ (R2 ++ Q)))) A') (g1:¬ (a < i /\ i < mid))=>(by
        refine ⟨.refl _,?_,by rw [List.append_assoc] at h;rw [List.append_assoc];exact h⟩
        by_cases h1:a < i
        ·rw [show R1 = [] from List.eq_nil_of_length_eq_zero (by omega),List.append_nil];exact xL1
        ·rw [show L1 = [] from List.eq_nil_of_length_eq_zero (by omega),List.nil_append];exact xR1:(L1 ++ R1).Perm (L1 ++ R1) /\ Lex f (L1 ++ R1) /\ SrtI A0 g base cap p fa fc f n (P ++ ((L1 ++ R1) ++ (L2 ++ (R2 ++ Q)))) A'))
       have HM2:=Zh (fun A' M1 (hl:M1.Perm (L1 ++ R1)) (h:SrtI A0 g base cap p fa fc f n (P ++ (M1 ++ (L2 ++ (R2 ++ Q)))) A') (g1:mid < e) (g2:e < b)=>(by
        have hl1:=hl.length_eq
        rw [List.length_append] at hl1
        have:=IH.out A' (P ++ M1) L2 R2 Q (by omega) (by omega) (by omega) (by rw [List.append_assoc];exact h) xL2 xR2 cr2
        rw [List.length_append,HPA.out,show a + M1.length = mid by omega,show mid + L2.length = e by omega,show e + R2.length = b by omega] at this
        exact this:Calls Tryz.prog 156 #[.slice (some ⟨g,0,none⟩) n cap,.int .i64 (mid:Nat),.int .i64 (e:Nat),.int .i64 (b:Nat),.func (.func 119) #[] #[.pointer (some ⟨p,0,none⟩)]] A' fun e w'=>e = .returned (.tuple #[]) /\ ∃ M,M.Perm (L2 ++ R2) /\ Lex f M /\ SrtI A0 g base cap p fa fc f n ((P ++ M1) ++ (M ++ Q)) w'))
       have HN2:=Zh (fun A' M1 (h:SrtI A0 g base cap p fa fc f n (P ++ (M1 ++ (L2 ++ (R2 ++ Q)))) A') (g1:¬ (mid < e /\ e < b))=>(by
        refine ⟨.refl _,?_,by rw [List.append_assoc,List.append_assoc];exact h⟩
        by_cases h1:mid < e
        ·rw [show R2 = [] from List.eq_nil_of_length_eq_zero (by omega),List.append_nil];exact xL2
        ·rw [show L2 = [] from List.eq_nil_of_length_eq_zero (by omega),List.nil_append];exact xR2:(L2 ++ R2).Perm (L2 ++ R2) /\ Lex f (L2 ++ R2) /\ SrtI A0 g base cap p fa fc f n ((P ++ M1) ++ ((L2 ++ R2) ++ Q)) A'))
       have HJ:=Zh (fun A' M1 M2 (p1:M1.Perm (L1 ++ R1)) (l1:Lex f M1) (p2:M2.Perm (L2 ++ R2)) (l2:Lex f M2) (h:SrtI A0 g base cap p fa fc f n ((P ++ M1) ++ (M2 ++ Q)) A')=>(by
        obtain ⟨j1,j2⟩:=Zkt f L1 L2 R1 R2 M1 M2 hcutA p1 l1 p2 l2
        rw [<- eL,<- eR] at j1
        refine ⟨M1 ++ M2,j1,j2,?_⟩
        rw [List.append_assoc] at h
        rw [List.append_assoc];exact h:∃ M,M.Perm (L ++ R) /\ Lex f M /\ SrtI A0 g base cap p fa fc f n (P ++ (M ++ Q)) A'))
       clear hcutA cr1 cr2 xL1 xL2 xR1 xR2 hLX hRX hCR hDD eL eR hL1 hL2 hR1 hR2 l1 l2 r1 r2 hNN hll hrr hs h4 h5 he hij hmidE HCUT
       rcases (show (i < m /\ m < e) \/ ¬ i < m \/ (i < m /\ ¬ m < e) by omega) with hA | hA | hA <;> rcases (show (a < i /\ i < mid) \/ ¬ a < i \/ (a < i /\ ¬ i < mid) by omega) with hB | hB | hB <;> rcases (show (mid < e /\ e < b) \/ ¬ mid < e \/ (mid < e /\ ¬ e < b) by omega) with hC | hC | hC
       ·have dA1:decide (i < m) = true:=by simp;omega
        have dA2:decide (m < e) = true:=by simp;omega
        have dB1:decide (a < i) = true:=by simp;omega
        have dB2:decide (i < mid) = true:=by simp;omega
        have dC1:decide (mid < e) = true:=by simp;omega
        have dC2:decide (e < b) = true:=by simp;omega
        go_wp2_with (first | (go_at_call 158;refine (HROT.out _ HS0.out (by omega) (by omega)).mono ?_;rintro e9 w9 ⟨rfl,hs9⟩;have HS1:=Zh hs9;clear hs9 HS0) | (go_at_call 156;refine (HM1.out _ HS1.out (by omega) (by omega)).mono ?_;rintro e9 w9 ⟨rfl,M1,p1,l1,hs9⟩;have HP1:=Zh p1;have HL1:=Zh l1;have HS2:=Zh hs9;clear hs9 p1 l1 HS1) | (go_at_call 156;refine (HM2.out _ _ HP1.out HS2.out (by omega) (by omega)).mono ?_;rintro e9 w9 ⟨rfl,M2,p2,l2,hs9⟩;have HP2:=Zh p2;have HL2:=Zh l2;have HS3:=Zh hs9;clear hs9 p2 l2 HS2))
        go_end0
        exact ⟨rfl,HJ.out _ _ _ HP1.out HL1.out HP2.out HL2.out HS3.out⟩
       ·have dA1:decide (i < m) = true:=by simp;omega
        have dA2:decide (m < e) = true:=by simp;omega
        have dB1:decide (a < i) = true:=by simp;omega
        have dB2:decide (i < mid) = true:=by simp;omega
        have dC1:decide (mid < e) = false:=by simp;omega
        go_wp2_with (first | (go_at_call 158;refine (HROT.out _ HS0.out (by omega) (by omega)).mono ?_;rintro e9 w9 ⟨rfl,hs9⟩;have HS1:=Zh hs9;clear hs9 HS0) | (go_at_call 156;refine (HM1.out _ HS1.out (by omega) (by omega)).mono ?_;rintro e9 w9 ⟨rfl,M1,p1,l1,hs9⟩;have HP1:=Zh p1;have HL1:=Zh l1;have HS2:=Zh hs9;clear hs9 p1 l1 HS1))
        obtain ⟨p2,l2,hs3⟩:=HN2.out _ _ HS2.out (fun h=>by omega)
        go_end0
        exact ⟨rfl,HJ.out _ _ _ HP1.out HL1.out p2 l2 hs3⟩
       ·have dA1:decide (i < m) = true:=by simp;omega
        have dA2:decide (m < e) = true:=by simp;omega
        have dB1:decide (a < i) = true:=by simp;omega
        have dB2:decide (i < mid) = true:=by simp;omega
        have dC1:decide (mid < e) = true:=by simp;omega
        have dC2:decide (e < b) = false:=by simp;omega
        go_wp2_with (first | (go_at_call 158;refine (HROT.out _ HS0.out (by omega) (by omega)).mono ?_;rintro e9 w9 ⟨rfl,hs9⟩;have HS1:=Zh hs9;clear hs9 HS0) | (go_at_call 156;refine (HM1.out _ HS1.out (by omega) (by omega)).mono ?_;rintro e9 w9 ⟨rfl,M1,p1,l1,hs9⟩;have HP1:=Zh p1;have HL1:=Zh l1;have HS2:=Zh hs9;clear hs9 p1 l1 HS1))
        obtain ⟨p2,l2,hs3⟩:=HN2.out _ _ HS2.out (fun h=>by omega)
        go_end0
        exact ⟨rfl,HJ.out _ _ _ HP1.out HL1.out p2 l2 hs3⟩
       ·have dA1:decide (i < m) = true:=by simp;omega
        have dA2:decide (m < e) = true:=by simp;omega
        have dB1:decide (a < i) = false:=by simp;omega
        have dC1:decide (mid < e) = true:=by simp;omega
        have dC2:decide (e < b) = true:=by simp;omega
        go_wp2_with (first | (go_at_call 158;refine (HROT.out _ HS0.out (by omega) (by omega)).mono ?_;rintro e9 w9 ⟨rfl,hs9⟩;have HS1:=Zh hs9;clear hs9 HS0;obtain ⟨p1,l1,hs2⟩:=HN1.out _ HS1.out (fun h=>by omega);have HP1:=Zh p1;have HL1:=Zh l1;have HS2:=Zh hs2;clear p1 l1 hs2 HS1) | (go_at_call 156;refine (HM2.out _ _ HP1.out HS2.out (by omega) (by omega)).mono ?_;rintro e9 w9 ⟨rfl,M2,p2,l2,hs9⟩;have HP2:=Zh p2;have HL2:=Zh l2;have HS3:=Zh hs9;clear hs9 p2 l2 HS2))
        go_end0
        exact ⟨rfl,HJ.out _ _ _ HP1.out HL1.out HP2.out HL2.out HS3.out⟩
       ·have dA1:decide (i < m) = true:=by simp;omega
        have dA2:decide (m < e) = true:=by simp;omega
        have dB1:decide (a < i) = false:=by simp;omega
        have dC1:decide (mid < e) = false:=by simp;omega
        go_wp2_with ((go_at_call 158;refine (HROT.out _ HS0.out (by omega) (by omega)).mono ?_;rintro e9 w9 ⟨rfl,hs9⟩;have HS1:=Zh hs9;clear hs9 HS0;obtain ⟨p1,l1,hs2⟩:=HN1.out _ HS1.out (fun h=>by omega);have HP1:=Zh p1;have HL1:=Zh l1;have HS2:=Zh hs2;clear p1 l1 hs2 HS1))
        obtain ⟨p2,l2,hs3⟩:=HN2.out _ _ HS2.out (fun h=>by omega)
        go_end0
        exact ⟨rfl,HJ.out _ _ _ HP1.out HL1.out p2 l2 hs3⟩
       ·have dA1:decide (i < m) = true:=by simp;omega
        have dA2:decide (m < e) = true:=by simp;omega
        have dB1:decide (a < i) = false:=by simp;omega
        have dC1:decide (mid < e) = true:=by simp;omega
        have dC2:decide (e < b) = false:=by simp;omega
        go_wp2_with ((go_at_call 158;refine (HROT.out _ HS0.out (by omega) (by omega)).mono ?_;rintro e9 w9 ⟨rfl,hs9⟩;have HS1:=Zh hs9;clear hs9 HS0;obtain ⟨p1,l1,hs2⟩:=HN1.out _ HS1.out (fun h=>by omega);have HP1:=Zh p1;have HL1:=Zh l1;have HS2:=Zh hs2;clear p1 l1 hs2 HS1))
        obtain ⟨p2,l2,hs3⟩:=HN2.out _ _ HS2.out (fun h=>by omega)
        go_end0
        exact ⟨rfl,HJ.out _ _ _ HP1.out HL1.out p2 l2 hs3⟩
       ·have dA1:decide (i < m) = true:=by simp;omega
        have dA2:decide (m < e) = true:=by simp;omega
        have dB1:decide (a < i) = true:=by simp;omega
        have dB2:decide (i < mid) = false:=by simp;omega
        have dC1:decide (mid < e) = true:=by simp;omega
        have dC2:decide (e < b) = true:=by simp;omega
        go_wp2_with (first | (go_at_call 158;refine (HROT.out _ HS0.out (by omega) (by omega)).mono ?_;rintro e9 w9 ⟨rfl,hs9⟩;have HS1:=Zh hs9;clear hs9 HS0;obtain ⟨p1,l1,hs2⟩:=HN1.out _ HS1.out (fun h=>by omega);have HP1:=Zh p1;have HL1:=Zh l1;have HS2:=Zh hs2;clear p1 l1 hs2 HS1) | (go_at_call 156;refine (HM2.out _ _ HP1.out HS2.out (by omega) (by omega)).mono ?_;rintro e9 w9 ⟨rfl,M2,p2,l2,hs9⟩;have HP2:=Zh p2;have HL2:=Zh l2;have HS3:=Zh hs9;clear hs9 p2 l2 HS2))
        go_end0
        exact ⟨rfl,HJ.out _ _ _ HP1.out HL1.out HP2.out HL2.out HS3.out⟩
       ·have dA1:decide (i < m) = true:=by simp;omega
        have dA2:decide (m < e) = true:=by simp;omega
        have dB1:decide (a < i) = true:=by simp;omega
        have dB2:decide (i < mid) = false:=by simp;omega
        have dC1:decide (mid < e) = false:=by simp;omega
        go_wp2_with ((go_at_call 158;refine (HROT.out _ HS0.out (by omega) (by omega)).mono ?_;rintro e9 w9 ⟨rfl,hs9⟩;have HS1:=Zh hs9;clear hs9 HS0;obtain ⟨p1,l1,hs2⟩:=HN1.out _ HS1.out (fun h=>by omega);have HP1:=Zh p1;have HL1:=Zh l1;have HS2:=Zh hs2;clear p1 l1 hs2 HS1))
        obtain ⟨p2,l2,hs3⟩:=HN2.out _ _ HS2.out (fun h=>by omega)
        go_end0
        exact ⟨rfl,HJ.out _ _ _ HP1.out HL1.out p2 l2 hs3⟩
       ·have dA1:decide (i < m) = true:=by simp;omega
        have dA2:decide (m < e) = true:=by simp;omega
        have dB1:decide (a < i) = true:=by simp;omega
        have dB2:decide (i < mid) = false:=by simp;omega
        have dC1:decide (mid < e) = true:=by simp;omega
        have dC2:decide (e < b) = false:=by simp;omega
        go_wp2_with ((go_at_call 158;refine (HROT.out _ HS0.out (by omega) (by omega)).mono ?_;rintro e9 w9 ⟨rfl,hs9⟩;have HS1:=Zh hs9;clear hs9 HS0;obtain ⟨p1,l1,hs2⟩:=HN1.out _ HS1.out (fun h=>by omega);have HP1:=Zh p1;have HL1:=Zh l1;have HS2:=Zh hs2;clear p1 l1 hs2 HS1))
        obtain ⟨p2,l2,hs3⟩:=HN2.out _ _ HS2.out (fun h=>by omega)
        go_end0
        exact ⟨rfl,HJ.out _ _ _ HP1.out HL1.out p2 l2 hs3⟩
       ·have dA1:decide (i < m) = false:=by simp;omega
        have dB1:decide (a < i) = true:=by simp;omega
        have dB2:decide (i < mid) = true:=by simp;omega
        have dC1:decide (mid < e) = true:=by simp;omega
        have dC2:decide (e < b) = true:=by simp;omega
        have HS1:=Zh (HEQ.out _ HS0.out (fun h=>by omega));clear HS0
        go_wp2_with (first | (go_at_call 156;refine (HM1.out _ HS1.out (by omega) (by omega)).mono ?_;rintro e9 w9 ⟨rfl,M1,p1,l1,hs9⟩;have HP1:=Zh p1;have HL1:=Zh l1;have HS2:=Zh hs9;clear hs9 p1 l1 HS1) | (go_at_call 156;refine (HM2.out _ _ HP1.out HS2.out (by omega) (by omega)).mono ?_;rintro e9 w9 ⟨rfl,M2,p2,l2,hs9⟩;have HP2:=Zh p2;have HL2:=Zh l2;have HS3:=Zh hs9;clear hs9 p2 l2 HS2))
        go_end0
        exact ⟨rfl,HJ.out _ _ _ HP1.out HL1.out HP2.out HL2.out HS3.out⟩
       ·have dA1:decide (i < m) = false:=by simp;omega
        have dB1:decide (a < i) = true:=by simp;omega
        have dB2:decide (i < mid) = true:=by simp;omega
        have dC1:decide (mid < e) = false:=by simp;omega
        have HS1:=Zh (HEQ.out _ HS0.out (fun h=>by omega));clear HS0
        go_wp2_with ((go_at_call 156;refine (HM1.out _ HS1.out (by omega) (by omega)).mono ?_;rintro e9 w9 ⟨rfl,M1,p1,l1,hs9⟩;have HP1:=Zh p1;have HL1:=Zh l1;have HS2:=Zh hs9;clear hs9 p1 l1 HS1))
        obtain ⟨p2,l2,hs3⟩:=HN2.out _ _ HS2.out (fun h=>by omega)
        go_end0
        exact ⟨rfl,HJ.out _ _ _ HP1.out HL1.out p2 l2 hs3⟩
       ·have dA1:decide (i < m) = false:=by simp;omega
        have dB1:decide (a < i) = true:=by simp;omega
        have dB2:decide (i < mid) = true:=by simp;omega
        have dC1:decide (mid < e) = true:=by simp;omega
        have dC2:decide (e < b) = false:=by simp;omega
        have HS1:=Zh (HEQ.out _ HS0.out (fun h=>by omega));clear HS0
        go_wp2_with ((go_at_call 156;refine (HM1.out _ HS1.out (by omega) (by omega)).mono ?_;rintro e9 w9 ⟨rfl,M1,p1,l1,hs9⟩;have HP1:=Zh p1;have HL1:=Zh l1;have HS2:=Zh hs9;clear hs9 p1 l1 HS1))
        obtain ⟨p2,l2,hs3⟩:=HN2.out _ _ HS2.out (fun h=>by omega)
        go_end0
        exact ⟨rfl,HJ.out _ _ _ HP1.out HL1.out p2 l2 hs3⟩
       ·have dA1:decide (i < m) = false:=by simp;omega
        have dB1:decide (a < i) = false:=by simp;omega
        have dC1:decide (mid < e) = true:=by simp;omega
        have dC2:decide (e < b) = true:=by simp;omega
        have HS1:=Zh (HEQ.out _ HS0.out (fun h=>by omega));clear HS0
        obtain ⟨p1,l1,hs2⟩:=HN1.out _ HS1.out (fun h=>by omega);have HP1:=Zh p1;have HL1:=Zh l1;have HS2:=Zh hs2;clear p1 l1 hs2 HS1
        go_wp2_with ((go_at_call 156;refine (HM2.out _ _ HP1.out HS2.out (by omega) (by omega)).mono ?_;rintro e9 w9 ⟨rfl,M2,p2,l2,hs9⟩;have HP2:=Zh p2;have HL2:=Zh l2;have HS3:=Zh hs9;clear hs9 p2 l2 HS2))
        go_end0
        exact ⟨rfl,HJ.out _ _ _ HP1.out HL1.out HP2.out HL2.out HS3.out⟩
       ·have dA1:decide (i < m) = false:=by simp;omega
        have dB1:decide (a < i) = false:=by simp;omega
        have dC1:decide (mid < e) = false:=by simp;omega
        have HS1:=Zh (HEQ.out _ HS0.out (fun h=>by omega));clear HS0
        obtain ⟨p1,l1,hs2⟩:=HN1.out _ HS1.out (fun h=>by omega);have HP1:=Zh p1;have HL1:=Zh l1;have HS2:=Zh hs2;clear p1 l1 hs2 HS1
        go_wp2
        obtain ⟨p2,l2,hs3⟩:=HN2.out _ _ HS2.out (fun h=>by omega)
        go_end0
        exact ⟨rfl,HJ.out _ _ _ HP1.out HL1.out p2 l2 hs3⟩
       ·have dA1:decide (i < m) = false:=by simp;omega
        have dB1:decide (a < i) = false:=by simp;omega
        have dC1:decide (mid < e) = true:=by simp;omega
        have dC2:decide (e < b) = false:=by simp;omega
        have HS1:=Zh (HEQ.out _ HS0.out (fun h=>by omega));clear HS0
        obtain ⟨p1,l1,hs2⟩:=HN1.out _ HS1.out (fun h=>by omega);have HP1:=Zh p1;have HL1:=Zh l1;have HS2:=Zh hs2;clear p1 l1 hs2 HS1
        go_wp2
        obtain ⟨p2,l2,hs3⟩:=HN2.out _ _ HS2.out (fun h=>by omega)
        go_end0
        exact ⟨rfl,HJ.out _ _ _ HP1.out HL1.out p2 l2 hs3⟩
       ·have dA1:decide (i < m) = false:=by simp;omega
        have dB1:decide (a < i) = true:=by simp;omega
        have dB2:decide (i < mid) = false:=by simp;omega
        have dC1:decide (mid < e) = true:=by simp;omega
        have dC2:decide (e < b) = true:=by simp;omega
        have HS1:=Zh (HEQ.out _ HS0.out (fun h=>by omega));clear HS0
        obtain ⟨p1,l1,hs2⟩:=HN1.out _ HS1.out (fun h=>by omega);have HP1:=Zh p1;have HL1:=Zh l1;have HS2:=Zh hs2;clear p1 l1 hs2 HS1
        go_wp2_with ((go_at_call 156;refine (HM2.out _ _ HP1.out HS2.out (by omega) (by omega)).mono ?_;rintro e9 w9 ⟨rfl,M2,p2,l2,hs9⟩;have HP2:=Zh p2;have HL2:=Zh l2;have HS3:=Zh hs9;clear hs9 p2 l2 HS2))
        go_end0
        exact ⟨rfl,HJ.out _ _ _ HP1.out HL1.out HP2.out HL2.out HS3.out⟩
       ·have dA1:decide (i < m) = false:=by simp;omega
        have dB1:decide (a < i) = true:=by simp;omega
        have dB2:decide (i < mid) = false:=by simp;omega
        have dC1:decide (mid < e) = false:=by simp;omega
        have HS1:=Zh (HEQ.out _ HS0.out (fun h=>by omega));clear HS0
        obtain ⟨p1,l1,hs2⟩:=HN1.out _ HS1.out (fun h=>by omega);have HP1:=Zh p1;have HL1:=Zh l1;have HS2:=Zh hs2;clear p1 l1 hs2 HS1
        go_wp2
        obtain ⟨p2,l2,hs3⟩:=HN2.out _ _ HS2.out (fun h=>by omega)
        go_end0
        exact ⟨rfl,HJ.out _ _ _ HP1.out HL1.out p2 l2 hs3⟩
       ·have dA1:decide (i < m) = false:=by simp;omega
        have dB1:decide (a < i) = true:=by simp;omega
        have dB2:decide (i < mid) = false:=by simp;omega
        have dC1:decide (mid < e) = true:=by simp;omega
        have dC2:decide (e < b) = false:=by simp;omega
        have HS1:=Zh (HEQ.out _ HS0.out (fun h=>by omega));clear HS0
        obtain ⟨p1,l1,hs2⟩:=HN1.out _ HS1.out (fun h=>by omega);have HP1:=Zh p1;have HL1:=Zh l1;have HS2:=Zh hs2;clear p1 l1 hs2 HS1
        go_wp2
        obtain ⟨p2,l2,hs3⟩:=HN2.out _ _ HS2.out (fun h=>by omega)
        go_end0
        exact ⟨rfl,HJ.out _ _ _ HP1.out HL1.out p2 l2 hs3⟩
       ·have dA1:decide (i < m) = true:=by simp;omega
        have dA2:decide (m < e) = false:=by simp;omega
        have dB1:decide (a < i) = true:=by simp;omega
        have dB2:decide (i < mid) = true:=by simp;omega
        have dC1:decide (mid < e) = true:=by simp;omega
        have dC2:decide (e < b) = true:=by simp;omega
        have HS1:=Zh (HEQ.out _ HS0.out (fun h=>by omega));clear HS0
        go_wp2_with (first | (go_at_call 156;refine (HM1.out _ HS1.out (by omega) (by omega)).mono ?_;rintro e9 w9 ⟨rfl,M1,p1,l1,hs9⟩;have HP1:=Zh p1;have HL1:=Zh l1;have HS2:=Zh hs9;clear hs9 p1 l1 HS1) | (go_at_call 156;refine (HM2.out _ _ HP1.out HS2.out (by omega) (by omega)).mono ?_;rintro e9 w9 ⟨rfl,M2,p2,l2,hs9⟩;have HP2:=Zh p2;have HL2:=Zh l2;have HS3:=Zh hs9;clear hs9 p2 l2 HS2))
        go_end0
        exact ⟨rfl,HJ.out _ _ _ HP1.out HL1.out HP2.out HL2.out HS3.out⟩
       ·have dA1:decide (i < m) = true:=by simp;omega
        have dA2:decide (m < e) = false:=by simp;omega
        have dB1:decide (a < i) = true:=by simp;omega
        have dB2:decide (i < mid) = true:=by simp;omega
        have dC1:decide (mid < e) = false:=by simp;omega
        have HS1:=Zh (HEQ.out _ HS0.out (fun h=>by omega));clear HS0
        go_wp2_with ((go_at_call 156;refine (HM1.out _ HS1.out (by omega) (by omega)).mono ?_;rintro e9 w9 ⟨rfl,M1,p1,l1,hs9⟩;have HP1:=Zh p1;have HL1:=Zh l1;have HS2:=Zh hs9;clear hs9 p1 l1 HS1))
        obtain ⟨p2,l2,hs3⟩:=HN2.out _ _ HS2.out (fun h=>by omega)
        go_end0
        exact ⟨rfl,HJ.out _ _ _ HP1.out HL1.out p2 l2 hs3⟩
       ·have dA1:decide (i < m) = true:=by simp;omega
        have dA2:decide (m < e) = false:=by simp;omega
        have dB1:decide (a < i) = true:=by simp;omega
        have dB2:decide (i < mid) = true:=by simp;omega
        have dC1:decide (mid < e) = true:=by simp;omega
        have dC2:decide (e < b) = false:=by simp;omega
        have HS1:=Zh (HEQ.out _ HS0.out (fun h=>by omega));clear HS0
        go_wp2_with ((go_at_call 156;refine (HM1.out _ HS1.out (by omega) (by omega)).mono ?_;rintro e9 w9 ⟨rfl,M1,p1,l1,hs9⟩;have HP1:=Zh p1;have HL1:=Zh l1;have HS2:=Zh hs9;clear hs9 p1 l1 HS1))
        obtain ⟨p2,l2,hs3⟩:=HN2.out _ _ HS2.out (fun h=>by omega)
        go_end0
        exact ⟨rfl,HJ.out _ _ _ HP1.out HL1.out p2 l2 hs3⟩
       ·have dA1:decide (i < m) = true:=by simp;omega
        have dA2:decide (m < e) = false:=by simp;omega
        have dB1:decide (a < i) = false:=by simp;omega
        have dC1:decide (mid < e) = true:=by simp;omega
        have dC2:decide (e < b) = true:=by simp;omega
        have HS1:=Zh (HEQ.out _ HS0.out (fun h=>by omega));clear HS0
        obtain ⟨p1,l1,hs2⟩:=HN1.out _ HS1.out (fun h=>by omega);have HP1:=Zh p1;have HL1:=Zh l1;have HS2:=Zh hs2;clear p1 l1 hs2 HS1
        go_wp2_with ((go_at_call 156;refine (HM2.out _ _ HP1.out HS2.out (by omega) (by omega)).mono ?_;rintro e9 w9 ⟨rfl,M2,p2,l2,hs9⟩;have HP2:=Zh p2;have HL2:=Zh l2;have HS3:=Zh hs9;clear hs9 p2 l2 HS2))
        go_end0
        exact ⟨rfl,HJ.out _ _ _ HP1.out HL1.out HP2.out HL2.out HS3.out⟩
       ·have dA1:decide (i < m) = true:=by simp;omega
        have dA2:decide (m < e) = false:=by simp;omega
        have dB1:decide (a < i) = false:=by simp;omega
        have dC1:decide (mid < e) = false:=by simp;omega
        have HS1:=Zh (HEQ.out _ HS0.out (fun h=>by omega));clear HS0
        obtain ⟨p1,l1,hs2⟩:=HN1.out _ HS1.out (fun h=>by omega);have HP1:=Zh p1;have HL1:=Zh l1;have HS2:=Zh hs2;clear p1 l1 hs2 HS1
        go_wp2
        obtain ⟨p2,l2,hs3⟩:=HN2.out _ _ HS2.out (fun h=>by omega)
        go_end0
        exact ⟨rfl,HJ.out _ _ _ HP1.out HL1.out p2 l2 hs3⟩
       ·have dA1:decide (i < m) = true:=by simp;omega
        have dA2:decide (m < e) = false:=by simp;omega
        have dB1:decide (a < i) = false:=by simp;omega
        have dC1:decide (mid < e) = true:=by simp;omega
        have dC2:decide (e < b) = false:=by simp;omega
        have HS1:=Zh (HEQ.out _ HS0.out (fun h=>by omega));clear HS0
        obtain ⟨p1,l1,hs2⟩:=HN1.out _ HS1.out (fun h=>by omega);have HP1:=Zh p1;have HL1:=Zh l1;have HS2:=Zh hs2;clear p1 l1 hs2 HS1
        go_wp2
        obtain ⟨p2,l2,hs3⟩:=HN2.out _ _ HS2.out (fun h=>by omega)
        go_end0
        exact ⟨rfl,HJ.out _ _ _ HP1.out HL1.out p2 l2 hs3⟩
       ·have dA1:decide (i < m) = true:=by simp;omega
        have dA2:decide (m < e) = false:=by simp;omega
        have dB1:decide (a < i) = true:=by simp;omega
        have dB2:decide (i < mid) = false:=by simp;omega
        have dC1:decide (mid < e) = true:=by simp;omega
        have dC2:decide (e < b) = true:=by simp;omega
        have HS1:=Zh (HEQ.out _ HS0.out (fun h=>by omega));clear HS0
        obtain ⟨p1,l1,hs2⟩:=HN1.out _ HS1.out (fun h=>by omega);have HP1:=Zh p1;have HL1:=Zh l1;have HS2:=Zh hs2;clear p1 l1 hs2 HS1
        go_wp2_with ((go_at_call 156;refine (HM2.out _ _ HP1.out HS2.out (by omega) (by omega)).mono ?_;rintro e9 w9 ⟨rfl,M2,p2,l2,hs9⟩;have HP2:=Zh p2;have HL2:=Zh l2;have HS3:=Zh hs9;clear hs9 p2 l2 HS2))
        go_end0
        exact ⟨rfl,HJ.out _ _ _ HP1.out HL1.out HP2.out HL2.out HS3.out⟩
       ·have dA1:decide (i < m) = true:=by simp;omega
        have dA2:decide (m < e) = false:=by simp;omega
        have dB1:decide (a < i) = true:=by simp;omega
        have dB2:decide (i < mid) = false:=by simp;omega
        have dC1:decide (mid < e) = false:=by simp;omega
        have HS1:=Zh (HEQ.out _ HS0.out (fun h=>by omega));clear HS0
        obtain ⟨p1,l1,hs2⟩:=HN1.out _ HS1.out (fun h=>by omega);have HP1:=Zh p1;have HL1:=Zh l1;have HS2:=Zh hs2;clear p1 l1 hs2 HS1
        go_wp2
        obtain ⟨p2,l2,hs3⟩:=HN2.out _ _ HS2.out (fun h=>by omega)
        go_end0
        exact ⟨rfl,HJ.out _ _ _ HP1.out HL1.out p2 l2 hs3⟩
       ·have dA1:decide (i < m) = true:=by simp;omega
        have dA2:decide (m < e) = false:=by simp;omega
        have dB1:decide (a < i) = true:=by simp;omega
        have dB2:decide (i < mid) = false:=by simp;omega
        have dC1:decide (mid < e) = true:=by simp;omega
        have dC2:decide (e < b) = false:=by simp;omega
        have HS1:=Zh (HEQ.out _ HS0.out (fun h=>by omega));clear HS0
        obtain ⟨p1,l1,hs2⟩:=HN1.out _ HS1.out (fun h=>by omega);have HP1:=Zh p1;have HL1:=Zh l1;have HS2:=Zh hs2;clear p1 l1 hs2 HS1
        go_wp2
        obtain ⟨p2,l2,hs3⟩:=HN2.out _ _ HS2.out (fun h=>by omega)
        go_end0
        exact ⟨rfl,HJ.out _ _ _ HP1.out HL1.out p2 l2 hs3⟩
end Go.Proofs.YtendielanacflaaGreat
