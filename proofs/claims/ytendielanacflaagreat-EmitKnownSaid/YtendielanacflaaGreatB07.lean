/- layer 5: the rarest first: the library's stable sort, and its comparison: contracts. Plain mathematics of layer 5: the library's stable sort from 20 elements on: exchanges, rotations, merges. layer 5: the library's stable sort from 20 elements on: exchanges, rotation, merge: contracts. -/
import Derived.Test.YtendielanacflaaGreatB01
import Derived.Test.YtendielanacflaaGreatB02
import Derived.Test.YtendielanacflaaGreatB05
import Derived.Test.YtendielanacflaaGreatB06
set_option linter.unusedVariables false
set_option linter.unusedSimpArgs false
namespace Go.Proofs.YtendielanacflaaGreat
open Go.RowKit Go.Shelf M04 M05
attribute [local go_sem] Oper.semAt_some
def cmpN (a b:Nat):Int:=if a < b then -1 else if b < a then 1 else 0
set_option maxRecDepth 100000 in
theorem Znm (x:Int) (w:World):Calls Tryz.prog 147 #[.int .i64 x] w fun e w'=>e = .returned (.bool false) /\ w' = w:=by
 go_enter Tryz.func147,Tryz.ntmps147
 go_wp2
 go_ret
 simp
set_option maxRecDepth 100000 in
theorem Zqc (a b:Nat) (w:World):Calls Tryz.prog 120 #[.int .i64 (a:Nat),.int .i64 (b:Nat)] w fun e w'=>e = .returned (.int .i64 (cmpN a b)) /\ w' = w:=by
 have H1:=Zh (Znm (a:Int) w)
 have H2:=Zh (Znm (b:Int) w)
 have HC:Hid (cmpN a b = if a < b then -1 else if b < a then 1 else 0):=rfl
 by_cases h1:a < b
 ·have b1:decide (a < b) = true:=by simp;omega
  rw [if_pos h1] at HC
  clear h1
  go_enter Tryz.func120,Tryz.ntmps120
  go_wp2_with (first | (go_at_call 147;refine H1.out.mono ?_;rintro e w' ⟨rfl,rfl⟩) | (go_at_call 147;refine H2.out.mono ?_;rintro e w' ⟨rfl,rfl⟩))
  go_ret
  exact ⟨by rw [HC.out];rfl,rfl⟩
 ·have b1:decide (a < b) = false:=by simp;omega
  rw [if_neg h1] at HC
  by_cases h2:b < a
  ·have b2:decide (b < a) = true:=by simp;omega
   rw [if_pos h2] at HC
   clear h1 h2
   go_enter Tryz.func120,Tryz.ntmps120
   go_wp2_with (first | (go_at_call 147;refine H1.out.mono ?_;rintro e w' ⟨rfl,rfl⟩) | (go_at_call 147;refine H2.out.mono ?_;rintro e w' ⟨rfl,rfl⟩))
   go_ret
   exact ⟨by rw [HC.out];rfl,rfl⟩
  ·have b2:decide (b < a) = false:=by simp;omega
   rw [if_neg h2] at HC
   clear h1 h2
   go_enter Tryz.func120,Tryz.ntmps120
   go_wp2_with (first | (go_at_call 147;refine H1.out.mono ?_;rintro e w' ⟨rfl,rfl⟩) | (go_at_call 147;refine H2.out.mono ?_;rintro e w' ⟨rfl,rfl⟩))
   go_ret
   exact ⟨by rw [HC.out];rfl,rfl⟩
set_option maxRecDepth 100000 in
theorem Zkz (w:World) (p:Nat) (a:Option Addr) (c:Nat) (f:List Nat) (x y:Nat) (h1:w.cell? ⟨p,0,none⟩ = some (.slice a f.length c)) (h2:RowN .i64 w a c f) (hx:x < f.length) (hy:y < f.length) :
  Calls Tryz.prog 119 #[.int .i64 (x:Nat),.int .i64 (y:Nat),.pointer (some ⟨p,0,none⟩)] w fun e w'=>e = .returned (.int .i64 (cmpN (f.getD x 0) (f.getD y 0))) /\ ∃ q,w' = w.drewN q:=by
 obtain ⟨b,off,rfl,hb,hcx⟩:=h2.at hx
 obtain ⟨b',off',he,_,hcy⟩:=h2.at hy
 simp only [Option.some.injEq,Addr.mk.injEq,and_true] at he
 obtain ⟨rfl,rfl⟩:=he
 have ex:f.getD x 0 = f[x]:=by rw [List.getD_eq_getElem?_getD,List.getElem?_eq_getElem hx];rfl
 have ey:f.getD y 0 = f[y]:=by rw [List.getD_eq_getElem?_getD,List.getElem?_eq_getElem hy];rfl
 rw [ex,ey]
 generalize f[x] = u at *
 generalize f[y] = v at *
 have HC:=Zh (fun w=>Zqc u v w)
 have qx:(x:Int) < (f.length:Int):=by omega
 have qy:(y:Int) < (f.length:Int):=by omega
 clear ex ey h2
 go_enter Tryz.func119,Tryz.ntmps119
 go_wp2_with fail
 go_still_tail 8,(by kernel_rfl)
 go_wp2_with (go_at_call 120;refine (HC.out _).mono ?_;rintro e w' ⟨rfl,rfl⟩)
 go_ret
 exact ⟨rfl,1,rfl⟩
theorem stInt (p:Addr) (n:Int) (u:Value) (w:World) (h:w.cell? p = some u) (hf:w.frozen? p = false):(Instr.storeAt 3 (.pointer (some p)) (.int .i64 n)).run Tryz.prog w = .ok () (w.setCell p (.int .i64 n)):=by
 have hsz:(Tryz.prog.info? 3).map (·.size) = some 1:=by kernel_rfl
 cases h5:Tryz.prog.info? 3 with
 | none=>rw [h5] at hsz;cases hsz
 | some ie =>
  have hs:ie.size = 1:=by simpa [h5] using hsz
  simp [Instr.storeAt,Instr.sureAddr,storeVar,sizeOf,typeInfo,h5,hs,Value.cells,storeCells,h,hf,go_sem]
def Ph2 (W0 W1 W2:World):Bool -> Bool -> World
 | _,true=>W2
 | true,false=>W1
 | false,false=>W0
theorem Zzz {d:List Nat} {j n:Nat} (hj:j + 1 < d.length) (h:∀ x ∈ d,x < n):∀ x ∈ swapL d j,x < n:=by
 intro x hx
 unfold swapL at hx
 have h1:d.getD j 0 < n:=by rw [List.getD_eq_getElem?_getD,List.getElem?_eq_getElem (by omega)];exact h _ (List.getElem_mem _)
 have h2:d.getD (j + 1) 0 < n:=by rw [List.getD_eq_getElem?_getD,List.getElem?_eq_getElem hj];exact h _ (List.getElem_mem _)
 rcases List.mem_or_eq_of_mem_set hx with h' | rfl
 ·rcases List.mem_or_eq_of_mem_set h' with h'' | rfl
  ·exact h _ h''
  ·exact h1
 ·exact h2
structure SrtI (A0:World) (g base cap p:Nat) (fa:Option Addr) (fc:Nat) (f:List Nat) (n:Nat) (D:List Nat) (A:World):Prop where
 own:OwnN 3 .i64 A base (some ⟨g,0,none⟩) cap D
 len:D.length = n
 mem:∀ x ∈ D,x < f.length
 only:Only (fun b=>b = g) A0 A
 cell:A.cell? ⟨p,0,none⟩ = some (.slice fa f.length fc)
 row:RowN .i64 A fa fc f
theorem SrtI.drewN {A0 A:World} {g base cap p fc n:Nat} {fa:Option Addr} {f D:List Nat} (h:SrtI A0 g base cap p fa fc f n D A) (q:Nat):SrtI A0 g base cap p fa fc f n D (A.drewN q) :=
 ⟨h.own,h.len,h.mem,h.only.trans ⟨rfl,rfl,rfl,Nat.le_refl _,fun _ _ _=>rfl⟩,h.cell,h.row⟩
theorem SrtI.swap {A0 A:World} {g base cap p fc n:Nat} {fa:Option Addr} {f D:List Nat} (h:SrtI A0 g base cap p fa fc f n D A) (hp:p < base) (hfa:∀ x,0 < f.length -> fa = some x -> x.block < base) {j:Nat} (hj:j + 1 < n) :
  SrtI A0 g base cap p fa fc f n (swapL D j) ((A.setCell ⟨g,j + 1,none⟩ (.int .i64 (D.getD j 0:Nat))).setCell ⟨g,j,none⟩ (.int .i64 (D.getD (j + 1) 0:Nat))):=by
 obtain ⟨o1,g1⟩:=h.own.stored (j + 1) (D.getD j 0)
 obtain ⟨o2,g2⟩:=o1.stored j (D.getD (j + 1) 0)
 have hg:base <= g:=by
  rcases h.own.form with ⟨h',_⟩ | ⟨g',h',hb,_⟩
  ·cases h'
  ·simp only [Option.some.injEq,Addr.mk.injEq,and_true] at h';omega
 have ho:Only (fun b=>b = g) A ((A.setCell ⟨g,j + 1,none⟩ (.int .i64 (D.getD j 0:Nat))).setCell ⟨g,j,none⟩ (.int .i64 (D.getD (j + 1) 0:Nat))) :=
  Only.trans ⟨g1.os,g1.tape,g1.output,g1.size,fun b hb hne=>g1.block b hb (fun e=>by cases e;exact hne rfl)⟩ ⟨g2.os,g2.tape,g2.output,g2.size,fun b hb hne=>g2.block b hb (fun e=>by cases e;exact hne rfl)⟩
 refine ⟨o2,by rw [Zju];exact h.len,Zzz (by rw [h.len];exact hj) h.mem,h.only.trans ho,?_,h.row.same ho.size (fun x h0 hx=>?_)⟩
 ·exact (World.cell?_of_block (a:=⟨p,0,none⟩) (ho.block p (Zqb h.cell) (by omega))).trans h.cell
 ·have:=hfa x h0 hx
  refine ho.block _ ?_ (by omega)
  obtain ⟨b',off,he,hlt,_⟩:=h.row.at h0
  rw [hx] at he;cases he;exact hlt
set_option maxRecDepth 100000 in
set_option maxHeartbeats 3200000 in
theorem Zacm (A:World) (g base cap p a b:Nat) (fa:Option Addr) (fc:Nat) (f d:List Nat) (hI:SrtI A g base cap p fa fc f d.length d A) (hp:p < base) (hfa:∀ x,0 < f.length -> fa = some x -> x.block < base) (hab:a <= b) (hb:b <= d.length) (hl:d.length <= 600) :
  Calls Tryz.prog 155 #[.slice (some ⟨g,0,none⟩) d.length cap,.int .i64 (a:Nat),.int .i64 (b:Nat),.func (.func 119) #[] #[.pointer (some ⟨p,0,none⟩)]] A fun e w'=>e = .returned (.tuple #[]) /\ SrtI A g base cap p fa fc f d.length (insS f a b d) w':=by
 obtain ⟨n,hn⟩:∃ n,d.length = n:=⟨_,rfl⟩
 rw [hn] at hI hb hl ⊢
 have HI:=Zh hI
 have HSW:=Zh (fun D A' j (h:SrtI A g base cap p fa fc f n D A') (hj:j + 1 < n)=>h.swap hp hfa hj)
 obtain ⟨T,hT⟩:∃ T,insS f a b d = T:=⟨_,rfl⟩
 have HT:=Zh (show insO f a (a + 1) (b - (a + 1)) d = T from hT)
 rw [hT]
 clear hI hT
 go_enter Tryz.func155,Tryz.ntmps155
 go_wp2
 go_loopw [8,9] (fun x _ A'=>∃ i D,x = .int .i64 (i:Nat) /\ i <= n + 1 /\ insO f a i (b - i) D = T /\ SrtI A g base cap p fa fc f n D A') (fun x _ _=>n + 1 - (intOf x).toNat)
 case atStart=>exact ⟨a + 1,d,by go_num,by omega,HT.out,HI.out⟩
 case round =>
  clear HT HI
  obtain ⟨i,D,rfl,hi,ht,hs⟩:=hrel
  have HS:=Zh hs
  have HT:=Zh ht
  clear hs ht
  by_cases hib:i < b
  ·have b1:decide (i < b) = true:=by simp;omega
   obtain ⟨m,hm⟩:∃ m,b - i = m + 1:=⟨b - i - 1,by omega⟩
   have HT2:=Zh (show insO f a (i + 1) m (insD f a i D) = T from by have:=HT.out;rw [hm] at this;exact this)
   have HM:=Zh (show m = b - (i + 1) from by omega)
   clear HT hm
   go_wp2_with fail
   go_loopw [9] (fun y A'=>∃ j D',y = .int .i64 (j:Nat) /\ j <= i /\ insD f a j D' = insD f a i D /\ SrtI A g base cap p fa fc f n D' A') (fun y _=>(intOf y).toNat)
   case atStart=>exact ⟨i,D,rfl,Nat.le_refl _,rfl,HS.out⟩
   case round =>
    clear HS
    obtain ⟨j,D',rfl,hj,hd,hs⟩:=hrel
    have HS:=Zh hs
    have HD:=Zh hd
    clear hs hd
    by_cases haj:a < j
    ·have b2:decide (a < j) = true:=by simp;omega
     obtain ⟨j',rfl⟩:∃ j',j = j' + 1:=⟨j - 1,by omega⟩
     have hj1:j' + 1 < D'.length:=by rw [HS.out.len];omega
     have hjn:j' < n:=by omega
     have hj1n:j' + 1 < n:=by omega
     have eu:D'.getD j' 0 = D'[j']:=by rw [List.getD_eq_getElem?_getD,List.getElem?_eq_getElem (by omega)];rfl
     have ev:D'.getD (j' + 1) 0 = D'[j' + 1]:=by rw [List.getD_eq_getElem?_getD,List.getElem?_eq_getElem hj1];rfl
     obtain ⟨g1,hg1,_,_,hcu,hfu⟩:=HS.out.own.at (show j' < D'.length by omega)
     obtain ⟨g2,hg2,_,_,hcv,hfv⟩:=HS.out.own.at hj1
     simp only [Option.some.injEq,Addr.mk.injEq,and_true] at hg1 hg2
     subst hg1
     subst hg2
     have hul:D'[j'] < f.length:=HS.out.mem _ (List.getElem_mem _)
     have hvl:D'[j' + 1] < f.length:=HS.out.mem _ (List.getElem_mem _)
     have HCMP:=Zh (fun q=>(Zkz (wr.drewN q) p fa fc f (D'[j' + 1]) (D'[j']) HS.out.cell HS.out.row hvl hul).mono (fun e w' (h:e = .returned (.int .i64 (cmpN (f.getD D'[j' + 1] 0) (f.getD D'[j'] 0))) /\ ∃ q',w' = (wr.drewN q).drewN q')=>(show e = .returned (.int .i64 (cmpN (f.getD D'[j' + 1] 0) (f.getD D'[j'] 0))) /\ ∃ m,w' = wr.drewN m from ⟨h.1,by obtain ⟨_,q',h2⟩:=h;exact ⟨q + q',by rw [h2,World.drewN_drewN]⟩⟩)))
     have HSW2:=Zh (fun q=>HSW.out D' (wr.drewN q) j' (HS.out.drewN q) hj1n)
     have HK0:=Zh (fun q=>(show ∃ kv,((wr.drewN q).setCell ⟨g,j' + 1,none⟩ (.int .i64 (D'.getD j' 0:Nat))).cell? ⟨g,j',none⟩ = some kv /\ ((wr.drewN q).setCell ⟨g,j' + 1,none⟩ (.int .i64 (D'.getD j' 0:Nat))).frozen? ⟨g,j',none⟩ = false from by
      obtain ⟨g3,hg3,_,_,h4,h5⟩:=(((HS.out.drewN q).own.stored (j' + 1) (D'.getD j' 0)).1).at (i:=j') (by rw [List.length_set,HS.out.len];exact hjn)
      simp only [Option.some.injEq,Addr.mk.injEq,and_true] at hg3
      subst hg3
      exact ⟨_,h4,h5⟩))
     have HDD:=Zh (show (if a < j' + 1 /\ f.getD D'[j' + 1] 0 < f.getD D'[j'] 0 then insD f a j' (swapL D' j') else D') = insD f a i D from by rw [<- HD.out,<- eu,<- ev];rfl)
     rw [eu] at HK0
     simp only [eu,ev] at HSW2
     clear HD hul hvl eu ev
     generalize D'[j'] = xu at *
     generalize D'[j' + 1] = xv at *
     have hib1:j' + 1 <= 600:=by omega
     clear hj1
     obtain ⟨j1,hj1e⟩:∃ j1,j' + 1 = j1:=⟨_,rfl⟩
     have qj1:(j1:Int) < (n:Int):=by omega
     have qj:(j':Int) < (n:Int):=by omega
     have qsub:(j1:Int) - 1 = (j':Int):=by omega
     have qwj:IntKind.i64.wrap (j':Int) = (j':Int):=IntWalk.i64_in _ (by omega)
     rw [hj1e] at HSW2 hcv hfv b2 hj1n HK0
     simp only [hj1e]
     by_cases hlt:f.getD xv 0 < f.getD xu 0
     ·have b3:decide (cmpN (f.getD xv 0) (f.getD xu 0) < 0) = true:=by unfold cmpN;rw [if_pos hlt];rfl
      rw [if_pos ⟨haj,hlt⟩] at HDD
      obtain ⟨cm,hcm⟩:∃ cm,cmpN (f.getD xv 0) (f.getD xu 0) = cm:=⟨_,rfl⟩
      rw [hcm] at HCMP b3
      clear hlt hcm
      go_wp2_with fail
      go_quiet ((go_at_call 119;exact (HCMP.out _)))
      go_wp2_with fail
      obtain ⟨kv,hk1,hk2⟩:=HK0.out (nq + 1)
      have hend:=HSW2.out (nq + 1)
      have hw:((wr.drewN nq).drew) = wr.drewN (nq + 1):=rfl
      have hcu':(wr.drewN (nq + 1)).cell? ⟨g,j',none⟩ = some (.int .i64 (xu:Nat)):=hcu
      have hcv':(wr.drewN (nq + 1)).cell? ⟨g,j1,none⟩ = some (.int .i64 (xv:Nat)):=hcv
      have hfv':(wr.drewN (nq + 1)).frozen? ⟨g,j1,none⟩ = false:=hfv
      obtain ⟨W0,hW0⟩:∃ W0,wr.drewN (nq + 1) = W0:=⟨_,rfl⟩
      rw [hW0] at hk1 hk2 hend hw hcu' hcv' hfv'
      have HW0:=Zh hw
      obtain ⟨W1,hW1⟩:∃ W1,W0.setCell ⟨g,j1,none⟩ (.int .i64 (xu:Nat)) = W1:=⟨_,rfl⟩
      rw [hW1] at hk1 hk2 hend
      have HW1:=Zh hW1
      obtain ⟨W2,hW2⟩:∃ W2,W1.setCell ⟨g,j',none⟩ (.int .i64 (xv:Nat)) = W2:=⟨_,rfl⟩
      rw [hW2] at hend
      have HW2:=Zh hW2
      have HCU:=Zh hcu'
      have HCV:=Zh hcv'
      have HF1:=Zh hfv'
      have HCK:=Zh hk1
      have HF2:=Zh hk2
      have HEND:=Zh hend
      clear hk1 hk2 hend hw hcu' hcv' hfv' hW0 hW1 hW2
      -- region begins
      refine Zao [37,38,39,40,41,42,43,44,45,46,47,48,49,50,51,52] (fun j=>false) (fun listed w1=>w1 = Ph2 W0 W1 W2 (listed.getD 15 false) (listed.getD 17 false)) (fun j v _=>match j with | 0=>v = .slice (some ⟨g,0,none⟩) n cap | 1=>v = .int .i64 (j1:Nat) | 2=>v = .slice (some ⟨g,0,none⟩) n cap | 3=>v = .int .i64 (j1:Nat) | 4=>v = .int .i64 (j':Nat) | 5=>v = .slice (some ⟨g,0,none⟩) n cap | 6=>v = .int .i64 (j1:Nat) | 7=>v = .int .i64 (j':Nat) | 8=>v = .pointer (some ⟨g,j',none⟩) | 9=>v = .int .i64 (xu:Nat) | 10=>v = .slice (some ⟨g,0,none⟩) n cap | 11=>v = .int .i64 (j1:Nat) | 12=>v = .pointer (some ⟨g,j1,none⟩) | 13=>v = .int .i64 (xv:Nat) | 14=>v = .pointer (some ⟨g,j1,none⟩) | 16=>v = .pointer (some ⟨g,j',none⟩) | _=>True) (fun _ _ _ _=>True) (by kernel_rfl) (by kernel_rfl) (OneEach.mk' (by kernel_rfl) (by kernel_rfl)) (by kernel_rfl) (by kernel_rfl) (by exact HW0.out) ?_ ?_
      ·intro i0 o hi0 listed a1 w1 hR hil hunf hdes hanc hout hdep
       have hsz:i0 < 18:=(Array.getElem?_eq_some_iff.1 hi0).1
       have hall:i0 = 0 \/ i0 = 1 \/ i0 = 2 \/ i0 = 3 \/ i0 = 4 \/ i0 = 5 \/ i0 = 6 \/ i0 = 7 \/ i0 = 8 \/ i0 = 9 \/ i0 = 10 \/ i0 = 11 \/ i0 = 12 \/ i0 = 13 \/ i0 = 14 \/ i0 = 15 \/ i0 = 16 \/ i0 = 17:=by omega
       clear hsz
       rcases hall with rfl | rfl | rfl | rfl | rfl | rfl | rfl | rfl | rfl | rfl | rfl | rfl | rfl | rfl | rfl | rfl | rfl | rfl <;> simp only [List.getElem?_toArray,List.getElem?_cons_zero,List.getElem?_cons_succ,Option.some.injEq] at hi0 <;> subst hi0
       ·have f0:a1.eval (.tmp 0) = .slice (some ⟨g,0,none⟩) n cap:=hout 0 (by decide)
        refine Zab (v:=.slice (some ⟨g,0,none⟩) n cap) (w':=w1) (by simp [execOp,f0]) ⟨_,rfl,?_,fun j u hu hV _=>⟨hV,trivial,trivial⟩,rfl⟩
        rw [Zaa (by decide),Zaa (by decide)];exact hR
       ·have f9:a1.eval (.tmp 9) = .int .i64 (j1:Nat):=hout 9 (by decide)
        refine Zab (v:=.int .i64 (j1:Nat)) (w':=w1) (by simp [execOp,f9]) ⟨_,rfl,?_,fun j u hu hV _=>⟨hV,trivial,trivial⟩,rfl⟩
        rw [Zaa (by decide),Zaa (by decide)];exact hR
       ·have f0:a1.eval (.tmp 0) = .slice (some ⟨g,0,none⟩) n cap:=hout 0 (by decide)
        refine Zab (v:=.slice (some ⟨g,0,none⟩) n cap) (w':=w1) (by simp [execOp,f0]) ⟨_,rfl,?_,fun j u hu hV _=>⟨hV,trivial,trivial⟩,rfl⟩
        rw [Zaa (by decide),Zaa (by decide)];exact hR
       ·have f9:a1.eval (.tmp 9) = .int .i64 (j1:Nat):=hout 9 (by decide)
        refine Zab (v:=.int .i64 (j1:Nat)) (w':=w1) (by simp [execOp,f9]) ⟨_,rfl,?_,fun j u hu hV _=>⟨hV,trivial,trivial⟩,rfl⟩
        rw [Zaa (by decide),Zaa (by decide)];exact hR
       ·have e40:a1.eval (.tmp 40) = .int .i64 (j1:Nat):=hdep ⟨3,.data⟩ (by simp) rfl _ rfl
        refine Zab (v:=.int .i64 (j':Nat)) (w':=w1) (by simp [execOp,e40,evalC,eqgS,subI,qsub,qwj]) ⟨_,rfl,?_,fun j u hu hV _=>⟨hV,trivial,trivial⟩,rfl⟩
        rw [Zaa (by decide),Zaa (by decide)];exact hR
       ·have f0:a1.eval (.tmp 0) = .slice (some ⟨g,0,none⟩) n cap:=hout 0 (by decide)
        refine Zab (v:=.slice (some ⟨g,0,none⟩) n cap) (w':=w1) (by simp [execOp,f0]) ⟨_,rfl,?_,fun j u hu hV _=>⟨hV,trivial,trivial⟩,rfl⟩
        rw [Zaa (by decide),Zaa (by decide)];exact hR
       ·have f9:a1.eval (.tmp 9) = .int .i64 (j1:Nat):=hout 9 (by decide)
        refine Zab (v:=.int .i64 (j1:Nat)) (w':=w1) (by simp [execOp,f9]) ⟨_,rfl,?_,fun j u hu hV _=>⟨hV,trivial,trivial⟩,rfl⟩
        rw [Zaa (by decide),Zaa (by decide)];exact hR
       ·have e43:a1.eval (.tmp 43) = .int .i64 (j1:Nat):=hdep ⟨6,.data⟩ (by simp) rfl _ rfl
        refine Zab (v:=.int .i64 (j':Nat)) (w':=w1) (by simp [execOp,e43,evalC,eqgS,subI,qsub,qwj]) ⟨_,rfl,?_,fun j u hu hV _=>⟨hV,trivial,trivial⟩,rfl⟩
        rw [Zaa (by decide),Zaa (by decide)];exact hR
       ·have e42:a1.eval (.tmp 42) = .slice (some ⟨g,0,none⟩) n cap:=hdep ⟨5,.data⟩ (by simp) rfl _ rfl
        have e44:a1.eval (.tmp 44) = .int .i64 (j':Nat):=hdep ⟨7,.data⟩ (by simp) rfl _ rfl
        refine Zab (v:=.pointer (some ⟨g,j',none⟩)) (w':=w1) (by simp [execOp,e42,e44,ixI g j' n cap hjn]) ⟨_,rfl,?_,fun j u hu hV _=>⟨hV,trivial,trivial⟩,rfl⟩
        rw [Zaa (by decide),Zaa (by decide)];exact hR
       ·have e45:a1.eval (.tmp 45) = .pointer (some ⟨g,j',none⟩):=hdep ⟨8,.data⟩ (by simp) rfl _ rfl
        have x45:a1.tmps[45]?.getD undef = .pointer (some ⟨g,j',none⟩):=by simpa [Act.eval] using e45
        have hc:w1.cell? ⟨g,j',none⟩ = some (.int .i64 (xu:Nat)):=by
         rw [hdes 15 (by kernel_rfl),hdes 17 (by kernel_rfl)] at hR
         rw [hR];exact HCU.out
        refine Zab (v:=.int .i64 (xu:Nat)) (w':=w1) (by simp [execOp,e45,ldInt _ _ _ hc]) ⟨_,rfl,?_,fun j u hu hV _=>⟨hV,trivial,trivial⟩,rfl⟩
        rw [Zaa (by decide),Zaa (by decide)];exact hR
       ·have f0:a1.eval (.tmp 0) = .slice (some ⟨g,0,none⟩) n cap:=hout 0 (by decide)
        refine Zab (v:=.slice (some ⟨g,0,none⟩) n cap) (w':=w1) (by simp [execOp,f0]) ⟨_,rfl,?_,fun j u hu hV _=>⟨hV,trivial,trivial⟩,rfl⟩
        rw [Zaa (by decide),Zaa (by decide)];exact hR
       ·have f9:a1.eval (.tmp 9) = .int .i64 (j1:Nat):=hout 9 (by decide)
        refine Zab (v:=.int .i64 (j1:Nat)) (w':=w1) (by simp [execOp,f9]) ⟨_,rfl,?_,fun j u hu hV _=>⟨hV,trivial,trivial⟩,rfl⟩
        rw [Zaa (by decide),Zaa (by decide)];exact hR
       ·have e47:a1.eval (.tmp 47) = .slice (some ⟨g,0,none⟩) n cap:=hdep ⟨10,.data⟩ (by simp) rfl _ rfl
        have e48:a1.eval (.tmp 48) = .int .i64 (j1:Nat):=hdep ⟨11,.data⟩ (by simp) rfl _ rfl
        refine Zab (v:=.pointer (some ⟨g,j1,none⟩)) (w':=w1) (by simp [execOp,e47,e48,ixI g j1 n cap hj1n]) ⟨_,rfl,?_,fun j u hu hV _=>⟨hV,trivial,trivial⟩,rfl⟩
        rw [Zaa (by decide),Zaa (by decide)];exact hR
       ·have e49:a1.eval (.tmp 49) = .pointer (some ⟨g,j1,none⟩):=hdep ⟨12,.data⟩ (by simp) rfl _ rfl
        have x49:a1.tmps[49]?.getD undef = .pointer (some ⟨g,j1,none⟩):=by simpa [Act.eval] using e49
        have hc:w1.cell? ⟨g,j1,none⟩ = some (.int .i64 (xv:Nat)):=by
         rw [hdes 15 (by kernel_rfl),hdes 17 (by kernel_rfl)] at hR
         rw [hR];exact HCV.out
        refine Zab (v:=.int .i64 (xv:Nat)) (w':=w1) (by simp [execOp,e49,ldInt _ _ _ hc]) ⟨_,rfl,?_,fun j u hu hV _=>⟨hV,trivial,trivial⟩,rfl⟩
        rw [Zaa (by decide),Zaa (by decide)];exact hR
       ·have e37:a1.eval (.tmp 37) = .slice (some ⟨g,0,none⟩) n cap:=hdep ⟨0,.data⟩ (by simp) rfl _ rfl
        have e38:a1.eval (.tmp 38) = .int .i64 (j1:Nat):=hdep ⟨1,.data⟩ (by simp) rfl _ rfl
        refine Zab (v:=.pointer (some ⟨g,j1,none⟩)) (w':=w1) (by simp [execOp,e37,e38,ixI g j1 n cap hj1n]) ⟨_,rfl,?_,fun j u hu hV _=>⟨hV,trivial,trivial⟩,rfl⟩
        rw [Zaa (by decide),Zaa (by decide)];exact hR
       ·have e51:a1.eval (.tmp 51) = .pointer (some ⟨g,j1,none⟩):=hdep ⟨14,.data⟩ (by simp) rfl _ rfl
        have x51:a1.tmps[51]?.getD undef = .pointer (some ⟨g,j1,none⟩):=by simpa [Act.eval] using e51
        have e46:a1.eval (.tmp 46) = .int .i64 (xu:Nat):=hdep ⟨9,.data⟩ (by simp) rfl _ rfl
        have x46:a1.tmps[46]?.getD undef = .int .i64 (xu:Nat):=by simpa [Act.eval] using e46
        rw [hunf,hdes 17 (by kernel_rfl)] at hR
        obtain rfl:w1 = W0:=hR
        refine Zan (w':=W1) (by simp [execOp,e51,e46,stInt _ _ _ w1 HCV.out HF1.out,HW1.out]) ⟨undef,rfl,?_,fun j u hu hV _=>⟨hV,trivial,trivial⟩,trivial⟩
        rw [Zad hil,Zaa (by decide),hdes 17 (by kernel_rfl)]
        rfl
       ·have e39:a1.eval (.tmp 39) = .slice (some ⟨g,0,none⟩) n cap:=hdep ⟨2,.data⟩ (by simp) rfl _ rfl
        have e41:a1.eval (.tmp 41) = .int .i64 (j':Nat):=hdep ⟨4,.data⟩ (by simp) rfl _ rfl
        refine Zab (v:=.pointer (some ⟨g,j',none⟩)) (w':=w1) (by simp [execOp,e39,e41,ixI g j' n cap hjn]) ⟨_,rfl,?_,fun j u hu hV _=>⟨hV,trivial,trivial⟩,rfl⟩
        rw [Zaa (by decide),Zaa (by decide)];exact hR
       ·have e52:a1.eval (.tmp 52) = .pointer (some ⟨g,j',none⟩):=hdep ⟨16,.data⟩ (by simp) rfl _ rfl
        have x52:a1.tmps[52]?.getD undef = .pointer (some ⟨g,j',none⟩):=by simpa [Act.eval] using e52
        have e50:a1.eval (.tmp 50) = .int .i64 (xv:Nat):=hdep ⟨13,.data⟩ (by simp) rfl _ rfl
        have x50:a1.tmps[50]?.getD undef = .int .i64 (xv:Nat):=by simpa [Act.eval] using e50
        rw [hanc 15 (by kernel_rfl),hunf] at hR
        obtain rfl:w1 = W1:=hR
        refine Zan (w':=W2) (by simp [execOp,e52,e50,stInt _ _ _ w1 HCK.out HF2.out,HW2.out]) ⟨undef,rfl,?_,fun j u hu hV _=>⟨hV,trivial,trivial⟩,trivial⟩
        rw [Zad hil,Zaa (by decide),hanc 15 (by kernel_rfl)]
        rfl
      ·intro listed fv w1 hR hall hV
       rw [hall 15 (by decide),hall 17 (by decide)] at hR
       obtain rfl:w1 = W2:=hR
       simp only [spread,List.contains_cons,List.contains_nil,Nat.reduceBEq,Bool.or_false,Bool.or_true,cond_true,cond_false,Nat.reduceAdd,Nat.zero_add]
       go_wp2
       go_roundw
       case rel=>exact ⟨j',swapL D' j',rfl,by omega,HDD.out,HEND.out⟩
       case measure=>simp [intOf];omega
      -- region ends
     ·have b3:decide (cmpN (f.getD xv 0) (f.getD xu 0) < 0) = false:=by unfold cmpN;rw [if_neg hlt];split <;> rfl
      rw [if_neg (fun h=>hlt h.2)] at HDD
      obtain ⟨cm,hcm⟩:∃ cm,cmpN (f.getD xv 0) (f.getD xu 0) = cm:=⟨_,rfl⟩
      rw [hcm] at HCMP b3
      clear hlt hcm
      go_wp2_with fail
      go_quiet ((go_at_call 119;exact (HCMP.out _)))
      go_wp2
      go_roundw
      case rel=>exact ⟨i + 1,D',by go_num,by omega,by rw [HDD.out,<- HM.out];exact HT2.out,HS.out.drewN _⟩
      case measure=>simp [intOf];omega
    ·have b2:decide (a < j) = false:=by simp;omega
     have HDD:=Zh (show D' = insD f a i D from by
      rw [<- HD.out]
      cases j with
      | zero=>rfl
      | succ j=>show _ = if _ then _ else _;rw [if_neg (fun h=>haj h.1)])
     clear HD haj
     go_wp2_with fail
     go_quiet (fail)
     go_wp2
     go_roundw
     case rel=>exact ⟨i + 1,D',by go_num,by omega,by rw [HDD.out,<- HM.out];exact HT2.out,HS.out.drewN _⟩
     case measure=>simp [intOf];omega
  ·have b1:decide (i < b) = false:=by simp;omega
   have HT3:=Zh (show D = T from by have:=HT.out;rw [show b - i = 0 by omega] at this;exact this)
   clear HT hib
   go_wp2
   go_end0
   exact ⟨rfl,by rw [<- HT3.out];exact HS.out⟩
end Go.Proofs.YtendielanacflaaGreat

namespace Go.Proofs.YtendielanacflaaGreat.M05
def sw2 (d:List Nat) (i j:Nat):List Nat:=(d.set i (d.getD j 0)).set j (d.getD i 0)
theorem Zahe (d:List Nat) (i j:Nat):(sw2 d i j).length = d.length:=by simp [sw2]
theorem Zafj (P Q S:List Nat) (x y:Nat):sw2 (P ++ x :: (Q ++ y :: S)) P.length (P.length + 1 + Q.length) = P ++ y :: (Q ++ x :: S):=by
 unfold sw2
 have h1:(P ++ x :: (Q ++ y :: S)).getD P.length 0 = x:=Zgs P x _
 have h2:(P ++ x :: (Q ++ y :: S)).getD (P.length + 1 + Q.length) 0 = y:=by
  have:=Zgs (P ++ x :: Q) y S
  rw [List.length_append,List.length_cons,List.append_assoc,List.cons_append] at this
  rw [show P.length + 1 + Q.length = P.length + (Q.length + 1) by omega];exact this
 rw [h1,h2]
 rw [List.set_append_right _ _ (by omega),Nat.sub_self,List.set_cons_zero]
 rw [List.set_append_right _ _ (by omega),show P.length + 1 + Q.length - P.length = Q.length + 1 by omega,List.set_cons_succ]
 rw [List.set_append_right _ _ (by omega),Nat.sub_self,List.set_cons_zero]
def swF:Nat -> Nat -> Nat -> List Nat -> List Nat
 | 0,_,_,d=>d
 | n + 1,a,b,d=>swF n (a + 1) (b + 1) (sw2 d a b)
theorem Zmy:∀ (X A C Y B:List Nat),X.length = Y.length -> swF X.length A.length (A.length + X.length + C.length) (A ++ (X ++ (C ++ (Y ++ B)))) = A ++ (Y ++ (C ++ (X ++ B))):=by
 intro X
 induction X with
 | nil =>
  intro A C Y B h
  have:Y = []:=List.eq_nil_of_length_eq_zero (by simpa using h.symm)
  subst this
  rfl
 | cons x X ih =>
  intro A C Y B h
  match Y with
  | []=>simp at h
  | y :: Y =>
   simp only [List.length_cons,Nat.add_right_cancel_iff] at h
   show swF X.length (A.length + 1) (A.length + (X.length + 1) + C.length + 1) (sw2 (A ++ ((x :: X) ++ (C ++ ((y :: Y) ++ B)))) A.length (A.length + (X.length + 1) + C.length)) = _
   have h1:=Zafj A (X ++ C) (Y ++ B) x y
   simp only [List.length_append,List.append_assoc] at h1
   rw [show A.length + (X.length + 1) + C.length = A.length + 1 + (X.length + C.length) by omega]
   simp only [List.cons_append]
   rw [h1]
   have h2:=ih (A ++ [y]) (C ++ [x]) Y B h
   simp only [List.length_append,List.length_singleton,List.append_assoc,List.singleton_append] at h2
   rw [show A.length + 1 + (X.length + C.length) + 1 = A.length + 1 + X.length + (C.length + 1) by omega]
   exact h2
def rotF:Nat -> Nat -> Nat -> Nat -> List Nat -> List Nat
 | 0,_,_,_,d=>d
 | f + 1,m,i,j,d=>if i = j then swF i (m - i) m d else if j < i then rotF f m (i - j) j (swF j (m - i) m d) else rotF f m i (j - i) (swF i (m - i) (m + j - i) d)
theorem Zpb:∀ (f:Nat) (A X Y B:List Nat),0 < X.length -> 0 < Y.length -> X.length + Y.length <= f -> rotF f (A.length + X.length) X.length Y.length (A ++ (X ++ (Y ++ B))) = A ++ (Y ++ (X ++ B)):=by
 intro f
 induction f with
 | zero=>intro A X Y B h1 h2 h;omega
 | succ f ih =>
  intro A X Y B h1 h2 h
  unfold rotF
  split
  ·next he =>
   have:=Zmy X A [] Y B he
   simp only [List.length_nil,Nat.add_zero,List.nil_append] at this
   rw [Nat.add_sub_cancel]
   exact this
  ·next hne =>
   split
   ·next hlt =>
    -- X = X1 ++ X2,X1 as long as Y
    obtain ⟨X1,X2,rfl,hX1⟩:∃ X1 X2,X = X1 ++ X2 /\ X1.length = Y.length:=⟨X.take Y.length,X.drop Y.length,(List.take_append_drop _ _).symm,by rw [List.length_take];omega⟩
    rw [List.length_append] at *
    have h3:=Zmy X1 A X2 Y B hX1
    rw [Nat.add_sub_cancel,<- hX1]
    simp only [List.append_assoc]
    rw [show A.length + (X1.length + X2.length) = A.length + X1.length + X2.length by omega,h3]
    have h4:=ih (A ++ Y) X2 X1 B (by omega) (by omega) (by omega)
    simp only [List.length_append,List.append_assoc] at h4
    rw [show X1.length + X2.length - X1.length = X2.length by omega,hX1]
    rw [hX1] at h4
    exact h4
   ·next hge =>
    obtain ⟨Y1,Y2,rfl,hY2⟩:∃ Y1 Y2,Y = Y1 ++ Y2 /\ Y2.length = X.length:=⟨Y.take (Y.length - X.length),Y.drop (Y.length - X.length),(List.take_append_drop _ _).symm,by rw [List.length_drop];omega⟩
    rw [List.length_append] at *
    have h3:=Zmy X A Y1 Y2 B hY2.symm
    rw [Nat.add_sub_cancel]
    simp only [List.append_assoc]
    rw [show A.length + X.length + (Y1.length + Y2.length) - X.length = A.length + X.length + Y1.length by omega,h3]
    have h4:=ih A Y2 Y1 (X ++ B) (by omega) (by omega) (by omega)
    rw [show Y1.length + Y2.length - X.length = Y1.length by omega]
    rw [hY2] at h4
    exact h4
def fLt (f:List Nat) (x y:Nat):Prop:=f.getD x 0 < f.getD y 0
theorem Zaii (f:List Nat) (x y:Nat) (hxy:x < y) (h:¬ fLt f y x):ltF f x y = true:=by
 unfold fLt at h
 unfold ltF
 simp only [Bool.or_eq_true,Bool.and_eq_true,decide_eq_true_eq]
 omega
theorem Zaih (f:List Nat) (x y:Nat) (h:fLt f y x):ltF f y x = true:=by
 unfold fLt at h
 unfold ltF
 simp only [Bool.or_eq_true,decide_eq_true_eq]
 exact .inl h
theorem Zqz (f:List Nat) (L1 L2 R1 R2:List Nat) (hL:Lex f (L1 ++ L2)) (hR:Lex f (R1 ++ R2)) (hx:∀ x ∈ L1 ++ L2,∀ y ∈ R1 ++ R2,x < y)
  (h1:L1 = [] \/ R2 = [] \/ ∃ L' x R' y,L1 = L' ++ [x] /\ R2 = y :: R' /\ ¬ fLt f y x) (h2:R1 = [] \/ L2 = [] \/ ∃ R' y L' x,R1 = R' ++ [y] /\ L2 = x :: L' /\ fLt f y x):∀ x ∈ L1 ++ R1,∀ y ∈ L2 ++ R2,ltF f x y = true:=by
 have hL':=(List.pairwise_append.1 hL).2.2
 have hR':=(List.pairwise_append.1 hR).2.2
 have hLa:=(List.pairwise_append.1 hL)
 have hRa:=(List.pairwise_append.1 hR)
 intro x hxm y hym
 rcases List.mem_append.1 hxm with hx1 | hx1 <;> rcases List.mem_append.1 hym with hy1 | hy1
 ·exact hL' x hx1 y hy1
 ·-- x in L1,y in R2
  rcases h1 with rfl | rfl | ⟨L',a,R',b,rfl,rfl,hn⟩
  ·cases hx1
  ·cases hy1
  ·have hab:=Zaii f a b (hx a (by simp) b (by simp)) hn
   have hxa:x = a \/ ltF f x a = true:=by
    rcases List.mem_append.1 hx1 with h | h
    ·exact .inr ((List.pairwise_append.1 hLa.1).2.2 x h a (by simp))
    ·exact .inl (by simpa using h)
   have hby:y = b \/ ltF f b y = true:=by
    rcases List.mem_cons.1 hy1 with h | h
    ·exact .inl h
    ·exact .inr ((List.pairwise_cons.1 hRa.2.1).1 y h)
   rcases hxa with rfl | h3
   ·rcases hby with rfl | h4
    ·exact hab
    ·exact Zbj f _ _ _ hab h4
   ·rcases hby with rfl | h4
    ·exact Zbj f _ _ _ h3 hab
    ·exact Zbj f _ _ _ h3 (Zbj f _ _ _ hab h4)
 ·-- x in R1,y in L2
  rcases h2 with rfl | rfl | ⟨R',b,L',a,rfl,rfl,hn⟩
  ·cases hx1
  ·cases hy1
  ·have hab:=Zaih f a b hn
   have hxb:x = b \/ ltF f x b = true:=by
    rcases List.mem_append.1 hx1 with h | h
    ·exact .inr ((List.pairwise_append.1 hRa.1).2.2 x h b (by simp))
    ·exact .inl (by simpa using h)
   have hay:y = a \/ ltF f a y = true:=by
    rcases List.mem_cons.1 hy1 with h | h
    ·exact .inl h
    ·exact .inr ((List.pairwise_cons.1 hLa.2.1).1 y h)
   rcases hxb with rfl | h3
   ·rcases hay with rfl | h4
    ·exact hab
    ·exact Zbj f _ _ _ hab h4
   ·rcases hay with rfl | h4
    ·exact Zbj f _ _ _ h3 hab
    ·exact Zbj f _ _ _ h3 (Zbj f _ _ _ hab h4)
 ·exact hR' x hx1 y hy1
theorem Zkt (f:List Nat) (L1 L2 R1 R2 M1 M2:List Nat) (h:∀ x ∈ L1 ++ R1,∀ y ∈ L2 ++ R2,ltF f x y = true) (p1:M1.Perm (L1 ++ R1)) (l1:Lex f M1) (p2:M2.Perm (L2 ++ R2)) (l2:Lex f M2):(M1 ++ M2).Perm ((L1 ++ L2) ++ (R1 ++ R2)) /\ Lex f (M1 ++ M2):=by
 refine ⟨?_,List.pairwise_append.2 ⟨l1,l2,fun x hx y hy=>h x (p1.mem_iff.1 hx) y (p2.mem_iff.1 hy)⟩⟩
 refine (List.Perm.append p1 p2).trans ?_
 rw [List.append_assoc,List.append_assoc]
 refine List.Perm.append_left L1 ?_
 rw [<- List.append_assoc,<- List.append_assoc]
 exact List.Perm.append_right R2 List.perm_append_comm
theorem Zafa (P L Y:List Nat) (i:Nat) (h1:P.length <= i) (h2:i < P.length + L.length):(P ++ (L ++ Y)).getD i 0 = L[i - P.length]'(by omega):=by
 rw [List.getD_eq_getElem?_getD,List.getElem?_append_right h1,List.getElem?_append_left (by omega),List.getElem?_eq_getElem (by omega)];rfl
theorem Zafb (P L R Q:List Nat) (i:Nat) (h1:P.length + L.length <= i) (h2:i < P.length + L.length + R.length):(P ++ (L ++ (R ++ Q))).getD i 0 = R[i - (P.length + L.length)]'(by omega):=by
 rw [List.getD_eq_getElem?_getD,List.getElem?_append_right (by omega),List.getElem?_append_right (by omega),List.getElem?_append_left (by omega),List.getElem?_eq_getElem (by omega)]
 simp only [Nat.sub_sub];rfl
theorem Zxx {l:List Nat} {k:Nat} (h0:0 < k) (h:k <= l.length):l.take k = l.take (k - 1) ++ [l[k - 1]'(by omega)]:=by
 obtain ⟨j,rfl⟩:∃ j,k = j + 1:=⟨k - 1,by omega⟩
 exact List.take_succ_eq_append_getElem (by omega)
theorem Zma {l:List Nat} {k:Nat} (h:k < l.length):l.drop k = l[k] :: l.drop (k + 1):=List.drop_eq_getElem_cons h
theorem Zns (f P L R Q:List Nat) (s e:Nat) (hL:Lex f L) (hR:Lex f R) (hx:∀ x ∈ L,∀ y ∈ R,x < y) (hs1:P.length <= s) (hs2:s <= P.length + L.length) (he1:P.length + L.length <= e) (he2:e <= P.length + L.length + R.length)
  (h1:s = P.length \/ e = P.length + L.length + R.length \/ ¬ fLt f ((P ++ (L ++ (R ++ Q))).getD e 0) ((P ++ (L ++ (R ++ Q))).getD (s - 1) 0))
  (h2:e = P.length + L.length \/ s = P.length + L.length \/ fLt f ((P ++ (L ++ (R ++ Q))).getD (e - 1) 0) ((P ++ (L ++ (R ++ Q))).getD s 0)) :
  ∀ x ∈ L.take (s - P.length) ++ R.take (e - (P.length + L.length)),∀ y ∈ L.drop (s - P.length) ++ R.drop (e - (P.length + L.length)),ltF f x y = true:=by
 have tL:=List.take_append_drop (s - P.length) L
 have tR:=List.take_append_drop (e - (P.length + L.length)) R
 refine Zqz f (L.take (s - P.length)) (L.drop (s - P.length)) (R.take (e - (P.length + L.length))) (R.drop (e - (P.length + L.length))) (by rw [tL];exact hL) (by rw [tR];exact hR) (by rw [tL,tR];exact hx) ?_ ?_
 ·by_cases g1:s = P.length
  ·left;rw [g1,Nat.sub_self];rfl
  ·by_cases g2:e = P.length + L.length + R.length
   ·right;left;exact List.drop_of_length_le (by omega)
   ·right;right
    have g3:¬ fLt f ((P ++ (L ++ (R ++ Q))).getD e 0) ((P ++ (L ++ (R ++ Q))).getD (s - 1) 0):=by
     rcases h1 with h | h | h
     ·exact absurd h g1
     ·exact absurd h g2
     ·exact h
    rw [Zafb P L R Q e he1 (by omega),Zafa P L (R ++ Q) (s - 1) (by omega) (by omega)] at g3
    refine ⟨_,_,_,_,Zxx (by omega) (by omega),Zma (by omega),?_⟩
    have e1:s - 1 - P.length = s - P.length - 1:=by omega
    simp only [e1] at g3
    exact g3
 ·by_cases g1:e = P.length + L.length
  ·left;rw [g1,Nat.sub_self];rfl
  ·by_cases g2:s = P.length + L.length
   ·right;left;exact List.drop_of_length_le (by omega)
   ·right;right
    have g3:fLt f ((P ++ (L ++ (R ++ Q))).getD (e - 1) 0) ((P ++ (L ++ (R ++ Q))).getD s 0):=by
     rcases h2 with h | h | h
     ·exact absurd h g1
     ·exact absurd h g2
     ·exact h
    rw [Zafb P L R Q (e - 1) (by omega) (by omega),Zafa P L (R ++ Q) s hs1 (by omega)] at g3
    refine ⟨_,_,_,_,Zxx (by omega) (by omega),Zma (by omega),?_⟩
    have e1:e - 1 - (P.length + L.length) = e - (P.length + L.length) - 1:=by omega
    simp only [e1] at g3
    exact g3
theorem Zdq {f L A B:List Nat} (h:Lex f L) (e:L = A ++ B):Lex f A /\ Lex f B:=by
 rw [e] at h
 exact ⟨(List.pairwise_append.1 h).1,(List.pairwise_append.1 h).2.1⟩
theorem Zacl (f P R Q:List Nat) (x e:Nat) (hR:Lex f R) (hx:∀ y ∈ R,x < y) (he1:P.length + 1 <= e) (he2:e <= P.length + 1 + R.length)
  (h1:e = P.length + 1 + R.length \/ ¬ fLt f ((P ++ ([x] ++ (R ++ Q))).getD e 0) ((P ++ ([x] ++ (R ++ Q))).getD P.length 0))
  (h2:e = P.length + 1 \/ fLt f ((P ++ ([x] ++ (R ++ Q))).getD (e - 1) 0) ((P ++ ([x] ++ (R ++ Q))).getD P.length 0)) :
  (R.take (e - (P.length + 1)) ++ x :: R.drop (e - (P.length + 1))).Perm ([x] ++ R) /\ Lex f (R.take (e - (P.length + 1)) ++ x :: R.drop (e - (P.length + 1))):=by
 have hLx:Lex f [x]:=List.pairwise_singleton _ _
 have hcr:∀ a ∈ [x],∀ y ∈ R,a < y:=fun a ha y hy=>by rw [List.mem_singleton.1 ha];exact hx y hy
 have c1:=Zns f P [x] R Q (P.length + 1) e hLx hR hcr (by omega) (by simp) (by simpa using he1) (by simpa using he2) (by
  rcases h1 with h | h
  ·exact .inr (.inl (by simpa using h))
  ·exact .inr (.inr (by rw [Nat.add_sub_cancel];exact h))) (.inr (.inl (by simp)))
 have c2:=Zns f P [x] R Q P.length e hLx hR hcr (Nat.le_refl _) (by simp) (by simpa using he1) (by simpa using he2) (.inl rfl) (by
  rcases h2 with h | h
  ·exact .inl (by simpa using h)
  ·exact .inr (.inr h))
 simp only [List.length_singleton,Nat.add_sub_cancel_left,Nat.sub_self,List.take_zero,List.drop_zero,List.nil_append] at c1 c2
 have t1:[x].take 1 = [x]:=rfl
 have d1:[x].drop 1 = ([]:List Nat):=rfl
 rw [t1,d1] at c1
 obtain ⟨lA,lB⟩:=Zdq hR (List.take_append_drop (e - (P.length + 1)) R).symm
 refine ⟨?_,List.pairwise_append.2 ⟨lA,List.pairwise_cons.2 ⟨fun y hy=>c1 x (by simp) y (by simpa using hy),lB⟩,fun a ha y hy=>c2 a ha y (by simpa using hy)⟩⟩
 refine List.perm_middle.trans ?_
 rw [List.take_append_drop]
 exact .refl _
theorem Zxu (f P L Q:List Nat) (y s:Nat) (hL:Lex f L) (hx:∀ x ∈ L,x < y) (hs1:P.length <= s) (hs2:s <= P.length + L.length)
  (h1:s = P.length \/ ¬ fLt f ((P ++ (L ++ ([y] ++ Q))).getD (P.length + L.length) 0) ((P ++ (L ++ ([y] ++ Q))).getD (s - 1) 0))
  (h2:s = P.length + L.length \/ fLt f ((P ++ (L ++ ([y] ++ Q))).getD (P.length + L.length) 0) ((P ++ (L ++ ([y] ++ Q))).getD s 0)) :
  (L.take (s - P.length) ++ y :: L.drop (s - P.length)).Perm (L ++ [y]) /\ Lex f (L.take (s - P.length) ++ y :: L.drop (s - P.length)):=by
 have hRy:Lex f [y]:=List.pairwise_singleton _ _
 have hcr:∀ a ∈ L,∀ b ∈ [y],a < b:=fun a ha b hb=>by rw [List.mem_singleton.1 hb];exact hx a ha
 have c1:=Zns f P L [y] Q s (P.length + L.length) hL hRy hcr hs1 hs2 (Nat.le_refl _) (by simp) (by
  rcases h1 with h | h
  ·exact .inl h
  ·exact .inr (.inr h)) (.inl rfl)
 have c2:=Zns f P L [y] Q s (P.length + L.length + 1) hL hRy hcr hs1 hs2 (by omega) (by simp) (.inr (.inl (by simp))) (by
  rcases h2 with h | h
  ·exact .inr (.inl h)
  ·exact .inr (.inr (by rw [Nat.add_sub_cancel];exact h)))
 rw [Nat.sub_self] at c1
 rw [Nat.add_sub_cancel_left] at c2
 have t1:[y].take 1 = [y]:=rfl
 have d1:[y].drop 1 = ([]:List Nat):=rfl
 rw [t1,d1,List.append_nil] at c2
 rw [List.take_zero,List.drop_zero,List.append_nil] at c1
 obtain ⟨lA,lB⟩:=Zdq hL (List.take_append_drop (s - P.length) L).symm
 refine ⟨?_,List.pairwise_append.2 ⟨lA,List.pairwise_cons.2 ⟨fun b hb=>c2 y (by simp) b hb,lB⟩,fun a ha b hb=>?_⟩⟩
 ·refine List.perm_middle.trans ?_
  rw [List.take_append_drop]
  exact (List.perm_append_singleton y L).symm
 ·rcases List.mem_cons.1 hb with rfl | hb
  ·exact c1 a ha _ (by simp)
  ·exact c1 a ha b (by simp [hb])
theorem Zaio (P A B:List Nat) (x y:Nat):sw2 (P ++ (A ++ x :: y :: B)) (P.length + A.length) (P.length + A.length + 1) = P ++ ((A ++ [y]) ++ x :: B):=by
 have h:=Zafj (P ++ A) [] B x y
 simp only [List.length_append,List.length_nil,List.nil_append,Nat.add_zero,List.append_assoc] at h
 rw [h];simp
theorem Zaed (P A B:List Nat) (x y:Nat):sw2 (P ++ (A ++ y :: x :: B)) (P.length + A.length + 1) (P.length + A.length) = P ++ (A ++ x :: y :: B):=by
 have h1:(P ++ (A ++ y :: x :: B)).getD (P.length + A.length) 0 = y:=by
  have:=Zgs (P ++ A) y (x :: B)
  rw [List.length_append,List.append_assoc] at this;exact this
 have h2:(P ++ (A ++ y :: x :: B)).getD (P.length + A.length + 1) 0 = x:=by
  have:=Zgs (P ++ A ++ [y]) x B
  simp only [List.length_append,List.append_assoc,List.length_singleton,List.singleton_append] at this;exact this
 unfold sw2
 rw [h1,h2]
 rw [List.set_append_right _ _ (by omega),List.set_append_right _ _ (by omega),show P.length + A.length + 1 - P.length = A.length + 1 by omega,show P.length + A.length - P.length = A.length by omega]
 rw [List.set_append_right _ _ (by omega),show A.length + 1 - A.length = 1 by omega,List.set_append_right _ _ (by omega),Nat.sub_self]
 rfl
theorem Zhz (A S B:List Nat) (j:Nat) (hj:j < S.length):(A ++ (S ++ B)).getD (A.length + j) 0 = S.getD j 0:=by
 rw [List.getD_eq_getElem?_getD,List.getD_eq_getElem?_getD,List.getElem?_append_right (by omega),Nat.add_sub_cancel_left,List.getElem?_append_left hj]
theorem Zzr (A S B:List Nat) (j x:Nat) (hj:j < S.length):(A ++ (S ++ B)).set (A.length + j) x = A ++ (S.set j x ++ B):=by
 rw [List.set_append_right _ _ (by omega),Nat.add_sub_cancel_left,List.set_append_left _ _ hj]
theorem Zaaa (A S B:List Nat) (j:Nat) (hj:j + 1 < S.length):swapL (A ++ (S ++ B)) (A.length + j) = A ++ (swapL S j ++ B):=by
 unfold swapL
 rw [Zhz A S B j (by omega),show A.length + j + 1 = A.length + (j + 1) by omega,Zhz A S B (j + 1) hj,Zzr A S B (j + 1) _ hj,Zzr A _ B j _ (by rw [List.length_set];omega)]
theorem Zaci (f A B:List Nat):∀ (j:Nat) (S:List Nat),j < S.length -> insD f A.length (A.length + j) (A ++ (S ++ B)) = A ++ (insD f 0 j S ++ B):=by
 intro j
 induction j with
 | zero =>
  intro S h
  cases hA:A.length with
  | zero=>rfl
  | succ k =>
   show (if _ then _ else _) = _
   rw [if_neg (fun h=>by omega)]
   rfl
 | succ j ih =>
  intro S h
  show (if A.length < A.length + j + 1 /\ f.getD ((A ++ (S ++ B)).getD (A.length + (j + 1)) 0) 0 < f.getD ((A ++ (S ++ B)).getD (A.length + j) 0) 0 then insD f A.length (A.length + j) (swapL (A ++ (S ++ B)) (A.length + j)) else A ++ (S ++ B)) = A ++ ((if 0 < j + 1 /\ f.getD (S.getD (j + 1) 0) 0 < f.getD (S.getD j 0) 0 then insD f 0 j (swapL S j) else S) ++ B)
  rw [Zhz A S B _ h,Zhz A S B j (by omega),Zaaa A S B j h,ih (swapL S j) (by rw [Zju];omega)]
  by_cases hc:f.getD (S.getD (j + 1) 0) 0 < f.getD (S.getD j 0) 0
  ·rw [if_pos ⟨by omega,hc⟩,if_pos ⟨by omega,hc⟩]
  ·rw [if_neg (fun h=>hc h.2),if_neg (fun h=>hc h.2)]
theorem Zack (f A B:List Nat):∀ (n i:Nat) (S:List Nat),i + n <= S.length -> insO f A.length (A.length + i) n (A ++ (S ++ B)) = A ++ (insO f 0 i n S ++ B):=by
 intro n
 induction n with
 | zero=>intro i S h;rfl
 | succ n ih =>
  intro i S h
  show insO f A.length (A.length + i + 1) n (insD f A.length (A.length + i) (A ++ (S ++ B))) = A ++ (insO f 0 (i + 1) n (insD f 0 i S) ++ B)
  rw [Zaci f A B i S (by omega),show A.length + i + 1 = A.length + (i + 1) by omega,ih (i + 1) _ (by rw [Zach];omega)]
theorem Zur (f S:List Nat) (h:S.Pairwise (· < ·)):(insS f 0 S.length S).Perm S /\ Lex f (insS f 0 S.length S):=by
 unfold insS
 match S with
 | []=>exact ⟨.refl _,List.Pairwise.nil⟩
 | x :: s =>
  rw [List.pairwise_cons] at h
  have h1:=Zxt f s [x]
  have h2:(x :: s).length - (0 + 1) = s.length:=by simp
  rw [h2,Nat.zero_add]
  have h3:insO f 0 1 s.length (x :: s) = (s.foldl (fun r x=>inr f x r) [x]).reverse:=h1
  rw [h3]
  obtain ⟨h4,h5⟩:=Zaca f s [x] h.2 (by simp [LexR]) (by intro y hy z hz;simp at hy;subst hy;exact h.1 z hz)
  exact ⟨(List.reverse_perm _).trans h5,List.pairwise_reverse.2 h4⟩
theorem Zuq (f A S B:List Nat) (h:S.Pairwise (· < ·)):∃ M,insS f A.length (A.length + S.length) (A ++ (S ++ B)) = A ++ (M ++ B) /\ M.Perm S /\ Lex f M:=by
 obtain ⟨h1,h2⟩:=Zur f S h
 refine ⟨insS f 0 S.length S,?_,h1,h2⟩
 unfold insS
 by_cases h0:S.length = 0
 ·have:S = []:=List.eq_nil_of_length_eq_zero h0
  subst this
  have e:A.length + ([]:List Nat).length - (A.length + 1) = 0:=by simp
  rw [e];rfl
 ·rw [show A.length + S.length - (A.length + 1) = S.length - 1 by omega,show S.length - (0 + 1) = S.length - 1 by omega]
  exact Zack f A B (S.length - 1) 1 S (by omega)
def seg (d:List Nat) (p n:Nat):List Nat:=(d.drop p).take n
def Blk (f d0:List Nat) (s:Nat) (d:List Nat) (k:Nat):Prop:=Lex f (seg d (k * s) s) /\ (seg d (k * s) s).Perm (seg d0 (k * s) s)
theorem Zadr (A M M' B:List Nat) (p n:Nat) (h:p + n <= A.length) (hM:M.length = M'.length):seg (A ++ (M ++ B)) p n = seg (A ++ (M' ++ B)) p n:=by
 unfold seg
 rw [List.drop_append_of_le_length (by omega),List.drop_append_of_le_length (by omega),List.take_append_of_le_length (by rw [List.length_drop];omega),List.take_append_of_le_length (by rw [List.length_drop];omega)]
theorem Zpf (A M M' B:List Nat) (p n:Nat) (h:A.length + M.length <= p) (hM:M.length = M'.length):seg (A ++ (M ++ B)) p n = seg (A ++ (M' ++ B)) p n:=by
 unfold seg
 have key:∀ N:List Nat,A.length + N.length <= p -> List.drop p (A ++ (N ++ B)) = List.drop (p - (A.length + N.length)) B:=by
  intro N hN
  rw [<- List.append_assoc,List.drop_append,List.drop_of_length_le (by rw [List.length_append];exact hN),List.length_append,List.nil_append]
 rw [key M h,key M' (by omega),hM]
theorem Zagz (A M B:List Nat) (p n:Nat) (hp:p = A.length) (hn:n = M.length \/ M.length <= n /\ B = []):seg (A ++ (M ++ B)) p n = M:=by
 unfold seg
 subst hp
 rw [List.drop_left]
 rcases hn with rfl | ⟨h,rfl⟩
 ·rw [List.take_left' rfl]
 ·rw [List.append_nil,List.take_of_length_le h]
theorem cut3L (d:List Nat) (a m b:Nat) (h1:a <= m) (h2:m <= b) (h3:b <= d.length):d = d.take a ++ (seg d a (m - a) ++ (seg d m (b - m) ++ d.drop b)):=by
 unfold seg
 have e1:(d.drop m).take (b - m) ++ d.drop b = d.drop m:=by
  have:=List.take_append_drop (b - m) (d.drop m)
  rw [List.drop_drop,show m + (b - m) = b by omega] at this
  exact this
 have e2:(d.drop a).take (m - a) ++ d.drop m = d.drop a:=by
  have:=List.take_append_drop (m - a) (d.drop a)
  rw [List.drop_drop,show a + (m - a) = m by omega] at this
  exact this
 rw [e1,e2,List.take_append_drop]
theorem Zrn (d:List Nat) (p n:Nat) (h:p + n <= d.length):(seg d p n).length = n:=by unfold seg;rw [List.length_take,List.length_drop];omega
theorem Zig (d:List Nat) (p n m:Nat) (h:d.length <= p + n) (hm:n <= m):seg d p m = seg d p n:=by
 unfold seg
 rw [List.take_of_length_le (by rw [List.length_drop];omega),List.take_of_length_le (by rw [List.length_drop];omega)]
theorem Ztk (d:List Nat) (p n:Nat) (h:d.length <= p):seg d p n = []:=by
 unfold seg
 rw [List.drop_of_length_le h,List.take_nil]
theorem Zagy (d:List Nat) (p n m:Nat):seg d p n ++ seg d (p + n) m = seg d p (n + m):=by
 unfold seg
 rw [<- List.drop_drop,List.take_add]
theorem Zzo (d:List Nat) (h:d.Pairwise (· < ·)) (p n q m:Nat) (hq:p + n <= q):∀ x ∈ seg d p n,∀ y ∈ seg d q m,x < y:=by
 intro x hx y hy
 have h1:x ∈ (d.take q):=by
  unfold seg at hx
  have h2:d.take q = d.take p ++ (d.drop p).take (q - p):=by
   have:=List.take_add (l:=d) (i:=p) (j:=q - p)
   rw [show p + (q - p) = q by omega] at this
   exact this
  rw [h2]
  refine List.mem_append.2 (.inr ?_)
  have h3:(d.drop p).take n = ((d.drop p).take (q - p)).take n:=by rw [List.take_take,Nat.min_eq_left (by omega)]
  rw [h3] at hx
  exact List.mem_of_mem_take hx
 have h2:y ∈ d.drop q:=by unfold seg at hy;exact List.mem_of_mem_take hy
 have h3:=h
 rw [<- List.take_append_drop q d] at h3
 exact (List.pairwise_append.1 h3).2.2 x h1 y h2
theorem Zwi (f d0 A X M B:List Nat) (s k:Nat) (hA:A.length = k * s) (hX:X.length = s \/ X.length <= s /\ B = []) (hM:M.length = X.length) (hL:Lex f M) (hp:M.Perm (seg d0 (k * s) s)) :
  Blk f d0 s (A ++ (M ++ B)) k /\ ∀ j,j ≠ k -> Blk f d0 s (A ++ (X ++ B)) j -> Blk f d0 s (A ++ (M ++ B)) j:=by
 constructor
 ·unfold Blk
  rw [Zagz A M B (k * s) s hA.symm (by
   rcases hX with h | ⟨h,h'⟩
   ·exact .inl (by omega)
   ·exact .inr ⟨by omega,h'⟩)]
  exact ⟨hL,hp⟩
 ·intro j hj h
  unfold Blk at h ⊢
  have:seg (A ++ (M ++ B)) (j * s) s = seg (A ++ (X ++ B)) (j * s) s:=by
   rcases Nat.lt_or_gt_of_ne hj with h1 | h1
   ·have h2:(j + 1) * s <= k * s:=Nat.mul_le_mul_right _ h1
    rw [Nat.add_mul] at h2
    exact Zadr A M X B _ _ (by omega) hM
   ·have h2:(k + 1) * s <= j * s:=Nat.mul_le_mul_right _ h1
    rw [Nat.add_mul] at h2
    exact Zpf A M X B _ _ (by rcases hX with h3 | ⟨h3,_⟩ <;> omega) hM
  rw [this];exact h
def RelA (f d0:List Nat) (k:Nat) (D:List Nat):Prop:=D.length = d0.length /\ (∀ j,j < k -> Blk f d0 20 D j) /\ D.drop (20 * k) = d0.drop (20 * k)
theorem Zvi (f d0:List Nat):RelA f d0 0 d0:=⟨rfl,fun j h=>absurd h (by omega),rfl⟩
theorem Zzp (d:List Nat) (h:d.Pairwise (· < ·)) (p n:Nat):(seg d p n).Pairwise (· < ·):=by
 unfold seg
 exact (h.drop).take
theorem Ztf (f d0:List Nat) (hd:d0.Pairwise (· < ·)) (k b:Nat) (D:List Nat) (h:RelA f d0 k D) (h1:20 * k <= b) (hb:b <= D.length) (hb2:b = 20 * k + 20 \/ b < 20 * k + 20 /\ b = D.length) :
  Blk f d0 20 (insS f (20 * k) b D) k /\ (∀ j,j < k -> Blk f d0 20 (insS f (20 * k) b D) j) /\ (insS f (20 * k) b D).length = d0.length /\ (insS f (20 * k) b D).drop b = d0.drop b:=by
 obtain ⟨g1,g2,g3⟩:=h
 have hsplit:=cut3L D (20 * k) b b h1 (Nat.le_refl _) hb
 have hs0:seg D b (b - b) = []:=by unfold seg;simp
 rw [hs0,List.nil_append] at hsplit
 have hseg:seg D (20 * k) (b - 20 * k) = seg d0 (20 * k) (b - 20 * k):=by unfold seg;rw [g3]
 have hsl:=Zrn D (20 * k) (b - 20 * k) (by omega)
 have htl:(D.take (20 * k)).length = 20 * k:=by rw [List.length_take];omega
 obtain ⟨M,m1,m2,m3⟩:=Zuq f (D.take (20 * k)) (seg D (20 * k) (b - 20 * k)) (D.drop b) (by rw [hseg];exact Zzp d0 hd _ _)
 rw [<- hsplit,htl,hsl,show 20 * k + (b - 20 * k) = b by omega] at m1
 have hml:M.length = (seg D (20 * k) (b - 20 * k)).length:=m2.length_eq
 have hs20:seg d0 (20 * k) (b - 20 * k) = seg d0 (k * 20) 20:=by
  rw [Nat.mul_comm k 20]
  rcases hb2 with e | ⟨e1,e2⟩
  ·rw [e,Nat.add_sub_cancel_left]
  ·exact (Zig d0 (20 * k) (b - 20 * k) 20 (by omega) (by omega)).symm
 obtain ⟨p1,p2⟩:=Zwi f d0 (D.take (20 * k)) (seg D (20 * k) (b - 20 * k)) M (D.drop b) 20 k (by rw [htl];omega) (by
  rcases hb2 with e | ⟨e1,e2⟩
  ·exact .inl (by omega)
  ·exact .inr ⟨by omega,List.drop_of_length_le (by omega)⟩) hml m3 (by rw [<- hs20,<- hseg];exact m2)
 rw [<- hsplit] at p2
 rw [m1]
 refine ⟨p1,fun j hj=>p2 j (by omega) (g2 j hj),?_,?_⟩
 ·have:=congrArg List.length hsplit
  rw [List.length_append,List.length_append] at this ⊢
  omega
 ·rw [<- List.append_assoc,List.drop_left' (by rw [List.length_append];omega)]
  have:=congrArg (List.drop (b - 20 * k)) g3
  rw [List.drop_drop,List.drop_drop,show 20 * k + (b - 20 * k) = b by omega] at this
  exact this
theorem Zzb (f d0:List Nat) (hd:d0.Pairwise (· < ·)) (k:Nat) (D:List Nat) (h:RelA f d0 k D) (hb:20 * k + 20 <= D.length):RelA f d0 (k + 1) (insS f (20 * k) (20 * k + 20) D):=by
 obtain ⟨a,b,c,d⟩:=Ztf f d0 hd k (20 * k + 20) D h (by omega) hb (.inl rfl)
 refine ⟨c,fun j hj=>?_,by rw [show 20 * (k + 1) = 20 * k + 20 by omega];exact d⟩
 by_cases e:j = k
 ·subst e;exact a
 ·exact b j (by omega)
theorem Zlr (f d0:List Nat) (s:Nat) (D:List Nat) (h:D.length = d0.length) (j:Nat) (hj:D.length <= j * s):Blk f d0 s D j:=by
 unfold Blk
 rw [Ztk D _ _ hj,Ztk d0 _ _ (by omega)]
 exact ⟨List.Pairwise.nil,.refl _⟩
theorem Zadm (f d0:List Nat) (hd:d0.Pairwise (· < ·)) (k:Nat) (D:List Nat) (h:RelA f d0 k D) (h1:20 * k <= D.length) (hb:D.length < 20 * k + 20):(insS f (20 * k) D.length D).length = d0.length /\ ∀ j,Blk f d0 20 (insS f (20 * k) D.length D) j:=by
 obtain ⟨a,b,c,d⟩:=Ztf f d0 hd k D.length D h h1 (Nat.le_refl _) (.inr ⟨hb,rfl⟩)
 refine ⟨c,fun j=>?_⟩
 rcases Nat.lt_trichotomy j k with e | e | e
 ·exact b j e
 ·subst e;exact a
 ·exact Zlr f d0 20 _ c j (by have:=h.1;omega)
def RelM (f d0:List Nat) (s k:Nat) (D:List Nat):Prop:=D.length = d0.length /\ (∀ j,j < k -> Blk f d0 (2 * s) D j) /\ ∀ j,2 * k <= j -> Blk f d0 s D j
theorem Zvj (f d0:List Nat) (s:Nat) (D:List Nat) (h:D.length = d0.length) (hb:∀ j,Blk f d0 s D j):RelM f d0 s 0 D:=⟨h,fun j hj=>absurd hj (by omega),fun j _=>hb j⟩
theorem Zzd (f d0:List Nat) (hd:d0.Pairwise (· < ·)) (s k b:Nat) (D:List Nat) (h:RelM f d0 s k D) (hm:2 * s * k + s < b) (hb:b <= D.length) (hb2:b = 2 * s * k + 2 * s \/ b < 2 * s * k + 2 * s /\ b = D.length) :
  ∃ A L R B,D = A ++ (L ++ (R ++ B)) /\ A.length = 2 * s * k /\ L.length = s /\ A.length + L.length + R.length = b /\ Lex f L /\ Lex f R /\ (∀ x ∈ L,∀ y ∈ R,x < y) /\ ∀ M,M.Perm (L ++ R) -> Lex f M -> RelM f d0 s (k + 1) (A ++ (M ++ B)):=by
 obtain ⟨g1,g2,g3⟩:=h
 have q1:2 * k * s = 2 * s * k:=by rw [Nat.mul_right_comm]
 have q2:(2 * k + 1) * s = 2 * s * k + s:=by rw [Nat.add_mul,q1,Nat.one_mul]
 have q3:k * (2 * s) = 2 * s * k:=by rw [Nat.mul_comm]
 have hsplit:=cut3L D (2 * s * k) (2 * s * k + s) b (by omega) (by omega) hb
 have b1:=g3 (2 * k) (Nat.le_refl _)
 have b2:=g3 (2 * k + 1) (by omega)
 unfold Blk at b1 b2
 rw [q1] at b1
 rw [q2] at b2
 have eR:seg D (2 * s * k + s) (b - (2 * s * k + s)) = seg D (2 * s * k + s) s:=by
  rcases hb2 with e | ⟨e1,e2⟩
  ·congr 1;omega
  ·exact (Zig D _ _ s (by omega) (by omega)).symm
 have eL:2 * s * k + s - 2 * s * k = s:=by omega
 rw [eL] at hsplit
 have hL:=Zrn D (2 * s * k) s (by omega)
 have hR:=Zrn D (2 * s * k + s) (b - (2 * s * k + s)) (by omega)
 have hA:(D.take (2 * s * k)).length = 2 * s * k:=by rw [List.length_take];omega
 refine ⟨D.take (2 * s * k),seg D (2 * s * k) s,seg D (2 * s * k + s) (b - (2 * s * k + s)),D.drop b,hsplit,hA,hL,by omega,b1.1,by rw [eR];exact b2.1,fun x hx y hy=>?_,fun M hp hlx=>?_⟩
 ·rw [eR] at hy
  exact Zzo d0 hd (2 * s * k) s (2 * s * k + s) s (Nat.le_refl _) x (b1.2.mem_iff.1 hx) y (b2.2.mem_iff.1 hy)
 ·have hML:=hp.length_eq
  have hpd:M.Perm (seg d0 (k * (2 * s)) (2 * s)):=by
   rw [q3,show 2 * s = s + s by omega,<- Zagy,<- show 2 * s = s + s by omega]
   rw [eR] at hp
   exact hp.trans (List.Perm.append b1.2 b2.2)
  obtain ⟨p1,p2⟩:=Zwi f d0 (D.take (2 * s * k)) (seg D (2 * s * k) s ++ seg D (2 * s * k + s) (b - (2 * s * k + s))) M (D.drop b) (2 * s) k (by rw [hA,q3]) (by
   rw [List.length_append,hL,hR]
   rcases hb2 with e | ⟨e1,e2⟩
   ·exact .inl (by omega)
   ·exact .inr ⟨by omega,List.drop_of_length_le (by omega)⟩) hML hlx hpd
  have hsplit2:D = D.take (2 * s * k) ++ ((seg D (2 * s * k) s ++ seg D (2 * s * k + s) (b - (2 * s * k + s))) ++ D.drop b):=by
   rw [List.append_assoc];exact hsplit
  rw [<- hsplit2] at p2
  refine ⟨?_,fun j hj=>?_,fun j hj=>?_⟩
  ·have e1:=congrArg List.length hsplit2
   rw [List.length_append,List.length_append] at e1 ⊢
   omega
  ·by_cases e:j = k
   ·subst e;exact p1
   ·exact p2 j e (g2 j (by omega))
  ·have h0:=g3 j (by omega)
   have h2:(2 * k + 2) * s <= j * s:=Nat.mul_le_mul_right _ (by omega)
   rw [Nat.add_mul,q1] at h2
   unfold Blk at h0 ⊢
   have:seg (D.take (2 * s * k) ++ (M ++ D.drop b)) (j * s) s = seg D (j * s) s:=by
    have h3:=Zpf (D.take (2 * s * k)) M (seg D (2 * s * k) s ++ seg D (2 * s * k + s) (b - (2 * s * k + s))) (D.drop b) (j * s) s (by rw [hML,List.length_append,hA,hL,hR];omega) hML
    rw [<- hsplit2] at h3
    exact h3
   rw [this];exact h0
theorem Zadn (f d0:List Nat) (s k:Nat) (D:List Nat) (h:RelM f d0 s k D) (hb:D.length < 2 * s * k + 2 * s) (hl:D.length <= 2 * s * k + s):∀ j,Blk f d0 (2 * s) D j:=by
 obtain ⟨g1,g2,g3⟩:=h
 intro j
 rcases Nat.lt_trichotomy j k with e | e | e
 ·exact g2 j e
 ·subst e
  have b1:=g3 (2 * j) (Nat.le_refl _)
  have q1:2 * j * s = 2 * s * j:=by rw [Nat.mul_right_comm]
  have q3:j * (2 * s) = 2 * s * j:=by rw [Nat.mul_comm]
  unfold Blk at b1 ⊢
  rw [q1] at b1
  rw [q3,Zig D (2 * s * j) s (2 * s) hl (by omega),Zig d0 (2 * s * j) s (2 * s) (by omega) (by omega)]
  exact b1
 ·refine Zlr f d0 (2 * s) D g1 j ?_
  have h2:(k + 1) * (2 * s) <= j * (2 * s):=Nat.mul_le_mul_right _ e
  rw [Nat.add_mul,Nat.mul_comm k] at h2
  omega
theorem Zzc (f d0:List Nat) (s k:Nat) (D:List Nat) (h:RelM f d0 s k D) (hl:D.length <= 2 * s * k):∀ j,Blk f d0 (2 * s) D j:=by
 intro j
 by_cases e:j < k
 ·exact h.2.1 j e
 ·refine Zlr f d0 (2 * s) D h.1 j ?_
  have h2:k * (2 * s) <= j * (2 * s):=Nat.mul_le_mul_right _ (by omega)
  rw [Nat.mul_comm k] at h2
  omega
theorem Zafu (f:List Nat) (s:Nat) (D:List Nat) (hl:D.length = (used f).length) (hs:D.length <= s) (h:Blk f (used f) s D 0):D = rar f:=by
 unfold Blk at h
 have e:∀ l:List Nat,l.length <= s -> seg l (0 * s) s = l:=by
  intro l hl
  unfold seg
  rw [Nat.zero_mul,List.drop_zero,List.take_of_length_le hl]
 rw [e D hs,e (used f) (by omega)] at h
 exact Zuz f _ _ (h.2.trans (Zbg f).symm) h.1 (Zyz f)
end Go.Proofs.YtendielanacflaaGreat.M05

namespace Go.Proofs.YtendielanacflaaGreat
open Go.RowKit Go.Shelf M04 M05
attribute [local go_sem] Oper.semAt_some
theorem Zahf {d:List Nat} {i j n:Nat} (hi:i < d.length) (hj:j < d.length) (h:∀ x ∈ d,x < n):∀ x ∈ sw2 d i j,x < n:=by
 intro x hx
 unfold sw2 at hx
 have h1:d.getD j 0 < n:=by rw [List.getD_eq_getElem?_getD,List.getElem?_eq_getElem hj];exact h _ (List.getElem_mem _)
 have h2:d.getD i 0 < n:=by rw [List.getD_eq_getElem?_getD,List.getElem?_eq_getElem hi];exact h _ (List.getElem_mem _)
 rcases List.mem_or_eq_of_mem_set hx with h' | rfl
 ·rcases List.mem_or_eq_of_mem_set h' with h'' | rfl
  ·exact h _ h''
  ·exact h1
 ·exact h2
theorem SrtI.base {A0 A:World} {g base cap p fc n:Nat} {fa:Option Addr} {f D:List Nat} (h:SrtI A0 g base cap p fa fc f n D A):base <= g:=by
 rcases h.own.form with ⟨h',_⟩ | ⟨g',h',hb,_⟩
 ·cases h'
 ·simp only [Option.some.injEq,Addr.mk.injEq,and_true] at h';omega
theorem SrtI.sw2 {A0 A:World} {g base cap p fc n:Nat} {fa:Option Addr} {f D:List Nat} (h:SrtI A0 g base cap p fa fc f n D A) (hp:p < base) (hfa:∀ x,0 < f.length -> fa = some x -> x.block < base) {i j:Nat} (hi:i < n) (hj:j < n) :
  SrtI A0 g base cap p fa fc f n (sw2 D i j) ((A.setCell ⟨g,i,none⟩ (.int .i64 (D.getD j 0:Nat))).setCell ⟨g,j,none⟩ (.int .i64 (D.getD i 0:Nat))):=by
 obtain ⟨o1,g1⟩:=h.own.stored i (D.getD j 0)
 obtain ⟨o2,g2⟩:=o1.stored j (D.getD i 0)
 have hg:=h.base
 have ho:Only (fun b=>b = g) A ((A.setCell ⟨g,i,none⟩ (.int .i64 (D.getD j 0:Nat))).setCell ⟨g,j,none⟩ (.int .i64 (D.getD i 0:Nat))) :=
  Only.trans ⟨g1.os,g1.tape,g1.output,g1.size,fun b hb hne=>g1.block b hb (fun e=>by cases e;exact hne rfl)⟩ ⟨g2.os,g2.tape,g2.output,g2.size,fun b hb hne=>g2.block b hb (fun e=>by cases e;exact hne rfl)⟩
 refine ⟨o2,by rw [Zahe];exact h.len,Zahf (by rw [h.len];exact hi) (by rw [h.len];exact hj) h.mem,h.only.trans ho,?_,h.row.same ho.size (fun x h0 hx=>?_)⟩
 ·exact (World.cell?_of_block (a:=⟨p,0,none⟩) (ho.block p (Zqb h.cell) (by omega))).trans h.cell
 ·have:=hfa x h0 hx
  refine ho.block _ ?_ (by omega)
  obtain ⟨b',off,he,hlt,_⟩:=h.row.at h0
  rw [hx] at he;cases he;exact hlt
theorem SrtI.at {A0 A:World} {g base cap p fc n:Nat} {fa:Option Addr} {f D:List Nat} (h:SrtI A0 g base cap p fa fc f n D A) {i:Nat} (hi:i < n):A.cell? ⟨g,i,none⟩ = some (.int .i64 (D.getD i 0:Nat)) /\ A.frozen? ⟨g,i,none⟩ = false:=by
 obtain ⟨g1,hg1,_,_,hcu,hfu⟩:=h.own.at (show i < D.length by rw [h.len];exact hi)
 simp only [Option.some.injEq,Addr.mk.injEq,and_true] at hg1
 subst hg1
 have:D.getD i 0 = D[i]'(by rw [h.len];exact hi):=by rw [List.getD_eq_getElem?_getD,List.getElem?_eq_getElem (by rw [h.len];exact hi)];rfl
 rw [this]
 exact ⟨hcu,hfu⟩
theorem SrtI.kept {A0 A:World} {g base cap p fc n:Nat} {fa:Option Addr} {f D:List Nat} (h:SrtI A0 g base cap p fa fc f n D A) {i j:Nat} (hi:i < n) (hj:j < n) (v:Nat):∃ kv,(A.setCell ⟨g,i,none⟩ (.int .i64 (v:Nat))).cell? ⟨g,j,none⟩ = some kv /\ (A.setCell ⟨g,i,none⟩ (.int .i64 (v:Nat))).frozen? ⟨g,j,none⟩ = false:=by
 obtain ⟨g3,hg3,_,_,h4,h5⟩:=((h.own.stored i v).1).at (i:=j) (by rw [List.length_set,h.len];exact hj)
 simp only [Option.some.injEq,Addr.mk.injEq,and_true] at hg3
 subst hg3
 exact ⟨_,h4,h5⟩
theorem SrtI.cmp {A0 A:World} {g base cap p fc n:Nat} {fa:Option Addr} {f D:List Nat} (h:SrtI A0 g base cap p fa fc f n D A) {i j:Nat} (hi:i < n) (hj:j < n) (q:Nat) :
  Calls Tryz.prog 119 #[.int .i64 (D.getD i 0:Nat),.int .i64 (D.getD j 0:Nat),.pointer (some ⟨p,0,none⟩)] (A.drewN q) fun e w'=>e = .returned (.int .i64 (cmpN (f.getD (D.getD i 0) 0) (f.getD (D.getD j 0) 0))) /\ ∃ m,w' = A.drewN m:=by
 have hm:∀ i,i < n -> D.getD i 0 < f.length:=fun i hi=>by
  rw [List.getD_eq_getElem?_getD,List.getElem?_eq_getElem (by rw [h.len];exact hi)]
  exact h.mem _ (List.getElem_mem _)
 refine (Zkz (A.drewN q) p fa fc f _ _ h.cell h.row (hm i hi) (hm j hj)).mono ?_
 rintro e w' ⟨h1,q',h2⟩
 exact ⟨h1,q + q',by rw [h2,World.drewN_drewN]⟩
theorem SrtI.after {A0 A B:World} {g base cap p fc n:Nat} {fa:Option Addr} {f D D':List Nat} (h:SrtI A0 g base cap p fa fc f n D A) (h2:SrtI A g base cap p fa fc f n D' B):SrtI A0 g base cap p fa fc f n D' B :=
 ⟨h2.own,h2.len,h2.mem,h.only.trans h2.only,h2.cell,h2.row⟩
theorem Zls (a b:Nat):decide (cmpN a b < 0) = decide (a < b):=by
 unfold cmpN
 by_cases h:a < b
 ·rw [if_pos h];simp [h]
 ·rw [if_neg h];split <;> simp [h]
set_option maxRecDepth 100000 in
set_option maxHeartbeats 3200000 in
theorem Zvt (A0 A:World) (g base cap p a b m:Nat) (fa:Option Addr) (fc:Nat) (f d:List Nat) (hI:SrtI A0 g base cap p fa fc f d.length d A) (hp:p < base) (hfa:∀ x,0 < f.length -> fa = some x -> x.block < base) (ha:a + m <= d.length) (hb:b + m <= d.length) (hl:d.length <= 600) :
  Calls Tryz.prog 159 #[.slice (some ⟨g,0,none⟩) d.length cap,.int .i64 (a:Nat),.int .i64 (b:Nat),.int .i64 (m:Nat),.func (.func 119) #[] #[.pointer (some ⟨p,0,none⟩)]] A fun e w'=>e = .returned (.tuple #[]) /\ SrtI A0 g base cap p fa fc f d.length (swF m a b d) w':=by
 obtain ⟨n,hn⟩:∃ n,d.length = n:=⟨_,rfl⟩
 rw [hn] at hI ha hb hl ⊢
 have HI:=Zh hI
 have HSW:=Zh (fun D A' i j (h:SrtI A0 g base cap p fa fc f n D A') (hi:i < n) (hj:j < n)=>h.sw2 hp hfa hi hj)
 obtain ⟨T,hT⟩:∃ T,swF m a b d = T:=⟨_,rfl⟩
 have HT:=Zh hT
 rw [hT]
 clear hI hT
 go_enter Tryz.func159,Tryz.ntmps159
 go_wp2
 go_loopw [10] (fun x A'=>∃ i D,x = .int .i64 (i:Nat) /\ i <= m /\ swF (m - i) (a + i) (b + i) D = T /\ SrtI A0 g base cap p fa fc f n D A') (fun x _=>m - (intOf x).toNat)
 case atStart=>exact ⟨0,d,by go_num,by omega,HT.out,HI.out⟩
 case round =>
  clear HT HI
  obtain ⟨i,D,rfl,hi,ht,hs⟩:=hrel
  have HS:=Zh hs
  have HT:=Zh ht
  clear hs ht
  by_cases him:i < m
  ·have b1:decide (i < m) = true:=by simp;omega
   obtain ⟨r,hr⟩:∃ r,m - i = r + 1:=⟨m - i - 1,by omega⟩
   have HT2:=Zh (show swF (m - (i + 1)) (a + (i + 1)) (b + (i + 1)) (sw2 D (a + i) (b + i)) = T from by
    have:=HT.out
    rw [hr] at this
    rw [show m - (i + 1) = r by omega];exact this)
   obtain ⟨x,hx⟩:∃ x,a + i = x:=⟨_,rfl⟩
   obtain ⟨y,hy⟩:∃ y,b + i = y:=⟨_,rfl⟩
   have qa:(a:Int) + (i:Int) = (x:Int):=by omega
   have qb:(b:Int) + (i:Int) = (y:Int):=by omega
   have qwa:IntKind.i64.wrap (x:Int) = (x:Int):=IntWalk.i64_in _ (by omega)
   have qwb:IntKind.i64.wrap (y:Int) = (y:Int):=IntWalk.i64_in _ (by omega)
   have hxn:x < n:=by omega
   have hyn:y < n:=by omega
   rw [hx,hy] at HT2
   clear HT hr hx hy
   obtain ⟨W0,hW0⟩:∃ W0,wr.drew = W0:=⟨_,rfl⟩
   have hs1:SrtI A0 g base cap p fa fc f n D W0:=by rw [<- hW0];exact HS.out.drewN 1
   obtain ⟨kv,hk1,hk2⟩:=hs1.kept hxn hyn (D.getD y 0)
   have hend:=HSW.out D W0 x y hs1 hxn hyn
   obtain ⟨hcu,hfu⟩:=hs1.at hxn
   obtain ⟨hcv,_⟩:=hs1.at hyn
   generalize hxu:D.getD x 0 = xu at *
   generalize hxv:D.getD y 0 = xv at *
   have HW0:=Zh hW0
   obtain ⟨W1,hW1⟩:∃ W1,W0.setCell ⟨g,x,none⟩ (.int .i64 (xv:Nat)) = W1:=⟨_,rfl⟩
   rw [hW1] at hk1 hk2 hend
   have HW1:=Zh hW1
   obtain ⟨W2,hW2⟩:∃ W2,W1.setCell ⟨g,y,none⟩ (.int .i64 (xu:Nat)) = W2:=⟨_,rfl⟩
   rw [hW2] at hend
   have HW2:=Zh hW2
   have HCU:=Zh hcu
   have HCV:=Zh hcv
   have HF1:=Zh hfu
   have HCK:=Zh hk1
   have HF2:=Zh hk2
   have HEND:=Zh hend
   clear hk1 hk2 hend hcu hcv hfu hW0 hW1 hW2 hs1 hxu hxv
   go_wp2_with fail
   -- swap f136 begins
   refine Zao [16,17,18,19,20,21,22,23,24,25,26,27,28,29,30,31,32,33,34,35,36,37] (fun j=>false) (fun listed w1=>w1 = Ph2 W0 W1 W2 (listed.getD 21 false) (listed.getD 23 false)) (fun j v _=>match j with | 0=>v = .slice (some ⟨g,0,none⟩) n cap | 1=>v = .int .i64 (a:Nat) | 2=>v = .int .i64 (i:Nat) | 3=>v = .int .i64 (x:Nat) | 4=>v = .slice (some ⟨g,0,none⟩) n cap | 5=>v = .int .i64 (b:Nat) | 6=>v = .int .i64 (i:Nat) | 7=>v = .int .i64 (y:Nat) | 8=>v = .slice (some ⟨g,0,none⟩) n cap | 9=>v = .int .i64 (b:Nat) | 10=>v = .int .i64 (i:Nat) | 11=>v = .int .i64 (y:Nat) | 12=>v = .pointer (some ⟨g,y,none⟩) | 13=>v = .int .i64 (xv:Nat) | 14=>v = .slice (some ⟨g,0,none⟩) n cap | 15=>v = .int .i64 (a:Nat) | 16=>v = .int .i64 (i:Nat) | 17=>v = .int .i64 (x:Nat) | 18=>v = .pointer (some ⟨g,x,none⟩) | 19=>v = .int .i64 (xu:Nat) | 20=>v = .pointer (some ⟨g,x,none⟩) | 22=>v = .pointer (some ⟨g,y,none⟩) | _=>True) (fun _ _ _ _=>True) (by kernel_rfl) (by kernel_rfl) (OneEach.mk' (by kernel_rfl) (by kernel_rfl)) (by kernel_rfl) (by kernel_rfl) (by exact HW0.out) ?_ ?_
   ·intro i0 o hi0 listed a1 w1 hR hil hunf hdes hanc hout hdep
    have hsz:i0 < 24:=(Array.getElem?_eq_some_iff.1 hi0).1
    have hall:i0 = 0 \/ i0 = 1 \/ i0 = 2 \/ i0 = 3 \/ i0 = 4 \/ i0 = 5 \/ i0 = 6 \/ i0 = 7 \/ i0 = 8 \/ i0 = 9 \/ i0 = 10 \/ i0 = 11 \/ i0 = 12 \/ i0 = 13 \/ i0 = 14 \/ i0 = 15 \/ i0 = 16 \/ i0 = 17 \/ i0 = 18 \/ i0 = 19 \/ i0 = 20 \/ i0 = 21 \/ i0 = 22 \/ i0 = 23:=by omega
    clear hsz
    rcases hall with rfl | rfl | rfl | rfl | rfl | rfl | rfl | rfl | rfl | rfl | rfl | rfl | rfl | rfl | rfl | rfl | rfl | rfl | rfl | rfl | rfl | rfl | rfl | rfl <;> simp only [List.getElem?_toArray,List.getElem?_cons_zero,List.getElem?_cons_succ,Option.some.injEq] at hi0 <;> subst hi0
    ·have f0:a1.eval (.tmp 0) = .slice (some ⟨g,0,none⟩) n cap:=hout 0 (by decide)
     refine Zab (v:=.slice (some ⟨g,0,none⟩) n cap) (w':=w1) (by simp [execOp,f0]) ⟨_,rfl,?_,fun j u hu hV _=>⟨hV,trivial,trivial⟩,rfl⟩
     rw [Zaa (by decide),Zaa (by decide)];exact hR
    ·have f1:a1.eval (.tmp 1) = .int .i64 (a:Nat):=hout 1 (by decide)
     refine Zab (v:=.int .i64 (a:Nat)) (w':=w1) (by simp [execOp,f1]) ⟨_,rfl,?_,fun j u hu hV _=>⟨hV,trivial,trivial⟩,rfl⟩
     rw [Zaa (by decide),Zaa (by decide)];exact hR
    ·have f10:a1.eval (.tmp 10) = .int .i64 (i:Nat):=hout 10 (by decide)
     refine Zab (v:=.int .i64 (i:Nat)) (w':=w1) (by simp [execOp,f10]) ⟨_,rfl,?_,fun j u hu hV _=>⟨hV,trivial,trivial⟩,rfl⟩
     rw [Zaa (by decide),Zaa (by decide)];exact hR
    ·have e17:a1.eval (.tmp 17) = .int .i64 (a:Nat):=hdep ⟨1,.data⟩ (by simp) rfl _ rfl
     have e18:a1.eval (.tmp 18) = .int .i64 (i:Nat):=hdep ⟨2,.data⟩ (by simp) rfl _ rfl
     refine Zab (v:=.int .i64 (x:Nat)) (w':=w1) (by simp [execOp,e17,e18,eqgA,addI,qa,qwa]) ⟨_,rfl,?_,fun j u hu hV _=>⟨hV,trivial,trivial⟩,rfl⟩
     rw [Zaa (by decide),Zaa (by decide)];exact hR
    ·have f0:a1.eval (.tmp 0) = .slice (some ⟨g,0,none⟩) n cap:=hout 0 (by decide)
     refine Zab (v:=.slice (some ⟨g,0,none⟩) n cap) (w':=w1) (by simp [execOp,f0]) ⟨_,rfl,?_,fun j u hu hV _=>⟨hV,trivial,trivial⟩,rfl⟩
     rw [Zaa (by decide),Zaa (by decide)];exact hR
    ·have f2:a1.eval (.tmp 2) = .int .i64 (b:Nat):=hout 2 (by decide)
     refine Zab (v:=.int .i64 (b:Nat)) (w':=w1) (by simp [execOp,f2]) ⟨_,rfl,?_,fun j u hu hV _=>⟨hV,trivial,trivial⟩,rfl⟩
     rw [Zaa (by decide),Zaa (by decide)];exact hR
    ·have f10:a1.eval (.tmp 10) = .int .i64 (i:Nat):=hout 10 (by decide)
     refine Zab (v:=.int .i64 (i:Nat)) (w':=w1) (by simp [execOp,f10]) ⟨_,rfl,?_,fun j u hu hV _=>⟨hV,trivial,trivial⟩,rfl⟩
     rw [Zaa (by decide),Zaa (by decide)];exact hR
    ·have e21:a1.eval (.tmp 21) = .int .i64 (b:Nat):=hdep ⟨5,.data⟩ (by simp) rfl _ rfl
     have e22:a1.eval (.tmp 22) = .int .i64 (i:Nat):=hdep ⟨6,.data⟩ (by simp) rfl _ rfl
     refine Zab (v:=.int .i64 (y:Nat)) (w':=w1) (by simp [execOp,e21,e22,eqgA,addI,qb,qwb]) ⟨_,rfl,?_,fun j u hu hV _=>⟨hV,trivial,trivial⟩,rfl⟩
     rw [Zaa (by decide),Zaa (by decide)];exact hR
    ·have f0:a1.eval (.tmp 0) = .slice (some ⟨g,0,none⟩) n cap:=hout 0 (by decide)
     refine Zab (v:=.slice (some ⟨g,0,none⟩) n cap) (w':=w1) (by simp [execOp,f0]) ⟨_,rfl,?_,fun j u hu hV _=>⟨hV,trivial,trivial⟩,rfl⟩
     rw [Zaa (by decide),Zaa (by decide)];exact hR
    ·have f2:a1.eval (.tmp 2) = .int .i64 (b:Nat):=hout 2 (by decide)
     refine Zab (v:=.int .i64 (b:Nat)) (w':=w1) (by simp [execOp,f2]) ⟨_,rfl,?_,fun j u hu hV _=>⟨hV,trivial,trivial⟩,rfl⟩
     rw [Zaa (by decide),Zaa (by decide)];exact hR
    ·have f10:a1.eval (.tmp 10) = .int .i64 (i:Nat):=hout 10 (by decide)
     refine Zab (v:=.int .i64 (i:Nat)) (w':=w1) (by simp [execOp,f10]) ⟨_,rfl,?_,fun j u hu hV _=>⟨hV,trivial,trivial⟩,rfl⟩
     rw [Zaa (by decide),Zaa (by decide)];exact hR
    ·have e25:a1.eval (.tmp 25) = .int .i64 (b:Nat):=hdep ⟨9,.data⟩ (by simp) rfl _ rfl
     have e26:a1.eval (.tmp 26) = .int .i64 (i:Nat):=hdep ⟨10,.data⟩ (by simp) rfl _ rfl
     refine Zab (v:=.int .i64 (y:Nat)) (w':=w1) (by simp [execOp,e25,e26,eqgA,addI,qb,qwb]) ⟨_,rfl,?_,fun j u hu hV _=>⟨hV,trivial,trivial⟩,rfl⟩
     rw [Zaa (by decide),Zaa (by decide)];exact hR
    ·have e24:a1.eval (.tmp 24) = .slice (some ⟨g,0,none⟩) n cap:=hdep ⟨8,.data⟩ (by simp) rfl _ rfl
     have e27:a1.eval (.tmp 27) = .int .i64 (y:Nat):=hdep ⟨11,.data⟩ (by simp) rfl _ rfl
     refine Zab (v:=.pointer (some ⟨g,y,none⟩)) (w':=w1) (by simp [execOp,e24,e27,ixI g y n cap hyn]) ⟨_,rfl,?_,fun j u hu hV _=>⟨hV,trivial,trivial⟩,rfl⟩
     rw [Zaa (by decide),Zaa (by decide)];exact hR
    ·have e28:a1.eval (.tmp 28) = .pointer (some ⟨g,y,none⟩):=hdep ⟨12,.data⟩ (by simp) rfl _ rfl
     have x28:a1.tmps[28]?.getD undef = .pointer (some ⟨g,y,none⟩):=by simpa [Act.eval] using e28
     have hc:w1.cell? ⟨g,y,none⟩ = some (.int .i64 (xv:Nat)):=by
      rw [hdes 21 (by kernel_rfl),hdes 23 (by kernel_rfl)] at hR
      rw [hR];exact HCV.out
     refine Zab (v:=.int .i64 (xv:Nat)) (w':=w1) (by simp [execOp,e28,ldInt _ _ _ hc]) ⟨_,rfl,?_,fun j u hu hV _=>⟨hV,trivial,trivial⟩,rfl⟩
     rw [Zaa (by decide),Zaa (by decide)];exact hR
    ·have f0:a1.eval (.tmp 0) = .slice (some ⟨g,0,none⟩) n cap:=hout 0 (by decide)
     refine Zab (v:=.slice (some ⟨g,0,none⟩) n cap) (w':=w1) (by simp [execOp,f0]) ⟨_,rfl,?_,fun j u hu hV _=>⟨hV,trivial,trivial⟩,rfl⟩
     rw [Zaa (by decide),Zaa (by decide)];exact hR
    ·have f1:a1.eval (.tmp 1) = .int .i64 (a:Nat):=hout 1 (by decide)
     refine Zab (v:=.int .i64 (a:Nat)) (w':=w1) (by simp [execOp,f1]) ⟨_,rfl,?_,fun j u hu hV _=>⟨hV,trivial,trivial⟩,rfl⟩
     rw [Zaa (by decide),Zaa (by decide)];exact hR
    ·have f10:a1.eval (.tmp 10) = .int .i64 (i:Nat):=hout 10 (by decide)
     refine Zab (v:=.int .i64 (i:Nat)) (w':=w1) (by simp [execOp,f10]) ⟨_,rfl,?_,fun j u hu hV _=>⟨hV,trivial,trivial⟩,rfl⟩
     rw [Zaa (by decide),Zaa (by decide)];exact hR
    ·have e31:a1.eval (.tmp 31) = .int .i64 (a:Nat):=hdep ⟨15,.data⟩ (by simp) rfl _ rfl
     have e32:a1.eval (.tmp 32) = .int .i64 (i:Nat):=hdep ⟨16,.data⟩ (by simp) rfl _ rfl
     refine Zab (v:=.int .i64 (x:Nat)) (w':=w1) (by simp [execOp,e31,e32,eqgA,addI,qa,qwa]) ⟨_,rfl,?_,fun j u hu hV _=>⟨hV,trivial,trivial⟩,rfl⟩
     rw [Zaa (by decide),Zaa (by decide)];exact hR
    ·have e30:a1.eval (.tmp 30) = .slice (some ⟨g,0,none⟩) n cap:=hdep ⟨14,.data⟩ (by simp) rfl _ rfl
     have e33:a1.eval (.tmp 33) = .int .i64 (x:Nat):=hdep ⟨17,.data⟩ (by simp) rfl _ rfl
     refine Zab (v:=.pointer (some ⟨g,x,none⟩)) (w':=w1) (by simp [execOp,e30,e33,ixI g x n cap hxn]) ⟨_,rfl,?_,fun j u hu hV _=>⟨hV,trivial,trivial⟩,rfl⟩
     rw [Zaa (by decide),Zaa (by decide)];exact hR
    ·have e34:a1.eval (.tmp 34) = .pointer (some ⟨g,x,none⟩):=hdep ⟨18,.data⟩ (by simp) rfl _ rfl
     have x34:a1.tmps[34]?.getD undef = .pointer (some ⟨g,x,none⟩):=by simpa [Act.eval] using e34
     have hc:w1.cell? ⟨g,x,none⟩ = some (.int .i64 (xu:Nat)):=by
      rw [hdes 21 (by kernel_rfl),hdes 23 (by kernel_rfl)] at hR
      rw [hR];exact HCU.out
     refine Zab (v:=.int .i64 (xu:Nat)) (w':=w1) (by simp [execOp,e34,ldInt _ _ _ hc]) ⟨_,rfl,?_,fun j u hu hV _=>⟨hV,trivial,trivial⟩,rfl⟩
     rw [Zaa (by decide),Zaa (by decide)];exact hR
    ·have e16:a1.eval (.tmp 16) = .slice (some ⟨g,0,none⟩) n cap:=hdep ⟨0,.data⟩ (by simp) rfl _ rfl
     have e19:a1.eval (.tmp 19) = .int .i64 (x:Nat):=hdep ⟨3,.data⟩ (by simp) rfl _ rfl
     refine Zab (v:=.pointer (some ⟨g,x,none⟩)) (w':=w1) (by simp [execOp,e16,e19,ixI g x n cap hxn]) ⟨_,rfl,?_,fun j u hu hV _=>⟨hV,trivial,trivial⟩,rfl⟩
     rw [Zaa (by decide),Zaa (by decide)];exact hR
    ·have e36:a1.eval (.tmp 36) = .pointer (some ⟨g,x,none⟩):=hdep ⟨20,.data⟩ (by simp) rfl _ rfl
     have x36:a1.tmps[36]?.getD undef = .pointer (some ⟨g,x,none⟩):=by simpa [Act.eval] using e36
     have e29:a1.eval (.tmp 29) = .int .i64 (xv:Nat):=hdep ⟨13,.data⟩ (by simp) rfl _ rfl
     have x29:a1.tmps[29]?.getD undef = .int .i64 (xv:Nat):=by simpa [Act.eval] using e29
     rw [hunf,hdes 23 (by kernel_rfl)] at hR
     obtain rfl:w1 = W0:=hR
     refine Zan (w':=W1) (by simp [execOp,e36,e29,stInt _ _ _ w1 HCU.out HF1.out,HW1.out]) ⟨undef,rfl,?_,fun j u hu hV _=>⟨hV,trivial,trivial⟩,trivial⟩
     rw [Zad hil,Zaa (by decide),hdes 23 (by kernel_rfl)]
     rfl
    ·have e20:a1.eval (.tmp 20) = .slice (some ⟨g,0,none⟩) n cap:=hdep ⟨4,.data⟩ (by simp) rfl _ rfl
     have e23:a1.eval (.tmp 23) = .int .i64 (y:Nat):=hdep ⟨7,.data⟩ (by simp) rfl _ rfl
     refine Zab (v:=.pointer (some ⟨g,y,none⟩)) (w':=w1) (by simp [execOp,e20,e23,ixI g y n cap hyn]) ⟨_,rfl,?_,fun j u hu hV _=>⟨hV,trivial,trivial⟩,rfl⟩
     rw [Zaa (by decide),Zaa (by decide)];exact hR
    ·have e37:a1.eval (.tmp 37) = .pointer (some ⟨g,y,none⟩):=hdep ⟨22,.data⟩ (by simp) rfl _ rfl
     have x37:a1.tmps[37]?.getD undef = .pointer (some ⟨g,y,none⟩):=by simpa [Act.eval] using e37
     have e35:a1.eval (.tmp 35) = .int .i64 (xu:Nat):=hdep ⟨19,.data⟩ (by simp) rfl _ rfl
     have x35:a1.tmps[35]?.getD undef = .int .i64 (xu:Nat):=by simpa [Act.eval] using e35
     rw [hanc 21 (by kernel_rfl),hunf] at hR
     obtain rfl:w1 = W1:=hR
     refine Zan (w':=W2) (by simp [execOp,e37,e35,stInt _ _ _ w1 HCK.out HF2.out,HW2.out]) ⟨undef,rfl,?_,fun j u hu hV _=>⟨hV,trivial,trivial⟩,trivial⟩
     rw [Zad hil,Zaa (by decide),hanc 21 (by kernel_rfl)]
     rfl
   ·intro listed fv w1 hR hall hV
    rw [hall 21 (by decide),hall 23 (by decide)] at hR
    obtain rfl:w1 = W2:=hR
    simp only [spread,List.contains_cons,List.contains_nil,Nat.reduceBEq,Bool.or_false,Bool.or_true,cond_true,cond_false,Nat.reduceAdd,Nat.zero_add]
    go_wp2
    go_roundw
    case rel=>exact ⟨i + 1,sw2 D x y,by go_num,by omega,HT2.out,HEND.out⟩
    case measure=>simp [intOf];omega
   -- swap f136 ends
  ·have b1:decide (i < m) = false:=by simp;omega
   have HT3:=Zh (show D = T from by have:=HT.out;rw [show m - i = 0 by omega] at this;exact this)
   clear HT him
   go_wp2
   go_end0
   exact ⟨rfl,by rw [<- HT3.out];exact HS.out⟩
set_option maxRecDepth 100000 in
set_option maxHeartbeats 3200000 in
theorem rotate (A0 A:World) (g base cap p a m b i j:Nat) (fa:Option Addr) (fc:Nat) (f d:List Nat) (hI:SrtI A0 g base cap p fa fc f d.length d A) (hp:p < base) (hfa:∀ x,0 < f.length -> fa = some x -> x.block < base) (hi:a + i = m) (hj:m + j = b) (hi0:0 < i) (hj0:0 < j) (hb:b <= d.length) (hl:d.length <= 600) :
  Calls Tryz.prog 158 #[.slice (some ⟨g,0,none⟩) d.length cap,.int .i64 (a:Nat),.int .i64 (m:Nat),.int .i64 (b:Nat),.func (.func 119) #[] #[.pointer (some ⟨p,0,none⟩)]] A fun e w'=>e = .returned (.tuple #[]) /\ SrtI A0 g base cap p fa fc f d.length (rotF (i + j) m i j d) w':=by
 obtain ⟨n,hn⟩:∃ n,d.length = n:=⟨_,rfl⟩
 rw [hn] at hI hb hl ⊢
 have HI:=Zh hI
 have HSW:=Zh (fun D A' x y k (hD:D.length = n) (h:SrtI A0 g base cap p fa fc f n D A') (hx:x + k <= n) (hy:y + k <= n)=>by
  have:=Zvt A0 A' g base cap p x y k fa fc f D (by rw [hD];exact h) hp hfa (by omega) (by omega) (by omega)
  rw [hD] at this
  exact this)
 obtain ⟨T,hT⟩:∃ T,rotF (i + j) m i j d = T:=⟨_,rfl⟩
 have HT:=Zh hT
 rw [hT]
 have qi:(m:Int) - (a:Int) = (i:Int):=by omega
 have qj:(b:Int) - (m:Int) = (j:Int):=by omega
 clear hI hT
 go_enter Tryz.func158,Tryz.ntmps158
 go_wp2
 go_loopw [10,11] (fun x y A'=>∃ i j r D,x = .int .i64 (i:Nat) /\ y = .int .i64 (j:Nat) /\ 0 < i /\ 0 < j /\ i <= m /\ m + j <= n /\ i + j <= r /\ rotF r m i j D = T /\ SrtI A0 g base cap p fa fc f n D A') (fun x y _=>(intOf x).toNat + (intOf y).toNat)
 case atStart=>exact ⟨i,j,i + j,d,rfl,rfl,hi0,hj0,by omega,by omega,Nat.le_refl _,HT.out,HI.out⟩
 case round =>
  clear HT HI qi qj hi hj hi0 hj0
  obtain ⟨i,j,r,D,rfl,rfl,hi0,hj0,him,hjn,hir,ht,hs⟩:=hrel
  obtain ⟨r,rfl⟩:∃ k,r = k + 1:=⟨r - 1,by omega⟩
  have HS:=Zh hs
  have hD:=hs.len
  obtain ⟨x,hx⟩:∃ x,m - i = x:=⟨_,rfl⟩
  have qx:(m:Int) - (i:Int) = (x:Int):=by omega
  unfold rotF at ht
  rw [hx] at ht
  clear hs
  by_cases hij:i = j
  ·have b1:((i:Int) != (j:Int)) = false:=by simp;omega
   rw [if_pos hij] at ht
   have HT:=Zh ht
   have HC:=Zh (HSW.out D wr x m i hD HS.out (by omega) (by omega))
   clear ht hij
   go_wp2_with (go_at_call 159;refine HC.out.mono ?_;rintro e w' ⟨rfl,hs⟩)
   go_end0
   exact ⟨rfl,by rw [<- HT.out];exact hs⟩
  ·have b1:((i:Int) != (j:Int)) = true:=by simp;omega
   rw [if_neg hij] at ht
   by_cases hlt:j < i
   ·have b2:decide (j < i) = true:=by simp;omega
    rw [if_pos hlt] at ht
    have HT:=Zh ht
    obtain ⟨i2,hi2⟩:∃ i2,i - j = i2:=⟨_,rfl⟩
    rw [hi2] at HT
    have qi2:(i:Int) - (j:Int) = (i2:Int):=by omega
    have HC:=Zh (HSW.out D wr x m j hD HS.out (by omega) (by omega))
    clear ht
    go_wp2_with (go_at_call 159;refine HC.out.mono ?_;rintro e w' ⟨rfl,hs⟩;have HS2:=Zh hs;clear hs)
    go_roundw
    case rel=>exact ⟨i2,j,r,_,rfl,rfl,by omega,by omega,by omega,by omega,by omega,HT.out,HS2.out⟩
    case measure=>simp [intOf];omega
   ·have b2:decide (j < i) = false:=by simp;omega
    rw [if_neg hlt] at ht
    have HT:=Zh ht
    obtain ⟨j2,hj2⟩:∃ j2,j - i = j2:=⟨_,rfl⟩
    obtain ⟨y,hy⟩:∃ y,m + j = y:=⟨_,rfl⟩
    obtain ⟨z,hz⟩:∃ z,y - i = z:=⟨_,rfl⟩
    rw [hj2,hy,hz] at HT
    have qj2:(j:Int) - (i:Int) = (j2:Int):=by omega
    have qy:(m:Int) + (j:Int) = (y:Int):=by omega
    have qz:(y:Int) - (i:Int) = (z:Int):=by omega
    have HC:=Zh (HSW.out D wr x z i hD HS.out (by omega) (by omega))
    clear ht
    go_wp2_with (go_at_call 159;refine HC.out.mono ?_;rintro e w' ⟨rfl,hs⟩;have HS2:=Zh hs;clear hs)
    go_roundw
    case rel=>exact ⟨i,j2,r,_,rfl,rfl,by omega,by omega,by omega,by omega,by omega,HT.out,HS2.out⟩
    case measure=>simp [intOf];omega
end Go.Proofs.YtendielanacflaaGreat
