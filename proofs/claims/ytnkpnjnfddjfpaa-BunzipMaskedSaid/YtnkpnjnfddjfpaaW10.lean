/- block.Get$2: the next symbol. Appends of pointers, as equations; the values of block.Get's tables. -/
import Derived.Test.YtnkpnjnfddjfpaaW01
import Derived.Test.YtnkpnjnfddjfpaaW02
import Derived.Test.YtnkpnjnfddjfpaaW04
import Derived.Test.YtnkpnjnfddjfpaaW05
import Derived.Test.YtnkpnjnfddjfpaaW06
import Derived.Test.YtnkpnjnfddjfpaaW07
import Derived.Test.YtnkpnjnfddjfpaaW09
set_option linter.unusedVariables false
set_option linter.unusedSimpArgs false
namespace Go.Proofs.Ytnkpnjnfddjfpaa
open Go.RowKit Go.Shelf M01 M02 M27 M10
theorem ldIs (p:Addr) (v:Value) (w:World) (h:w.cell? p = some v):(Instr.loadAt 103 (.pointer (some p))).run Try.prog w = .ok v w:=by
 simp [Instr.loadAt,Instr.sureAddr,loadVar,isAgg,run_underlying Try.underlying103,h,go_sem]
theorem ldTs (p:Addr) (v:Value) (w:World) (h:w.cell? p = some v):(Instr.loadAt 146 (.pointer (some p))).run Try.prog w = .ok v w:=by
 simp [Instr.loadAt,Instr.sureAddr,loadVar,isAgg,run_underlying Try.underlying146,h,go_sem]
theorem ldI1 (p:Addr) (v:Value) (w:World) (h:w.cell? p = some v):(Instr.loadAt 3 (.pointer (some p))).run Try.prog w = .ok v w:=by
 simp [Instr.loadAt,Instr.sureAddr,loadVar,isAgg,run_underlying Try.underlying3,h,go_sem]
theorem ldT1 (p:Addr) (v:Value) (w:World) (h:w.cell? p = some v):(Instr.loadAt 111 (.pointer (some p))).run Try.prog w = .ok v w:=by
 simp [Instr.loadAt,Instr.sureAddr,loadVar,isAgg,run_underlying Try.underlying111,h,go_sem]
theorem ldR1 (p:Addr) (v:Value) (w:World) (h:w.cell? p = some v):(Instr.loadAt 52 (.pointer (some p))).run Try.prog w = .ok v w:=by
 simp [Instr.loadAt,Instr.sureAddr,loadVar,isAgg,run_underlying Try.underlying52,h,go_sem]
theorem ixIs (b off k N c:Nat) (h:k < N) (w:World):(Instr.indexAt 103 (.slice (some ⟨b,off,none⟩) N c) (.int .i64 (k:Nat))).run Try.prog w = .ok (.pointer (some ⟨b,off + k,none⟩)) w:=by
 have hsz:(Try.prog.info? 3).map (·.size) = some 1:=by kernel_rfl
 cases h5:Try.prog.info? 3 with
 | none=>rw [h5] at hsz;cases hsz
 | some ie =>
  simp only [h5,Option.map_some,Option.some.injEq] at hsz
  simp [Instr.indexAt,run_underlying Try.underlying103,sizeOf,typeInfo,h5,hsz,asIntOf,go_sem,h,Addr.add]
theorem ixTs (b off k N c:Nat) (h:k < N) (w:World):(Instr.indexAt 146 (.slice (some ⟨b,off,none⟩) N c) (.int .i64 (k:Nat))).run Try.prog w = .ok (.pointer (some ⟨b,off + k,none⟩)) w:=by
 have hsz:(Try.prog.info? 111).map (·.size) = some 1:=by kernel_rfl
 cases h5:Try.prog.info? 111 with
 | none=>rw [h5] at hsz;cases hsz
 | some ie =>
  simp only [h5,Option.map_some,Option.some.injEq] at hsz
  simp [Instr.indexAt,run_underlying Try.underlying146,sizeOf,typeInfo,h5,hsz,asIntOf,go_sem,h,Addr.add]
theorem Zvu (n:Nat) (h:n <= 1700000):IntKind.i64.wrap (((n:Int) + 1) - 1) = (n:Int) /\ IntKind.i64.wrap (((n + 1:Nat):Int) - 1) = (n:Int) /\ wrap64 (n:Int) = (n:Int) /\ IntKind.i64.wrap (n:Int) = (n:Int) /\ (n:Int) < (n:Int) + 1 /\ (n:Int) < ((n + 1:Nat):Int) /\ n < n + 1 :=
 ⟨by rw [IntWalk.i64_in _ (by omega)];omega,by rw [IntWalk.i64_in _ (by omega)];omega,IntWalk.wrap64_in _ (by omega),IntWalk.i64_in _ (by omega),by omega,by omega,by omega⟩
theorem exT0 (x y:Value) (w:World):(Instr.extract (.tuple #[x,y]) 0).run Try.prog w = .ok x w:=rfl
theorem exT1 (x y:Value) (w:World):(Instr.extract (.tuple #[x,y]) 1).run Try.prog w = .ok y w:=rfl
theorem bsI (x:Int) (w:World):(Instr.buildSlice 103 1 #[(0,.int .i64 x)]).run Try.prog w = .ok (.slice (some ⟨w.heap.size,0,none⟩) 1 1) (w.alloc (.cells #[.int .i64 x] 3)):=by
 have hie:(Try.prog.info? 3).map (fun i=>(i.zero,i.size)) = some (some (.int .i64 0),1):=by kernel_rfl
 cases h5:Try.prog.info? 3 with
 | none=>rw [h5] at hie;cases hie
 | some ie =>
  simp only [h5,Option.map_some,Option.some.injEq,Prod.mk.injEq] at hie
  exact run_buildSlice w 103 3 1 _ _ ie (.int .i64 0) Try.underlying103 h5 hie.1 (by rw [hie.2];decide) (by rw [hie.2];decide) (by rw [hie.2];exact Great.fill_flat [Value.int .i64 x] _ (fun v hv=>by rw [List.mem_singleton.1 hv];rfl) (by simp))
theorem stIs (p:Addr) (a:Option Addr) (n c:Nat) (u:Value) (w:World) (h:w.cell? p = some u) (hf:w.frozen? p = false):(Instr.storeAt 103 (.pointer (some p)) (.slice a n c)).run Try.prog w = .ok () (w.setCell p (.slice a n c)):=by
 simp [Instr.storeAt,Instr.sureAddr,storeVar,isAgg,run_underlying Try.underlying103,h,hf,go_sem]
def encP:Enc Nat:={ sz:=1,cells:=fun p=>[.pointer (some ⟨p,0,none⟩)],len:=fun _=>rfl,one:=fun _ u hu=>by rw [List.mem_singleton.1 hu];rfl,pos:=by decide }
def nxtV (v0 v1 v2:Value) (i gp goi g cp cog p rp:Nat) (v9 v10 v11:Value) (n s B0:Nat) (out:List Nat) (j:Nat) (v:Value) (w:World):Prop :=
 match j with
 | 0=>v = v0
 | 1=>v = v1
 | 2=>v = v2
 | 3=>v = .int .i64 (i:Nat)
 | 4=>v = .pointer (some ⟨gp,goi,none⟩)
 | 5=>v = .int .i64 (g:Nat)
 | 6=>v = .pointer (some ⟨cp,cog,none⟩)
 | 7=>v = .pointer (some ⟨p,0,none⟩)
 | 8=>v = .pointer (some ⟨rp,0,none⟩)
 | 9=>v = v9
 | 10=>v = v10
 | 11=>v = v11
 | 12=>v = .int .i64 (s:Nat)
 | 13=>∃ b,v = .slice (some ⟨b,0,none⟩) 1 1 /\ RowN .i64 w (some ⟨b,0,none⟩) 1 [s]
 | 14=>∃ a7 c7,v = .slice a7 (n + 1) c7 /\ OwnN 3 .i64 w B0 a7 c7 (out ++ [s])
 | _=>True
section
variable {v0 v1 v2 v9 v10 v11 v : Value} {i gp goi g cp cog p rp n s B0 j : Nat} {out : List Nat} {w w' : World}
theorem Zpx (hb:Below w.heap.size w w') (h:nxtV v0 v1 v2 i gp goi g cp cog p rp v9 v10 v11 n s B0 out j v w):nxtV v0 v1 v2 i gp goi g cp cog p rp v9 v10 v11 n s B0 out j v w':=by
 unfold nxtV at *
 split at h
 all_goals try exact h
 ·obtain ⟨b,h1,h2⟩:=h;exact ⟨b,h1,h2.below hb⟩
 ·obtain ⟨a7,c7,h1,h2⟩:=h;exact ⟨a7,c7,h1,h2.below hb⟩
theorem Zed (h1:j ≠ 13) (h2:j ≠ 14) (h:nxtV v0 v1 v2 i gp goi g cp cog p rp v9 v10 v11 n s B0 out j v w):nxtV v0 v1 v2 i gp goi g cp cog p rp v9 v10 v11 n s B0 out j v w':=by
 unfold nxtV at *
 split at h
 all_goals first | exact h | exact absurd rfl h1 | exact absurd rfl h2
end
def NextOut (w:World) (rp sb B0:Nat) (bs out:List Nat) (R:Option (Nat × Nat)) (e:Ending) (w':World):Prop :=
 match R with
 | some (s,at2)=>e = .returned (.int .i64 (s:Nat)) /\ (∃ a7 c7,w'.heap[sb]? = some (.cells #[.slice a7 (out.length + 1) c7] 103 (0,0)) /\ OwnN 3 .i64 w' B0 a7 c7 (out ++ [s])) /\ RdM w' rp bs at2 /\ Only (fun b=>b = rp \/ b = sb \/ B0 <= b) w w'
 | none=>e = .panicked formP /\ Only (fun b=>b = rp) w w'
set_option maxRecDepth 100000 in
set_option maxHeartbeats 12800000 in
theorem Zvb (w:World) (sb gb cb rb rp B0 at_:Nat) (bs out group ps:List Nat) (tabs:List (List Nat)) (a ga ca:Option Addr) (c gc cc:Nat)
  (hs:w.heap[sb]? = some (.cells #[.slice a out.length c] 103 (0,0))) (ho:OwnN 3 .i64 w B0 a c out) (hol:out.length <= 1700000) (hig0:out.length / 50 <= group.length)
  (hg:w.heap[gb]? = some (.cells #[.slice ga group.length gc] 103 (0,0))) (hgr:RowN .i64 w ga gc group) (hgl:∀ x ∈ group,x < ps.length)
  (hc:w.heap[cb]? = some (.cells #[.slice ca ps.length cc] 146 (0,0))) (hcr:RowS encP w ca cc ps) (hpl:ps.length = tabs.length)
  (hT:∀ k (hk:k < ps.length),∃ lo hi,Tb lo hi w ps[k] (tabs.getD k []) /\ rp < lo) (h20:∀ l ∈ tabs,∀ x ∈ l,x <= 20)
  (hr:w.heap[rb]? = some (.cells #[.pointer (some ⟨rp,0,none⟩)] 52 (0,0))) (hrd:RdM w rp bs at_)
  (hsb:sb < B0) (hrp:rp < B0) (hB0:B0 <= w.heap.size) (hsr:rp < sb) :
  Calls Try.prog 118 #[.pointer (some ⟨sb,0,none⟩),.pointer (some ⟨gb,0,none⟩),.pointer (some ⟨cb,0,none⟩),.pointer (some ⟨rb,0,none⟩)] w (NextOut w rp sb B0 bs out (nextG (rv bs) tabs group out.length at_)):=by
 have QS:=Zh (cell_of_one hs)
 have QG:=Zh (cell_of_one hg)
 have QC:=Zh (cell_of_one hc)
 have QR:=Zh (cell_of_one hr)
 obtain ⟨i,hi⟩:∃ i,out.length / 50 = i:=⟨_,rfl⟩
 have hi2:(out.length:Int) / 50 = (i:Int):=by omega
 have qs:=QS.out
 have qg:=QG.out
 by_cases hig:i < group.length
 case neg =>
  have HN:Hid (nextG (rv bs) tabs group out.length at_ = none):=by unfold Hid nextG;rw [if_neg (by omega)]
  obtain rfl:i = group.length:=by omega
  rw [HN.out]
  have tne:((group.length:Int) == (group.length:Int)) = true:=by simp
  clear hs ho hg hgr hgl hc hcr hT h20 hr hrd HN hpl hi hig hig0
  go_enter Try.func118,Try.ntmps118
  go_wp2_with fail
  exact ⟨rfl,rfl,Only.refl _ _⟩
 have HN:Hid (nextG (rv bs) tabs group out.length at_ = sym (tabs.getD (group.getD i 0) []) (rv bs) at_):=by unfold Hid nextG;rw [hi,if_pos hig]
 rw [HN.out]
 obtain ⟨gp,go,rfl,_,hgi⟩:=hgr.at hig
 rw [<- Zba hig] at hgi
 have hgx:group.getD i 0 < ps.length:=by rw [Zba hig];exact hgl _ (List.getElem_mem hig)
 generalize group.getD i 0 = g at *
 obtain ⟨cp,co,rfl,_,hci⟩:=hcr.at hgx
 have hcp:w.cell? ⟨cp,co + g,none⟩ = some (.pointer (some ⟨ps[g],0,none⟩)):=by
  have:=hci 0 _ rfl
  simpa [encP] using this
 obtain ⟨lo,hi',hTb,hlo⟩:=hT g hgx
 have htb:tabs.getD g [] ∈ tabs:=by
  rw [List.getD_eq_getElem?_getD,List.getElem?_eq_getElem (by omega)]
  exact List.getElem_mem _
 have HGH:=Zh (Zis w.drew lo hi' ps[g] rp (tabs.getD g []) bs at_ (h20 _ htb) hTb hrd (.inl hlo))
 have QI:=Zh hgi
 have QP:=Zh hcp
 generalize ps[g] = p at *
 generalize sym (tabs.getD g []) (rv bs) at_ = R at *
 have HI:=Zh hig
 have HG:=Zh hgx
 have HS:=Zh hs
 have HO:=Zh ho
 have HN1:=Zh (show out.length + 1 <= 9223372036854775807 by omega)
 have HN2:=Zh (show (out.length + 1) * 8 <= 140737488355328 by omega)
 have HIX:=Zh (Zvu out.length hol)
 have GA:Hid True:=trivial
 have CA:Hid True:=trivial
 have tne:((i:Int) == (group.length:Int)) = false:=by simp;omega
 clear hs ho hg hgr hgl hc hcr hT h20 hr hrd hgi hcp hci hTb htb HN hpl hi hlo
 rcases R with _ | ⟨s,at2⟩
 ·go_enter Try.func118,Try.ntmps118
  go_wp2_with fail
  refine Zbb [14,15,16,17,18,19,20,21,22,23,24,25,26,27,28] (fun j=>false) (fun listed w1=>(if listed.getD 9 false = true then (Only (fun b=>b = rp) w w1 /\ True) else w1 = w.drew) /\ listed.getD 12 false = false) (nxtV (.slice a out.length c) (.slice (some ⟨cp,co,none⟩) ps.length cc) (.slice (some ⟨gp,go,none⟩) group.length gc) i gp (go + i) g cp (co + g) p rp (.tuple #[.int .i64 0,.int .i64 2]) (.int .i64 0) (.int .i64 2) out.length 0 B0 out) (fun _ _ _ _=>True) (by kernel_rfl) (by kernel_rfl) (OneEach.mk' (by kernel_rfl) (by kernel_rfl)) (by kernel_rfl) (by kernel_rfl) ⟨by simp,by simp⟩ ?_ ?_
  ·intro i0 o hi0 listed a1 w1 hR hil hunf hdes hanc hout hdf hdep
   have hsz:i0 < 16:=(Array.getElem?_eq_some_iff.1 hi0).1
   have hall:i0 = 0 \/ i0 = 1 \/ i0 = 2 \/ i0 = 3 \/ i0 = 4 \/ i0 = 5 \/ i0 = 6 \/ i0 = 7 \/ i0 = 8 \/ i0 = 9 \/ i0 = 10 \/ i0 = 11 \/ i0 = 12 \/ i0 = 13 \/ i0 = 14 \/ i0 = 15:=by omega
   clear hsz
   rcases hall with rfl | rfl | rfl | rfl | rfl | rfl | rfl | rfl | rfl | rfl | rfl | rfl | rfl | rfl | rfl | rfl <;> simp only [List.getElem?_toArray,List.getElem?_cons_zero,List.getElem?_cons_succ,Option.some.injEq] at hi0 <;> subst hi0
   ·have f0:a1.eval (.tmp 0) = .pointer (some ⟨sb,0,none⟩):=hout 0 (by decide)
    have hq:w1.cell? ⟨sb,0,none⟩ = some (.slice a out.length c):=by
     replace hR:=hR.1
     by_cases h9:listed.getD 9 false = true
     ·rw [if_pos h9] at hR;exact Zbk (A:=w) QS.out hR.1 (by show sb ≠ rp;omega)
     ·rw [if_neg h9] at hR
      subst hR
      exact QS.out
    refine Zab (v:=.slice a out.length c) (w':=w1) (by simp only [execOp,f0,Sem.run_bind,ldIs _ _ _ hq];rfl) ⟨_,rfl,?_,fun j u hu hV _=>⟨hV,trivial,trivial⟩,rfl⟩
    rw [Zaa (by decide),Zaa (by decide)];exact hR
   ·have f2:a1.eval (.tmp 2) = .pointer (some ⟨cb,0,none⟩):=hout 2 (by decide)
    have h12:=hR.2
    replace hR:=hR.1
    rw [hdes 9 (by kernel_rfl),if_neg (by decide)] at hR
    subst hR
    refine Zab (v:=.slice (some ⟨cp,co,none⟩) ps.length cc) (w':=w.drew) (by simp only [execOp,f2,Sem.run_bind,ldTs _ _ w.drew QC.out];rfl) ⟨_,rfl,?_,fun j u hu hV _=>⟨hV,trivial,trivial⟩,rfl⟩
    refine ⟨?_,by rw [Zaa (by decide)];exact h12⟩
    rw [Zaa (by decide),hdes 9 (by kernel_rfl),if_neg (by decide)]
   ·have f1:a1.eval (.tmp 1) = .pointer (some ⟨gb,0,none⟩):=hout 1 (by decide)
    have h12:=hR.2
    replace hR:=hR.1
    rw [hdes 9 (by kernel_rfl),if_neg (by decide)] at hR
    subst hR
    refine Zab (v:=.slice (some ⟨gp,go,none⟩) group.length gc) (w':=w.drew) (by simp only [execOp,f1,Sem.run_bind,ldIs _ _ w.drew QG.out];rfl) ⟨_,rfl,?_,fun j u hu hV _=>⟨hV,trivial,trivial⟩,rfl⟩
    refine ⟨?_,by rw [Zaa (by decide)];exact h12⟩
    rw [Zaa (by decide),hdes 9 (by kernel_rfl),if_neg (by decide)]
   ·have f5:a1.eval (.tmp 5) = .int .i64 (i:Nat):=hout 5 (by decide)
    refine Zab (v:=.int .i64 (i:Nat)) (w':=w1) (by simp [execOp,f5]) ⟨_,rfl,?_,fun j u hu hV _=>⟨hV,trivial,trivial⟩,rfl⟩
    rw [Zaa (by decide),Zaa (by decide)];exact hR
   ·have e16:a1.eval (.tmp 16) = .slice (some ⟨gp,go,none⟩) group.length gc:=hdep ⟨2,.data⟩ (by simp) rfl _ rfl
    have x16:a1.tmps[16]?.getD undef = .slice (some ⟨gp,go,none⟩) group.length gc:=by simpa [Act.eval] using e16
    have e17:a1.eval (.tmp 17) = .int .i64 (i:Nat):=hdep ⟨3,.data⟩ (by simp) rfl _ rfl
    have x17:a1.tmps[17]?.getD undef = .int .i64 (i:Nat):=by simpa [Act.eval] using e17
    refine Zab (v:=.pointer (some ⟨gp,go + i,none⟩)) (w':=w1) (by simp [execOp,e16,e17,ixIs gp go i _ _ HI.out]) ⟨_,rfl,?_,fun j u hu hV _=>⟨hV,trivial,trivial⟩,rfl⟩
    rw [Zaa (by decide),Zaa (by decide)];exact hR
   ·have e18:a1.eval (.tmp 18) = .pointer (some ⟨gp,go + i,none⟩):=hdep ⟨4,.data⟩ (by simp) rfl _ rfl
    have x18:a1.tmps[18]?.getD undef = .pointer (some ⟨gp,go + i,none⟩):=by simpa [Act.eval] using e18
    have h12:=hR.2
    replace hR:=hR.1
    rw [hdes 9 (by kernel_rfl),if_neg (by decide)] at hR
    subst hR
    refine Zab (v:=.int .i64 (g:Nat)) (w':=w.drew) (by simp only [execOp,e18,Sem.run_bind,ldI1 _ _ w.drew QI.out];rfl) ⟨_,rfl,?_,fun j u hu hV _=>⟨hV,trivial,trivial⟩,rfl⟩
    refine ⟨?_,by rw [Zaa (by decide)];exact h12⟩
    rw [Zaa (by decide),hdes 9 (by kernel_rfl),if_neg (by decide)]
   ·have e15:a1.eval (.tmp 15) = .slice (some ⟨cp,co,none⟩) ps.length cc:=hdep ⟨1,.data⟩ (by simp) rfl _ rfl
    have x15:a1.tmps[15]?.getD undef = .slice (some ⟨cp,co,none⟩) ps.length cc:=by simpa [Act.eval] using e15
    have e19:a1.eval (.tmp 19) = .int .i64 (g:Nat):=hdep ⟨5,.data⟩ (by simp) rfl _ rfl
    have x19:a1.tmps[19]?.getD undef = .int .i64 (g:Nat):=by simpa [Act.eval] using e19
    refine Zab (v:=.pointer (some ⟨cp,co + g,none⟩)) (w':=w1) (by simp [execOp,e15,e19,ixTs cp co g _ _ HG.out]) ⟨_,rfl,?_,fun j u hu hV _=>⟨hV,trivial,trivial⟩,rfl⟩
    rw [Zaa (by decide),Zaa (by decide)];exact hR
   ·have e20:a1.eval (.tmp 20) = .pointer (some ⟨cp,co + g,none⟩):=hdep ⟨6,.data⟩ (by simp) rfl _ rfl
    have x20:a1.tmps[20]?.getD undef = .pointer (some ⟨cp,co + g,none⟩):=by simpa [Act.eval] using e20
    have h12:=hR.2
    replace hR:=hR.1
    rw [hdes 9 (by kernel_rfl),if_neg (by decide)] at hR
    subst hR
    refine Zab (v:=.pointer (some ⟨p,0,none⟩)) (w':=w.drew) (by simp only [execOp,e20,Sem.run_bind,ldT1 _ _ w.drew QP.out];rfl) ⟨_,rfl,?_,fun j u hu hV _=>⟨hV,trivial,trivial⟩,rfl⟩
    refine ⟨?_,by rw [Zaa (by decide)];exact h12⟩
    rw [Zaa (by decide),hdes 9 (by kernel_rfl),if_neg (by decide)]
   ·have f3:a1.eval (.tmp 3) = .pointer (some ⟨rb,0,none⟩):=hout 3 (by decide)
    have h12:=hR.2
    replace hR:=hR.1
    rw [hdes 9 (by kernel_rfl),if_neg (by decide)] at hR
    subst hR
    refine Zab (v:=.pointer (some ⟨rp,0,none⟩)) (w':=w.drew) (by simp only [execOp,f3,Sem.run_bind,ldR1 _ _ w.drew QR.out];rfl) ⟨_,rfl,?_,fun j u hu hV _=>⟨hV,trivial,trivial⟩,rfl⟩
    refine ⟨?_,by rw [Zaa (by decide)];exact h12⟩
    rw [Zaa (by decide),hdes 9 (by kernel_rfl),if_neg (by decide)]
   ·have e21:a1.eval (.tmp 21) = .pointer (some ⟨p,0,none⟩):=hdep ⟨7,.data⟩ (by simp) rfl _ rfl
    have x21:a1.tmps[21]?.getD undef = .pointer (some ⟨p,0,none⟩):=by simpa [Act.eval] using e21
    have e22:a1.eval (.tmp 22) = .pointer (some ⟨rp,0,none⟩):=hdep ⟨8,.data⟩ (by simp) rfl _ rfl
    have x22:a1.tmps[22]?.getD undef = .pointer (some ⟨rp,0,none⟩):=by simpa [Act.eval] using e22
    have h12:=hR.2
    replace hR:=hR.1
    rw [hunf,if_neg (by decide)] at hR
    subst hR
    refine Zan (f:=120) (args:=#[.pointer (some ⟨p,0,none⟩),.pointer (some ⟨rp,0,none⟩)]) (by simp [x21,x22,go_sem]) ((HGH.out).mono ?_)
    rintro e w6 ⟨hon,hee⟩
    obtain rfl:e = _:=hee
    have hon':Only (fun b=>b = rp) w w6:=((Only.refl _ w).drew).trans hon
    refine ⟨_,rfl,_,rfl,?_,fun j u hu hV _=>⟨Zed (fun e=>by subst e;cases (show true = false from hu.symm.trans (by kernel_rfl))) (fun e=>by subst e;cases (show true = false from hu.symm.trans (by kernel_rfl))) hV,trivial,trivial⟩,rfl⟩
    refine ⟨?_,by rw [Zaa (by decide)];exact h12⟩
    rw [Zag hil,if_pos rfl];exact ⟨hon',trivial⟩
   ·have e23:a1.eval (.tmp 23) = .tuple #[.int .i64 0,.int .i64 2]:=hdep ⟨9,.data⟩ (by simp) rfl _ rfl
    refine Zab (v:=.int .i64 0) (w':=w1) (by simp [execOp,e23,exT0]) ⟨_,rfl,?_,fun j u hu hV _=>⟨hV,trivial,trivial⟩,rfl⟩
    rw [Zaa (by decide),Zaa (by decide)];exact hR
   ·have e23:a1.eval (.tmp 23) = .tuple #[.int .i64 0,.int .i64 2]:=hdep ⟨9,.data⟩ (by simp) rfl _ rfl
    refine Zab (v:=.int .i64 2) (w':=w1) (by simp [execOp,e23,exT1]) ⟨_,rfl,?_,fun j u hu hV _=>⟨hV,trivial,trivial⟩,rfl⟩
    rw [Zaa (by decide),Zaa (by decide)];exact hR
   ·have h12:=hR.2
    replace hR:=hR.1
    rw [hanc 9 (by kernel_rfl),if_pos rfl] at hR
    have e24:a1.eval (.tmp 24) = .int .i64 0:=hdep ⟨10,.data⟩ (by simp) rfl _ rfl
    have e25:a1.eval (.tmp 25) = .int .i64 2:=hdep ⟨11,.data⟩ (by simp) rfl _ rfl
    have x24:a1.tmps[24]?.getD undef = .int .i64 0:=by simpa [Act.eval] using e24
    have x25:a1.tmps[25]?.getD undef = .int .i64 2:=by simpa [Act.eval] using e25
    refine Zcb (ch:=formP) (f:=119) (args:=#[.int .i64 0,.int .i64 2]) (by simp [x24,x25,go_sem]) ((Zre _ 2 (by decide) w1).mono ?_)
    rintro e w6 ⟨rfl,rfl⟩
    refine ⟨rfl,hdf,?_⟩
    exact ⟨rfl,hR.1⟩
   ·have h12:=hR.2
    rw [hanc 12 (by kernel_rfl)] at h12
    cases h12
   ·have h12:=hR.2
    rw [hanc 12 (by kernel_rfl)] at h12
    cases h12
   ·have h12:=hR.2
    rw [hanc 12 (by kernel_rfl)] at h12
    cases h12
  ·intro listed fv w1 hR hall hV
   have h12:=hall 12 (by decide)
   rw [hR.2] at h12
   cases h12
 ·go_enter Try.func118,Try.ntmps118
  go_wp2_with fail
  refine Zdx [14,15,16,17,18,19,20,21,22,23,24,25,26,27,28] (fun j=>false) (fun listed w1=>if listed.getD 15 false = true then (∃ a7 c7,w1.heap[sb]? = some (.cells #[.slice a7 (out.length + 1) c7] 103 (0,0)) /\ OwnN 3 .i64 w1 B0 a7 c7 (out ++ [s]) /\ RdM w1 rp bs at2 /\ Only (fun b=>b = rp \/ b = sb \/ B0 <= b) w w1) else if listed.getD 14 false = true then (w1.heap[sb]? = w.heap[sb]? /\ RdM w1 rp bs at2 /\ Only (fun b=>b = rp \/ b = sb \/ B0 <= b) w w1) else if listed.getD 9 false = true then (Only (fun b=>b = rp) w w1 /\ RdM w1 rp bs at2) else w1 = w.drew) (nxtV (.slice a out.length c) (.slice (some ⟨cp,co,none⟩) ps.length cc) (.slice (some ⟨gp,go,none⟩) group.length gc) i gp (go + i) g cp (co + g) p rp (.tuple #[.int .i64 (s:Nat),.int .i64 0]) (.int .i64 (s:Nat)) (.int .i64 0) out.length s B0 out) (fun _ _ _ _=>True) (by kernel_rfl) (by kernel_rfl) (OneEach.mk' (by kernel_rfl) (by kernel_rfl)) (by kernel_rfl) (by kernel_rfl) (by simp) ?_ ?_
  ·intro i0 o hi0 listed a1 w1 hR hil hunf hdes hanc hout hdep
   have hsz:i0 < 16:=(Array.getElem?_eq_some_iff.1 hi0).1
   have hall:i0 = 0 \/ i0 = 1 \/ i0 = 2 \/ i0 = 3 \/ i0 = 4 \/ i0 = 5 \/ i0 = 6 \/ i0 = 7 \/ i0 = 8 \/ i0 = 9 \/ i0 = 10 \/ i0 = 11 \/ i0 = 12 \/ i0 = 13 \/ i0 = 14 \/ i0 = 15:=by omega
   clear hsz
   rcases hall with rfl | rfl | rfl | rfl | rfl | rfl | rfl | rfl | rfl | rfl | rfl | rfl | rfl | rfl | rfl | rfl <;> simp only [List.getElem?_toArray,List.getElem?_cons_zero,List.getElem?_cons_succ,Option.some.injEq] at hi0 <;> subst hi0
   ·have f0:a1.eval (.tmp 0) = .pointer (some ⟨sb,0,none⟩):=hout 0 (by decide)
    have hq:w1.cell? ⟨sb,0,none⟩ = some (.slice a out.length c):=by
     rw [hdes 15 (by kernel_rfl),hdes 14 (by kernel_rfl),if_neg (by decide),if_neg (by decide)] at hR
     by_cases h9:listed.getD 9 false = true
     ·rw [if_pos h9] at hR;exact Zbk (A:=w) QS.out hR.1 (by show sb ≠ rp;omega)
     ·rw [if_neg h9] at hR
      subst hR
      exact QS.out
    refine Zab (v:=.slice a out.length c) (w':=w1) (by simp only [execOp,f0,Sem.run_bind,ldIs _ _ _ hq];rfl) ⟨_,rfl,?_,fun j u hu hV _=>⟨hV,trivial,trivial⟩,rfl⟩
    rw [Zaa (by decide),Zaa (by decide),Zaa (by decide)];exact hR
   ·have f2:a1.eval (.tmp 2) = .pointer (some ⟨cb,0,none⟩):=hout 2 (by decide)
    rw [hdes 15 (by kernel_rfl),hdes 14 (by kernel_rfl),hdes 9 (by kernel_rfl),if_neg (by decide),if_neg (by decide),if_neg (by decide)] at hR
    subst hR
    refine Zab (v:=.slice (some ⟨cp,co,none⟩) ps.length cc) (w':=w.drew) (by simp only [execOp,f2,Sem.run_bind,ldTs _ _ w.drew QC.out];rfl) ⟨_,rfl,?_,fun j u hu hV _=>⟨hV,trivial,trivial⟩,rfl⟩
    rw [Zaa (by decide),Zaa (by decide),Zaa (by decide),hdes 15 (by kernel_rfl),hdes 14 (by kernel_rfl),hdes 9 (by kernel_rfl),if_neg (by decide),if_neg (by decide),if_neg (by decide)]
   ·have f1:a1.eval (.tmp 1) = .pointer (some ⟨gb,0,none⟩):=hout 1 (by decide)
    rw [hdes 15 (by kernel_rfl),hdes 14 (by kernel_rfl),hdes 9 (by kernel_rfl),if_neg (by decide),if_neg (by decide),if_neg (by decide)] at hR
    subst hR
    refine Zab (v:=.slice (some ⟨gp,go,none⟩) group.length gc) (w':=w.drew) (by simp only [execOp,f1,Sem.run_bind,ldIs _ _ w.drew QG.out];rfl) ⟨_,rfl,?_,fun j u hu hV _=>⟨hV,trivial,trivial⟩,rfl⟩
    rw [Zaa (by decide),Zaa (by decide),Zaa (by decide),hdes 15 (by kernel_rfl),hdes 14 (by kernel_rfl),hdes 9 (by kernel_rfl),if_neg (by decide),if_neg (by decide),if_neg (by decide)]
   ·have f5:a1.eval (.tmp 5) = .int .i64 (i:Nat):=hout 5 (by decide)
    refine Zab (v:=.int .i64 (i:Nat)) (w':=w1) (by simp [execOp,f5]) ⟨_,rfl,?_,fun j u hu hV _=>⟨hV,trivial,trivial⟩,rfl⟩
    rw [Zaa (by decide),Zaa (by decide),Zaa (by decide)];exact hR
   ·have e16:a1.eval (.tmp 16) = .slice (some ⟨gp,go,none⟩) group.length gc:=hdep ⟨2,.data⟩ (by simp) rfl _ rfl
    have x16:a1.tmps[16]?.getD undef = .slice (some ⟨gp,go,none⟩) group.length gc:=by simpa [Act.eval] using e16
    have e17:a1.eval (.tmp 17) = .int .i64 (i:Nat):=hdep ⟨3,.data⟩ (by simp) rfl _ rfl
    have x17:a1.tmps[17]?.getD undef = .int .i64 (i:Nat):=by simpa [Act.eval] using e17
    refine Zab (v:=.pointer (some ⟨gp,go + i,none⟩)) (w':=w1) (by simp [execOp,e16,e17,ixIs gp go i _ _ HI.out]) ⟨_,rfl,?_,fun j u hu hV _=>⟨hV,trivial,trivial⟩,rfl⟩
    rw [Zaa (by decide),Zaa (by decide),Zaa (by decide)];exact hR
   ·have e18:a1.eval (.tmp 18) = .pointer (some ⟨gp,go + i,none⟩):=hdep ⟨4,.data⟩ (by simp) rfl _ rfl
    have x18:a1.tmps[18]?.getD undef = .pointer (some ⟨gp,go + i,none⟩):=by simpa [Act.eval] using e18
    rw [hdes 15 (by kernel_rfl),hdes 14 (by kernel_rfl),hdes 9 (by kernel_rfl),if_neg (by decide),if_neg (by decide),if_neg (by decide)] at hR
    subst hR
    refine Zab (v:=.int .i64 (g:Nat)) (w':=w.drew) (by simp only [execOp,e18,Sem.run_bind,ldI1 _ _ w.drew QI.out];rfl) ⟨_,rfl,?_,fun j u hu hV _=>⟨hV,trivial,trivial⟩,rfl⟩
    rw [Zaa (by decide),Zaa (by decide),Zaa (by decide),hdes 15 (by kernel_rfl),hdes 14 (by kernel_rfl),hdes 9 (by kernel_rfl),if_neg (by decide),if_neg (by decide),if_neg (by decide)]
   ·have e15:a1.eval (.tmp 15) = .slice (some ⟨cp,co,none⟩) ps.length cc:=hdep ⟨1,.data⟩ (by simp) rfl _ rfl
    have x15:a1.tmps[15]?.getD undef = .slice (some ⟨cp,co,none⟩) ps.length cc:=by simpa [Act.eval] using e15
    have e19:a1.eval (.tmp 19) = .int .i64 (g:Nat):=hdep ⟨5,.data⟩ (by simp) rfl _ rfl
    have x19:a1.tmps[19]?.getD undef = .int .i64 (g:Nat):=by simpa [Act.eval] using e19
    refine Zab (v:=.pointer (some ⟨cp,co + g,none⟩)) (w':=w1) (by simp [execOp,e15,e19,ixTs cp co g _ _ HG.out]) ⟨_,rfl,?_,fun j u hu hV _=>⟨hV,trivial,trivial⟩,rfl⟩
    rw [Zaa (by decide),Zaa (by decide),Zaa (by decide)];exact hR
   ·have e20:a1.eval (.tmp 20) = .pointer (some ⟨cp,co + g,none⟩):=hdep ⟨6,.data⟩ (by simp) rfl _ rfl
    have x20:a1.tmps[20]?.getD undef = .pointer (some ⟨cp,co + g,none⟩):=by simpa [Act.eval] using e20
    rw [hdes 15 (by kernel_rfl),hdes 14 (by kernel_rfl),hdes 9 (by kernel_rfl),if_neg (by decide),if_neg (by decide),if_neg (by decide)] at hR
    subst hR
    refine Zab (v:=.pointer (some ⟨p,0,none⟩)) (w':=w.drew) (by simp only [execOp,e20,Sem.run_bind,ldT1 _ _ w.drew QP.out];rfl) ⟨_,rfl,?_,fun j u hu hV _=>⟨hV,trivial,trivial⟩,rfl⟩
    rw [Zaa (by decide),Zaa (by decide),Zaa (by decide),hdes 15 (by kernel_rfl),hdes 14 (by kernel_rfl),hdes 9 (by kernel_rfl),if_neg (by decide),if_neg (by decide),if_neg (by decide)]
   ·have f3:a1.eval (.tmp 3) = .pointer (some ⟨rb,0,none⟩):=hout 3 (by decide)
    rw [hdes 15 (by kernel_rfl),hdes 14 (by kernel_rfl),hdes 9 (by kernel_rfl),if_neg (by decide),if_neg (by decide),if_neg (by decide)] at hR
    subst hR
    refine Zab (v:=.pointer (some ⟨rp,0,none⟩)) (w':=w.drew) (by simp only [execOp,f3,Sem.run_bind,ldR1 _ _ w.drew QR.out];rfl) ⟨_,rfl,?_,fun j u hu hV _=>⟨hV,trivial,trivial⟩,rfl⟩
    rw [Zaa (by decide),Zaa (by decide),Zaa (by decide),hdes 15 (by kernel_rfl),hdes 14 (by kernel_rfl),hdes 9 (by kernel_rfl),if_neg (by decide),if_neg (by decide),if_neg (by decide)]
   ·have e21:a1.eval (.tmp 21) = .pointer (some ⟨p,0,none⟩):=hdep ⟨7,.data⟩ (by simp) rfl _ rfl
    have x21:a1.tmps[21]?.getD undef = .pointer (some ⟨p,0,none⟩):=by simpa [Act.eval] using e21
    have e22:a1.eval (.tmp 22) = .pointer (some ⟨rp,0,none⟩):=hdep ⟨8,.data⟩ (by simp) rfl _ rfl
    have x22:a1.tmps[22]?.getD undef = .pointer (some ⟨rp,0,none⟩):=by simpa [Act.eval] using e22
    rw [hdes 15 (by kernel_rfl),hdes 14 (by kernel_rfl),hunf,if_neg (by decide),if_neg (by decide),if_neg (by decide)] at hR
    subst hR
    refine Zan (f:=120) (args:=#[.pointer (some ⟨p,0,none⟩),.pointer (some ⟨rp,0,none⟩)]) (by simp [x21,x22,go_sem]) ((HGH.out).mono ?_)
    rintro e w6 ⟨hon,rfl,hrd⟩
    have hon':Only (fun b=>b = rp) w w6:=((Only.refl _ w).drew).trans hon
    refine ⟨_,rfl,_,rfl,?_,fun j u hu hV _=>⟨Zed (fun e=>by subst e;cases (show true = false from hu.symm.trans (by kernel_rfl))) (fun e=>by subst e;cases (show true = false from hu.symm.trans (by kernel_rfl))) hV,trivial,trivial⟩,rfl⟩
    rw [Zaa (by decide),Zaa (by decide),Zag hil,hdes 15 (by kernel_rfl),hdes 14 (by kernel_rfl),if_neg (by decide),if_neg (by decide),if_pos rfl];exact ⟨hon',hrd⟩
   ·have e23:a1.eval (.tmp 23) = .tuple #[.int .i64 (s:Nat),.int .i64 0]:=hdep ⟨9,.data⟩ (by simp) rfl _ rfl
    refine Zab (v:=.int .i64 (s:Nat)) (w':=w1) (by simp [execOp,e23,exT0]) ⟨_,rfl,?_,fun j u hu hV _=>⟨hV,trivial,trivial⟩,rfl⟩
    rw [Zaa (by decide),Zaa (by decide),Zaa (by decide)];exact hR
   ·have e23:a1.eval (.tmp 23) = .tuple #[.int .i64 (s:Nat),.int .i64 0]:=hdep ⟨9,.data⟩ (by simp) rfl _ rfl
    refine Zab (v:=.int .i64 0) (w':=w1) (by simp [execOp,e23,exT1]) ⟨_,rfl,?_,fun j u hu hV _=>⟨hV,trivial,trivial⟩,rfl⟩
    rw [Zaa (by decide),Zaa (by decide),Zaa (by decide)];exact hR
   ·have e24:a1.eval (.tmp 24) = .int .i64 (s:Nat):=hdep ⟨10,.data⟩ (by simp) rfl _ rfl
    have x24:a1.tmps[24]?.getD undef = .int .i64 (s:Nat):=by simpa [Act.eval] using e24
    have e25:a1.eval (.tmp 25) = .int .i64 0:=hdep ⟨11,.data⟩ (by simp) rfl _ rfl
    have x25:a1.tmps[25]?.getD undef = .int .i64 0:=by simpa [Act.eval] using e25
    refine Zan (f:=119) (args:=#[.int .i64 (s:Nat),.int .i64 0]) (by simp [x24,x25,go_sem]) ((Zrf _ w1).mono ?_)
    rintro e w6 ⟨rfl,rfl⟩
    refine ⟨_,rfl,_,rfl,?_,fun j u hu hV _=>⟨hV,trivial,trivial⟩,rfl⟩
    rw [Zaa (by decide),Zaa (by decide),Zaa (by decide)];exact hR
   ·have e26:a1.eval (.tmp 26) = .int .i64 (s:Nat):=hdep ⟨12,.data⟩ (by simp) rfl _ rfl
    have x26:a1.tmps[26]?.getD undef = .int .i64 (s:Nat):=by simpa [Act.eval] using e26
    rw [hdes 15 (by kernel_rfl),hdes 14 (by kernel_rfl),hanc 9 (by kernel_rfl),if_neg (by decide),if_neg (by decide),if_pos rfl] at hR
    refine Zab (v:=.slice (some ⟨w1.heap.size,0,none⟩) 1 1) (w':=w1.alloc (.cells #[.int .i64 (s:Nat)] 3)) (by have hh:=bsI (s:Nat) w1;simp only [execOp];simp [e26,hh]) ⟨_,rfl,?_,fun j u hu hV _=>⟨Zpx (Zai w1 _) hV,trivial,trivial⟩,w1.heap.size,rfl,?_⟩
    ·rw [Zaa (by decide),Zaa (by decide),Zaa (by decide),hdes 15 (by kernel_rfl),hdes 14 (by kernel_rfl),hanc 9 (by kernel_rfl),if_neg (by decide),if_neg (by decide),if_pos rfl]
     exact ⟨hR.1.alloc _,hR.2.below (Zai w1 _)⟩
    ·exact Zmf .i64 w1 [s] 3 _ w1.heap.size rfl rfl (by simp)
   ·rw [hdes 15 (by kernel_rfl),hunf,hanc 9 (by kernel_rfl),if_neg (by decide),if_neg (by decide),if_pos rfl] at hR
    have e14:a1.eval (.tmp 14) = .slice a out.length c:=hdep ⟨0,.data⟩ (by simp) rfl _ rfl
    obtain ⟨lb,e27,hr6⟩:=hdep ⟨13,.data⟩ (by simp) rfl _ rfl
    have e27':a1.eval (.tmp 27) = .slice (some ⟨lb,0,none⟩) 1 1:=e27
    have how:OwnN 3 .i64 w1 B0 a c out:=HO.out.only hR.1 (fun b hb=>by show b ≠ rp;omega)
    obtain ⟨a7,c7,w7,ho7,hb7,hg7,happ⟩:=appEq (m:=1) Zaz 103 how rfl (ys:=[s]) rfl hr6 HN1.out HN2.out (Nat.le_trans hB0 hR.1.size)
    refine Zab (v:=.slice a7 (out.length + 1) c7) (w':=w7) (by simp [execOp,resolve,invoke,builtin,e14,e27',happ,Result.andThen]) ⟨_,rfl,?_,fun j u hu hV _=>⟨Zed (fun e=>by subst e;cases (show true = false from hu.symm.trans (by kernel_rfl))) (fun e=>by subst e;cases (show true = false from hu.symm.trans (by kernel_rfl))) hV,trivial,trivial⟩,a7,c7,rfl,ho7⟩
    rw [Zaa (by decide),Zag hil,hdes 15 (by kernel_rfl),if_neg (by decide),if_pos rfl]
    refine ⟨(hb7.block sb hsb).trans (hR.1.block sb (by omega) (by show sb ≠ rp;omega)),hR.2.belowAt hb7 hrp,?_⟩
    exact ⟨hb7.os.trans hR.1.os,hb7.tape.trans hR.1.tape,hb7.output.trans hR.1.output,Nat.le_trans hR.1.size hb7.size,fun b hb ht=>(hb7.block b (by omega)).trans (hR.1.block b hb (by omega))⟩
   ·rw [hunf,hanc 14 (by kernel_rfl),if_neg (by decide),if_pos rfl] at hR
    obtain ⟨hR1,hR2,hR3⟩:=hR
    have f0:a1.eval (.tmp 0) = .pointer (some ⟨sb,0,none⟩):=hout 0 (by decide)
    obtain ⟨a7,c7,e28,ho7⟩:=hdep ⟨14,.data⟩ (by simp) rfl _ rfl
    have e28':a1.eval (.tmp 28) = .slice a7 (out.length + 1) c7:=e28
    have hf7:w1.heap[sb]? = some (.cells #[.slice a out.length c] 103 (0,0)):=hR1.trans HS.out
    refine Zbw (w':=w1.setCell ⟨sb,0,none⟩ (.slice a7 (out.length + 1) c7)) (by simp only [execOp,f0,e28'];rw [Sem.run_bind,stIs _ _ _ _ _ _ (cell_of_one hf7) (Zam hf7)];rfl) ⟨undef,rfl,?_,fun j u hu hV _=>⟨Zed (fun e=>by subst e;cases (show true = false from hu.symm.trans (by kernel_rfl))) (fun e=>by subst e;cases (show true = false from hu.symm.trans (by kernel_rfl))) hV,trivial,trivial⟩,trivial⟩
    rw [Zag hil,if_pos rfl]
    exact ⟨a7,c7,one_setCell hf7,ho7.other (Zdp ho7 (by show sb < B0;omega)) _,hR2.only (T:=fun b=>b = sb) ((Only.refl (fun b=>b = sb) w1).setCell (p:=⟨sb,0,none⟩) (.inl rfl) _) (fun b hb=>by show b ≠ sb;omega),hR3.setCell (p:=⟨sb,0,none⟩) (.inl (.inr (.inl rfl))) _⟩
  ·intro listed fv w1 hR hall hV
   rw [if_pos (hall 15 (by decide))] at hR
   obtain ⟨a7,c7,h1,h2,h3,h4⟩:=hR
   simp only [spread,List.contains_cons,List.contains_nil,Nat.reduceBEq,Bool.or_false,Bool.or_true,cond_true,cond_false,Nat.reduceAdd,Nat.zero_add]
   have k1:=cell_of_one h1
   obtain ⟨og,rfl,_,_,k2,_⟩:=h2.at (i:=out.length) (by rw [List.length_append];exact Nat.lt_succ_self _)
   rw [List.getElem_append_right (Nat.le_refl _)] at k2
   simp only [Nat.sub_self,List.getElem_cons_zero] at k2
   obtain ⟨k3,k4,k5,k6,k7,k8,k9⟩:=HIX.out
   have H1:=Zh h1
   have H2:=Zh h2
   have H3:=Zh h3
   have H4:=Zh h4
   clear h1 h2 h3 h4 hall hV HIX HGH QS QG QC QR QI QP HI HG HS HO HN1 HN2 tne qs qg hi2 hol hB0 hgx hig hsb hrp hsr hig0 GA CA
   go_wp2_with fail
   go_ret
   exact ⟨rfl,⟨_,c7,H1.out,H2.out⟩,H3.out,H4.out⟩
end Go.Proofs.Ytnkpnjnfddjfpaa

namespace Go.Proofs.Ytnkpnjnfddjfpaa
open Go.RowKit Go.Shelf M01 M02 M27 M10
theorem appSEq {P:Program} {T E:TypeId} {α:Type} {cc:Enc α} {z:Value} {bytes:Nat} (et:ElemS P T E cc z bytes) {w:World} {base:Nat} {a:Option Addr} {cap n m c lb:Nat} {l ys:List α} (ty:TypeId)
  (hown:OwnS cc E w base a cap l) (hnl:n = l.length) (hm:m = ys.length) (hy:RowS cc w (some ⟨lb,0,none⟩) c ys) (hn:n + m <= 9223372036854775807) (hbytes:(n + m) * bytes <= 140737488355328) (hbase:base <= w.heap.size) :
  ∃ a' cap' w',OwnS cc E w' base a' cap' (l ++ ys) /\ Only (fun b=>a = some ⟨b,0,none⟩) w w' /\ (∀ g,a' = some ⟨g,0,none⟩ -> a = some ⟨g,0,none⟩ \/ w.heap.size <= g) ∧
   (Builtin.append_ #[T,T] ty #[.slice a n cap,.slice (some ⟨lb,0,none⟩) m c]).run P w = .ok (.slice a' (n + m) cap') w':=by
 subst hnl hm
 obtain ⟨i,h2,h3,h4,h5⟩:=info_parts et.info
 have hcl:∀ j u,(flat cc ys)[j]? = some u -> w.cell? ((⟨lb,0,none⟩:Addr).add j) = some u:=by
  intro j u hu
  obtain ⟨_,_,rfl | ⟨b',off,he,_,hc⟩⟩:=hy
  ·simp [flat] at hu
  ·cases he
   have:=hc j u hu
   unfold Addr.add
   split
   ·simp_all
   ·exact this
 obtain ⟨v',w',hr,h6,h7,h8,h9⟩:=run_append_own_at (P:=P) w base T ty E i z cc.sz bytes et.und h2 h3 h4 h5 et.zs cc.pos _ l.length _ hown ⟨lb,0,none⟩ ys.length c (flat cc ys) (Zbt _)
  hcl (Zha _) (by simpa [maxLen] using hn) hbytes hbase
 have hv:∃ a' cap',v' = .slice a' (l.length + ys.length) cap':=by
  rcases h6.2 with ⟨h9,h10⟩ | ⟨g,c',cur,h9,_⟩
  ·exact ⟨none,0,by rw [h9,h10]⟩
  ·exact ⟨_,_,h9⟩
 obtain ⟨a',cap',rfl⟩:=hv
 have hown':OwnS cc E w' base a' cap' (l ++ ys):=by
  unfold OwnS;rw [List.length_append,Zdc];exact h6
 refine ⟨a',cap',w',hown',⟨h7.os,h7.tape,h7.output,h7.size,fun b hb hT=>h7.block b hb (fun e=>?_)⟩,fun g hg=>?_,hr⟩
 ·rcases hown.form with ⟨rfl,_⟩ | ⟨g,rfl,_⟩
  ·cases e
  ·simp only [Value.ownBlock,Option.some.injEq] at e
   subst e
   exact hT rfl
 ·subst hg
  rcases h9 with h9 | h9
  ·left
   rcases hown.form with ⟨rfl,_,_⟩ | ⟨g',rfl,_⟩
   ·simp [Value.ownBlock] at h9
   ·simp [Value.ownBlock] at h9
    rw [h9]
  ·right
   simp [Value.ownBlock] at h9
   omega
theorem Zzu:ElemS Try.prog 146 111 encP (.pointer none) 8:=⟨Try.underlying146,by kernel_rfl,rfl⟩
theorem bsT (p:Nat) (w:World):(Instr.buildSlice 146 1 #[(0,.pointer (some ⟨p,0,none⟩))]).run Try.prog w = .ok (.slice (some ⟨w.heap.size,0,none⟩) 1 1) (w.alloc (.cells #[.pointer (some ⟨p,0,none⟩)] 111)):=by
 have hie:(Try.prog.info? 111).map (fun i=>(i.zero,i.size)) = some (some (.pointer none),1):=by kernel_rfl
 cases h5:Try.prog.info? 111 with
 | none=>rw [h5] at hie;cases hie
 | some ie =>
  simp only [h5,Option.map_some,Option.some.injEq,Prod.mk.injEq] at hie
  exact run_buildSlice w 146 111 1 _ _ ie (.pointer none) Try.underlying146 h5 hie.1 (by rw [hie.2];decide) (by rw [hie.2];decide) (by rw [hie.2];exact Great.fill_flat [Value.pointer (some ⟨p,0,none⟩)] _ (fun v hv=>by rw [List.mem_singleton.1 hv];rfl) (by simp))
theorem stTs (p:Addr) (a:Option Addr) (n c:Nat) (u:Value) (w:World) (h:w.cell? p = some u) (hf:w.frozen? p = false):(Instr.storeAt 146 (.pointer (some p)) (.slice a n c)).run Try.prog w = .ok () (w.setCell p (.slice a n c)):=by
 simp [Instr.storeAt,Instr.sureAddr,storeVar,isAgg,run_underlying Try.underlying146,h,hf,go_sem]
def TbX (w:World) (AS p:Nat) (lens:List Nat):Prop:=∃ lo hi,Tb lo hi w p lens /\ AS <= lo
theorem TbX.below {w w':World} {AS p:Nat} {lens:List Nat} (h:TbX w AS p lens) (hb:Below w.heap.size w w'):TbX w' AS p lens:=by
 obtain ⟨lo,hi,h1,h2⟩:=h;exact ⟨lo,hi,h1.below hb,h2⟩
theorem OwnS.only {α:Type} {c:Enc α} {E:TypeId} {T:Nat -> Prop} {A B:World} {base cap:Nat} {a:Option Addr} {l:List α} (h:OwnS c E A base a cap l) (ho:Only T A B) (hT:∀ b,base <= b -> ¬ T b):OwnS c E B base a cap l:=by
 unfold OwnS at *
 refine ⟨h.1,?_⟩
 rcases h.2 with h2 | ⟨g,cp,cur,h1,h2,h3,h4⟩
 ·exact .inl h2
 ·exact .inr ⟨g,cp,cur,h1,h2,Zac h3 ho (hT g h2),h4⟩
def tabV (v0:Value) (rp:Nat) (v2:Value) (ul nn AS B0 n ee:Nat) (ps lens:List Nat) (ca:Option Addr) (j:Nat) (v:Value) (w:World):Prop :=
 match j with
 | 0=>v = v0
 | 1=>v = .pointer (some ⟨rp,0,none⟩)
 | 2=>v = v2
 | 3=>v = .int .i64 (ul:Nat)
 | 4=>v = .int .i64 (nn:Nat)
 | 5=>∃ a c,v = .tuple #[.slice a lens.length c,.int .i64 0] /\ RowN .u8 w a c lens
 | 6=>∃ a c,v = .slice a lens.length c /\ RowN .u8 w a c lens
 | 7=>v = .int .i64 0
 | 8=>∃ a c,v = .slice a lens.length c /\ RowN .u8 w a c lens
 | 9=>∃ x,v = .tuple #[x,.int .i64 (ee:Nat)] /\ (ee = 0 -> ∃ p,x = .pointer (some ⟨p,0,none⟩) /\ TbX w AS p lens)
 | 10=>ee = 0 -> ∃ p,v = .pointer (some ⟨p,0,none⟩) /\ TbX w AS p lens
 | 11=>v = .int .i64 (ee:Nat)
 | 12=>∃ p,v = .pointer (some ⟨p,0,none⟩) /\ TbX w AS p lens
 | 13=>∃ p b,v = .slice (some ⟨b,0,none⟩) 1 1 /\ RowS encP w (some ⟨b,0,none⟩) 1 [p] /\ TbX w AS p lens
 | 14=>∃ p a7 c7,v = .slice a7 (n + 1) c7 /\ OwnS encP 111 w B0 a7 c7 (ps ++ [p]) /\ ∃ lo hi,Tb lo hi w p lens /\ AS <= lo /\ ∀ g,a7 = some ⟨g,0,none⟩ -> ca = some ⟨g,0,none⟩ \/ hi <= g
 | _=>True
section
variable {v0 v2 v : Value} {rp ul nn AS B0 n ee j : Nat} {ps lens : List Nat} {ca : Option Addr} {w w' : World}
theorem Zgk (hb:Below w.heap.size w w') (h:tabV v0 rp v2 ul nn AS B0 n ee ps lens ca j v w):tabV v0 rp v2 ul nn AS B0 n ee ps lens ca j v w':=by
 unfold tabV at *
 split at h
 all_goals try exact h
 ·obtain ⟨a,c,h1,h2⟩:=h;exact ⟨a,c,h1,h2.below hb⟩
 ·obtain ⟨a,c,h1,h2⟩:=h;exact ⟨a,c,h1,h2.below hb⟩
 ·obtain ⟨a,c,h1,h2⟩:=h;exact ⟨a,c,h1,h2.below hb⟩
 ·obtain ⟨x,h1,h2⟩:=h;exact ⟨x,h1,fun e=>by obtain ⟨p,h3,h4⟩:=h2 e;exact ⟨p,h3,h4.below hb⟩⟩
 ·intro e;obtain ⟨p,h3,h4⟩:=h e;exact ⟨p,h3,h4.below hb⟩
 ·obtain ⟨p,h1,h2⟩:=h;exact ⟨p,h1,h2.below hb⟩
 ·obtain ⟨p,b,h1,h2,h3⟩:=h;exact ⟨p,b,h1,h2.below hb,h3.below hb⟩
 ·obtain ⟨p,a7,c7,h1,h2,lo,hi,h3,h4,h5⟩:=h;exact ⟨p,a7,c7,h1,h2.below hb,lo,hi,h3.below hb,h4,h5⟩
theorem Zhn (h1:j < 5) (h:tabV v0 rp v2 ul nn AS B0 n ee ps lens ca j v w):tabV v0 rp v2 ul nn AS B0 n ee ps lens ca j v w':=by
 have hj:j = 0 \/ j = 1 \/ j = 2 \/ j = 3 \/ j = 4:=by omega
 rcases hj with rfl | rfl | rfl | rfl | rfl <;> exact h
end
def tabA (v0:Value) (rp:Nat) (v2:Value) (ul nn:Nat) (j:Nat) (v:Value) (w:World):Prop :=
 match j with
 | 0=>v = v0
 | 1=>v = .pointer (some ⟨rp,0,none⟩)
 | 2=>v = v2
 | 3=>v = .int .i64 (ul:Nat)
 | 4=>v = .int .i64 (nn:Nat)
 | 5=>∃ x,v = .tuple #[x,.int .i64 2]
 | 7=>v = .int .i64 2
 | _=>True
theorem Zwu {v0 v2 v:Value} {rp ul nn j:Nat} {w w':World} (h1:j < 5) (h:tabA v0 rp v2 ul nn j v w):tabA v0 rp v2 ul nn j v w':=by
 have hj:j = 0 \/ j = 1 \/ j = 2 \/ j = 3 \/ j = 4:=by omega
 rcases hj with rfl | rfl | rfl | rfl | rfl <;> exact h
theorem Zih {md:Region.Mode} {ops:Array Oper} {fin:Nat -> Bool} {i j:Nat} (hb:backB md ops = true) (hf:∀ j,fin j = true -> j < ops.size) (h:usedB md ops fin i j = true):j < ops.size :=
 List.mem_range.1 (List.mem_filter.1 (Zwy hb hf h _ rfl)).1
theorem Tb.hi_le {lo hi p:Nat} {w:World} {l:List Nat} (h:Tb lo hi w p l):hi <= w.heap.size:=by
 obtain ⟨_,_,_,_,_,_,_,_,_,_,h,_⟩:=h
 exact h
theorem Tb.lo_lt {lo hi p:Nat} {w:World} {l:List Nat} (h:Tb lo hi w p l):lo <= p /\ p < hi:=by
 obtain ⟨_,_,_,_,_,_,_,_,_,_,_,h,_⟩:=h
 exact h
def TabsOk (w:World) (W0:Nat) (ca:Option Addr) (ps:List Nat) (tabs:List (List Nat)):Prop :=
 ps.length = tabs.length /\ (∀ l ∈ tabs,∀ x ∈ l,x <= 20) /\ ∀ k (hk:k < ps.length),∃ lo hi,Tb lo hi w ps[k] (tabs.getD k []) /\ W0 <= lo /\ ∀ g,ca = some ⟨g,0,none⟩ -> g < lo \/ hi <= g
theorem TabsOk.nil (w:World) (W0:Nat):TabsOk w W0 none [] []:=⟨rfl,fun l h=>(by cases h),fun k hk=>(by simp at hk)⟩
theorem TabsOk.next {w w':World} {W0 lo hi p cb rp:Nat} {ca a7:Option Addr} {ps lens:List Nat} {tabs:List (List Nat)} (h:TabsOk w W0 ca ps tabs) (ho:Only (fun b=>b = rp \/ b = cb \/ ca = some ⟨b,0,none⟩) w w') (hrp:rp < W0) (hcb:cb < W0)
  (hT:Tb lo hi w' p lens) (hlo:w.heap.size <= lo) (hW:W0 <= w.heap.size) (hg7:∀ g,a7 = some ⟨g,0,none⟩ -> ca = some ⟨g,0,none⟩ \/ hi <= g) (hcl:∀ g,ca = some ⟨g,0,none⟩ -> g < w.heap.size) (h20:∀ x ∈ lens,x <= 20):TabsOk w' W0 a7 (ps ++ [p]) (tabs ++ [lens]):=by
 obtain ⟨h1,h2,h3⟩:=h
 refine ⟨by rw [List.length_append,List.length_append,h1];rfl,fun l hl=>?_,fun k hk=>?_⟩
 ·rcases List.mem_append.1 hl with hl | hl
  ·exact h2 l hl
  ·rw [List.mem_singleton.1 hl];exact h20
 ·rcases Nat.lt_or_ge k ps.length with hk2 | hk2
  ·obtain ⟨lo',hi',q1,q2,q3⟩:=h3 k hk2
   have e1:(ps ++ [p])[k] = ps[k]:=List.getElem_append_left hk2
   have e2:(tabs ++ [lens]).getD k [] = tabs.getD k []:=by
    rw [List.getD_eq_getElem?_getD,List.getD_eq_getElem?_getD,List.getElem?_append_left (by omega)]
   rw [e1,e2]
   refine ⟨lo',hi',q1.only ho (fun b b1 b2 hb=>?_),q2,fun g hg=>?_⟩
   ·rcases hb with hb | hb | hb
    ·omega
    ·omega
    ·have:=q3 b hb;omega
   ·rcases hg7 g hg with h4 | h4
    ·exact q3 g h4
    ·right
     have:=q1.hi_le
     have:=hT.lo_lt
     omega
  ·have hk3:k = ps.length:=by rw [List.length_append] at hk;simp at hk;omega
   subst hk3
   have e1:(ps ++ [p])[ps.length] = p:=by rw [List.getElem_append_right (Nat.le_refl _)];simp
   have e2:(tabs ++ [lens]).getD ps.length [] = lens:=by
    rw [List.getD_eq_getElem?_getD,List.getElem?_append_right (by omega),h1];simp
   rw [e1,e2]
   refine ⟨lo,hi,hT,by omega,fun g hg=>?_⟩
   rcases hg7 g hg with h4 | h4
   ·left
    have:=hcl g h4
    omega
   ·exact .inr h4
end Go.Proofs.Ytnkpnjnfddjfpaa
