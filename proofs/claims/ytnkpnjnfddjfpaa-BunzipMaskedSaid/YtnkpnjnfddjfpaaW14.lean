/- bunzip.Bunzip: contract. -/
import Derived.Test.YtnkpnjnfddjfpaaW01
import Derived.Test.YtnkpnjnfddjfpaaW13
set_option linter.unusedVariables false
set_option linter.unusedSimpArgs false
namespace Go.Proofs.Ytnkpnjnfddjfpaa
open Go.RowKit Go.Shelf M01 M02 M27
attribute [local go_sem] Oper.semAt_some
set_option maxRecDepth 100000 in
set_option maxHeartbeats 12800000 in
theorem Zky (w:World) (a:Option Addr) (cap:Nat) (bs:List Nat) (keep:Nat) (hr:RowN .u8 w a cap bs) (h256:∀ x ∈ bs,x < 256) (hl:bs.length <= 100000) (hk:keep <= 1000000) :
  Calls Try.prog 10 #[.slice a bs.length cap,.int .i64 (keep:Nat)] w (BzOut w bs.length (bzG (rv bs) keep (nb (rv bs) + 1) 0 ⟨[],0,false⟩)):=by
 obtain ⟨R,hR0⟩:∃ R,R = bzG (rv bs) keep (nb (rv bs) + 1) 0 ⟨[],0,false⟩:=⟨_,rfl⟩
 rw [<- hR0]
 replace hR0:=Zh hR0
 have t1:decide ((keep:Int) < 0) = false:=by simp
 have hmf:∀ (fn:Fn) (first cap:Array Value) (w:World),(Instr.makeFunc fn first cap).run Try.prog w = .ok (.func fn first cap) w:=fun _ _ _ _=>rfl
 have HR:=Zh hr
 have H256:=Zh h256
 have HL:=Zh hl
 have HK:=Zh hk
 clear hr h256 hl hk
 refine Zcv Try.func10 rfl ?_
 simp only [Try.ntmps10,List.size_toArray,List.length_cons,List.length_nil,Nat.reduceAdd,Nat.reduceSub,Array.replicate_succ,Array.replicate_zero,List.push_toArray,List.append_toArray,List.nil_append,List.cons_append]
 go_wp2_with fail
 obtain ⟨z0,z1,z2,z3,zb⟩:=three w (.cells #[.int .i64 (keep:Nat)] 3) (.cells #[.slice none 0 0,.int .i64 0,.int .i64 0,.bool false] 24) (.cells #[.int .i64 0] 25)
 have HZ0:=Zh (And.intro z1 (And.intro z2 z3))
 have HZB:=Zh zb
 have HR1:=Zh (HR.out.below zb)
 clear z1 z2 z3 zb
 generalize ((w.alloc (.cells #[.int .i64 (keep:Nat)] 3)).alloc (.cells #[.slice none 0 0,.int .i64 0,.int .i64 0,.bool false] 24)).alloc (.cells #[.int .i64 0] 25) = A0 at *
 refine (Zyk A0 a cap bs HR1.out H256.out (by have:=HL.out;omega)).mono ?_
 rintro e A1 ⟨rp,rfl,hrd,hb1,hrp⟩
 obtain ⟨n0,hn0⟩:∃ n0,w.heap.size = n0:=⟨_,rfl⟩
 have HN0:=Zh hn0
 have hrp3:n0 + 3 <= rp:=by omega
 have HBK:Hid (BzK w keep rp [] ⟨[],0,false⟩ A1):=by
  unfold Hid
  have hz1:A1.heap[w.heap.size]? = _:=(hb1.block _ (by omega)).trans HZ0.out.1
  have hz2:A1.heap[w.heap.size + 1]? = _:=(hb1.block _ (by omega)).trans HZ0.out.2.1
  have hz3:A1.heap[w.heap.size + 1 + 1]? = _:=(hb1.block _ (by omega)).trans HZ0.out.2.2
  exact ⟨⟨none,0,⟨hz2,hz3⟩,OwnN.nil _ _ _ _⟩,hz1,by simp,HZB.out.trans (hb1.mono (by omega)),by omega,hrd.lt⟩
 have HRD:=Zh hrd
 rw [hn0]
 clear hrd hb1 hrp z0 HZ0 HZB HR1 hn0
 go_wp2_with fail
 refine wp_loop (fun A W=>∃ (l:List Value) (more:Bool) (ns:List Nat) (at_ f:Nat) (F:BzF),l.length = 76 /\ (l.drop 29).take 17 = List.replicate 17 undef /\ A = ⟨(.slice a bs.length cap :: .int .i64 (keep:Nat) :: undef :: .pointer (some ⟨n0,0,none⟩) :: .pointer (some ⟨n0 + 1,0,none⟩) :: .pointer (some ⟨n0 + 1 + 1,0,none⟩) :: .pointer (some ⟨rp,0,none⟩) :: .bool more :: l).toArray,marksD ns (bzDef (n0 + 1))⟩ /\ RdM W rp bs at_ /\ BzK w keep rp ns F W /\ ns.Nodup /\ F.bytes.length <= keep /\ F.size <= 255000000 * at_ /\ Hid (if more = true then R = bzG (rv bs) keep f at_ F /\ nb (rv bs) + 1 <= f + at_ else R = some F)) (fun _ W=>8 * bs.length + 1 - rdAt rp W) ?start ?round
 case start =>
  exact ⟨_,true,[],0,nb (rv bs) + 1,⟨[],0,false⟩,rfl,rfl,rfl,HRD.out,HBK.out,List.nodup_nil,Nat.zero_le _,Nat.zero_le _,hR0.out,Nat.le_refl _⟩
 case round =>
  clear HRD HBK hR0
  rintro A0 W ⟨l,more,ns,at_,f,F,hl,hlu,rfl,hrd,hbk,hnd,hfk,hfs,HF⟩
  obtain ⟨v8,v9,v10,v11,v12,v13,v14,v15,v16,v17,v18,v19,v20,v21,v22,v23,v24,v25,v26,v27,v28,v29,v30,v31,v32,v33,v34,v35,v36,v37,v38,v39,v40,v41,v42,v43,v44,v45,v46,v47,v48,v49,v50,v51,v52,v53,v54,v55,v56,v57,v58,v59,v60,v61,v62,v63,v64,v65,v66,v67,v68,v69,v70,v71,v72,v73,v74,v75,v76,v77,v78,v79,v80,v81,v82,v83,rfl⟩:=list76 l hl
  simp only [List.drop_succ_cons,List.drop_zero,List.take_succ_cons,List.take_zero,List.replicate_succ,List.replicate_zero,List.cons.injEq,and_true] at hlu
  obtain ⟨rfl,rfl,rfl,rfl,rfl,rfl,rfl,rfl,rfl,rfl,rfl,rfl,rfl,rfl,rfl,rfl,rfl⟩:=hlu
  have HRD:=Zh hrd
  have HBK:=Zh hbk
  have HND:=Zh hnd
  have hle:=hrd.le
  clear hl hrd hbk hnd
  cases more with
  | false =>
   obtain ⟨⟨a1,c1,hz,hown⟩,hkp,hns,hbw,hrp4,hrp5⟩:=HBK.out
   rw [HN0.out] at hz
   obtain ⟨hq,he⟩:=hz
   have HOWN:=Zh hown
   have HNS:=Zh hns
   have HBW:=Zh hbw
   have HRF:Hid (R = some F):=HF
   have hq1:(W.setCell ⟨n0 + 1,2,none⟩ (.int .i64 (bs.length:Nat))).heap[n0 + 1]? = some (.cells #[.slice a1 F.bytes.length c1,.int .i64 (F.size:Nat),.int .i64 (bs.length:Nat),.bool F.wrong] 24 (0,0)):=by simpa using Zbc (i:=2) (x:=.int .i64 (bs.length:Nat)) hq
   have hq2:((W.setCell ⟨n0 + 1,2,none⟩ (.int .i64 (bs.length:Nat))).setCell ⟨n0 + 1,0,none⟩ (.slice a1 F.bytes.length c1)).heap[n0 + 1]? = some (.cells #[.slice a1 F.bytes.length c1,.int .i64 (F.size:Nat),.int .i64 (bs.length:Nat),.bool F.wrong] 24 (0,0)):=by simpa using Zbc (i:=0) (x:=(.slice a1 F.bytes.length c1)) hq1
   have hq3:(((W.setCell ⟨n0 + 1,2,none⟩ (.int .i64 (bs.length:Nat))).setCell ⟨n0 + 1,0,none⟩ (.slice a1 F.bytes.length c1)).setCell ⟨n0 + 1,1,none⟩ (.int .i64 (F.size:Nat))).heap[n0 + 1]? = some (.cells #[.slice a1 F.bytes.length c1,.int .i64 (F.size:Nat),.int .i64 (bs.length:Nat),.bool F.wrong] 24 (0,0)):=by simpa using Zbc (i:=1) (x:=(.int .i64 (F.size:Nat))) hq2
   have hq4:((((W.setCell ⟨n0 + 1,2,none⟩ (.int .i64 (bs.length:Nat))).setCell ⟨n0 + 1,0,none⟩ (.slice a1 F.bytes.length c1)).setCell ⟨n0 + 1,1,none⟩ (.int .i64 (F.size:Nat))).setCell ⟨n0 + 1,2,none⟩ (.int .i64 (bs.length:Nat))).heap[n0 + 1]? = some (.cells #[.slice a1 F.bytes.length c1,.int .i64 (F.size:Nat),.int .i64 (bs.length:Nat),.bool F.wrong] 24 (0,0)):=by simpa using Zbc (i:=2) (x:=(.int .i64 (bs.length:Nat))) hq3
   have hq5:(((((W.setCell ⟨n0 + 1,2,none⟩ (.int .i64 (bs.length:Nat))).setCell ⟨n0 + 1,0,none⟩ (.slice a1 F.bytes.length c1)).setCell ⟨n0 + 1,1,none⟩ (.int .i64 (F.size:Nat))).setCell ⟨n0 + 1,2,none⟩ (.int .i64 (bs.length:Nat))).setCell ⟨n0 + 1,3,none⟩ (.bool F.wrong)).heap[n0 + 1]? = some (.cells #[.slice a1 F.bytes.length c1,.int .i64 (F.size:Nat),.int .i64 (bs.length:Nat),.bool F.wrong] 24 (0,0)):=by simpa using Zbc (i:=3) (x:=(.bool F.wrong)) hq4
   have he5:(((((W.setCell ⟨n0 + 1,2,none⟩ (.int .i64 (bs.length:Nat))).setCell ⟨n0 + 1,0,none⟩ (.slice a1 F.bytes.length c1)).setCell ⟨n0 + 1,1,none⟩ (.int .i64 (F.size:Nat))).setCell ⟨n0 + 1,2,none⟩ (.int .i64 (bs.length:Nat))).setCell ⟨n0 + 1,3,none⟩ (.bool F.wrong)).heap[n0 + 1 + 1]? = some (.cells #[.int .i64 0] 25 (0,0)):=by
    rw [Below.heap_setCell _ _ _ _ (by show n0 + 1 + 1 ≠ n0 + 1;omega),Below.heap_setCell _ _ _ _ (by show n0 + 1 + 1 ≠ n0 + 1;omega),Below.heap_setCell _ _ _ _ (by show n0 + 1 + 1 ≠ n0 + 1;omega),Below.heap_setCell _ _ _ _ (by show n0 + 1 + 1 ≠ n0 + 1;omega),Below.heap_setCell _ _ _ _ (by show n0 + 1 + 1 ≠ n0 + 1;omega)]
    exact he
   have hq6:((((((W.setCell ⟨n0 + 1,2,none⟩ (.int .i64 (bs.length:Nat))).setCell ⟨n0 + 1,0,none⟩ (.slice a1 F.bytes.length c1)).setCell ⟨n0 + 1,1,none⟩ (.int .i64 (F.size:Nat))).setCell ⟨n0 + 1,2,none⟩ (.int .i64 (bs.length:Nat))).setCell ⟨n0 + 1,3,none⟩ (.bool F.wrong)).setCell ⟨n0 + 1 + 1,0,none⟩ (.int .i64 0)).heap[n0 + 1]? = some (.cells #[.slice a1 F.bytes.length c1,.int .i64 (F.size:Nat),.int .i64 (bs.length:Nat),.bool F.wrong] 24 (0,0)):=by
    rw [Below.heap_setCell _ _ _ _ (by show n0 + 1 ≠ n0 + 1 + 1;omega)]
    exact hq5
   have he6:((((((W.setCell ⟨n0 + 1,2,none⟩ (.int .i64 (bs.length:Nat))).setCell ⟨n0 + 1,0,none⟩ (.slice a1 F.bytes.length c1)).setCell ⟨n0 + 1,1,none⟩ (.int .i64 (F.size:Nat))).setCell ⟨n0 + 1,2,none⟩ (.int .i64 (bs.length:Nat))).setCell ⟨n0 + 1,3,none⟩ (.bool F.wrong)).setCell ⟨n0 + 1 + 1,0,none⟩ (.int .i64 0)).heap[n0 + 1 + 1]? = some (.cells #[.int .i64 0] 25 (0,0)):=one_setCell he5
   have hO6:Only (fun b=>b = n0 + 1 \/ b = n0 + 1 + 1) W ((((((W.setCell ⟨n0 + 1,2,none⟩ (.int .i64 (bs.length:Nat))).setCell ⟨n0 + 1,0,none⟩ (.slice a1 F.bytes.length c1)).setCell ⟨n0 + 1,1,none⟩ (.int .i64 (F.size:Nat))).setCell ⟨n0 + 1,2,none⟩ (.int .i64 (bs.length:Nat))).setCell ⟨n0 + 1,3,none⟩ (.bool F.wrong)).setCell ⟨n0 + 1 + 1,0,none⟩ (.int .i64 0)):=((((((Only.refl (fun b=>b = n0 + 1 \/ b = n0 + 1 + 1) W).setCell (p:=⟨n0 + 1,2,none⟩) (.inl (.inl rfl)) _).setCell (p:=⟨n0 + 1,0,none⟩) (.inl (.inl rfl)) _).setCell (p:=⟨n0 + 1,1,none⟩) (.inl (.inl rfl)) _).setCell (p:=⟨n0 + 1,2,none⟩) (.inl (.inl rfl)) _).setCell (p:=⟨n0 + 1,3,none⟩) (.inl (.inl rfl)) _).setCell (p:=⟨n0 + 1 + 1,0,none⟩) (.inl (.inr rfl)) _
   obtain ⟨p00,p01,p02,p03,_,_⟩:=Zaf hq
   obtain ⟨r00,r01,r02,r03⟩:=Zal hq
   obtain ⟨p10,p11,p12,p13,_,_⟩:=Zaf hq1
   obtain ⟨r10,r11,r12,r13⟩:=Zal hq1
   obtain ⟨p20,p21,p22,p23,_,_⟩:=Zaf hq2
   obtain ⟨r20,r21,r22,r23⟩:=Zal hq2
   obtain ⟨p30,p31,p32,p33,_,_⟩:=Zaf hq3
   obtain ⟨r30,r31,r32,r33⟩:=Zal hq3
   obtain ⟨p40,p41,p42,p43,_,_⟩:=Zaf hq4
   obtain ⟨r40,r41,r42,r43⟩:=Zal hq4
   obtain ⟨p50,p51,p52,p53,_,_⟩:=Zaf hq5
   obtain ⟨r50,r51,r52,r53⟩:=Zal hq5
   have p6:=cell_of_one he5
   have r6:=Zam he5
   have HQ6:=Zh hq6
   have HE6:=Zh he6
   have HO6:=Zh hO6
   clear hq hq1 hq2 hq3 hq4 hq5 hq6 he he5 he6 hO6 HBK HF hown hns hbw hkp
   go_wp2_with fail
   obtain rfl:=HN0.out
   exact Zrj HRF.out ⟨HQ6.out,HE6.out⟩ (HOWN.out.only HO6.out (fun b hb h=>by omega)) (Below.only HBW.out HO6.out (Nat.le_refl _) (fun b h=>by omega)) (fun r hr=>⟨by have:=(HNS.out r hr).1;omega,Zac (HNS.out r hr).2 HO6.out (fun h=>by have:=(HNS.out r hr).1;omega)⟩) HND.out rfl rfl
  | true =>
   obtain ⟨HRG,hfu⟩:R = bzG (rv bs) keep f at_ F /\ nb (rv bs) + 1 <= f + at_:=HF
   obtain ⟨f,rfl⟩:∃ g,f = g + 1:=⟨f - 1,by unfold nb at hfu;rw [Zap] at hfu;omega⟩
   have HFU:=Zh hfu
   have HRG2:=Zh HRG
   clear HRG hfu
   go_wp2_with fail
   obtain ⟨fb,hfb⟩:∃ fb,W.heap.size = fb:=⟨_,rfl⟩
   have HWF:=Zh (World.alloc_heap_new W (.cells #[.int .u32 0] 54))
   have HOF:=Zh ((Only.refl (fun _=>False) W).alloc (.cells #[.int .u32 0] 54))
   have hsf:(W.alloc (.cells #[.int .u32 0] 54)).heap.size = fb + 1:=by rw [<- hfb];simp
   rw [hfb] at HWF
   simp only [hfb]
   have hrpW:rp < fb:=by rw [<- hfb];exact HRD.out.lt
   generalize W.alloc (.cells #[.int .u32 0] 54) = W1 at *
   refine (Zri W1 rp).mono ?_
   rintro e w2 ⟨rfl,h2⟩
   rw [hsf]
   have HCB:Hid (w2.heap[fb + 1]? = some (.cells #[.pointer (some ⟨rp,0,none⟩)] 52 (0,0))):=by unfold Hid;rw [h2,<- hsf];exact World.alloc_heap_new W1 _
   have HO2:Hid (Only (fun _=>False) W w2):=by unfold Hid;rw [h2];exact HOF.out.alloc _
   have HWF2:Hid (w2.heap[fb]? = some (.cells #[.int .u32 0] 54 (0,0))):=by unfold Hid;rw [h2,Below.heap_alloc _ _ _ (by omega)];exact HWF.out
   have hs2:w2.heap.size = fb + 2:=by rw [h2];simp [hsf]
   clear h2 HWF HOF hsf
   go_wp2_with fail
   have HRDW:=HRD
   obtain ⟨L,hL⟩:∃ L,L = (strmG (rv bs) at_).1:=⟨_,rfl⟩
   obtain ⟨E,hE⟩:∃ E,E = (strmG (rv bs) at_).2:=⟨_,rfl⟩
   have hrd2:RdM w2 rp bs at_:=HRD.out.only HO2.out (fun b hb h=>h)
   have hyl:=Zrl w2 (fb + 1) rp at_ bs hrd2 HCB.out (by omega)
   rw [<- hL,<- hE] at hyl
   have HYL:=Zh hyl
   have hrp3':=HBK.out.2.2.2.2.1
   have HLL:=Zh (Zuc (rv bs) at_)
   rw [<- hL] at HLL
   have hnsb:∀ r ∈ ns,rp < r /\ r < fb:=fun r hr=>⟨(HBK.out.2.2.1 r hr).1,by rw [<- hfb];exact lt_of_block (HBK.out.2.2.1 r hr).2⟩
   have HNSB:=Zh hnsb
   have HI0:Hid (BzR w keep rp fb ns F.size 0 (stF keep F L 0) w2):=⟨HBK.out.only HO2.out (fun b h=>h.elim) (fun r hr h=>h) (fun g cs fr h _=>h.elim),HWF2.out,hfk,by show F.size <= F.size + 255000000 * 0;omega,by show (0:Nat) < 4294967296;omega,Zac HCB.out (Only.refl (fun _=>False) w2) id⟩
   have HLE:=Zh hL
   have HEE:=Zh hE
   have HFS:=Zh hfs
   clear hL hE hrd2 hyl hnsb HBK HRD HO2 HWF2 hfb hfk hfs
   generalize hact:Act.mk _ _ = a0
   refine (wpIn_wide (n:=9)).1 ?_
   refine Zqe (g:=.tmp 23) (gf:=61) (lb:=#[.pointer (some ⟨fb + 1,0,none⟩)]) (by rw [<- hact];rfl) (enters_of Try.func61 (by kernel_rfl) rfl)
    HYL.out (SameOn.refl _ _) ?hS ?hT ?hps
    (fun i A=>BzR w keep rp fb ns F.size i (stF keep F L i) A) (fun _ _ _=>False) ?hI ?hIp (fun _ _ _ _ h _=>h) (fun _ _ _ _ _ _ h _ _ _=>h) ?hFp ?hFo HI0.out
    (fun i a' A=>∃ ga gc p pb,L[i]? = some p /\ RowN .u8 A ga gc p.1 /\ p.1.length <= 1000000 /\ (∀ x ∈ p.1,x < 256) /\ p.2 < 4294967296 /\ fb + 2 <= pb /\ A.heap[pb]? = some (.cells #[.slice ga p.1.length gc,.int .u32 (p.2:Nat)] 59 (0,0)) /\ BzR w keep rp fb ns F.size i (stF keep F L i) A /\ a' = { tmps:=(a0.tmps.setIfInBounds 24 (.agg #[.slice ga p.1.length gc,.int .u32 (p.2:Nat)])).setIfInBounds 9 (.pointer (some ⟨pb,0,none⟩)),defers:=[] })
    ?hAp ?assign ?body ?done ?pan (fun _ _ _ _ h _=>h.elim)
   case hS=>rintro b (rfl | rfl | h) <;> omega
   case hT=>rintro b rfl;omega
   case hps=>rintro i A r ⟨p,ga,gc,_,rfl,_⟩;rfl
   case hI =>
    rintro i A B h ho
    exact h.only ho (fun b e=>by have e:b = rp:=e;omega) (fun r hr e=>by have e:r = rp:=e;have:=(HNSB.out r hr).1;omega) (fun g cs fr e hg=>by have e:g = rp:=e;omega) (fun e=>by have e:fb = rp:=e;omega) (fun e=>by have e:fb + 1 = rp:=e;omega)
   case hIp =>
    rintro i A r ob o' h h0 h1 h2
    exact h.put h1 h2 (n:=fb + 2) (by omega) (fun r hr=>by have:=(HNSB.out r hr).2;omega) (by omega) (by omega)
   case hFp =>
    rintro e A r ob o' h h0 h1 h2
    unfold BzFin at h ⊢
    cases E with
    | none=>exact h
    | some a2=>exact ⟨h.1,h.2.only ((Only.refl (fun b=>b = r) A).putLoop (r:=r) rfl o') (fun b hb e=>by have e:b = r:=e;omega)⟩
   case hFo =>
    intro A h
    unfold BzFin at h
    cases E with
    | none=>cases h
    | some a2=>obtain ⟨⟨v,hv⟩,_⟩:=h;cases hv
   case hAp =>
    rintro i a' A r ob o' ⟨ga,gc,p,pb,k1,k2,k3,k4,k5,k6,k7,k8,k9⟩ h0 h1 h2
    refine ⟨ga,gc,p,pb,k1,k2.putNon h1 h2,k3,k4,k5,k6,(World.putObj_heap_other (by intro e;subst e;rw [h1] at k7;cases k7;cases h2)).trans k7,k8.put h1 h2 (n:=fb + 2) (by omega) (fun r hr=>by have:=(HNSB.out r hr).2;omega) (by omega) (by omega),k9⟩
   case assign =>
    rintro y i W' r K hi hsz hI ⟨p,ga,gc,k1,rfl,k2,k3,k4,k5⟩ hK
    have HK:=Zh hK
    have HI:=Zh hI
    have HAL:=Zh (World.alloc_heap_new W' (.cells #[.slice ga p.1.length gc,.int .u32 (p.2:Nat)] 59))
    have HRW:=Zh (k2.below (Zai W' (.cells #[.slice ga p.1.length gc,.int .u32 (p.2:Nat)] 59)))
    have HI2:=Zh (hI.only ((Only.refl (fun _=>False) W').alloc (.cells #[.slice ga p.1.length gc,.int .u32 (p.2:Nat)] 59)) (fun b h=>h.elim) (fun r hr h=>h) (fun g cs fr h _=>h.elim) id id)
    clear hK hI HI0 HYL k2
    subst hact
    simp only [List.zip_toArray,List.zip_cons_cons,List.zip_nil_left,List.foldl_toArray',List.foldl_cons,List.foldl_nil,List.size_toArray,List.setIfInBounds_toArray,List.set_cons_succ,List.set_cons_zero]
    gi_wp2
    refine HK.out _ _ (KeepsFrom.ofOnlyZ ((Only.refl (fun _=>False) W').alloc _) (fun b o h=>h.elim)) (SameOn.ofOnlyZ ((Only.refl (fun _=>False) W').alloc _) (fun b h=>⟨by rcases h with rfl | rfl | h <;> omega,id⟩)) ⟨ga,gc,p,W'.heap.size,k1,HRW.out,k3,k4,k5,by omega,HAL.out,HI2.out,?_⟩
    simp only [List.setIfInBounds_toArray,List.set_cons_succ,List.set_cons_zero]
   case body =>
    rintro y i hi a' A hsz ⟨ga,gc,p,pb,k1,k2,k3,k4,k5,k6,k7,k8,rfl⟩
    obtain ⟨⟨⟨a1,c1,⟨hq,he⟩,hown⟩,hkp,hns,hbw,hr4,hr5⟩,hfo,hbl,hsz1,hs32,hcbA⟩:=k8
    obtain ⟨S,hS⟩:∃ S,stF keep F L i = S:=⟨_,rfl⟩
    have HSS:Hid (stF keep F L (i + 1) = partF keep S p):=by unfold Hid;rw [Zwr keep F L i p k1,hS]
    rw [hS] at hq hown hfo hbl hsz1 hs32
    have HS:=Zh hS
    obtain rfl:=HN0.out
    have HCBA:=Zh hcbA
    clear hcbA
    have q0:=cell_of_one hkp
    obtain ⟨q1,q2,q3,q4,_,_⟩:=Zaf hq
    have c1':=(Zda k7).1
    have c2':=(Zda k7).2
    obtain ⟨lf,hlf⟩:∃ lf,keep - S.1.bytes.length = lf:=⟨_,rfl⟩
    have hlk:=Zaai HK.out hlf
    have v2:=Zaab hbl hlf
    have v3:=Zyi hlk
    have HUN:=Zh (fun B=>Zqi B ga gc p.1 lf)
    have HLF:=Zh hlf
    have HLK:=Zh hlk
    replace k3:=Zh k3
    replace k4:=Zh k4
    replace k5:=Zh k5
    replace hsz1:=Zh hsz1
    replace hs32:=Zh hs32
    replace hbl:=Zh hbl
    replace hown:=Zh hown
    replace k2:=Zh k2
    have HNS2:=Zh hns
    have HBW:=Zh hbw
    have HQ:=Zh hq
    have HE:=Zh he
    have HKP:=Zh hkp
    have HFO:=Zh hfo
    have HK7:=Zh k7
    have HSZ:=Zh hsz
    clear hlk hns hbw hq he hkp hfo k7 hsz
    clear hlf hS HI0 HYL
    subst hact
    simp only [List.setIfInBounds_toArray,List.set_cons_succ,List.set_cons_zero]
    gi_wp2_with fail
    refine ⟨trivial,?_⟩
    refine (callsIn_wide.2 (HUN.out A k2.out k3.out k4.out HLK.out)).mono ?_
    rintro e B1 ⟨hb1,uv,rfl,ua,uc,rfl,huo⟩
    have hl256:=Zh (Zxn p.1 k4.out)
    have hll:=Zh (Zdu p.1 k4.out)
    obtain ⟨sl,hsle⟩:∃ sl,sl = say p.1:=⟨_,rfl⟩
    rw [<- hsle] at huo hl256 hll ⊢
    have HSLE:=Zh hsle
    clear hsle
    obtain ⟨gl,hgl⟩:∃ gl,gl = sl.take lf:=⟨_,rfl⟩
    rw [<- hgl] at huo ⊢
    have HLSL:Hid (gl.length <= 1000000):=by unfold Hid;rw [hgl];exact Nat.le_trans (List.length_take_le _ _) HLK.out
    have HGL:=Zh hgl
    have hg256:Hid (∀ x ∈ gl,x < 256):=by unfold Hid;rw [hgl];exact fun x hx=>hl256.out x (List.mem_of_mem_take hx)
    clear hgl
    have HUO:=Zh huo
    have HB1:=Zh hb1
    clear huo hb1 HUN
    gi_wp2_with fail
    refine ⟨trivial,?_⟩
    refine (callsIn_wide.2 (Zuo _ _ _ _ _ _ _)).mono ?_
    rintro e B2 ⟨rfl,hb2⟩
    have HUO2:=Zh (HUO.out.below hb2)
    have HB2:=Zh (HB1.out.trans (hb2.mono HB1.out.size))
    clear hb2 HB1 HUO
    gi_wp2_with fail
    obtain ⟨ub,hub⟩:∃ ub,B2.heap.size = ub:=⟨_,rfl⟩
    have HB3:=Zh (HB2.out.alloc HB2.out.size (.cells #[.slice ua gl.length uc,.int .i64 (sl.length:Nat),.int .i64 (p.1.length:Nat),.bool false] 24))
    have HUO3:=Zh (HUO2.out.alloc (.cells #[.slice ua gl.length uc,.int .i64 (sl.length:Nat),.int .i64 (p.1.length:Nat),.bool false] 24))
    have HUB3:=Zh (World.alloc_heap_new B2 (.cells #[.slice ua gl.length uc,.int .i64 (sl.length:Nat),.int .i64 (p.1.length:Nat),.bool false] 24))
    have hub2:A.heap.size <= ub:=by rw [<- hub];exact HB2.out.size
    rw [hub] at HUB3
    simp only [hub]
    have HUBL:Hid (ub < (B2.alloc (.cells #[.slice ua gl.length uc,.int .i64 (sl.length:Nat),.int .i64 (p.1.length:Nat),.bool false] 24)).heap.size):=by unfold Hid;rw [<- hub];simp
    generalize B2.alloc (.cells #[.slice ua gl.length uc,.int .i64 (sl.length:Nat),.int .i64 (p.1.length:Nat),.bool false] 24) = B3 at *
    clear HB2 HUO2
    have hqA:=lt_of_block HQ.out
    have hpA:=lt_of_block HK7.out
    have hfA:=lt_of_block HFO.out
    have HQ3:Hid (B3.heap[w.heap.size + 1]? = _):=(HB3.out.block _ hqA).trans HQ.out
    have HP3:Hid (B3.heap[pb]? = _):=(HB3.out.block _ hpA).trans HK7.out
    have hqu:w.heap.size + 1 < ub:=Nat.lt_of_lt_of_le hqA hub2
    have hqp:w.heap.size + 1 ≠ pb:=by omega
    clear q0 q1 q2 q3 q4 c1' c2'
    refine Zmd (fun w'=>w'.heap[w.heap.size + 1]? = some (.cells #[.slice a1 S.1.bytes.length c1,.int .i64 (S.1.size:Nat),.int .i64 0,.bool (S.1.wrong || (decide (sl.length <= lf) && !(crcHigh gl == p.2)))] 24 (0,0)) /\ Only (fun b=>b = w.heap.size + 1) B3 w') (by simp) ?reg ?rest
    case reg =>
     have HQL:Hid (w.heap.size + 1 < B3.heap.size):=Zh (Nat.lt_of_lt_of_le hqA HB3.out.size)
     have HPL:Hid (pb < B3.heap.size):=Zh (Nat.lt_of_lt_of_le hpA HB3.out.size)
     clear HB3 HQ HE HKP HFO HK7 HSZ HNS2 HBW k2 hsz1 hown hbl k3 HLF HGL HLK hll hl256 hqA hpA hfA v2 v3 k6
     cases hw:S.1.wrong with
     | true =>
      rw [hw] at HQ3
      have HBZ:Hid ((true || (decide (sl.length <= lf) && !(crcHigh gl == p.2))) = true):=Zh (Bool.true_or _)
      refine FG.wpIn_round_flowS [37,38,39,40,41,42,43,44,45,46,47,48,49,50,51,52,53] (fun j=>false) (fun listed w1=>if listed.getD 17 false = true then (w1.heap[w.heap.size + 1]? = some (.cells #[.slice a1 S.1.bytes.length c1,.int .i64 (S.1.size:Nat),.int .i64 0,.bool true] 24 (0,0)) /\ Only (fun b=>b = w.heap.size + 1) B3 w1) else Below B3.heap.size B3 w1) (fun j v _=>match j with | 0=>v = .pointer (some ⟨w.heap.size + 1,3,none⟩) | 1=>v = .bool true | 2=>v = .bool true | 7=>v = undef | 15=>v = .bool true | 16=>v = .pointer (some ⟨w.heap.size + 1,3,none⟩) | _=>True) (fun _ _ _ _=>True) (Zgd _ _) (by kernel_rfl) (by kernel_rfl) (by kernel_rfl) (FG.OneEach.mk' (by kernel_rfl) (by kernel_rfl)) (by kernel_rfl) (by rw [getD_replicate_false,if_neg (by decide)];exact (Below.refl _ B3).drew) ?_ ?_
      ·intro i0 o hi0 listed f1 w1 hR hil hunf hdes hanc hout hold hdep
       have hsz0:i0 < 18:=(Array.getElem?_eq_some_iff.1 hi0).1
       have hall:i0 = 0 \/ i0 = 1 \/ i0 = 2 \/ i0 = 3 \/ i0 = 4 \/ i0 = 5 \/ i0 = 6 \/ i0 = 7 \/ i0 = 8 \/ i0 = 9 \/ i0 = 10 \/ i0 = 11 \/ i0 = 12 \/ i0 = 13 \/ i0 = 14 \/ i0 = 15 \/ i0 = 16 \/ i0 = 17:=by omega
       clear hsz0 hold
       rcases hall with rfl | rfl | rfl | rfl | rfl | rfl | rfl | rfl | rfl | rfl | rfl | rfl | rfl | rfl | rfl | rfl | rfl | rfl <;> simp only [List.getElem?_toArray,List.getElem?_cons_zero,List.getElem?_cons_succ,Option.some.injEq] at hi0 <;> subst hi0
       ·rw [hdes 17 (by kernel_rfl),if_neg (by decide)] at hR
        have f4:f1.eval (.tmp 4) = .pointer (some ⟨w.heap.size + 1,0,none⟩):=hout 4 (by decide)
        refine .inl ⟨FG.wanted_any rfl,?_⟩
        refine Zab (v:=.pointer (some ⟨w.heap.size + 1,3,none⟩)) (w':=w1) (by simp [execOp,f4,fa3]) ⟨_,rfl,?_,fun j u hu hV _=>⟨hV,trivial,trivial⟩,rfl⟩
        rw [Zaa (by decide),hdes 17 (by kernel_rfl),if_neg (by decide)];exact hR
       ·rw [hdes 17 (by kernel_rfl),if_neg (by decide)] at hR
        have e37:f1.eval (.tmp 37) = .pointer (some ⟨w.heap.size + 1,3,none⟩):=hdep ⟨0,.data⟩ (by simp) rfl _ rfl
        have x37:f1.tmps[37]?.getD undef = .pointer (some ⟨w.heap.size + 1,3,none⟩):=by simpa [Act.eval] using e37
        obtain ⟨_,_,_,k4,_,_⟩:=Zaf ((hR.block (w.heap.size + 1) HQL.out).trans HQ3.out)
        refine .inl ⟨FG.wanted_any rfl,?_⟩
        refine Zab (v:=.bool true) (w':=w1) (by simp only [execOp,e37,Sem.run_bind,ldB _ _ _ k4];rfl) ⟨_,rfl,?_,fun j u hu hV _=>⟨hV,trivial,trivial⟩,rfl⟩
        rw [Zaa (by decide),hdes 17 (by kernel_rfl),if_neg (by decide)];exact hR
       ·rw [hdes 17 (by kernel_rfl),if_neg (by decide)] at hR
        have e38:f1.eval (.tmp 38) = .bool true:=hdep ⟨1,.data⟩ (by simp) rfl _ rfl
        have x38:f1.tmps[38]?.getD undef = .bool true:=by simpa [Act.eval] using e38
        refine .inl ⟨FG.wanted_any rfl,?_⟩
        refine Zab (v:=.bool true) (w':=w1) (by simp [execOp,e38]) ⟨_,rfl,?_,fun j u hu hV _=>⟨hV,trivial,trivial⟩,rfl⟩
        rw [Zaa (by decide),hdes 17 (by kernel_rfl),if_neg (by decide)];exact hR
       ·rw [hdes 17 (by kernel_rfl),if_neg (by decide)] at hR
        have eg:f1.eval (.tmp 39) = .bool true:=hdep ⟨2,.guard⟩ (by simp) rfl _ rfl
        have xg:f1.tmps[39]?.getD undef = .bool true:=by simpa [Act.eval] using eg
        refine .inr ⟨FG.wanted_no rfl rfl rfl (.inl xg),undef,rfl,?_,fun j u hu hV _=>⟨hV,trivial,trivial⟩,trivial⟩
        rw [Zaa (by decide),hdes 17 (by kernel_rfl),if_neg (by decide)];exact hR
       ·rw [hdes 17 (by kernel_rfl),if_neg (by decide)] at hR
        have eg:f1.eval (.tmp 39) = .bool true:=hdep ⟨2,.guard⟩ (by simp) rfl _ rfl
        have xg:f1.tmps[39]?.getD undef = .bool true:=by simpa [Act.eval] using eg
        refine .inr ⟨FG.wanted_no rfl rfl rfl (.inl xg),undef,rfl,?_,fun j u hu hV _=>⟨hV,trivial,trivial⟩,trivial⟩
        rw [Zaa (by decide),hdes 17 (by kernel_rfl),if_neg (by decide)];exact hR
       ·rw [hdes 17 (by kernel_rfl),if_neg (by decide)] at hR
        have eg:f1.eval (.tmp 39) = .bool true:=hdep ⟨2,.guard⟩ (by simp) rfl _ rfl
        have xg:f1.tmps[39]?.getD undef = .bool true:=by simpa [Act.eval] using eg
        refine .inr ⟨FG.wanted_no rfl rfl rfl (.inl xg),undef,rfl,?_,fun j u hu hV _=>⟨hV,trivial,trivial⟩,trivial⟩
        rw [Zaa (by decide),hdes 17 (by kernel_rfl),if_neg (by decide)];exact hR
       ·rw [hdes 17 (by kernel_rfl),if_neg (by decide)] at hR
        have eg:f1.eval (.tmp 39) = .bool true:=hdep ⟨2,.guard⟩ (by simp) rfl _ rfl
        have xg:f1.tmps[39]?.getD undef = .bool true:=by simpa [Act.eval] using eg
        refine .inr ⟨FG.wanted_no rfl rfl rfl (.inl xg),undef,rfl,?_,fun j u hu hV _=>⟨hV,trivial,trivial⟩,trivial⟩
        rw [Zaa (by decide),hdes 17 (by kernel_rfl),if_neg (by decide)];exact hR
       ·rw [hdes 17 (by kernel_rfl),if_neg (by decide)] at hR
        have eg:f1.eval (.tmp 39) = .bool true:=hdep ⟨2,.guard⟩ (by simp) rfl _ rfl
        have xg:f1.tmps[39]?.getD undef = .bool true:=by simpa [Act.eval] using eg
        refine .inr ⟨FG.wanted_no rfl rfl rfl (.inl xg),undef,rfl,?_,fun j u hu hV _=>⟨hV,trivial,trivial⟩,rfl⟩
        rw [Zaa (by decide),hdes 17 (by kernel_rfl),if_neg (by decide)];exact hR
       ·rw [hdes 17 (by kernel_rfl),if_neg (by decide)] at hR
        have eg:f1.eval (.tmp 44) = undef:=hdep ⟨7,.guard⟩ (by simp) rfl _ rfl
        have xg:f1.tmps[44]?.getD undef = undef:=by simpa [Act.eval] using eg
        refine .inr ⟨FG.wanted_no rfl rfl rfl (.inr xg),undef,rfl,?_,fun j u hu hV _=>⟨hV,trivial,trivial⟩,trivial⟩
        rw [Zaa (by decide),hdes 17 (by kernel_rfl),if_neg (by decide)];exact hR
       ·rw [hdes 17 (by kernel_rfl),if_neg (by decide)] at hR
        have eg:f1.eval (.tmp 44) = undef:=hdep ⟨7,.guard⟩ (by simp) rfl _ rfl
        have xg:f1.tmps[44]?.getD undef = undef:=by simpa [Act.eval] using eg
        refine .inr ⟨FG.wanted_no rfl rfl rfl (.inr xg),undef,rfl,?_,fun j u hu hV _=>⟨hV,trivial,trivial⟩,trivial⟩
        rw [Zaa (by decide),hdes 17 (by kernel_rfl),if_neg (by decide)];exact hR
       ·rw [hdes 17 (by kernel_rfl),if_neg (by decide)] at hR
        have eg:f1.eval (.tmp 44) = undef:=hdep ⟨7,.guard⟩ (by simp) rfl _ rfl
        have xg:f1.tmps[44]?.getD undef = undef:=by simpa [Act.eval] using eg
        refine .inr ⟨FG.wanted_no rfl rfl rfl (.inr xg),undef,rfl,?_,fun j u hu hV _=>⟨hV,trivial,trivial⟩,trivial⟩
        rw [Zaa (by decide),hdes 17 (by kernel_rfl),if_neg (by decide)];exact hR
       ·rw [hdes 17 (by kernel_rfl),if_neg (by decide)] at hR
        have eg:f1.eval (.tmp 44) = undef:=hdep ⟨7,.guard⟩ (by simp) rfl _ rfl
        have xg:f1.tmps[44]?.getD undef = undef:=by simpa [Act.eval] using eg
        refine .inr ⟨FG.wanted_no rfl rfl rfl (.inr xg),undef,rfl,?_,fun j u hu hV _=>⟨hV,trivial,trivial⟩,trivial⟩
        rw [Zaa (by decide),hdes 17 (by kernel_rfl),if_neg (by decide)];exact hR
       ·rw [hdes 17 (by kernel_rfl),if_neg (by decide)] at hR
        have eg:f1.eval (.tmp 44) = undef:=hdep ⟨7,.guard⟩ (by simp) rfl _ rfl
        have xg:f1.tmps[44]?.getD undef = undef:=by simpa [Act.eval] using eg
        refine .inr ⟨FG.wanted_no rfl rfl rfl (.inr xg),undef,rfl,?_,fun j u hu hV _=>⟨hV,trivial,trivial⟩,trivial⟩
        rw [Zaa (by decide),hdes 17 (by kernel_rfl),if_neg (by decide)];exact hR
       ·rw [hdes 17 (by kernel_rfl),if_neg (by decide)] at hR
        have eg:f1.eval (.tmp 44) = undef:=hdep ⟨7,.guard⟩ (by simp) rfl _ rfl
        have xg:f1.tmps[44]?.getD undef = undef:=by simpa [Act.eval] using eg
        refine .inr ⟨FG.wanted_no rfl rfl rfl (.inr xg),undef,rfl,?_,fun j u hu hV _=>⟨hV,trivial,trivial⟩,trivial⟩
        rw [Zaa (by decide),hdes 17 (by kernel_rfl),if_neg (by decide)];exact hR
       ·rw [hdes 17 (by kernel_rfl),if_neg (by decide)] at hR
        have eg:f1.eval (.tmp 39) = .bool true:=hdep ⟨2,.guard⟩ (by simp) rfl _ rfl
        have xg:f1.tmps[39]?.getD undef = .bool true:=by simpa [Act.eval] using eg
        refine .inr ⟨FG.wanted_no rfl rfl rfl (.inl xg),undef,rfl,?_,fun j u hu hV _=>⟨hV,trivial,trivial⟩,trivial⟩
        rw [Zaa (by decide),hdes 17 (by kernel_rfl),if_neg (by decide)];exact hR
       ·rw [hdes 17 (by kernel_rfl),if_neg (by decide)] at hR
        have e39:f1.eval (.tmp 39) = .bool true:=hdep ⟨2,.data⟩ (by simp) rfl _ rfl
        have x39:f1.tmps[39]?.getD undef = .bool true:=by simpa [Act.eval] using e39
        refine .inl ⟨FG.wanted_any rfl,?_⟩
        refine Zab (v:=.bool true) (w':=w1) (by simp [execOp,x39,evalC,asBool,go_sem]) ⟨_,rfl,?_,fun j u hu hV _=>⟨hV,trivial,trivial⟩,rfl⟩
        rw [Zaa (by decide),hdes 17 (by kernel_rfl),if_neg (by decide)];exact hR
       ·rw [hdes 17 (by kernel_rfl),if_neg (by decide)] at hR
        have f4:f1.eval (.tmp 4) = .pointer (some ⟨w.heap.size + 1,0,none⟩):=hout 4 (by decide)
        refine .inl ⟨FG.wanted_any rfl,?_⟩
        refine Zab (v:=.pointer (some ⟨w.heap.size + 1,3,none⟩)) (w':=w1) (by simp [execOp,f4,fa3]) ⟨_,rfl,?_,fun j u hu hV _=>⟨hV,trivial,trivial⟩,rfl⟩
        rw [Zaa (by decide),hdes 17 (by kernel_rfl),if_neg (by decide)];exact hR
       ·rw [hunf,if_neg (by decide)] at hR
        have e52:f1.eval (.tmp 52) = .bool true:=hdep ⟨15,.data⟩ (by simp) rfl _ rfl
        have x52:f1.tmps[52]?.getD undef = .bool true:=by simpa [Act.eval] using e52
        have e53:f1.eval (.tmp 53) = .pointer (some ⟨w.heap.size + 1,3,none⟩):=hdep ⟨16,.data⟩ (by simp) rfl _ rfl
        have x53:f1.tmps[53]?.getD undef = .pointer (some ⟨w.heap.size + 1,3,none⟩):=by simpa [Act.eval] using e53
        have hq1:=((hR.block (w.heap.size + 1) HQL.out).trans HQ3.out)
        obtain ⟨_,_,_,k4,_,_⟩:=Zaf hq1
        obtain ⟨_,_,_,r4⟩:=Zal hq1
        refine .inl ⟨FG.wanted_any rfl,?_⟩
        refine Zbw (w':=w1.setCell ⟨w.heap.size + 1,3,none⟩ (.bool true)) (by simp only [execOp,e53,e52];rw [Sem.run_bind,stB _ _ _ _ k4 r4];rfl) ⟨undef,rfl,?_,fun j u hu hV _=>⟨hV,trivial,trivial⟩,trivial⟩
        rw [Zag hil,if_pos rfl]
        refine ⟨by simpa using Zbc (i:=3) (x:=.bool true) hq1,(show Only (fun b=>b = w.heap.size + 1) B3 w1 from Only.ofBelow hR).setCell (p:=⟨w.heap.size + 1,3,none⟩) (.inl rfl) _⟩
      ·intro listed fv w1 hR hall hV
       rw [if_pos (hall 17 (by decide))] at hR
       refine ⟨rfl,_,rfl,rfl,rfl,rfl,?_⟩
       rw [HBZ.out]
       exact hR
     | false =>
      rw [hw] at HQ3
      obtain ⟨sn,hsn⟩:∃ sn,sl.length = sn:=⟨_,rfl⟩
      rw [hsn] at HUB3
      by_cases hle2:sn <= lf
      ·have T2:decide ((sn:Int) <= (lf:Int)) = true:=by simp;omega
       obtain ⟨cr,hcr⟩:∃ cr,crcHigh gl = cr:=⟨_,rfl⟩
       obtain ⟨ps,hps⟩:∃ ps,p.2 = ps:=⟨_,rfl⟩
       rw [hps] at HP3
       have HCR:=Zh hcr
       have HBZ:Hid ((false || (decide (sl.length <= lf) && !(crcHigh gl == p.2))) = (!((cr:Int) == (ps:Int)))):=by
        unfold Hid
        rw [hcr,hps,hsn,decide_eq_true hle2,Bool.false_or,Bool.true_and]
        by_cases e:cr = ps
        ·subst e;simp
        ·rw [show (cr == ps) = false by simpa using e,show ((cr:Int) == (ps:Int)) = false by simp;omega]
       clear hcr hps hle2
       refine FG.wpIn_round_flowS [37,38,39,40,41,42,43,44,45,46,47,48,49,50,51,52,53] (fun j=>false) (fun listed w1=>if listed.getD 17 false = true then (w1.heap[w.heap.size + 1]? = some (.cells #[.slice a1 S.1.bytes.length c1,.int .i64 (S.1.size:Nat),.int .i64 0,.bool (!((cr:Int) == (ps:Int)))] 24 (0,0)) /\ Only (fun b=>b = w.heap.size + 1) B3 w1) else Below B3.heap.size B3 w1) (fun j v _=>match j with | 0=>v = .pointer (some ⟨w.heap.size + 1,3,none⟩) | 1=>v = .bool false | 2=>v = .bool false | 3=>v = .pointer (some ⟨ub,1,none⟩) | 4=>v = .int .i64 (sn:Nat) | 5=>v = .int .i64 (lf:Nat) | 6=>v = .bool true | 7=>v = .bool true | 8=>v = .pointer (some ⟨ub,0,none⟩) | 9=>v = .slice ua gl.length uc | 10=>v = .int .u32 (cr:Nat) | 11=>v = .pointer (some ⟨pb,1,none⟩) | 12=>v = .int .u32 (ps:Nat) | 13=>v = .bool (!((cr:Int) == (ps:Int))) | 14=>v = .bool (!((cr:Int) == (ps:Int))) | 15=>v = .bool (!((cr:Int) == (ps:Int))) | 16=>v = .pointer (some ⟨w.heap.size + 1,3,none⟩) | _=>True) (fun _ _ _ _=>True) (Zgd _ _) (by kernel_rfl) (by kernel_rfl) (by kernel_rfl) (FG.OneEach.mk' (by kernel_rfl) (by kernel_rfl)) (by kernel_rfl) (by rw [getD_replicate_false,if_neg (by decide)];exact (Below.refl _ B3).drew) ?_ ?_
       ·intro i0 o hi0 listed f1 w1 hR hil hunf hdes hanc hout hold hdep
        have hsz0:i0 < 18:=(Array.getElem?_eq_some_iff.1 hi0).1
        have hall:i0 = 0 \/ i0 = 1 \/ i0 = 2 \/ i0 = 3 \/ i0 = 4 \/ i0 = 5 \/ i0 = 6 \/ i0 = 7 \/ i0 = 8 \/ i0 = 9 \/ i0 = 10 \/ i0 = 11 \/ i0 = 12 \/ i0 = 13 \/ i0 = 14 \/ i0 = 15 \/ i0 = 16 \/ i0 = 17:=by omega
        clear hsz0 hold
        rcases hall with rfl | rfl | rfl | rfl | rfl | rfl | rfl | rfl | rfl | rfl | rfl | rfl | rfl | rfl | rfl | rfl | rfl | rfl <;> simp only [List.getElem?_toArray,List.getElem?_cons_zero,List.getElem?_cons_succ,Option.some.injEq] at hi0 <;> subst hi0
        ·rw [hdes 17 (by kernel_rfl),if_neg (by decide)] at hR
         have f4:f1.eval (.tmp 4) = .pointer (some ⟨w.heap.size + 1,0,none⟩):=hout 4 (by decide)
         refine .inl ⟨FG.wanted_any rfl,?_⟩
         refine Zab (v:=.pointer (some ⟨w.heap.size + 1,3,none⟩)) (w':=w1) (by simp [execOp,f4,fa3]) ⟨_,rfl,?_,fun j u hu hV _=>⟨hV,trivial,trivial⟩,rfl⟩
         rw [Zaa (by decide),hdes 17 (by kernel_rfl),if_neg (by decide)];exact hR
        ·rw [hdes 17 (by kernel_rfl),if_neg (by decide)] at hR
         have e37:f1.eval (.tmp 37) = .pointer (some ⟨w.heap.size + 1,3,none⟩):=hdep ⟨0,.data⟩ (by simp) rfl _ rfl
         have x37:f1.tmps[37]?.getD undef = .pointer (some ⟨w.heap.size + 1,3,none⟩):=by simpa [Act.eval] using e37
         obtain ⟨_,_,_,k4,_,_⟩:=Zaf ((hR.block (w.heap.size + 1) HQL.out).trans HQ3.out)
         refine .inl ⟨FG.wanted_any rfl,?_⟩
         refine Zab (v:=.bool false) (w':=w1) (by simp only [execOp,e37,Sem.run_bind,ldB _ _ _ k4];rfl) ⟨_,rfl,?_,fun j u hu hV _=>⟨hV,trivial,trivial⟩,rfl⟩
         rw [Zaa (by decide),hdes 17 (by kernel_rfl),if_neg (by decide)];exact hR
        ·rw [hdes 17 (by kernel_rfl),if_neg (by decide)] at hR
         have e38:f1.eval (.tmp 38) = .bool false:=hdep ⟨1,.data⟩ (by simp) rfl _ rfl
         have x38:f1.tmps[38]?.getD undef = .bool false:=by simpa [Act.eval] using e38
         refine .inl ⟨FG.wanted_any rfl,?_⟩
         refine Zab (v:=.bool false) (w':=w1) (by simp [execOp,e38]) ⟨_,rfl,?_,fun j u hu hV _=>⟨hV,trivial,trivial⟩,rfl⟩
         rw [Zaa (by decide),hdes 17 (by kernel_rfl),if_neg (by decide)];exact hR
        ·rw [hdes 17 (by kernel_rfl),if_neg (by decide)] at hR
         have eg:f1.eval (.tmp 39) = .bool false:=hdep ⟨2,.guard⟩ (by simp) rfl _ rfl
         have xg:f1.tmps[39]?.getD undef = .bool false:=by simpa [Act.eval] using eg
         have f11:f1.eval (.tmp 11) = .pointer (some ⟨ub,0,none⟩):=hout 11 (by decide)
         refine .inl ⟨FG.wanted_yes rfl rfl rfl xg,?_⟩
         refine Zab (v:=.pointer (some ⟨ub,1,none⟩)) (w':=w1) (by simp [execOp,f11,fa1]) ⟨_,rfl,?_,fun j u hu hV _=>⟨hV,trivial,trivial⟩,rfl⟩
         rw [Zaa (by decide),hdes 17 (by kernel_rfl),if_neg (by decide)];exact hR
        ·rw [hdes 17 (by kernel_rfl),if_neg (by decide)] at hR
         have eg:f1.eval (.tmp 39) = .bool false:=hdep ⟨2,.guard⟩ (by simp) rfl _ rfl
         have xg:f1.tmps[39]?.getD undef = .bool false:=by simpa [Act.eval] using eg
         have e40:f1.eval (.tmp 40) = .pointer (some ⟨ub,1,none⟩):=hdep ⟨3,.data⟩ (by simp) rfl _ rfl
         have x40:f1.tmps[40]?.getD undef = .pointer (some ⟨ub,1,none⟩):=by simpa [Act.eval] using e40
         obtain ⟨_,k2,_,_,_,_⟩:=Zaf ((hR.block ub HUBL.out).trans HUB3.out)
         refine .inl ⟨FG.wanted_yes rfl rfl rfl xg,?_⟩
         refine Zab (v:=.int .i64 (sn:Nat)) (w':=w1) (by simp only [execOp,e40,Sem.run_bind,Zkm _ _ _ k2];rfl) ⟨_,rfl,?_,fun j u hu hV _=>⟨hV,trivial,trivial⟩,rfl⟩
         rw [Zaa (by decide),hdes 17 (by kernel_rfl),if_neg (by decide)];exact hR
        ·rw [hdes 17 (by kernel_rfl),if_neg (by decide)] at hR
         have eg:f1.eval (.tmp 39) = .bool false:=hdep ⟨2,.guard⟩ (by simp) rfl _ rfl
         have xg:f1.tmps[39]?.getD undef = .bool false:=by simpa [Act.eval] using eg
         have f10:f1.eval (.tmp 10) = .int .i64 (lf:Nat):=hout 10 (by decide)
         refine .inl ⟨FG.wanted_yes rfl rfl rfl xg,?_⟩
         refine Zab (v:=.int .i64 (lf:Nat)) (w':=w1) (by simp [execOp,f10]) ⟨_,rfl,?_,fun j u hu hV _=>⟨hV,trivial,trivial⟩,rfl⟩
         rw [Zaa (by decide),hdes 17 (by kernel_rfl),if_neg (by decide)];exact hR
        ·rw [hdes 17 (by kernel_rfl),if_neg (by decide)] at hR
         have eg:f1.eval (.tmp 39) = .bool false:=hdep ⟨2,.guard⟩ (by simp) rfl _ rfl
         have xg:f1.tmps[39]?.getD undef = .bool false:=by simpa [Act.eval] using eg
         have e41:f1.eval (.tmp 41) = .int .i64 (sn:Nat):=hdep ⟨4,.data⟩ (by simp) rfl _ rfl
         have x41:f1.tmps[41]?.getD undef = .int .i64 (sn:Nat):=by simpa [Act.eval] using e41
         have e42:f1.eval (.tmp 42) = .int .i64 (lf:Nat):=hdep ⟨5,.data⟩ (by simp) rfl _ rfl
         have x42:f1.tmps[42]?.getD undef = .int .i64 (lf:Nat):=by simpa [Act.eval] using e42
         refine .inl ⟨FG.wanted_yes rfl rfl rfl xg,?_⟩
         refine Zab (v:=.bool true) (w':=w1) (by simp only [execOp,e41,e42,Sem.run_bind,eqgL,leqI,T2];rfl) ⟨_,rfl,?_,fun j u hu hV _=>⟨hV,trivial,trivial⟩,rfl⟩
         rw [Zaa (by decide),hdes 17 (by kernel_rfl),if_neg (by decide)];exact hR
        ·rw [hdes 17 (by kernel_rfl),if_neg (by decide)] at hR
         have eg:f1.eval (.tmp 39) = .bool false:=hdep ⟨2,.guard⟩ (by simp) rfl _ rfl
         have xg:f1.tmps[39]?.getD undef = .bool false:=by simpa [Act.eval] using eg
         have e43:f1.eval (.tmp 43) = .bool true:=hdep ⟨6,.data⟩ (by simp) rfl _ rfl
         have x43:f1.tmps[43]?.getD undef = .bool true:=by simpa [Act.eval] using e43
         refine .inl ⟨FG.wanted_yes rfl rfl rfl xg,?_⟩
         refine Zab (v:=.bool true) (w':=w1) (by simp [execOp,e43]) ⟨_,rfl,?_,fun j u hu hV _=>⟨hV,trivial,trivial⟩,rfl⟩
         rw [Zaa (by decide),hdes 17 (by kernel_rfl),if_neg (by decide)];exact hR
        ·rw [hdes 17 (by kernel_rfl),if_neg (by decide)] at hR
         have eg:f1.eval (.tmp 44) = .bool true:=hdep ⟨7,.guard⟩ (by simp) rfl _ rfl
         have xg:f1.tmps[44]?.getD undef = .bool true:=by simpa [Act.eval] using eg
         have f11:f1.eval (.tmp 11) = .pointer (some ⟨ub,0,none⟩):=hout 11 (by decide)
         refine .inl ⟨FG.wanted_yes rfl rfl rfl xg,?_⟩
         refine Zab (v:=.pointer (some ⟨ub,0,none⟩)) (w':=w1) (by simp [execOp,f11,fa0]) ⟨_,rfl,?_,fun j u hu hV _=>⟨hV,trivial,trivial⟩,rfl⟩
         rw [Zaa (by decide),hdes 17 (by kernel_rfl),if_neg (by decide)];exact hR
        ·rw [hdes 17 (by kernel_rfl),if_neg (by decide)] at hR
         have eg:f1.eval (.tmp 44) = .bool true:=hdep ⟨7,.guard⟩ (by simp) rfl _ rfl
         have xg:f1.tmps[44]?.getD undef = .bool true:=by simpa [Act.eval] using eg
         have e45:f1.eval (.tmp 45) = .pointer (some ⟨ub,0,none⟩):=hdep ⟨8,.data⟩ (by simp) rfl _ rfl
         have x45:f1.tmps[45]?.getD undef = .pointer (some ⟨ub,0,none⟩):=by simpa [Act.eval] using e45
         obtain ⟨k1,_,_,_,_,_⟩:=Zaf ((hR.block ub HUBL.out).trans HUB3.out)
         refine .inl ⟨FG.wanted_yes rfl rfl rfl xg,?_⟩
         refine Zab (v:=.slice ua gl.length uc) (w':=w1) (by simp only [execOp,e45,Sem.run_bind,Zux _ _ _ k1];rfl) ⟨_,rfl,?_,fun j u hu hV _=>⟨hV,trivial,trivial⟩,rfl⟩
         rw [Zaa (by decide),hdes 17 (by kernel_rfl),if_neg (by decide)];exact hR
        ·rw [hdes 17 (by kernel_rfl),if_neg (by decide)] at hR
         have eg:f1.eval (.tmp 44) = .bool true:=hdep ⟨7,.guard⟩ (by simp) rfl _ rfl
         have xg:f1.tmps[44]?.getD undef = .bool true:=by simpa [Act.eval] using eg
         have e46:f1.eval (.tmp 46) = .slice ua gl.length uc:=hdep ⟨9,.data⟩ (by simp) rfl _ rfl
         have x46:f1.tmps[46]?.getD undef = .slice ua gl.length uc:=by simpa [Act.eval] using e46
         refine .inl ⟨FG.wanted_yes rfl rfl rfl xg,?_⟩
         refine Zan (f:=30) (args:=#[.slice ua gl.length uc]) (by simp [x46,go_sem]) ((Zvi w1 ua uc gl (HUO3.out.below hR).row (Nat.le_trans HLSL.out (by decide)) hg256.out).mono ?_)
         rintro e w6 ⟨rfl,hb6⟩
         rw [HCR.out]
         refine ⟨_,rfl,_,rfl,?_,fun j u hu hV _=>⟨hV,trivial,trivial⟩,rfl⟩
         rw [Zaa (by decide),hdes 17 (by kernel_rfl),if_neg (by decide)]
         exact hR.trans (hb6.mono hR.size)
        ·rw [hdes 17 (by kernel_rfl),if_neg (by decide)] at hR
         have eg:f1.eval (.tmp 44) = .bool true:=hdep ⟨7,.guard⟩ (by simp) rfl _ rfl
         have xg:f1.tmps[44]?.getD undef = .bool true:=by simpa [Act.eval] using eg
         have f9:f1.eval (.tmp 9) = .pointer (some ⟨pb,0,none⟩):=hout 9 (by decide)
         refine .inl ⟨FG.wanted_yes rfl rfl rfl xg,?_⟩
         refine Zab (v:=.pointer (some ⟨pb,1,none⟩)) (w':=w1) (by simp [execOp,f9,fp1]) ⟨_,rfl,?_,fun j u hu hV _=>⟨hV,trivial,trivial⟩,rfl⟩
         rw [Zaa (by decide),hdes 17 (by kernel_rfl),if_neg (by decide)];exact hR
        ·rw [hdes 17 (by kernel_rfl),if_neg (by decide)] at hR
         have eg:f1.eval (.tmp 44) = .bool true:=hdep ⟨7,.guard⟩ (by simp) rfl _ rfl
         have xg:f1.tmps[44]?.getD undef = .bool true:=by simpa [Act.eval] using eg
         have e48:f1.eval (.tmp 48) = .pointer (some ⟨pb,1,none⟩):=hdep ⟨11,.data⟩ (by simp) rfl _ rfl
         have x48:f1.tmps[48]?.getD undef = .pointer (some ⟨pb,1,none⟩):=by simpa [Act.eval] using e48
         have k2:=(Zda ((hR.block pb HPL.out).trans HP3.out)).2
         refine .inl ⟨FG.wanted_yes rfl rfl rfl xg,?_⟩
         refine Zab (v:=.int .u32 (ps:Nat)) (w':=w1) (by simp only [execOp,e48,Sem.run_bind,ldU32 _ _ _ k2];rfl) ⟨_,rfl,?_,fun j u hu hV _=>⟨hV,trivial,trivial⟩,rfl⟩
         rw [Zaa (by decide),hdes 17 (by kernel_rfl),if_neg (by decide)];exact hR
        ·rw [hdes 17 (by kernel_rfl),if_neg (by decide)] at hR
         have eg:f1.eval (.tmp 44) = .bool true:=hdep ⟨7,.guard⟩ (by simp) rfl _ rfl
         have xg:f1.tmps[44]?.getD undef = .bool true:=by simpa [Act.eval] using eg
         have e47:f1.eval (.tmp 47) = .int .u32 (cr:Nat):=hdep ⟨10,.data⟩ (by simp) rfl _ rfl
         have x47:f1.tmps[47]?.getD undef = .int .u32 (cr:Nat):=by simpa [Act.eval] using e47
         have e49:f1.eval (.tmp 49) = .int .u32 (ps:Nat):=hdep ⟨12,.data⟩ (by simp) rfl _ rfl
         have x49:f1.tmps[49]?.getD undef = .int .u32 (ps:Nat):=by simpa [Act.eval] using e49
         refine .inl ⟨FG.wanted_yes rfl rfl rfl xg,?_⟩
         refine Zab (v:=.bool (!((cr:Int) == (ps:Int)))) (w':=w1) (by simp only [execOp,e47,e49,Sem.run_bind,eqgN,neqU];rfl) ⟨_,rfl,?_,fun j u hu hV _=>⟨hV,trivial,trivial⟩,rfl⟩
         rw [Zaa (by decide),hdes 17 (by kernel_rfl),if_neg (by decide)];exact hR
        ·rw [hdes 17 (by kernel_rfl),if_neg (by decide)] at hR
         have eg:f1.eval (.tmp 39) = .bool false:=hdep ⟨2,.guard⟩ (by simp) rfl _ rfl
         have xg:f1.tmps[39]?.getD undef = .bool false:=by simpa [Act.eval] using eg
         have e44:f1.eval (.tmp 44) = .bool true:=hdep ⟨7,.data⟩ (by simp) rfl _ rfl
         have x44:f1.tmps[44]?.getD undef = .bool true:=by simpa [Act.eval] using e44
         have e50:f1.eval (.tmp 50) = .bool (!((cr:Int) == (ps:Int))):=hdep ⟨13,.data⟩ (by simp) rfl _ rfl
         have x50:f1.tmps[50]?.getD undef = .bool (!((cr:Int) == (ps:Int))):=by simpa [Act.eval] using e50
         refine .inl ⟨FG.wanted_yes rfl rfl rfl xg,?_⟩
         refine Zab (v:=.bool (!((cr:Int) == (ps:Int)))) (w':=w1) (by simp [execOp,x44,evalC,asBool,go_sem,x50]) ⟨_,rfl,?_,fun j u hu hV _=>⟨hV,trivial,trivial⟩,rfl⟩
         rw [Zaa (by decide),hdes 17 (by kernel_rfl),if_neg (by decide)];exact hR
        ·rw [hdes 17 (by kernel_rfl),if_neg (by decide)] at hR
         have e39:f1.eval (.tmp 39) = .bool false:=hdep ⟨2,.data⟩ (by simp) rfl _ rfl
         have x39:f1.tmps[39]?.getD undef = .bool false:=by simpa [Act.eval] using e39
         have e51:f1.eval (.tmp 51) = .bool (!((cr:Int) == (ps:Int))):=hdep ⟨14,.data⟩ (by simp) rfl _ rfl
         have x51:f1.tmps[51]?.getD undef = .bool (!((cr:Int) == (ps:Int))):=by simpa [Act.eval] using e51
         refine .inl ⟨FG.wanted_any rfl,?_⟩
         refine Zab (v:=.bool (!((cr:Int) == (ps:Int)))) (w':=w1) (by simp [execOp,x39,evalC,asBool,go_sem,x51]) ⟨_,rfl,?_,fun j u hu hV _=>⟨hV,trivial,trivial⟩,rfl⟩
         rw [Zaa (by decide),hdes 17 (by kernel_rfl),if_neg (by decide)];exact hR
        ·rw [hdes 17 (by kernel_rfl),if_neg (by decide)] at hR
         have f4:f1.eval (.tmp 4) = .pointer (some ⟨w.heap.size + 1,0,none⟩):=hout 4 (by decide)
         refine .inl ⟨FG.wanted_any rfl,?_⟩
         refine Zab (v:=.pointer (some ⟨w.heap.size + 1,3,none⟩)) (w':=w1) (by simp [execOp,f4,fa3]) ⟨_,rfl,?_,fun j u hu hV _=>⟨hV,trivial,trivial⟩,rfl⟩
         rw [Zaa (by decide),hdes 17 (by kernel_rfl),if_neg (by decide)];exact hR
        ·rw [hunf,if_neg (by decide)] at hR
         have e52:f1.eval (.tmp 52) = .bool (!((cr:Int) == (ps:Int))):=hdep ⟨15,.data⟩ (by simp) rfl _ rfl
         have x52:f1.tmps[52]?.getD undef = .bool (!((cr:Int) == (ps:Int))):=by simpa [Act.eval] using e52
         have e53:f1.eval (.tmp 53) = .pointer (some ⟨w.heap.size + 1,3,none⟩):=hdep ⟨16,.data⟩ (by simp) rfl _ rfl
         have x53:f1.tmps[53]?.getD undef = .pointer (some ⟨w.heap.size + 1,3,none⟩):=by simpa [Act.eval] using e53
         have hq1:=((hR.block (w.heap.size + 1) HQL.out).trans HQ3.out)
         obtain ⟨_,_,_,k4,_,_⟩:=Zaf hq1
         obtain ⟨_,_,_,r4⟩:=Zal hq1
         refine .inl ⟨FG.wanted_any rfl,?_⟩
         refine Zbw (w':=w1.setCell ⟨w.heap.size + 1,3,none⟩ (.bool (!((cr:Int) == (ps:Int))))) (by simp only [execOp,e53,e52];rw [Sem.run_bind,stB _ _ _ _ k4 r4];rfl) ⟨undef,rfl,?_,fun j u hu hV _=>⟨hV,trivial,trivial⟩,trivial⟩
         rw [Zag hil,if_pos rfl]
         refine ⟨by simpa using Zbc (i:=3) (x:=.bool (!((cr:Int) == (ps:Int)))) hq1,(show Only (fun b=>b = w.heap.size + 1) B3 w1 from Only.ofBelow hR).setCell (p:=⟨w.heap.size + 1,3,none⟩) (.inl rfl) _⟩
       ·intro listed fv w1 hR hall hV
        rw [if_pos (hall 17 (by decide))] at hR
        refine ⟨rfl,_,rfl,rfl,rfl,rfl,?_⟩
        rw [HBZ.out]
        exact hR
      ·have T2:decide ((sn:Int) <= (lf:Int)) = false:=by simp;omega
       have HBZ:Hid ((false || (decide (sl.length <= lf) && !(crcHigh gl == p.2))) = false):=by
        unfold Hid
        rw [hsn,decide_eq_false hle2];rfl
       clear hle2
       refine FG.wpIn_round_flowS [37,38,39,40,41,42,43,44,45,46,47,48,49,50,51,52,53] (fun j=>false) (fun listed w1=>if listed.getD 17 false = true then (w1.heap[w.heap.size + 1]? = some (.cells #[.slice a1 S.1.bytes.length c1,.int .i64 (S.1.size:Nat),.int .i64 0,.bool false] 24 (0,0)) /\ Only (fun b=>b = w.heap.size + 1) B3 w1) else Below B3.heap.size B3 w1) (fun j v _=>match j with | 0=>v = .pointer (some ⟨w.heap.size + 1,3,none⟩) | 1=>v = .bool false | 2=>v = .bool false | 3=>v = .pointer (some ⟨ub,1,none⟩) | 4=>v = .int .i64 (sn:Nat) | 5=>v = .int .i64 (lf:Nat) | 6=>v = .bool false | 7=>v = .bool false | 14=>v = .bool false | 15=>v = .bool false | 16=>v = .pointer (some ⟨w.heap.size + 1,3,none⟩) | _=>True) (fun _ _ _ _=>True) (Zgd _ _) (by kernel_rfl) (by kernel_rfl) (by kernel_rfl) (FG.OneEach.mk' (by kernel_rfl) (by kernel_rfl)) (by kernel_rfl) (by rw [getD_replicate_false,if_neg (by decide)];exact (Below.refl _ B3).drew) ?_ ?_
       ·intro i0 o hi0 listed f1 w1 hR hil hunf hdes hanc hout hold hdep
        have hsz0:i0 < 18:=(Array.getElem?_eq_some_iff.1 hi0).1
        have hall:i0 = 0 \/ i0 = 1 \/ i0 = 2 \/ i0 = 3 \/ i0 = 4 \/ i0 = 5 \/ i0 = 6 \/ i0 = 7 \/ i0 = 8 \/ i0 = 9 \/ i0 = 10 \/ i0 = 11 \/ i0 = 12 \/ i0 = 13 \/ i0 = 14 \/ i0 = 15 \/ i0 = 16 \/ i0 = 17:=by omega
        clear hsz0 hold
        rcases hall with rfl | rfl | rfl | rfl | rfl | rfl | rfl | rfl | rfl | rfl | rfl | rfl | rfl | rfl | rfl | rfl | rfl | rfl <;> simp only [List.getElem?_toArray,List.getElem?_cons_zero,List.getElem?_cons_succ,Option.some.injEq] at hi0 <;> subst hi0
        ·rw [hdes 17 (by kernel_rfl),if_neg (by decide)] at hR
         have f4:f1.eval (.tmp 4) = .pointer (some ⟨w.heap.size + 1,0,none⟩):=hout 4 (by decide)
         refine .inl ⟨FG.wanted_any rfl,?_⟩
         refine Zab (v:=.pointer (some ⟨w.heap.size + 1,3,none⟩)) (w':=w1) (by simp [execOp,f4,fa3]) ⟨_,rfl,?_,fun j u hu hV _=>⟨hV,trivial,trivial⟩,rfl⟩
         rw [Zaa (by decide),hdes 17 (by kernel_rfl),if_neg (by decide)];exact hR
        ·rw [hdes 17 (by kernel_rfl),if_neg (by decide)] at hR
         have e37:f1.eval (.tmp 37) = .pointer (some ⟨w.heap.size + 1,3,none⟩):=hdep ⟨0,.data⟩ (by simp) rfl _ rfl
         have x37:f1.tmps[37]?.getD undef = .pointer (some ⟨w.heap.size + 1,3,none⟩):=by simpa [Act.eval] using e37
         obtain ⟨_,_,_,k4,_,_⟩:=Zaf ((hR.block (w.heap.size + 1) HQL.out).trans HQ3.out)
         refine .inl ⟨FG.wanted_any rfl,?_⟩
         refine Zab (v:=.bool false) (w':=w1) (by simp only [execOp,e37,Sem.run_bind,ldB _ _ _ k4];rfl) ⟨_,rfl,?_,fun j u hu hV _=>⟨hV,trivial,trivial⟩,rfl⟩
         rw [Zaa (by decide),hdes 17 (by kernel_rfl),if_neg (by decide)];exact hR
        ·rw [hdes 17 (by kernel_rfl),if_neg (by decide)] at hR
         have e38:f1.eval (.tmp 38) = .bool false:=hdep ⟨1,.data⟩ (by simp) rfl _ rfl
         have x38:f1.tmps[38]?.getD undef = .bool false:=by simpa [Act.eval] using e38
         refine .inl ⟨FG.wanted_any rfl,?_⟩
         refine Zab (v:=.bool false) (w':=w1) (by simp [execOp,e38]) ⟨_,rfl,?_,fun j u hu hV _=>⟨hV,trivial,trivial⟩,rfl⟩
         rw [Zaa (by decide),hdes 17 (by kernel_rfl),if_neg (by decide)];exact hR
        ·rw [hdes 17 (by kernel_rfl),if_neg (by decide)] at hR
         have eg:f1.eval (.tmp 39) = .bool false:=hdep ⟨2,.guard⟩ (by simp) rfl _ rfl
         have xg:f1.tmps[39]?.getD undef = .bool false:=by simpa [Act.eval] using eg
         have f11:f1.eval (.tmp 11) = .pointer (some ⟨ub,0,none⟩):=hout 11 (by decide)
         refine .inl ⟨FG.wanted_yes rfl rfl rfl xg,?_⟩
         refine Zab (v:=.pointer (some ⟨ub,1,none⟩)) (w':=w1) (by simp [execOp,f11,fa1]) ⟨_,rfl,?_,fun j u hu hV _=>⟨hV,trivial,trivial⟩,rfl⟩
         rw [Zaa (by decide),hdes 17 (by kernel_rfl),if_neg (by decide)];exact hR
        ·rw [hdes 17 (by kernel_rfl),if_neg (by decide)] at hR
         have eg:f1.eval (.tmp 39) = .bool false:=hdep ⟨2,.guard⟩ (by simp) rfl _ rfl
         have xg:f1.tmps[39]?.getD undef = .bool false:=by simpa [Act.eval] using eg
         have e40:f1.eval (.tmp 40) = .pointer (some ⟨ub,1,none⟩):=hdep ⟨3,.data⟩ (by simp) rfl _ rfl
         have x40:f1.tmps[40]?.getD undef = .pointer (some ⟨ub,1,none⟩):=by simpa [Act.eval] using e40
         obtain ⟨_,k2,_,_,_,_⟩:=Zaf ((hR.block ub HUBL.out).trans HUB3.out)
         refine .inl ⟨FG.wanted_yes rfl rfl rfl xg,?_⟩
         refine Zab (v:=.int .i64 (sn:Nat)) (w':=w1) (by simp only [execOp,e40,Sem.run_bind,Zkm _ _ _ k2];rfl) ⟨_,rfl,?_,fun j u hu hV _=>⟨hV,trivial,trivial⟩,rfl⟩
         rw [Zaa (by decide),hdes 17 (by kernel_rfl),if_neg (by decide)];exact hR
        ·rw [hdes 17 (by kernel_rfl),if_neg (by decide)] at hR
         have eg:f1.eval (.tmp 39) = .bool false:=hdep ⟨2,.guard⟩ (by simp) rfl _ rfl
         have xg:f1.tmps[39]?.getD undef = .bool false:=by simpa [Act.eval] using eg
         have f10:f1.eval (.tmp 10) = .int .i64 (lf:Nat):=hout 10 (by decide)
         refine .inl ⟨FG.wanted_yes rfl rfl rfl xg,?_⟩
         refine Zab (v:=.int .i64 (lf:Nat)) (w':=w1) (by simp [execOp,f10]) ⟨_,rfl,?_,fun j u hu hV _=>⟨hV,trivial,trivial⟩,rfl⟩
         rw [Zaa (by decide),hdes 17 (by kernel_rfl),if_neg (by decide)];exact hR
        ·rw [hdes 17 (by kernel_rfl),if_neg (by decide)] at hR
         have eg:f1.eval (.tmp 39) = .bool false:=hdep ⟨2,.guard⟩ (by simp) rfl _ rfl
         have xg:f1.tmps[39]?.getD undef = .bool false:=by simpa [Act.eval] using eg
         have e41:f1.eval (.tmp 41) = .int .i64 (sn:Nat):=hdep ⟨4,.data⟩ (by simp) rfl _ rfl
         have x41:f1.tmps[41]?.getD undef = .int .i64 (sn:Nat):=by simpa [Act.eval] using e41
         have e42:f1.eval (.tmp 42) = .int .i64 (lf:Nat):=hdep ⟨5,.data⟩ (by simp) rfl _ rfl
         have x42:f1.tmps[42]?.getD undef = .int .i64 (lf:Nat):=by simpa [Act.eval] using e42
         refine .inl ⟨FG.wanted_yes rfl rfl rfl xg,?_⟩
         refine Zab (v:=.bool false) (w':=w1) (by simp only [execOp,e41,e42,Sem.run_bind,eqgL,leqI,T2];rfl) ⟨_,rfl,?_,fun j u hu hV _=>⟨hV,trivial,trivial⟩,rfl⟩
         rw [Zaa (by decide),hdes 17 (by kernel_rfl),if_neg (by decide)];exact hR
        ·rw [hdes 17 (by kernel_rfl),if_neg (by decide)] at hR
         have eg:f1.eval (.tmp 39) = .bool false:=hdep ⟨2,.guard⟩ (by simp) rfl _ rfl
         have xg:f1.tmps[39]?.getD undef = .bool false:=by simpa [Act.eval] using eg
         have e43:f1.eval (.tmp 43) = .bool false:=hdep ⟨6,.data⟩ (by simp) rfl _ rfl
         have x43:f1.tmps[43]?.getD undef = .bool false:=by simpa [Act.eval] using e43
         refine .inl ⟨FG.wanted_yes rfl rfl rfl xg,?_⟩
         refine Zab (v:=.bool false) (w':=w1) (by simp [execOp,e43]) ⟨_,rfl,?_,fun j u hu hV _=>⟨hV,trivial,trivial⟩,rfl⟩
         rw [Zaa (by decide),hdes 17 (by kernel_rfl),if_neg (by decide)];exact hR
        ·rw [hdes 17 (by kernel_rfl),if_neg (by decide)] at hR
         have eg:f1.eval (.tmp 44) = .bool false:=hdep ⟨7,.guard⟩ (by simp) rfl _ rfl
         have xg:f1.tmps[44]?.getD undef = .bool false:=by simpa [Act.eval] using eg
         refine .inr ⟨FG.wanted_no rfl rfl rfl (.inl xg),undef,rfl,?_,fun j u hu hV _=>⟨hV,trivial,trivial⟩,trivial⟩
         rw [Zaa (by decide),hdes 17 (by kernel_rfl),if_neg (by decide)];exact hR
        ·rw [hdes 17 (by kernel_rfl),if_neg (by decide)] at hR
         have eg:f1.eval (.tmp 44) = .bool false:=hdep ⟨7,.guard⟩ (by simp) rfl _ rfl
         have xg:f1.tmps[44]?.getD undef = .bool false:=by simpa [Act.eval] using eg
         refine .inr ⟨FG.wanted_no rfl rfl rfl (.inl xg),undef,rfl,?_,fun j u hu hV _=>⟨hV,trivial,trivial⟩,trivial⟩
         rw [Zaa (by decide),hdes 17 (by kernel_rfl),if_neg (by decide)];exact hR
        ·rw [hdes 17 (by kernel_rfl),if_neg (by decide)] at hR
         have eg:f1.eval (.tmp 44) = .bool false:=hdep ⟨7,.guard⟩ (by simp) rfl _ rfl
         have xg:f1.tmps[44]?.getD undef = .bool false:=by simpa [Act.eval] using eg
         refine .inr ⟨FG.wanted_no rfl rfl rfl (.inl xg),undef,rfl,?_,fun j u hu hV _=>⟨hV,trivial,trivial⟩,trivial⟩
         rw [Zaa (by decide),hdes 17 (by kernel_rfl),if_neg (by decide)];exact hR
        ·rw [hdes 17 (by kernel_rfl),if_neg (by decide)] at hR
         have eg:f1.eval (.tmp 44) = .bool false:=hdep ⟨7,.guard⟩ (by simp) rfl _ rfl
         have xg:f1.tmps[44]?.getD undef = .bool false:=by simpa [Act.eval] using eg
         refine .inr ⟨FG.wanted_no rfl rfl rfl (.inl xg),undef,rfl,?_,fun j u hu hV _=>⟨hV,trivial,trivial⟩,trivial⟩
         rw [Zaa (by decide),hdes 17 (by kernel_rfl),if_neg (by decide)];exact hR
        ·rw [hdes 17 (by kernel_rfl),if_neg (by decide)] at hR
         have eg:f1.eval (.tmp 44) = .bool false:=hdep ⟨7,.guard⟩ (by simp) rfl _ rfl
         have xg:f1.tmps[44]?.getD undef = .bool false:=by simpa [Act.eval] using eg
         refine .inr ⟨FG.wanted_no rfl rfl rfl (.inl xg),undef,rfl,?_,fun j u hu hV _=>⟨hV,trivial,trivial⟩,trivial⟩
         rw [Zaa (by decide),hdes 17 (by kernel_rfl),if_neg (by decide)];exact hR
        ·rw [hdes 17 (by kernel_rfl),if_neg (by decide)] at hR
         have eg:f1.eval (.tmp 44) = .bool false:=hdep ⟨7,.guard⟩ (by simp) rfl _ rfl
         have xg:f1.tmps[44]?.getD undef = .bool false:=by simpa [Act.eval] using eg
         refine .inr ⟨FG.wanted_no rfl rfl rfl (.inl xg),undef,rfl,?_,fun j u hu hV _=>⟨hV,trivial,trivial⟩,trivial⟩
         rw [Zaa (by decide),hdes 17 (by kernel_rfl),if_neg (by decide)];exact hR
        ·rw [hdes 17 (by kernel_rfl),if_neg (by decide)] at hR
         have eg:f1.eval (.tmp 39) = .bool false:=hdep ⟨2,.guard⟩ (by simp) rfl _ rfl
         have xg:f1.tmps[39]?.getD undef = .bool false:=by simpa [Act.eval] using eg
         have e44:f1.eval (.tmp 44) = .bool false:=hdep ⟨7,.data⟩ (by simp) rfl _ rfl
         have x44:f1.tmps[44]?.getD undef = .bool false:=by simpa [Act.eval] using e44
         refine .inl ⟨FG.wanted_yes rfl rfl rfl xg,?_⟩
         refine Zab (v:=.bool false) (w':=w1) (by simp [execOp,x44,evalC,asBool,go_sem]) ⟨_,rfl,?_,fun j u hu hV _=>⟨hV,trivial,trivial⟩,rfl⟩
         rw [Zaa (by decide),hdes 17 (by kernel_rfl),if_neg (by decide)];exact hR
        ·rw [hdes 17 (by kernel_rfl),if_neg (by decide)] at hR
         have e39:f1.eval (.tmp 39) = .bool false:=hdep ⟨2,.data⟩ (by simp) rfl _ rfl
         have x39:f1.tmps[39]?.getD undef = .bool false:=by simpa [Act.eval] using e39
         have e51:f1.eval (.tmp 51) = .bool false:=hdep ⟨14,.data⟩ (by simp) rfl _ rfl
         have x51:f1.tmps[51]?.getD undef = .bool false:=by simpa [Act.eval] using e51
         refine .inl ⟨FG.wanted_any rfl,?_⟩
         refine Zab (v:=.bool false) (w':=w1) (by simp [execOp,x39,evalC,asBool,go_sem,x51]) ⟨_,rfl,?_,fun j u hu hV _=>⟨hV,trivial,trivial⟩,rfl⟩
         rw [Zaa (by decide),hdes 17 (by kernel_rfl),if_neg (by decide)];exact hR
        ·rw [hdes 17 (by kernel_rfl),if_neg (by decide)] at hR
         have f4:f1.eval (.tmp 4) = .pointer (some ⟨w.heap.size + 1,0,none⟩):=hout 4 (by decide)
         refine .inl ⟨FG.wanted_any rfl,?_⟩
         refine Zab (v:=.pointer (some ⟨w.heap.size + 1,3,none⟩)) (w':=w1) (by simp [execOp,f4,fa3]) ⟨_,rfl,?_,fun j u hu hV _=>⟨hV,trivial,trivial⟩,rfl⟩
         rw [Zaa (by decide),hdes 17 (by kernel_rfl),if_neg (by decide)];exact hR
        ·rw [hunf,if_neg (by decide)] at hR
         have e52:f1.eval (.tmp 52) = .bool false:=hdep ⟨15,.data⟩ (by simp) rfl _ rfl
         have x52:f1.tmps[52]?.getD undef = .bool false:=by simpa [Act.eval] using e52
         have e53:f1.eval (.tmp 53) = .pointer (some ⟨w.heap.size + 1,3,none⟩):=hdep ⟨16,.data⟩ (by simp) rfl _ rfl
         have x53:f1.tmps[53]?.getD undef = .pointer (some ⟨w.heap.size + 1,3,none⟩):=by simpa [Act.eval] using e53
         have hq1:=((hR.block (w.heap.size + 1) HQL.out).trans HQ3.out)
         obtain ⟨_,_,_,k4,_,_⟩:=Zaf hq1
         obtain ⟨_,_,_,r4⟩:=Zal hq1
         refine .inl ⟨FG.wanted_any rfl,?_⟩
         refine Zbw (w':=w1.setCell ⟨w.heap.size + 1,3,none⟩ (.bool false)) (by simp only [execOp,e53,e52];rw [Sem.run_bind,stB _ _ _ _ k4 r4];rfl) ⟨undef,rfl,?_,fun j u hu hV _=>⟨hV,trivial,trivial⟩,trivial⟩
         rw [Zag hil,if_pos rfl]
         refine ⟨by simpa using Zbc (i:=3) (x:=.bool false) hq1,(show Only (fun b=>b = w.heap.size + 1) B3 w1 from Only.ofBelow hR).setCell (p:=⟨w.heap.size + 1,3,none⟩) (.inl rfl) _⟩
       ·intro listed fv w1 hR hall hV
        rw [if_pos (hall 17 (by decide))] at hR
        refine ⟨rfl,_,rfl,rfl,rfl,rfl,?_⟩
        rw [HBZ.out]
        exact hR
    case rest =>
     rintro m0 m1 m2 m3 m4 m5 m6 m7 m8 m9 m10 m11 m12 m13 m14 m15 m16 B4 ⟨hq4,ho4⟩
     obtain ⟨nw,hnw⟩:∃ nw,(S.1.wrong || (decide (sl.length <= lf) && !(crcHigh gl == p.2))) = nw:=⟨_,rfl⟩
     rw [hnw] at hq4
     have HNW:=Zh hnw
     have HQ4:=Zh hq4
     have HO4:=Zh ho4
     have hAB:Only (fun b=>b = w.heap.size + 1) A B4:=(show Only (fun b=>b = w.heap.size + 1) A B3 from Only.ofBelow HB3.out).trans ho4
     have HAB:=Zh hAB
     have HOW4:=Zh (hown.out.only hAB (fun b hb e=>by omega))
     have HUO4:=Zh (HUO3.out.only ho4 (fun b hb e=>by omega))
     have HUB4:=Zh (Zac HUB3.out ho4 (by omega))
     have HFO4:=Zh (Zac HFO.out hAB (by omega))
     have HPB4:=Zh (Zac HK7.out hAB (fun e=>hqp e.symm))
     simp only [List.take_succ_cons,List.take_zero,List.drop_succ_cons,List.drop_zero,List.cons_append,List.nil_append]
     obtain ⟨q1,q2,q3,q4,_,_⟩:=Zaf hq4
     obtain ⟨r1,r2,r3,r4⟩:=Zal hq4
     obtain ⟨g1,g2,g3,g4,_,_⟩:=Zaf HUB4.out
     have HOWA:=hown
     have HQA:=HQ
     have HFOA:=HFO
     have HK7A:=HK7
     clear hnw hq4 ho4 hAB HB3 HUO3 HUB3 HQ3 HP3 HQ HFO HK7 HUBL hown hqA hpA hfA hg256
     have hAsz:A.heap.size <= B4.heap.size:=HAB.out.size
     obtain ⟨hap1,hap2⟩:=Zzp hbl.out HK.out HLSL.out
     have hbase4:rp + 1 <= B4.heap.size:=Nat.le_trans hr5 hAsz
     have hform:a1 = none \/ ∃ g0,a1 = some ⟨g0,0,none⟩:=by
      rcases HOW4.out.form with ⟨h,_⟩ | ⟨g0,h,_⟩
      ·exact .inl h
      ·exact .inr ⟨g0,h⟩
     have HFORM:=Zh hform
     have HAL:Hid (∀ g,a1 = some ⟨g,0,none⟩ -> rp + 1 <= g /\ g < fb + 2 + A.heap.size /\ g ≠ ub /\ g ≠ fb /\ g ≠ pb /\ g ≠ fb + 1 /\ (∀ r ∈ ns,g ≠ r) /\ g < A.heap.size):=by
      unfold Hid
      intro g hg
      have ho:=HOWA.out
      rw [hg] at ho
      obtain ⟨h1,h2,cs,h3⟩:=ho.lies
      refine ⟨h1,by omega,by omega,fun e=>?_,fun e=>?_,fun e=>?_,fun r hr e=>?_,h2⟩
      ·rw [e,HFOA.out] at h3;cases h3
      ·rw [e,HK7A.out] at h3;cases h3
      ·rw [e,HCBA.out] at h3;cases h3
      ·rw [e,(HNS2.out r hr).2] at h3;cases h3
     obtain ⟨z2,hz2⟩:∃ z2,S.1.size + sl.length = z2:=⟨_,rfl⟩
     have hzb:z2 <= 9000000000000000000:=by
      have e1:=hsz1.out
      have e2:=hll.out
      have e3:=k3.out
      have e4:=HFS.out
      have e5:=HLL.out
      have e6:=HL.out
      unfold nb at e5
      rw [Zap] at e5
      omega
     obtain ⟨zw1,zw2,zw3,zw4⟩:=Zut hz2 hzb
     have HZ2:=Zh hz2
     clear hz2 hzb hform
     refine ‹∀ (a:Act) (w:World),Code.wpIn (Fence.wide.inRound y) 9 Try.prog _ _ a w -> _› _ _ ?_
     refine wpIn_seq ?_
     refine Zit (by rintro ⟨_,_,h⟩;exact h) rfl ?_
     go_wp2_with (at_builtin;refine appAnyN Zbl rfl (.tmp 55) (.tmp 57) rfl rfl HOW4.out rfl rfl HUO4.out.row hap1 hap2 hbase4 ?_;intro a5 c5 w5 hown5 hg5 hb5;clear q1 q2 q3 q4 r1 r2 r3 r4 g1 g2 g3 g4;have hO5:Only (fun b=>a1 = some ⟨b,0,none⟩) B4 w5:=⟨hg5.os,hg5.tape,hg5.output,hg5.size,fun b hb hn=>hg5.block b hb (fun e=>hn (Zwg e.symm HFORM.out))⟩;have hq5:w5.heap[w.heap.size + 1]? = _:=(hb5.block _ (by omega)).trans HQ4.out;obtain ⟨q1,q2,q3,q4,_,_⟩:=Zaf hq5;obtain ⟨r1,r2,r3,r4⟩:=Zal hq5;have hq6:(w5.setCell ⟨w.heap.size + 1,0,none⟩ (.slice a5 (S.1.bytes.length + gl.length) c5)).heap[w.heap.size + 1]? = some (.cells #[.slice a5 (S.1.bytes.length + gl.length) c5,.int .i64 (S.1.size:Nat),.int .i64 0,.bool nw] 24 (0,0)):=(by simpa using Zbc (i:=0) (x:=.slice a5 (S.1.bytes.length + gl.length) c5) hq5);obtain ⟨s1,s2,s3,s4,_,_⟩:=Zaf hq6;obtain ⟨u1,u2,u3,u4⟩:=Zal hq6;have HOWN5:=Zh hown5;have HO5:=Zh hO5;have HQ6:=Zh hq6;clear hown5 hg5 hb5 hO5 hq5 hq6)
     clear q1 q2 q3 q4 r1 r2 r3 r4
     have HO6:Hid (Only (fun b=>a1 = some ⟨b,0,none⟩ \/ b = w.heap.size + 1) B4 (w5.setCell ⟨w.heap.size + 1,0,none⟩ (.slice a5 (S.1.bytes.length + gl.length) c5))):=Zh ((HO5.out.mono (T':=fun b=>a1 = some ⟨b,0,none⟩ \/ b = w.heap.size + 1) (fun k _ h=>.inl h)).setCell (p:=⟨w.heap.size + 1,0,none⟩) (.inl (.inr rfl)) _)
     have HOWN6:=Zh (HOWN5.out.other (p:=⟨w.heap.size + 1,0,none⟩) (fun g hg e=>by
      have ho:=HOWN5.out
      rw [hg] at ho
      have h1:=ho.lies.1
      have e:w.heap.size + 1 = g:=e
      omega) (.slice a5 (S.1.bytes.length + gl.length) c5))
     clear HOWN5 HO5
     generalize w5.setCell ⟨w.heap.size + 1,0,none⟩ (.slice a5 (S.1.bytes.length + gl.length) c5) = W6 at *
     have hub6:W6.heap[ub]? = _:=Zac HUB4.out HO6.out (fun h=>h.elim (fun h=>(HAL.out ub h).2.2.1 rfl) (fun h=>by omega))
     obtain ⟨g1,g2,g3,g4,_,_⟩:=Zaf hub6
     have hq7:(W6.setCell ⟨w.heap.size + 1,1,none⟩ (.int .i64 (z2:Nat))).heap[w.heap.size + 1]? = some (.cells #[.slice a5 (S.1.bytes.length + gl.length) c5,.int .i64 (z2:Nat),.int .i64 0,.bool nw] 24 (0,0)):=(by simpa using Zbc (i:=1) (x:=.int .i64 (z2:Nat)) HQ6.out)
     have HO7:=Zh (HO6.out.setCell (p:=⟨w.heap.size + 1,1,none⟩) (.inl (.inr rfl)) (.int .i64 (z2:Nat)))
     have HOWN7:=Zh (HOWN6.out.other (p:=⟨w.heap.size + 1,1,none⟩) (fun g hg e=>by
      have ho:=HOWN6.out
      rw [hg] at ho
      have h1:=ho.lies.1
      have e:w.heap.size + 1 = g:=e
      omega) (.int .i64 (z2:Nat)))
     have HQ7:=Zh hq7
     clear hq7 hub6
     have hfb7:(W6.setCell ⟨w.heap.size + 1,1,none⟩ (.int .i64 (z2:Nat))).heap[fb]? = _:=Zac HFO4.out HO7.out (fun h=>h.elim (fun h=>(HAL.out fb h).2.2.2.1 rfl) (fun h=>by omega))
     have hpb7:(W6.setCell ⟨w.heap.size + 1,1,none⟩ (.int .i64 (z2:Nat))).heap[pb]? = _:=Zac HPB4.out HO7.out (fun h=>h.elim (fun h=>(HAL.out pb h).2.2.2.2.1 rfl) (fun h=>hqp h.symm))
     have q5:=cell_of_one hfb7
     have r5:=Zam hfb7
     have q6:=(Zda hpb7).2
     have HFB7:=Zh hfb7
     have HFD:=Zh (fun B=>Zvh S.2 p.2 hs32.out k5.out B)
     clear hfb7 hpb7
     gi_wp2_with fail
     refine ⟨trivial,?_⟩
     refine (callsIn_wide.2 (HFD.out _)).mono ?_
     rintro e w8 ⟨rfl,h8⟩
     rw [h8]
     clear h8 w8
     clear g1 g2 g3 g4 s1 s2 s3 s4 u1 u2 u3 u4 q6
     generalize W6.setCell ⟨w.heap.size + 1,1,none⟩ (.int .i64 (z2:Nat)) = W7 at *
     gi_wp2_with fail
     have hst:partF keep S p = ({ bytes:=S.1.bytes ++ gl,size:=z2,wrong:=nw },foldS S.2 p.2):=Zya HSLE.out HLF.out HGL.out HNW.out HZ2.out
     have hlap:(S.1.bytes ++ gl).length = S.1.bytes.length + gl.length:=List.length_append
     have hO8:Only (fun b=>(a1 = some ⟨b,0,none⟩ \/ b = w.heap.size + 1) \/ b = fb) B4 (W7.setCell ⟨fb,0,none⟩ (.int .u32 (foldS S.2 p.2:Nat))):=(HO7.out.mono (T':=fun b=>(a1 = some ⟨b,0,none⟩ \/ b = w.heap.size + 1) \/ b = fb) (fun k _ h=>.inl h)).setCell (p:=⟨fb,0,none⟩) (.inl (.inr rfl)) _
     have hO9:Only (fun b=>(a1 = some ⟨b,0,none⟩ \/ b = w.heap.size + 1) \/ b = fb) A (W7.setCell ⟨fb,0,none⟩ (.int .u32 (foldS S.2 p.2:Nat))):=(HAB.out.mono (T':=fun b=>(a1 = some ⟨b,0,none⟩ \/ b = w.heap.size + 1) \/ b = fb) (fun k _ h=>.inl (.inr h))).trans hO8
     have hT:∀ b,((a1 = some ⟨b,0,none⟩ \/ b = w.heap.size + 1) \/ b = fb) -> b ≠ fb + 1 /\ b ≠ rp /\ b + 1 ≠ rp /\ b ≠ w.heap.size /\ b ≠ w.heap.size + 1 + 1 /\ ∀ r ∈ ns,b ≠ r:=fun b h=>by
      rcases h with (h | h) | h
      ·have h1:=HAL.out b h
       refine ⟨h1.2.2.2.2.2.1,by omega,by omega,by omega,by omega,h1.2.2.2.2.2.2.1⟩
      ·refine ⟨by omega,by omega,by omega,by omega,by omega,fun r hr e=>by have:=(HNSB.out r hr).1;omega⟩
      ·refine ⟨by omega,by omega,by omega,by omega,by omega,fun r hr e=>by have:=(HNSB.out r hr).2;omega⟩
     have hcl:∀ b o,((a1 = some ⟨b,0,none⟩ \/ b = w.heap.size + 1) \/ b = fb) -> A.heap[b]? = some o -> o.isCells = true:=fun b o h ho=>by
      rcases h with (h | h) | h
      ·have hw:=HOWA.out
       rw [h] at hw
       obtain ⟨_,_,cs,h3⟩:=hw.lies
       rw [h3] at ho;cases ho;rfl
      ·rw [h,HQA.out] at ho;cases ho;rfl
      ·rw [h,HFOA.out] at ho;cases ho;rfl
     refine ⟨KeepsFrom.ofOnlyZ hO9 hcl,SameOn.ofOnlyZ hO9 (fun b h=>?_),?_⟩
     ·rcases h with rfl | rfl | h
      ·exact ⟨lt_of_block HCBA.out,fun t=>(hT _ t).1 rfl⟩
      ·exact ⟨hr5,fun t=>(hT _ t).2.1 rfl⟩
      ·exact ⟨by omega,fun t=>(hT _ t).2.2.1 h⟩
     ·show BzR w keep rp fb ns F.size (i + 1) (stF keep F L (i + 1)) _
      rw [HSS.out,hst]
      have hqz:(W7.setCell ⟨fb,0,none⟩ (.int .u32 (foldS S.2 p.2:Nat))).heap[w.heap.size + 1]? = _:=(Below.heap_setCell _ _ _ _ (by show w.heap.size + 1 ≠ fb;omega)).trans HQ7.out
      refine ⟨⟨⟨a5,c5,⟨?_,Zac HE.out hO9 (fun t=>(hT _ t).2.2.2.2.1 rfl)⟩,?_⟩,Zac HKP.out hO9 (fun t=>(hT _ t).2.2.2.1 rfl),fun r hr=>⟨(HNSB.out r hr).1,Zac (HNS2.out r hr).2 hO9 (fun t=>(hT _ t).2.2.2.2.2 r hr rfl)⟩,Below.only HBW.out hO9 (Nat.le_refl _) (fun b h=>?_),hr4,Nat.lt_of_lt_of_le hr5 hO9.size⟩,one_setCell HFB7.out,?_,?_,Zhb hs32.out k5.out,Zac HCBA.out hO9 (fun t=>(hT _ t).1 rfl)⟩
      ·refine hqz.trans ?_
       rw [<- hlap]
      ·refine HOWN7.out.other (p:=⟨fb,0,none⟩) (fun g hg e=>?_) _
       have ho:=HOWN7.out
       rw [hg] at ho
       obtain ⟨_,_,cs,h3⟩:=ho.lies
       have e:fb = g:=e
       rw [<- e,HFB7.out] at h3
       cases h3
      ·rcases h with (h | h) | h
       ·have:=(HAL.out b h).1;omega
       ·omega
       ·omega
      ·show (S.1.bytes ++ gl).length <= keep
       rw [hlap]
       refine Zuf hbl.out HLF.out ?_
       rw [HGL.out];exact List.length_take_le _ _
      ·show z2 <= F.size + 255000000 * (i + 1)
       rw [<- HZ2.out]
       exact Ztx hsz1.out hll.out k3.out
   case done =>
    rintro v A hI hF hd
    have HBK:=Zh hI.1
    have HFO:=Zh hI.2.1
    have HBD:=Zh hI.2.2
    obtain ⟨⟨a1,c1,hzr,hown⟩,hkp,hns,hbw,hr4,hr5⟩:=hI.1
    have HBW:=Zh hbw
    have HZR:=Zh hzr
    rw [hs2] at hd
    have HMK:Hid (∀ w1,Only (fun b=>b = rp) A w1 -> ∀ r ∈ (fb + 2) :: ns,w.heap.size <= r /\ w1.heap[r]? = some (.deferred (some []))):=fun w1 ho r hr=>by
     rcases List.mem_cons.1 hr with rfl | hr
     ·exact ⟨by omega,Zac hd ho (fun e=>by have e:fb + 2 = rp:=e;omega)⟩
     ·exact ⟨by have:=(HNSB.out r hr).1;omega,Zac (hns r hr).2 ho (fun e=>by have e:r = rp:=e;have:=(HNSB.out r hr).1;omega)⟩
    have HND2:Hid (((fb + 2) :: ns).Nodup):=List.nodup_cons.2 ⟨fun h=>by have:=(HNSB.out _ h).2;omega,HND.out⟩
    have HDD:=Zh hd
    unfold BzFin at hF
    cases E with
    | none=>cases hF
    | some a2 =>
     have HRDA:=Zh hF.2
     have HFO2:=Zh (Zzc keep F L)
     obtain ⟨fo,hfo⟩:∃ fo,(stF keep F L L.length).2 = fo:=⟨_,rfl⟩
     rw [hfo] at HFO
     have QF:=Zh (cell_of_one HFO.out)
     have HFOE:=Zh hfo
     have HEND:Hid (at_ + L.length < a2):=by
      unfold Hid;rw [HLE.out];exact Zub _ _ _ HEE.out.symm
     obtain rfl:=HN0.out
     clear hI hF hd hzr hown hkp hns hbw hfo HI0 HYL
     subst hact
     go_wp2_with fail
     by_cases h32:a2 + 32 <= 8 * bs.length
     case neg =>
      have HGET:=Zh (Zaq A.drew rp bs a2 32 (by decide) HRDA.out (by omega))
      have HRN:Hid (R = none):=by
       unfold Hid;rw [HRG2.out];unfold bzG;rw [<- HEE.out]
       show (numG (rv bs) a2 32).bind _ = none
       rw [Zce h32];rfl
      refine Zbb [70,71,72,73,74,75,76] (fun j=>false) (fun listed w1=>(if listed.getD 1 false = true then Only (fun b=>b = rp) A w1 else w1 = A.drew) /\ listed.getD 4 false = false) (fun j v _=>match j with | 0=>v = .pointer (some ⟨rp,0,none⟩) | 1=>v = .tuple #[.int .u32 0,.int .i64 2] | 2=>v = .int .u32 0 | 3=>v = .int .i64 2 | 5=>v = .int .u32 (fo:Nat) | _=>True) (fun _ _ _ _=>True) (by kernel_rfl) (by kernel_rfl) (OneEach.mk' (by kernel_rfl) (by kernel_rfl)) (by kernel_rfl) (by kernel_rfl) ⟨by simp,by simp⟩ ?_ ?_
      ·intro i0 o hi0 listed a1 w1 hR hil hunf hdes hanc hout hdf hdep
       have hsz:i0 < 7:=(Array.getElem?_eq_some_iff.1 hi0).1
       have hall:i0 = 0 \/ i0 = 1 \/ i0 = 2 \/ i0 = 3 \/ i0 = 4 \/ i0 = 5 \/ i0 = 6:=by omega
       clear hsz
       rcases hall with rfl | rfl | rfl | rfl | rfl | rfl | rfl <;> simp only [List.getElem?_toArray,List.getElem?_cons_zero,List.getElem?_cons_succ,Option.some.injEq] at hi0 <;> subst hi0
       ·have f6:a1.eval (.tmp 6) = .pointer (some ⟨rp,0,none⟩):=hout 6 (by decide)
        refine Zab (v:=.pointer (some ⟨rp,0,none⟩)) (w':=w1) (by simp [execOp,f6]) ⟨_,rfl,?_,fun j u hu hV _=>⟨hV,trivial,trivial⟩,rfl⟩
        rw [Zaa (by decide),Zaa (by decide)];exact hR
       ·have e70:a1.eval (.tmp 70) = .pointer (some ⟨rp,0,none⟩):=hdep ⟨0,.data⟩ (by simp) rfl _ rfl
        have x70:a1.tmps[70]?.getD undef = .pointer (some ⟨rp,0,none⟩):=by simpa [Act.eval] using e70
        have hst:=hR.2
        replace hR:=hR.1
        rw [hunf,if_neg (by decide)] at hR
        subst hR
        refine Zan (f:=33) (args:=#[.pointer (some ⟨rp,0,none⟩),.int .i64 32]) (by simp [x70,go_sem]) ((HGET.out).mono ?_)
        rintro e w6 ⟨rfl,n6,rfl⟩
        refine ⟨_,rfl,_,rfl,?_,fun j u hu hV _=>⟨hV,trivial,trivial⟩,rfl⟩
        refine ⟨?_,by rw [Zaa (by decide)];exact hst⟩
        rw [Zag hil,if_pos rfl]
        exact ((Only.refl _ A).drew).trans (Zah _ _ _)
       ·have e71:a1.eval (.tmp 71) = .tuple #[.int .u32 0,.int .i64 2]:=hdep ⟨1,.data⟩ (by simp) rfl _ rfl
        refine Zab (v:=.int .u32 0) (w':=w1) (by simp [execOp,e71,exT0]) ⟨_,rfl,?_,fun j u hu hV _=>⟨hV,trivial,trivial⟩,rfl⟩
        rw [Zaa (by decide),Zaa (by decide)];exact hR
       ·have e71:a1.eval (.tmp 71) = .tuple #[.int .u32 0,.int .i64 2]:=hdep ⟨1,.data⟩ (by simp) rfl _ rfl
        refine Zab (v:=.int .i64 2) (w':=w1) (by simp [execOp,e71,exT1]) ⟨_,rfl,?_,fun j u hu hV _=>⟨hV,trivial,trivial⟩,rfl⟩
        rw [Zaa (by decide),Zaa (by decide)];exact hR
       ·have e72:a1.eval (.tmp 72) = .int .u32 0:=hdep ⟨2,.data⟩ (by simp) rfl _ rfl
        have x72:a1.tmps[72]?.getD undef = .int .u32 0:=by simpa [Act.eval] using e72
        have e73:a1.eval (.tmp 73) = .int .i64 2:=hdep ⟨3,.data⟩ (by simp) rfl _ rfl
        have x73:a1.tmps[73]?.getD undef = .int .i64 2:=by simpa [Act.eval] using e73
        refine Zcb (ch:=formP) (f:=32) (args:=#[.int .u32 0,.int .i64 2]) (by simp [x72,x73,go_sem]) ?_
        refine (Zik (.int .u32 0) 2 (by decide) w1).mono ?_
        rintro e w6 ⟨rfl,rfl⟩
        refine ⟨rfl,?_⟩
        replace hR:=hR.1
        rw [hanc 1 (by kernel_rfl),if_pos rfl] at hR
        have h4':a1.tmps.getD 4 undef = .pointer (some ⟨w.heap.size + 1,0,none⟩):=by have:=hout 4 (by decide);simpa [Act.eval] using this
        have h5':a1.tmps.getD 5 undef = .pointer (some ⟨w.heap.size + 1 + 1,0,none⟩):=by have:=hout 5 (by decide);simpa [Act.eval] using this
        obtain ⟨tm,dfs⟩:=a1
        have hdf:dfs = _:=hdf
        subst hdf
        exact Zkz (ns:=(fb + 2) :: ns) HRN.out (HZR.out.only hR (fun e=>by omega) (fun e=>by omega)) (Below.only HBW.out hR (Nat.le_refl _) (fun b e=>by have e:b = rp:=e;omega)) (HMK.out _ hR) HND2.out h4' h5'
       ·have f8:a1.eval (.tmp 8) = .pointer (some ⟨fb,0,none⟩):=hout 8 (by decide)
        have hq:w1.cell? ⟨fb,0,none⟩ = some (.int .u32 (fo:Nat)):=by
         replace hR:=hR.1
         by_cases h1:listed.getD 1 false = true
         ·rw [if_pos h1] at hR;exact Zbk (A:=A) QF.out hR (by show fb ≠ rp;omega)
         ·rw [if_neg h1] at hR
          subst hR
          exact QF.out
        refine Zab (v:=.int .u32 (fo:Nat)) (w':=w1) (by simp only [execOp,f8,Sem.run_bind,ldU32 _ _ _ hq];rfl) ⟨_,rfl,?_,fun j u hu hV _=>⟨hV,trivial,trivial⟩,rfl⟩
        rw [Zaa (by decide),Zaa (by decide)];exact hR
       ·have h4:=hanc 4 (by kernel_rfl)
        rw [hR.2] at h4
        cases h4
      ·intro listed fv w1 hR hall hV
       have h4:=hall 4 (by decide)
       rw [hR.2] at h4
       cases h4
     have HGET:=Zh (Zbn A.drew rp bs a2 32 (by decide) HRDA.out h32)
     have HRN:Hid (R = if (a2 + 32 + 7) / 8 * 8 < nb (rv bs) then bzG (rv bs) keep f ((a2 + 32 + 7) / 8 * 8) { (stF keep F L L.length).1 with wrong:=(stF keep F L L.length).1.wrong || !(numH (rv bs) a2 32 == fo) } else some { (stF keep F L L.length).1 with wrong:=(stF keep F L L.length).1.wrong || !(numH (rv bs) a2 32 == fo) }):=by
      unfold Hid
      rw [HRG2.out,Zve HEE.out.symm (Zcf h32) (r:=stF keep F L L.length) (by rw [HFO2.out,HLE.out]),HFOE.out]
     have hx:=Zbq (rv bs) a2 32
     generalize numH (rv bs) a2 32 = x at *
     refine Zbb [70,71,72,73,74,75,76] (fun j=>j == 6) (fun listed w1=>if listed.getD 1 false = true then (RdM w1 rp bs (a2 + 32) /\ Only (fun b=>b = rp) A w1) else w1 = A.drew) (fun j v _=>match j with | 0=>v = .pointer (some ⟨rp,0,none⟩) | 1=>v = .tuple #[.int .u32 (x:Nat),.int .i64 0] | 2=>v = .int .u32 (x:Nat) | 3=>v = .int .i64 0 | 4=>v = .int .u32 (x:Nat) | 5=>v = .int .u32 (fo:Nat) | 6=>v = .bool (!((x:Int) == (fo:Int))) | _=>True) (fun _ _ _ _=>True) (by kernel_rfl) (by kernel_rfl) (OneEach.mk' (by kernel_rfl) (by kernel_rfl)) (by kernel_rfl) (by kernel_rfl) (by simp) ?_ ?_
     ·intro i0 o hi0 listed a1 w1 hR hil hunf hdes hanc hout hdf hdep
      have hsz:i0 < 7:=(Array.getElem?_eq_some_iff.1 hi0).1
      have hall:i0 = 0 \/ i0 = 1 \/ i0 = 2 \/ i0 = 3 \/ i0 = 4 \/ i0 = 5 \/ i0 = 6:=by omega
      clear hsz
      rcases hall with rfl | rfl | rfl | rfl | rfl | rfl | rfl <;> simp only [List.getElem?_toArray,List.getElem?_cons_zero,List.getElem?_cons_succ,Option.some.injEq] at hi0 <;> subst hi0
      ·have f6:a1.eval (.tmp 6) = .pointer (some ⟨rp,0,none⟩):=hout 6 (by decide)
       refine Zab (v:=.pointer (some ⟨rp,0,none⟩)) (w':=w1) (by simp [execOp,f6]) ⟨_,rfl,?_,fun j u hu hV _=>⟨hV,trivial,trivial⟩,rfl⟩
       rw [Zaa (by decide)];exact hR
      ·have e70:a1.eval (.tmp 70) = .pointer (some ⟨rp,0,none⟩):=hdep ⟨0,.data⟩ (by simp) rfl _ rfl
       have x70:a1.tmps[70]?.getD undef = .pointer (some ⟨rp,0,none⟩):=by simpa [Act.eval] using e70
       rw [hunf,if_neg (by decide)] at hR
       subst hR
       refine Zan (f:=33) (args:=#[.pointer (some ⟨rp,0,none⟩),.int .i64 32]) (by simp [x70,go_sem]) ((HGET.out).mono ?_)
       rintro e w6 ⟨rfl,hr6,ho6⟩
       refine ⟨_,rfl,_,rfl,?_,fun j u hu hV _=>⟨hV,trivial,trivial⟩,rfl⟩
       rw [Zag hil,if_pos rfl]
       exact ⟨hr6,((Only.refl _ A).drew).trans ho6⟩
      ·have e71:a1.eval (.tmp 71) = .tuple #[.int .u32 (x:Nat),.int .i64 0]:=hdep ⟨1,.data⟩ (by simp) rfl _ rfl
       refine Zab (v:=.int .u32 (x:Nat)) (w':=w1) (by simp [execOp,e71,exT0]) ⟨_,rfl,?_,fun j u hu hV _=>⟨hV,trivial,trivial⟩,rfl⟩
       rw [Zaa (by decide)];exact hR
      ·have e71:a1.eval (.tmp 71) = .tuple #[.int .u32 (x:Nat),.int .i64 0]:=hdep ⟨1,.data⟩ (by simp) rfl _ rfl
       refine Zab (v:=.int .i64 0) (w':=w1) (by simp [execOp,e71,exT1]) ⟨_,rfl,?_,fun j u hu hV _=>⟨hV,trivial,trivial⟩,rfl⟩
       rw [Zaa (by decide)];exact hR
      ·have e72:a1.eval (.tmp 72) = .int .u32 (x:Nat):=hdep ⟨2,.data⟩ (by simp) rfl _ rfl
       have x72:a1.tmps[72]?.getD undef = .int .u32 (x:Nat):=by simpa [Act.eval] using e72
       have e73:a1.eval (.tmp 73) = .int .i64 0:=hdep ⟨3,.data⟩ (by simp) rfl _ rfl
       have x73:a1.tmps[73]?.getD undef = .int .i64 0:=by simpa [Act.eval] using e73
       refine Zan (f:=32) (args:=#[.int .u32 (x:Nat),.int .i64 0]) (by simp [x72,x73,go_sem]) ((Zil _ w1).mono ?_)
       rintro e w6 ⟨rfl,h6⟩
       rw [h6]
       refine ⟨_,rfl,_,rfl,?_,fun j u hu hV _=>⟨hV,trivial,trivial⟩,rfl⟩
       rw [Zaa (by decide)];exact hR
      ·have f8:a1.eval (.tmp 8) = .pointer (some ⟨fb,0,none⟩):=hout 8 (by decide)
       have hq:w1.cell? ⟨fb,0,none⟩ = some (.int .u32 (fo:Nat)):=by
        by_cases h1:listed.getD 1 false = true
        ·rw [if_pos h1] at hR;exact Zbk (A:=A) QF.out hR.2 (by show fb ≠ rp;omega)
        ·rw [if_neg h1] at hR
         subst hR
         exact QF.out
       refine Zab (v:=.int .u32 (fo:Nat)) (w':=w1) (by simp only [execOp,f8,Sem.run_bind,ldU32 _ _ _ hq];rfl) ⟨_,rfl,?_,fun j u hu hV _=>⟨hV,trivial,trivial⟩,rfl⟩
       rw [Zaa (by decide)];exact hR
      ·have e74:a1.eval (.tmp 74) = .int .u32 (x:Nat):=hdep ⟨4,.data⟩ (by simp) rfl _ rfl
       have e75:a1.eval (.tmp 75) = .int .u32 (fo:Nat):=hdep ⟨5,.data⟩ (by simp) rfl _ rfl
       refine Zab (v:=.bool (!((x:Int) == (fo:Int)))) (w':=w1) (by simp only [execOp,e74,e75,Sem.run_bind,eqgN,neqU];rfl) ⟨_,rfl,?_,fun j u hu hV _=>⟨hV,trivial,trivial⟩,rfl⟩
       rw [Zaa (by decide)];exact hR
     ·intro listed fv w1 hR hall hV
      rw [if_pos (hall 1 (by decide))] at hR
      have h76:fv 76 = .bool (!((x:Int) == (fo:Int))):=hV 6 _ rfl rfl
      simp only [spread,List.contains_cons,List.contains_nil,Nat.reduceBEq,Bool.or_false,Bool.or_true,cond_true,cond_false,Nat.reduceAdd,Nat.zero_add]
      rw [h76]
      have HRD4:=Zh hR.1
      have HO4:=Zh hR.2
      clear hR hall hV h76
      have HBK4:=Zh ((HBK.out.mark (r:=fb + 2) (by omega) HDD.out).only HO4.out (fun b e=>by have e:b = rp:=e;omega) (fun r hr e=>by
       have e:r = rp:=e
       rcases List.mem_cons.1 hr with h | h
       ·omega
       ·have:=(HNSB.out r h).1;omega) (fun g cs fr e hg=>by have e:g = rp:=e;omega))
      have HRN2:Hid (∀ r ∈ (fb + 2) :: ns,rp < r):=fun r hr=>by
       rcases List.mem_cons.1 hr with h | h
       ·omega
       ·exact (HNSB.out r h).1
      obtain ⟨F2,hF2⟩:∃ F2:BzF,F2 = { (stF keep F L L.length).1 with wrong:=(stF keep F L L.length).1.wrong || !(x == fo) }:=⟨_,rfl⟩
      rw [<- hF2] at HRN
      have HF2:=Zh hF2
      clear hF2
      obtain ⟨d,hd⟩:∃ d,(!((x:Int) == (fo:Int))) = d:=⟨_,rfl⟩
      rw [hd]
      by_cases hxf:x = fo
      ·obtain rfl:d = false:=by rw [<- hd];simp [hxf]
       have HBK5:Hid (BzK w keep rp ((fb + 2) :: ns) F2 w1):=by
        unfold Hid
        rw [HF2.out,show (x == fo) = true by simpa using hxf]
        simpa using HBK4.out
       have HRD5:=HRD4
       clear hxf HBK4 HRD4 hd
       go_wp2_with fail
       refine (Zll w1 rp bs (a2 + 32) HRD5.out).mono ?_
       rintro e w5 ⟨rfl,hrd5,ho5⟩
       have HRD6:=Zh hrd5
       have HBK6:=Zh (HBK5.out.only ho5 (fun b e=>by have e:b = rp:=e;omega) (fun r hr e=>by have e:r = rp:=e;have:=(HRN2.out r hr);omega) (fun g cs fr e hg=>by have e:g = rp:=e;omega))
       clear hrd5 ho5
       obtain ⟨a3,ha3⟩:∃ a3,(a2 + 32 + 7) / 8 * 8 = a3:=⟨_,rfl⟩
       rw [ha3] at HRN HRD6
       have HA3:Hid (at_ < a3 /\ a2 <= a3):=by unfold Hid;have:=HEND.out;omega
       clear ha3
       go_wp2_with fail
       refine (Zhe w5 rp bs a3 HRD6.out).mono ?_
       rintro e w6 ⟨rfl,q6,rfl⟩
       have HRD7:Hid (RdM (w5.drewN q6) rp bs a3):=HRD6.out.drewN q6
       have HBK7:=Zh (HBK6.out.only (Zah (fun _=>False) _ q6) (fun b h=>h.elim) (fun r hr h=>h) (fun g cs fr h _=>h.elim))
       have HMS:Hid (8 * bs.length + 1 - rdAt rp (w5.drewN q6) < 8 * bs.length + 1 - rdAt rp W):=by
        unfold Hid
        rw [HRD7.out.rdAt,HRDW.out.rdAt]
        have:=HRD7.out.le
        have:=HA3.out
        omega
       have HSZ:Hid (F2.size <= 255000000 * a3):=by
        unfold Hid
        have:=HBD.out.2.1
        have:=HFS.out
        have:=HEND.out
        have:=HA3.out
        have e:F2.size = (stF keep F L L.length).1.size:=by rw [HF2.out]
        omega
       have HBL:Hid (F2.bytes.length <= keep):=by
        unfold Hid
        have e:F2.bytes = (stF keep F L L.length).1.bytes:=by rw [HF2.out]
        rw [e];exact HBD.out.1
       have HNB:Hid (nb (rv bs) = 8 * bs.length):=by unfold Hid nb;rw [Zap]
       obtain ⟨k,hk⟩:∃ k,8 * bs.length - a3 = k:=⟨_,rfl⟩
       rw [hk]
       have HK3:=Zh hk
       clear hk HRD6 HBK6 HBK5 HRD5
       by_cases hk0:0 < k
       ·have t9:decide ((0:Int) < (k:Int)) = true:=by simp;omega
        have HRF:Hid (R = bzG (rv bs) keep f a3 F2 /\ nb (rv bs) + 1 <= f + a3):=by
         unfold Hid
         have h1:=HRN.out
         rw [if_pos (by rw [HNB.out];have:=HK3.out;omega)] at h1
         exact ⟨h1,by have:=HFU.out;have:=HA3.out;omega⟩
        go_wp2_with fail
        exact ⟨⟨_,true,(fb + 2) :: ns,a3,f,F2,rfl,rfl,rfl,HRD7.out,HBK7.out,HND2.out,HBL.out,HSZ.out,HRF.out⟩,HMS.out⟩
       ·have t9:decide ((0:Int) < (k:Int)) = false:=by simp;omega
        have HRF:Hid (R = some F2):=by
         unfold Hid
         have h1:=HRN.out
         rw [if_neg (by rw [HNB.out];have:=HK3.out;omega)] at h1
         exact h1
        go_wp2_with fail
        exact ⟨⟨_,false,(fb + 2) :: ns,a3,f,F2,rfl,rfl,rfl,HRD7.out,HBK7.out,HND2.out,HBL.out,HSZ.out,HRF.out⟩,HMS.out⟩
      ·obtain rfl:d = true:=by rw [<- hd];simp;omega
       obtain ⟨⟨a5,c5,⟨hz5,_⟩,_⟩,_⟩:=HBK4.out
       obtain ⟨p0,p1,p2,p3,_,_⟩:=Zaf hz5
       obtain ⟨r0,r1,r2,r3⟩:=Zal hz5
       have HBK5:Hid (BzK w keep rp ((fb + 2) :: ns) F2 (w1.setCell ⟨w.heap.size + 1,3,none⟩ (.bool true))):=by
        unfold Hid
        rw [HF2.out,show (x == fo) = false by simpa using hxf]
        simpa using HBK4.out.wrong
       have HRD5:=Zh (HRD4.out.only2 ((Only.refl (fun b=>b = w.heap.size + 1) w1).setCell (p:=⟨w.heap.size + 1,3,none⟩) (.inl rfl) (.bool true)) (by show ¬ rp = w.heap.size + 1;omega) (fun b hb e=>by have e:b = w.heap.size + 1:=e;omega))
       clear hxf HBK4 HRD4 hz5 hd
       go_wp2_with fail
       clear p0 p1 p2 p3 r0 r1 r2 r3
       generalize w1.setCell ⟨w.heap.size + 1,3,none⟩ (.bool true) = w7 at *
       refine (Zll w7 rp bs (a2 + 32) HRD5.out).mono ?_
       rintro e w5 ⟨rfl,hrd5,ho5⟩
       have HRD6:=Zh hrd5
       have HBK6:=Zh (HBK5.out.only ho5 (fun b e=>by have e:b = rp:=e;omega) (fun r hr e=>by have e:r = rp:=e;have:=(HRN2.out r hr);omega) (fun g cs fr e hg=>by have e:g = rp:=e;omega))
       clear hrd5 ho5
       obtain ⟨a3,ha3⟩:∃ a3,(a2 + 32 + 7) / 8 * 8 = a3:=⟨_,rfl⟩
       rw [ha3] at HRN HRD6
       have HA3:Hid (at_ < a3 /\ a2 <= a3):=by unfold Hid;have:=HEND.out;omega
       clear ha3
       go_wp2_with fail
       refine (Zhe w5 rp bs a3 HRD6.out).mono ?_
       rintro e w6 ⟨rfl,q6,rfl⟩
       have HRD7:Hid (RdM (w5.drewN q6) rp bs a3):=HRD6.out.drewN q6
       have HBK7:=Zh (HBK6.out.only (Zah (fun _=>False) _ q6) (fun b h=>h.elim) (fun r hr h=>h) (fun g cs fr h _=>h.elim))
       have HMS:Hid (8 * bs.length + 1 - rdAt rp (w5.drewN q6) < 8 * bs.length + 1 - rdAt rp W):=by
        unfold Hid
        rw [HRD7.out.rdAt,HRDW.out.rdAt]
        have:=HRD7.out.le
        have:=HA3.out
        omega
       have HSZ:Hid (F2.size <= 255000000 * a3):=by
        unfold Hid
        have:=HBD.out.2.1
        have:=HFS.out
        have:=HEND.out
        have:=HA3.out
        have e:F2.size = (stF keep F L L.length).1.size:=by rw [HF2.out]
        omega
       have HBL:Hid (F2.bytes.length <= keep):=by
        unfold Hid
        have e:F2.bytes = (stF keep F L L.length).1.bytes:=by rw [HF2.out]
        rw [e];exact HBD.out.1
       have HNB:Hid (nb (rv bs) = 8 * bs.length):=by unfold Hid nb;rw [Zap]
       obtain ⟨k,hk⟩:∃ k,8 * bs.length - a3 = k:=⟨_,rfl⟩
       rw [hk]
       have HK3:=Zh hk
       clear hk HRD6 HBK6 HBK5 HRD5
       by_cases hk0:0 < k
       ·have t9:decide ((0:Int) < (k:Int)) = true:=by simp;omega
        have HRF:Hid (R = bzG (rv bs) keep f a3 F2 /\ nb (rv bs) + 1 <= f + a3):=by
         unfold Hid
         have h1:=HRN.out
         rw [if_pos (by rw [HNB.out];have:=HK3.out;omega)] at h1
         exact ⟨h1,by have:=HFU.out;have:=HA3.out;omega⟩
        go_wp2_with fail
        exact ⟨⟨_,true,(fb + 2) :: ns,a3,f,F2,rfl,rfl,rfl,HRD7.out,HBK7.out,HND2.out,HBL.out,HSZ.out,HRF.out⟩,HMS.out⟩
       ·have t9:decide ((0:Int) < (k:Int)) = false:=by simp;omega
        have HRF:Hid (R = some F2):=by
         unfold Hid
         have h1:=HRN.out
         rw [if_neg (by rw [HNB.out];have:=HK3.out;omega)] at h1
         exact h1
        go_wp2_with fail
        exact ⟨⟨_,false,(fb + 2) :: ns,a3,f,F2,rfl,rfl,rfl,HRD7.out,HBK7.out,HND2.out,HBL.out,HSZ.out,HRF.out⟩,HMS.out⟩
   case pan =>
    rintro ch A hI hF hd
    obtain ⟨⟨a1,c1,hzr,hown⟩,hkp,hns,hbw,hr4,hr5⟩:=hI.1
    unfold BzFin at hF
    cases E with
    | some a2=>obtain ⟨⟨v,hv⟩,_⟩:=hF;cases hv
    | none =>
     cases hF
     rw [hs2] at hd ⊢
     have hRN:R = none:=by rw [HRG2.out];exact Zvd HEE.out.symm
     obtain rfl:=HN0.out
     subst hact
     exact Zkz (ns:=(fb + 2) :: ns) hRN hzr hbw (fun r hr=>by
      rcases List.mem_cons.1 hr with rfl | hr
      ·exact ⟨by omega,hd⟩
      ·exact ⟨by have:=(HNSB.out r hr).1;omega,(hns r hr).2⟩) (List.nodup_cons.2 ⟨fun h=>by have:=(HNSB.out _ h).2;omega,HND.out⟩) rfl rfl
end Go.Proofs.Ytnkpnjnfddjfpaa
