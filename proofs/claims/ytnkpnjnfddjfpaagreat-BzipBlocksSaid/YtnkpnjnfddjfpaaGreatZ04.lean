/- layer 28's law BzipKnown. -/
import Derived.Test.YtnkpnjnfddjfpaaGreatZ01
import Derived.Test.YtnkpnjnfddjfpaaGreatZ03
set_option linter.unusedVariables false
set_option linter.unusedSimpArgs false
namespace Go.Proofs.YtnkpnjnfddjfpaaGreat
open Go.RowKit
theorem Zfh {room:Nat} {l:List Nat} (h5:5 <= room) (h:l ≠ []):1 <= (M20.ends room l).length:=by
 rw [M20.Zbe h5 h,List.length_cons];omega
set_option maxRecDepth 100000 in
set_option maxHeartbeats 6400000 in
theorem Zdh (w:World):Calls Tryz.prog 7 #[] w fun e w'=>e = .returned (.bool true) /\ Below w.heap.size w w':=by
 have hlit:({ data:=#[66,90,104,57,23,114,69,56,80,144,0,0,0,0] }:ByteArray) = strOf (nilF 9):=by kernel_rfl
 have HLIT:=Zh hlit
 clear hlit
 go_enter Tryz.func7,Tryz.ntmps7
 go_wp2_with fail
 refine (Zdq _ _ _ _ 10 (by decide)).mono ?_
 rintro e w1 ⟨rfl,rfl⟩
 go_wp2_with fail
 refine (Zby _ _ _ _ 0 (by decide)).mono ?_
 rintro e w1 ⟨rfl,rfl⟩
 go_wp2_with fail
 refine (Zby _ _ _ _ 10 (by decide)).mono ?_
 rintro e w1 ⟨rfl,rfl⟩
 go_wp2_with fail
 refine (Zem _).mono ?_
 rintro e w2 ⟨gd,cd,rfl,hrd,hbd⟩
 have HRD:=Zh hrd
 have HBD:=Zh hbd
 clear hrd hbd
 go_wp2_with (at_make;refine makeN Zcr rfl _ _ rfl w2.heap.size rfl rfl (by decide) (by decide) (Nat.le_refl _) ?_;intro w3 hown hg)
 obtain ⟨tl0,htl0⟩:∃ tl0,tl0 = List.replicate 120000 0:=⟨_,rfl⟩
 rw [<- htl0] at hown
 have hlen0:tl0.length = 120000:=by rw [htl0,List.length_replicate]
 have hlt0:∀ x ∈ tl0,x < 256:=fun x hx=>by rw [htl0] at hx;rw [List.eq_of_mem_replicate hx];decide
 clear htl0
 have hg3:w2.heap.size < w3.heap.size:=by
  rcases hown.form with ⟨h,_⟩ | ⟨g',h,_,h2⟩
  ·cases h
  ·cases h;exact h2
 have HB3:=Zh (HBD.out.trans ((Below.of_grown hg (Nat.le_refl _) (fun k e=>by cases e)).mono HBD.out.size))
 have HRD3:=Zh (HRD.out.below (Below.of_grown hg (Nat.le_refl _) (fun k e=>by cases e)))
 have HRDB:Hid (∀ x,0 < (nilF 9).length -> gd = some x -> x.block < w2.heap.size):=fun x h0 hx=>by
  obtain ⟨b,off,he,hlt,_⟩:=HRD.out.at h0
  rw [hx] at he;cases he;exact hlt
 obtain ⟨g,hgg⟩:∃ g,w2.heap.size = g:=⟨_,rfl⟩
 rw [hgg] at hown hg3 HRDB ⊢
 have HO3:=Zh hown
 have HBG:Hid (w1.heap.size <= g):=by rw [<- hgg];exact HBD.out.size
 have HL0:=Zh hlen0
 have HLT0:=Zh hlt0
 clear hown hg HRD HBD hgg hlen0 hlt0
 obtain ⟨M,hM⟩:∃ M,M = 120000:=⟨_,rfl⟩
 replace hM:=Zh hM
 go_loopw [10] (fun c A=>∃ (i:Nat) (tl:List Nat),i <= 120000 /\ c = .int .i64 (i:Nat) /\ Hid (tl.length = 120000) /\ Hid (∀ x ∈ tl,x < 256) /\ OwnN 5 .u8 A g (some ⟨g,0,none⟩) 120000 tl /\ Only (fun b=>b = g) w3 A) (fun c _=>M - (intOf c).toNat)
 case atStart=>exact ⟨0,tl0,Nat.zero_le _,rfl,HL0,HLT0,HO3.out,Only.refl _ _⟩
 case round =>
  clear HL0 HLT0 HO3
  obtain ⟨i,tl,hi,rfl,HTL,HTB,hown,ho⟩:=hrel
  have HOWN:=Zh hown
  have HO:=Zh ho
  by_cases hlt:i < 120000
  ·have t2:decide ((i:Int) < 120000) = true:=by simp;omega
   obtain ⟨sq,hsq⟩:∃ sq,i * i = sq:=⟨_,rfl⟩
   have hsqb:sq <= 14400000000:=by rw [<- hsq];exact Nat.le_trans (Nat.mul_le_mul hi hi) (by decide)
   have hsqi:(i:Int) * (i:Int) = (sq:Int):=by rw [<- hsq];exact (Int.natCast_mul i i).symm
   have hsqw:IntKind.i64.wrap ((i:Int) * (i:Int)) = (sq:Int):=by rw [hsqi];exact IntWalk.i64_in _ (by omega)
   obtain ⟨q,hq⟩:∃ q,sq / 77 = q:=⟨_,rfl⟩
   have hq1:Int.tdiv (sq:Int) 77 = (q:Int):=by rw [<- hq];rfl
   have hq2:(sq:Int) / 77 = (q:Int):=by omega
   have hqw:IntKind.i64.wrap (q:Int) = (q:Int):=IntWalk.i64_in _ (by omega)
   obtain ⟨c,hc⟩:∃ c,q % 256 = c:=⟨_,rfl⟩
   have hc1:(q:Int) % 256 = (c:Int):=by omega
   obtain ⟨v,hv⟩:∃ v,c % 5 = v:=⟨_,rfl⟩
   have hv1:Int.tmod (c:Int) 5 = (v:Int):=by rw [<- hv];rfl
   have hv2:(c:Int) % 5 = (v:Int):=by omega
   have hv5:v < 5:=by omega
   have hvw:(v:Int) % 256 = (v:Int):=by omega
   obtain ⟨g',he,_,_,hcl,hfr⟩:=hown.at (i:=i) (by rw [HTL.out];exact hlt)
   cases he
   have hiw:IntKind.i64.wrap ((i:Int) + 1) = ((i + 1:Nat):Int):=by rw [IntWalk.i64_in _ (by omega)];omega
   have HS4:=Zh (hown.stored i v).1
   have HO4:=Zh (ho.setCell (p:=⟨g,i,none⟩) (.inl rfl) (.int .u8 (v:Nat)))
   obtain ⟨x,hx⟩:∃ x,tl[i]'(by rw [HTL.out];exact hlt) = x:=⟨_,rfl⟩
   rw [hx] at hcl
   clear hx
   clear hown ho hsq hq hc hv hsqi hsqb
   go_wp2_with fail
   go_roundw
   case rel=>exact ⟨i + 1,tl.set i v,by omega,by go_num,by unfold Hid;rw [List.length_set];exact HTL.out,fun y hy=>by
    rcases List.mem_or_eq_of_mem_set hy with h | h
    ·exact HTB.out y h
    ·rw [h];omega,HS4.out,HO4.out⟩
   case measure =>
    have hlM:i < M:=by rw [hM.out];exact hlt
    clear hlt hi
    simp [intOf];omega
  ·obtain rfl:i = 120000:=by omega
   have hr:=hown.row
   have hne:tl ≠ []:=fun e=>by have:=HTL.out;rw [e] at this;simp at this
   have HBL1:=Zh (Zat wr (some ⟨g,0,none⟩) 120000 tl 1 hr HTB.out (by rw [HTL.out];decide) (by decide) (by decide))
   have HE1:=Zh (Zfh (room:=1 * 100000 - 19) (by decide) hne)
   have HE2:=Zh (Zdt (room:=2 * 100000 - 19) (by decide) hne (by rw [HTL.out];decide))
   rw [HTL.out] at HBL1
   have HRW:=Zh hr
   have HBW:=Zh (Below.only HB3.out ho (Nat.le_refl _) (fun b t=>by have:=HBG.out;omega))
   have HRDW:=Zh (RowN.same HRD3.out ho.size (fun x h0 hx=>ho.block _ (by have:=HRDB.out x h0 hx;omega) (fun t=>by have:=HRDB.out x h0 hx;omega)))
   clear hown ho HOWN HO hr hne HB3 HRD3 hlt
   have HMK:=Zh (fun A (h:Below wr.heap.size wr A)=>(Zat A (some ⟨g,0,none⟩) 120000 tl 2 (HRW.out.below h) HTB.out (by rw [HTL.out];decide) (by decide) (by decide)))
   rw [HTL.out] at HMK
   go_wp2_with fail
   refine HBL1.out.mono ?_
   rintro e w4 ⟨xa,xc,es,rfl,_,hel,_,hb4⟩
   rw [<- hel] at HE1
   have HBL2:=Zh (HMK.out w4 hb4)
   have HB4:=Zh (HBW.out.trans (hb4.mono HBW.out.size))
   have HRD4:=Zh (HRDW.out.below hb4)
   clear hel hb4 HMK HBL1 HBW HRDW HRW
   go_wp2_with fail
   refine HBL2.out.mono ?_
   rintro e w5 ⟨ya,yc,fs,rfl,_,hfl,_,hb5⟩
   rw [HE2.out,List.length_singleton] at hfl
   rw [hfl]
   have HB5:=Zh (HB4.out.trans (hb5.mono HB4.out.size))
   have hcv1:=Zbd (n:=14) Tryz.underlying22 Tryz.underlying5 Tryz.underlying9 rfl (HRD4.out.below hb5)
   have hl1:=HLIT.out
   obtain ⟨s1,hs1⟩:∃ s,strOf (nilF 9) = s:=⟨_,rfl⟩
   rw [hs1] at hcv1 hl1
   have tl1:(s1.toList == s1.toList) = true:=by simp
   have he1:=HE1.out
   have te1:decide ((1:Int) <= (es.length:Int)) = true:=by simp;omega
   have te1':decide (1 <= es.length) = true:=by simp;omega
   clear hb5 hfl hs1 HB4 HRD4 HBL2 HE1 HE2 HLIT HTL HTB he1
   go_wp2_with fail
   refine (Zbv _).mono ?_
   rintro e w6 ⟨rfl,hb6⟩
   have HB6:=Zh (HB5.out.trans (hb6.mono HB5.out.size))
   clear hb6 HB5
   go_wp2
   go_ret
   exact ⟨rfl,HB6.out⟩
end Go.Proofs.YtnkpnjnfddjfpaaGreat
