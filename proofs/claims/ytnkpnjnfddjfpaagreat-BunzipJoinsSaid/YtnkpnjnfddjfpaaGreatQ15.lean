/- pressworkref27.File: contract. bunzip.Bunzip: the deferred closure. A region whose order is drawn and that holds guarded operations: each that is wanted leaves its own value (as Flow, with the guards' values kept). A list of 76 values, taken apart. bunzip.Bunzip: what stays from stream to stream. pressworkref27.Bunzip: contract. A region that leaves seventeen slots; the rest of the frame stays. A drawn region with guards, inside a round: operations may be passed over. -/
import Derived.Test.YtnkpnjnfddjfpaaGreatQ09
import Derived.Test.YtnkpnjnfddjfpaaGreatQ14
import Derived.Test.YtnkpnjnfddjfpaaGreatQ10
import Derived.Test.YtnkpnjnfddjfpaaGreatQ11
import Derived.Test.YtnkpnjnfddjfpaaGreatQ07
import Derived.Test.YtnkpnjnfddjfpaaGreatQ01
set_option linter.unusedVariables false
set_option linter.unusedSimpArgs false
namespace Go.Proofs.YtnkpnjnfddjfpaaGreat
open Go.RowKit M01 M02 M04 M06 M10 M27
def ofB (l:List Nat):List Nat:=bitL (rv l)
theorem Zkr (l:List Nat):(ofB l).length = 8 * l.length:=by unfold ofB;rw [Zbo,Zba]
theorem Zhe (n k:Nat) (h:0 < n):lengthsG (List.replicate n k) = hbits k 5 ++ List.replicate n 0:=by
 have aux:∀ m,lensR k (List.replicate m k) = List.replicate m 0:=by
  intro m
  induction m with
  | zero=>rfl
  | succ m ih=>rw [List.replicate_succ,lensR,Zmv,ih,List.replicate_succ];rfl
 unfold lengthsG
 have hd:(List.replicate n k).getD 0 0 = k:=by
  obtain ⟨m,rfl⟩:∃ m,n = m + 1:=⟨n - 1,by omega⟩
  rfl
 rw [hd,aux]
def grpN (b:List Nat):Nat:=((fputG (turnG b).1).2.length + 49) / 50
theorem Zabp {n:Nat} (h:n <= 258):kOf n <= 9:=by
 unfold kOf
 rcases Nat.lt_or_ge 9 ((List.range 20).findIdx fun k=>decide (n <= 2 ^ k)) with h9 | h9
 ·exfalso
  have h2:=List.not_of_lt_findIdx h9
  simp only [List.getElem_range,decide_eq_false_iff_not,Nat.not_le] at h2
  have h3:512 < n:=h2
  omega
 ·exact h9
theorem Zpf (b:List Nat) (sum v first gl:Nat) (hl:b.length <= 1000) (hg:gl <= 300):(rowB b sum v first gl).length <= 15000:=by
 unfold rowB
 have h1:=Zfr (turnG b).1
 rw [Zgj] at h1
 have hk:=Zabp (n:=(fputG (turnG b).1).1.length + 2) (by omega)
 have h2:(mapG (fputG (turnG b).1).1).length <= 272:=by unfold mapG;rw [List.length_append,Zcp];have:=Zgd (fputG (turnG b).1).1 16;omega
 have h3:(selectorsG ((List.range gl).map fun i=>(first + i) % 2)).length <= 15 + 7 * gl:=by
  unfold selectorsG
  rw [List.length_append,Zak]
  have:=Zgg ((List.range gl).map fun i=>(first + i) % 2) [0,1,2,3,4,5] (by decide) (fun x hx=>by
   obtain ⟨y,_,rfl⟩:=List.mem_map.1 hx
   have:(first + y) % 2 < 2:=Nat.mod_lt _ (by decide)
   simp;omega)
  rw [List.length_map,List.length_range] at this
  omega
 have h4:(symB (kOf ((fputG (turnG b).1).1.length + 2)) (fputG (turnG b).1).2).length <= 9 * 1001:=by
  rw [Zlb]
  exact Nat.mul_le_mul hk (by omega)
 rw [Zhe _ _ (by omega)]
 simp only [List.length_append,Zak,List.length_replicate]
 omega
def sumI (t:Int) (i:Nat) (p:List Nat):Nat:=if (i:Int) = t then crcHigh (say p) ^^^ 1 else crcHigh (say p)
def fileR (m:Bool) (t:Int):List (List Nat) -> Nat -> Nat -> List Nat
 | [],i,fold=>ofB endM ++ hbits (if t = (i:Int) then fold ^^^ 1 else fold) 32
 | p :: r,i,fold=>ofB blockM ++ rowG p (sumI t i p) m (i % 2) (grpN (maskIf m p)) ++ fileR m t r (i + 1) (foldS fold (sumI t i p))
theorem Ztz (l:List Nat):∀ x ∈ ofB l,x < 2:=Zkm (rv l)
theorem Zza {n v:Nat} (hv:v < 2):∀ x ∈ List.replicate n v,x < 2:=fun x hx=>by rw [List.eq_of_mem_replicate hx];exact hv
theorem Zcm {a b:List Nat} (ha:∀ x ∈ a,x < 2) (hb:∀ x ∈ b,x < 2):∀ x ∈ a ++ b,x < 2:=fun x hx=>(List.mem_append.1 hx).elim (ha x) (hb x)
theorem Zzz (u:List Nat):∀ x ∈ mapG u,x < 2:=by
 have h1:∀ g n,∀ x ∈ grpL u g n,x < 2:=fun g n x hx=>by
  obtain ⟨k,_,rfl⟩:=List.mem_map.1 hx
  split <;> decide
 have h2:∀ g,∀ x ∈ restL u g,x < 2:=by
  intro g
  induction g with
  | zero=>intro x hx;cases hx
  | succ g ih =>
   unfold restL
   refine Zcm ih fun x hx=>?_
   split at hx
   ·exact h1 _ _ x hx
   ·cases hx
 refine Zcm (fun x hx=>?_) (h2 16)
 obtain ⟨k,_,rfl⟩:=List.mem_map.1 hx
 split <;> decide
theorem Zvi:∀ (l fl:List Nat),∀ x ∈ selR fl l,x < 2
 | [],fl,x,hx=>by cases hx
 | c :: r,fl,x,hx=>by
  unfold selR at hx
  refine Zcm (Zza (by decide)) (fun y hy=>?_) x hx
  rcases List.mem_cons.1 hy with hy | hy
  ·omega
  ·exact Zvi r _ y hy
theorem Zaas (k:Nat) (l:List Nat):∀ x ∈ symB k l,x < 2:=fun x hx=>by
 obtain ⟨s,_,h⟩:=List.mem_flatMap.1 hx
 exact Zcz _ _ x h
theorem Zaal (b:List Nat) (sum v first gl:Nat):∀ x ∈ rowB b sum v first gl,x < 2:=by
 unfold rowB
 rw [Zhe _ _ (by omega)]
 have hL:=Zcm (Zcz (kOf ((fputG (turnG b).1).1.length + 2)) 5) (Zza (n:=(fputG (turnG b).1).1.length + 2) (v:=0) (by decide))
 exact Zcm (Zcm (Zcm (Zcm (Zcm (Zcm (Zcm (Zcm (Zcz _ _) (Zcz _ _)) (Zcz _ _)) (Zzz _)) (Zcz _ _)) (Zcm (Zcz _ _) (Zvi _ _))) hL) hL) (Zaas _ _)
theorem Zoq (m:Bool) (t:Int):∀ (ps:List (List Nat)) (i fold:Nat),∀ x ∈ fileR m t ps i fold,x < 2
 | [],i,fold=>by unfold fileR;exact Zcm (Ztz _) (Zcz _ _)
 | p :: r,i,fold=>by unfold fileR;exact Zcm (Zcm (Ztz _) (Zaal _ _ _ _ _)) (Zoq m t r _ _)
def fileG (level:Nat) (ps:List (List Nat)) (m:Bool) (t:Int):List Nat:=packH (ofB [66,90,104,48 + level] ++ fileR m t ps 0 0)
set_option maxRecDepth 100000 in
set_option maxHeartbeats 6400000 in
theorem Zqy (level:Nat) (pa:Option Addr) (pc:Nat) (es:Es) (m:Bool) (t:Int) (w:World) (hlv:level <= 9) (hps:RowS encSl w pa pc es) (hrs:∀ i (h:i < es.length),RowN .u8 w es[i].1 es[i].2.1 es[i].2.2) (hp:∀ p ∈ es.map (fun t=>t.2.2),0 < p.length /\ p.length <= 1000 /\ ∀ x ∈ p,x < 256) (hn:es.length <= 10) (ht:-1000 <= t /\ t <= 1000) :
  Calls Tryz.prog 30 #[.int .i64 (level:Nat),.slice pa es.length pc,.bool m,.int .i64 t] w fun e w'=>∃ g c,e = .returned (.slice g (fileG level (es.map fun t=>t.2.2) m t).length c) /\ OwnN 5 .u8 w' w.heap.size g c (fileG level (es.map fun t=>t.2.2) m t) /\ Below w.heap.size w w':=by
 have HPS:=Zh hps
 have HRS:=Zh hrs
 have HPP:=Zh hp
 obtain ⟨q,hq⟩:∃ q,w.heap.size = q:=⟨_,rfl⟩
 have HQ:=Zh hq
 rw [hq]
 have HFG:Hid (fileG level (es.map fun t=>t.2.2) m t = packH (ofB [66,90,104,48 + level] ++ fileR m t ((es.map fun t=>t.2.2).drop 0) 0 0)):=rfl
 obtain ⟨P,hP⟩:∃ P,P = ofB [66,90,104,48 + level] ++ fileR m t ((es.map fun t=>t.2.2).drop 0) 0 0:=⟨_,rfl⟩
 rw [<- hP] at HFG
 have HP0:Hid (ofB [66,90,104,48 + level] ++ fileR m t ((es.map fun t=>t.2.2).drop 0) 0 0 = P):=hP.symm
 have HPLT:Hid (∀ x ∈ P,x < 2):=fun x hx=>by
  rw [hP] at hx
  rcases List.mem_append.1 hx with hx | hx
  ·exact Ztz _ x hx
  ·exact Zoq m t _ _ _ x hx
 generalize fileG level (es.map fun t=>t.2.2) m t = FG at *
 have HCV1:=Zh (fun (x:Nat) (A:World)=>Zbs (P:=Tryz.prog) (src:=22) (dst:=9) (e:=5) (w:=A.alloc (.cells #[.int .u8 (x:Nat)] 5)) (a:=some ⟨A.heap.size,0,none⟩) (cap:=1) (n:=1) (l:=[x]) Tryz.underlying22 Tryz.underlying5 Tryz.underlying9 rfl (OwnN.lit (k:=.u8) 5 A A.heap.size [x] #[.int .u8 (x:Nat)] A.heap.size rfl rfl (Nat.le_refl _) (by simp [maxLen])).row)
 clear hps hrs hp hq hP
 obtain ⟨lv,hlv2⟩:∃ lv,48 + level = lv:=⟨_,rfl⟩
 have u1:(48:Int) + (level:Int) = (lv:Int):=by omega
 have u2:(lv:Int) % 256 = (lv:Int):=by omega
 rw [hlv2] at HP0
 have hcv:=HCV1.out lv w
 have hbz:ByteArray.mk #[66,90,104] ++ strOf [lv] = strOf [66,90,104,lv]:=(Zek [66,90,104] [lv]).symm
 have HL256:Hid (∀ x ∈ [66,90,104,lv],x < 256):=fun x hx=>by simp at hx;omega
 obtain ⟨c1,w1,hcs,hr1,hb1,hs1⟩:=Zfk (w.alloc (.cells #[.int .u8 (lv:Nat)] 5)) [66,90,104,lv] HL256.out (by simp)
 have hsz:(w.alloc (.cells #[.int .u8 (lv:Nat)] 5)).heap.size = w.heap.size + 1:=by simp
 rw [hsz] at hr1
 have HR1:=Zh hr1
 have HB1:=Zh ((Zai w (.cells #[.int .u8 (lv:Nat)] 5)).trans (hb1.mono (by simp)))
 have HO1:=Zh (Zga _ c1 [66,90,104,lv] w1 hr1 HL256.out (by simp))
 have HW1:Hid (q <= w1.heap.size):=by have:=HQ.out;unfold Hid;omega
 clear hr1 hb1 hs1 hlv2 hsz
 go_enter Tryz.func30,Tryz.ntmps30
 go_wp2_with fail
 refine HO1.out.mono ?_
 rintro e w2 ⟨og,oc,rfl,ho2,hb2⟩
 have HQ0:Hid (Below q w w1):=by rw [<- HQ.out];exact HB1.out
 have HO2:=Zh (OwnS.mono ho2 HW1.out)
 have HE2:=Zh (HQ0.out.trans (hb2.mono HW1.out))
 have HOL2:Hid ((bitL (rv [66,90,104,lv])).length = 32):=Zkr [66,90,104,lv]
 clear ho2 hb2 HO1 HR1 HB1 hcv hbz hcs
 obtain ⟨o2,ho2⟩:∃ o,o = bitL (rv [66,90,104,lv]):=⟨_,rfl⟩
 have HP2:Hid (o2 ++ fileR m t ((es.map fun t=>t.2.2).drop 0) 0 0 = P):=by rw [ho2];exact HP0.out
 rw [<- ho2] at HO2 HOL2 ⊢
 clear ho2 HP0
 obtain ⟨ps,hps⟩:∃ ps,ps = es.map fun t=>t.2.2:=⟨_,rfl⟩
 rw [<- hps] at HP2 HPP
 have HPE:=Zh hps
 have HPL:Hid (ps.length = es.length):=by unfold Hid;rw [hps,List.length_map]
 clear hps
 go_wp2_with fail
 go_loopw [9,10,11] (fun ov fv iv A=>∃ (i fold:Nat) (og:Option Addr) (oc:Nat) (o:List Nat),i <= es.length /\ iv = .int .i64 (i:Nat) /\ fv = .int .u32 (fold:Nat) /\ ov = .slice og o.length oc /\ o.length <= 32 + 16000 * i /\ Hid (fold < 4294967296) /\ Hid (OwnB A q og oc o) /\ Hid (Below q w A) /\ Hid (o ++ fileR m t (ps.drop i) i fold = P)) (fun _ _ iv _=>es.length - (intOf iv).toNat)
 case atStart=>exact ⟨0,0,og,oc,o2,Nat.zero_le _,rfl,rfl,rfl,by rw [HOL2.out];decide,(show 0 < 4294967296 by decide),HO2.out,HE2.out,HP2.out⟩
 case round =>
  clear HO2 HE2 HP2 HOL2
  obtain ⟨i,fold,og,oc,o,hi,rfl,rfl,rfl,hol,HFO,HO,HE,HF⟩:=hrel
  by_cases hlt:i < es.length
  case neg =>
   obtain rfl:i = es.length:=by omega
   have t0:decide (es.length < es.length) = false:=by simp
   have HF2:Hid (o ++ (ofB endM ++ hbits (if t = (es.length:Int) then fold ^^^ 1 else fold) 32) = P):=by
    have h:=HF.out
    rw [List.drop_eq_nil_of_le (by rw [HPL.out];exact Nat.le_refl _),fileR] at h
    exact h
   have HQW:Hid (q <= wr.heap.size):=by have:=HE.out.size;have:=HQ.out;unfold Hid;omega
   have hfo:=HFO.out
   have hcb:=Zfk wr endM (by decide) (by decide)
   obtain ⟨c5,w5,hcs5,hr5,hb5,hs5⟩:=hcb
   have hcs5':(convert 9 22 (.string ⟨#[23,114,69,56,80,144]⟩)).run Tryz.prog wr = .ok (.slice (some ⟨wr.heap.size,0,none⟩) 6 c5) w5:=hcs5
   have HOF5:=Zh (Zga (some ⟨wr.heap.size,0,none⟩) c5 endM w5 hr5 (by decide) (by decide))
   have HE5:=Zh (HE.out.trans (hb5.mono HQW.out))
   have HO5:=Zh (OwnS.below HO.out hb5)
   have HQ5:Hid (q <= w5.heap.size):=by have:=HE5.out.size;have:=HQ.out;unfold Hid;omega
   have HBL:Hid ((bitL (rv endM)).length = 48):=Zkr endM
   clear hcs5 hr5 hb5 hs5 HF
   have hol2:o.length <= 200000:=by omega
   go_wp2_with fail
   refine (Zgc _).mono ?_
   rintro e wq ⟨rfl,hwq⟩
   replace hwq:=hwq.symm
   subst hwq
   go_wp2_with fail
   refine HOF5.out.mono ?_
   rintro e w6 ⟨bg,bc,rfl,hob,hb6⟩
   have HE6:=Zh (HE5.out.trans (hb6.mono HQ5.out))
   have HO6:=Zh (OwnS.below HO5.out hb6)
   have HQ6:Hid (q <= w6.heap.size):=by have:=HE6.out.size;have:=HQ.out;unfold Hid;omega
   have HRB:=Zh (OwnS.row hob)
   clear hob hb6 HOF5 hcs5'
   rw [HBL.out]
   have HBL7:Hid ((o ++ bitL (rv endM)).length = o.length + 48):=by unfold Hid;rw [List.length_append,HBL.out]
   by_cases hti:t = (es.length:Int)
   ·have t1:(t == (es.length:Int)) = true:=beq_iff_eq.2 hti
    have hcx:bits .xor .u32 (fold:Int) 1 = ((fold ^^^ 1:Nat):Int):=Zar fold 1 hfo (by decide)
    have hx32:fold ^^^ 1 < 4294967296:=Zbu hfo (by decide)
    rw [if_pos hti] at HF2
    generalize fold ^^^ 1 = sm at *
    clear hti
    go_wp2_with (at_builtin;refine appAnyS Zae rfl (.tmp 57) (.tmp 60) rfl rfl HO6.out HBL.out.symm rfl HRB.out (by omega) (by omega) HQ6.out ?_;intro a7 c7 w7 hown7 hg7 hb7;have HO7:=Zh hown7;have HE7:=Zh (HE6.out.trans hb7);have HQ7:=Zh (Nat.le_trans HQ6.out hg7.size);clear hown7 hg7 hb7)
    refine (Zat sm 32 w7 hx32 (by decide)).mono ?_
    rintro e w8 ⟨g8,rfl,ho8,hb8⟩
    have HE8:=Zh (HE7.out.trans (hb8.mono HQ7.out))
    have HO8:=Zh (OwnS.below HO7.out hb8)
    have HQ8:Hid (q <= w8.heap.size):=by have:=HE8.out.size;have:=HQ.out;unfold Hid;omega
    have HR8:=Zh (OwnS.row ho8)
    clear ho8 hb8
    go_wp2_with (at_builtin;refine appAnyS Zae rfl (.tmp 68) (.tmp 70) rfl (show _ = Value.slice a7 (o ++ bitL (rv endM)).length c7 by rw [HBL7.out];rfl) HO8.out (Zak sm 32).symm rfl HR8.out (by rw [HBL7.out];omega) (by rw [HBL7.out];omega) HQ8.out ?_;intro a9 c9 w9 hown9 hg9 hb9;have HO9:=Zh hown9;have HE9:=Zh (HE8.out.trans hb9);have HQ9:=Zh (Nat.le_trans HQ8.out hg9.size);clear hown9 hg9 hb9)
    have HPO:Hid ((o ++ bitL (rv endM)) ++ hbits sm 32 = P):=by unfold Hid;rw [List.append_assoc];exact HF2.out
    rw [HPO.out] at HO9
    have HPL9:Hid (P.length = o.length + 48 + 32):=by unfold Hid;rw [<- HPO.out,List.length_append,HBL7.out,Zak]
    have e9:o.length + (bitL (rv endM)).length + 32 = P.length:=by rw [HPL9.out,HBL.out]
    rw [e9]
    refine (Zio a9 c9 P w9 (OwnS.row HO9.out) HPLT.out (by rw [HPL9.out];omega)).mono ?_
    rintro e wf ⟨fg,fc,rfl,hof,hbf⟩
    have HOF:=Zh (hof.mono HQ9.out)
    have HEF:=Zh (HE9.out.trans (hbf.mono HQ9.out))
    clear hof hbf e9
    go_wp2_with fail
    go_ret
    rw [HFG.out]
    exact ⟨fg,fc,rfl,HOF.out,HEF.out⟩
   ·have t1:(t == (es.length:Int)) = false:=beq_eq_false_iff_ne.2 hti
    have hx32:=hfo
    rw [if_neg hti] at HF2
    clear hti
    go_wp2_with (at_builtin;refine appAnyS Zae rfl (.tmp 57) (.tmp 60) rfl rfl HO6.out HBL.out.symm rfl HRB.out (by omega) (by omega) HQ6.out ?_;intro a7 c7 w7 hown7 hg7 hb7;have HO7:=Zh hown7;have HE7:=Zh (HE6.out.trans hb7);have HQ7:=Zh (Nat.le_trans HQ6.out hg7.size);clear hown7 hg7 hb7)
    refine (Zat fold 32 w7 hx32 (by decide)).mono ?_
    rintro e w8 ⟨g8,rfl,ho8,hb8⟩
    have HE8:=Zh (HE7.out.trans (hb8.mono HQ7.out))
    have HO8:=Zh (OwnS.below HO7.out hb8)
    have HQ8:Hid (q <= w8.heap.size):=by have:=HE8.out.size;have:=HQ.out;unfold Hid;omega
    have HR8:=Zh (OwnS.row ho8)
    clear ho8 hb8
    go_wp2_with (at_builtin;refine appAnyS Zae rfl (.tmp 68) (.tmp 70) rfl (show _ = Value.slice a7 (o ++ bitL (rv endM)).length c7 by rw [HBL7.out];rfl) HO8.out (Zak fold 32).symm rfl HR8.out (by rw [HBL7.out];omega) (by rw [HBL7.out];omega) HQ8.out ?_;intro a9 c9 w9 hown9 hg9 hb9;have HO9:=Zh hown9;have HE9:=Zh (HE8.out.trans hb9);have HQ9:=Zh (Nat.le_trans HQ8.out hg9.size);clear hown9 hg9 hb9)
    have HPO:Hid ((o ++ bitL (rv endM)) ++ hbits fold 32 = P):=by unfold Hid;rw [List.append_assoc];exact HF2.out
    rw [HPO.out] at HO9
    have HPL9:Hid (P.length = o.length + 48 + 32):=by unfold Hid;rw [<- HPO.out,List.length_append,HBL7.out,Zak]
    have e9:o.length + (bitL (rv endM)).length + 32 = P.length:=by rw [HPL9.out,HBL.out]
    rw [e9]
    refine (Zio a9 c9 P w9 (OwnS.row HO9.out) HPLT.out (by rw [HPL9.out];omega)).mono ?_
    rintro e wf ⟨fg,fc,rfl,hof,hbf⟩
    have HOF:=Zh (hof.mono HQ9.out)
    have HEF:=Zh (HE9.out.trans (hbf.mono HQ9.out))
    clear hof hbf e9
    go_wp2_with fail
    go_ret
    rw [HFG.out]
    exact ⟨fg,fc,rfl,HOF.out,HEF.out⟩
  have t0:decide (i < es.length) = true:=by simp;omega
  have HQW:Hid (q <= wr.heap.size):=by have:=HE.out.size;have:=HQ.out;unfold Hid;omega
  obtain ⟨b,off,rfl,hbb,hcl⟩:=HPS.out.at hlt
  have hc0:=hcl 0 _ rfl
  simp only [encSl,Nat.add_zero,Nat.mul_one] at hc0
  have HCE:Hid (∀ A,Below q w A -> A.cell? ⟨b,off + i,none⟩ = some (.slice es[i].1 es[i].2.2.length es[i].2.1)):=fun A hA=>(hA.cell (p:=⟨b,off + i,none⟩) (by rw [<- HQ.out];exact hbb)).trans hc0
  have hip:i < ps.length:=by rw [HPL.out];exact hlt
  have hpi:ps[i] = es[i].2.2:=by simp [HPE.out]
  obtain ⟨hp0,hp1,hp2⟩:=HPP.out _ (List.getElem_mem hip)
  have HDR:Hid (ps.drop i = ps[i] :: ps.drop (i + 1)):=List.drop_eq_getElem_cons hip
  have HRI:=Zh (fun A (hA:Below q w A)=>RowN.below (HRS.out i hlt) (HQ.out ▸ hA))
  rw [hpi] at hp0 hp1 hp2 HDR
  clear hcl hc0 hpi
  generalize es[i] = en at *
  obtain ⟨pa2,pc2,p⟩:=en
  dsimp only at HCE hp0 hp1 hp2 HDR HRI
  have HP256:=Zh hp2
  have hce:=HCE.out wr HE.out
  obtain ⟨n,hnn⟩:∃ n,p.length = n:=⟨_,rfl⟩
  have HSA:=Zh (fun A (h:RowN .u8 A pa2 pc2 p)=>Zmh pa2 pc2 p A h hp2 (by omega))
  have HSL:=Zh (Zvd p hp2)
  have HNN:=Zh hnn
  rw [hnn] at HSA hce hp0 hp1
  have HCE2:Hid (∀ A,Below q w A -> A.cell? ⟨b,off + i,none⟩ = some (.slice pa2 n pc2)):=by rw [<- hnn];exact HCE.out
  clear hp2 hnn HCE
  go_wp2_with fail
  refine (HSA.out wr (HRI.out wr HE.out)).mono ?_
  rintro e w3 ⟨sg,sc,rfl,hsa,hb3⟩
  have HE3:=Zh (HE.out.trans (hb3.mono HQW.out))
  have HO3:=Zh (OwnS.below HO.out hb3)
  have HSR:=Zh hsa.row
  have HQ3:Hid (q <= w3.heap.size):=by have:=HE3.out.size;have:=HQ.out;unfold Hid;omega
  clear hsa hb3
  go_wp2_with fail
  refine (Zke w3 sg sc (say p) HSR.out HSL.out).mono ?_
  rintro e w4 ⟨rfl,hw4⟩
  replace hw4:=hw4.symm
  subst hw4
  obtain ⟨cv,hcv⟩:∃ cv,crcHigh (say p) = cv:=⟨_,rfl⟩
  have hcv32:cv < 4294967296:=by rw [<- hcv];exact Zqa _
  rw [hcv]
  have HCV:=Zh hcv
  clear hcv
  by_cases hti:t = (i:Int)
  ·have t1:(((i:Nat):Int) == t) = true:=beq_iff_eq.2 hti.symm
   have hcx:=Zar cv 1 hcv32 (by decide)
   have hcx':bits .xor .u32 (cv:Int) 1 = ((cv ^^^ 1:Nat):Int):=hcx
   have hx32:cv ^^^ 1 < 4294967296:=Zbu hcv32 (by decide)
   have HSE:Hid (sumI t i p = cv ^^^ 1):=by unfold Hid sumI;rw [if_pos hti.symm,HCV.out]
   generalize cv ^^^ 1 = sm at *
   clear hti hcx
   have HSUM:=HSE
   have hsm:=hx32
   have hfo:=HFO.out
   go_wp2_with fail
   refine (Zdj w3 fold sm hfo hsm).mono ?_
   rintro e w4 ⟨rfl,hw4⟩
   replace hw4:=hw4.symm
   subst hw4
   have hF2:=HF.out
   rw [HDR.out,fileR,HSUM.out] at hF2
   have hfs:=Zer hfo hsm
   generalize foldS fold sm = fold2 at *
   have HF2:=Zh hF2
   have HFS:=Zh hfs
   clear hF2 HF hfs hfo
   have hcb:=Zfk w3 blockM (by decide) (by decide)
   obtain ⟨c5,w5,hcs5,hr5,hb5,hs5⟩:=hcb
   have hcs5':(convert 9 22 (.string ⟨#[49,65,89,38,83,89]⟩)).run Tryz.prog w3 = .ok (.slice (some ⟨w3.heap.size,0,none⟩) 6 c5) w5:=hcs5
   have HOF5:=Zh (Zga (some ⟨w3.heap.size,0,none⟩) c5 blockM w5 hr5 (by decide) (by decide))
   have HE5:=Zh (HE3.out.trans (hb5.mono HQ3.out))
   have HO5:=Zh (OwnS.below HO3.out hb5)
   have HQ5:Hid (q <= w5.heap.size):=by have:=HE5.out.size;have:=HQ.out;unfold Hid;omega
   have HBL:Hid ((bitL (rv blockM)).length = 48):=Zkr blockM
   clear hcs5 hr5 hb5 hs5
   go_wp2_with fail
   refine (Zdt _).mono ?_
   rintro e wq ⟨rfl,hwq⟩
   replace hwq:=hwq.symm
   subst hwq
   go_wp2_with fail
   refine HOF5.out.mono ?_
   rintro e w6 ⟨bg,bc,rfl,hob,hb6⟩
   have HE6:=Zh (HE5.out.trans (hb6.mono HQ5.out))
   have HO6:=Zh (OwnS.below HO5.out hb6)
   have HQ6:Hid (q <= w6.heap.size):=by have:=HE6.out.size;have:=HQ.out;unfold Hid;omega
   have HRB:=Zh (OwnS.row hob)
   clear hob hb6 HOF5 hcs5'
   rw [HBL.out]
   obtain ⟨i2,hi2⟩:∃ i2,i % 2 = i2:=⟨_,rfl⟩
   have ui2:(i:Int) % 2 = (i2:Int):=by omega
   rw [hi2] at HF2
   clear hi2
   have hmlen:(maskIf m p).length = n:=by unfold maskIf;rw [<- HNN.out];split;exact Zbc _ _;rfl
   have hgr:grpN (maskIf m p) <= 300:=by
    unfold grpN
    have:=Zfr (turnG (maskIf m p)).1
    rw [Zgj,hmlen] at this
    omega
   have HRO:=Zh (fun A (h:RowN .u8 A pa2 pc2 p)=>Zmk pa2 pc2 p sm i2 (grpN (maskIf m p)) m 0 A h HP256.out (by rw [HNN.out];omega) (by rw [HNN.out];omega) hsm (by omega) (by unfold grpN;simp) (by omega) (by decide))
   rw [HNN.out] at HRO
   have hrl:(rowG p sm m i2 (grpN (maskIf m p))).length <= 15000:=by unfold rowG;exact Zpf _ _ _ _ _ (by omega) hgr
   obtain ⟨rw_,hrw⟩:∃ r,rowG p sm m i2 (grpN (maskIf m p)) = r:=⟨_,rfl⟩
   rw [hrw] at HF2 HRO hrl
   obtain ⟨rl,hrle⟩:∃ rl,rw_.length = rl:=⟨_,rfl⟩
   rw [hrle] at HRO hrl
   have HRLE:=Zh hrle
   clear hrw hrle hmlen hgr
   go_wp2_with (at_builtin;refine appAnyS Zae rfl (.tmp 41) (.tmp 44) rfl rfl HO6.out HBL.out.symm rfl HRB.out (by omega) (by omega) HQ6.out ?_;intro a7 c7 w7 hown7 hg7 hb7;have HO7:=Zh hown7;have HE7:=Zh (HE6.out.trans hb7);have hce7:=HCE2.out w7 (HE6.out.trans hb7);have HQ7:=Zh (Nat.le_trans HQ6.out hg7.size);clear hown7 hg7 hb7)
   refine (HRO.out w7 (HRI.out w7 HE7.out)).mono ?_
   rintro e w8 ⟨rg,rc,rfl,hro,hb8⟩
   have HE8:=Zh (HE7.out.trans (hb8.mono HQ7.out))
   have HO8:=Zh (OwnS.below HO7.out hb8)
   have HQ8:Hid (q <= w8.heap.size):=by have:=HE8.out.size;have:=HQ.out;unfold Hid;omega
   have HR8:=Zh (OwnS.row hro)
   clear hro hb8 HRO
   have HBL7:Hid ((o ++ bitL (rv blockM)).length = o.length + 48):=by unfold Hid;rw [List.length_append,HBL.out]
   go_wp2_with (at_builtin;refine appAnyS Zae rfl (.tmp 46) (.tmp 55) rfl (show _ = Value.slice a7 (o ++ bitL (rv blockM)).length c7 by rw [HBL7.out];rfl) HO8.out HRLE.out.symm rfl HR8.out (by rw [HBL7.out];omega) (by rw [HBL7.out];omega) HQ8.out ?_;intro a9 c9 w9 hown9 hg9 hb9;have HO9:=Zh hown9;have HE9:=Zh (HE8.out.trans hb9);clear hown9 hg9 hb9)
   go_roundw
   case rel =>
    refine ⟨i + 1,fold2,a9,c9,(o ++ bitL (rv blockM)) ++ rw_,hlt,by go_num,by trivial,?_,?_,HFS.out,HO9.out,HE9.out,?_⟩
    ·rw [List.length_append,HRLE.out,List.length_append]
    ·rw [List.length_append,HBL7.out,HRLE.out];omega
    ·unfold Hid
     have h:=HF2.out
     simpa [ofB] using h
   case measure=>simp [intOf];omega
  ·have t1:(((i:Nat):Int) == t) = false:=beq_eq_false_iff_ne.2 (fun e=>hti e.symm)
   have HSE:Hid (sumI t i p = cv):=by unfold Hid sumI;rw [if_neg (fun e=>hti e.symm),HCV.out]
   clear hti
   have HSUM:=HSE
   have hsm:=hcv32
   have hfo:=HFO.out
   go_wp2_with fail
   refine (Zdj w3 fold cv hfo hsm).mono ?_
   rintro e w4 ⟨rfl,hw4⟩
   replace hw4:=hw4.symm
   subst hw4
   have hF2:=HF.out
   rw [HDR.out,fileR,HSUM.out] at hF2
   have hfs:=Zer hfo hsm
   generalize foldS fold cv = fold2 at *
   have HF2:=Zh hF2
   have HFS:=Zh hfs
   clear hF2 HF hfs hfo
   have hcb:=Zfk w3 blockM (by decide) (by decide)
   obtain ⟨c5,w5,hcs5,hr5,hb5,hs5⟩:=hcb
   have hcs5':(convert 9 22 (.string ⟨#[49,65,89,38,83,89]⟩)).run Tryz.prog w3 = .ok (.slice (some ⟨w3.heap.size,0,none⟩) 6 c5) w5:=hcs5
   have HOF5:=Zh (Zga (some ⟨w3.heap.size,0,none⟩) c5 blockM w5 hr5 (by decide) (by decide))
   have HE5:=Zh (HE3.out.trans (hb5.mono HQ3.out))
   have HO5:=Zh (OwnS.below HO3.out hb5)
   have HQ5:Hid (q <= w5.heap.size):=by have:=HE5.out.size;have:=HQ.out;unfold Hid;omega
   have HBL:Hid ((bitL (rv blockM)).length = 48):=Zkr blockM
   clear hcs5 hr5 hb5 hs5
   go_wp2_with fail
   refine (Zdt _).mono ?_
   rintro e wq ⟨rfl,hwq⟩
   replace hwq:=hwq.symm
   subst hwq
   go_wp2_with fail
   refine HOF5.out.mono ?_
   rintro e w6 ⟨bg,bc,rfl,hob,hb6⟩
   have HE6:=Zh (HE5.out.trans (hb6.mono HQ5.out))
   have HO6:=Zh (OwnS.below HO5.out hb6)
   have HQ6:Hid (q <= w6.heap.size):=by have:=HE6.out.size;have:=HQ.out;unfold Hid;omega
   have HRB:=Zh (OwnS.row hob)
   clear hob hb6 HOF5 hcs5'
   rw [HBL.out]
   obtain ⟨i2,hi2⟩:∃ i2,i % 2 = i2:=⟨_,rfl⟩
   have ui2:(i:Int) % 2 = (i2:Int):=by omega
   rw [hi2] at HF2
   clear hi2
   have hmlen:(maskIf m p).length = n:=by unfold maskIf;rw [<- HNN.out];split;exact Zbc _ _;rfl
   have hgr:grpN (maskIf m p) <= 300:=by
    unfold grpN
    have:=Zfr (turnG (maskIf m p)).1
    rw [Zgj,hmlen] at this
    omega
   have HRO:=Zh (fun A (h:RowN .u8 A pa2 pc2 p)=>Zmk pa2 pc2 p cv i2 (grpN (maskIf m p)) m 0 A h HP256.out (by rw [HNN.out];omega) (by rw [HNN.out];omega) hsm (by omega) (by unfold grpN;simp) (by omega) (by decide))
   rw [HNN.out] at HRO
   have hrl:(rowG p cv m i2 (grpN (maskIf m p))).length <= 15000:=by unfold rowG;exact Zpf _ _ _ _ _ (by omega) hgr
   obtain ⟨rw_,hrw⟩:∃ r,rowG p cv m i2 (grpN (maskIf m p)) = r:=⟨_,rfl⟩
   rw [hrw] at HF2 HRO hrl
   obtain ⟨rl,hrle⟩:∃ rl,rw_.length = rl:=⟨_,rfl⟩
   rw [hrle] at HRO hrl
   have HRLE:=Zh hrle
   clear hrw hrle hmlen hgr
   go_wp2_with (at_builtin;refine appAnyS Zae rfl (.tmp 41) (.tmp 44) rfl rfl HO6.out HBL.out.symm rfl HRB.out (by omega) (by omega) HQ6.out ?_;intro a7 c7 w7 hown7 hg7 hb7;have HO7:=Zh hown7;have HE7:=Zh (HE6.out.trans hb7);have hce7:=HCE2.out w7 (HE6.out.trans hb7);have HQ7:=Zh (Nat.le_trans HQ6.out hg7.size);clear hown7 hg7 hb7)
   refine (HRO.out w7 (HRI.out w7 HE7.out)).mono ?_
   rintro e w8 ⟨rg,rc,rfl,hro,hb8⟩
   have HE8:=Zh (HE7.out.trans (hb8.mono HQ7.out))
   have HO8:=Zh (OwnS.below HO7.out hb8)
   have HQ8:Hid (q <= w8.heap.size):=by have:=HE8.out.size;have:=HQ.out;unfold Hid;omega
   have HR8:=Zh (OwnS.row hro)
   clear hro hb8 HRO
   have HBL7:Hid ((o ++ bitL (rv blockM)).length = o.length + 48):=by unfold Hid;rw [List.length_append,HBL.out]
   go_wp2_with (at_builtin;refine appAnyS Zae rfl (.tmp 46) (.tmp 55) rfl (show _ = Value.slice a7 (o ++ bitL (rv blockM)).length c7 by rw [HBL7.out];rfl) HO8.out HRLE.out.symm rfl HR8.out (by rw [HBL7.out];omega) (by rw [HBL7.out];omega) HQ8.out ?_;intro a9 c9 w9 hown9 hg9 hb9;have HO9:=Zh hown9;have HE9:=Zh (HE8.out.trans hb9);clear hown9 hg9 hb9)
   go_roundw
   case rel =>
    refine ⟨i + 1,fold2,a9,c9,(o ++ bitL (rv blockM)) ++ rw_,hlt,by go_num,by trivial,?_,?_,HFS.out,HO9.out,HE9.out,?_⟩
    ·rw [List.length_append,HRLE.out,List.length_append]
    ·rw [List.length_append,HBL7.out,HRLE.out];omega
    ·unfold Hid
     have h:=HF2.out
     simpa [ofB] using h
   case measure=>simp [intOf];omega
end Go.Proofs.YtnkpnjnfddjfpaaGreat

namespace Go.Proofs.YtnkpnjnfddjfpaaGreat
open Go.RowKit Go.Shelf M01 M02 M27
def ZRes (q:Nat) (A:World) (x0 x1 x2 x3 z:Value):Prop:=A.heap[q]? = some (.cells #[x0,x1,x2,x3] 24 (0,0)) /\ A.heap[q + 1]? = some (.cells #[z] 25 (0,0))
def setZ (q:Nat) (A:World) (x0 x1 x2 x3 z:Value):World:=((((A.setCell ⟨q,0,none⟩ x0).setCell ⟨q,1,none⟩ x1).setCell ⟨q,2,none⟩ x2).setCell ⟨q,3,none⟩ x3).setCell ⟨q + 1,0,none⟩ z
theorem Zvj {A:World} {b:Nat} {y0 y1 y2 y3:Value} {t:TypeId} (h:A.heap[b]? = some (.cells #[y0,y1,y2,y3] t (0,0))) (x0 x1 x2 x3:Value) :
  ((((A.setCell ⟨b,0,none⟩ x0).setCell ⟨b,1,none⟩ x1).setCell ⟨b,2,none⟩ x2).setCell ⟨b,3,none⟩ x3).heap[b]? = some (.cells #[x0,x1,x2,x3] t (0,0)):=by
 have:=Zao (i:=3) (x:=x3) (Zao (i:=2) (x:=x2) (Zao (i:=1) (x:=x1) (Zao (i:=0) (x:=x0) h)))
 simpa using this
theorem ZRes.set {q:Nat} {A:World} {y0 y1 y2 y3 y:Value} (h:ZRes q A y0 y1 y2 y3 y) (x0 x1 x2 x3 z:Value):ZRes q (setZ q A x0 x1 x2 x3 z) x0 x1 x2 x3 z:=by
 obtain ⟨h1,h2⟩:=h
 unfold setZ
 refine ⟨?_,?_⟩
 ·rw [Below.heap_setCell _ _ _ _ (by show q ≠ q + 1;omega)]
  exact Zvj h1 x0 x1 x2 x3
 ·refine one_setCell (v:=y) ?_
  rw [Below.heap_setCell _ _ _ _ (by show q + 1 ≠ q;omega),Below.heap_setCell _ _ _ _ (by show q + 1 ≠ q;omega),Below.heap_setCell _ _ _ _ (by show q + 1 ≠ q;omega),Below.heap_setCell _ _ _ _ (by show q + 1 ≠ q;omega)]
  exact h2
theorem Zwv (p:Nat) (x0 x1 x2 x3 z:Value) (w:World) (h:ZRes p w x0 x1 x2 x3 z) :
  CallsD Tryz.prog 16 #[.pointer (some ⟨p,0,none⟩),.pointer (some ⟨p + 1,0,none⟩)] (.panicking formP) w fun e u' w' =>
   e = .returned (.tuple #[]) /\ u' = .panicking [{ v:=.iface 25 (.int .i64 2),recovered:=true }] /\ w' = setZ p w (.slice none 0 0) (.int .i64 0) (.int .i64 0) (.bool false) (.int .i64 2):=by
 unfold formP
 obtain ⟨h1,h2⟩:=h
 refine callsD_of_wpS Tryz.func16 rfl fun c₀ cs hu=>?_
 obtain ⟨f0,f1,f2,f3⟩:=Zaf h1
 obtain ⟨c0,c1,c2,c3,_,_⟩:=Zac h1
 have g4:w.cell? ⟨p + 1,0,none⟩ = some z:=cell_of_one h2
 have f4:w.frozen? ⟨p + 1,0,none⟩ = false:=by simp [World.frozen?,h2]
 have te:=Zpi 2
 unfold setZ
 apply wpS_seq
 apply wpS_region
 simp [wpOpsS,go_sem,recoverD,hu,te,Tryz.ntmps16,Exit.thenS]
 apply wpS_seq
 apply wpS_region
 simp [wpOpsS,go_sem,Exit.thenS]
 refine wpS_cond (t:=true) (by simp [Act.eval,Array.replicate]) ?_
 simp only [if_true]
 apply wpS_region
 simp [wpOpsS,go_sem,c0,c1,c2,c3,g4,f0,f1,f2,f3,f4,bodyPostS,results,Tryz.results16]
theorem Zkn (p q:Nat) (w:World) :
  CallsD Tryz.prog 16 #[.pointer (some ⟨p,0,none⟩),.pointer (some ⟨q,0,none⟩)] .returning w fun e u' w' =>
   e = .returned (.tuple #[]) /\ u' = .returning /\ w' = w:=by
 refine callsD_of_wpS Tryz.func16 rfl fun c₀ cs hu=>?_
 apply wpS_seq
 apply wpS_region
 have te:=Zpj
 simp [wpOpsS,go_sem,recoverD,hu,te,Tryz.ntmps16,Exit.thenS]
 apply wpS_seq
 apply wpS_region
 simp [wpOpsS,go_sem,Exit.thenS]
 refine wpS_cond (t:=false) (by simp [Act.eval,Array.replicate]) ?_
 simp only [Bool.false_eq_true,if_false]
 refine wpS_of_wp (wp_skip ?_)
 cases c₀
 simp_all [bodyPostS,results,Tryz.results16]
def bzDef (q:Nat):List Deferred:=[{ target:=Target.fn (Fn.func 16) #[.pointer (some ⟨q,0,none⟩),.pointer (some ⟨q + 1,0,none⟩)],args:=#[] }]
theorem Zzk {q:Nat} {A:World} {x0 x1 x2 x3 z:Value} {tmps:Array Value} {Rr:Ending -> World -> Prop} (h:ZRes q A x0 x1 x2 x3 z) (t4:tmps.getD 4 undef = .pointer (some ⟨q,0,none⟩)) (t5:tmps.getD 5 undef = .pointer (some ⟨q + 1,0,none⟩))
  (hK:Rr (.returned (.tuple #[.agg #[x0,x1,x2,x3],z])) A):LeavesC Tryz.prog Tryz.f8 tmps Rr (bzDef q) .returning A:=by
 unfold bzDef
 refine ⟨by simp,.inr ⟨_,_,16,#[.pointer (some ⟨q,0,none⟩),.pointer (some ⟨q + 1,0,none⟩)],rfl,by simp [go_sem],?_⟩⟩
 refine (Zkn q (q + 1) A).mono ?_
 rintro e u' w'' ⟨rfl,rfl,rfl⟩
 obtain ⟨h1,h2⟩:=h
 obtain ⟨c0,c1,c2,c3,_,_⟩:=Zac h1
 have g4:=cell_of_one h2
 have s4:tmps[4]?.getD undef = .pointer (some ⟨q,0,none⟩):=by simpa using t4
 have s5:tmps[5]?.getD undef = .pointer (some ⟨q + 1,0,none⟩):=by simpa using t5
 simp only [settle]
 simp [LeavesC,Leaves,results,Tryz.results8,go_sem,s4,s5,c0,c1,c2,c3,g4,hK]
theorem Zsi {q:Nat} {A:World} {x0 x1 x2 x3 z:Value} {tmps:Array Value} {Rr:Ending -> World -> Prop} (h:ZRes q A x0 x1 x2 x3 z) (t4:tmps.getD 4 undef = .pointer (some ⟨q,0,none⟩)) (t5:tmps.getD 5 undef = .pointer (some ⟨q + 1,0,none⟩))
  (hK:Rr (.returned (.tuple #[.agg #[.slice none 0 0,.int .i64 0,.int .i64 0,.bool false],.int .i64 2])) (setZ q A (.slice none 0 0) (.int .i64 0) (.int .i64 0) (.bool false) (.int .i64 2))):LeavesC Tryz.prog Tryz.f8 tmps Rr (bzDef q) (.panicking formP) A:=by
 unfold bzDef
 refine ⟨by simp,.inr ⟨_,_,16,#[.pointer (some ⟨q,0,none⟩),.pointer (some ⟨q + 1,0,none⟩)],rfl,by simp [go_sem],?_⟩⟩
 refine (Zwv q x0 x1 x2 x3 z A h).mono ?_
 rintro e u' w'' ⟨rfl,rfl,rfl⟩
 obtain ⟨h1,h2⟩:=h.set (.slice none 0 0) (.int .i64 0) (.int .i64 0) (.bool false) (.int .i64 2)
 obtain ⟨c0,c1,c2,c3,_,_⟩:=Zac h1
 have g4:=cell_of_one h2
 have s4:tmps[4]?.getD undef = .pointer (some ⟨q,0,none⟩):=by simpa using t4
 have s5:tmps[5]?.getD undef = .pointer (some ⟨q + 1,0,none⟩):=by simpa using t5
 generalize setZ q A (.slice none 0 0) (.int .i64 0) (.int .i64 0) (.bool false) (.int .i64 2) = B at *
 simp only [settle]
 simp [LeavesC,Leaves,results,Tryz.results8,go_sem,s4,s5,c0,c1,c2,c3,g4,hK]
theorem ZRes.only {T:Nat -> Prop} {q:Nat} {A B:World} {x0 x1 x2 x3 z:Value} (h:ZRes q A x0 x1 x2 x3 z) (ho:Only T A B) (h0:¬ T q) (h1:¬ T (q + 1)):ZRes q B x0 x1 x2 x3 z:=⟨Zad h.1 ho h0,Zad h.2 ho h1⟩
end Go.Proofs.YtnkpnjnfddjfpaaGreat

namespace Go.Proofs.YtnkpnjnfddjfpaaGreat.FG
open Go
section
variable {P : Program} {ops : Array Oper} {Q : Exit → Act → World → Prop} {md : Region.Mode}
def wantE (md:Region.Mode) (e:Edge):Bool:=Region.binds md e && (match e.ground with | .data=>true | .guard=>true | _=>false)
theorem Zbe {e:Edge} (h:wantE md e = true):Region.binds md e = true:=by unfold wantE at h;rw [Bool.and_eq_true] at h;exact h.1
def usedB (md:Region.Mode) (ops:Array Oper) (fin:Nat -> Bool) (i j:Nat):Bool :=
 !(i == j) && !(anc md ops i ops.size j) && (fin j || (List.range ops.size).any fun k=>!(k == i) && !(anc md ops k ops.size i) && ((ops[k]?).map fun o=>o.after.any fun e=>wantE md e && e.on == j).getD false)
def Wants (md:Region.Mode) (ops:Array Oper) (fin:Nat -> Bool) (listed:Array Bool) (j:Nat):Prop :=
 fin j = true \/ ∃ (k:Nat) (o:Oper) (e:Edge),ops[k]? = some o /\ listed.getD k true = false /\ e ∈ o.after /\ wantE md e = true /\ e.on = j
theorem Wants.used {fin:Nat -> Bool} {listed:Array Bool} {i j:Nat} {oi:Oper} (hij:i ≠ j) (hoi:ops[i]? = some oi) (hwi:∀ e ∈ oi.after,Region.binds md e = true -> listed.getD e.on false = true) (hi:i < listed.size) (hsh:Shut md ops listed) (hun:listed.getD i true = false) (hlj:listed.getD j false = true) (h:Wants md ops fin (listed.setIfInBounds i true) j):Wants md ops fin listed j /\ usedB md ops fin i j = true:=by
 have hna:anc md ops i ops.size j = false:=by
  cases hc:anc md ops i ops.size j with
  | false=>rfl
  | true =>
   have:=hsh.anc i _ _ hc hlj
   simp [hi] at this hun
   rw [hun] at this;cases this
 have hij':(i == j) = false:=by simpa using hij
 unfold usedB
 rw [hna,hij',Bool.not_false,Bool.true_and,Bool.true_and]
 rcases h with h | ⟨k,o,e,hk,hl,he,hb,hj⟩
 ·exact ⟨.inl h,by simp [h]⟩
 ·have hki:k ≠ i:=fun hc=>by
   subst hc;simp [hi] at hl
  rw [getD_set_ne true (Ne.symm hki)] at hl
  have hnk:anc md ops k ops.size i = false:=by
   cases hc:anc md ops k ops.size i with
   | false=>rfl
   | true =>
    have h1:=hsh.ready hoi hwi _ hc
    have hk2:k < listed.size:=by
     rcases Nat.lt_or_ge k listed.size with h' | h'
     ·exact h'
     ·simp [Array.getElem?_eq_none h'] at h1
    simp [hk2] at h1 hl
    rw [h1] at hl;cases hl
  refine ⟨.inr ⟨k,o,e,hk,hl,he,hb,hj⟩,?_⟩
  rw [Bool.or_eq_true];right
  rw [List.any_eq_true]
  refine ⟨k,by simpa using (Array.getElem?_eq_some_iff.1 hk).1,?_⟩
  simp only [hk,Option.map_some,Option.getD_some,Bool.and_eq_true,Bool.not_eq_true',beq_eq_false_iff_ne]
  refine ⟨⟨hki,hnk⟩,?_⟩
  rw [Array.any_eq_true']
  exact ⟨e,he,by simp [hb,hj]⟩
def leftBy (a:Act) (o:Oper):Value:=match o.dst with | some d=>a.tmps.getD d undef | none=>undef
structure FlowAt (md:Region.Mode) (ops:Array Oper) (fin:Nat -> Bool) (R:Array Bool -> World -> Prop) (V:Nat -> Value -> World -> Prop) (D:Nat -> Nat -> Value -> Value -> Prop) (a0:Act) (listed:Array Bool) (a:Act) (w:World):Prop where
 rel:R listed w
 size:a.tmps.size = a0.tmps.size
 defers:a.defers = a0.defers
 out:∀ t,t ∉ dstsL ops -> a.tmps.getD t undef = a0.tmps.getD t undef
 old:∀ (j:Nat) (oj:Oper) (d:Tmp),ops[j]? = some oj -> oj.dst = some d -> listed.getD j false = false -> a.tmps.getD d undef = a0.tmps.getD d undef
 len:listed.size = ops.size
 shut:Shut md ops listed
 val:∀ (i:Nat) (o:Oper),ops[i]? = some o -> listed.getD i false = true -> Wants md ops fin listed i -> V i (leftBy a o) w
 apart:∀ (i j:Nat) (o o':Oper),ops[i]? = some o -> ops[j]? = some o' -> listed.getD i false = true -> listed.getD j false = true -> Wants md ops fin listed i -> Wants md ops fin listed j -> i ≠ j -> D i j (leftBy a o) (leftBy a o')
theorem Zef {i:Nat} {o:Oper} {d:Tmp} (h:ops[i]? = some o) (hd:o.dst = some d):d ∈ dstsL ops:=by
 unfold dstsL
 rw [List.mem_filterMap]
 exact ⟨o,by simpa using Array.mem_of_getElem? h,hd⟩
structure OneEach (ops:Array Oper) (n:Nat):Prop where
 one:∀ (i j:Nat) (oi oj:Oper) (d:Tmp),ops[i]? = some oi -> ops[j]? = some oj -> oi.dst = some d -> oj.dst = some d -> i = j
 fits:∀ d ∈ dstsL ops,d < n
theorem OneEach.mk' {n:Nat} (h:((List.range ops.size).all fun i=>(List.range ops.size).all fun j=>i == j || (match (ops[i]?).bind (·.dst),(ops[j]?).bind (·.dst) with | some d,some e=>!(d == e) | _,_=>true)) = true)
  (hf:((dstsL ops).all fun d=>d < n) = true):OneEach ops n where
 one i j oi oj d hi hj di dj:=by
  rw [List.all_eq_true] at h
  have h1:=h i (by simpa using (Array.getElem?_eq_some_iff.1 hi).1)
  rw [List.all_eq_true] at h1
  have h2:=h1 j (by simpa using (Array.getElem?_eq_some_iff.1 hj).1)
  simpa [hi,hj,di,dj] using h2
 fits d hd:=by
  rw [List.all_eq_true] at hf
  simpa using hf d hd
theorem Zaw {n:Nat} {a:Act} {i j:Nat} {o oj:Oper} {v:Value} (h1:OneEach ops n) (hi:ops[i]? = some o) (hj:ops[j]? = some oj) (hij:i ≠ j):leftBy (a.put o.dst v) oj = leftBy a oj:=by
 unfold leftBy
 cases hdj:oj.dst with
 | none=>rfl
 | some dj =>
  cases hd:o.dst with
  | none=>rfl
  | some d =>
   have:d ≠ dj:=fun e=>hij (h1.one i j o oj d hi hj hd (e ▸ hdj))
   simp [Act.put,Array.getElem?_setIfInBounds_ne this]
theorem Zcf {a:Act} {i:Nat} {o:Oper} {v:Value} (h1:OneEach ops a.tmps.size) (hi:ops[i]? = some o):leftBy (a.put o.dst v) o = (match o.dst with | some _=>v | none=>undef):=by
 unfold leftBy
 cases hd:o.dst with
 | none=>rfl
 | some d =>
  have hlt:d < a.tmps.size:=h1.fits d (Zef hi hd)
  simp [Act.put,hlt]
theorem Zdd {listed:Array Bool} {i:Nat} (hi:i < listed.size):(listed.setIfInBounds i true).getD i false = true:=by simp [hi]
theorem FlowAt.next {fin:Nat -> Bool} {R:Array Bool -> World -> Prop} {V:Nat -> Value -> World -> Prop} {D:Nat -> Nat -> Value -> Value -> Prop} {a0 a:Act} {listed:Array Bool} {w w':World} {i:Nat} {o:Oper} {v:Value}
  (h1:OneEach ops a0.tmps.size) (h:FlowAt md ops fin R V D a0 listed a w) (hi:ops[i]? = some o) (hun:listed.getD i true = false)
  (hw:∀ e ∈ o.after,Region.binds md e = true -> listed.getD e.on false = true)
  (hR:R (listed.setIfInBounds i true) w')
  (hmono:∀ j u,usedB md ops fin i j = true -> V j u w -> (∀ e ∈ o.after,wantE md e = true -> e.on ≠ j -> ∀ oe,ops[e.on]? = some oe -> D e.on j (leftBy a oe) u /\ D j e.on u (leftBy a oe)) →
   V j u w' /\ D i j (match o.dst with | some _=>v | none=>undef) u /\ D j i u (match o.dst with | some _=>v | none=>undef))
  (hv:V i (match o.dst with | some _=>v | none=>undef) w'):FlowAt md ops fin R V D a0 (listed.setIfInBounds i true) (a.put o.dst v) w':=by
 have hil:i < listed.size:=by rw [h.len];exact (Array.getElem?_eq_some_iff.1 hi).1
 have h1a:OneEach ops a.tmps.size:=h.size ▸ h1
 have wi:∀ e ∈ o.after,wantE md e = true -> Wants md ops fin listed e.on:=fun e he hb=>.inr ⟨i,o,e,hi,hun,he,hb,rfl⟩
 have key:∀ (j:Nat) (oj:Oper),i ≠ j -> ops[j]? = some oj -> (listed.setIfInBounds i true).getD j false = true -> Wants md ops fin (listed.setIfInBounds i true) j →
   V j (leftBy a oj) w' /\ D i j (match o.dst with | some _=>v | none=>undef) (leftBy a oj) /\ D j i (leftBy a oj) (match o.dst with | some _=>v | none=>undef):=by
  intro j oj hij hj hl hn
  rw [getD_set_ne false hij] at hl
  obtain ⟨hn',hu⟩:=hn.used hij hi hw hil h.shut hun hl
  refine hmono j _ hu (h.val j oj hj hl hn') fun e he hb hne oe hoe=>?_
  exact ⟨h.apart _ _ _ _ hoe hj (hw e he (Zbe hb)) hl (wi e he hb) hn' hne,h.apart _ _ _ _ hj hoe hl (hw e he (Zbe hb)) hn' (wi e he hb) (Ne.symm hne)⟩
 refine ⟨hR,?_,?_,?_,?_,?_,?_,?_,?_⟩
 ·rw [<- h.size];cases o.dst <;> simp [Act.put]
 ·rw [<- h.defers];cases o.dst <;> simp [Act.put]
 ·intro t ht
  rw [<- h.out t ht]
  cases hd:o.dst with
  | none=>rfl
  | some d =>
   have:d ≠ t:=fun e=>ht (e ▸ Zef hi hd)
   simp [Act.put,Array.getElem?_setIfInBounds_ne this]
 ·intro j oj d hj hd hl
  by_cases hij:i = j
  ·subst hij
   rw [Zdd hil] at hl;cases hl
  ·rw [getD_set_ne false hij] at hl
   rw [<- h.old j oj d hj hd hl]
   cases hd':o.dst with
   | none=>rfl
   | some d' =>
    have:d' ≠ d:=fun e=>hij (h1.one i j o oj d hi hj (e ▸ hd') hd)
    simp [Act.put,Array.getElem?_setIfInBounds_ne this]
 ·rw [<- h.len];simp
 ·intro j oj hj hl e he hb
  by_cases hij:i = j
  ·subst hij
   rw [hi] at hj;cases hj
   exact getD_set_true (hw e he hb)
  ·rw [getD_set_ne false hij] at hl
   exact getD_set_true (h.shut j oj hj hl e he hb)
 ·intro j oj hj hl hn
  by_cases hij:i = j
  ·subst hij
   rw [hi] at hj;cases hj
   rw [Zcf h1a hi];exact hv
  ·rw [Zaw h1a hi hj hij]
   exact (key j oj hij hj hl hn).1
 ·intro j k oj ok hj hk hlj hlk hnj hnk hjk
  by_cases hij:i = j
  ·subst hij
   rw [hi] at hj;cases hj
   rw [Zcf h1a hi,Zaw h1a hi hk hjk]
   exact (key k ok hjk hk hlk hnk).2.1
  ·rw [Zaw h1a hi hj hij]
   by_cases hik:i = k
   ·subst hik
    rw [hi] at hk;cases hk
    rw [Zcf h1a hi]
    exact (key j oj hij hj hlj hnj).2.2
   ·rw [Zaw h1a hi hk hik]
    rw [getD_set_ne false hij] at hlj
    rw [getD_set_ne false hik] at hlk
    exact h.apart _ _ _ _ hj hk hlj hlk (hnj.used hij hi hw hil h.shut hun hlj).1 (hnk.used hik hi hw hil h.shut hun hlk).1 hjk
theorem FlowAt.start {fin:Nat -> Bool} {R:Array Bool -> World -> Prop} {V:Nat -> Value -> World -> Prop} {D:Nat -> Nat -> Value -> Value -> Prop} {a0:Act} {w:World} (h:R (Array.replicate ops.size false) w):FlowAt md ops fin R V D a0 (Array.replicate ops.size false) a0 w where
 rel:=h
 size:=rfl
 defers:=rfl
 out _ _:=rfl
 old _ _ _ _ _ _:=rfl
 len:=by simp
 shut i o hi hl:=by
  exfalso
  have:=(Array.getElem?_eq_some_iff.1 hi).1
  simp [this] at hl
 val i o hi hl _:=by
  exfalso
  have:=(Array.getElem?_eq_some_iff.1 hi).1
  simp [this] at hl
 apart i j o o' hi hj hl _ _ _ _:=by
  exfalso
  have:=(Array.getElem?_eq_some_iff.1 hi).1
  simp [this] at hl
theorem FlowAt.end {fin:Nat -> Bool} {R:Array Bool -> World -> Prop} {V:Nat -> Value -> World -> Prop} {D:Nat -> Nat -> Value -> Value -> Prop} {l:List Value} {d:List Deferred} {listed:Array Bool} {a:Act} {w:World}
  (hb:∀ (i:Nat) (o:Oper),ops[i]? = some o -> ∀ e ∈ o.after,Region.binds md e = true -> e.on < i)
  (h:FlowAt md ops fin R V D ⟨l.toArray,d⟩ listed a w) (hr:Region.ready md ops listed = []) :
  R listed w /\ (∀ i,i < ops.size -> listed.getD i false = true) /\ (∀ (i:Nat) (o:Oper),ops[i]? = some o -> fin i = true -> V i (leftBy a o) w) ∧
  a = ⟨(spread (dstsL ops) (fun t=>a.tmps.getD t undef) 0 l).toArray,d⟩:=by
 refine ⟨h.rel,Zep h.len hb hr,fun i o hi hf=>h.val i o hi (Zep h.len hb hr i (Array.getElem?_eq_some_iff.1 hi).1) (.inl hf),?_⟩
 have h1:=h.size
 have h2:=h.defers
 have h3:=h.out
 cases a with
 | mk tm df =>
  simp only at h1 h2 h3 ⊢
  subst h2
  congr 1
  apply Array.ext_getElem?
  intro t
  have e2:(spread (dstsL ops) (fun t=>tm.getD t undef) 0 l).toArray[t]? = (spread (dstsL ops) (fun t=>tm.getD t undef) 0 l)[t]?:=by simp
  rw [e2,Zdg?]
  simp only [Nat.zero_add]
  have hs:tm.size = l.length:=by simpa using h1
  by_cases ht:t < l.length
  ·have e1:tm[t]? = some (tm.getD t undef):=by simp [hs,ht]
   rw [e1,List.getElem?_eq_getElem ht]
   simp only [Option.map_some,Option.some.injEq]
   cases hc:(dstsL ops).contains t with
   | true=>rfl
   | false =>
    have:t ∉ dstsL ops:=fun hm=>by rw [List.contains_iff_mem.2 hm] at hc;cases hc
    have h4:=h3 t this
    rw [h4];simp [ht]
  ·rw [Array.getElem?_eq_none (by omega),List.getElem?_eq_none (by omega)];rfl
end
end Go.Proofs.YtnkpnjnfddjfpaaGreat.FG

namespace Go.Proofs.YtnkpnjnfddjfpaaGreat
open Go.RowKit
theorem list76 (l:List Value) (h:l.length = 76):∃ v8 v9 v10 v11 v12 v13 v14 v15 v16 v17 v18 v19 v20 v21 v22 v23 v24 v25 v26 v27 v28 v29 v30 v31 v32 v33 v34 v35 v36 v37 v38 v39 v40 v41 v42 v43 v44 v45 v46 v47 v48 v49 v50 v51 v52 v53 v54 v55 v56 v57 v58 v59 v60 v61 v62 v63 v64 v65 v66 v67 v68 v69 v70 v71 v72 v73 v74 v75 v76 v77 v78 v79 v80 v81 v82 v83,l = v8 :: v9 :: v10 :: v11 :: v12 :: v13 :: v14 :: v15 :: v16 :: v17 :: v18 :: v19 :: v20 :: v21 :: v22 :: v23 :: v24 :: v25 :: v26 :: v27 :: v28 :: v29 :: v30 :: v31 :: v32 :: v33 :: v34 :: v35 :: v36 :: v37 :: v38 :: v39 :: v40 :: v41 :: v42 :: v43 :: v44 :: v45 :: v46 :: v47 :: v48 :: v49 :: v50 :: v51 :: v52 :: v53 :: v54 :: v55 :: v56 :: v57 :: v58 :: v59 :: v60 :: v61 :: v62 :: v63 :: v64 :: v65 :: v66 :: v67 :: v68 :: v69 :: v70 :: v71 :: v72 :: v73 :: v74 :: v75 :: v76 :: v77 :: v78 :: v79 :: v80 :: v81 :: v82 :: v83 :: []:=by
 match l,h with
 | v8 :: v9 :: v10 :: v11 :: v12 :: v13 :: v14 :: v15 :: v16 :: v17 :: v18 :: v19 :: v20 :: v21 :: v22 :: v23 :: v24 :: v25 :: v26 :: v27 :: v28 :: v29 :: v30 :: v31 :: v32 :: v33 :: v34 :: v35 :: v36 :: v37 :: v38 :: v39 :: v40 :: v41 :: v42 :: v43 :: v44 :: v45 :: v46 :: v47 :: v48 :: v49 :: v50 :: v51 :: v52 :: v53 :: v54 :: v55 :: v56 :: v57 :: v58 :: v59 :: v60 :: v61 :: v62 :: v63 :: v64 :: v65 :: v66 :: v67 :: v68 :: v69 :: v70 :: v71 :: v72 :: v73 :: v74 :: v75 :: v76 :: v77 :: v78 :: v79 :: v80 :: v81 :: v82 :: v83 :: [],_=>exact ⟨v8,v9,v10,v11,v12,v13,v14,v15,v16,v17,v18,v19,v20,v21,v22,v23,v24,v25,v26,v27,v28,v29,v30,v31,v32,v33,v34,v35,v36,v37,v38,v39,v40,v41,v42,v43,v44,v45,v46,v47,v48,v49,v50,v51,v52,v53,v54,v55,v56,v57,v58,v59,v60,v61,v62,v63,v64,v65,v66,v67,v68,v69,v70,v71,v72,v73,v74,v75,v76,v77,v78,v79,v80,v81,v82,v83,rfl⟩
end Go.Proofs.YtnkpnjnfddjfpaaGreat

namespace Go.Proofs.YtnkpnjnfddjfpaaGreat
open Go.RowKit Go.Shelf M01 M02 M27
def BzOut (w:World) (n:Nat) (R:Option BzF) (e:Ending) (w':World):Prop :=
 Below w.heap.size w w' /\ match R with
 | some F=>∃ a c,e = .returned (.tuple #[.agg #[.slice a F.bytes.length c,.int .i64 (F.size:Nat),.int .i64 (n:Nat),.bool F.wrong],.int .i64 0]) /\ RowN .u8 w' a c F.bytes
 | none=>e = .returned (.tuple #[.agg #[.slice none 0 0,.int .i64 0,.int .i64 0,.bool false],.int .i64 2])
def BzK (w:World) (keep rp:Nat) (ns:List Nat) (F:BzF) (A:World):Prop :=
 (∃ a c,ZRes (w.heap.size + 1) A (.slice a F.bytes.length c) (.int .i64 (F.size:Nat)) (.int .i64 0) (.bool F.wrong) (.int .i64 0) /\ OwnN 5 .u8 A (rp + 1) a c F.bytes) ∧
  A.heap[w.heap.size]? = some (.cells #[.int .i64 (keep:Nat)] 3 (0,0)) /\ (∀ r ∈ ns,rp < r /\ A.heap[r]? = some (.deferred (some []))) /\ Below w.heap.size w A /\ w.heap.size + 3 <= rp /\ rp < A.heap.size
theorem BzK.only {w A B:World} {T:Nat -> Prop} {keep rp:Nat} {ns:List Nat} {F:BzF} (h:BzK w keep rp ns F A) (ho:Only T A B) (h0:∀ b,T b -> w.heap.size + 3 <= b) (hn:∀ r ∈ ns,¬ T r) (hu:∀ g cs fr,T g -> A.heap[g]? = some (.cells cs 5 fr) -> g <= rp):BzK w keep rp ns F B:=by
 obtain ⟨⟨a,c,h1,h2⟩,h3,h4,h5,h6,h7⟩:=h
 refine ⟨⟨a,c,h1.only ho (fun t=>by have:=h0 _ t;omega) (fun t=>by have:=h0 _ t;omega),?_⟩,Zad h3 ho (fun t=>by have:=h0 _ t;omega),fun r hr=>⟨(h4 r hr).1,Zad (h4 r hr).2 ho (hn r hr)⟩,Below.only h5 ho (Nat.le_refl _) (fun b t=>by have:=h0 _ t;omega),h6,Nat.lt_of_lt_of_le h7 ho.size⟩
 refine h2.onlyG2 ho (fun g hg t=>?_)
 rcases h2.2 with ⟨e,_⟩ | ⟨g2,c2,cur,e,e1,e2,_⟩
 ·rw [hg] at e;cases e
 ·rw [hg] at e
  simp only [Value.slice.injEq,Option.some.injEq,Addr.mk.injEq,and_true] at e
  obtain ⟨rfl,_⟩:=e
  have:=hu _ _ _ t e2
  omega
theorem three (w:World) (x y z:Obj):((((w.alloc x).alloc y).alloc z).heap.size = w.heap.size + 3 /\ (((w.alloc x).alloc y).alloc z).heap[w.heap.size]? = some x /\ (((w.alloc x).alloc y).alloc z).heap[w.heap.size + 1]? = some y /\ (((w.alloc x).alloc y).alloc z).heap[w.heap.size + 1 + 1]? = some z /\ Below w.heap.size w (((w.alloc x).alloc y).alloc z)):=by
 have e1:=World.alloc_heap_new w x
 have e2:=World.alloc_heap_new (w.alloc x) y
 have e3:=World.alloc_heap_new ((w.alloc x).alloc y) z
 simp only [World.size_alloc] at e2 e3
 refine ⟨by simp,?_,?_,e3,?_⟩
 ·rw [Below.heap_alloc _ _ _ (by simp;omega),Below.heap_alloc _ _ _ (by simp)];exact e1
 ·rw [Below.heap_alloc _ _ _ (by simp)];exact e2
 ·exact (((Below.refl _ _).alloc (Nat.le_refl _) _).alloc (by simp) _).alloc (by simp;omega) _
theorem Zgp {P:Program} {fn:Func} {tmps:Array Value} {R:Ending -> World -> Prop} {u:FrameMode} (hu:u ≠ .run) (ds:List Deferred) (N:Nat) (M:World -> Prop) (hM:∀ w r,N <= r -> M w -> w.heap[r]? = some (.deferred (some [])) -> M (w.putObj r (.deferred none))) (h:∀ w,M w -> LeavesC P fn tmps R ds u w) :
  ∀ (ns:List Nat) (w:World),ns.Nodup -> (∀ r ∈ ns,N <= r /\ w.heap[r]? = some (.deferred (some []))) -> M w -> LeavesC P fn tmps R (marksD ns ds) u w
 | [],w,_,_,hw=>h w hw
 | r :: ns,w,hn,hr,hw=>by
  rw [List.nodup_cons] at hn
  refine ⟨hu,.inl ⟨r,_,rfl,run_takeDeferred (hr r (List.mem_cons_self ..)).2,?_⟩⟩
  refine Zgp hu ds N M hM h ns _ hn.2 (fun k hk=>⟨(hr k (List.mem_cons_of_mem _ hk)).1,?_⟩) (hM w r (hr r (List.mem_cons_self ..)).1 hw (hr r (List.mem_cons_self ..)).2)
  rw [World.putObj_heap_other (by intro e;exact hn.1 (e ▸ hk))]
  exact (hr k (List.mem_cons_of_mem _ hk)).2
theorem OwnN.putMark {E:TypeId} {k:IntKind} {A:World} {base c r:Nat} {a:Option Addr} {l:List Nat} (h:OwnN E k A base a c l) (hr:A.heap[r]? = some (.deferred (some []))):OwnN E k (A.putObj r (.deferred none)) base a c l:=by
 refine h.onlyG2 ((Only.refl (fun b=>b = r) A).putLoop (r:=r) rfl _) (fun g hg e=>?_)
 have e:g = r:=e
 subst e
 rcases h.2 with ⟨e,_⟩ | ⟨g2,c2,cur,e,e1,e2,_⟩
 ·rw [hg] at e;cases e
 ·rw [hg] at e
  simp only [Value.slice.injEq,Option.some.injEq,Addr.mk.injEq,and_true] at e
  obtain ⟨rfl,_⟩:=e
  rw [hr] at e2
  cases e2
theorem ZRes.putMark {q r:Nat} {A:World} {x0 x1 x2 x3 z:Value} (h:ZRes q A x0 x1 x2 x3 z) (hr:A.heap[r]? = some (.deferred (some []))):ZRes q (A.putObj r (.deferred none)) x0 x1 x2 x3 z:=by
 refine h.only ((Only.refl (fun b=>b = r) A).putLoop (r:=r) rfl _) (fun e=>?_) (fun e=>?_)
 ·have e:q = r:=e
  rw [<- e,h.1] at hr;cases hr
 ·have e:q + 1 = r:=e
  rw [<- e,h.2] at hr;cases hr
theorem Zsh {w A:World} {n base c:Nat} {F:BzF} {R:Option BzF} {tmps:Array Value} {ns:List Nat} {a:Option Addr} (hR:R = some F) (h:ZRes (w.heap.size + 1) A (.slice a F.bytes.length c) (.int .i64 (F.size:Nat)) (.int .i64 (n:Nat)) (.bool F.wrong) (.int .i64 0)) (ho:OwnN 5 .u8 A base a c F.bytes) (hb:Below w.heap.size w A)
  (hns:∀ r ∈ ns,w.heap.size <= r /\ A.heap[r]? = some (.deferred (some []))) (hnd:ns.Nodup) (t4:tmps.getD 4 undef = .pointer (some ⟨w.heap.size + 1,0,none⟩)) (t5:tmps.getD 5 undef = .pointer (some ⟨w.heap.size + 1 + 1,0,none⟩)) :
  LeavesC Tryz.prog Tryz.f8 tmps (BzOut w n R) (marksD ns (bzDef (w.heap.size + 1))) .returning A:=by
 subst hR
 refine Zgp (by simp) _ w.heap.size (fun A=>ZRes (w.heap.size + 1) A (.slice a F.bytes.length c) (.int .i64 (F.size:Nat)) (.int .i64 (n:Nat)) (.bool F.wrong) (.int .i64 0) /\ OwnN 5 .u8 A base a c F.bytes /\ Below w.heap.size w A) ?_ ?_ ns A hnd hns ⟨h,ho,hb⟩
 ·rintro B r hn ⟨h1,h2,h3⟩ hr
  exact ⟨h1.putMark hr,h2.putMark hr,Below.only h3 ((Only.refl (fun b=>b = r) B).putLoop (r:=r) rfl _) (Nat.le_refl _) (fun b e=>by have e:b = r:=e;omega)⟩
 ·rintro B ⟨h1,h2,h3⟩
  exact Zzk h1 t4 t5 ⟨h3,a,c,rfl,h2.row⟩
theorem Zlj {w A:World} {n:Nat} {x0 x1 x2 x3 z:Value} {R:Option BzF} {tmps:Array Value} {ns:List Nat} (hR:R = none) (h:ZRes (w.heap.size + 1) A x0 x1 x2 x3 z) (hb:Below w.heap.size w A)
  (hns:∀ r ∈ ns,w.heap.size <= r /\ A.heap[r]? = some (.deferred (some []))) (hnd:ns.Nodup) (t4:tmps.getD 4 undef = .pointer (some ⟨w.heap.size + 1,0,none⟩)) (t5:tmps.getD 5 undef = .pointer (some ⟨w.heap.size + 1 + 1,0,none⟩)) :
  LeavesC Tryz.prog Tryz.f8 tmps (BzOut w n R) (marksD ns (bzDef (w.heap.size + 1))) (.panicking formP) A:=by
 subst hR
 refine Zgp (by simp) _ w.heap.size (fun A=>ZRes (w.heap.size + 1) A x0 x1 x2 x3 z /\ Below w.heap.size w A) ?_ ?_ ns A hnd hns ⟨h,hb⟩
 ·rintro B r hn ⟨h1,h3⟩ hr
  exact ⟨h1.putMark hr,Below.only h3 ((Only.refl (fun b=>b = r) B).putLoop (r:=r) rfl _) (Nat.le_refl _) (fun b e=>by have e:b = r:=e;omega)⟩
 ·rintro B ⟨h1,h3⟩
  refine Zsi h1 t4 t5 ⟨?_,rfl⟩
  unfold setZ
  exact (((((h3.setCell (p:=⟨w.heap.size + 1,0,none⟩) (Nat.le_succ _) _).setCell (p:=⟨w.heap.size + 1,1,none⟩) (Nat.le_succ _) _).setCell (p:=⟨w.heap.size + 1,2,none⟩) (Nat.le_succ _) _).setCell (p:=⟨w.heap.size + 1,3,none⟩) (Nat.le_succ _) _).setCell (p:=⟨w.heap.size + 1 + 1,0,none⟩) (by show w.heap.size <= w.heap.size + 1 + 1;omega) _)
def BzR (w:World) (keep rp fb:Nat) (ns:List Nat) (z m:Nat) (S:BzF × Nat) (A:World):Prop :=
 BzK w keep rp ns S.1 A /\ A.heap[fb]? = some (.cells #[.int .u32 (S.2:Nat)] 46 (0,0)) /\ S.1.bytes.length <= keep /\ S.1.size <= z + 255000000 * m /\ S.2 < 4294967296 /\ A.heap[fb + 1]? = some (.cells #[.pointer (some ⟨rp,0,none⟩)] 43 (0,0))
theorem BzR.only {w A B:World} {T:Nat -> Prop} {keep rp fb z m:Nat} {ns:List Nat} {S:BzF × Nat} (h:BzR w keep rp fb ns z m S A) (ho:Only T A B) (h0:∀ b,T b -> w.heap.size + 3 <= b) (hn:∀ r ∈ ns,¬ T r) (hu:∀ g cs fr,T g -> A.heap[g]? = some (.cells cs 5 fr) -> g <= rp) (hf:¬ T fb) (hf1:¬ T (fb + 1)):BzR w keep rp fb ns z m S B :=
 ⟨h.1.only ho h0 hn hu,Zad h.2.1 ho hf,h.2.2.1,h.2.2.2.1,h.2.2.2.2.1,Zad h.2.2.2.2.2 ho hf1⟩
theorem BzR.put {w A:World} {keep rp fb z m l n:Nat} {ns:List Nat} {S:BzF × Nat} (h:BzR w keep rp fb ns z m S A) {o o':Obj} (hl:A.heap[l]? = some o) (ho:o.isCells = false) (hn:n <= l) (hns:∀ r ∈ ns,r < n) (hw:w.heap.size + 3 <= n) (hf:fb + 1 < n):BzR w keep rp fb ns z m S (A.putObj l o') :=
 h.only ((Only.refl (fun b=>b = l) A).putLoop (r:=l) rfl _) (fun b e=>by have e:b = l:=e;omega) (fun r hr e=>by have e:r = l:=e;have:=hns r hr;omega) (fun g cs fr e hg=>by
  have e:g = l:=e
  subst e
  rw [hl] at hg
  cases hg
  cases ho) (fun e=>by have e:fb = l:=e;omega) (fun e=>by have e:fb + 1 = l:=e;omega)
theorem RowN.putNon {k:IntKind} {A:World} {a:Option Addr} {c l:Nat} {x:List Nat} (h:RowN k A a c x) {o o':Obj} (hl:A.heap[l]? = some o) (ho:o.isCells = false):RowN k (A.putObj l o') a c x:=by
 refine h.same (by rw [World.putObj_size];exact Nat.le_refl _) (fun y h0 hy=>World.putObj_heap_other ?_)
 intro e
 obtain ⟨b,off,hb,_,hc⟩:=h.at h0
 rw [hy] at hb
 cases hb
 have e2:b = l:=e
 subst e2
 unfold World.cell? at hc
 simp only [hl] at hc
 cases o <;> simp_all [Obj.isCells]
theorem BzK.mark {w A:World} {keep rp r:Nat} {ns:List Nat} {F:BzF} (h:BzK w keep rp ns F A) (hr:rp < r) (hd:A.heap[r]? = some (.deferred (some []))):BzK w keep rp (r :: ns) F A:=by
 obtain ⟨h1,h3,h4,h5⟩:=h
 refine ⟨h1,h3,fun k hk=>?_,h5⟩
 rcases List.mem_cons.1 hk with rfl | hk
 ·exact ⟨hr,hd⟩
 ·exact h4 k hk
theorem BzK.wrong {w A:World} {keep rp:Nat} {ns:List Nat} {F:BzF} (h:BzK w keep rp ns F A):BzK w keep rp ns { F with wrong:=true } (A.setCell ⟨w.heap.size + 1,3,none⟩ (.bool true)):=by
 obtain ⟨⟨a,c,⟨h1,h2⟩,h8⟩,h3,h4,h5,h6,h7⟩:=h
 have hO:Only (fun b=>b = w.heap.size + 1) A (A.setCell ⟨w.heap.size + 1,3,none⟩ (.bool true)):=(Only.refl (fun b=>b = w.heap.size + 1) A).setCell (p:=⟨w.heap.size + 1,3,none⟩) (.inl rfl) _
 refine ⟨⟨a,c,⟨?_,Zad h2 hO (by omega)⟩,h8.only hO (fun b hb e=>by omega)⟩,Zad h3 hO (by omega),fun r hr=>⟨(h4 r hr).1,Zad (h4 r hr).2 hO (fun e=>by have:=(h4 r hr).1;omega)⟩,Below.only h5 hO (Nat.le_refl _) (fun b e=>by omega),h6,Nat.lt_of_lt_of_le h7 hO.size⟩
 simpa using Zao (i:=3) (x:=.bool true) h1
theorem neqU (t:TypeId) (x y:Nat) (w:World):(binOp .neq t (.int .u32 (x:Nat)) (.int .u32 (y:Nat)):Sem Value).run Tryz.prog w = .ok (.bool (!((x:Int) == (y:Int)))) w:=by
 simp [binOp,go_sem]
 rfl
theorem eqgN (t:TypeId) (x y:Operand) (u v:Nat) (w:World):(eqGuard .neq t x y (.int .u32 (u:Nat)) (.int .u32 (v:Nat))).run Tryz.prog w = .ok () w:=by simp [eqGuard,go_sem]
theorem ldU32 (p:Addr) (v:Value) (w:World) (h:w.cell? p = some v):(Instr.loadAt 46 (.pointer (some p))).run Tryz.prog w = .ok v w:=by
 simp [Instr.loadAt,Instr.sureAddr,go_sem,h]
theorem Zabz {keep n lf:Nat} (h:keep <= 1000000) (e:keep - n = lf):lf <= 1000000:=by omega
theorem Zzy {lf:Nat} (h:lf <= 1000000):wrap64 (lf:Int) = (lf:Int):=IntWalk.wrap64_in _ (by omega)
theorem Zabq {keep n lf:Nat} (h:n <= keep) (e:keep - n = lf):(keep:Int) - (n:Int) = (lf:Int):=by omega
theorem Zwi {a b c:Nat} (h:a + b = c) (hc:c <= 9000000000000000000):IntKind.i64.wrap ((a:Int) + (b:Int)) = (c:Int) /\ wrap64 ((a:Int) + (b:Int)) = (c:Int) /\ (a:Int) + (b:Int) = (c:Int) /\ wrap64 (c:Int) = (c:Int):=⟨by rw [IntWalk.i64_in _ (by omega)];omega,by rw [IntWalk.wrap64_in _ (by omega)];omega,by omega,IntWalk.wrap64_in _ (by omega)⟩
theorem fa3 (f:Nat) (w:World):(Instr.fieldAt 24 (.pointer (some ⟨f,0,none⟩)) 3).run Tryz.prog w = .ok (.pointer (some ⟨f,3,none⟩)) w:=by kernel_rfl
theorem fp1 (f:Nat) (w:World):(Instr.fieldAt 51 (.pointer (some ⟨f,0,none⟩)) 1).run Tryz.prog w = .ok (.pointer (some ⟨f,1,none⟩)) w:=by kernel_rfl
theorem ldB (p:Addr) (v:Value) (w:World) (h:w.cell? p = some v):(Instr.loadAt 4 (.pointer (some p))).run Tryz.prog w = .ok v w:=by
 simp [Instr.loadAt,Instr.sureAddr,loadVar,isAgg,run_underlying Tryz.underlying4,h,go_sem]
theorem stB (p:Addr) (b:Bool) (u:Value) (w:World) (h:w.cell? p = some u) (hf:w.frozen? p = false):(Instr.storeAt 4 (.pointer (some p)) (.bool b)).run Tryz.prog w = .ok () (w.setCell p (.bool b)):=by
 simp [Instr.storeAt,Instr.sureAddr,storeVar,isAgg,run_underlying Tryz.underlying4,h,hf,go_sem]
theorem eqgL (t:TypeId) (x y:Operand) (u v:Value) (w:World):(eqGuard .leq t x y u v).run Tryz.prog w = .ok () w:=by simp [eqGuard,go_sem]
theorem leqI (t:TypeId) (x y:Int) (w:World):(binOp .leq t (.int .i64 x) (.int .i64 y):Sem Value).run Tryz.prog w = .ok (.bool (decide (x <= y))) w:=by
 simp [binOp,go_sem]
theorem Zabd {a b keep:Nat} (h1:a <= keep) (hk:keep <= 1000000) (h2:b <= 1000000):a + b <= 9223372036854775807 /\ (a + b) * 1 <= 140737488355328:=by omega
theorem OwnN.lies {E:TypeId} {k:IntKind} {w:World} {base cap g:Nat} {l:List Nat} (h:OwnN E k w base (some ⟨g,0,none⟩) cap l):base <= g /\ g < w.heap.size /\ ∃ cs,w.heap[g]? = some (.cells cs E (0,0)):=by
 rcases h.2 with ⟨e,_⟩ | ⟨g2,c2,cur,e,e1,e2,_⟩
 ·cases e
 ·simp only [Value.slice.injEq,Option.some.injEq,Addr.mk.injEq,and_true] at e
  obtain ⟨rfl,_⟩:=e
  exact ⟨e1,lt_of_block e2,cur,e2⟩
theorem Zxv {a:Option Addr} {n c g:Nat} (h:(Value.slice a n c).ownBlock = some g) (hf:a = none \/ ∃ g0,a = some ⟨g0,0,none⟩):a = some ⟨g,0,none⟩:=by
 rcases hf with rfl | ⟨g0,rfl⟩
 ·simp [Value.ownBlock] at h
 ·simp [Value.ownBlock] at h
  rw [h]
theorem Zvk {s z i x y:Nat} (h:s <= z + 255000000 * i) (hx:x <= 255 * y) (hy:y <= 1000000):s + x <= z + 255000000 * (i + 1):=by omega
theorem Zvt {n keep lf x:Nat} (h:n <= keep) (e:keep - n = lf) (hx:x <= lf):n + x <= keep:=by omega
theorem Zzm {keep lf:Nat} {S:BzF × Nat} {p:List Nat × Nat} {sl gl:List Nat} {nw:Bool} {z2:Nat} (h1:sl = say p.1) (h2:keep - S.1.bytes.length = lf) (h3:gl = sl.take lf) (h4:(S.1.wrong || (decide (sl.length <= lf) && !(crcHigh gl == p.2))) = nw) (h5:S.1.size + sl.length = z2) :
  partF keep S p = ({ bytes:=S.1.bytes ++ gl,size:=z2,wrong:=nw },foldS S.2 p.2):=by
 subst h1 h2 h3 h4 h5
 rfl
theorem KeepsFrom.ofOnlyZ {T:Nat -> Prop} {N:Nat} {A B:World} (h:Only T A B) (hc:∀ b o,T b -> A.heap[b]? = some o -> o.isCells = true):KeepsFrom N A B :=
 ⟨h.size,fun b o _ ho hn=>(h.block b (Array.getElem?_eq_some_iff.1 ho).1 (fun t=>by rw [hc b o t ho] at hn;cases hn)).trans ho⟩
theorem SameOn.ofOnlyZ {S T:Nat -> Prop} {A B:World} (h:Only T A B) (hS:∀ b,S b -> b < A.heap.size /\ ¬ T b):SameOn S A B :=
 ⟨h.size,fun b hb=>h.block b (hS b hb).1 (hS b hb).2⟩
end Go.Proofs.YtnkpnjnfddjfpaaGreat

namespace Go.Proofs.YtnkpnjnfddjfpaaGreat
open Go.RowKit M01 M02 M04 M06 M10 M27
theorem Zyi {B:List Nat} {keep a a3:Nat} {F F2:BzF} (h:strmR B keep F a = some (F2,a3)):a < a3:=by
 unfold strmR endR at h
 obtain ⟨a2,h1,h⟩:=Option.bind_eq_some_iff.1 h
 obtain ⟨c,h2,h⟩:=Option.bind_eq_some_iff.1 h
 have:=Zmx _ _ _ h1
 have:=(Zbq (x:=c.1) (a2:=c.2) h2).1
 simp only [Option.some.injEq,Prod.mk.injEq] at h
 omega
theorem Zrv {q:Nat} {A:World} {x0 x1 x2 x3:Value} {tmps:Array Value} {Q:Ending -> World -> Prop} {er:Int} (h:FourC q A x0 x1 x2 x3) (t4:tmps.getD 4 undef = .pointer (some ⟨q,0,none⟩)) (t5:tmps.getD 5 undef = .int .i64 er)
  (hO:Q (.returned (.tuple #[.agg #[x0,x1,x2,x3],.int .i64 er])) A):bodyPost Tryz.prog Tryz.f9 Q .ret { tmps:=tmps,defers:=[] } A:=by
 obtain ⟨c0,c1,c2,c3,_,_⟩:=Zac h
 have s4:tmps[4]?.getD undef = .pointer (some ⟨q,0,none⟩):=by simpa using t4
 have s5:tmps[5]?.getD undef = .int .i64 er:=by simpa using t5
 exact bodyPost_ret (v:=.tuple #[.agg #[x0,x1,x2,x3],.int .i64 er]) (by simp [results,Tryz.results9,go_sem,s4,s5,c0,c1,c2,c3]) rfl hO
theorem Zol {q n:Nat} {w A:World} {R:Option BzF} {y0 y1 y2 y3:Value} {tmps:Array Value} {er:Int} (h:FourC q A y0 y1 y2 y3) (x0 x1 x2 x3:Value) (t4:tmps.getD 4 undef = .pointer (some ⟨q,0,none⟩)) (t5:tmps.getD 5 undef = .int .i64 er)
  (hO:BzOut w n R (.returned (.tuple #[.agg #[x0,x1,x2,x3],.int .i64 er])) (setC4 q A x0 x1 x2 x3)):bodyPost Tryz.prog Tryz.f9 (BzOut w n R) .ret { tmps:=tmps,defers:=[] } (setC4 q A x0 x1 x2 x3):=Zrv (Zfq h x0 x1 x2 x3) t4 t5 hO
theorem Ztb {b p:Nat} {A:World} {x0 x1 x2 x3:Value} (h:FourC b A x0 x1 x2 x3) (hn:b ≠ p) (y0 y1 y2 y3:Value):FourC b (setC4 p A y0 y1 y2 y3) x0 x1 x2 x3:=Zdz (Zdz (Zdz (Zdz h hn _) hn _) hn _) hn _
theorem Zpv {w w':World} {n:Nat} {R:Option BzF} (hR:R = none) (hb:Below w.heap.size w w'):BzOut w n R (.returned (.tuple #[.agg #[.slice none 0 0,.int .i64 0,.int .i64 0,.bool false],.int .i64 2])) w':=by
 subst hR;exact ⟨hb,rfl⟩
theorem Zpw {w w':World} {n:Nat} {R:Option BzF} {F:BzF} {a:Option Addr} {c:Nat} (hR:R = some F) (hb:Below w.heap.size w w') (hr:RowN .u8 w' a c F.bytes):BzOut w n R (.returned (.tuple #[.agg #[.slice a F.bytes.length c,.int .i64 (F.size:Nat),.int .i64 (n:Nat),.bool F.wrong],.int .i64 0])) w':=by
 subst hR;exact ⟨hb,a,c,rfl,hr⟩
set_option maxRecDepth 100000 in
set_option maxHeartbeats 1600000 in
theorem Zus (w:World) (a:Option Addr) (cap n:Nat) (keep:Int) (hk:keep < 0) :
  Calls Tryz.prog 9 #[.slice a n cap,.int .i64 keep] w fun e w'=>e = .returned (.tuple #[.agg #[.slice none 0 0,.int .i64 0,.int .i64 0,.bool false],.int .i64 5]) /\ Below w.heap.size w w':=by
 have t1:decide (keep < 0) = true:=by simp;omega
 obtain ⟨W,hW⟩:∃ W,W = w.alloc (.cells #[.slice none 0 0,.int .i64 0,.int .i64 0,.bool false] 24):=⟨_,rfl⟩
 have HS:Hid (FourC w.heap.size W (.slice none 0 0) (.int .i64 0) (.int .i64 0) (.bool false)):=by unfold Hid FourC;rw [hW];exact Zcl _ _ rfl
 have HB:Hid (Below w.heap.size w W):=by rw [hW];exact Zai w _
 have HW:=Zh hW
 clear hW
 obtain ⟨c0,c1,c2,c3,_,_⟩:=Zac HS.out
 obtain ⟨f0,f1,f2,f3⟩:=Zaf HS.out
 go_enter Tryz.func9,Tryz.ntmps9
 go_wp2_with fail
 rw [<- HW.out]
 go_wp2_with fail
 exact Zrv HS.out rfl rfl ⟨rfl,HB.out⟩
set_option maxRecDepth 100000 in
set_option maxHeartbeats 3200000 in
theorem Zml (w:World) (a:Option Addr) (cap:Nat) (bs:List Nat) (keep:Nat) (hr:RowN .u8 w a cap bs) (h256:∀ x ∈ bs,x < 256) (hl:bs.length <= 1000) (hk:keep <= 1000000) :
  Calls Tryz.prog 9 #[.slice a bs.length cap,.int .i64 (keep:Nat)] w (BzOut w bs.length (bzG (rv bs) keep (nb (rv bs) + 1) 0 ⟨[],0,false⟩)):=by
 obtain ⟨R,hR⟩:∃ R,R = bzG (rv bs) keep (nb (rv bs) + 1) 0 ⟨[],0,false⟩:=⟨_,rfl⟩
 rw [<- hR]
 have t1:decide ((keep:Int) < 0) = false:=by simp
 have hrl:(rv bs).length = bs.length:=Zba bs
 have HOF:=Zh (fun A h=>Zga a cap bs A h h256 hl)
 have HR:=Zh hr
 have HKE:=Zh hk
 have HRL:Hid ((rv bs).length <= 1000):=by rw [hrl];exact hl
 have HLL:Hid ((bitL (rv bs)).length = nb (rv bs)):=Zbo (rv bs)
 have HN8:Hid (8 * bs.length = nb (rv bs)):=by unfold Hid nb;rw [hrl]
 have hbl:=hl
 have HR0:=Zh hR
 clear hr hk hrl hR h256 hl
 generalize rv bs = B at *
 rw [HLL.out] at HOF
 generalize hn8:nb B = n8 at *
 have HNB:=Zh hn8
 clear hn8
 obtain ⟨q,hq⟩:∃ q,w.heap.size = q:=⟨_,rfl⟩
 have HQ:=Zh hq
 obtain ⟨W,hW⟩:∃ W,W = w.alloc (.cells #[.slice none 0 0,.int .i64 0,.int .i64 0,.bool false] 24):=⟨_,rfl⟩
 have HS:Hid (FourC q W (.slice none 0 0) (.int .i64 0) (.int .i64 0) (.bool false)):=by unfold Hid FourC;rw [hW];exact Zcl _ _ hq.symm
 have HB:Hid (Below w.heap.size w W):=by rw [hW];exact Zai w _
 have HW:=Zh hW
 clear hW hq
 go_enter Tryz.func9,Tryz.ntmps9
 go_wp2_with fail
 rw [<- HW.out,HQ.out]
 refine (HOF.out W (HR.out.below HB.out)).mono ?_
 rintro e w1 ⟨rg,rc,rfl,hown,hb1⟩
 have HS1:=Zh (FourC.below HS.out hb1)
 have HB1:=Zh (HB.out.trans (hb1.mono HB.out.size))
 have HROW:=Zh hown.row
 clear hown hb1 HS HB HW
 go_wp2_with fail
 obtain ⟨p,hp⟩:∃ p,w1.heap.size = p:=⟨_,rfl⟩
 have HQP:Hid (q < p):=by have:=lt_of_block HS1.out;unfold Hid;omega
 rw [hp]
 have HS2:=Zh (HS1.out.below (Zai w1 (.cells #[.slice none 0 0,.int .i64 0,.int .i64 (bs.length:Nat),.bool false] 24)))
 have HP2:Hid (FourC p (w1.alloc (.cells #[.slice none 0 0,.int .i64 0,.int .i64 (bs.length:Nat),.bool false] 24)) (.slice none 0 0) (.int .i64 0) (.int .i64 (bs.length:Nat)) (.bool false)):=Zcl _ _ hp.symm
 have HROW2:=Zh (HROW.out.below (Zai w1 (.cells #[.slice none 0 0,.int .i64 0,.int .i64 (bs.length:Nat),.bool false] 24)))
 have HRLT:Hid (∀ x,0 < n8 -> rg = some x -> x.block < p):=fun x h0 hx=>by rw [<- hp];exact Zoa HROW.out (by rw [HLL.out];exact h0) x hx
 have HB2:=Zh (HB1.out.trans ((Zai w1 (.cells #[.slice none 0 0,.int .i64 0,.int .i64 (bs.length:Nat),.bool false] 24)).mono HB1.out.size))
 have HSZ2:Hid ((w1.alloc (.cells #[.slice none 0 0,.int .i64 0,.int .i64 (bs.length:Nat),.bool false] 24)).heap.size = p + 1):=by unfold Hid;simp [hp]
 generalize w1.alloc (.cells #[.slice none 0 0,.int .i64 0,.int .i64 (bs.length:Nat),.bool false] 24) = w2 at *
 have HQW:Hid (w.heap.size <= p):=by have:=HB1.out.size;unfold Hid;omega
 have HF0:Hid (R = bzG B keep (n8 + 1) 0 ⟨[],0,false⟩):=HR0.out
 clear HS1 HB1 HROW hp HR0
 have hn8m:n8 <= 8000:=by have:=HN8.out;omega
 go_loopw [8] (fun av A=>∃ (at2 f:Nat) (F:BzF) (ga:Option Addr) (gc:Nat),av = .int .i64 (at2:Nat) /\ Hid (at2 <= n8) /\ Hid (FourC q A (.slice none 0 0) (.int .i64 0) (.int .i64 0) (.bool false)) /\ Hid (FourC p A (.slice ga F.bytes.length gc) (.int .i64 (F.size:Nat)) (.int .i64 (bs.length:Nat)) (.bool F.wrong)) /\ Hid (OwnN 5 .u8 A (p + 1) ga gc F.bytes) /\ Hid (Below p w2 A) /\ Hid (F.bytes.length = min keep F.size) /\ Hid (F.size <= at2 * 255000000) /\ Hid (n8 + 1 <= f + at2 /\ R = bzG B keep f at2 F)) (fun av _=>n8 + 1 - (intOf av).toNat)
 case atStart=>exact ⟨0,n8 + 1,⟨[],0,false⟩,none,0,rfl,Nat.zero_le _,HS2.out,HP2.out,OwnN.nil _ _ _ _,Below.refl _ _,(by show 0 = min keep 0;omega),Nat.zero_le _,Nat.le_refl _,HF0.out⟩
 case round =>
  clear HS2 HP2 HF0
  obtain ⟨at2,f,F,ga,gc,rfl,HAT,HS,HP,HOWN,HBW,HLEN,HSZ,HF⟩:=hrel
  obtain ⟨Fb,Fs,Fw⟩:=F
  dsimp only at *
  have hrow:∀ A,Below (p + 1) wr A -> RowB A rg rc (bitL B):=fun A hA=>by
   have h3:Below p w2 A:=HBW.out.trans (hA.mono (Nat.le_succ p))
   exact HROW2.out.same h3.size fun x h0 hx=>h3.block _ (HRLT.out x (by rw [<- HLL.out];exact h0) hx)
  have hpw:p + 1 <= wr.heap.size:=Nat.succ_le_of_lt (lt_of_block HP.out)
  have HST:=Zh (Zmm rg rc B at2 keep (p + 1) bs.length ⟨Fb,Fs,Fw⟩ ga gc wr hrow HRL.out (by rw [HNB.out];exact HAT.out) HKE.out HOWN.out hpw HLEN.out HSZ.out)
  rw [HLL.out] at HST
  rw [HNB.out] at HST
  have HPW:=Zh hpw
  obtain ⟨f,rfl⟩:∃ f',f = f' + 1:=⟨f - 1,by have:=HF.out.1;have:=HAT.out;omega⟩
  have HF2:Hid (R = (strmR B keep ⟨Fb,Fs,Fw⟩ at2).bind fun r=>if r.2 < n8 then bzG B keep f r.2 r.1 else some r.1):=by unfold Hid;rw [HF.out.2,Zwu,HNB.out]
  have HFF:Hid (n8 + 1 <= f + 1 + at2):=HF.out.1
  clear hrow hpw HF
  obtain ⟨c0,c1,c2,c3,_,_⟩:=Zac HP.out
  go_wp2_with fail
  refine HST.out.mono ?_
  rintro e w4 ⟨hb4,ho4⟩
  have HB4:=Zh hb4
  have HS4:Hid (FourC q w4 (.slice none 0 0) (.int .i64 0) (.int .i64 0) (.bool false)):=(hb4.block q (by have:=HQP.out;omega)).trans HS.out
  have HP4:Hid (FourC p w4 (.slice ga Fb.length gc) (.int .i64 (Fs:Nat)) (.int .i64 (bs.length:Nat)) (.bool Fw)):=(hb4.block p (Nat.lt_succ_self p)).trans HP.out
  have HB4P:=Zh (HBW.out.trans (hb4.mono (Nat.le_succ p)))
  have HQB:Hid (w.heap.size <= q):=by rw [HQ.out];exact Nat.le_refl q
  clear hb4 HST c0 c1 c2 c3 HS HP HBW
  generalize hST:strmR B keep ⟨Fb,Fs,Fw⟩ at2 = T at *
  rcases T with _ | ⟨G,at3⟩
  ·obtain ⟨xa,xn,xc,xs,xu,m,er,xb,rfl,her⟩:=ho4
   have t2:(er == 0) = false:=beq_eq_false_iff_ne.2 her
   have HFN:Hid (R = none):=HF2.out
   have HS5:=Zh (HS4.out.below (Zai w4 (.cells #[.slice xa xn xc,.int .i64 xs,.int .i64 xu,.bool xb] 24)))
   obtain ⟨d0,d1,d2,d3,_,_⟩:=Zac HS5.out
   obtain ⟨e0,e1,e2,e3⟩:=Zaf HS5.out
   have HB5:Hid (Below w.heap.size w (w4.alloc (.cells #[.slice xa xn xc,.int .i64 xs,.int .i64 xu,.bool xb] 24))):=(HB2.out.trans (HB4P.out.mono HQW.out)).trans ((Zai w4 _).mono (by have:=(HB2.out.trans (HB4P.out.mono HQW.out)).size;exact this))
   clear her
   go_wp2_with fail
   exact Zol HS5.out _ _ _ _ rfl rfl (Zpv HFN.out (HB5.out.trans (Zau HQB.out _ _ _ _)))
  obtain ⟨ha,hc,rfl,hown4,hal3,hlen4,hsz4⟩:=ho4
  have hlt:=Zyi hST
  have HB24:Hid (Below w.heap.size w w4):=HB2.out.trans (HB4P.out.mono HQW.out)
  obtain ⟨Gb,Gs,Gw⟩:=G
  dsimp only at *
  obtain ⟨W5,hW5⟩:∃ W5,W5 = w4.alloc (.cells #[.slice ha Gb.length hc,.int .i64 (Gs:Nat),.int .i64 (bs.length:Nat),.bool Gw] 24):=⟨_,rfl⟩
  have HS5:Hid (FourC q W5 (.slice none 0 0) (.int .i64 0) (.int .i64 0) (.bool false)):=by unfold Hid;rw [hW5];exact HS4.out.below (Zai w4 _)
  have HP5:Hid (FourC p W5 (.slice ga Fb.length gc) (.int .i64 (Fs:Nat)) (.int .i64 (bs.length:Nat)) (.bool Fw)):=by unfold Hid;rw [hW5];exact HP4.out.below (Zai w4 _)
  have HN5:Hid (FourC w4.heap.size W5 (.slice ha Gb.length hc) (.int .i64 (Gs:Nat)) (.int .i64 (bs.length:Nat)) (.bool Gw)):=by unfold Hid;rw [hW5];exact Zcl _ _ rfl
  have HO5:Hid (OwnN 5 .u8 W5 (p + 1) ha hc Gb):=by unfold Hid;rw [hW5];exact hown4.below (Zai w4 _)
  have HB5P:Hid (Below p w2 W5):=by unfold Hid;rw [hW5];exact HB4P.out.trans ((Zai w4 _).mono (by have:=lt_of_block HP4.out;omega))
  have HB5:Hid (Below w.heap.size w W5):=by unfold Hid;rw [hW5];exact HB24.out.trans ((Zai w4 _).mono HB24.out.size)
  have HW5:=Zh hW5
  have HH4:Hid (p < w4.heap.size):=lt_of_block HP4.out
  have HL4:=Zh hlen4
  have HSZ4:=Zh hsz4
  have HLT:=Zh hlt
  subst hW5
  clear hown4 hlen4 hsz4 hlt HB24 HW5
  obtain ⟨c0,c1,c2,c3,_,_⟩:=Zac HN5.out
  obtain ⟨d0,d1,d2,d3,_,_⟩:=Zac HP5.out
  obtain ⟨e0,e1,e2,e3⟩:=Zaf HP5.out
  by_cases h8:at3 = n8
  case neg =>
   have t3:((at3:Int) == (n8:Int)) = false:=beq_eq_false_iff_ne.2 (by omega)
   have HF3:Hid (R = bzG B keep f at3 ⟨Gb,Gs,Gw⟩):=by unfold Hid;rw [HF2.out];show (if _ then _ else _) = _;rw [if_pos (show at3 < n8 by omega)]
   clear h8
   go_wp2_with fail
   go_roundw
   case rel =>
    refine ⟨at3,f,⟨Gb,Gs,Gw⟩,ha,hc,by trivial,hal3,?_,Zfq HP5.out _ _ _ _,Zfy HO5.out (fun g hg e=>by have:=(Zbr HO5.out hg).1;omega) _ _ _ _,HB5P.out.trans (Zau (Nat.le_refl p) _ _ _ _),HL4.out,HSZ4.out,(by have:=HFF.out;have:=HLT.out;omega),HF3.out⟩
    exact Ztb HS5.out (Nat.ne_of_lt HQP.out) _ _ _ _
   case measure=>simp [intOf];have:=HLT.out;omega
  have t3:((at3:Int) == (n8:Int)) = true:=beq_iff_eq.2 (by omega)
  have HF3:Hid (R = some ⟨Gb,Gs,Gw⟩):=by unfold Hid;rw [HF2.out];show (if _ then _ else _) = _;rw [if_neg (show ¬ at3 < n8 by omega)]
  clear h8
  have hp6:=Zfq HP5.out (.slice ha Gb.length hc) (.int .i64 (Gs:Nat)) (.int .i64 (bs.length:Nat)) (.bool Gw)
  have hq6:=Ztb HS5.out (Nat.ne_of_lt HQP.out) (.slice ha Gb.length hc) (.int .i64 (Gs:Nat)) (.int .i64 (bs.length:Nat)) (.bool Gw)
  have HQ6:=Zh hq6
  have HB6:=Zh (HB5.out.trans (Zau HQW.out (.slice ha Gb.length hc) (.int .i64 (Gs:Nat)) (.int .i64 (bs.length:Nat)) (.bool Gw)))
  have hne6:∀ g,ha = some ⟨g,0,none⟩ -> g ≠ p:=fun g hg e=>by have:=(Zbr HO5.out hg).1;omega
  have HO6:=Zh (Zfy (p:=p) HO5.out hne6 (.slice ha Gb.length hc) (.int .i64 (Gs:Nat)) (.int .i64 (bs.length:Nat)) (.bool Gw))
  unfold setC4 at hp6 hq6 HQ6 HB6 HO6
  obtain ⟨k0,k1,k2,k3,_,_⟩:=Zac hp6
  obtain ⟨j0,j1,j2,j3,_,_⟩:=Zac hq6
  obtain ⟨i0,i1,i2,i3⟩:=Zaf hq6
  clear hp6 hq6
  clear hne6
  go_wp2_with fail
  exact Zol HQ6.out _ _ _ _ rfl rfl (Zpw (F:=⟨Gb,Gs,Gw⟩) HF3.out (HB6.out.trans (Zau HQB.out _ _ _ _)) ((Zfy HO6.out (fun (g:Nat) hg (e:g = q)=>by have h1:=(Zbr HO5.out hg).1;have h2:=HQP.out;omega) _ _ _ _).row))
end Go.Proofs.YtnkpnjnfddjfpaaGreat

namespace Go.Proofs.YtnkpnjnfddjfpaaGreat
open Go.RowKit
theorem list17 (l:List Value) (h:l.length = 17):∃ m0 m1 m2 m3 m4 m5 m6 m7 m8 m9 m10 m11 m12 m13 m14 m15 m16,l = m0 :: m1 :: m2 :: m3 :: m4 :: m5 :: m6 :: m7 :: m8 :: m9 :: m10 :: m11 :: m12 :: m13 :: m14 :: m15 :: m16 :: []:=by
 match l,h with
 | m0 :: m1 :: m2 :: m3 :: m4 :: m5 :: m6 :: m7 :: m8 :: m9 :: m10 :: m11 :: m12 :: m13 :: m14 :: m15 :: m16 :: [],_=>exact ⟨m0,m1,m2,m3,m4,m5,m6,m7,m8,m9,m10,m11,m12,m13,m14,m15,m16,rfl⟩
def Mid17 (l:List Value) (POST:World -> Prop):Exit -> Act -> World -> Prop:=fun e a' w'=>e = .normal /\ ∃ l',a' = ⟨List.toArray l',[]⟩ /\ l'.length = l.length /\ l'.take 37 = l.take 37 /\ l'.drop 54 = l.drop 54 /\ POST w'
theorem Zgs (l:List Value) (POST:World -> Prop):¬ LetsOut (Mid17 l POST):=by
 rintro ⟨a,w,h,_⟩
 cases h
theorem Zmn {F:Fence} {n id:Nat} {P:Program} {ops:Array Oper} {l:List Value} {w0:World} {Q:Exit -> Act -> World -> Prop} (POST:World -> Prop) (hl:54 <= l.length)
  (h1:(Code.region id ops true).wpIn F n P (Mid17 l POST) ⟨l.toArray,[]⟩ w0) (h2:∀ m0 m1 m2 m3 m4 m5 m6 m7 m8 m9 m10 m11 m12 m13 m14 m15 m16 w',POST w' -> Q .normal ⟨(l.take 37 ++ ((m0 :: m1 :: m2 :: m3 :: m4 :: m5 :: m6 :: m7 :: m8 :: m9 :: m10 :: m11 :: m12 :: m13 :: m14 :: m15 :: m16 :: []) ++ l.drop 54)).toArray,[]⟩ w'):(Code.region id ops true).wpIn F n P Q ⟨l.toArray,[]⟩ w0:=by
 refine wpIn_mono h1 ?_
 rintro e a' w' ⟨rfl,l',rfl,e1,e2,e3,hp⟩
 obtain ⟨m0,m1,m2,m3,m4,m5,m6,m7,m8,m9,m10,m11,m12,m13,m14,m15,m16,hm⟩:=list17 ((l'.drop 37).take 17) (by simp;omega)
 have:l' = l.take 37 ++ ((m0 :: m1 :: m2 :: m3 :: m4 :: m5 :: m6 :: m7 :: m8 :: m9 :: m10 :: m11 :: m12 :: m13 :: m14 :: m15 :: m16 :: []) ++ l.drop 54):=by
  rw [<- hm,<- e2,<- e3,show l'.drop 54 = (l'.drop 37).drop 17 by rw [List.drop_drop],List.take_append_drop,List.take_append_drop]
 rw [this]
 exact h2 m0 m1 m2 m3 m4 m5 m6 m7 m8 m9 m10 m11 m12 m13 m14 m15 m16 w' hp
theorem Zdf {y n:Nat} {P:Program} {ops:Array Oper} {Q:Exit -> Act -> World -> Prop} (hQ:¬ LetsOut Q):∀ (l:List Oper),(l.all fun o=>match o.op with | .defer _=>false | _=>true) = true -> ∀ (a:Act) (w:World),wpList P ops Q l a w -> wpListIn (Fence.wide.inRound y) n P ops Q l a w
 | [],_,a,w,h=>h
 | o :: rest,hd,a,w,h=>by
  rw [List.all_cons,Bool.and_eq_true] at hd
  unfold wpList at h
  unfold wpListIn
  split
  ·rename_i hw
   rw [if_pos hw] at h
   rcases h with h | h
   ·refine Oper.wpIn_mono (fun a w=>Zdf hQ rest hd.2 a w) (Zet (fun c hc=>?_) h)
    have:=hd.1
    rw [hc] at this
    cases this
   ·exact absurd h.2 hQ
  ·rename_i hw
   rw [if_neg hw] at h
   exact ⟨fun f _=>trivial,Zdf hQ rest hd.2 _ _ h⟩
theorem Zjk {y n id:Nat} {P:Program} {l:List Oper} {Q:Exit -> Act -> World -> Prop} {a:Act} {w:World} (hQ:¬ LetsOut Q) (hd:(l.all fun o=>match o.op with | .defer _=>false | _=>true) = true) (h:wpList P l.toArray Q l a w):(Code.region id l.toArray false).wpIn (Fence.wide.inRound y) n P Q a w :=
 wpIn_region_lit (Zdf hQ l hd a w h)
end Go.Proofs.YtnkpnjnfddjfpaaGreat

namespace Go.Proofs.YtnkpnjnfddjfpaaGreat.FG
open Go
section
variable {P : Program} {ops : Array Oper} {Q : Exit → Act → World → Prop} {md : Region.Mode}
theorem wpIn_round_flowS {y dep:Nat} {id:Nat} {l:List Value} {df:List Deferred} {w0:World} (ds:List Tmp) (fin:Nat -> Bool) (R:Array Bool -> World -> Prop) (V:Nat -> Value -> World -> Prop) (D:Nat -> Nat -> Value -> Value -> Prop)
  (hQ:¬ LetsOut Q) (hdf:noDefer ops = true) (hm:P.follows .mixedOrders = true) (hds:dstsL ops = ds) (h1:OneEach ops l.length) (hb:backB .any ops = true)
  (h0:R (Array.replicate ops.size false) { w0 with drawn:=w0.drawn + 1 })
  (step:∀ (i:Nat) (o:Oper),ops[i]? = some o -> ∀ (listed:Array Bool) (a:Act) (w:World),R listed w -> i < listed.size -> listed.getD i false = false -> (∀ j,anc .any ops i ops.size j = true -> listed.getD j false = false) -> (∀ j,anc .any ops j ops.size i = true -> listed.getD j false = true) -> (∀ t,t ∉ ds -> a.eval (.tmp t) = l.getD t undef) →
   (∀ (j:Nat) (oj:Oper) (d:Tmp),ops[j]? = some oj -> oj.dst = some d -> listed.getD j false = false -> a.eval (.tmp d) = l.getD d undef) →
   (∀ e ∈ o.after,wantE .any e = true -> ∀ oe,ops[e.on]? = some oe -> V e.on (leftBy a oe) w) →
   (Region.wanted o (yielded ops a.tmps) = true /\ StepTo P Q o a w (fun a' w'=>∃ v,a' = a.put o.dst v /\ R (listed.setIfInBounds i true) w' /\ (∀ j u,usedB .any ops fin i j = true -> V j u w -> (∀ e ∈ o.after,wantE .any e = true -> e.on ≠ j -> ∀ oe,ops[e.on]? = some oe -> D e.on j (leftBy a oe) u /\ D j e.on u (leftBy a oe)) →
    V j u w' /\ D i j (match o.dst with | some _=>v | none=>undef) u /\ D j i u (match o.dst with | some _=>v | none=>undef)) /\ V i (match o.dst with | some _=>v | none=>undef) w')) ∨
   (Region.wanted o (yielded ops a.tmps) = false /\ ∃ v,v = undef /\ R (listed.setIfInBounds i true) w /\ (∀ j u,usedB .any ops fin i j = true -> V j u w -> (∀ e ∈ o.after,wantE .any e = true -> e.on ≠ j -> ∀ oe,ops[e.on]? = some oe -> D e.on j (leftBy a oe) u /\ D j e.on u (leftBy a oe)) →
    V j u w /\ D i j (match o.dst with | some _=>v | none=>undef) u /\ D j i u (match o.dst with | some _=>v | none=>undef)) /\ V i (match o.dst with | some _=>v | none=>undef) w))
  (done:∀ (listed:Array Bool) (f:Nat -> Value) (w:World),R listed w -> (∀ i,i < ops.size -> listed.getD i false = true) -> (∀ (i:Nat) (o:Oper),ops[i]? = some o -> fin i = true -> V i (match o.dst with | some d=>f d | none=>undef) w) →
   Q .normal ⟨(spread ds f 0 l).toArray,df⟩ w) :
  (Code.region id ops true).wpIn (Fence.wide.inRound y) dep P Q ⟨l.toArray,df⟩ w0:=by
 subst hds
 have hb':∀ (i:Nat) (o:Oper),ops[i]? = some o -> ∀ e ∈ o.after,Region.binds .any e = true -> e.on < i:=fun i o hi e he hbe=>by
  unfold backB at hb
  rw [List.all_eq_true] at hb
  have h2:=hb i (by simpa using (Array.getElem?_eq_some_iff.1 hi).1)
  rw [hi] at h2
  simp only [Option.map_some,Option.getD_some] at h2
  rw [Array.all_eq_true_iff_forall_mem] at h2
  have h3:=h2 e he
  rw [hbe] at h3
  simpa using h3
 have h1':OneEach ops (Act.mk l.toArray df).tmps.size:=by simpa using h1
 refine wpIn_region_any hm (Zcw hQ hdf _ _ _ _ (Ziz (FlowAt .any ops fin R V D ⟨l.toArray,df⟩) ?_ ?_ _ _ _ _ (Zdb ops) (FlowAt.start h0)))
 ·intro listed a w i hI hi
  obtain ⟨hun,o,ho,hw⟩:=mem_ready.1 hi
  have hil:i < listed.size:=by rw [hI.len];exact (Array.getElem?_eq_some_iff.1 ho).1
  have hunf:listed.getD i false = false:=by simp [hil] at hun ⊢;exact hun
  have hs:=step i o ho listed a w hI.rel hil hunf (fun j hj=>by
   cases hc:listed.getD j false with
   | false=>rfl
   | true=>have:=hI.shut.anc i _ _ hj hc;rw [hunf] at this;cases this) (fun j hj=>hI.shut.ready ho hw _ hj) (fun t ht=>by have:=hI.out t ht;simpa [Act.eval] using this) (fun j oj d hj hd hl=>by have:=hI.old j oj d hj hd hl;simpa [Act.eval] using this) (fun e he hbe oe hoe=>hI.val e.on oe hoe (hw e he (Zbe hbe)) (.inr ⟨i,o,e,ho,hun,he,hbe,rfl⟩))
  rcases hs with hs | ⟨hs,v,hv0,h1s,h2s,h3s⟩
  ·unfold wpOp
   simp only [ho,hs.1,if_true]
   exact hs.2.imp (Oper.wp_mono (fun a' w' h=>by
    obtain ⟨v,rfl,hR,hmono,hv⟩:=h
    exact hI.next h1' ho hun hw hR hmono hv)) (fun h=>h)
  ·unfold wpOp
   simp only [ho,hs,Bool.false_eq_true,if_false]
   have hn:=hI.next h1' ho hun hw h1s h2s h3s
   rw [hv0] at hn
   exact hn
 ·intro listed a w hI hr
  obtain ⟨hR,hall,hV,ha⟩:=hI.end hb' hr
  rw [ha]
  exact done _ _ _ hR hall hV
end
theorem wanted_yes {ops:Array Oper} {tm:Array Value} {o ok:Oper} {k d:Nat} {b:Bool} (hg:o.guard = some (k,b)) (hk:ops[k]? = some ok) (hd:ok.dst = some d) (hv:tm[d]?.getD undef = .bool b):Region.wanted o (yielded ops tm) = true:=by
 unfold Region.wanted
 rw [hg]
 simp only [yielded,hk,Option.bind_some,hd]
 cases h:tm[d]? with
 | none=>rw [h] at hv;cases hv
 | some v=>rw [h] at hv;simp only [Option.getD_some] at hv;subst hv;simp
theorem wanted_no {ops:Array Oper} {tm:Array Value} {o ok:Oper} {k d:Nat} {b:Bool} (hg:o.guard = some (k,b)) (hk:ops[k]? = some ok) (hd:ok.dst = some d) (hv:tm[d]?.getD undef = .bool (!b) \/ tm[d]?.getD undef = undef):Region.wanted o (yielded ops tm) = false:=by
 unfold Region.wanted
 rw [hg]
 simp only [yielded,hk,Option.bind_some,hd]
 cases h:tm[d]? with
 | none=>simp
 | some v =>
  rw [h] at hv
  simp only [Option.getD_some] at hv
  rcases hv with rfl | rfl
  ·cases b <;> simp
  ·rfl
theorem wanted_any {ops:Array Oper} {tm:Array Value} {o:Oper} (hg:o.guard = none):Region.wanted o (yielded ops tm) = true:=by
 unfold Region.wanted;rw [hg]
end Go.Proofs.YtnkpnjnfddjfpaaGreat.FG
