/- pick.Get: contract. tables.must, the deferred closures of tables.lengths and tables.chosen: contracts. tables.lengths, GetLengths: contracts. tables.mover, chosen, GetSelectors: contracts. tables.chosen, GetSelectors: contracts. front.mover: contracts. rotate.way: contract. -/
import Derived.Test.YtnkpnjnfddjfpaaGreatQ01
import Derived.Test.YtnkpnjnfddjfpaaGreatQ02
import Derived.Test.YtnkpnjnfddjfpaaGreatQ05
import Derived.Test.YtnkpnjnfddjfpaaGreatQ04
import Derived.StillTailTactics
import Derived.Laws.CopyRow
import Derived.Laws.IdiomCopy
import Derived.Laws.EntriesVeiled
set_option linter.unusedVariables false
set_option linter.unusedSimpArgs false
namespace Go.Proofs.YtnkpnjnfddjfpaaGreat
open Go.RowKit Go.Shelf M01 M02 M27
theorem Zot (B:List Nat) (at_:Nat):∀ n k,k < n -> numH B at_ n / 2 ^ (n - 1 - k) % 2 = bit B (at_ + k):=by
 intro n
 induction n with
 | zero=>intro k h;omega
 | succ n ih =>
  intro k hk
  have hb:=Zdy B (at_ + n)
  by_cases h:k = n
  ·subst h
   simp only [numH,Nat.add_sub_cancel,Nat.sub_self,Nat.pow_zero,Nat.div_one]
   omega
  ·have e:n + 1 - 1 - k = (n - 1 - k) + 1:=by omega
   rw [<- ih k (by omega),e,Nat.pow_succ,Nat.mul_comm,<- Nat.div_div_eq_div_mul]
   have:numH B at_ (n + 1) / 2 = numH B at_ n:=by simp only [numH];omega
   rw [this]
theorem Zzf (v s:Nat) (hv:v < 4294967296):bits .and .u32 ((v:Int) / 2 ^ s) 1 = ((v / 2 ^ s % 2:Nat):Int):=by
 have h0:v / 2 ^ s <= v:=Nat.div_le_self _ _
 have h2:(2:Int) ^ s = ((2 ^ s:Nat):Int):=by simp
 have:=Zcx (v / 2 ^ s) 1 (by omega) (by omega)
 rw [Nat.and_one_is_mod] at this
 rw [h2,<- Int.natCast_ediv]
 exact this
theorem Zpd (v k:Nat) (hv:v < 65536) (hk:k < 16) (w:World):Calls Tryz.prog 125 #[.int .u32 (v:Nat),.int .i64 (k:Nat)] w fun e w'=>e = .returned (.bool (decide (v / 2 ^ (15 - k) % 2 = 1))) /\ w' = w:=by
 obtain ⟨s,hs⟩:∃ s,15 - k = s:=⟨_,rfl⟩
 have hsb:IntKind.i64.wrap (15 - (k:Int)) = (s:Int):=by rw [IntWalk.i64_in _ (by omega)];omega
 have hs2:(15:Int) - (k:Int) = (s:Int):=by omega
 have hs16:s < 16:=by omega
 have HA:=Zh (Zzf v s (by omega))
 rw [hs]
 clear hs
 obtain ⟨b,hb⟩:∃ b,v / 2 ^ s % 2 = b:=⟨_,rfl⟩
 rw [hb] at HA ⊢
 have HD:Hid ((((b:Nat):Int) == 1) = decide (b = 1)):=Zh (by by_cases h:b = 1 <;> simp [h] <;> omega)
 clear hb
 go_enter Tryz.func125,Tryz.ntmps125
 go_wp2
 go_ret
 rw [HA.out,HD.out]
 exact ⟨rfl,rfl⟩
def pickK (B:List Nat) (at_ g k:Nat):List Nat:=((List.range k).filter fun k=>bit B (at_ + k) = 1).map fun k=>16 * g + k
theorem Zqo (B:List Nat) (at_ g k:Nat):pickK B at_ g (k + 1) = pickK B at_ g k ++ (if bit B (at_ + k) = 1 then [16 * g + k] else []):=by
 unfold pickK
 rw [List.range_succ,List.filter_append,List.map_append]
 by_cases h:bit B (at_ + k) = 1 <;> simp [h]
theorem Zuf (B:List Nat) (at_ g k:Nat):(pickK B at_ g k).length <= k:=by
 unfold pickK
 rw [List.length_map]
 exact Nat.le_trans (List.length_filter_le _ _) (by simp)
def PickOut (w:World) (rp:Nat) (bs:List Nat) (R:Option (List Nat × Nat)) (e:Ending) (w':World):Prop :=
 match R with
 | some (l,at2)=>∃ a c,e = .returned (.tuple #[.slice a l.length c,.int .i64 0]) /\ OwnN 5 .u8 w' w.heap.size a c l /\ RdM w' rp bs at2
 | none=>e = .returned (.tuple #[.slice none 0 0,.int .i64 2])
set_option maxRecDepth 100000 in
set_option maxHeartbeats 3200000 in
theorem Zxx (w:World) (rp:Nat) (bs:List Nat) (at_:Nat) (hR:RdM w rp bs at_) :
  Calls Tryz.prog 75 #[.pointer (some ⟨rp,0,none⟩)] w fun e w'=>Only (fun b=>b = rp) w w' /\ PickOut w rp bs (pickG (rv bs) at_) e w':=by
 have HR:=Zh hR
 have hrp:=hR.lt
 have hlen:=Zba bs
 by_cases hle:at_ + 16 <= 8 * bs.length
 case neg =>
  have HG:=Zh (Zas w rp bs at_ 16 (by decide) hR (by omega))
  have HP:Hid (pickG (rv bs) at_ = none):=Zh (by unfold pickG nb;rw [if_neg (by omega)])
  clear hR
  go_enter Tryz.func75,Tryz.ntmps75
  go_wp2_with fail
  refine HG.out.mono ?_
  rintro e w1 ⟨rfl,q,rfl⟩
  go_wp2
  go_ret2
  rw [HP.out]
  exact ⟨Zah _ _ _,rfl⟩
 have HG:=Zh (Zbv w rp bs at_ 16 (by decide) hR hle)
 have HP:Hid (pickG (rv bs) at_ = match pickL (rv bs) at_ 16 0 (at_ + 16) [] with | some (out,at2)=>if out = [] then none else some (out,at2) | none=>none):=Zh (by unfold pickG nb;rw [if_pos (by omega)];rfl)
 have HBIT:=Zh (fun k (hk:k < 16)=>Zot (rv bs) at_ 16 k hk)
 have hv:=Zbk (rv bs) at_ 16
 generalize numH (rv bs) at_ 16 = v at *
 have HAS:=Zh (fun k (hk:k < 16) (W:World)=>Zpd v k hv hk W)
 clear hR hle
 rw [HP.out]
 obtain ⟨R,hRR⟩:∃ R,(match pickL (rv bs) at_ 16 0 (at_ + 16) [] with | some (out,at2)=>if out = [] then none else some (out,at2) | none=>none) = R:=⟨_,rfl⟩
 have HRR:=Zh hRR
 rw [hRR]
 clear hRR HP
 go_enter Tryz.func75,Tryz.ntmps75
 go_wp2_with fail
 refine HG.out.mono ?_
 rintro e w1 ⟨rfl,hr1,ho1⟩
 have HR1:=Zh hr1
 have HO1:=Zh ho1
 clear hr1 ho1 HG
 go_wp2
 go_loopw [6,21] (fun ov gv A=>∃ (g at2:Nat) (a':Option Addr) (c':Nat) (out:List Nat),g <= 16 /\ gv = .int .i64 (g:Nat) /\ ov = .slice a' out.length c' /\ OwnN 5 .u8 A w.heap.size a' c' out /\ RdM A rp bs at2 /\ Only (fun b=>b = rp) w A /\ pickL (rv bs) at_ 16 0 (at_ + 16) [] = pickL (rv bs) at_ (16 - g) g at2 out /\ out.length <= 16 * g) (fun _ gv _=>16 - (intOf gv).toNat)
 case atStart=>exact ⟨0,at_ + 16,none,0,[],by omega,rfl,rfl,OwnN.nil _ _ _ _,HR1.out,HO1.out,rfl,by simp⟩
 case round =>
  obtain ⟨g,at2,a1,c1,out,hg,rfl,rfl,how,hrd,hon,heq,hol⟩:=hrel
  have HOW:=Zh how
  have HRD:=Zh hrd
  have HON:=Zh hon
  have HEQ:=Zh heq
  have hws:=hon.size
  clear how hon heq
  by_cases hlt:g < 16
  ·have hwi:IntKind.i64.wrap ((g:Int) + 1) = ((g + 1:Nat):Int):=by rw [IntWalk.i64_in _ (by omega)];omega
   obtain ⟨m,hm⟩:∃ m,16 - g = m + 1:=⟨15 - g,by omega⟩
   have hm2:16 - (g + 1) = m:=by omega
   have HM2:=Zh hm2
   rw [hm] at HEQ
   have hbit:=HBIT.out g hlt
   rw [show 16 - 1 - g = 15 - g by omega] at hbit
   have HA:=Zh (HAS.out g hlt wr)
   rw [hbit] at HA
   clear hm hm2 hbit
   by_cases hb:bit (rv bs) (at_ + g) = 1
   case neg =>
    have HE2:Hid (pickL (rv bs) at_ 16 0 (at_ + 16) [] = pickL (rv bs) at_ (16 - (g + 1)) (g + 1) at2 out):=Zh (by
     rw [HEQ.out,HM2.out]
     simp only [pickL,if_neg hb])
    rw [decide_eq_false hb] at HA
    clear HEQ hb
    go_wp2_with fail
    refine HA.out.mono ?_
    rintro e w2 ⟨rfl,h2⟩
    rw [h2]
    clear h2 HA
    go_wp2
    go_roundw
    case rel=>exact ⟨g + 1,at2,a1,c1,out,by omega,by go_num,rfl,HOW.out,HRD.out,HON.out,HE2.out,by omega⟩
    case measure=>simp [intOf];omega
   rw [decide_eq_true hb] at HA
   by_cases hle2:at2 + 16 <= 8 * bs.length
   case neg =>
    have HNO:=Zh (Zas wr rp bs at2 16 (by decide) hrd (by omega))
    have HE2:Hid (pickL (rv bs) at_ 16 0 (at_ + 16) [] = none):=Zh (by
     rw [HEQ.out]
     simp only [pickL,if_pos hb]
     unfold nb
     rw [if_neg (by omega)])
    clear HEQ hb hrd
    go_wp2_with fail
    refine HA.out.mono ?_
    rintro e w2 ⟨rfl,h2⟩
    rw [h2]
    clear h2 HA
    go_wp2_with fail
    refine HNO.out.mono ?_
    rintro e w2 ⟨rfl,q,rfl⟩
    clear HNO
    go_wp2
    (try simp only [Exit.inBlock,Exit.then])
    refine bodyPost_ret (results_tmp2 rfl _ _ _) rfl ?_
    have hrn:R = none:=by rw [<- HRR.out,HE2.out]
    rw [hrn]
    exact ⟨HON.out.trans (Zah _ _ _),rfl⟩
   have HGT:=Zh (Zbv wr rp bs at2 16 (by decide) hrd hle2)
   have HE2:Hid (pickL (rv bs) at_ 16 0 (at_ + 16) [] = pickL (rv bs) at_ (16 - (g + 1)) (g + 1) (at2 + 16) (out ++ pickB (rv bs) at2 g)):=Zh (by
    rw [HEQ.out,HM2.out]
    simp only [pickL,if_pos hb]
    unfold nb
    rw [if_pos (by omega)])
   have HBIT2:=Zh (fun k (hk:k < 16)=>Zot (rv bs) at2 16 k hk)
   have hv2:=Zbk (rv bs) at2 16
   generalize numH (rv bs) at2 16 = v2 at *
   have HAS2:=Zh (fun k (hk:k < 16) (W:World)=>Zpd v2 k hv2 hk W)
   clear HEQ hb hrd
   go_wp2_with fail
   refine HA.out.mono ?_
   rintro e w2 ⟨rfl,h2⟩
   rw [h2]
   clear h2 HA
   go_wp2_with fail
   refine HGT.out.mono ?_
   rintro e w3 ⟨rfl,hr3,ho3⟩
   have HR3:=Zh hr3
   have HO3:=Zh (HON.out.trans ho3)
   have HOW3:=Zh (HOW.out.only ho3 (fun b hb=>by show b ≠ rp;omega))
   have hz3:=Nat.le_trans hws ho3.size
   clear hr3 ho3 HGT HOW HON HRD
   go_wp2
   go_loopw [6,36] (fun ov kv A=>∃ (k:Nat) (a':Option Addr) (c':Nat),k <= 16 /\ kv = .int .i64 (k:Nat) /\ ov = .slice a' (out ++ pickK (rv bs) at2 g k).length c' /\ OwnN 5 .u8 A w.heap.size a' c' (out ++ pickK (rv bs) at2 g k) /\ Below w.heap.size w3 A) (fun _ kv _=>16 - (intOf kv).toNat)
   case atStart=>exact ⟨0,a1,c1,by omega,rfl,by simp [pickK],by simpa [pickK] using HOW3.out,Below.refl _ _⟩
   case round =>
    obtain ⟨k,a4,c4,hk,rfl,rfl,how4,hb4⟩:=hrel
    have HOW4:=Zh how4
    have HB4:=Zh hb4
    have hl4:=Zuf (rv bs) at2 g k
    have hz4:=Nat.le_trans hz3 hb4.size
    clear how4 hb4
    by_cases hlk:k < 16
    ·have hwk:IntKind.i64.wrap ((k:Int) + 1) = ((k + 1:Nat):Int):=by rw [IntWalk.i64_in _ (by omega)];omega
     have hbit:=HBIT2.out k hlk
     rw [show 16 - 1 - k = 15 - k by omega] at hbit
     have HA:=Zh (HAS2.out k hlk wr)
     rw [hbit] at HA
     have HPS:=Zh (Zqo (rv bs) at2 g k)
     clear hbit
     by_cases hb:bit (rv bs) (at2 + k) = 1
     ·rw [decide_eq_true hb] at HA
      rw [if_pos hb] at HPS
      obtain ⟨cc,hcc⟩:∃ cc,16 * g + k = cc:=⟨_,rfl⟩
      have hc1:IntKind.i64.wrap (16 * (g:Int)) = 16 * (g:Int):=IntWalk.i64_in _ (by omega)
      have hc2:IntKind.i64.wrap (16 * (g:Int) + (k:Int)) = (cc:Int):=by rw [IntWalk.i64_in _ (by omega)];omega
      have hc4:16 * (g:Int) + (k:Int) = (cc:Int):=by omega
      have hc3:IntKind.u8.wrap (cc:Int) = (cc:Int):=by simp only [IntKind.wrap,IntKind.bits,IntKind.signed];simp;omega
      rw [hcc] at HPS
      clear hb hcc
      go_wp2_with fail
      refine HA.out.mono ?_
      rintro e w5 ⟨rfl,h2⟩
      rw [h2]
      clear h2 HA
      generalize pickK (rv bs) at2 g k = pk at *
      go_wp2_with (at_builtin;refine app1N Zaz rfl (.tmp 43) (.tmp 49) rfl (y:=cc) (l:=out ++ pk) (base:=w.heap.size) (by rw [List.length_append];rfl) HOW4.out rfl (Nat.le_refl _) (by decide) (by rw [List.length_append];omega) (by rw [List.length_append];omega) hz4 ?_;intro a6 c6 w6 o6 hg6 hb6)
      have HO6:=Zh o6
      have HB6:=Zh (HB4.out.trans hb6)
      clear o6 hg6 hb6
      go_roundw
      case rel=>exact ⟨k + 1,a6,c6,by omega,by go_num,by rw [HPS.out,<- List.append_assoc,List.length_append,List.length_append];simp,by rw [HPS.out,<- List.append_assoc];exact HO6.out,HB6.out⟩
      case measure=>simp [intOf];omega
     ·rw [decide_eq_false hb] at HA
      rw [if_neg hb,List.append_nil] at HPS
      clear hb
      go_wp2_with fail
      refine HA.out.mono ?_
      rintro e w5 ⟨rfl,h2⟩
      rw [h2]
      clear h2 HA
      go_wp2
      go_roundw
      case rel=>exact ⟨k + 1,a4,c4,by omega,by go_num,by rw [HPS.out,List.length_append],by rw [HPS.out];exact HOW4.out,HB4.out⟩
      case measure=>simp [intOf];omega
    ·obtain rfl:k = 16:=by omega
     have HPB:Hid (pickK (rv bs) at2 g 16 = pickB (rv bs) at2 g):=Zh rfl
     rw [HPB.out] at HOW4 hl4 ⊢
     have hpl:(out ++ pickB (rv bs) at2 g).length <= 16 * (g + 1):=by rw [List.length_append];omega
     have hrpz:=HR3.out.lt
     clear hlk hk
     go_wp2
     go_roundw
     case rel=>exact ⟨g + 1,at2 + 16,a4,c4,out ++ pickB (rv bs) at2 g,by omega,by go_num,rfl,HOW4.out,HR3.out.belowAt HB4.out hrp,⟨HB4.out.os.trans HO3.out.os,HB4.out.tape.trans HO3.out.tape,HB4.out.output.trans HO3.out.output,Nat.le_trans HO3.out.size HB4.out.size,fun b hb hn=>(HB4.out.block b hb).trans (HO3.out.block b hb hn)⟩,HE2.out,hpl⟩
     case measure=>simp [intOf];omega
  ·obtain rfl:g = 16:=by omega
   have HE:Hid (pickL (rv bs) at_ 16 0 (at_ + 16) [] = some (out,at2)):=Zh (by rw [HEQ.out];rfl)
   clear HEQ hlt hrd
   by_cases h0:out = []
   ·have HE2:Hid ((match pickL (rv bs) at_ 16 0 (at_ + 16) [] with | some (out,at2)=>if out = [] then none else some (out,at2) | none=>none) = none):=Zh (by rw [HE.out];simp [h0])
    subst h0
    go_wp2
    go_ret2
    have hrn:R = none:=by rw [<- HRR.out];exact HE2.out
    rw [hrn]
    exact ⟨HON.out,rfl⟩
   ·have HE2:Hid ((match pickL (rv bs) at_ 16 0 (at_ + 16) [] with | some (out,at2)=>if out = [] then none else some (out,at2) | none=>none) = some (out,at2)):=Zh (by rw [HE.out];simp [h0])
    have hl0:((out.length:Int) == 0) = false:=by simp [h0]
    go_wp2
    go_ret2
    have hrn:R = some (out,at2):=by rw [<- HRR.out];exact HE2.out
    rw [hrn]
    exact ⟨HON.out,a1,c1,rfl,HOW.out,HRD.out⟩
end Go.Proofs.YtnkpnjnfddjfpaaGreat

namespace Go.Proofs.YtnkpnjnfddjfpaaGreat
open Go.RowKit Go.Shelf M01 M02 M27
theorem Zgi (v:Nat) (hv:v < 4294967296) (w:World):Calls Tryz.prog 182 #[.int .u32 (v:Nat),.int .i64 0] w fun e w'=>e = .returned (.int .i64 (v:Nat)) /\ w' = w:=by
 have h1:IntKind.i64.wrap (v:Int) = (v:Int):=IntWalk.i64_in _ (by omega)
 go_enter Tryz.func182,Tryz.ntmps182
 go_wp2
 go_ret
 exact ⟨rfl,rfl⟩
theorem Zgh (v:Value) (w:World):Calls Tryz.prog 182 #[v,.int .i64 2] w fun e w'=>e = .panicked formP /\ w' = w:=by
 go_enter Tryz.func182,Tryz.ntmps182
 go_wp2
 exact ⟨rfl,rfl,rfl⟩
theorem Ztp (r:Nat) (z:Value) (w:World) (h:OneR r w z) :
  CallsD Tryz.prog 183 #[.pointer (some ⟨r,0,none⟩)] (.panicking formP) w fun e u' w' =>
   e = .returned (.tuple #[]) /\ u' = .panicking [{ v:=.iface 25 (.int .i64 2),recovered:=true }] /\ w' = w.setCell ⟨r,0,none⟩ (.int .i64 2):=by
 unfold formP
 refine callsD_of_wpS Tryz.func183 rfl fun c₀ cs hu=>?_
 unfold OneR at h
 have f3:w.frozen? ⟨r,0,none⟩ = false:=by simp [World.frozen?,h]
 have g3:w.cell? ⟨r,0,none⟩ = some z:=cell_of_one h
 have te:=Zpi 2
 apply wpS_seq
 apply wpS_region
 simp [wpOpsS,go_sem,recoverD,hu,te,Tryz.ntmps183,Exit.thenS]
 apply wpS_seq
 apply wpS_region
 simp [wpOpsS,go_sem,Exit.thenS]
 refine wpS_cond (t:=true) (by simp [Act.eval,Array.replicate]) ?_
 simp only [if_true]
 apply wpS_region
 simp [wpOpsS,go_sem,g3,f3,bodyPostS,results,Tryz.results183]
theorem Zjf (r:Nat) (w:World) :
  CallsD Tryz.prog 183 #[.pointer (some ⟨r,0,none⟩)] .returning w fun e u' w' =>
   e = .returned (.tuple #[]) /\ u' = .returning /\ w' = w:=by
 refine callsD_of_wpS Tryz.func183 rfl fun c₀ cs hu=>?_
 apply wpS_seq
 apply wpS_region
 have te:=Zpj
 simp [wpOpsS,go_sem,recoverD,hu,te,Tryz.ntmps183,Exit.thenS]
 apply wpS_seq
 apply wpS_region
 simp [wpOpsS,go_sem,Exit.thenS]
 refine wpS_cond (t:=false) (by simp [Act.eval,Array.replicate]) ?_
 simp only [Bool.false_eq_true,if_false]
 refine wpS_of_wp (wp_skip ?_)
 cases c₀
 simp_all [bodyPostS,results,Tryz.results183]
def lenDef (q:Nat):List Deferred:=[{ target:=Target.fn (Fn.func 183) #[.pointer (some ⟨q,0,none⟩)],args:=#[] }]
theorem Zxn {q:Nat} {A:World} {x z:Value} {tmps:Array Value} {Rr:Ending -> World -> Prop} (h:OneR q A z) (t4:tmps.getD 4 undef = x) (t5:tmps.getD 5 undef = .pointer (some ⟨q,0,none⟩))
  (hK:Rr (.returned (.tuple #[x,z])) A):bodyPostD Tryz.prog Tryz.f127 Rr .ret { tmps:=tmps,defers:=lenDef q } A:=by
 show Leaves _ _ _ _ (lenDef q) .returning A
 unfold lenDef
 refine leaves_cons (f:=183) (args:=#[.pointer (some ⟨q,0,none⟩)]) (by simp) (by simp [go_sem]) ?_
 refine (Zjf q A).mono ?_
 rintro e u' w'' ⟨rfl,rfl,rfl⟩
 have g1:=cell_of_one h
 simp only [Leaves,settle]
 refine ⟨_,?_,hK⟩
 have s4:tmps[4]?.getD undef = x:=by simpa using t4
 have s5:tmps[5]?.getD undef = .pointer (some ⟨q,0,none⟩):=by simpa using t5
 simp [results,Tryz.results127,go_sem,s4,s5,g1]
theorem Zqe {q:Nat} {A:World} {z:Value} {tmps:Array Value} {Rr:Ending -> World -> Prop} (h:OneR q A z) (t5:tmps.getD 5 undef = .pointer (some ⟨q,0,none⟩))
  (hK:∀ x,Rr (.returned (.tuple #[x,.int .i64 2])) (A.setCell ⟨q,0,none⟩ (.int .i64 2))):bodyPostD Tryz.prog Tryz.f127 Rr (.panic formP) { tmps:=tmps,defers:=lenDef q } A:=by
 show Leaves _ _ _ _ (lenDef q) (.panicking formP) A
 unfold lenDef
 refine leaves_cons (f:=183) (args:=#[.pointer (some ⟨q,0,none⟩)]) (by simp) (by simp [go_sem]) ?_
 refine (Ztp q z A h).mono ?_
 rintro e u' w'' ⟨rfl,rfl,rfl⟩
 have g1:=cell_of_one (h.set (.int .i64 2))
 have s5:tmps[5]?.getD undef = .pointer (some ⟨q,0,none⟩):=by simpa using t5
 generalize A.setCell ⟨q,0,none⟩ (.int .i64 2) = B at *
 simp only [settle]
 simp [Leaves,results,Tryz.results127,go_sem,s5,g1,hK]
theorem Zsl (r:Nat) (z:Value) (w:World) (h:OneR r w z) :
  CallsD Tryz.prog 181 #[.pointer (some ⟨r,0,none⟩)] (.panicking formP) w fun e u' w' =>
   e = .returned (.tuple #[]) /\ u' = .panicking [{ v:=.iface 25 (.int .i64 2),recovered:=true }] /\ w' = w.setCell ⟨r,0,none⟩ (.int .i64 2):=by
 unfold formP
 refine callsD_of_wpS Tryz.func181 rfl fun c₀ cs hu=>?_
 unfold OneR at h
 have f3:w.frozen? ⟨r,0,none⟩ = false:=by simp [World.frozen?,h]
 have g3:w.cell? ⟨r,0,none⟩ = some z:=cell_of_one h
 have te:=Zpi 2
 apply wpS_seq
 apply wpS_region
 simp [wpOpsS,go_sem,recoverD,hu,te,Tryz.ntmps181,Exit.thenS]
 apply wpS_seq
 apply wpS_region
 simp [wpOpsS,go_sem,Exit.thenS]
 refine wpS_cond (t:=true) (by simp [Act.eval,Array.replicate]) ?_
 simp only [if_true]
 apply wpS_region
 simp [wpOpsS,go_sem,g3,f3,bodyPostS,results,Tryz.results181]
theorem Zje (r:Nat) (w:World) :
  CallsD Tryz.prog 181 #[.pointer (some ⟨r,0,none⟩)] .returning w fun e u' w' =>
   e = .returned (.tuple #[]) /\ u' = .returning /\ w' = w:=by
 refine callsD_of_wpS Tryz.func181 rfl fun c₀ cs hu=>?_
 apply wpS_seq
 apply wpS_region
 have te:=Zpj
 simp [wpOpsS,go_sem,recoverD,hu,te,Tryz.ntmps181,Exit.thenS]
 apply wpS_seq
 apply wpS_region
 simp [wpOpsS,go_sem,Exit.thenS]
 refine wpS_cond (t:=false) (by simp [Act.eval,Array.replicate]) ?_
 simp only [Bool.false_eq_true,if_false]
 refine wpS_of_wp (wp_skip ?_)
 cases c₀
 simp_all [bodyPostS,results,Tryz.results181]
def choDef (q:Nat):List Deferred:=[{ target:=Target.fn (Fn.func 181) #[.pointer (some ⟨q,0,none⟩)],args:=#[] }]
theorem Zww {q:Nat} {A:World} {x z:Value} {tmps:Array Value} {Rr:Ending -> World -> Prop} (h:OneR q A z) (t4:tmps.getD 4 undef = x) (t5:tmps.getD 5 undef = .pointer (some ⟨q,0,none⟩))
  (hK:Rr (.returned (.tuple #[x,z])) A):bodyPostD Tryz.prog Tryz.f126 Rr .ret { tmps:=tmps,defers:=choDef q } A:=by
 show Leaves _ _ _ _ (choDef q) .returning A
 unfold choDef
 refine leaves_cons (f:=181) (args:=#[.pointer (some ⟨q,0,none⟩)]) (by simp) (by simp [go_sem]) ?_
 refine (Zje q A).mono ?_
 rintro e u' w'' ⟨rfl,rfl,rfl⟩
 have g1:=cell_of_one h
 simp only [Leaves,settle]
 refine ⟨_,?_,hK⟩
 have s4:tmps[4]?.getD undef = x:=by simpa using t4
 have s5:tmps[5]?.getD undef = .pointer (some ⟨q,0,none⟩):=by simpa using t5
 simp [results,Tryz.results126,go_sem,s4,s5,g1]
theorem Zpy {q:Nat} {A:World} {z:Value} {tmps:Array Value} {Rr:Ending -> World -> Prop} (h:OneR q A z) (t5:tmps.getD 5 undef = .pointer (some ⟨q,0,none⟩))
  (hK:∀ x,Rr (.returned (.tuple #[x,.int .i64 2])) (A.setCell ⟨q,0,none⟩ (.int .i64 2))):bodyPostD Tryz.prog Tryz.f126 Rr (.panic formP) { tmps:=tmps,defers:=choDef q } A:=by
 show Leaves _ _ _ _ (choDef q) (.panicking formP) A
 unfold choDef
 refine leaves_cons (f:=181) (args:=#[.pointer (some ⟨q,0,none⟩)]) (by simp) (by simp [go_sem]) ?_
 refine (Zsl q z A h).mono ?_
 rintro e u' w'' ⟨rfl,rfl,rfl⟩
 have g1:=cell_of_one (h.set (.int .i64 2))
 have s5:tmps[5]?.getD undef = .pointer (some ⟨q,0,none⟩):=by simpa using t5
 generalize A.setCell ⟨q,0,none⟩ (.int .i64 2) = B at *
 simp only [settle]
 simp [Leaves,results,Tryz.results126,go_sem,s5,g1,hK]
end Go.Proofs.YtnkpnjnfddjfpaaGreat

namespace Go.Proofs.YtnkpnjnfddjfpaaGreat
open Go.RowKit Go.Shelf M01 M02 M27
theorem Only.belowAt2 {T:Nat -> Prop} {w A B:World} {n:Nat} (h:Only T w A) (hb:Below n A B) (hn:w.heap.size <= n):Only T w B :=
 ⟨hb.os.trans h.os,hb.tape.trans h.tape,hb.output.trans h.output,Nat.le_trans h.size hb.size,fun b hb' ht=>(hb.block b (by omega)).trans (h.block b hb' ht)⟩
def rdAtM (A:World) (rp:Nat):Nat:=match A.cell? ⟨rp,1,none⟩ with
 | some v=>(intOf v).toNat
 | none=>0
theorem Zhx {A:World} {rp at_:Nat} {bs:List Nat} (h:RdM A rp bs at_):rdAtM A rp = at_:=by
 obtain ⟨a,cap,h1,_⟩:=h
 unfold rdAtM
 simp only [(Zdm h1).2]
 simp [intOf]
theorem RdM.le {A:World} {rp at_:Nat} {bs:List Nat} (h:RdM A rp bs at_):at_ <= 8 * bs.length:=by
 obtain ⟨a,cap,_,_,_,_,h1,_⟩:=h
 exact h1
def lnV (v:Value):Nat:=match v with | .slice _ n _=>n | _=>0
def RowOut (w:World) (rp:Nat) (bs:List Nat) (R:Option (List Nat × Nat)) (e:Ending) (w':World):Prop :=
 Only (fun b=>b = rp) w w' /\ match R with
 | some (l,at2)=>∃ a c,e = .returned (.tuple #[.slice a l.length c,.int .i64 0]) /\ OwnN 5 .u8 w' w.heap.size a c l /\ RdM w' rp bs at2
 | none=>∃ x,e = .returned (.tuple #[x,.int .i64 2])
theorem RowOut.some {w w':World} {rp at2:Nat} {bs l:List Nat} {e:Ending} {R:Option (List Nat × Nat)} (hR:R = some (l,at2)) (h:Only (fun b=>b = rp) w w') (h2:∃ a c,e = .returned (.tuple #[.slice a l.length c,.int .i64 0]) /\ OwnN 5 .u8 w' w.heap.size a c l /\ RdM w' rp bs at2):RowOut w rp bs R e w':=by
 subst hR;exact ⟨h,h2⟩
theorem RowOut.none {w w':World} {rp:Nat} {bs:List Nat} {x:Value} {R:Option (List Nat × Nat)} (hR:R = none) (h:Only (fun b=>b = rp) w w'):RowOut w rp bs R (.returned (.tuple #[x,.int .i64 2])) w':=by
 subst hR;exact ⟨h,x,rfl⟩
theorem Zdi {w A:World} {q rp:Nat} {z:Value} {bs:List Nat} {R:Option (List Nat × Nat)} {tmps:Array Value} (hR:R = none) (h:OneR q A z) (ho:Only (fun b=>b = rp) w A) (hq:w.heap.size = q) (t5:tmps.getD 5 undef = .pointer (some ⟨q,0,none⟩)) :
  bodyPostD Tryz.prog Tryz.f127 (RowOut w rp bs R) (.panic formP) { tmps:=tmps,defers:=lenDef q } A :=
 Zqe h t5 fun x=>RowOut.none hR (ho.setCell (p:=⟨q,0,none⟩) (.inr (by show w.heap.size <= q;omega)) _)
set_option maxRecDepth 100000 in
set_option maxHeartbeats 3200000 in
theorem Zoe (w:World) (rp:Nat) (bs:List Nat) (at_ n:Nat) (hn:n <= 258) (h:RdM w rp bs at_) :
  Calls Tryz.prog 127 #[.pointer (some ⟨rp,0,none⟩),.int .i64 (n:Nat)] w fun e w'=>RowOut w rp bs (lenG (rv bs) at_ n) e w':=by
 have hrp:=h.lt
 have hlen:=Zba bs
 have H:=Zh (h.below (Zai w (.cells #[.int .i64 0] 25)))
 have HONE:=Zh (OneR.new w (.int .i64 0))
 have HO0:=Zh (Only.ofBelow (T:=fun b=>b = rp) (Zai w (.cells #[.int .i64 0] 25)))
 have hsz:(w.alloc (.cells #[.int .i64 0] 25)).heap.size = w.heap.size + 1:=by simp
 clear h
 obtain ⟨R,hR0⟩:∃ R,R = lenG (rv bs) at_ n:=⟨_,rfl⟩
 rw [<- hR0]
 replace hR0:=Zh hR0
 have hmf:∀ (fn:Fn) (first cap:Array Value) (w:World),(Instr.makeFunc fn first cap).run Tryz.prog w = .ok (.func fn first cap) w:=fun _ _ _ _=>rfl
 go_enter_defers Tryz.func127,Tryz.ntmps127
 go_wp2_with fail
 generalize w.alloc (.cells #[.int .i64 0] 25) = w0 at *
 obtain ⟨q,hq⟩:∃ q,w.heap.size = q:=⟨_,rfl⟩
 simp only [hq] at HONE hsz hrp ⊢
 have HQ:=Zh hq
 clear hmf hq
 by_cases h1:at_ + 5 <= 8 * bs.length
 case neg =>
  have HR:Hid (R = none):=by unfold Hid;rw [hR0.out];unfold lenG numG nb;rw [if_neg (by omega)];rfl
  refine (Zas w0 rp bs at_ 5 (by decide) H.out (by omega)).mono ?_
  rintro e w1 ⟨rfl,n1,rfl⟩
  clear h1
  go_wp2_with fail
  refine (Zgh (.int .u32 0) _).mono ?_
  rintro e w2 ⟨rfl,rfl⟩
  exact Zdi HR.out (HONE.out.only (Zah (fun _=>False) _ _) id) (HO0.out.trans (Zah _ _ _)) HQ.out rfl
 refine (Zbv w0 rp bs at_ 5 (by decide) H.out h1).mono ?_
 rintro e w1 ⟨rfl,hr1,ho1⟩
 have HR1:=Zh hr1
 have HO1:=Zh (HO0.out.trans ho1)
 have HQ1:=Zh (HONE.out.only ho1 (by show q ≠ rp;omega))
 have hx:=Zbk (rv bs) at_ 5
 have HF:Hid (R = lenL (rv bs) (nb (rv bs) + 2) (numH (rv bs) at_ 5) (at_ + 5) n []):=by
  unfold Hid;rw [hR0.out];unfold lenG numG nb;rw [if_pos (by omega)];rfl
 have hz1:=ho1.size
 clear hR0 hr1 ho1 H HO0 HONE
 generalize numH (rv bs) at_ 5 = x at *
 go_wp2_with fail
 refine (Zgi x (by omega) w1).mono ?_
 rintro e w1' ⟨rfl,rfl⟩
 go_wp2
 go_loopw [4,6] (fun ov kv A=>∃ (f k at2:Nat) (a':Option Addr) (c':Nat) (out:List Nat),kv = .int .i64 (k:Nat) /\ k <= 31 /\ ov = .slice a' out.length c' /\ out.length <= n /\ OwnN 5 .u8 A (q + 1) a' c' out /\ RdM A rp bs at2 /\ OneR q A (.int .i64 0) /\ Only (fun b=>b = rp) w A /\ R = lenL (rv bs) f k at2 n out /\ 8 * bs.length + 2 <= f + at2) (fun ov _ _=>n - lnV ov)
 case atStart=>exact ⟨_,x,at_ + 5,none,0,[],rfl,by omega,rfl,by simp,OwnN.nil _ _ _ _,HR1.out,HQ1.out,HO1.out,HF.out,by unfold nb;omega⟩
 case round =>
  obtain ⟨f,k,at2,a1,c1,out,rfl,hk31,rfl,hol,how,hrd,hon,honly,heq,hf⟩:=hrel
  have HW:=Zh how
  have HR2:=Zh hrd
  have HN:=Zh hon
  have HL:=Zh honly
  have HE:=Zh heq
  have hrA:=hrd.lt
  have hzA:=honly.size
  rw [HQ.out] at hzA
  clear how hrd hon honly heq HR1 HO1 HQ1 HF
  by_cases hlt:out.length < n
  ·have t1:decide (out.length < n) = true:=decide_eq_true hlt
   go_wp2_with fail
   go_loopw [6] (fun kv A=>∃ (f k at2:Nat),kv = .int .i64 (k:Nat) /\ k <= 31 /\ OwnN 5 .u8 A (q + 1) a1 c1 out /\ RdM A rp bs at2 /\ OneR q A (.int .i64 0) /\ Only (fun b=>b = rp) w A /\ R = lenL (rv bs) f k at2 n out /\ 8 * bs.length + 2 <= f + at2) (fun _ A=>8 * bs.length - rdAtM A rp)
   case atStart=>exact ⟨f,k,at2,rfl,hk31,HW.out,HR2.out,HN.out,HL.out,HE.out,hf⟩
   case round =>
    clear HW HR2 HN HL HE hf hk31 hrA
    obtain ⟨f,k,at2,rfl,hk31,how,hrd,hon,honly,heq,hf⟩:=hrel
    have HW:=Zh how
    have HR2:=Zh hrd
    have HN:=Zh hon
    have HL:=Zh honly
    have hrA:=hrd.lt
    have hat:=hrd.le
    have hrdA:=Zhx hrd
    have hzA:q + 1 <= wr.heap.size:=(Array.getElem?_eq_some_iff.1 hon).1
    obtain ⟨f,rfl⟩:∃ f',f = f' + 1:=⟨f - 1,by omega⟩
    have HE:=Zh heq
    unfold lenL at HE
    have hlt2:¬ n <= out.length:=by omega
    rw [if_neg hlt2] at HE
    clear how hrd hon honly heq hlt2
    by_cases hk1:k < 1
    ·have t2:decide ((k:Int) < 1) = true:=by simp;omega
     have HR:Hid (R = none):=by unfold Hid;rw [HE.out,if_pos (.inl hk1)]
     clear HE hk1
     go_wp2
     exact Zdi HR.out HN.out HL.out HQ.out rfl
    have t2:decide ((k:Int) < 1) = false:=by simp;omega
    by_cases hk2:20 < k
    ·have t3:decide ((20:Int) < (k:Int)) = true:=by simp;omega
     have HR:Hid (R = none):=by unfold Hid;rw [HE.out,if_pos (.inr (.inl hk2))]
     clear HE hk1 hk2
     go_wp2
     exact Zdi HR.out HN.out HL.out HQ.out rfl
    have t3:decide ((20:Int) < (k:Int)) = false:=by simp;omega
    by_cases h2:at2 + 1 <= 8 * bs.length
    case neg =>
     have HR:Hid (R = none):=by unfold Hid;rw [HE.out,if_pos (.inr (.inr (by unfold nb;omega)))]
     have HG:=Zh (Zas wr rp bs at2 1 (by decide) HR2.out (by omega))
     clear HE
     go_wp2_with fail
     refine HG.out.mono ?_
     rintro e w2 ⟨rfl,n1,rfl⟩
     clear HG
     go_wp2_with fail
     refine (Zgh (.int .u32 0) _).mono ?_
     rintro e w3 ⟨rfl,rfl⟩
     exact Zdi HR.out (HN.out.only (Zah (fun _=>False) _ _) id) (HL.out.trans (Zah _ _ _)) HQ.out rfl
    have HG:=Zh (Zbv wr rp bs at2 1 (by decide) HR2.out h2)
    rw [if_neg (by unfold nb;omega)] at HE
    rw [Zkq] at HG
    have hbl:=Zdy (rv bs) at2
    generalize hbv:bit (rv bs) at2 = b at *
    clear hbv
    go_wp2_with fail
    refine HG.out.mono ?_
    rintro e w2 ⟨rfl,hr2,ho2⟩
    have HR3:=Zh hr2
    have HO3:=Zh (HL.out.trans ho2)
    have HN3:=Zh (HN.out.only ho2 (by show q ≠ rp;omega))
    have HW3:=Zh (HW.out.only ho2 (fun b hb=>by show b ≠ rp;omega))
    have hz2:=ho2.size
    clear hr2 ho2 HG HR2 HL HN HW
    go_wp2_with fail
    refine (Zgi b (by omega) w2).mono ?_
    rintro e w3 ⟨rfl,h3⟩
    rw [h3]
    clear h3 w3
    by_cases hb:b = 0
    ·subst hb
     rw [if_pos rfl] at HE
     have hu8:IntKind.u8.wrap (k:Int) = (k:Int):=by simp only [IntKind.wrap,IntKind.bits,IntKind.signed];simp;omega
     go_wp2_with (at_builtin;refine app1N Zaz rfl (.tmp 17) (.tmp 20) rfl (y:=k) (l:=out) (base:=q + 1) rfl HW3.out rfl (Nat.le_refl _) (by decide) (by omega) (by omega) (by omega) ?_;intro a6 c6 w6 o6 hg6 hb6)
     go_roundw
     case rel=>exact ⟨f,k,at2 + 1,a6,c6,out ++ [k],rfl,hk31,by rw [List.length_append];rfl,by rw [List.length_append];simp;omega,o6,HR3.out.belowAt hb6 (by omega),HN3.out.belowAt hb6 (by omega),HO3.out.belowAt2 hb6 (by rw [HQ.out];omega),HE.out,by omega⟩
     case measure=>simp [lnV];omega
    ·obtain rfl:b = 1:=by omega
     rw [if_neg (by decide)] at HE
     by_cases h4:at2 + 1 + 1 <= 8 * bs.length
     case neg =>
      have HR:Hid (R = none):=by unfold Hid;rw [HE.out,if_pos (by unfold nb;omega)]
      have HG:=Zh (Zas w2 rp bs (at2 + 1) 1 (by decide) HR3.out (by omega))
      clear HE
      go_wp2_with fail
      refine HG.out.mono ?_
      rintro e w4 ⟨rfl,n1,rfl⟩
      clear HG
      go_wp2_with fail
      refine (Zgh (.int .u32 0) _).mono ?_
      rintro e w5 ⟨rfl,rfl⟩
      exact Zdi HR.out (HN3.out.only (Zah (fun _=>False) _ _) id) (HO3.out.trans (Zah _ _ _)) HQ.out rfl
     have HG:=Zh (Zbv w2 rp bs (at2 + 1) 1 (by decide) HR3.out h4)
     rw [if_neg (by unfold nb;omega)] at HE
     rw [Zkq] at HG
     have hbl:=Zdy (rv bs) (at2 + 1)
     generalize hbv:bit (rv bs) (at2 + 1) = b at *
     clear hbv
     go_wp2_with fail
     refine HG.out.mono ?_
     rintro e w4 ⟨rfl,hr4,ho4⟩
     have HR5:=Zh hr4
     have HO5:=Zh (HO3.out.trans ho4)
     have HN5:=Zh (HN3.out.only ho4 (by show q ≠ rp;omega))
     have HW5:=Zh (HW3.out.only ho4 (fun b hb=>by show b ≠ rp;omega))
     have hrd5:=Zhx hr4
     clear hr4 ho4 HG HR3 HO3 HN3 HW3
     obtain ⟨k2,hk2e⟩:∃ k2,(if b = 1 then k - 1 else k + 1) = k2:=⟨_,rfl⟩
     rw [hk2e] at HE
     have hk2i:(k:Int) + (1 - 2 * (b:Int)) = (k2:Int):=by
      rcases (by omega:b = 0 \/ b = 1) with rfl | rfl
      ·rw [if_neg (by decide)] at hk2e;omega
      ·rw [if_pos rfl] at hk2e;omega
     have hk2l:k2 <= 21:=by omega
     have hw1:IntKind.i64.wrap (2 * (b:Int)) = 2 * (b:Int):=IntWalk.i64_in _ (by omega)
     have hw2:IntKind.i64.wrap (1 - 2 * (b:Int)) = 1 - 2 * (b:Int):=IntWalk.i64_in _ (by omega)
     have hw3:IntKind.i64.wrap ((k:Int) + (1 - 2 * (b:Int))) = (k2:Int):=by rw [IntWalk.i64_in _ (by omega)];omega
     clear hk2e
     go_wp2_with fail
     refine (Zgi b (by omega) w4).mono ?_
     rintro e w5 ⟨rfl,h5⟩
     rw [h5]
     clear h5 w5
     go_wp2
     go_roundw
     case rel=>exact ⟨f,k2,at2 + 1 + 1,by go_num,by omega,HW5.out,HR5.out,HN5.out,HO5.out,HE.out,by omega⟩
     case measure=>rw [hrd5,hrdA];omega
  ·have t1:decide (out.length < n) = false:=decide_eq_false hlt
   obtain ⟨f,rfl⟩:∃ f',f = f' + 1:=⟨f - 1,by have:=HR2.out.le;omega⟩
   have HE2:Hid (R = some (out,at2)):=by unfold Hid;rw [HE.out];unfold lenL;rw [if_pos (by omega)]
   have hfr:wr.frozen? ⟨q,0,none⟩ = false:=Zan HN.out
   have hce:wr.cell? ⟨q,0,none⟩ = some (.int .i64 0):=cell_of_one HN.out
   clear HE
   go_wp2
   refine Zxn (x:=.slice a1 out.length c1) (HN.out.set (.int .i64 0)) rfl rfl ?_
   exact RowOut.some HE2.out (HL.out.setCell (p:=⟨q,0,none⟩) (.inr (by show w.heap.size <= q;rw [HQ.out];exact Nat.le_refl _)) _) ⟨a1,c1,rfl,((HW.out.other (p:=⟨q,0,none⟩) (fun g hg=>by show q ≠ g;rcases HW.out.form with ⟨h,_⟩ | ⟨g',h,hb,_⟩ <;> (rw [h] at hg;cases hg);omega) _).mono (by rw [HQ.out];omega)),HR2.out.only (T:=fun b=>b = q) ((Only.refl (fun b=>b = q) _).setCell (p:=⟨q,0,none⟩) (.inl rfl) _) (fun b hb=>by show b ≠ q;omega)⟩
theorem Zjl (w:World) (rp:Nat) (bs:List Nat) (at_ n:Nat) (hn0:3 <= n) (hn:n <= 258) (h:RdM w rp bs at_) :
  Calls Tryz.prog 79 #[.pointer (some ⟨rp,0,none⟩),.int .i64 (n:Nat)] w fun e w'=>RowOut w rp bs (lenG (rv bs) at_ n) e w':=by
 have HT:=Zh (Zoe w rp bs at_ n hn h)
 have t1:decide ((n:Int) < 3) = false:=by simp;omega
 have t2:decide ((258:Int) < (n:Int)) = false:=by simp;omega
 clear h
 generalize hR:lenG (rv bs) at_ n = R at *
 clear hR
 go_enter Tryz.func79,Tryz.ntmps79
 go_wp2_with fail
 refine HT.out.mono ?_
 rintro e w1 h
 rcases R with _ | ⟨l,at2⟩
 ·obtain ⟨ho,x,rfl⟩:=h
  have HO:=Zh ho
  clear ho HT
  go_wp2
  go_ret2
  exact RowOut.none rfl HO.out
 ·obtain ⟨ho,a,c,rfl,hl,hr⟩:=h
  have HO:=Zh ho
  have HL:=Zh hl
  have HR:=Zh hr
  clear ho hl hr HT
  go_wp2
  go_ret2
  exact RowOut.some rfl HO.out ⟨a,c,rfl,HL.out,HR.out⟩
end Go.Proofs.YtnkpnjnfddjfpaaGreat

namespace Go.Proofs.YtnkpnjnfddjfpaaGreat
open Go.RowKit Go.Shelf M01 M02 M27
def Lst (w:World) (mb:Nat) (l:List Nat):Prop:=w.heap[mb]? = some (.cells (l.map fun (n:Nat)=>Value.int .i64 n).toArray 228 (0,0)) /\ l.length = 6
theorem Lst.cell {w:World} {mb:Nat} {l:List Nat} (h:Lst w mb l) {i:Nat} (hi:i < 6):w.cell? ⟨mb,i,none⟩ = some (.int .i64 (l.getD i 0:Nat)):=by
 have hl:i < l.length:=by rw [h.2];exact hi
 simp [World.cell?,h.1,hl]
theorem Zwl (mb k:Nat) (hk:k < 6) (w:World):(Instr.sliceAt 228 (.pointer (some ⟨mb,0,none⟩)) (some (.int .i64 1)) (some (.int .i64 ((k:Int) + 1))) none).run Tryz.prog w = .ok (.slice (some ⟨mb,1,none⟩) k 5) w:=by
 have hsz:(Tryz.prog.info? 3).map (·.size) = some 1:=by kernel_rfl
 have hu:Tryz.prog.underlying 228 = some (.array 6 3):=by kernel_rfl
 have h1:(k:Int) + 1 <= 6:=by omega
 have h2:(0:Int) <= (k:Int) + 1:=by omega
 have h3:((k:Int) + 1).toNat = k + 1:=by omega
 have h4:¬ ((k:Int) + 1 < 1):=by omega
 have h6:(1:Int) <= (k:Int) + 1:=by omega
 cases h5:Tryz.prog.info? 3 with
 | none=>rw [h5] at hsz;cases hsz
 | some ie =>
  simp only [h5,Option.map_some,Option.some.injEq] at hsz
  simp [Instr.sliceAt,Instr.sureAddr,Instr.sliceBounds,Instr.sliceBound,run_underlying hu,asIntOf,sizeOf,typeInfo,h5,go_sem,h1,h2,h3,h4,h6,hsz,Addr.add]
theorem Zwk (mb k:Nat) (hk:k < 6) (w:World):(Instr.sliceAt 228 (.pointer (some ⟨mb,0,none⟩)) none (some (.int .i64 (k:Nat))) none).run Tryz.prog w = .ok (.slice (some ⟨mb,0,none⟩) k 6) w:=by
 have hsz:(Tryz.prog.info? 3).map (·.size) = some 1:=by kernel_rfl
 have hu:Tryz.prog.underlying 228 = some (.array 6 3):=by kernel_rfl
 have h1:k <= 6:=by omega
 cases h5:Tryz.prog.info? 3 with
 | none=>rw [h5] at hsz;cases hsz
 | some ie =>
  simp only [h5,Option.map_some,Option.some.injEq] at hsz
  simp [Instr.sliceAt,Instr.sureAddr,Instr.sliceBounds,Instr.sliceBound,run_underlying hu,asIntOf,sizeOf,typeInfo,h5,go_sem,h1,hsz,Addr.add]
theorem Zjr (l:List Value) (k:Nat) (hk:k < l.length) (z:Value):(l.take 1 ++ l.take k ++ l.drop (1 + k)).set 0 (l.getD k z) = l.getD k z :: (l.take k ++ l.drop (k + 1)):=by
 cases l with
 | nil=>simp at hk
 | cons a l=>simp [Nat.add_comm]
theorem Zqg (w:World) (dT e:TypeId) (mb k t:Nat) (ds sc:Nat) (l:List Nat) (K:IntKind) (v:Value) (hv:v = .int K (l.getD k 0:Nat)) (hu:Tryz.prog.underlying dT = some (.slice e)) (hs:(Tryz.prog.info? e).map (·.size) = some 1) (hk:k < l.length)
  (h:w.heap[mb]? = some (.cells (l.map fun (n:Nat)=>Value.int K n).toArray t (0,0))) :
  ∃ w1,(∀ ty,(Builtin.copy_ #[dT,dT] ty #[.slice (some ⟨mb,1,none⟩) k ds,.slice (some ⟨mb,0,none⟩) k sc]).run Tryz.prog w = .ok (goInt k) w1) /\ Only (fun b=>b = mb) w w1 /\ (∃ z,w1.cell? ⟨mb,0,none⟩ = some z) /\ w1.frozen? ⟨mb,0,none⟩ = false ∧
   (w1.setCell ⟨mb,0,none⟩ v).heap[mb]? = some (.cells ((toFront l k).map fun (n:Nat)=>Value.int K n).toArray t (0,0)):=by
 obtain ⟨vs,hvs⟩:∃ vs,(l.map fun (n:Nat)=>Value.int K n) = vs:=⟨_,rfl⟩
 have hlen:vs.length = l.length:=by rw [<- hvs];simp
 have hrun:=fun ty=>run_copy_row (P:=Tryz.prog) w dT dT ty e mb 1 k ds ⟨mb,0,none⟩ k sc vs.toArray t (vs.take k) hu hs (by rw [<- hvs];exact h) (by simp;omega) (by
  intro j x hj
  have hjk:j < k:=by have:=(List.getElem?_eq_some_iff.1 hj).1;simp at this;omega
  have hjv:vs[j]? = some x:=by rw [<- hj,List.getElem?_take_of_lt hjk]
  rw [hvs] at h
  have:(⟨mb,0,none⟩:Addr).add j = ⟨mb,j,none⟩:=by unfold Addr.add;split <;> simp_all
  rw [this]
  simp [World.cell?,h,hjv]) (by simp;omega) (by
  intro x hx
  have hx2:=List.mem_of_mem_take hx
  rw [<- hvs] at hx2
  obtain ⟨n,_,rfl⟩:=List.mem_map.1 hx2
  rfl)
 have hl1:(vs.take k).length = k:=by simp;omega
 rw [hl1] at hrun
 rw [hvs] at h
 have hrow:=setRow_heap w mb vs.toArray (vs.toArray.toList.take 1 ++ vs.take k ++ vs.toArray.toList.drop (1 + k)).toArray t (0,0) h
 have hfl:=Zjr vs k (by omega) v
 have hgv:vs.getD k v = v:=by rw [<- hvs,hv];simp [List.getElem?_eq_getElem hk]
 have htf:(toFront l k).map (fun (n:Nat)=>Value.int K n) = v :: (vs.take k ++ vs.drop (k + 1)):=by
  unfold toFront
  rw [<- hvs,hv]
  simp [List.map_take,List.map_drop]
 refine ⟨_,hrun,?_,?_,?_,?_⟩
 ·refine ⟨rfl,rfl,rfl,by simp [World.setRow],fun b hb hn=>?_⟩
  show (w.heap.modify mb _)[b]? = _
  rw [Array.getElem?_modify,if_neg (by intro e;exact hn e.symm)]
 ·cases hc:(vs.toArray.toList.take 1 ++ vs.take k ++ vs.toArray.toList.drop (1 + k)) with
  | nil =>
   have:=congrArg List.length hc
   simp at this
   have h0:vs.length = 0:=by rw [this.1];rfl
   omega
  | cons z zs=>exact ⟨z,by rw [hc] at hrow;simp [World.cell?,hrow]⟩
 ·unfold World.frozen?
  rw [hrow]
  rfl
 ·rw [hgv] at hfl
  rw [Zao hrow,htf,<- hfl]
  simp
set_option maxRecDepth 100000 in
set_option maxHeartbeats 1600000 in
theorem Zaav (w:World) (pb mb:Nat) (l:List Nat) (k:Nat) (hk:k < 6) (hp:w.cell? ⟨pb,0,none⟩ = some (.pointer (some ⟨mb,0,none⟩))) (hpm:pb ≠ mb) (h:Lst w mb l) :
  Calls Tryz.prog 175 #[.int .i64 (k:Nat),.pointer (some ⟨pb,0,none⟩)] w fun e w'=>e = .returned (.int .i64 (l.getD k 0:Nat)) /\ Lst w' mb (toFront l k) /\ Only (fun b=>b = mb) w w':=by
 have hc:=h.cell hk
 have hlen:=h.2
 have hl2:(toFront l k).length = 6:=by unfold toFront;simp;omega
 obtain ⟨w1,hrun,ho1,⟨z,hz⟩,hfr,hset⟩:=Zqg w.drew 36 3 mb k 228 5 6 l .i64 (.int .i64 (l.getD k 0:Nat)) rfl Tryz.underlying36 (by kernel_rfl) (by omega) h.1
 have HRUN:=Zh hrun
 have HO1:=Zh (Only.trans ((Only.refl (fun b=>b = mb) w).drew) ho1)
 have HSET:=Zh hset
 have HL2:=Zh hl2
 have hp1:w1.cell? ⟨pb,0,none⟩ = some (.pointer (some ⟨mb,0,none⟩)):=by
  have hlt:pb < w.heap.size:=by
   unfold World.cell? at hp
   rcases Nat.lt_or_ge pb w.heap.size with h1 | h1
   ·exact h1
   ·rw [Array.getElem?_eq_none h1] at hp;simp at hp
  have:=ho1.block pb hlt hpm
  unfold World.cell? at hp ⊢
  rw [this]
  exact hp
 clear h hrun ho1 hset hl2 hlen
 generalize l.getD k 0 = v at *
 have hk1:IntKind.i64.wrap ((k:Int) + 1) = (k:Int) + 1:=IntWalk.i64_in _ (by omega)
 have hk2:(k:Int) < 6:=by omega
 have hs1:=Zwl mb k hk
 have hs2:=Zwk mb k hk
 go_enter Tryz.func175,Tryz.ntmps175
 go_wp2_with fail
 go_still_tail 9,(by kernel_rfl)
 go_wp2_with fail
 rw [HRUN.out]
 simp only [goInt]
 go_wp2
 go_ret
 exact ⟨rfl,⟨HSET.out,HL2.out⟩,HO1.out.setCell (p:=⟨mb,0,none⟩) (.inl rfl) _⟩
theorem Zym (w:World):Calls Tryz.prog 120 #[] w fun e w'=>∃ pb mb,e = .returned (.tuple #[.pointer (some ⟨mb,0,none⟩),.func (Fn.func 175) #[] #[.pointer (some ⟨pb,0,none⟩)]]) /\ w'.cell? ⟨pb,0,none⟩ = some (.pointer (some ⟨mb,0,none⟩)) /\ pb ≠ mb /\ Lst w' mb [0,1,2,3,4,5] /\ Below w.heap.size w w' /\ w.heap.size <= pb /\ w.heap.size <= mb:=by
 go_enter Tryz.func120,Tryz.ntmps120
 go_wp2_with fail
 have hH:=World.alloc_heap_new w (.cells #[.pointer (some ⟨w.heap.size + 1,0,none⟩)] 181)
 have hL:=World.alloc_heap_new (w.alloc (.cells #[.pointer (some ⟨w.heap.size + 1,0,none⟩)] 181)) (.cells #[.int .i64 0,.int .i64 1,.int .i64 2,.int .i64 3,.int .i64 4,.int .i64 5] 228)
 rw [show (w.alloc (.cells #[.pointer (some ⟨w.heap.size + 1,0,none⟩)] 181)).heap.size = w.heap.size + 1 by simp] at hL
 have hB:Below w.heap.size w ((w.alloc (.cells #[.pointer (some ⟨w.heap.size + 1,0,none⟩)] 181)).alloc (.cells #[.int .i64 0,.int .i64 1,.int .i64 2,.int .i64 3,.int .i64 4,.int .i64 5] 228)):=(Zai w _).trans ((Zai _ _).mono (by simp))
 have hP:((w.alloc (.cells #[.pointer (some ⟨w.heap.size + 1,0,none⟩)] 181)).alloc (.cells #[.int .i64 0,.int .i64 1,.int .i64 2,.int .i64 3,.int .i64 4,.int .i64 5] 228)).cell? ⟨w.heap.size,0,none⟩ = some (.pointer (some ⟨w.heap.size + 1,0,none⟩)):=by
  refine cell_of_one (t:=181) ?_
  rw [Below.heap_alloc _ _ _ (by simp)]
  exact hH
 generalize (w.alloc (.cells #[.pointer (some ⟨w.heap.size + 1,0,none⟩)] 181)).alloc (.cells #[.int .i64 0,.int .i64 1,.int .i64 2,.int .i64 3,.int .i64 4,.int .i64 5] 228) = w1 at *
 refine bodyPost_ret (v:=.tuple #[.pointer (some ⟨w.heap.size + 1,0,none⟩),.func (Fn.func 175) #[] #[.pointer (some ⟨w.heap.size,0,none⟩)]]) (by simp [results,Tryz.results120,go_sem,hP]) rfl ?_
 exact ⟨w.heap.size,w.heap.size + 1,rfl,hP,by omega,⟨hL,rfl⟩,hB,by omega,by omega⟩
end Go.Proofs.YtnkpnjnfddjfpaaGreat

namespace Go.Proofs.YtnkpnjnfddjfpaaGreat
open Go.RowKit Go.Shelf M01 M02 M27
def SelOut (w:World) (rp:Nat) (bs:List Nat) (R:Option (List Nat × Nat)) (e:Ending) (w':World):Prop :=
 Only (fun b=>b = rp) w w' /\ match R with
 | some (l,at2)=>∃ a c,e = .returned (.tuple #[.slice a l.length c,.int .i64 0]) /\ OwnN 3 .i64 w' w.heap.size a c l /\ RdM w' rp bs at2
 | none=>∃ x,e = .returned (.tuple #[x,.int .i64 2])
theorem SelOut.some {w w':World} {rp at2:Nat} {bs l:List Nat} {e:Ending} {R:Option (List Nat × Nat)} (hR:R = some (l,at2)) (h:Only (fun b=>b = rp) w w') (h2:∃ a c,e = .returned (.tuple #[.slice a l.length c,.int .i64 0]) /\ OwnN 3 .i64 w' w.heap.size a c l /\ RdM w' rp bs at2):SelOut w rp bs R e w':=by
 subst hR;exact ⟨h,h2⟩
theorem SelOut.none {w w':World} {rp:Nat} {bs:List Nat} {x:Value} {R:Option (List Nat × Nat)} (hR:R = none) (h:Only (fun b=>b = rp) w w'):SelOut w rp bs R (.returned (.tuple #[x,.int .i64 2])) w':=by
 subst hR;exact ⟨h,x,rfl⟩
theorem Zeq {w A:World} {q rp:Nat} {z:Value} {bs:List Nat} {R:Option (List Nat × Nat)} {tmps:Array Value} (hR:R = none) (h:OneR q A z) (ho:Only (fun b=>b = rp) w A) (hq:w.heap.size = q) (t5:tmps.getD 5 undef = .pointer (some ⟨q,0,none⟩)) :
  bodyPostD Tryz.prog Tryz.f126 (SelOut w rp bs R) (.panic formP) { tmps:=tmps,defers:=choDef q } A :=
 Zpy h t5 fun x=>SelOut.none hR (ho.setCell (p:=⟨q,0,none⟩) (.inr (by show w.heap.size <= q;omega)) _)
theorem Zxr {T:Nat -> Prop} {mb:Nat} {w A B:World} (h:Only T w A) (k:Only (fun b=>b = mb) A B) (hm:w.heap.size <= mb):Only T w B :=
 ⟨k.os.trans h.os,k.tape.trans h.tape,k.output.trans h.output,Nat.le_trans h.size k.size,fun b hb hT=>(k.block b (Nat.lt_of_lt_of_le hb h.size) (by show b ≠ mb;omega)).trans (h.block b hb hT)⟩
theorem Zbp {T:Nat -> Prop} {A B:World} {p:Addr} {v:Value} (h:A.cell? p = some v) (ho:Only T A B) (hT:¬ T p.block):B.cell? p = some v:=by
 have hlt:=World.cell?_ltH h
 unfold World.cell? at h ⊢
 rw [ho.block _ hlt hT]
 exact h
theorem Zbd {n:Nat} {A B:World} {p:Addr} {v:Value} (h:A.cell? p = some v) (ho:Below n A B) (hn:p.block < n):B.cell? p = some v:=by
 unfold World.cell? at h ⊢
 rw [ho.block _ hn]
 exact h
theorem Lst.only {T:Nat -> Prop} {A B:World} {mb:Nat} {l:List Nat} (h:Lst A mb l) (ho:Only T A B) (hT:¬ T mb):Lst B mb l:=⟨Zad h.1 ho hT,h.2⟩
theorem Lst.belowAt {n:Nat} {A B:World} {mb:Nat} {l:List Nat} (h:Lst A mb l) (ho:Below n A B) (hn:mb < n):Lst B mb l:=⟨(ho.block mb hn).trans h.1,h.2⟩
theorem Ziu (l:List Nat) (k:Nat) (hk:k < l.length):(toFront l k).length = l.length:=by unfold toFront;simp;omega
set_option maxRecDepth 100000 in
set_option maxHeartbeats 3200000 in
theorem Zrn (w:World) (rp:Nat) (bs:List Nat) (at_ n:Nat) (hn0:2 <= n) (hn:n <= 6) (h:RdM w rp bs at_) :
  Calls Tryz.prog 126 #[.pointer (some ⟨rp,0,none⟩),.int .i64 (n:Nat)] w fun e w'=>SelOut w rp bs (selG (rv bs) at_ n) e w':=by
 have hrp:=h.lt
 have hlen:=Zba bs
 have H:=Zh (h.below (Zai w (.cells #[.int .i64 0] 25)))
 have HONE:=Zh (OneR.new w (.int .i64 0))
 have HO0:=Zh (Only.ofBelow (T:=fun b=>b = rp) (Zai w (.cells #[.int .i64 0] 25)))
 have hsz:(w.alloc (.cells #[.int .i64 0] 25)).heap.size = w.heap.size + 1:=by simp
 clear h
 obtain ⟨R,hR0⟩:∃ R,R = selG (rv bs) at_ n:=⟨_,rfl⟩
 rw [<- hR0]
 replace hR0:=Zh hR0
 have hmf:∀ (fn:Fn) (first cap:Array Value) (w:World),(Instr.makeFunc fn first cap).run Tryz.prog w = .ok (.func fn first cap) w:=fun _ _ _ _=>rfl
 go_enter_defers Tryz.func126,Tryz.ntmps126
 go_wp2_with fail
 generalize w.alloc (.cells #[.int .i64 0] 25) = w0 at *
 obtain ⟨q,hq⟩:∃ q,w.heap.size = q:=⟨_,rfl⟩
 simp only [hq] at HONE hsz hrp ⊢
 have HQ:=Zh hq
 clear hmf hq
 by_cases h1:at_ + 15 <= 8 * bs.length
 case neg =>
  have HR:Hid (R = none):=by unfold Hid;rw [hR0.out];unfold selG numG nb;rw [if_neg (by omega)];rfl
  refine (Zas w0 rp bs at_ 15 (by decide) H.out (by omega)).mono ?_
  rintro e w1 ⟨rfl,n1,rfl⟩
  clear h1
  go_wp2_with fail
  refine (Zgh (.int .u32 0) _).mono ?_
  rintro e w2 ⟨rfl,rfl⟩
  exact Zeq HR.out (HONE.out.only (Zah (fun _=>False) _ _) id) (HO0.out.trans (Zah _ _ _)) HQ.out rfl
 refine (Zbv w0 rp bs at_ 15 (by decide) H.out h1).mono ?_
 rintro e w1 ⟨rfl,hr1,ho1⟩
 have HR1:=Zh hr1
 have HO1:=Zh (HO0.out.trans ho1)
 have HQ1:=Zh (HONE.out.only ho1 (by show q ≠ rp;omega))
 have hx:=Zbk (rv bs) at_ 15
 have HF:Hid (R = if numH (rv bs) at_ 15 = 0 then none else selL (rv bs) n (numH (rv bs) at_ 15) [0,1,2,3,4,5] (at_ + 15) []):=by
  unfold Hid;rw [hR0.out];unfold selG numG nb;rw [if_pos (by omega)];rfl
 have hz1:=ho1.size
 clear hR0 hr1 ho1 H HO0 HONE
 generalize numH (rv bs) at_ 15 = x at *
 go_wp2_with fail
 refine (Zgi x (by omega) w1).mono ?_
 rintro e w1' ⟨rfl,h1'⟩
 rw [h1']
 clear h1' w1'
 by_cases hx0:x = 0
 ·have t1:((x:Int) == 0) = true:=by simp [hx0]
  have HR:Hid (R = none):=by unfold Hid;rw [HF.out,if_pos hx0]
  clear HF hx0
  go_wp2
  exact Zeq HR.out HQ1.out HO1.out HQ.out rfl
 have t1:((x:Int) == 0) = false:=by simp [hx0]
 rw [if_neg hx0] at HF
 go_wp2_with fail
 refine (Zym w1).mono ?_
 rintro e w2 ⟨pb,mb,rfl,hpb,hpm,hls,hbw,hpb1,hmb1⟩
 have HPB:=Zh hpb
 have HLS:=Zh hls
 have HR2:=Zh (HR1.out.below hbw)
 have HO2:=Zh (HO1.out.below hbw)
 have HQ2:=Zh (HQ1.out.below hbw)
 have hz2:=hbw.size
 have hpb2:pb < w2.heap.size:=World.cell?_ltH hpb
 have hmb2:mb < w2.heap.size:=(Array.getElem?_eq_some_iff.1 hls.1).1
 clear hpb hls hbw HR1 HO1 HQ1
 obtain ⟨B0,hB0⟩:∃ B0,w2.heap.size = B0:=⟨_,rfl⟩
 simp only [hB0] at hz2 hpb2 hmb2
 have HB0:=Zh hB0
 clear hB0
 go_wp2_with fail
 go_loopw [4,9] (fun ov kv A=>∃ (at2:Nat) (a':Option Addr) (c':Nat) (out lst:List Nat),ov = .slice a' out.length c' /\ out.length <= x /\ OwnN 3 .i64 A B0 a' c' out /\ RdM A rp bs at2 /\ OneR q A (.int .i64 0) /\ A.cell? ⟨pb,0,none⟩ = some (.pointer (some ⟨mb,0,none⟩)) /\ Lst A mb lst /\ Only (fun b=>b = rp) w A /\ B0 <= A.heap.size /\ R = selL (rv bs) n (x - out.length) lst at2 out) (fun ov _ _=>x - lnV ov)
 case atStart=>exact ⟨at_ + 15,none,0,[],[0,1,2,3,4,5],rfl,by simp,OwnN.nil _ _ _ _,HR2.out,HQ2.out,HPB.out,HLS.out,HO2.out,by rw [HB0.out];exact Nat.le_refl _,HF.out⟩
 case round =>
  obtain ⟨at2,a1,c1,out,lst,rfl,hol,how,hrd,hon,hpb,hls,honly,hzA,heq⟩:=hrel
  have HW:=Zh how
  have HR2:=Zh hrd
  have HN:=Zh hon
  have HP:=Zh hpb
  have HLS:=Zh hls
  have HL:=Zh honly
  have HE:=Zh heq
  clear how hrd hon hpb hls honly heq HF
  by_cases hlt:out.length < x
  ·have t1:decide (out.length < x) = true:=decide_eq_true hlt
   obtain ⟨m,hm⟩:∃ m,x - out.length = m + 1:=⟨x - out.length - 1,by omega⟩
   rw [hm] at HE
   have HE2:Hid (R = (onesG (rv bs) n (8 - 0) 0 at2).bind fun p=>selL (rv bs) n m (toFront lst p.1) p.2 (out ++ [lst.getD p.1 0])):=HE
   clear HE
   go_wp2_with fail
   go_loopw [9] (fun kv A=>∃ (k at2:Nat),kv = .int .i64 (k:Nat) /\ k < n /\ OwnN 3 .i64 A B0 a1 c1 out /\ RdM A rp bs at2 /\ OneR q A (.int .i64 0) /\ A.cell? ⟨pb,0,none⟩ = some (.pointer (some ⟨mb,0,none⟩)) /\ Lst A mb lst /\ Only (fun b=>b = rp) w A /\ B0 <= A.heap.size /\ R = (onesG (rv bs) n (8 - k) k at2).bind fun p=>selL (rv bs) n m (toFront lst p.1) p.2 (out ++ [lst.getD p.1 0])) (fun _ A=>8 * bs.length - rdAtM A rp)
   case atStart=>exact ⟨0,at2,rfl,by omega,HW.out,HR2.out,HN.out,HP.out,HLS.out,HL.out,hzA,HE2.out⟩
   case round =>
    clear HW HR2 HN HL HE2 HP HLS hzA
    obtain ⟨k,at2,rfl,hkn,how,hrd,hon,hpb,hls,honly,hzA,heq⟩:=hrel
    have HW:=Zh how
    have HR2:=Zh hrd
    have HN:=Zh hon
    have HP:=Zh hpb
    have HLS:=Zh hls
    have HL:=Zh honly
    have hat:=hrd.le
    have hrdA:=Zhx hrd
    obtain ⟨f,hf⟩:∃ f,8 - k = f + 1:=⟨7 - k,by omega⟩
    have hf2:8 - (k + 1) = f:=by omega
    have HE:=Zh heq
    rw [hf] at HE
    unfold onesG at HE
    clear how hrd hon hpb hls honly heq
    by_cases h2:at2 + 1 <= 8 * bs.length
    case neg =>
     have HR:Hid (R = none):=by unfold Hid;rw [HE.out,if_pos (by unfold nb;omega)];rfl
     have HG:=Zh (Zas wr rp bs at2 1 (by decide) HR2.out (by omega))
     clear HE hf hf2
     go_wp2_with fail
     refine HG.out.mono ?_
     rintro e w2 ⟨rfl,n1,rfl⟩
     clear HG
     go_wp2_with fail
     refine (Zgh (.int .u32 0) _).mono ?_
     rintro e w3 ⟨rfl,rfl⟩
     exact Zeq HR.out (HN.out.only (Zah (fun _=>False) _ _) id) (HL.out.trans (Zah _ _ _)) HQ.out rfl
    have HG:=Zh (Zbv wr rp bs at2 1 (by decide) HR2.out h2)
    rw [if_neg (by unfold nb;omega)] at HE
    rw [Zkq] at HG
    have hbl:=Zdy (rv bs) at2
    generalize hbv:bit (rv bs) at2 = b at *
    have HF2:=Zh hf2
    clear hbv hf hf2
    go_wp2_with fail
    refine HG.out.mono ?_
    rintro e w3 ⟨rfl,hr3,ho3⟩
    have HR3:=Zh hr3
    have HO3:=Zh (HL.out.trans ho3)
    have HN3:=Zh (HN.out.only ho3 (by show q ≠ rp;omega))
    have HW3:=Zh (HW.out.only ho3 (fun b hb=>by show b ≠ rp;omega))
    have HP3:=Zh (Zbp HP.out ho3 (by show pb ≠ rp;omega))
    have HLS3:=Zh (HLS.out.only ho3 (by show mb ≠ rp;omega))
    have hz3:=Nat.le_trans hzA ho3.size
    have hrd3:=Zhx hr3
    clear hr3 ho3 HG HR2 HL HN HW HP HLS
    go_wp2_with fail
    refine (Zgi b (by omega) w3).mono ?_
    rintro e w4 ⟨rfl,h4⟩
    rw [h4]
    clear h4 w4
    by_cases hb:b = 0
    ·subst hb
     rw [if_pos rfl] at HE
     have HE2:Hid (R = selL (rv bs) n m (toFront lst k) (at2 + 1) (out ++ [lst.getD k 0])):=HE
     have HAT:=Zh (Zaav w3 pb mb lst k (by omega) HP3.out hpm HLS3.out)
     generalize lst.getD k 0 = y at *
     clear HE
     go_wp2_with fail
     refine HAT.out.mono ?_
     rintro e w5 ⟨rfl,hls5,ho5⟩
     have HLS5:=Zh hls5
     have HO5:=Zh ho5
     have HW5:=Zh (HW3.out.only ho5 (fun b hb=>by show b ≠ mb;omega))
     have hz5:=Nat.le_trans hz3 ho5.size
     clear hls5 ho5 HAT
     go_wp2_with (at_builtin;refine app1N Zax rfl (.tmp 39) (.tmp 43) rfl (y:=y) (l:=out) (base:=B0) rfl HW5.out rfl (Nat.le_refl _) (by decide) (by omega) (by omega) hz5 ?_;intro a6 c6 w6 o6 hg6 hb6)
     go_roundw
     case rel=>exact ⟨at2 + 1,a6,c6,out ++ [y],toFront lst k,by rw [List.length_append];rfl,by rw [List.length_append];simp;omega,o6,(HR3.out.only HO5.out (fun b hb=>by show b ≠ mb;omega)).belowAt hb6 (by omega),(HN3.out.only HO5.out (by show q ≠ mb;omega)).belowAt hb6 (by omega),Zbd (Zbp HP3.out HO5.out hpm) hb6 hpb2,HLS5.out.belowAt hb6 hmb2,(Zxr HO3.out HO5.out (by rw [HQ.out];omega)).belowAt2 hb6 (by rw [HQ.out];omega),Nat.le_trans hz5 hb6.size,by rw [HE2.out,List.length_append];exact congrArg (fun t=>selL (rv bs) n t (toFront lst k) (at2 + 1) (out ++ [y])) (by show m = x - (out.length + 1);omega)⟩
     case measure=>simp [lnV];omega
    ·obtain rfl:b = 1:=by omega
     rw [if_neg (by decide)] at HE
     by_cases hkt:k + 1 = n
     ·have HR:Hid (R = none):=by unfold Hid;rw [HE.out,if_pos hkt];rfl
      have hw1:IntKind.i64.wrap ((k:Int) + 1) = (k:Int) + 1:=IntWalk.i64_in _ (by omega)
      have t3:((k:Int) + 1 == (n:Int)) = true:=by simp;omega
      clear HE hkt
      go_wp2
      exact Zeq HR.out HN3.out HO3.out HQ.out rfl
     ·rw [if_neg hkt,<- HF2.out] at HE
      obtain ⟨k1,hk1⟩:∃ k1,k + 1 = k1:=⟨_,rfl⟩
      have hw1:IntKind.i64.wrap ((k:Int) + 1) = (k1:Int):=by rw [IntWalk.i64_in _ (by omega)];omega
      have t3:((k1:Int) == (n:Int)) = false:=by simp;omega
      have hk1n:k1 < n:=by omega
      rw [hk1] at HE
      clear hkt hk1 hkn
      go_wp2
      go_roundw
      case rel=>exact ⟨k1,at2 + 1,rfl,hk1n,HW3.out,HR3.out,HN3.out,HP3.out,HLS3.out,HO3.out,hz3,HE.out⟩
      case measure=>rw [hrd3,hrdA];omega
  ·have t1:decide (out.length < x) = false:=decide_eq_false hlt
   have hx2:x - out.length = 0:=by omega
   rw [hx2] at HE
   have HE2:Hid (R = some (out,at2)):=HE
   have hfr:wr.frozen? ⟨q,0,none⟩ = false:=Zan HN.out
   have hce:wr.cell? ⟨q,0,none⟩ = some (.int .i64 0):=cell_of_one HN.out
   clear HE hx2
   go_wp2
   refine Zww (x:=.slice a1 out.length c1) (HN.out.set (.int .i64 0)) rfl rfl ?_
   exact SelOut.some HE2.out (HL.out.setCell (p:=⟨q,0,none⟩) (.inr (by show w.heap.size <= q;rw [HQ.out];exact Nat.le_refl _)) _) ⟨a1,c1,rfl,((HW.out.other (p:=⟨q,0,none⟩) (fun g hg=>by show q ≠ g;rcases HW.out.form with ⟨h,_⟩ | ⟨g',h,hb,_⟩ <;> (rw [h] at hg;cases hg);omega) _).mono (by rw [HQ.out];omega)),HR2.out.only (T:=fun b=>b = q) ((Only.refl (fun b=>b = q) _).setCell (p:=⟨q,0,none⟩) (.inl rfl) _) (fun b hb=>by show b ≠ q;omega)⟩
theorem Zhm (w:World) (rp:Nat) (bs:List Nat) (at_ n:Nat) (hn0:2 <= n) (hn:n <= 6) (h:RdM w rp bs at_) :
  Calls Tryz.prog 77 #[.pointer (some ⟨rp,0,none⟩),.int .i64 (n:Nat)] w fun e w'=>SelOut w rp bs (selG (rv bs) at_ n) e w':=by
 have HT:=Zh (Zrn w rp bs at_ n hn0 hn h)
 have t1:decide ((n:Int) < 2) = false:=by simp;omega
 have t2:decide ((6:Int) < (n:Int)) = false:=by simp;omega
 clear h
 generalize hR:selG (rv bs) at_ n = R at *
 clear hR
 go_enter Tryz.func77,Tryz.ntmps77
 go_wp2_with fail
 refine HT.out.mono ?_
 rintro e w1 h
 rcases R with _ | ⟨l,at2⟩
 ·obtain ⟨ho,x,rfl⟩:=h
  have HO:=Zh ho
  clear ho HT
  go_wp2
  go_ret2
  exact SelOut.none rfl HO.out
 ·obtain ⟨ho,a,c,rfl,hl,hr⟩:=h
  have HO:=Zh ho
  have HL:=Zh hl
  have HR:=Zh hr
  clear ho hl hr HT
  go_wp2
  go_ret2
  exact SelOut.some rfl HO.out ⟨a,c,rfl,HL.out,HR.out⟩
theorem Zez (w:World) (rp:Nat) (n:Nat) (hn:n < 2 \/ 6 < n) :
  Calls Tryz.prog 77 #[.pointer (some ⟨rp,0,none⟩),.int .i64 (n:Nat)] w fun e w'=>e = .returned (.tuple #[.slice none 0 0,.int .i64 5]) /\ w' = w:=by
 rcases hn with hn | hn
 ·have t1:decide ((n:Int) < 2) = true:=by simp;omega
  go_enter Tryz.func77,Tryz.ntmps77
  go_wp2
  go_ret2
  exact ⟨rfl,rfl⟩
 ·have t1:decide ((n:Int) < 2) = false:=by simp;omega
  have t2:decide ((6:Int) < (n:Int)) = true:=by simp;omega
  go_enter Tryz.func77,Tryz.ntmps77
  go_wp2
  go_ret2
  exact ⟨rfl,rfl⟩
end Go.Proofs.YtnkpnjnfddjfpaaGreat

namespace Go.Proofs.YtnkpnjnfddjfpaaGreat
open Go.RowKit Go.Shelf M01 M02 M27
set_option maxRecDepth 100000 in
theorem Znh (w:World) (a:Option Addr) (cap:Nat) (l:List Nat) (hr:RowN .u8 w a cap l) (hl:l.length <= 100000000) (h0:l ≠ []) :
  Calls Tryz.prog 102 #[.slice a l.length cap] w fun e w'=>∃ g c',e = .returned (.slice (some ⟨g,0,none⟩) l.length c') /\ OwnN 5 .u8 w' w.heap.size (some ⟨g,0,none⟩) c' l /\ Below w.heap.size w w':=by
 have hx:∃ x,a = some x:=by
  rcases hr.2.2 with h | ⟨b,off,h,_⟩
  ·exact absurd h h0
  ·exact ⟨_,h⟩
 obtain ⟨x,rfl⟩:=hx
 have H0:=Zh h0
 clear h0
 go_enter Tryz.func102,Tryz.ntmps102
 go_wp2_with fail
 rw [eqNilF]
 go_wp2_with (at_builtin;refine appAnyN Zaz rfl (.tmp 5) (.tmp 6) rfl (a:=some ⟨w.heap.size,0,none⟩) (cap:=0) (l:=[]) (ys:=l) (base:=w.heap.size) rfl (OwnN.lit0 _ _ _ _ (Nat.le_refl _)) rfl rfl (hr.below ((Below.refl _ _).alloc (Nat.le_refl _) _)) (by simp;omega) (by simp;omega) (by simp) ?_;intro a1 cap1 w1 hown1 hg1 hb1;simp only [List.nil_append] at hown1;simp only [List.length_nil,Nat.zero_add])
 go_ret
 rcases hown1.form with ⟨_,_,h⟩ | ⟨g,rfl,_⟩
 ·exact absurd h H0.out
 ·exact ⟨g,cap1,rfl,hown1,(Zai w _).trans hb1⟩
theorem Znq (w:World) (dT e:TypeId) (mb k t:Nat) (vs:List Value) (v:Value) (hv:vs.getD k v = v) (h1:∀ x ∈ vs.take k,x.oneCell' = true) (hu:Tryz.prog.underlying dT = some (.slice e)) (hs:(Tryz.prog.info? e).map (·.size) = some 1) (hk:k < vs.length)
  (h:w.heap[mb]? = some (.cells vs.toArray t (0,0))) :
  ∃ w1,(∀ ty,∀ ds sc,(Builtin.copy_ #[dT,dT] ty #[.slice (some ⟨mb,1,none⟩) k ds,.slice (some ⟨mb,0,none⟩) k sc]).run Tryz.prog w = .ok (goInt k) w1) /\ Only (fun b=>b = mb) w w1 /\ (∃ z,w1.cell? ⟨mb,0,none⟩ = some z) /\ w1.frozen? ⟨mb,0,none⟩ = false ∧
   (w1.setCell ⟨mb,0,none⟩ v).heap[mb]? = some (.cells (v :: (vs.take k ++ vs.drop (k + 1))).toArray t (0,0)):=by
 have hrun:=fun ty ds sc=>run_copy_row (P:=Tryz.prog) w dT dT ty e mb 1 k ds ⟨mb,0,none⟩ k sc vs.toArray t (vs.take k) hu hs h (by simp;omega) (by
  intro j x hj
  have hjk:j < k:=by have:=(List.getElem?_eq_some_iff.1 hj).1;simp at this;omega
  have hjv:vs[j]? = some x:=by rw [<- hj,List.getElem?_take_of_lt hjk]
  have:(⟨mb,0,none⟩:Addr).add j = ⟨mb,j,none⟩:=by unfold Addr.add;split <;> simp_all
  rw [this]
  simp [World.cell?,h,hjv]) (by simp;omega) h1
 have hl1:(vs.take k).length = k:=by simp;omega
 rw [hl1] at hrun
 have hrow:=setRow_heap w mb vs.toArray (vs.toArray.toList.take 1 ++ vs.take k ++ vs.toArray.toList.drop (1 + k)).toArray t (0,0) h
 have hfl:=Zjr vs k (by omega) v
 refine ⟨_,hrun,?_,?_,?_,?_⟩
 ·refine ⟨rfl,rfl,rfl,by simp [World.setRow],fun b hb hn=>?_⟩
  show (w.heap.modify mb _)[b]? = _
  rw [Array.getElem?_modify,if_neg (by intro e;exact hn e.symm)]
 ·cases hc:(vs.toArray.toList.take 1 ++ vs.take k ++ vs.toArray.toList.drop (1 + k)) with
  | nil =>
   have:=congrArg List.length hc
   simp at this
   have h0:vs.length = 0:=by rw [this.1];rfl
   omega
  | cons z zs=>exact ⟨z,by rw [hc] at hrow;simp [World.cell?,hrow]⟩
 ·unfold World.frozen?
  rw [hrow]
  rfl
 ·rw [hv] at hfl
  rw [Zao hrow,<- hfl]
  simp
def FrSt (w:World) (lb g cap:Nat) (l:List Nat):Prop:=w.heap[lb]? = some (.cells #[.slice (some ⟨g,0,none⟩) l.length cap] 22 (0,0)) /\ OwnN 5 .u8 w g (some ⟨g,0,none⟩) cap l /\ lb ≠ g
theorem Zaaq (g k n c:Nat) (hk:0 < k) (hn:k < n) (hc:n <= c) (w:World):(Instr.sliceAt 22 (.slice (some ⟨g,0,none⟩) n c) (some (.int .i64 1)) (some (.int .i64 ((k:Int) + 1))) none).run Tryz.prog w = .ok (.slice (some ⟨g,1,none⟩) k (c - 1)) w:=by
 have hsz:(Tryz.prog.info? 5).map (·.size) = some 1:=by kernel_rfl
 have h1:(k:Int) + 1 <= (c:Int):=by omega
 have h2:(0:Int) <= (k:Int) + 1:=by omega
 have h3:((k:Int) + 1).toNat = k + 1:=by omega
 have h6:(1:Int) <= (k:Int) + 1:=by omega
 have h7:¬ c = 1:=by omega
 cases h5:Tryz.prog.info? 5 with
 | none=>rw [h5] at hsz;cases hsz
 | some ie =>
  simp only [h5,Option.map_some,Option.some.injEq] at hsz
  simp [Instr.sliceAt,Instr.slice,Instr.sliceBounds,Instr.sliceBound,run_underlying Tryz.underlying22,asIntOf,sizeOf,typeInfo,h5,go_sem,h1,h2,h3,h6,h7,hsz,Addr.add]
theorem Zaap (g n c:Nat) (hn:0 < n) (hc:n <= c):∃ a,∀ w,(Instr.sliceAt 22 (.slice (some ⟨g,0,none⟩) n c) (some (.int .i64 1)) (some (.int .i64 1)) none).run Tryz.prog w = .ok (.slice a 0 (c - 1)) w:=by
 have hsz:(Tryz.prog.info? 5).map (·.size) = some 1:=by kernel_rfl
 have h1:(1:Int) <= (c:Int):=by omega
 have h1':1 <= c:=by omega
 cases h5:Tryz.prog.info? 5 with
 | none=>rw [h5] at hsz;cases hsz
 | some ie =>
  simp only [h5,Option.map_some,Option.some.injEq] at hsz
  refine ⟨some (if c = 1 then ⟨g,0,none⟩ else ⟨g,1,none⟩),fun w=>?_⟩
  simp [Instr.sliceAt,Instr.slice,Instr.sliceBounds,Instr.sliceBound,run_underlying Tryz.underlying22,asIntOf,sizeOf,typeInfo,h5,go_sem,h1,h1',hsz,Addr.add]
  split <;> rfl
theorem Zvl (g k n c:Nat) (hk:k <= c) (hn:0 < c) (w:World):(Instr.sliceAt 22 (.slice (some ⟨g,0,none⟩) n c) none (some (.int .i64 (k:Nat))) none).run Tryz.prog w = .ok (.slice (some ⟨g,0,none⟩) k c) w:=by
 have hsz:(Tryz.prog.info? 5).map (·.size) = some 1:=by kernel_rfl
 have h7:¬ c = 0:=by omega
 cases h5:Tryz.prog.info? 5 with
 | none=>rw [h5] at hsz;cases hsz
 | some ie =>
  simp only [h5,Option.map_some,Option.some.injEq] at hsz
  simp [Instr.sliceAt,Instr.slice,Instr.sliceBounds,Instr.sliceBound,run_underlying Tryz.underlying22,asIntOf,sizeOf,typeInfo,h5,go_sem,hk,h7,hsz,Addr.add]
theorem FrSt.take {w:World} {lb g cap:Nat} {l:List Nat} (h:FrSt w lb g cap l):∃ vs:List Value,w.heap[g]? = some (.cells vs.toArray 5 (0,0)) /\ vs.take l.length = l.map (fun (n:Nat)=>Value.int .u8 n) /\ l.length <= cap /\ cap <= maxLen /\ vs.length = cap:=by
 obtain ⟨_,⟨h1,h2⟩,_⟩:=h
 rcases h2 with ⟨h2,_⟩ | ⟨g',c,cur,h2,h3,h4,h5,h6,h7,h8⟩
 ·cases h2
 ·simp only [Value.slice.injEq,Option.some.injEq,Addr.mk.injEq,and_true,true_and] at h2
  obtain ⟨rfl,rfl⟩:=h2
  exact ⟨cur.toList,by simpa using h4,by simpa using h8,h5,h6,by simpa using h7⟩
theorem Zqd (vs:List Value) (k n:Nat) (hk:k < n) (hn:n <= vs.length) (v:Value):(v :: (vs.take k ++ vs.drop (k + 1))).take n = v :: ((vs.take n).take k ++ (vs.take n).drop (k + 1)):=by
 obtain ⟨m,rfl⟩:∃ m,n = m + 1:=⟨n - 1,by omega⟩
 rw [List.take_succ_cons,List.take_append,List.take_take,List.take_take,List.length_take,List.drop_take]
 rw [show min m k = k by omega,show min k (m + 1) = k by omega,show m - min k vs.length = m - k by omega,show m + 1 - (k + 1) = m - k by omega]
theorem FrSt.front {w:World} {lb g cap:Nat} {l:List Nat} (h:FrSt w lb g cap l) (k:Nat) (hk:k < l.length):∃ w1,(∀ ty,∀ ds sc,(Builtin.copy_ #[22,22] ty #[.slice (some ⟨g,1,none⟩) k ds,.slice (some ⟨g,0,none⟩) k sc]).run Tryz.prog w = .ok (goInt k) w1) /\ Only (fun b=>b = g) w w1 /\ (∃ z,w1.cell? ⟨g,0,none⟩ = some z) /\ w1.frozen? ⟨g,0,none⟩ = false /\ FrSt (w1.setCell ⟨g,0,none⟩ (.int .u8 (l.getD k 0:Nat))) lb g cap (toFront l k):=by
 obtain ⟨vs,h1,h2,h3,h4,h5⟩:=h.take
 have hgv:vs.getD k (.int .u8 (l.getD k 0:Nat)) = .int .u8 (l.getD k 0:Nat):=by
  have e:vs[k]? = (vs.take l.length)[k]?:=(List.getElem?_take_of_lt hk).symm
  rw [List.getD_eq_getElem?_getD,e,h2]
  simp [List.getElem?_eq_getElem hk]
 have hone:∀ x ∈ vs.take k,x.oneCell' = true:=by
  intro x hx
  have:vs.take k = (vs.take l.length).take k:=by rw [List.take_take,show min k l.length = k by omega]
  rw [this] at hx
  have hx2:=List.mem_of_mem_take hx
  rw [h2] at hx2
  obtain ⟨n,_,rfl⟩:=List.mem_map.1 hx2
  rfl
 obtain ⟨w1,m1,m2,m3,m4,m5⟩:=Znq w 22 5 g k 5 vs (.int .u8 (l.getD k 0:Nat)) hgv hone Tryz.underlying22 (by kernel_rfl) (by omega) h1
 obtain ⟨hl,ho,hne⟩:=h
 have hl2:(toFront l k).length = l.length:=Ziu l k hk
 refine ⟨w1,m1,m2,m3,m4,?_,⟨?_,.inr ⟨g,cap,(Value.int .u8 (l.getD k 0:Nat) :: (vs.take k ++ vs.drop (k + 1))).toArray,rfl,Nat.le_refl _,m5,?_,h4,?_,?_⟩⟩,hne⟩
 ·rw [Below.heap_setCell _ _ _ _ (by show lb ≠ g;exact hne),m2.block lb (Array.getElem?_eq_some_iff.1 hl).1 hne,hl,hl2]
 ·simp
 ·rw [hl2];exact h3
 ·simp;omega
 ·rw [hl2,Nat.mul_one]
  show (Value.int .u8 (l.getD k 0:Nat) :: (vs.take k ++ vs.drop (k + 1))).take l.length = _
  rw [Zqd vs k l.length hk (by omega),h2]
  unfold toFront
  simp [List.map_take,List.map_drop]
theorem FrSt.front0 {w:World} {lb g cap:Nat} {l:List Nat} (h:FrSt w lb g cap l) (h0:0 < l.length):FrSt (w.setCell ⟨g,0,none⟩ (.int .u8 (l.getD 0 0:Nat))) lb g cap (toFront l 0):=by
 have e:toFront l 0 = l.set 0 (l.getD 0 0):=by
  cases l with
  | nil=>simp at h0
  | cons a l=>simp [toFront]
 obtain ⟨hl,ho,hne⟩:=h
 rw [e]
 refine ⟨?_,(ho.stored 0 _).1,hne⟩
 rw [Below.heap_setCell _ _ _ _ (by show lb ≠ g;exact hne),hl]
 simp
theorem FrSt.drew {w:World} {lb g cap:Nat} {l:List Nat} (h:FrSt w lb g cap l):FrSt w.drew lb g cap l:=h
set_option maxRecDepth 100000 in
set_option maxHeartbeats 1600000 in
theorem Zta (w:World) (lb g cap:Nat) (l:List Nat) (k:Nat) (hk:k < l.length) (hkm:k < 100000000) (h:FrSt w lb g cap l) :
  Calls Tryz.prog 156 #[.int .i64 (k:Nat),.pointer (some ⟨lb,0,none⟩)] w fun e w'=>e = .returned (.int .u8 (l.getD k 0:Nat)) /\ FrSt w' lb g cap (toFront l k) /\ Only (fun b=>b = g) w w':=by
 have hcaps:=h.2.1.caps
 have hl:=cell_of_one h.1
 obtain ⟨g',hg',_,_,hc,hf⟩:=h.2.1.at hk
 simp only [Option.some.injEq,Addr.mk.injEq,and_true] at hg'
 subst hg'
 have hgd:l.getD k 0 = l[k]:=by rw [List.getD_eq_getElem?_getD,List.getElem?_eq_getElem hk];rfl
 rw [<- hgd] at hc
 have hk1:IntKind.i64.wrap ((k:Int) + 1) = (k:Int) + 1:=IntWalk.i64_in _ (by omega)
 have hki:(k:Int) < (l.length:Int):=by omega
 have h0i:(0:Int) < (l.length:Int):=by omega
 have hne:=h.2.2
 by_cases hk0:k = 0
 ·subst hk0
  obtain ⟨a,hs1⟩:=Zaap g l.length cap (by omega) hcaps.1
  have hs2:∀ w,(Instr.sliceAt 22 (.slice (some ⟨g,0,none⟩) l.length cap) none (some (.int .i64 0)) none).run Tryz.prog w = .ok (.slice (some ⟨g,0,none⟩) 0 cap) w:=Zvl g 0 l.length cap (by omega) (by omega)
  have hw1:IntKind.i64.wrap 1 = 1:=rfl
  have HRUN:=Zh (fun ty=>run_copy_none (P:=Tryz.prog) w.drew 22 22 ty 5 a (some ⟨g,0,none⟩) 0 (cap - 1) 0 cap Tryz.underlying22 (by kernel_rfl) rfl)
  have HSET:=Zh (h.drew.front0 (by omega))
  have hz:w.drew.cell? ⟨g,0,none⟩ = some (.int .u8 (l.getD 0 0:Nat)):=hc
  have hfr:w.drew.frozen? ⟨g,0,none⟩ = false:=hf
  have hl1:w.drew.cell? ⟨lb,0,none⟩ = some (.slice (some ⟨g,0,none⟩) l.length cap):=hl
  clear h hgd hk1
  generalize l.getD 0 0 = v at *
  go_enter Tryz.func156,Tryz.ntmps156
  go_wp2_with fail
  go_still_tail 7,(by kernel_rfl)
  go_wp2_with fail
  rw [HRUN.out]
  simp only [goInt]
  go_wp2
  go_ret
  exact ⟨rfl,HSET.out,((Only.refl (fun b=>b = g) w).drew).setCell (p:=⟨g,0,none⟩) (.inl rfl) _⟩
 ·have hs1:=Zaaq g k l.length cap (by omega) hk hcaps.1
  have hs2:=Zvl g k l.length cap (by omega) (by omega)
  obtain ⟨w1,hrun,ho1,⟨z,hz⟩,hfr,hset⟩:=h.drew.front k hk
  have HRUN:=Zh hrun
  have HO1:=Zh (Only.trans ((Only.refl (fun b=>b = g) w).drew) ho1)
  have hl1:w1.cell? ⟨lb,0,none⟩ = some (.slice (some ⟨g,0,none⟩) l.length cap):=Zbp hl HO1.out hne
  have HSET:=Zh hset
  clear h hgd hrun ho1 hset
  generalize l.getD k 0 = v at *
  go_enter Tryz.func156,Tryz.ntmps156
  go_wp2_with fail
  go_still_tail 7,(by kernel_rfl)
  go_wp2_with fail
  rw [HRUN.out]
  simp only [goInt]
  go_wp2
  go_ret
  exact ⟨rfl,HSET.out,HO1.out.setCell (p:=⟨g,0,none⟩) (.inl rfl) _⟩
theorem Zxf (w:World) (a:Option Addr) (cap:Nat) (l:List Nat) (hr:RowN .u8 w a cap l) (hl:l.length <= 100000000) (h0:l ≠ []):Calls Tryz.prog 107 #[.slice a l.length cap] w fun e w'=>∃ f0 lb g c',e = .returned (.tuple #[f0,.func (Fn.func 156) #[] #[.pointer (some ⟨lb,0,none⟩)]]) /\ FrSt w' lb g c' l /\ Below w.heap.size w w' /\ w.heap.size <= lb /\ w.heap.size <= g:=by
 go_enter Tryz.func107,Tryz.ntmps107
 go_wp2_with fail
 refine (Znh _ a cap l (hr.below (Zai w _)) hl h0).mono ?_
 rintro e w1 ⟨g,c1,rfl,ho,hb⟩
 have HO:=Zh ho
 have HB:=Zh ((Zai w (.cells #[.nilFunc] 162)).trans (hb.mono (by simp)))
 have hz:w.heap.size < w1.heap.size:=by have:=hb.size;simp at this;omega
 have hF:w1.heap[w.heap.size]? = some (.cells #[.nilFunc] 162 (0,0)):=(hb.block _ (by simp)).trans (World.alloc_heap_new _ _)
 have hgl:w.heap.size + 1 <= g /\ g < w1.heap.size:=by
  rcases ho.form with ⟨h,_⟩ | ⟨g',h,h1,h2⟩
  ·cases h
  ·simp only [Option.some.injEq,Addr.mk.injEq,and_true] at h
   subst h
   simp at h1
   exact ⟨h1,h2⟩
 have hF1:(w1.alloc (.cells #[.slice (some ⟨g,0,none⟩) l.length c1] 22)).heap[w.heap.size]? = some (.cells #[.nilFunc] 162 (0,0)):=by rw [Below.heap_alloc _ _ _ hz];exact hF
 have hF2:∀ v,(w1.setCell ⟨w.heap.size,0,none⟩ v).heap[w.heap.size]? = some (.cells #[v] 162 (0,0)):=fun v=>by rw [Zao hF];rfl
 have hF3:∀ v,((w1.setCell ⟨w.heap.size,0,none⟩ v).alloc (.cells #[.slice (some ⟨g,0,none⟩) l.length c1] 22)).heap[w.heap.size]? = some (.cells #[v] 162 (0,0)):=fun v=>by rw [Below.heap_alloc _ _ _ (by simpa [World.setCell] using hz)];exact hF2 v
 have hL1:∀ v,((w1.setCell ⟨w.heap.size,0,none⟩ v).alloc (.cells #[.slice (some ⟨g,0,none⟩) l.length c1] 22)).heap[w1.heap.size]? = some (.cells #[.slice (some ⟨g,0,none⟩) l.length c1] 22 (0,0)):=fun v=>by
  have:=World.alloc_heap_new (w1.setCell ⟨w.heap.size,0,none⟩ v) (.cells #[.slice (some ⟨g,0,none⟩) l.length c1] 22)
  simpa [World.setCell] using this
 have hO2:∀ v,Only (fun b=>b = w.heap.size) w1 ((w1.setCell ⟨w.heap.size,0,none⟩ v).alloc (.cells #[.slice (some ⟨g,0,none⟩) l.length c1] 22)):=fun v=>((Only.refl (fun b=>b = w.heap.size) w1).setCell (p:=⟨w.heap.size,0,none⟩) (.inl rfl) v).alloc _
 have hc1:=cell_of_one hF1
 have hf1:=Zan hF1
 have HL1:=Zh hL1
 have HF3:=Zh hF3
 have HO2:=Zh hO2
 clear hr hl ho hb h0 hF hF1 hF2 hF3 hL1 hO2
 go_wp2_with fail
 clear hc1 hf1
 obtain ⟨A2,hA2⟩:∃ A,A = (w1.setCell ⟨w.heap.size,0,none⟩ (.func (Fn.func 156) #[] #[.pointer (some ⟨w1.heap.size,0,none⟩)])).alloc (.cells #[.slice (some ⟨g,0,none⟩) l.length c1] 22):=⟨_,rfl⟩
 have hF4:=HF3.out (.func (Fn.func 156) #[] #[.pointer (some ⟨w1.heap.size,0,none⟩)])
 have HL2:=Zh (HL1.out (.func (Fn.func 156) #[] #[.pointer (some ⟨w1.heap.size,0,none⟩)]))
 have HO2':=Zh (HO2.out (.func (Fn.func 156) #[] #[.pointer (some ⟨w1.heap.size,0,none⟩)]))
 rw [<- hA2] at hF4 HL2 HO2'
 rw [<- hA2]
 have hc1:=cell_of_one hF4
 have hf1:=Zan hF4
 have HF4:=Zh hF4
 clear hA2 HF3 HL1 HO2 hF4
 go_region
 generalize hA3:(A2.setCell ⟨w.heap.size,0,none⟩ (.func (Fn.func 156) #[] #[.pointer (some ⟨w1.heap.size,0,none⟩)])).drew = A3
 have hc3:A3.cell? ⟨w.heap.size,0,none⟩ = some (.func (Fn.func 156) #[] #[.pointer (some ⟨w1.heap.size,0,none⟩)]):=by
  rw [<- hA3]
  exact cell_of_one (t:=162) (by show (A2.setCell _ _).heap[_]? = _;rw [Zao HF4.out];rfl)
 have hO3:Only (fun b=>b = w.heap.size) w1 A3:=by
  rw [<- hA3]
  exact (HO2'.out.setCell (p:=⟨w.heap.size,0,none⟩) (.inl rfl) _).drew
 have hL3:A3.heap[w1.heap.size]? = some (.cells #[.slice (some ⟨g,0,none⟩) l.length c1] 22 (0,0)):=by
  rw [<- hA3]
  show (A2.setCell _ _).heap[_]? = _
  rw [Below.heap_setCell _ _ _ _ (by show w1.heap.size ≠ w.heap.size;omega)]
  exact HL2.out
 clear hA3
 go_wp2_with fail
 refine bodyPost_ret (v:=.tuple #[.func (Fn.func 157) #[] #[.pointer (some ⟨w1.heap.size,0,none⟩),.pointer (some ⟨w.heap.size,0,none⟩)],.func (Fn.func 156) #[] #[.pointer (some ⟨w1.heap.size,0,none⟩)]]) (by simp [results,Tryz.results107,go_sem,hc3]) rfl ?_
 have hOW:=(HO.out.only hO3 (fun b hb=>by show b ≠ w.heap.size;simp at hb;omega)).form
 refine ⟨_,w1.heap.size,g,c1,rfl,⟨hL3,?_,by omega⟩,Below.only HB.out hO3 (Nat.le_refl _) (fun b hb=>by show w.heap.size <= b;omega),by omega,by omega⟩
 obtain ⟨h1,h2⟩:=HO.out.only hO3 (fun b hb=>by show b ≠ w.heap.size;simp at hb;omega)
 refine ⟨h1,?_⟩
 rcases h2 with h2 | ⟨g',c,cur,e1,e2,e3⟩
 ·exact .inl h2
 ·refine .inr ⟨g',c,cur,e1,?_,e3⟩
  simp only [Value.slice.injEq,Option.some.injEq,Addr.mk.injEq,and_true] at e1
  omega
end Go.Proofs.YtnkpnjnfddjfpaaGreat

namespace Go.Proofs.YtnkpnjnfddjfpaaGreat
open Go.RowKit Go.Shelf M01 M02 M27
def FnC (A:World) (b n:Nat) (t:TypeId) (F:Nat -> Nat):Prop:=A.heap[b]? = some (.cells ((List.range n).map fun k=>Value.int .i64 (F k:Nat)).toArray t (0,0))
theorem FnC.cell {A:World} {b n:Nat} {t:TypeId} {F:Nat -> Nat} (h:FnC A b n t F) {k:Nat} (hk:k < n):A.cell? ⟨b,k,none⟩ = some (.int .i64 (F k:Nat)) /\ A.frozen? ⟨b,k,none⟩ = false:=by
 unfold FnC at h
 exact ⟨by simp [World.cell?,h,hk],by simp [World.frozen?,h]⟩
theorem FnC.set {A:World} {b n:Nat} {t:TypeId} {F G:Nat -> Nat} (h:FnC A b n t F) {k v:Nat} (hk:k < n) (hG:∀ j,j < n -> G j = if j = k then v else F j):FnC (A.setCell ⟨b,k,none⟩ (.int .i64 (v:Nat))) b n t G:=by
 unfold FnC at h ⊢
 rw [Zao h]
 congr 2
 apply Array.ext'
 simp only [List.setIfInBounds_toArray]
 apply List.ext_getElem?
 intro j
 rcases Nat.lt_or_ge j n with hj | hj
 ·have hg:=hG j hj
  by_cases hjk:j = k
  ·subst hjk
   rw [if_pos rfl] at hg
   simp [hj,hg]
  ·rw [if_neg hjk] at hg
   rw [List.getElem?_set_ne (by omega)]
   simp [hj,hg]
 ·rw [List.getElem?_eq_none (by simpa using hj),List.getElem?_eq_none (by simpa using hj)]
theorem FnC.only {A B:World} {b n:Nat} {t:TypeId} {F:Nat -> Nat} {T:Nat -> Prop} (h:FnC A b n t F) (ho:Only T A B) (hT:¬ T b):FnC B b n t F:=Zad h ho hT
theorem FnC.belowAt {A B:World} {b n m:Nat} {t:TypeId} {F:Nat -> Nat} (h:FnC A b n t F) (ho:Below m A B) (hb:b < m):FnC B b n t F:=(ho.block b hb).trans h
theorem zeros257:Tryz.zeroCells238 = ((List.range 257).map fun k=>Value.int .i64 ((fun _=>0:Nat -> Nat) k:Nat)).toArray:=by kernel_rfl
theorem Zrx (last:List Nat) (n K:Nat):below last n K <= n:=by
 induction n with
 | zero =>
  induction K with
  | zero=>simp [below]
  | succ K ih=>simp only [below,cnt];omega
 | succ n ih=>rw [Zgm];split <;> omega
theorem Zbf {l:List Nat} {i:Nat} (hi:i < l.length):l.getD i 0 = l[i]:=by rw [List.getD_eq_getElem?_getD,List.getElem?_eq_getElem hi];rfl
set_option maxRecDepth 100000 in
set_option maxHeartbeats 12800000 in
theorem Zaak (w:World) (a:Option Addr) (cap:Nat) (l:List Nat) (hr:RowN .u8 w a cap l) (hl:l.length <= 1000000) (h256:∀ x ∈ l,x < 256) :
  Calls Tryz.prog 130 #[.slice a l.length cap] w fun e w'=>∃ a' c',e = .returned (.slice a' l.length c') /\ OwnN 3 .i64 w' w.heap.size a' c' (wayL l) /\ Below w.heap.size w w':=by
 have HR:=Zh hr
 have H256:=Zh h256
 obtain ⟨fb,hfb⟩:∃ fb,w.heap.size = fb:=⟨_,rfl⟩
 have HFB:=Zh hfb
 clear hr h256
 go_enter Tryz.func130,Tryz.ntmps130
 go_wp2_with fail
 have hz:FnC (w.alloc (.cells Tryz.zeroCells238 238)) fb 257 238 (fun _=>0):=by
  unfold FnC
  rw [<- zeros257,<- hfb]
  exact World.alloc_heap_new _ _
 have hb0:Below fb w (w.alloc (.cells Tryz.zeroCells238 238)):=by rw [<- hfb];exact Zai w _
 have hs0:(w.alloc (.cells Tryz.zeroCells238 238)).heap.size = fb + 1:=by simp [hfb]
 generalize w.alloc (.cells Tryz.zeroCells238 238) = w1 at *
 have HZ:=Zh hz
 have HB0:=Zh hb0
 clear hz hb0 hfb
 go_loopw [12] (fun iv A=>∃ i:Nat,iv = .int .i64 (i:Nat) /\ i <= l.length /\ FnC A fb 257 238 (fun k=>if k = 0 then 0 else cnt l (k - 1) i) /\ Below fb w A /\ A.heap.size = fb + 1) (fun iv _=>l.length - (intOf iv).toNat)
 case atStart =>
  have e:(fun k=>if k = 0 then 0 else cnt l (k - 1) 0) = fun _=>0:=by
   funext k
   simp [cnt]
  refine ⟨0,rfl,by omega,?_,HB0.out,hs0⟩
  rw [e]
  exact HZ.out
 case round =>
  clear HZ HB0
  obtain ⟨i,rfl,hi,hF,hbw,hsz⟩:=hrel
  have HF:=Zh hF
  have HBW:=Zh hbw
  clear hF hbw
  by_cases hlt:i < l.length
  ·have t0:decide (i < l.length) = true:=decide_eq_true hlt
   obtain ⟨sb,soff,rfl,hsb,hsc⟩:=(HR.out.below (by rw [HFB.out];exact HBW.out)).at hlt
   have hc256:=H256.out _ (List.getElem_mem hlt)
   have hgd:=Zbf hlt
   have hcnt:cnt l l[i] (i + 1) = cnt l l[i] i + 1:=by show cnt l l[i] i + (if l.getD i 0 = l[i] then 1 else 0) = _;rw [if_pos hgd]
   have hcle:=Zsm l l[i] i
   obtain ⟨c1,d1⟩:=HF.out.cell (k:=l[i] + 1) (by omega)
   simp only [Nat.add_sub_cancel,if_neg (Nat.succ_ne_zero _)] at c1
   have HS:=Zh (HF.out.set (G:=fun k=>if k = 0 then 0 else cnt l (k - 1) (i + 1)) (k:=l[i] + 1) (v:=cnt l l[i] i + 1) (by omega) (by
    intro j hj
    by_cases h0:j = 0
    ·simp [h0]
    ·rw [if_neg h0,if_neg h0]
     by_cases h1:j = l[i] + 1
     ·rw [if_pos h1,h1,Nat.add_sub_cancel,hcnt]
     ·rw [if_neg h1]
      show cnt l (j - 1) i + (if l.getD i 0 = j - 1 then 1 else 0) = _
      rw [if_neg (by rw [hgd];omega)]
      rfl))
   generalize cnt l l[i] i = m at *
   generalize l[i] = c at *
   have t1:IntKind.i64.wrap ((c:Int) + 1) = ((c + 1:Nat):Int):=by rw [IntWalk.i64_in _ (by omega)];omega
   have t2:IntKind.i64.wrap ((m:Int) + 1) = ((m + 1:Nat):Int):=by rw [IntWalk.i64_in _ (by omega)];omega
   have t3:((c:Int) + 1) = ((c + 1:Nat):Int):=by omega
   have t4:((m:Int) + 1) = ((m + 1:Nat):Int):=by omega
   have t5:IntKind.i64.wrap (c:Int) = (c:Int):=IntWalk.i64_in _ (by omega)
   have t6:((c + 1:Nat):Int) < 257:=by omega
   clear hcnt hgd
   obtain ⟨c1',hc1'⟩:∃ c1',c + 1 = c1':=⟨_,rfl⟩
   obtain ⟨m1,hm1⟩:∃ m1,m + 1 = m1:=⟨_,rfl⟩
   simp only [hc1',hm1] at *
   clear hc1' hm1
   go_wp2_with fail
   go_roundw
   case rel=>exact ⟨i + 1,by go_num,by omega,HS.out,HBW.out.setCell (Nat.le_refl _) _,by simpa [World.setCell] using hsz⟩
   case measure=>simp [intOf];omega
  ·obtain rfl:i = l.length:=by omega
   clear hlt hi
   have h1:=HF.out
   go_wp2_with fail
   go_loopw [24] (fun iv A=>∃ i:Nat,iv = .int .i64 (i:Nat) /\ i <= 256 /\ FnC A fb 257 238 (fun k=>if k <= i then below l l.length k else cnt l (k - 1) l.length) /\ Below fb w A /\ A.heap.size = fb + 1) (fun iv _=>256 - (intOf iv).toNat)
   case atStart =>
    refine ⟨0,rfl,by omega,?_,HBW.out,hsz⟩
    have e:(fun k=>if k <= 0 then below l l.length k else cnt l (k - 1) l.length) = fun k=>if k = 0 then 0 else cnt l (k - 1) l.length:=by
     funext k
     by_cases h:k = 0
     ·subst h;rfl
     ·rw [if_neg (by omega),if_neg h]
    rw [e]
    exact HF.out
   case round =>
    clear HF HBW h1 hsz
    obtain ⟨i,rfl,hi,hF,hbw,hsz⟩:=hrel
    have HF:=Zh hF
    have HBW:=Zh hbw
    clear hF hbw
    by_cases hlt:i < 256
    ·have t0:decide ((i:Int) < 256) = true:=by simp;omega
     obtain ⟨c1,d1⟩:=HF.out.cell (k:=i + 1) (by omega)
     obtain ⟨c2,d2⟩:=HF.out.cell (k:=i) (by omega)
     simp only [Nat.add_sub_cancel,if_pos (Nat.le_refl i),if_neg (show ¬ (i + 1 <= i) by omega)] at c1 c2
     have HS:=Zh (HF.out.set (G:=fun k=>if k <= i + 1 then below l l.length k else cnt l (k - 1) l.length) (k:=i + 1) (v:=cnt l i l.length + below l l.length i) (by omega) (by
      intro j hj
      by_cases h1:j = i + 1
      ·rw [if_pos h1,if_pos (by omega),h1];exact Nat.add_comm _ _
      ·rw [if_neg h1]
       by_cases h2:j <= i
       ·rw [if_pos h2,if_pos (by omega)]
       ·rw [if_neg h2,if_neg (by omega)]))
     have hcl:=Zsm l i l.length
     have hbl:below l l.length i <= l.length:=by
      exact Zrx l l.length i
     generalize cnt l i l.length = m at *
     generalize below l l.length i = b at *
     have t1:IntKind.i64.wrap ((i:Int) + 1) = ((i + 1:Nat):Int):=by rw [IntWalk.i64_in _ (by omega)];omega
     have t2:IntKind.i64.wrap ((m:Int) + (b:Int)) = ((m + b:Nat):Int):=by rw [IntWalk.i64_in _ (by omega)];omega
     have t3:((i:Int) + 1) = ((i + 1:Nat):Int):=by omega
     have t4:((m:Int) + (b:Int)) = ((m + b:Nat):Int):=by omega
     have t6:((i + 1:Nat):Int) < 257:=by omega
     have t7:(i:Int) < 257:=by omega
     obtain ⟨i1,hi1⟩:∃ i1,i + 1 = i1:=⟨_,rfl⟩
     obtain ⟨s1,hs1⟩:∃ s1,m + b = s1:=⟨_,rfl⟩
     simp only [hi1,hs1] at *
     have HI1:=Zh hi1
     have t8:IntKind.i64.wrap (i1:Int) = (i1:Int):=IntWalk.i64_in _ (by omega)
     have t9:IntKind.i64.wrap (s1:Int) = (s1:Int):=IntWalk.i64_in _ (by omega)
     clear hi1 hs1
     go_wp2_with fail
     go_still_tail 9,(by kernel_rfl)
     go_wp2_with fail
     go_roundw
     case rel=>exact ⟨i1,by go_num,by omega,HS.out,HBW.out.drew.setCell (Nat.le_refl _) _,by simpa [World.setCell] using hsz⟩
     case measure=>simp [intOf];omega
    ·obtain rfl:i = 256:=by omega
     clear hlt hi
     obtain ⟨n,hn⟩:∃ n,l.length = n:=⟨_,rfl⟩
     have HN:=Zh hn
     rw [hn] at hl
     simp only [hn]
     have hwz:w.heap.size <= wr.heap.size:=HBW.out.size
     go_wp2_with (at_make;refine makeN Zax rfl _ _ rfl fb rfl rfl (by omega) (by omega) (by omega) ?_;intro w3 hown hg)
     have HB3:=Zh (HBW.out.trans (Below.of_grown (B:=fb) hg (by omega) (fun k e=>by cases e)))
     have HF3:=Zh (show FnC w3 fb 257 238 _ from (hg.block fb (by omega) (by simp)).trans HF.out)
     have HO3:=Zh hown
     clear hown hg HF HBW
     simp only [hsz] at *
     clear hsz hwz
     go_loopw [42] (fun iv A=>∃ (i:Nat) (o:List Nat),iv = .int .i64 (i:Nat) /\ i <= n /\ FnC A fb 257 238 (fun k=>below l n k + if k < 256 then cnt l k i else 0) /\ OwnN 3 .i64 A fb (some ⟨fb + 1,0,none⟩) n o /\ o.length = n /\ Hid (∀ j,j < i -> o[posW l j]? = some j) /\ Below fb w A) (fun iv _=>n - (intOf iv).toNat)
     case atStart =>
      refine ⟨0,List.replicate n 0,rfl,by omega,?_,HO3.out,List.length_replicate ..,fun j hj=>by omega,HB3.out⟩
      have e:(fun k=>below l n k + if k < 256 then cnt l k 0 else 0) = fun k=>below l n k:=by
       funext k
       simp [cnt]
      rw [e]
      unfold FnC
      rw [HF3.out]
      congr 3
      apply List.map_congr_left
      intro k hk
      rw [List.mem_range] at hk
      show Value.int .i64 ((if k <= 256 then below l l.length k else cnt l (k - 1) l.length:Nat):Int) = Value.int .i64 ((below l n k:Nat):Int)
      rw [if_pos (by omega),HN.out]
     case round =>
      clear HF3 HO3 HB3
      obtain ⟨i,o,rfl,hi,hF,how,hol,HP,hbw⟩:=hrel
      have HF:=Zh hF
      have HBW:=Zh hbw
      have HOW:=Zh how
      have HOL:=Zh hol
      clear hF hbw how hol
      by_cases hlt:i < n
      ·have t0:decide (i < n) = true:=decide_eq_true hlt
       have hlt':i < l.length:=by rw [HN.out];exact hlt
       obtain ⟨sb,soff,rfl,hsb,hsc⟩:=(HR.out.below (by rw [HFB.out];exact HBW.out)).at hlt'
       have hc256:=H256.out _ (List.getElem_mem hlt')
       have hgd:=Zbf hlt'
       have hpos:posW l i = below l n l[i] + cnt l l[i] i:=by unfold posW;rw [hgd,HN.out]
       have hpl:=Zaai l H256.out hlt'
       rw [HN.out] at hpl
       obtain ⟨c1,d1⟩:=HF.out.cell (k:=l[i]) (by omega)
       simp only [if_pos hc256,<- hpos] at c1
       have HS:=Zh (fun A (h:FnC A fb 257 238 (fun k=>below l n k + if k < 256 then cnt l k i else 0))=>h.set (G:=fun k=>below l n k + if k < 256 then cnt l k (i + 1) else 0) (k:=l[i]) (v:=posW l i + 1) (by omega) (by
        intro j hj
        by_cases h1:j = l[i]
        ·rw [if_pos h1,h1,if_pos hc256]
         show below l n l[i] + (cnt l l[i] i + if l.getD i 0 = l[i] then 1 else 0) = _
         rw [if_pos hgd,hpos]
         omega
        ·rw [if_neg h1]
         by_cases h2:j < 256
         ·rw [if_pos h2,if_pos h2]
          show below l n j + (cnt l j i + if l.getD i 0 = j then 1 else 0) = _
          rw [if_neg (by rw [hgd];omega)]
          rfl
         ·rw [if_neg h2,if_neg h2]))
       have HNE:=Zh (fun j (hj:j < i)=>Zaaj l H256.out (i:=j) (j:=i) (by omega) hlt' (by omega))
       have hop:posW l i < o.length:=by rw [HOL.out];exact hpl
       obtain ⟨g',hg',_,_,oc,od⟩:=HOW.out.at hop
       simp only [Option.some.injEq,Addr.mk.injEq,and_true] at hg'
       subst hg'
       clear hpos
       generalize hm:posW l i = m at *
       have HPE:=Zh hm
       clear hm
       generalize l[i] = c at *
       have t1:(m:Int) < (n:Int):=by omega
       have t2:IntKind.i64.wrap ((m:Int) + 1) = ((m + 1:Nat):Int):=by rw [IntWalk.i64_in _ (by omega)];omega
       have t4:((m:Int) + 1) = ((m + 1:Nat):Int):=by omega
       have t6:(c:Int) < 257:=by omega
       obtain ⟨m1,hm1⟩:∃ m1,m + 1 = m1:=⟨_,rfl⟩
       simp only [hm1] at *
       have t9:IntKind.i64.wrap (m1:Int) = (m1:Int):=IntWalk.i64_in _ (by omega)
       have c2:(wr.setCell ⟨fb + 1,m,none⟩ (.int .i64 (i:Nat))).cell? ⟨fb,c,none⟩ = some (.int .i64 (m:Nat)):=by
        unfold World.cell? at c1 ⊢
        rw [Below.heap_setCell _ _ _ _ (by show fb ≠ fb + 1;omega)]
        exact c1
       have d2:(wr.setCell ⟨fb + 1,m,none⟩ (.int .i64 (i:Nat))).frozen? ⟨fb,c,none⟩ = false:=by
        unfold World.frozen? at d1 ⊢
        rw [Below.heap_setCell _ _ _ _ (by show fb ≠ fb + 1;omega)]
        exact d1
       clear hm1
       go_wp2_with fail
       go_roundw
       case rel =>
        refine ⟨i + 1,o.set m i,by go_num,by omega,HS.out _ (HF.out.only ((Only.refl (fun b=>b = fb + 1) wr).setCell (p:=⟨fb + 1,m,none⟩) (.inl rfl) _) (by show fb ≠ fb + 1;omega)),((HOW.out.stored m i).1).other (fun g hg=>by cases hg;show fb ≠ fb + 1;omega) _,by rw [List.length_set];exact HOL.out,?_,(HBW.out.setCell (by show fb <= fb + 1;omega) _).setCell (Nat.le_refl _) _⟩
        intro j hj
        by_cases h1:j = i
        ·subst h1
         rw [HPE.out,List.getElem?_set_self hop]
        ·rw [List.getElem?_set_ne (fun e=>HNE.out j (by omega) e.symm)]
         exact HP.out j (by omega)
       case measure=>simp [intOf];omega
      ·obtain rfl:i = n:=by omega
       have HW2:=Zh (show o = wayL l from Zaba l o H256.out (by rw [HN.out];exact HOL.out) (by rw [HN.out];exact HP.out))
       clear hlt hi HP
       go_wp2_with fail
       go_ret
       refine ⟨some ⟨fb + 1,0,none⟩,i,by rw [HN.out];rfl,?_,?_⟩
       ·rw [<- HW2.out,HFB.out];exact HOW.out
       ·rw [HFB.out];exact HBW.out
end Go.Proofs.YtnkpnjnfddjfpaaGreat
