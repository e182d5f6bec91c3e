/- Contracts of package kraft and of its reference: may, weight, Classify, Single. kraft.order hands out the symbols in order; kraft.Words answers the words. Plain mathematics of layer 1: bits of bytes, the least first. Contracts of package lsb: a reader. Plain mathematics of layer 6: what a table of words holds, symbol by symbol. A map from words (bits, how many) to numbers, as a function. Plain mathematics of layer 4: words of a code do not begin with one another; a row of 20 bits begins with one word, where the code is full. prefix.New: contract. Words that all seats use: of the model's parts, and of the layers. Layer 1: laying bits: plain mathematics, and the contracts of lsb.Writer (bit, Put, Bytes). -/
import Derived.Test.YtendielanacflaaGreatB01
import Derived.Test.YtendielanacflaaGreatB02
import Derived.Test.YtendielanacflaaGreatChecked
import Derived.BigQuiet
import Derived.Deep.QuietTactic
import Derived.Lib.Hide
import Derived.Laws.Bits64b
import Derived.Maps.Own
import Derived.Maps.OwnOps
import Derived.Maps.OwnSet
import Derived.Maps.Views
import Derived.DeepKeys4
import Derived.WalkArith
import Derived.StillTailTactics
import Derived.Maps.AppendAt
import Derived.WalkLawsBesides
import Derived.Lib.SlicesS
set_option linter.unusedVariables false
set_option linter.unusedSimpArgs false
namespace Go.Proofs.YtendielanacflaaGreat
open Go.RowKit M04
set_option maxHeartbeats 400000 in
theorem Zdh (a:Option Addr) (cap:Nat) (l:List Nat) (w:World) (hr:RowN .u8 w a cap l) (hm:May l) :
  Calls Tryz.prog 124 #[.slice a l.length cap] w fun e w'=>e = .returned (.int .i64 (weight l)) /\ w = w':=by
 have hlen:=hr.len
 obtain ⟨hl,hn⟩:=hm
 go_enter Tryz.func124,Tryz.ntmps124
 go_wp2
 go_loop [3,8] (fun t i=>∃ k:Nat,k <= l.length /\ i = .int .i64 k /\ t = .int .i64 (weight (l.take k))) (fun _ i=>l.length - (intOf i).toNat)
 case atStart=>exact ⟨0,Nat.zero_le _,rfl,rfl⟩
 case round =>
  obtain ⟨k,hk,rfl,rfl⟩:=hrel
  by_cases hlt:k < l.length
  ·obtain ⟨b,off,rfl,hb,hck⟩:=hr.at hlt
   clear hr
   have hx:=hl _ (List.getElem_mem hlt)
   have H:=Zh (Zsd l k hlt)
   have hw:weight (l.take k) <= 512 * 2 ^ 20:=Zff l k hn
   clear hl
   generalize l[k] = x at *
   generalize weight (l.take k) = s at *
   go_wp2
   ·go_round
    case rel =>
     refine ⟨k + 1,by omega,by go_num,Zix ?_⟩
     have h0:x ≠ 0:=by omega
     have h2:(2:Int) ^ (20 - x) = ((2 ^ (20 - x):Nat):Int):=by simp
     have h3:2 ^ (20 - x) <= 2 ^ 20:=Nat.pow_le_pow_right (by simp) (by omega)
     rw [H.out,h2,wt,if_neg h0]
     generalize 2 ^ (20 - x) = p at *
     rw [IntWalk.wrap64_in p (by omega),IntWalk.wrap64_in _ (by omega)];simp
    case measure=>simp [intOf];omega
   ·go_round
    case rel =>
     refine ⟨k + 1,by omega,by go_num,Zix ?_⟩
     have h0:x = 0:=by omega
     rw [H.out,wt,if_pos h0];simp
    case measure=>simp [intOf];omega
  ·go_wp2
   go_ret
   exact ⟨Zdm (by rw [List.take_of_length_le (by omega)]),rfl⟩
set_option maxHeartbeats 400000 in
theorem Zvo (a:Option Addr) (cap:Nat) (l:List Nat) (w:World) (hr:RowN .u8 w a cap l) (h0:0 < l.length) :
  Calls Tryz.prog 148 #[.slice a l.length cap] w fun e w'=>e = .returned (.int .u8 (top l)) /\ w = w':=by
 have hlen:=hr.len
 obtain ⟨b,off,rfl,hb,hc0⟩:=hr.at h0
 simp only [Nat.add_zero] at hc0
 have H0:Hid (top (l.take 1) = l[0]):=by have:=Ztt l 0 h0;simpa [Hid,top] using this
 go_enter Tryz.func148,Tryz.ntmps148
 go_wp2
 go_loop [3,4] (fun t i=>∃ k:Nat,1 <= k /\ k <= l.length /\ i = .int .i64 k /\ t = .int .u8 (top (l.take k))) (fun _ i=>l.length - (intOf i).toNat)
 case atStart=>exact ⟨1,by omega,by omega,rfl,by rw [H0.out]⟩
 case round =>
  obtain ⟨k,hk1,hk,rfl,rfl⟩:=hrel
  by_cases hlt:k < l.length
  ·obtain ⟨b',off',he,hb',hck⟩:=hr.at hlt
   simp only [Option.some.injEq,Addr.mk.injEq,and_true] at he
   obtain ⟨rfl,rfl⟩:=he
   clear hr hc0 H0
   have H:=Zh (Ztt l k hlt)
   generalize l[k] = x at *
   generalize top (l.take k) = s at *
   go_wp2
   go_round
   case rel=>exact ⟨k + 1,by omega,by omega,by go_num,Zix (by rw [H.out];split <;> omega)⟩
   case measure=>simp [intOf];omega
  ·go_wp2
   go_ret
   exact ⟨Zdm (by rw [List.take_of_length_le (by omega)]),rfl⟩
set_option maxHeartbeats 400000 in
theorem Zen (a:Option Addr) (cap:Nat) (l:List Nat) (w:World) (hr:RowN .u8 w a cap l) :
  Calls Tryz.prog 123 #[.slice a l.length cap] w fun e w'=>e = .returned (.bool (mayB l)) /\ w = w':=by
 have hlen:=hr.len
 by_cases h5:l.length <= 512
 ·by_cases h0:l = []
  ·subst h0
   go_enter Tryz.func123,Tryz.ntmps123
   go_wp2
   go_ret
   exact ⟨rfl,rfl⟩
  ·have hp:0 < l.length:=List.length_pos_iff.2 h0
   have hb:((l.length:Int) == 0) = false:=by simp;omega
   have H:Hid (mayB l = decide ((top l:Int) <= 20)):=by
    have:=Zaiq l 20
    show decide (May l) = _
    rw [decide_eq_decide,May]
    constructor
    ·intro h;have:=this.2 h.1;omega
    ·intro h;exact ⟨this.1 (by omega),h5⟩
   clear h0
   go_enter Tryz.func123,Tryz.ntmps123
   go_wp2_with (go_at_call 148;refine (Zvo _ _ _ _ hr hp).mono ?_;rintro e w' ⟨rfl,rfl⟩)
   go_ret
   exact ⟨Zbs H.out.symm,rfl⟩
 ·have H:Hid (mayB l = false):=by unfold Hid mayB May;simp [h5]
  go_enter Tryz.func123,Tryz.ntmps123
  go_wp2
  go_ret
  exact ⟨Zbs H.out.symm,rfl⟩
set_option maxHeartbeats 400000 in
theorem Zbf (a:Option Addr) (cap:Nat) (l:List Nat) (w:World) (hr:RowN .u8 w a cap l) :
  Calls Tryz.prog 89 #[.slice a l.length cap] w fun e w'=>e = .returned (.tuple #[.int .u8 (clsE l).1,.int .i64 (clsE l).2]) /\ w = w':=by
 have hlen:=hr.len
 by_cases hm:May l
 ·have hB:mayB l = true:=by simp [mayB,hm]
  have H:Hid (clsE l = (cls l,0)):=by simp [Hid,clsE,hm]
  have H2:Hid (cls l = if weight l = 0 then 0 else if weight l < 2 ^ 20 then 1 else if weight l = 2 ^ 20 then 2 else 3):=rfl
  have hw:weight l <= 512 * 2 ^ 20:=by have:=Zff l l.length hm.2;simpa using this
  have HM:=Zh hm
  clear hm
  rcases (by omega:weight l = 0 \/ (weight l ≠ 0 /\ weight l < 2 ^ 20) \/ weight l = 2 ^ 20 \/ 2 ^ 20 < weight l) with c | ⟨c,d⟩ | c | c
  ·have b0:((weight l:Int) == 0) = true:=by simp [c]
   have H3:Hid (cls l = 0):=by rw [Hid,H2.out,if_pos c]
   clear c
   go_enter Tryz.func89,Tryz.ntmps89
   go_wp2_with (first | (go_at_call 123;refine (Zen _ _ _ _ hr).mono ?_;rintro e w' ⟨rfl,rfl⟩) | (go_at_call 124;refine (Zdh _ _ _ _ hr HM.out).mono ?_;rintro e w' ⟨rfl,rfl⟩))
   go_ret2
   exact ⟨by rw [H.out,H3.out];rfl,rfl⟩
  ·have b0:((weight l:Int) == 0) = false:=by simp [c]
   have b1:decide ((weight l:Int) < 1048576) = true:=by simp;omega
   have H3:Hid (cls l = 1):=by rw [Hid,H2.out,if_neg c,if_pos d]
   clear c
   go_enter Tryz.func89,Tryz.ntmps89
   go_wp2_with (first | (go_at_call 123;refine (Zen _ _ _ _ hr).mono ?_;rintro e w' ⟨rfl,rfl⟩) | (go_at_call 124;refine (Zdh _ _ _ _ hr HM.out).mono ?_;rintro e w' ⟨rfl,rfl⟩))
   go_ret2
   exact ⟨by rw [H.out,H3.out];rfl,rfl⟩
  ·have b0:((weight l:Int) == 0) = false:=by simp [c]
   have H3:Hid (cls l = 2):=by rw [Hid,H2.out,if_neg (by omega),if_neg (by omega),if_pos c]
   have b1:decide ((weight l:Int) < 1048576) = false:=by simp;omega
   have b2:((weight l:Int) == 1048576) = true:=by simp [c]
   clear c
   go_enter Tryz.func89,Tryz.ntmps89
   go_wp2_with (first | (go_at_call 123;refine (Zen _ _ _ _ hr).mono ?_;rintro e w' ⟨rfl,rfl⟩) | (go_at_call 124;refine (Zdh _ _ _ _ hr HM.out).mono ?_;rintro e w' ⟨rfl,rfl⟩))
   go_ret2
   exact ⟨by rw [H.out,H3.out];rfl,rfl⟩
  ·have b0:((weight l:Int) == 0) = false:=by simp;omega
   have H3:Hid (cls l = 3):=by rw [Hid,H2.out,if_neg (by omega),if_neg (by omega),if_neg (by omega)]
   have b1:decide ((weight l:Int) < 1048576) = false:=by simp;omega
   have b2:((weight l:Int) == 1048576) = false:=by simp;omega
   clear c
   go_enter Tryz.func89,Tryz.ntmps89
   go_wp2_with (first | (go_at_call 123;refine (Zen _ _ _ _ hr).mono ?_;rintro e w' ⟨rfl,rfl⟩) | (go_at_call 124;refine (Zdh _ _ _ _ hr HM.out).mono ?_;rintro e w' ⟨rfl,rfl⟩))
   go_ret2
   exact ⟨by rw [H.out,H3.out];rfl,rfl⟩
 ·have hB:mayB l = false:=by simp [mayB,hm]
  have H:Hid (clsE l = (0,5)):=by simp [Hid,clsE,hm]
  clear hm
  go_enter Tryz.func89,Tryz.ntmps89
  go_wp2_with (go_at_call 123;refine (Zen _ _ _ _ hr).mono ?_;rintro e w' ⟨rfl,rfl⟩)
  go_ret2
  exact ⟨by rw [H.out];rfl,rfl⟩
end Go.Proofs.YtendielanacflaaGreat

namespace Go.Proofs.YtendielanacflaaGreat
open Go.RowKit Go.Shelf M04
attribute [local go_sem] Oper.semAt_some
theorem RowN.same {k:IntKind} {w W:World} {a:Option Addr} {cap:Nat} {l:List Nat} (h:RowN k w a cap l) (hs:w.heap.size <= W.heap.size) (hb:∀ x,0 < l.length -> a = some x -> W.heap[x.block]? = w.heap[x.block]?):RowN k W a cap l:=by
 obtain ⟨h1,h2,h3⟩:=h
 refine ⟨h1,h2,?_⟩
 rcases h3 with h3 | ⟨b,off,rfl,hb',hc⟩
 ·exact .inl h3
 ·exact .inr ⟨b,off,rfl,by omega,fun i hi=>(World.cell?_of_block (a:=⟨b,off + i,none⟩) (hb ⟨b,off,none⟩ (by omega) rfl)).trans (hc i hi)⟩
def orderS (a:Option Addr) (B:Nat) (l:List Nat) (b:Nat):Prop:=b = B \/ (0 < l.length /\ ∃ x,a = some x /\ b = x.block)
def orderRow (l:List Nat) (i:Nat):Array Value:=#[.int .i64 (((ord l).getD i (0,0)).1:Nat),.int .u8 (((ord l).getD i (0,0)).2:Nat)]
theorem Zqt (a:Option Addr) (cap:Nat) (l:List Nat) (w:World) :
  Calls Tryz.prog 113 #[.slice a l.length cap] w fun e w'=>e = .returned (.func (.func 145) #[] #[.pointer (some ⟨w.heap.size,0,none⟩)]) /\ w' = w.alloc (.cells #[.slice a l.length cap] 24):=by
 have hmf:∀ (fn:Fn) (first cap:Array Value) (w:World),(Instr.makeFunc fn first cap).run Tryz.prog w = .ok (.func fn first cap) w:=fun _ _ _ _=>rfl
 go_enter Tryz.func113,Tryz.ntmps113
 go_wp2
 go_ret
 exact ⟨rfl,rfl⟩
theorem Zbb {n m:Nat} {P:Program} {l:Nat} {f:FuncId} {tmps:Array Value} {assign body:Code} {w:World} {R:Ending -> World -> Prop} (h:RoundIn Fence.wide n P l f tmps assign body w R):RoundIn Fence.wide m P l f tmps assign body w R:=⟨h.1,fun c cs _=>h.2 c cs (room_wide _)⟩
theorem Zre (l:List Nat) (i k n:Nat) (h:(ord l)[i]? = some (k,n)):i < (ord l).length /\ orderRow l i = #[.int .i64 (k:Nat),.int .u8 (n:Nat)]:=by
 refine ⟨(List.getElem?_eq_some_iff.1 h).1,?_⟩
 simp [orderRow,List.getD,h]
set_option maxHeartbeats 800000 in
theorem Zor (a:Option Addr) (cap:Nat) (l:List Nat) (w:World) (B:Nat) (hr:RowN .u8 w a cap l) (hB:w.heap[B]? = some (.cells #[.slice a l.length cap] 24 (0,0))) :
  Yields Tryz.prog 145 #[.pointer (some ⟨B,0,none⟩)] (ord l).length (orderRow l) (orderS a B l) (fun _=>False) w:=by
 intro y J Jx W hsame hJ hJx hY h0
 have hlen:=hr.len
 have HY:=Zh hY
 clear hJ hJx hY
 refine callsIn_of_wp Tryz.func145 rfl trivial ?_ rfl
 simp only [Tryz.ntmps145,List.size_toArray,List.length_cons,List.length_nil,Nat.reduceAdd,Nat.reduceSub,Array.replicate_succ,Array.replicate_zero,List.push_toArray,List.append_toArray,List.nil_append,List.cons_append]
 gi_wp2
 gi_loopw [3] (fun n A=>∃ k:Nat,1 <= k /\ k <= 21 /\ n = .int .u8 k /\ SameOn (orderS a B l) w A /\ J (if k = 21 then (ord l).length else (ordB l k 0).length) A) (fun n _=>21 - (intOf n).toNat)
 case atStart=>exact ⟨1,by omega,by omega,rfl,hsame,by simpa [Zmg] using h0⟩
 case round =>
  obtain ⟨n,h1,h21,rfl,hsameA,hJA⟩:=hrel
  by_cases hn:n <= 20
  ·rw [if_neg (by omega)] at hJA
   have hbn:decide ((n:Int) <= 20) = true:=by simp;omega
   have hbox:wr.cell? ⟨B,0,none⟩ = some (.slice a l.length cap):=cell_of_one ((hsameA.same B (.inl rfl)).trans hB)
   gi_wp2
   gi_loopw [12] (fun i A=>∃ k:Nat,k <= l.length /\ i = .int .i64 k /\ SameOn (orderS a B l) w A /\ J (ordB l n k).length A) (fun i _=>l.length - (intOf i).toNat)
   case atStart=>exact ⟨0,by omega,rfl,hsameA,hJA⟩
   case round =>
    clear hJA hsameA hbox
    obtain ⟨k,hk,rfl,hsameA,hJA⟩:=hrel
    by_cases hlt:k < l.length
    ·have hrA:=hr.same hsameA.size (fun x h0 hx=>hsameA.same _ (.inr ⟨h0,x,hx,rfl⟩))
     obtain ⟨b,off,rfl,hb,hck⟩:=hrA.at hlt
     have hg:l.getD k 0 = l[k]:=by simp [hlt]
     by_cases hx:l[k] = n
     ·obtain ⟨hi,hrow⟩:=Zre l _ k n (Zyq l n k hn (by omega) hlt (by omega))
      have hyy:=HY.out _ _ hi hJA
      rw [hrow] at hyy
      obtain ⟨fn,tmps,assign,body,hy,hR⟩:=hyy
      have H:=Zh (Zfx l n k (by omega))
      have hbx:((l[k]:Int) == (n:Int)) = true:=by simp;omega
      clear hx hg hrow
      have HJ:=Zh hJA
      have HR:=Zh hR
      have HI:=Zh hi
      clear hJA hR hi
      generalize l[k] = x at *
      gi_wp2
      refine (Zbb HR.out).mono ?_
      rintro e W' (⟨rfl,hJ',hk'⟩ | ⟨rfl,hJx'⟩)
      ·gi_wp2
       go_roundw
       case rel=>exact ⟨k + 1,by omega,by go_num,hsameA.trans hk',by rw [H.out];simpa using hJ'⟩
       case measure=>simp [intOf];omega
      ·gi_wp2
       refine bodyPost_ret (results_none rfl _ _ _) rfl ?_
       exact ⟨⟨_,rfl⟩,.inr ⟨_,HI.out,hJx'⟩⟩
     ·have H:=Zh (Zfy l n k (by omega))
      have hbx:((l[k]:Int) == (n:Int)) = false:=by simp;omega
      have HJ:=Zh hJA
      clear hx hg hJA
      generalize l[k] = x at *
      gi_wp2
      refine ⟨fun _ h=>(by cases h),?_⟩
      gi_wp2
      go_roundw
      case rel=>exact ⟨k + 1,by omega,by go_num,hsameA,by rw [H.out];exact HJ.out⟩
      case measure=>simp [intOf];omega
    ·obtain rfl:k = l.length:=by omega
     have HJ:=Zh hJA
     have H:Hid (ordB l n l.length = if n + 1 = 21 then ord l else ordB l (n + 1) 0):=by
      unfold Hid;split
      ·obtain rfl:n = 20:=by omega
       rfl
      ·exact (Zid l n (by omega)).symm
     clear hJA
     gi_wp2
     go_roundw
     case rel =>
      refine ⟨n + 1,by omega,by omega,by go_num,hsameA,?_⟩
      have h3:=HJ.out
      rw [H.out] at h3
      split <;> simp_all
     case measure=>simp [intOf];omega
  ·obtain rfl:n = 21:=by omega
   rw [if_pos rfl] at hJA
   have HJ:=Zh hJA
   clear hJA
   gi_wp2
   go_end0
   exact ⟨⟨_,rfl⟩,.inl HJ.out⟩
theorem four (w:World) (o1 o2 o3 o4:Obj):((((w.alloc o1).alloc o2).alloc o3).alloc o4).heap.size = w.heap.size + 4 /\ ((((w.alloc o1).alloc o2).alloc o3).alloc o4).heap[w.heap.size]? = some o1 /\ ((((w.alloc o1).alloc o2).alloc o3).alloc o4).heap[w.heap.size + 1]? = some o2 ∧
  ((((w.alloc o1).alloc o2).alloc o3).alloc o4).heap[w.heap.size + 2]? = some o3 /\ ((((w.alloc o1).alloc o2).alloc o3).alloc o4).heap[w.heap.size + 3]? = some o4 /\ Below w.heap.size w ((((w.alloc o1).alloc o2).alloc o3).alloc o4):=by
 have h1:=World.alloc_heap_new w o1
 have h2:=World.alloc_heap_new (w.alloc o1) o2
 have h3:=World.alloc_heap_new ((w.alloc o1).alloc o2) o3
 have h4:=World.alloc_heap_new (((w.alloc o1).alloc o2).alloc o3) o4
 simp only [World.size_alloc] at h2 h3 h4
 refine ⟨by simp,?_,?_,?_,h4,(((((Below.refl _ w).alloc (Nat.le_refl _) _).alloc (by simp) _).alloc (by simp;omega) _).alloc (by simp;omega) _)⟩
 ·rw [Below.heap_alloc _ _ _ (by simp only [World.size_alloc];omega),Below.heap_alloc _ _ _ (by simp only [World.size_alloc];omega),Below.heap_alloc _ _ _ (by simp)];exact h1
 ·rw [Below.heap_alloc _ _ _ (by simp only [World.size_alloc];omega),Below.heap_alloc _ _ _ (by simp)];exact h2
 ·rw [Below.heap_alloc _ _ _ (by simp)];exact h3
theorem Zsf (l:List Nat) (w:World) (B1:Nat) (a:Option Addr) (N k n m:Nat) (o:List Nat) (A:World) {v1 v2 v3:Value}
  (h1:A.heap[B1 + 1]? = some (.cells #[v1] 44)) (h3:A.heap[B1 + 2]? = some (.cells #[v2] 5)) (h4:A.heap[B1]? = some (.cells #[v3] 122))
  (h5:OwnN 44 .u32 A w.heap.size (some ⟨w.heap.size,0,none⟩) l.length o) (h6:Below w.heap.size w A) (hbl:∀ x,0 < l.length -> a = some x -> x.block < w.heap.size) (hlt:w.heap.size < B1) (hA:B1 + 4 <= A.heap.size) :
  let B:=(((A.setCell ⟨B1 + 1,0,none⟩ (.int .u32 m)).setCell ⟨w.heap.size,k,none⟩ (.int .u32 m)).setCell ⟨B1 + 1,0,none⟩ (.int .u32 ((m + 1:Nat):Int))).setCell ⟨B1 + 1 + 1,0,none⟩ (.int .u8 n)
  KeepsFrom N A B /\ SameOn (orderS a (B1 + 3) l) A B /\ B.heap[B1 + 1]? = some (.cells #[.int .u32 ((m + 1:Nat):Int)] 44) /\ B.heap[B1 + 2]? = some (.cells #[.int .u8 n] 5) /\ B.heap[B1]? = some (.cells #[v3] 122) ∧
   OwnN 44 .u32 B w.heap.size (some ⟨w.heap.size,0,none⟩) l.length (o.set k m) /\ Below w.heap.size w B:=by
 intro B
 have s1:=one_setCell (u:=.int .u32 m) h1
 have s2:=(Below.heap_setCell (A.setCell ⟨B1 + 1,0,none⟩ (.int .u32 m)) ⟨w.heap.size,k,none⟩ (.int .u32 m) (B1 + 1) (by show B1 + 1 ≠ w.heap.size;omega)).trans s1
 have s3:=one_setCell (u:=.int .u32 ((m + 1:Nat):Int)) s2
 have t1:=(Below.heap_setCell A ⟨B1 + 1,0,none⟩ (.int .u32 m) (B1 + 2) (by show B1 + 2 ≠ B1 + 1;omega)).trans h3
 have t2:=(Below.heap_setCell (A.setCell ⟨B1 + 1,0,none⟩ (.int .u32 m)) ⟨w.heap.size,k,none⟩ (.int .u32 m) (B1 + 2) (by show B1 + 2 ≠ w.heap.size;omega)).trans t1
 have t3:=(Below.heap_setCell ((A.setCell ⟨B1 + 1,0,none⟩ (.int .u32 m)).setCell ⟨w.heap.size,k,none⟩ (.int .u32 m)) ⟨B1 + 1,0,none⟩ (.int .u32 ((m + 1:Nat):Int)) (B1 + 2) (by show B1 + 2 ≠ B1 + 1;omega)).trans t2
 have u1:=(Below.heap_setCell A ⟨B1 + 1,0,none⟩ (.int .u32 m) B1 (by show B1 ≠ B1 + 1;omega)).trans h4
 have u2:=(Below.heap_setCell (A.setCell ⟨B1 + 1,0,none⟩ (.int .u32 m)) ⟨w.heap.size,k,none⟩ (.int .u32 m) B1 (by show B1 ≠ w.heap.size;omega)).trans u1
 have u3:=(Below.heap_setCell ((A.setCell ⟨B1 + 1,0,none⟩ (.int .u32 m)).setCell ⟨w.heap.size,k,none⟩ (.int .u32 m)) ⟨B1 + 1,0,none⟩ (.int .u32 ((m + 1:Nat):Int)) B1 (by show B1 ≠ B1 + 1;omega)).trans u2
 have ne:∀ p:Addr,p.block ≠ w.heap.size -> ∀ g,some (⟨w.heap.size,0,none⟩:Addr) = some ⟨g,0,none⟩ -> p.block ≠ g:=fun p hp g hg=>by
  simp only [Option.some.injEq,Addr.mk.injEq,and_true] at hg;rw [<- hg];exact hp
 refine ⟨((((KeepsOthers.setCell _ _ _).trans (KeepsOthers.setCell _ _ _)).trans (KeepsOthers.setCell _ _ _)).trans (KeepsOthers.setCell _ _ _)).from _,?_,?_,one_setCell t3,?_,?_,?_⟩
 ·refine (((((Only.refl (fun b=>b = w.heap.size \/ b = B1 + 1 \/ b = B1 + 2) A).setCell (.inl (.inr (.inl rfl))) _).setCell (.inl (.inl rfl)) _).setCell (.inl (.inr (.inl rfl))) _).setCell (.inl (.inr (.inr rfl))) _).sameOn ?_
  rintro b (rfl | ⟨h0,x,hx,rfl⟩)
  ·exact ⟨by omega,by omega⟩
  ·have:=hbl x h0 hx
   exact ⟨by omega,by omega⟩
 ·exact (Below.heap_setCell _ _ _ _ (by show B1 + 1 ≠ B1 + 1 + 1;omega)).trans s3
 ·exact (Below.heap_setCell _ _ _ _ (by show B1 ≠ B1 + 1 + 1;omega)).trans u3
 ·exact OwnN.other (OwnN.other (OwnN.stored (OwnN.other h5 (ne _ (by show B1 + 1 ≠ _;omega)) _) k m).1 (ne _ (by show B1 + 1 ≠ _;omega)) _) (ne _ (by show B1 + 1 + 1 ≠ _;omega)) _
 ·exact (((h6.setCell (by show w.heap.size <= B1 + 1;omega) _).setCell (Nat.le_refl _) _).setCell (by show w.heap.size <= B1 + 1;omega) _).setCell (by show w.heap.size <= B1 + 1 + 1;omega) _
theorem Zsh (l:List Nat):cls l = 3 ↔ 2 ^ 20 < weight l:=by
 unfold cls
 split
 ·omega
 ·split
  ·omega
  ·split <;> omega
set_option maxHeartbeats 800000 in
theorem Ziy (a:Option Addr) (cap:Nat) (l:List Nat) (w:World) (hr:RowN .u8 w a cap l) :
  Calls Tryz.prog 77 #[.slice a l.length cap] w (WordsOut w l):=by
 have hlen:=hr.len
 by_cases hm:May l
 case neg =>
  have H:Hid (wordsE l = ([],5)):=by simp [Hid,wordsE,hm]
  have HC:clsE l = (0,5):=by simp [clsE,hm]
  clear hm
  go_enter Tryz.func77,Tryz.ntmps77
  go_wp2_with (go_at_call 89;refine (Zbf _ _ _ _ hr).mono ?_;rintro e w' ⟨rfl,rfl⟩;rw [HC])
  go_ret2
  unfold WordsOut
  rw [H.out]
  exact ⟨none,0,rfl,OwnN.nil _ _ _ _,Below.refl _ _⟩
 have HC:clsE l = (cls l,0):=by simp [clsE,hm]
 by_cases ho:2 ^ 20 < weight l
 ·have H:Hid (wordsE l = ([],2)):=by simp only [Hid,wordsE,hm,ho,not_true,if_false,if_true]
  have H3:=(Zsh l).2 ho
  rw [H3] at HC
  clear hm ho H3
  go_enter Tryz.func77,Tryz.ntmps77
  go_wp2_with (go_at_call 89;refine (Zbf _ _ _ _ hr).mono ?_;rintro e w' ⟨rfl,rfl⟩;rw [HC])
  go_ret2
  unfold WordsOut
  rw [H.out]
  exact ⟨none,0,rfl,OwnN.nil _ _ _ _,Below.refl _ _⟩
 have H:Hid (wordsE l = (words l,0)):=by simp only [Hid,wordsE,hm,ho,not_true,if_false]
 have h3:((cls l:Int) == 3) = false:=by have:=Zsh l;simp;omega
 have h512:l.length <= 512:=hm.2
 have HM:=Zh hm
 have HO:weight l <= 2 ^ 20:=by omega
 have HCC:=Zh HC
 clear hm ho HC
 refine (callsIn_wide (n:=9)).1 ?_
 refine callsIn_of_wp_marks Tryz.func77 rfl trivial ?_ rfl
 simp only [Tryz.ntmps77,List.size_toArray,List.length_cons,List.length_nil,Nat.reduceAdd,Nat.reduceSub,Array.replicate_succ,Array.replicate_zero,List.push_toArray,List.append_toArray,List.nil_append,List.cons_append]
 gi_wp2_with (first | (refine ⟨trivial,?_⟩;gi_at_call 89;refine (callsIn_wide.2 (Zbf _ _ _ _ hr)).mono ?_;rintro e w' ⟨rfl,rfl⟩;rw [HCC.out]) | (gi_at_make;refine makeNIn Zaib rfl _ _ rfl w.heap.size rfl rfl (by omega) (by omega) (Nat.le_refl _) ?_;intro w1 hown hg) | (refine ⟨trivial,?_⟩;gi_at_call 113;refine (callsIn_wide.2 (Zqt _ _ _ _)).mono ?_;rintro e w' ⟨rfl,rfl⟩))
 obtain ⟨hz,hb0,hb1,hb2,hb3,hbel⟩:=four w1 (.cells #[.slice (some ⟨w.heap.size,0,none⟩) l.length l.length] 122) (.cells #[.int .u32 0] 44) (.cells #[.int .u8 0] 5) (.cells #[.slice a l.length cap] 24)
 have h01:w.heap.size < w1.heap.size:=by
  obtain ⟨g,he,_,hlt⟩:=(hown.form).resolve_left (by simp)
  simp only [Option.some.injEq,Addr.mk.injEq,and_true] at he
  omega
 have hB1:Below w.heap.size w w1:=Below.of_grown hg (Nat.le_refl _) (fun k e=>by cases e)
 have hB4:=hB1.trans (hbel.mono hB1.size)
 have hown4:=hown.below hbel
 clear hbel hown hg
 generalize (((w1.alloc (Obj.cells #[Value.slice (some ⟨w.heap.size,0,none⟩) l.length l.length] 122)).alloc (Obj.cells #[Value.int .u32 0] 44)).alloc (Obj.cells #[Value.int .u8 0] 5)).alloc (Obj.cells #[Value.slice a l.length cap] 24) = W0 at *
 have hr4:RowN .u8 W0 a cap l:=hr.below hB4
 refine Zjk (g:=.tmp 27) (gf:=145) (lb:=#[.pointer (some ⟨w1.heap.size + 3,0,none⟩)]) rfl (enters_of Tryz.func145 (by kernel_rfl) rfl)
  (Zor a cap l W0 (w1.heap.size + 3) hr4 hb3) (SameOn.refl _ _) ?hS (fun _ h=>h.elim) (fun _=>rfl)
  (fun i A=>(∃ nx:Nat,A.heap[w1.heap.size + 1]? = some (.cells #[.int .u32 nx] 44) /\ nx * 2 ^ (20 - bitsI l i) = accI l i) /\ A.heap[w1.heap.size + 2]? = some (.cells #[.int .u8 (bitsI l i:Nat)] 5) ∧
   A.heap[w1.heap.size]? = some (.cells #[.slice (some ⟨w.heap.size,0,none⟩) l.length l.length] 122) /\ OwnN 44 .u32 A w.heap.size (some ⟨w.heap.size,0,none⟩) l.length (outsI l i) /\ Below w.heap.size w A)
  (fun _ _ _=>False) ?hI ?hIp (fun _ _ _ _ h _=>h) (fun _ _ _ _ _ _ h _ _ _=>h) ?h0 ?a1 ?assign ?body ?done (fun _ _ _ _ h _=>h.elim)
 case hS =>
  rintro b (rfl | ⟨h0,x,hx,rfl⟩)
  ·omega
  ·obtain ⟨b',off,he,hlt,_⟩:=hr4.at h0
   rw [hx] at he
   cases he
   exact hlt
 case hI =>
  rintro i A B ⟨⟨nx,h1,h2⟩,h3,h4,h5,h6⟩ ho
  exact ⟨⟨nx,Zah h1 ho id,h2⟩,Zah h3 ho id,Zah h4 ho id,h5.only ho (fun _ _=>id),Below.only h6 ho (Nat.le_refl _) (fun _ h=>h.elim)⟩
 case hIp =>
  rintro i A r o o' ⟨⟨nx,h1,h2⟩,h3,h4,h5,h6⟩ hr0 hro hoc
  exact ⟨⟨nx,Zap h1 hro hoc,h2⟩,Zap h3 hro hoc,Zap h4 hro hoc,h5.put hro hoc _,Below.put h6 (Nat.le_refl _) hro (by omega) _⟩
 case h0=>exact ⟨⟨0,hb1,by simp [accI]⟩,hb2,hb0,by simpa [outsI] using hown4,hB4⟩
 case assign =>
  intro y i W K hK
  simp only [orderRow]
  gi_wp2
  exact hK
 case body =>
  rintro y i hi A hz2 ⟨⟨nx,h1,h2⟩,h3,h4,h5,h6⟩
  obtain ⟨k,n,hrow,hk,hn0,hn20,hbn,hbn1,hwd,hnx,hac⟩:=Zwc l i nx hi HO h2
  have hp:(ord l).getD i (0,0) = (k,n):=by simp [List.getD,hrow]
  have hp':(ord l)[i]?.getD (0,0) = (k,n):=by simp [hrow]
  simp only [hp']
  obtain ⟨g,he,_,hg2,hcell,hfree⟩:=h5.at (i:=k) (by rw [Zos];exact hk)
  simp only [Option.some.injEq,Addr.mk.injEq,and_true] at he
  subst he
  have c1:=cell_of_one h1
  have f1:=free_of_one h1
  have c2:=cell_of_one h3
  have f2:=free_of_one h3
  have c3:=cell_of_one h4
  have HX:=Zh hwd
  have HY:=Zh hac
  have HZ:=Zh hbn1
  have HR:=Zh hrow
  have H1:=Zh h1
  have H3:=Zh h3
  have H4:=Zh h4
  clear hrow hp hp' hwd hac hbn1 hb0 hb1 hb2 hb3 h1 h3 h4 h2
  generalize bitsI l i = bt at *
  have hlt1:w.heap.size < w1.heap.size:=h01
  gi_wp2
  have hm:((nx:Int) * 2 ^ (n - bt)) % 4294967296 = ((nx * 2 ^ (n - bt):Nat):Int):=by
   have h2:(2:Int) ^ (n - bt) = ((2 ^ (n - bt):Nat):Int):=by simp
   rw [h2,<- Int.natCast_mul]
   generalize nx * 2 ^ (n - bt) = m at *
   omega
  have hm1:((nx:Int) * 2 ^ (n - bt) + 1) % 4294967296 = ((nx * 2 ^ (n - bt) + 1:Nat):Int):=by
   have h2:(2:Int) ^ (n - bt) = ((2 ^ (n - bt):Nat):Int):=by simp
   rw [h2,<- Int.natCast_mul]
   generalize nx * 2 ^ (n - bt) = m at *
   omega
  simp only [hm,hm1]
  have hbl:∀ x,0 < l.length -> a = some x -> x.block < w.heap.size:=fun x h0 hx=>by
   obtain ⟨b',off,he,hlt,_⟩:=hr.at h0
   rw [hx] at he
   cases he
   exact hlt
  obtain ⟨q1,q2,q3,q4,q5,q6,q7⟩:=Zsf l w w1.heap.size a W0.heap.size k n (nx * 2 ^ (n - bt)) (outsI l i) A H1.out H3.out H4.out h5 h6 hbl hlt1 (by omega)
  refine ⟨q1,q2,⟨nx * 2 ^ (n - bt) + 1,q3,by rw [HZ.out];exact HY.out⟩,by rw [HZ.out];exact q4,q5,?_,q7⟩
  rw [Zku l i k n HR.out,HX.out]
  exact q6
 case done =>
  rintro A ⟨⟨nx,h1,h2⟩,h3,h4,h5,h6⟩ hD
  have c3:=cell_of_one h4
  clear h1 h2 h3 h4
  gi_wp2
  refine ⟨by simp,.inl ⟨_,_,rfl,run_takeDeferred hD,?_⟩⟩
  refine ⟨_,results_tmp2 rfl _ _ _,?_⟩
  unfold WordsOut
  rw [H.out]
  rw [Zys l HM.out.1] at h5
  refine ⟨some ⟨w.heap.size,0,none⟩,l.length,?_,h5.put hD rfl _,Below.put h6 (Nat.le_refl _) hD (by omega) _⟩
  simp [Zbc]
end Go.Proofs.YtendielanacflaaGreat

namespace Go.Proofs.YtendielanacflaaGreat.M01
def bit (bs:List Nat) (i:Nat):Nat:=bs.getD (i / 8) 0 / 2 ^ (i % 8) % 2
theorem Zkj (bs:List Nat) (i:Nat):bit bs i < 2:=Nat.mod_lt _ (by decide)
def num (bs:List Nat) (at_:Nat):Nat -> Nat
 | 0=>0
 | n + 1=>num bs at_ n + bit bs (at_ + n) * 2 ^ n
theorem Zdj (bs:List Nat) (at_ n:Nat):num bs at_ n < 2 ^ n:=by
 induction n with
 | zero=>simp [num]
 | succ n ih =>
  have:=Zkj bs (at_ + n)
  simp only [num,Nat.pow_succ]
  have h:bit bs (at_ + n) * 2 ^ n <= 1 * 2 ^ n:=Nat.mul_le_mul_right _ (by omega)
  omega
theorem Zafe (v b k:Nat) (hv:v < 2 ^ k):v ||| b * 2 ^ k = v + b * 2 ^ k:=by
 rw [Nat.or_comm,Nat.mul_comm,<- Nat.two_pow_add_eq_or_of_lt hv]
 omega
end Go.Proofs.YtendielanacflaaGreat.M01

namespace Go.Proofs.YtendielanacflaaGreat
open Go.RowKit Go.Shelf M01
theorem Znl (a b:Nat) (ha:a < 4294967296) (hb:b < 4294967296):bits .and .u32 (a:Int) (b:Int) = ((a &&& b:Nat):Int):=by
 have hx:a &&& b < 2 ^ 32:=Nat.and_lt_two_pow _ (by omega)
 have h1:(BitVec.ofInt 32 (a:Int)).toNat = a:=by
  rw [BitVec.ofInt_natCast,BitVec.toNat_ofNat];exact Nat.mod_eq_of_lt (by omega)
 have h2:(BitVec.ofInt 32 (b:Int)).toNat = b:=by
  rw [BitVec.ofInt_natCast,BitVec.toNat_ofNat];exact Nat.mod_eq_of_lt (by omega)
 show IntKind.u32.wrap ((BitVec.ofInt 32 (a:Int) &&& BitVec.ofInt 32 (b:Int)).toNat:Int) = _
 rw [BitVec.toNat_and,h1,h2,IntKind.wrap_u32]
 omega
theorem Zil (a b:Nat) (ha:a < 4294967296) (hb:b < 4294967296):bits .or .u32 (a:Int) (b:Int) = ((a ||| b:Nat):Int):=by
 have hx:a ||| b < 2 ^ 32:=Nat.or_lt_two_pow (by omega) (by omega)
 have h1:(BitVec.ofInt 32 (a:Int)).toNat = a:=by
  rw [BitVec.ofInt_natCast,BitVec.toNat_ofNat];exact Nat.mod_eq_of_lt (by omega)
 have h2:(BitVec.ofInt 32 (b:Int)).toNat = b:=by
  rw [BitVec.ofInt_natCast,BitVec.toNat_ofNat];exact Nat.mod_eq_of_lt (by omega)
 show IntKind.u32.wrap ((BitVec.ofInt 32 (a:Int) ||| BitVec.ofInt 32 (b:Int)).toNat:Int) = _
 rw [BitVec.toNat_or,h1,h2,IntKind.wrap_u32]
 omega
theorem Zafs (x r:Nat) (hx:x < 256):bits .and .u32 ((x:Int) / 2 ^ r % 4294967296) 1 = ((x / 2 ^ r % 2:Nat):Int):=by
 have h0:x / 2 ^ r <= x:=Nat.div_le_self _ _
 have h1:((x:Int) / 2 ^ r % 4294967296) = ((x / 2 ^ r:Nat):Int):=by
  have h2:(2:Int) ^ r = ((2 ^ r:Nat):Int):=by simp
  rw [h2,<- Int.natCast_ediv]
  generalize x / 2 ^ r = y at *
  omega
 rw [h1]
 have:=Znl (x / 2 ^ r) 1 (by omega) (by omega)
 rw [Nat.and_one_is_mod] at this
 exact this
theorem Zagp (v b k:Nat) (hv:v < 2 ^ k) (hb:b < 2) (hk:k < 32):bits .or .u32 (v:Int) ((b:Int) * 2 ^ k % 4294967296) = ((v + b * 2 ^ k:Nat):Int):=by
 have h2:(2:Int) ^ k = ((2 ^ k:Nat):Int):=by simp
 have hp:2 ^ k <= 2 ^ 31:=Nat.pow_le_pow_right (by decide) (by omega)
 have hbk:b * 2 ^ k <= 1 * 2 ^ k:=Nat.mul_le_mul_right _ (by omega)
 rw [h2,<- Int.natCast_mul]
 have h3:((b * 2 ^ k:Nat):Int) % 4294967296 = ((b * 2 ^ k:Nat):Int):=by omega
 rw [h3,Zil v (b * 2 ^ k) (by omega) (by omega),Zafe v b k hv]
def Rd (w:World) (p:Nat) (bs:List Nat) (at_:Nat):Prop :=
 ∃ a cap,w.heap[p]? = some (.cells #[.slice a bs.length cap,.int .i64 (at_:Nat)] 158 (0,0)) /\ RowN .u8 w a cap bs /\ (∀ x ∈ bs,x < 256) /\ bs.length <= 100000000 /\ at_ <= 8 * bs.length /\ ∀ x,a = some x -> x.block < p
theorem Zza {A:World} {p m cap:Nat} {bs:List Nat} {a:Option Addr} (hc:A.heap[p]? = some (.cells #[.slice a bs.length cap,.int .i64 (m:Nat)] 158 (0,0))) (hr:RowN .u8 A a cap bs) (hb:∀ x ∈ bs,x < 256) (hl:bs.length <= 100000000) (hne:∀ x,a = some x -> x.block < p) (m':Nat) (hm:m' <= 8 * bs.length) (q:Nat) :
  Rd ((A.drewN q).setCell ⟨p,1,none⟩ (.int .i64 (m':Nat))) p bs m' /\ Only (fun b=>b = p) A ((A.drewN q).setCell ⟨p,1,none⟩ (.int .i64 (m':Nat))):=by
 refine ⟨⟨a,cap,(Zaq (w:=A.drewN q) hc).2,?_,hb,hl,hm,hne⟩,?_⟩
 ·refine hr.same (by simp [World.setCell,World.drewN]) (fun x h0 hx=>?_)
  exact Below.heap_setCell (A.drewN q) ⟨p,1,none⟩ _ _ (Nat.ne_of_lt (hne x hx))
 ·exact (⟨rfl,rfl,rfl,Nat.le_refl _,fun _ _ _=>rfl⟩:Only (fun b=>b = p) A (A.drewN q)).setCell (.inl rfl) _
set_option maxRecDepth 100000 in
set_option maxHeartbeats 1600000 in
theorem Zss (w:World) (p:Nat) (bs:List Nat) (at_:Nat) (h:Rd w p bs at_) :
  Calls Tryz.prog 140 #[.pointer (some ⟨p,0,none⟩)] w fun e w'=>e = .returned (.int .i64 ((8 * bs.length - at_:Nat):Int)) /\ ∃ q,w' = w.drewN q:=by
 obtain ⟨a,cap,hc,hr,hb,hl,ha,hne⟩:=h
 obtain ⟨c0,c1,_,_⟩:=Zae hc
 have HV:Hid (Ending.returned (.int .i64 (8 * (bs.length:Int) - (at_:Int))) = Ending.returned (.int .i64 ((8 * bs.length - at_:Nat):Int))):=by
  unfold Hid;rw [show ((8 * bs.length - at_:Nat):Int) = 8 * (bs.length:Int) - (at_:Int) by omega]
 clear hc hr hb hne
 go_enter Tryz.func140,Tryz.ntmps140
 go_wp2_with fail
 go_quiet (fail)
 go_wp2
 go_ret
 exact ⟨HV.out,_,rfl⟩
set_option maxRecDepth 100000 in
set_option maxHeartbeats 1600000 in
theorem Zfl (w:World) (p:Nat) (bs:List Nat) (at_ n:Nat) (hn:n <= 32) (h:Rd w p bs at_) (hle:at_ + n <= 8 * bs.length) :
  Calls Tryz.prog 104 #[.pointer (some ⟨p,0,none⟩),.int .i64 (n:Nat)] w fun e w'=>e = .returned (.tuple #[.int .u32 (num bs at_ n:Nat),.int .i64 0]) /\ Rd w' p bs (at_ + n) /\ Only (fun b=>b = p) w w':=by
 have HL:=Zh (Zss w p bs at_ h)
 have t1:decide ((n:Int) < 0) = false:=by simp
 have t2:decide ((32:Int) < (n:Int)) = false:=by simp;omega
 have t3:decide (((8 * bs.length - at_:Nat):Int) < (n:Int)) = false:=by simp;omega
 have H:=Zh h
 have HLE:=Zh hle
 clear h hle
 go_enter Tryz.func104,Tryz.ntmps104
 go_wp2_with fail
 refine HL.out.mono ?_
 rintro e w1 ⟨rfl,q,rfl⟩
 generalize hd:((8 * bs.length - at_:Nat):Int) = lf at *
 clear HL hd
 go_wp2_with fail
 go_loopw [6,7,8,25] (fun v _ _ i A=>∃ k:Nat,k <= n /\ i = .int .i64 k /\ v = .int .u32 (num bs at_ k:Nat) /\ Rd A p bs (at_ + k) /\ Only (fun b=>b = p) w A) (fun _ _ _ i _=>n - (intOf i).toNat)
 case atStart=>exact ⟨0,by omega,rfl,rfl,H.out,⟨rfl,rfl,rfl,Nat.le_refl _,fun _ _ _=>rfl⟩⟩
 case round =>
  obtain ⟨k,hk,rfl,rfl,hrd,honly⟩:=hrel
  have HON:=Zh honly
  clear honly
  by_cases hlt:k < n
  ·have hle:=HLE.out
   obtain ⟨a,cap,hc,hr,hb,hl,ha,hne⟩:=hrd
   obtain ⟨c0,c1,d0,d1⟩:=Zae hc
   have hil:(at_ + k) / 8 < bs.length:=by omega
   obtain ⟨bl,off,rfl,hbl,hck⟩:=hr.at hil
   have hx:=hb _ (List.getElem_mem hil)
   have hbit:bit bs (at_ + k) = bs[(at_ + k) / 8] / 2 ^ ((at_ + k) % 8) % 2:=by
    unfold bit;simp [hil]
   have HNUM:=Zh (show num bs at_ (k + 1) = num bs at_ k + bit bs (at_ + k) * 2 ^ k from rfl)
   have hnl:=Zdj bs at_ k
   have HB:=Zh hb
   have HC:=Zh hc
   have HR:=Zh hr
   have HNE:=Zh hne
   have HAT:=Zh (show at_ + k + 1 = at_ + (k + 1) from rfl)
   have hmle:at_ + k + 1 <= 8 * bs.length:=by omega
   generalize hm:at_ + k = m at *
   clear hb hc hr hne hle ha HLE
   generalize bs[m / 8] = x at *
   obtain ⟨t,ht⟩:∃ t,m / 8 = t:=⟨_,rfl⟩
   obtain ⟨r,hr8⟩:∃ r,m % 8 = r:=⟨_,rfl⟩
   rw [ht] at hck hil
   rw [hr8] at hbit
   have hq1:(m:Int) / 8 = (t:Int):=by omega
   have hq2:(m:Int) % 8 = (r:Int):=by omega
   have hr7:r < 8:=by omega
   have hml:m <= 800000000:=by omega
   have hti:(t:Int) < (bs.length:Int):=by omega
   clear ht hr8 hm
   go_wp2_with fail
   go_quiet (fail)
   simp only [Zafs x r hx]
   rw [<- hbit]
   have hbv:=Zkj bs m
   generalize bit bs m = bv at *
   have HOR:=Zh (Zagp _ bv k hnl hbv (by omega))
   generalize num bs at_ k = v at *
   have hc1':(wr.drewN nq).cell? ⟨p,1,none⟩ = some (.int .i64 (m:Nat)):=c1
   have hd1':(wr.drewN nq).frozen? ⟨p,1,none⟩ = false:=d1
   clear c0 c1 d0 d1 hck hq1 hq2 hbit hbv hnl
   go_wp2
   go_roundw
   case rel =>
    obtain ⟨k1,k2⟩:=Zza HC.out HR.out HB.out hl HNE.out (m + 1) hmle nq
    rw [show ((m + 1:Nat):Int) = (m:Int) + 1 by simp] at k1 k2
    exact ⟨k + 1,by omega,by go_num,by rw [HOR.out,HNUM.out],by rw [<- HAT.out];exact k1,HON.out.trans k2⟩
   case measure=>simp [intOf];omega
  ·obtain rfl:k = n:=by omega
   have HRD:=Zh hrd
   clear hrd
   go_wp2
   go_ret2
   exact ⟨rfl,HRD.out,HON.out⟩
set_option maxRecDepth 100000 in
theorem Zca (w:World) (p:Nat) (bs:List Nat) (at_ n:Nat) (hn:n <= 32) (h:Rd w p bs at_) (hle:8 * bs.length < at_ + n) :
  Calls Tryz.prog 104 #[.pointer (some ⟨p,0,none⟩),.int .i64 (n:Nat)] w fun e w'=>e = .returned (.tuple #[.int .u32 0,.int .i64 2]) /\ ∃ q,w' = w.drewN q:=by
 have HL:=Zh (Zss w p bs at_ h)
 have hat:at_ <= 8 * bs.length:=by obtain ⟨_,_,_,_,_,_,ha,_⟩:=h;exact ha
 have t1:decide ((n:Int) < 0) = false:=by simp
 have t2:decide ((32:Int) < (n:Int)) = false:=by simp;omega
 have t3:decide (((8 * bs.length - at_:Nat):Int) < (n:Int)) = true:=by simp;omega
 clear h hle
 go_enter Tryz.func104,Tryz.ntmps104
 go_wp2_with fail
 refine HL.out.mono ?_
 rintro e w1 ⟨rfl,q,rfl⟩
 generalize hd:((8 * bs.length - at_:Nat):Int) = lf at *
 clear HL hd
 go_wp2
 go_ret2
 exact ⟨rfl,q,rfl⟩
theorem eqNilT (w:World):(binOp .eql 24 (.slice none 0 0) (.slice none 0 0)).run Tryz.prog w = .ok (.bool true) w:=by kernel_rfl
theorem eqNilF (x:Addr) (n c:Nat) (w:World):(binOp .eql 24 (.slice (some x) n c) (.slice none 0 0)).run Tryz.prog w = .ok (.bool false) w:=by kernel_rfl
set_option maxRecDepth 100000 in
theorem Zer (w:World) (a:Option Addr) (cap:Nat) (l:List Nat) (hr:RowN .u8 w a cap l) (hl:l.length <= 100000000) :
  Calls Tryz.prog 58 #[.slice a l.length cap] w fun e w'=>∃ a' c',e = .returned (.slice a' l.length c') /\ OwnN 5 .u8 w' w.heap.size a' c' l /\ Below w.heap.size w w':=by
 by_cases ha:a = none
 ·subst ha
  have h0:cap = 0:=hr.2.1.2 rfl
  subst h0
  have hl0:l = []:=List.eq_nil_of_length_eq_zero (by have:=hr.1;omega)
  subst hl0
  clear hr
  go_enter Tryz.func58,Tryz.ntmps58
  go_wp2_with fail
  rw [eqNilT]
  go_wp2
  go_ret
  exact ⟨none,0,rfl,OwnN.nil _ _ _ _,Below.refl _ _⟩
 ·obtain ⟨x,rfl⟩:=Option.ne_none_iff_exists'.1 ha
  clear ha
  go_enter Tryz.func58,Tryz.ntmps58
  go_wp2_with fail
  rw [eqNilF]
  go_wp2_with (at_builtin;refine appAnyN Zfb rfl (.tmp 5) (.tmp 6) rfl (a:=some ⟨w.heap.size,0,none⟩) (cap:=0) (l:=[]) (ys:=l) (base:=w.heap.size) rfl (OwnN.lit0 _ _ _ _ (Nat.le_refl _)) rfl rfl (hr.below ((Below.refl _ _).alloc (Nat.le_refl _) _)) (by simp;omega) (by simp;omega) (by simp) ?_;intro a1 cap1 w1 hown1 hg1 hb1;simp only [List.nil_append] at hown1;simp only [List.length_nil,Nat.zero_add])
  go_ret
  exact ⟨a1,cap1,rfl,hown1,((Below.refl w.heap.size w).alloc (Nat.le_refl _) _).trans hb1⟩
theorem Zago (w:World) (a:Option Addr) (cap:Nat) (l:List Nat) (hr:RowN .u8 w a cap l) (hb:∀ x ∈ l,x < 256) (hl:l.length <= 100000000) :
  Calls Tryz.prog 50 #[.slice a l.length cap] w fun e w'=>∃ p,e = .returned (.pointer (some ⟨p,0,none⟩)) /\ Rd w' p l 0 /\ Below w.heap.size w w' /\ w.heap.size <= p:=by
 go_enter Tryz.func50,Tryz.ntmps50
 go_wp2_with fail
 refine (Zer _ _ _ _ hr hl).mono ?_
 rintro e w1 ⟨a1,c1,rfl,ho,hbw⟩
 have HO:=Zh ho
 have HB:=Zh hbw
 clear ho hbw
 go_wp2
 go_ret
 refine ⟨w1.heap.size,rfl,⟨a1,c1,World.alloc_heap_new _ _,(HO.out.alloc _).row,hb,hl,by omega,fun x hx=>?_⟩,HB.out.alloc HB.out.size _,HB.out.size⟩
 rcases HO.out.form with ⟨h1,_⟩ | ⟨g,h1,_,h2⟩
 ·rw [h1] at hx;cases hx
 ·rw [h1] at hx;cases hx;exact h2
end Go.Proofs.YtendielanacflaaGreat

namespace Go.Proofs.YtendielanacflaaGreat.M06
abbrev TF:=Nat -> Nat -> Option Int
def putF (F:TF) (x k:Nat) (v:Int):TF:=fun x' k'=>if x' = x /\ k' = k then some v else F x' k'
def tabK (x n:Nat) (F:TF):Nat -> TF
 | 0=>F
 | k + 1=>putF (tabK x n F k) (x / 2 ^ (n - k)) k (-1)
def tabI (lens ws:List Nat):Nat -> TF
 | 0=>fun _ _=>none
 | i + 1=>if lens.getD i 0 = 0 then tabI lens ws i else tabK (ws.getD i 0) (lens.getD i 0) (putF (tabI lens ws i) (ws.getD i 0) (lens.getD i 0) i) (lens.getD i 0)
end Go.Proofs.YtendielanacflaaGreat.M06

namespace Go.Proofs.YtendielanacflaaGreat
open Go.RowKit Go.Maps M06
theorem Zaej:laidOutB Tryz.prog = true:=by kernel_rfl
theorem Ztx:(129:TypeId) < Tryz.prog.types.size:=of_decide_eq_true (by kernel_rfl)
theorem Zaav:(match Tryz.prog.underlying 129 with | some (.array _ _) | some (.struct _)=>true | _=>false) = true:=by rw [Tryz.underlying129]
set_option maxRecDepth 100000 in
theorem Zgj:Keyed Tryz.prog 129:=Keyed.of_law (deep_law_laid Zaej (m:=2) (by omega) Ztx (by kernel_rfl) Zaav)
theorem Zaau:Tryz.prog.keyType 129 = true:=by kernel_rfl
def wordV (x k:Nat):Value:=.agg #[.int .u32 (x:Nat),.int .u8 (k:Nat)]
theorem Zwk {x m:Nat} (h:x < m + 1):(x:Int) <= (m:Int):=Int.ofNat_le.2 (Nat.le_of_lt_succ h)
theorem Ztw (x k:Nat) (hx:x < 4294967296) (hk:k < 256):∃ kl,keyOf Tryz.prog 129 (wordV x k) = some kl:=by
 have c101:Tryz.prog.cellsOf 129 = 2:=by kernel_rfl
 have c36:Tryz.prog.cellsOf 44 = 1:=by kernel_rfl
 have c5:Tryz.prog.cellsOf 5 = 1:=by kernel_rfl
 obtain ⟨m,hm⟩:∃ m,Tryz.prog.types.size = m + 1:=by
  have h:=Ztx
  revert h
  generalize Tryz.prog.types.size = n
  intro h
  cases n with
  | zero=>exact absurd h (Nat.not_lt_zero _)
  | succ n=>exact ⟨n,rfl⟩
 have wx:(Lit.int .u32 (x:Int)).wf = true:=WalkArith.wf_u32 ⟨Int.natCast_nonneg _,Zwk (m:=4294967295) hx⟩
 have wk:(Lit.int .u8 (k:Int)).wf = true:=WalkArith.wf_u8 ⟨Int.natCast_nonneg _,Zwk (m:=255) hk⟩
 refine ⟨.string (keyBytes [.int .u32 (x:Int),.int .u8 (k:Int)]),?_⟩
 unfold keyOf wordV
 simp only [Tryz.underlying129]
 rw [if_pos (by simp [Zaau,Value.formed,Tryz.underlying129,c101]),hm]
 unfold Program.keyLits
 simp only [Tryz.underlying129,Value.cells]
 rw [if_pos ⟨by rw [c101];rfl,by decide +kernel⟩]
 simp [c36,c5,Program.keyLits,Tryz.underlying44,Tryz.underlying5,wx,wk]
theorem Zaes {x k x' k':Nat} (h:wordV x k = wordV x' k'):x = x' /\ k = k':=by
 unfold wordV at h
 simp only [Value.agg.injEq,Array.mk.injEq,List.cons.injEq,Value.int.injEq,true_and,and_true] at h
 omega
theorem zeroInt (w:World):(zeroValue 3).run Tryz.prog w = .ok (.int .i64 0) w:=by kernel_rfl
def MapF (w:World) (b n:Nat) (F:Nat -> Nat -> Option Int):Prop :=
 ∃ D:DataW Unit,w.ownsMap Tryz.prog 129 (plainElem Tryz.prog 3) b n D /\ IsMap D ∧
  ∀ x k kl,keyOf Tryz.prog 129 (wordV x k) = some kl -> Maps.has D kl = (F x k).isSome /\ D.atKey kl (.lit (.int .i64 0)) = .lit (.int .i64 ((F x k).getD 0))
theorem Zyi (w:World):MapF (w.alloc (.map #[] 0)) w.heap.size 0 (fun _ _=>none) :=
 ⟨.map [],World.ownsMap_made _ _ _ _,isMap_empty,fun x k kl _=>⟨rfl,rfl⟩⟩
theorem MapF.kept {w w':World} {b n:Nat} {F:Nat -> Nat -> Option Int} {row:Option Nat} (h:MapF w b n F) (hg:w.grownBy w' row) (hne:some b ≠ row):MapF w' b n F:=by
 obtain ⟨D,h1,h2⟩:=h
 exact ⟨D,h1.kept hg hne,h2⟩
theorem MapF.lt {w:World} {b n:Nat} {F:Nat -> Nat -> Option Int} (h:MapF w b n F):b < w.heap.size:=by
 obtain ⟨D,h1,_⟩:=h
 exact h1.lt
theorem MapF.look {w:World} {b n:Nat} {F:Nat -> Nat -> Option Int} (h:MapF w b n F) (x k:Nat) (hx:x < 4294967296) (hk:k < 256) :
  (Instr.lookup 125 (.map (some b)) (wordV x k) true).run Tryz.prog w = .ok (.tuple #[.int .i64 ((F x k).getD 0),.bool (F x k).isSome]) w:=by
 obtain ⟨D,h1,_,h2⟩:=h
 obtain ⟨kl,hkl⟩:=Ztw x k hx hk
 obtain ⟨v,ps,hrun,hv⟩:=h1.look_ok Zgj Tryz.underlying125 (zeroInt w) (plainElem_int Tryz.underlying3 (by decide)) hkl
 obtain ⟨g1,g2⟩:=h2 x k kl hkl
 obtain ⟨c,rfl,hc,_⟩:=plainElem_int_inv Tryz.underlying3 hv
 simp only [Prod.mk.injEq] at hc
 rw [g2] at hc
 have hcc:(F x k).getD 0 = c:=by
  have:=hc.1
  simpa using this
 rw [hrun,g1,hcc]
theorem MapF.put {w:World} {b n:Nat} {F:Nat -> Nat -> Option Int} (h:MapF w b n F) (hn:n < maxLen) (x k:Nat) (v:Int) (hx:x < 4294967296) (hk:k < 256) (hv:-1000000 <= v /\ v <= 1000000) :
  ∃ w',(Instr.mapUpdate 125 (.map (some b)) (wordV x k) (.int .i64 v)).run Tryz.prog w = .ok () w' /\ MapF w' b (n + 1) (putF F x k v) /\ w.grownBy w' (some b):=by
 obtain ⟨D,h1,hD,h2⟩:=h
 obtain ⟨kl,hkl⟩:=Ztw x k hx hk
 have wv:(Lit.int .i64 v).wf = true:=WalkArith.wf_i64 (by omega)
 obtain ⟨w',hrun,hown,hg⟩:=h1.update Zgj Tryz.underlying125 hn hkl (plainElem_int Tryz.underlying3 wv)
 refine ⟨w',hrun,⟨_,hown,hD.put _ _,fun x' k' kl' hkl'=>?_⟩,hg⟩
 unfold putF
 by_cases he:kl' = kl
 ·subst he
  have:=Zgj.inj hkl' hkl
  obtain ⟨rfl,rfl⟩:=Zaes this
  rw [if_pos ⟨rfl,rfl⟩]
  exact ⟨by rw [has_put_same hD (Zgj.key hkl)];rfl,atKey_put_same hD (Zgj.key hkl) _ _⟩
 ·have hne:¬ (x' = x /\ k' = k):=fun ⟨h3,h4⟩=>by
   subst h3 h4
   rw [hkl] at hkl'
   exact he (Option.some.inj hkl').symm
  rw [if_neg hne]
  obtain ⟨g1,g2⟩:=h2 x' k' kl' hkl'
  exact ⟨by rw [has_put_other he];exact g1,by rw [atKey_put_other he];exact g2⟩
end Go.Proofs.YtendielanacflaaGreat

namespace Go.Proofs.YtendielanacflaaGreat.M04
def start (l:List Nat) (i:Nat):Nat:=acc l (l.getD i 0) i
def size (l:List Nat) (i:Nat):Nat:=2 ^ (20 - l.getD i 0)
theorem Zadj (l:List Nat) {n k n' k' j:Nat} (h:n < n' \/ n = n' /\ k <= k') (hp:pre l n k j):pre l n' k' j:=by
 unfold pre at *;omega
theorem Zaay (l:List Nat) {n k n' k':Nat} (h:n < n' \/ n = n' /\ k <= k'):acc l n k <= acc l n' k':=S_le fun j _=>by
 by_cases hp:pre l n k j
 ·rw [if_pos hp,if_pos (Zadj l h hp)];exact Nat.le_refl _
 ·rw [if_neg hp];exact Nat.zero_le _
theorem Zpi (l:List Nat) (i:Nat) (hi:i < l.length) (h0:l.getD i 0 ≠ 0):acc l (l.getD i 0) (i + 1) = start l i + size l i :=
 Zwe l _ i h0 hi (by simp [hi])
theorem Zady (l:List Nat) (i:Nat) (hi:i < l.length) (h0:l.getD i 0 ≠ 0):start l i + size l i <= weight l:=by
 rw [<- Zpi l i hi h0];exact Zaeu _ _ _
theorem Zho (l:List Nat) (i k:Nat) (hi:i < l.length) (h0:l.getD i 0 ≠ 0) (h:l.getD i 0 < l.getD k 0 \/ l.getD i 0 = l.getD k 0 /\ i < k):start l i + size l i <= start l k:=by
 rw [<- Zpi l i hi h0];exact Zaay l (by omega)
theorem Zih (l:List Nat) (i:Nat):0 < size l i:=Nat.pow_pos (by decide)
theorem Zgy (l:List Nat) (i:Nat) (h0:l.getD i 0 ≠ 0):start l i = word l i * size l i:=by
 rw [word,if_neg h0]
 exact (Nat.div_mul_cancel (Zafp l _ i)).symm
theorem Zaif (q s m:Nat) (hm:0 < m):q / m = s ↔ s * m <= q /\ q < s * m + m:=by
 rw [Nat.div_eq_iff hm]
 constructor
 ·intro h;constructor <;> omega
 ·intro h;constructor <;> omega
def hit (l:List Nat) (row i:Nat):Prop:=l.getD i 0 ≠ 0 /\ row / size l i = word l i
instance (l:List Nat) (row i:Nat):Decidable (hit l row i):=by unfold hit;infer_instance
theorem apart (l:List Nat) (i k:Nat) (hi:i < l.length) (hk:k < l.length) (h0:l.getD i 0 ≠ 0) (h1:l.getD k 0 ≠ 0) (hne:i ≠ k):start l i + size l i <= start l k \/ start l k + size l k <= start l i:=by
 by_cases h:l.getD i 0 < l.getD k 0 \/ l.getD i 0 = l.getD k 0 /\ i < k
 ·exact .inl (Zho l i k hi h0 h)
 ·exact .inr (Zho l k i hk h1 (by omega))
theorem Zfa (l:List Nat) (i:Nat) (hi:i < l.length) (h20:∀ x ∈ l,x <= 20) (hw:weight l <= 2 ^ 20):word l i / 2 ^ l.getD i 0 = 0:=by
 by_cases h0:l.getD i 0 = 0
 ·rw [word,if_pos h0];exact Nat.zero_div _
 ·have h1:=Zady l i hi h0
  have h2:=Zgy l i h0
  have h3:=Zih l i
  have h4:=Zat h20 i
  have h5:size l i * 2 ^ l.getD i 0 = 2 ^ 20:=by unfold size;rw [<- Nat.pow_add];congr 1;omega
  refine Nat.div_eq_of_lt ?_
  rw [h2] at h1
  have h6:word l i * size l i < 2 ^ l.getD i 0 * size l i:=by rw [Nat.mul_comm (2 ^ _),h5];omega
  exact Nat.lt_of_mul_lt_mul_right h6
theorem Zll (l:List Nat) (i k:Nat) (hi:i < l.length) (hk:k < l.length) (h20:∀ x ∈ l,x <= 20) (h0:l.getD i 0 ≠ 0) (hne:k ≠ i) (hle:l.getD i 0 <= l.getD k 0):word l k / 2 ^ (l.getD k 0 - l.getD i 0) ≠ word l i:=by
 intro e
 have h1:l.getD k 0 ≠ 0:=by omega
 have h4:=Zat h20 k
 have hs:size l i = 2 ^ (l.getD k 0 - l.getD i 0) * size l k:=by unfold size;rw [<- Nat.pow_add];congr 1;omega
 have hk':start l k / size l i = word l k / 2 ^ (l.getD k 0 - l.getD i 0):=by
  rw [Zgy l k h1,hs,Nat.mul_comm (2 ^ _) (size l k),<- Nat.div_div_eq_div_mul,Nat.mul_div_cancel _ (Zih l k)]
 rw [e,Zaif _ _ _ (Zih l i),<- Zgy l i h0] at hk'
 have:=apart l i k hi hk h0 h1 (Ne.symm hne)
 have:=Zih l k
 omega
theorem Zbu (l:List Nat) (i:Nat) (hi:i < (words l).length):(words l)[i] = word l i:=by simp [words]
end Go.Proofs.YtendielanacflaaGreat.M04

namespace Go.Proofs.YtendielanacflaaGreat
open Go.RowKit Go.Shelf M04 M06
theorem RowN.keptR {k:IntKind} {w w':World} {a:Option Addr} {cap:Nat} {l:List Nat} {row:Option Nat} (h:RowN k w a cap l) (hg:w.grownBy w' row) (hr:∀ x,a = some x -> row ≠ some x.block):RowN k w' a cap l:=by
 obtain ⟨h1,h2,h3⟩:=h
 refine ⟨h1,h2,?_⟩
 rcases h3 with h3 | ⟨b,off,rfl,hb',hc⟩
 ·exact .inl h3
 ·exact .inr ⟨b,off,rfl,Nat.lt_of_lt_of_le hb' hg.size,fun i hi=>(World.cell?_of_block (a:=⟨b,off + i,none⟩) (hg.block b hb' (fun e=>hr _ rfl e.symm))).trans (hc i hi)⟩
theorem Zahr (l:List Nat) (i:Nat) (hi:i < l.length) (h20:∀ x ∈ l,x <= 20) (hw:weight l <= 2 ^ 20):word l i < 2 ^ 20:=by
 have h:=Zfa l i hi h20 hw
 have h2:word l i < 2 ^ l.getD i 0:=by
  rcases Nat.lt_or_ge (word l i) (2 ^ l.getD i 0) with h3 | h3
  ·exact h3
  ·have:=Nat.div_pos h3 (Nat.pow_pos (by decide))
   omega
 exact Nat.lt_of_lt_of_le h2 (Nat.pow_le_pow_right (by decide) (Zat h20 i))
theorem Zpw (j m:Nat) (h:j < m) (hm:m <= 20):min (IntKind.u8.wrap (m - j:Int)).toNat 32 = m - j:=by
 have h2:IntKind.u8.wrap (m - j:Int) = ((m - j:Nat):Int):=by
  unfold IntKind.wrap IntKind.signed IntKind.bits
  simp only [Bool.false_and]
  rw [if_neg (by decide)]
  omega
 rw [h2]
 omega
theorem Zkm {w w':World} {row:Option Nat} (h:w.grownBy w' row):w.grownBy w'.drew row:=⟨h.os,h.tape,h.output,h.size,h.block⟩
theorem cells3' {w:World} {b:Nat} {x y z:Value} {t:TypeId} (h:w.heap[b]? = some (.cells #[x,y,z] t (0,0))):w.cell? ⟨b,2,none⟩ = some z:=by
 simp [World.cell?,h]
theorem Zjy {ops:Array Oper} {rest:List Oper} {o:Oper} {ac:Act} {w:World} {Q:Exit -> Act -> World -> Prop} {b n X k:Nat} {F:TF} {v:Int} (hgd:o.guard = none) (mo xo vo:Operand) (hop:o.op = Op.mapUpdate 125 mo xo vo)
  (hm:ac.eval mo = .map (some b)) (hx:ac.eval xo = wordV X k) (hv:ac.eval vo = .int .i64 v) (h:MapF w b n F) (hn:n < 1000000) (hX:X < 4294967296) (hk:k < 256) (hb:-1000000 <= v /\ v <= 1000000)
  (hK:∀ w',MapF w' b (n + 1) (putF F X k v) -> w.grownBy w' (some b) -> wpList Tryz.prog ops Q rest (ac.put o.dst undef) w'):wpList Tryz.prog ops Q (o :: rest) ac w:=by
 refine wpList_plain hgd fun K hK'=>?_
 obtain ⟨w',hrun,h1,h2⟩:=h.put (by unfold maxLen;omega) X k v hX hk hb
 unfold Oper.wp
 simp [execOp,hop,hm,hx,hv,hrun,Result.andThen]
 exact hK' _ _ (hK w' h1 h2)
def Tb (lo hi:Nat) (w:World) (p:Nat) (l:List Nat):Prop :=
 ∃ a1 c1 a2 c2 mb n,w.heap[p]? = some (.cells #[.slice a1 l.length c1,.slice a2 l.length c2,.map (some mb)] 127 (0,0)) /\ RowN .u8 w a1 c1 l /\ RowN .u32 w a2 c2 (words l) /\ MapF w mb n (tabI l (words l) l.length) /\ hi <= w.heap.size ∧
  (lo <= p /\ p < hi) /\ (lo <= mb /\ mb < hi) /\ (∀ x,a1 = some x -> lo <= x.block /\ x.block < hi) /\ (∀ x,a2 = some x -> lo <= x.block /\ x.block < hi)
theorem MapF.same {w w':World} {b n:Nat} {F:Nat -> Nat -> Option Int} (h:MapF w b n F) (hs:w'.heap[b]? = w.heap[b]?):MapF w' b n F:=by
 obtain ⟨D,⟨es,clock,hb,h1⟩,h2⟩:=h
 exact ⟨D,⟨es,clock,hs.trans hb,h1⟩,h2⟩
theorem Tb.only {T:Nat -> Prop} {lo hi p:Nat} {w w':World} {l:List Nat} (h:Tb lo hi w p l) (ho:Only T w w') (hT:∀ b,lo <= b -> b < hi -> ¬ T b):Tb lo hi w' p l:=by
 obtain ⟨a1,c1,a2,c2,mb,n,h1,h2,h3,h4,hs,hp,hm,h5,h6⟩:=h
 refine ⟨a1,c1,a2,c2,mb,n,Zah h1 ho (hT p hp.1 hp.2),?_,?_,h4.same (ho.block mb (by omega) (hT mb hm.1 hm.2)),Nat.le_trans hs ho.size,hp,hm,h5,h6⟩
 ·exact h2.same ho.size (fun x h0 hx=>ho.block _ (by have:=(h5 x hx).2;omega) (hT _ (h5 x hx).1 (h5 x hx).2))
 ·exact h3.same ho.size (fun x h0 hx=>ho.block _ (by have:=(h6 x hx).2;omega) (hT _ (h6 x hx).1 (h6 x hx).2))
set_option maxRecDepth 100000 in
set_option maxHeartbeats 1600000 in
theorem Zcd (a:Option Addr) (cap:Nat) (l:List Nat) (w:World) (hr:RowN .u8 w a cap l) :
  Calls Tryz.prog 41 #[.slice a l.length cap] w fun e w'=>Below w.heap.size w w' /\ if (wordsE l).2 = 0 then ∃ p,e = .returned (.tuple #[.pointer (some ⟨p,0,none⟩),.int .i64 0]) /\ Tb w.heap.size w'.heap.size w' p l else e = .returned (.tuple #[.pointer none,.int .i64 (wordsE l).2]):=by
 by_cases hm:May l /\ weight l <= 2 ^ 20
 case neg =>
  have he:(wordsE l).2 = 5 \/ (wordsE l).2 = 2:=by
   unfold wordsE
   by_cases h1:May l
   ·rw [if_neg (by simpa using h1),if_pos (by rw [not_and] at hm;have:=hm h1;omega)];exact .inr rfl
   ·rw [if_pos h1];exact .inl rfl
  have HE:=Zh he
  have H0:Hid ((wordsE l).2 ≠ 0):=by unfold Hid;omega
  have HW:=Zh (Ziy a cap l w hr)
  clear hm he
  generalize hwe:wordsE l = we at *
  obtain ⟨w1l,er⟩:=we
  have HWE:=Zh hwe
  clear hwe
  have hb:(er == 0) = false:=by have:=H0.out;simpa using this
  go_enter Tryz.func41,Tryz.ntmps41
  go_wp2_with fail
  refine HW.out.mono ?_
  rintro e w1 ⟨a1,c1,rfl,_,hb1⟩
  rw [HWE.out]
  rcases HE.out with h5 | h5
  ·obtain rfl:er = 5:=h5
   go_wp2
   go_ret2
   exact ⟨hb1,rfl⟩
  ·obtain rfl:er = 2:=h5
   go_wp2
   go_ret2
   exact ⟨hb1,rfl⟩
 obtain ⟨hmay,hwt⟩:=hm
 have hwe:wordsE l = (words l,0):=by
  unfold wordsE
  rw [if_neg (by simpa using hmay),if_neg (by omega)]
 have h512:=hmay.2
 have H20:=Zh hmay.1
 have HWT:=Zh hwt
 have HW:=Zh (Ziy a cap l w hr)
 unfold WordsOut at HW
 rw [hwe,Zbc] at HW
 rw [hwe]
 simp only [if_true]
 clear hwe hmay hwt
 go_enter Tryz.func41,Tryz.ntmps41
 go_wp2_with fail
 refine HW.out.mono ?_
 rintro e w1 ⟨a1,c1,rfl,ho1,hb1⟩
 clear HW
 have HO1:=Zh ho1
 have HB1:=Zh hb1
 clear ho1 hb1
 go_wp2_with fail
 refine (Zer w1 a cap l (hr.below HB1.out) (by omega)).mono ?_
 rintro e w2 ⟨a2,c2,rfl,ho2,hb2⟩
 have HO2:=Zh ho2
 have HB2:=Zh (HB1.out.trans (hb2.mono HB1.out.size))
 have HOW:=Zh (HO1.out.below hb2)
 clear ho2 hb2 HO1
 have hmm:=@run_makeMap Tryz.prog
 go_wp2_with fail
 obtain ⟨W0,hW0⟩:∃ W0,(w2.alloc (.map #[] 0)).alloc (.cells #[.slice a2 l.length c2,.slice a1 l.length c1,.map (some w2.heap.size)] 127) = W0:=⟨_,rfl⟩
 have hz0:W0.heap.size = w2.heap.size + 2:=by rw [<- hW0];simp
 have hp0:W0.heap[w2.heap.size + 1]? = some (.cells #[.slice a2 l.length c2,.slice a1 l.length c1,.map (some w2.heap.size)] 127 (0,0)):=by
  rw [<- hW0];have:=World.alloc_heap_new (w2.alloc (.map #[] 0)) (.cells #[.slice a2 l.length c2,.slice a1 l.length c1,.map (some w2.heap.size)] 127);rwa [World.size_alloc] at this
 have hb0:Below w2.heap.size w2 W0:=by rw [<- hW0];exact ((Below.refl _ _).alloc (Nat.le_refl _) _).alloc (by simp) _
 have hM0:MapF W0 w2.heap.size 0 (fun _ _=>none):=by rw [<- hW0];exact (Zyi w2).kept (World.grownBy_alloc _ _ none) (by simp)
 simp only [hW0]
 have hO0:=HOW.out.below hb0
 have hL0:=HO2.out.below hb0
 have hB0:Below w.heap.size w W0:=HB2.out.trans (hb0.mono HB2.out.size)
 have hr0:=hr.below hB0
 have hsz:=HB2.out.size
 have hne:∀ {base cap:Nat} {a:Option Addr} {k:IntKind} {E:TypeId} {L:List Nat},OwnN E k w2 base a cap L -> ∀ x,a = some x -> base <= x.block /\ x.block < w2.heap.size:=by
  intro base cap a k E L h x hx
  rcases h.form with ⟨h1,_⟩ | ⟨g,h1,hb,h2⟩
  ·rw [h1] at hx;cases hx
  ·rw [h1] at hx;cases hx;exact ⟨hb,h2⟩
 have hnw:∀ x,a1 = some x -> w.heap.size <= x.block /\ x.block < w2.heap.size:=hne HOW.out
 have hnl:∀ x,a2 = some x -> w.heap.size <= x.block /\ x.block < w2.heap.size:=fun x hx=>⟨Nat.le_trans HB1.out.size (hne HO2.out x hx).1,(hne HO2.out x hx).2⟩
 have hna:∀ x,0 < l.length -> a = some x -> x.block < w.heap.size:=fun x h0 hx=>by
  obtain ⟨b',off,he,hlt,_⟩:=hr.at h0
  rw [hx] at he;cases he;exact hlt
 have HNW:=Zh hnw
 have HNL:=Zh hnl
 have HNA:=Zh hna
 have HP0:=Zh hp0
 have HB0:=Zh hB0
 have HR0:=Zh hr0
 have HRW:=Zh hO0.row
 have HRL:=Zh hL0.row
 have HM0:=Zh hM0
 generalize hmbd:w2.heap.size = mb at *
 clear hW0 hp0 hb0 hM0 hO0 hL0 hB0 hr0 hne hnw hnl hna HO2 HOW hmm HB2
 go_loopw [7,8,9,26,45] (fun _ _ _ i _ A=>∃ k:Nat,k <= l.length /\ i = .int .i64 k /\ W0.grownBy A (some mb) /\ ∃ n,n <= k * 32 /\ MapF A mb n (tabI l (words l) k)) (fun _ _ _ i _ _=>l.length - (intOf i).toNat)
 case atStart=>exact ⟨0,by omega,rfl,⟨rfl,rfl,rfl,Nat.le_refl _,fun _ _ _=>rfl⟩,0,by omega,HM0.out⟩
 case round =>
  obtain ⟨k,hk,rfl,hg,n,hn,hM⟩:=hrel
  have HG:=Zh hg
  have HM:=Zh hM
  clear hg hM
  by_cases hlt:k < l.length
  ·obtain ⟨b,off,rfl,hb,hck⟩:=HR0.out.at hlt
   have hbw:b < w.heap.size:=HNA.out _ (by omega) rfl
   have hck':wr.cell? ⟨b,off + k,none⟩ = some (.int .u8 (l[k]:Nat)):=(World.cell?_of_block (a:=⟨b,off + k,none⟩) (HG.out.block b hb (by intro e;cases e;omega))).trans hck
   have hx20:=H20.out _ (List.getElem_mem hlt)
   have hgl:l.getD k 0 = l[k]:=by simp [hlt]
   have HI:=Zh (show tabI l (words l) (k + 1) = if l.getD k 0 = 0 then tabI l (words l) k else tabK ((words l).getD k 0) (l.getD k 0) (putF (tabI l (words l) k) ((words l).getD k 0) (l.getD k 0) k) (l.getD k 0) from rfl)
   by_cases hx0:l[k] = 0
   ·have HI0:Hid (tabI l (words l) (k + 1) = tabI l (words l) k):=by rw [Hid,HI.out,if_pos (by rw [hgl];exact hx0)]
    rw [hx0] at hck'
    clear hck hx0 hgl hx20 HI
    go_wp2
    go_roundw
    case rel=>exact ⟨k + 1,by omega,by go_num,HG.out,n,by omega,by rw [HI0.out];exact HM.out⟩
    case measure=>simp [intOf];omega
   ·have hwl:=Zahr l k hlt H20.out HWT.out
    have hgw:(words l).getD k 0 = word l k:=by simp [words,hlt]
    have HI1:Hid (tabI l (words l) (k + 1) = tabK (word l k) l[k] (putF (tabI l (words l) k) (word l k) l[k] k) l[k]):=by rw [Hid,HI.out,if_neg (by rw [hgl];exact hx0),hgw,hgl]
    obtain ⟨bw,ow,rfl,hbw2,hcw⟩:=HRW.out.at (i:=k) (by rw [Zbc];exact hlt)
    rw [Zbu] at hcw
    have hbwl:bw < mb:=(HNW.out _ rfl).2
    have HCW:=Zh hcw
    have hcw':wr.cell? ⟨bw,ow + k,none⟩ = some (.int .u32 (word l k:Nat)):=(World.cell?_of_block (a:=⟨bw,ow + k,none⟩) (HG.out.block bw hbw2 (by intro e;cases e;omega))).trans hcw
    have hpt:wr.cell? ⟨mb + 1,2,none⟩ = some (.map (some mb)):=by
     have:=(HG.out.block (mb + 1) (by omega) (by intro e;cases e)).trans HP0.out
     exact (cells3' this)
    have b0:((l[k]:Int) == 0) = false:=by simp;omega
    clear hck hcw hx0 hgl HI hgw
    generalize word l k = x at *
    generalize l[k] = m at *
    go_wp2_with fail
    go_still_tail 11,(by kernel_rfl)
    change wpList _ _ _ _ _ wr.drew
    refine Zjy (b:=mb) (n:=n) (X:=x) (k:=m) (v:=(k:Int)) (F:=tabI l (words l) k) rfl (.tmp 36) (.tmp 42) (.tmp 43) rfl rfl rfl rfl HM.out (by omega) (Nat.lt_trans hwl (by decide)) (by omega) (by omega) ?_
    intro w5 hM5 hg5
    have HG5:=Zh (show W0.grownBy w5 (some mb) from (Zkm HG.out).trans hg5)
    have HM5:=Zh hM5
    clear hM5 hg5 HG HM hcw' hpt hck'
    generalize putF (tabI l (words l) k) x m k = F0 at *
    go_wp2_with fail
    go_loopw [9,45] (fun _ i A=>∃ j:Nat,j <= m /\ i = .int .u8 j /\ W0.grownBy A (some mb) /\ MapF A mb (n + 1 + j) (tabK x m F0 j)) (fun _ i _=>m - (intOf i).toNat)
    case atStart=>exact ⟨0,by omega,rfl,HG5.out,HM5.out⟩
    case round =>
     clear HG5 HM5
     obtain ⟨j,hj,rfl,hg,hM⟩:=hrel
     have HG:=Zh hg
     have HM:=Zh hM
     clear hg hM
     by_cases hjl:j < m
     ·have hcw':wr.cell? ⟨bw,ow + k,none⟩ = some (.int .u32 (x:Nat)):=(World.cell?_of_block (a:=⟨bw,ow + k,none⟩) (HG.out.block bw hbw2 (by intro e;cases e;omega))).trans HCW.out
      have hpt:wr.cell? ⟨mb + 1,2,none⟩ = some (.map (some mb)):=by
       have:=(HG.out.block (mb + 1) (by omega) (by intro e;cases e)).trans HP0.out
       exact (cells3' this)
      go_wp2_with fail
      go_still_tail 14,(by kernel_rfl)
      change wpList _ _ _ _ _ wr.drew
      refine Zjy (b:=mb) (n:=n + 1 + j) (X:=x / 2 ^ (m - j)) (k:=j) (v:=-1) (F:=tabK x m F0 j) rfl (.tmp 51) (.tmp 61) (.const (.int .i64 (-1))) rfl rfl ?hx rfl HM.out (by omega) (Nat.lt_of_le_of_lt (Nat.div_le_self _ _) (Nat.lt_trans hwl (by decide))) (by omega) (by omega) ?_
      case hx =>
       show _ = wordV _ _
       unfold wordV
       refine congrArg (fun z=>Value.agg #[z,_]) ?_
       rw [Zpw j m hjl hx20]
       exact congrArg (Value.int IntKind.u32) (by rw [Int.natCast_ediv,Int.natCast_pow];rfl)
      intro w6 hM6 hg6
      have HG6:=Zh (show W0.grownBy w6 (some mb) from (Zkm HG.out).trans hg6)
      have HM6:=Zh hM6
      clear hM6 hg6 HG HM hcw' hpt
      go_wp2
      go_roundw
      case rel=>exact ⟨j + 1,by omega,by go_num,HG6.out,HM6.out⟩
      case measure=>simp [intOf];omega
     ·obtain rfl:j = m:=by omega
      go_wp2
      go_roundw
      case rel=>exact ⟨k + 1,by omega,by go_num,HG.out,n + 1 + j,by omega,by rw [HI1.out];exact HM.out⟩
      case measure=>simp [intOf];omega
  ·obtain rfl:k = l.length:=by omega
   go_wp2
   go_ret2
   have hwz:=HG.out.size
   refine ⟨HB0.out.trans (Below.of_grown HG.out HB0.out.size (by intro x hx;cases hx;exact hsz)),mb + 1,rfl,⟨a2,c2,a1,c1,mb,n,?_,?_,?_,HM.out,Nat.le_refl _,⟨by omega,by omega⟩,⟨hsz,by omega⟩,?_,?_⟩⟩
   ·exact (HG.out.block (mb + 1) (by omega) (by intro e;cases e)).trans HP0.out
   ·exact HRL.out.keptR HG.out (fun y hy e=>by cases e;have:=HNL.out _ hy;omega)
   ·exact HRW.out.keptR HG.out (fun y hy e=>by cases e;have:=HNW.out _ hy;omega)
   ·exact fun y hy=>by have:=HNL.out _ hy;omega
   ·exact fun y hy=>by have:=HNW.out _ hy;omega
end Go.Proofs.YtendielanacflaaGreat

namespace Go.Proofs.YtendielanacflaaGreat
open Go.RowKit Go.Shelf M01 M04 M08
theorem Zck {w:World} {b:Nat} {x y:Value} {t:TypeId} (h:w.heap[b]? = some (.cells #[x,y] t (0,0))):w.cell? ⟨b,0,none⟩ = some x /\ w.cell? ⟨b,1,none⟩ = some y :=
 ⟨(Zae h).1,(Zae h).2.1⟩
theorem Rd.lt {w:World} {p at_:Nat} {bs:List Nat} (h:Rd w p bs at_):p < w.heap.size:=by
 obtain ⟨a,cap,h1,h2,h3⟩:=h
 exact (Array.getElem?_eq_some_iff.1 h1).1
theorem Zbe {fn:Func} {t u v:Tmp} (h:fn.results = #[.tmp t,.tmp u,.tmp v]) (tmps:Array Value) (P:Program) (w:World) :
  (results fn tmps).run P w = .ok (.tuple #[tmps.getD t undef,tmps.getD u undef,tmps.getD v undef]) w:=by
 simp [results,h,go_sem]
theorem Zav (w:World) (o:Obj):Below w.heap.size w (w.alloc o):=(Below.refl _ _).alloc (Nat.le_refl _) _
theorem Zbo (w:World) (u v:Value) (t:TypeId):(w.alloc (.cells #[u,v] t)).cell? ⟨w.heap.size,0,none⟩ = some u /\ (w.alloc (.cells #[u,v] t)).cell? ⟨w.heap.size,1,none⟩ = some v:=by
 have h:=World.alloc_heap_new w (.cells #[u,v] t)
 exact ⟨(Zae h).1,(Zae h).2.1⟩
def loS (s:Int):Nat × Nat × Nat:=if 257 <= s /\ s <= 285 then (lensL.getD (s.toNat - 257) 0,lbits s.toNat,0) else (0,0,5)
def doS (s:Int):Nat × Nat × Nat:=if 0 <= s /\ s < 30 then (distL.getD s.toNat 0,dbits s.toNat,0) else (0,0,5)
theorem Zak (T:Nat -> Prop) (w:World) (q:Nat):Only T w (w.drewN q):=⟨rfl,rfl,rfl,Nat.le_refl _,fun _ _ _=>rfl⟩
def formP:List PanicEntry:=[{ v:=.iface 25 (.int .i64 2),recovered:=false }]
theorem app1AtN {P:Program} {T E:TypeId} {k:IntKind} {bytes:Nat} (et:ElemTy P T E k bytes) {w:World} {ops:Array Oper} {rest:List Oper} {o:Oper} {ac:Act} {Q:Exit -> Act -> World -> Prop} (hgd:o.guard = none) (s x:Operand)
  (ho:o.op = .call { callee:=.builtin .append,args:=#[s,x],argTypes:=#[T,T] }) {base:Nat} {a:Option Addr} {cap:Nat} {l:List Nat} {y:Nat} {c E':Nat}
  (hs:ac.eval s = .slice a l.length cap) (hown:OwnN E k w base a cap l) (hx:ac.eval x = .slice (some ⟨w.heap.size,0,none⟩) 1 c) (hc:1 <= c) (hc':c <= 9223372036854775807)
  (hn:l.length + 1 <= 9223372036854775807) (hbytes:(l.length + 1) * bytes <= 140737488355328) (hbase:base <= w.heap.size)
  (h:∀ a' cap' w',OwnN E k w' base a' cap' (l ++ [y]) -> w.grownBy w' (Value.slice a l.length cap).ownBlock -> (∀ g,a' = some ⟨g,0,none⟩ -> a = some ⟨g,0,none⟩ \/ w.heap.size <= g) -> wpList P ops Q rest (ac.put o.dst (.slice a' (l.length + 1) cap')) w') :
  wpList P ops Q (o :: rest) ac (w.alloc (.cells #[.int k y] E')):=by
 obtain ⟨i,h2,h3,h4,h5⟩:=info_parts et.info
 refine wpList_plain hgd fun K hK'=>?_
 have hy:RowN k (w.alloc (.cells #[.int k y] E')) (some ⟨w.heap.size,0,none⟩) c [y]:=by
  refine ⟨by simpa using hc,⟨hc',fun hn=>by cases hn⟩,.inr ⟨w.heap.size,0,rfl,by simp,fun i hi=>?_⟩⟩
  obtain rfl:i = 0:=by simp at hi;omega
  simp [World.cell?_alloc_at]
 obtain ⟨v',w',hr,h6,h7,h8,h9⟩:=run_append_own_at (P:=P) (w.alloc (.cells #[.int k y] E')) base T o.type E i (.int k 0) 1 bytes et.und h2 h3 h4 h5 rfl (by decide) _ l.length _ (hown.alloc (.cells #[.int k y] E')) ⟨w.heap.size,0,none⟩ 1 c ([y].map fun (n:Nat)=>Value.int k n) (by simp)
  (Zbr hy _ rfl) (by intro u hu;simp only [List.mem_map] at hu;obtain ⟨n,_,rfl⟩:=hu;rfl) (by simpa [maxLen] using hn) hbytes (by simp;omega)
 have hv:∃ a' cap',v' = .slice a' (l.length + 1) cap':=by
  rcases h6.2 with ⟨h9,h10⟩ | ⟨g,c',cur,h9,_⟩
  ·exact ⟨none,0,by rw [h9,h10]⟩
  ·exact ⟨_,_,h9⟩
 obtain ⟨a',cap',rfl⟩:=hv
 have hown':OwnN E k w' base a' cap' (l ++ [y]):=by
  unfold OwnN;rw [List.length_append,List.map_append];exact h6
 unfold Oper.wp
 simp [execOp,ho,resolve,invoke,builtin,hs,hx,hr,Result.andThen]
 refine hK' _ _ (h a' cap' w' hown' ⟨h7.os,h7.tape,h7.output,Nat.le_trans (by simp) h7.size,fun q hq hr=>(h7.block q (by simp;omega) hr).trans (Below.heap_alloc _ _ _ hq)⟩ ?_)
 rintro g rfl
 rcases h9 with h9 | h9
 ·left
  rcases hown.form with ⟨rfl,_,_⟩ | ⟨g',rfl,_⟩
  ·simp [Value.ownBlock] at h9
  ·simp [Value.ownBlock] at h9
   rw [h9]
 ·right
  simp [Value.ownBlock] at h9
  omega
theorem Rd.only {T:Nat -> Prop} {w w':World} {p at_:Nat} {bs:List Nat} (h:Rd w p bs at_) (ho:Only T w w') (hT:∀ b,b <= p -> ¬ T b):Rd w' p bs at_:=by
 have hlt:=h.lt
 obtain ⟨a,cap,h1,h2,h3,h4,h5,h6⟩:=h
 exact ⟨a,cap,(ho.block p hlt (hT p (Nat.le_refl _))).trans h1,h2.same ho.size (fun x _ hx=>ho.block _ (by have:=h6 x hx;omega) (hT _ (by have:=h6 x hx;omega))),h3,h4,h5,h6⟩
theorem Zba {w:World} {b:Nat} {x y z u:Value} {t:TypeId} (h:w.heap[b]? = some (.cells #[x,y,z,u] t (0,0))):w.cell? ⟨b,0,none⟩ = some x /\ w.cell? ⟨b,1,none⟩ = some y /\ w.cell? ⟨b,2,none⟩ = some z /\ w.cell? ⟨b,3,none⟩ = some u /\ w.frozen? ⟨b,1,none⟩ = false /\ w.frozen? ⟨b,3,none⟩ = false:=by
 simp [World.cell?,World.frozen?,h]
theorem Zly {w:World} {b:Nat} {x y z u v:Value} {t:TypeId} (h:w.heap[b]? = some (.cells #[x,y,z,u] t (0,0))) :
  (w.setCell ⟨b,1,none⟩ v).heap[b]? = some (.cells #[x,v,z,u] t (0,0)) /\ (w.setCell ⟨b,3,none⟩ v).heap[b]? = some (.cells #[x,y,z,v] t (0,0)):=by
 constructor
 ·show (w.heap.modify b _)[b]? = _
  rw [Array.getElem?_modify,if_pos rfl,h];rfl
 ·show (w.heap.modify b _)[b]? = _
  rw [Array.getElem?_modify,if_pos rfl,h];rfl
theorem Zot {E:TypeId} {k:IntKind} {w:World} {base cap n sp:Nat} {a:Option Addr} {l:List Nat} (h:OwnN E k w base a cap l) (h7:∀ g,a = some ⟨g,0,none⟩ -> sp < g) (b:Nat) (hb:b <= sp):some b ≠ (Value.slice a n cap).ownBlock:=by
 rcases h.form with ⟨rfl,_,_⟩ | ⟨g,rfl,_⟩
 ·simp [Value.ownBlock]
 ·have:=h7 g rfl
  simp [Value.ownBlock]
  omega
theorem Zis {w:World} {b:Nat} {x y z u:Value} {t:TypeId} (h:w.heap[b]? = some (.cells #[x,y,z,u] t (0,0))):w.frozen? ⟨b,0,none⟩ = false /\ w.frozen? ⟨b,1,none⟩ = false /\ w.frozen? ⟨b,2,none⟩ = false /\ w.frozen? ⟨b,3,none⟩ = false:=by
 simp [World.frozen?,h]
theorem Zva {w:World} {b:Nat} {u:Value} {t:TypeId} (h:w.heap[b]? = some (.cells #[u] t (0,0))):w.frozen? ⟨b,0,none⟩ = false:=by simp [World.frozen?,h]
theorem Zaet (n:Nat) (h:n < 65536):bits .xor .i64 (n:Int) 65535 = ((65535 - n:Nat):Int):=by
 have h1:(BitVec.ofInt 64 (n:Int)).toNat = n:=by
  rw [BitVec.ofInt_natCast,BitVec.toNat_ofNat];exact Nat.mod_eq_of_lt (by omega)
 have h2:(BitVec.ofInt 64 (65535:Int)).toNat = 65535:=by decide
 have h3:n ^^^ 65535 = 65535 - n:=by
  have e:(BitVec.ofNat 16 n ^^^ BitVec.allOnes 16).toNat = 65535 - n:=by
   rw [BitVec.xor_allOnes,BitVec.toNat_not,BitVec.toNat_ofNat,Nat.mod_eq_of_lt (by omega:n < 2 ^ 16)]
  rw [BitVec.toNat_xor,BitVec.toNat_ofNat,BitVec.toNat_allOnes,Nat.mod_eq_of_lt (by omega:n < 2 ^ 16)] at e
  exact e
 show IntKind.i64.wrap ((BitVec.ofInt 64 (n:Int) ^^^ BitVec.ofInt 64 (65535:Int)).toNat:Int) = _
 rw [BitVec.toNat_xor,h1,h2,h3,IntKind.wrap_i64]
 omega
theorem Zgc {k:IntKind} {w:World} {a:Option Addr} {cap:Nat} {l:List Nat} (h:RowN k w a cap l) (n:Nat):RowN k w a cap (l.take n):=by
 obtain ⟨h1,h2,h3⟩:=h
 refine ⟨by simp;omega,h2,?_⟩
 rcases h3 with rfl | ⟨b,off,rfl,hb,hc⟩
 ·exact .inl (by simp)
 ·refine .inr ⟨b,off,rfl,hb,fun i hi=>?_⟩
  have hi2:i < l.length:=by simp at hi;omega
  rw [hc i hi2]
  simp
theorem Zzf {k:IntKind} {w:World} {b off cap:Nat} {l:List Nat} (h:RowN k w (some ⟨b,off,none⟩) cap l) (n:Nat) (hn:n < l.length):RowN k w (some ⟨b,off + n,none⟩) (cap - n) (l.drop n):=by
 obtain ⟨h1,h2,h3⟩:=h
 refine ⟨by simp;omega,⟨by omega,fun e=>by cases e⟩,?_⟩
 rcases h3 with rfl | ⟨b',off',he,hb,hc⟩
 ·simp at hn
 ·simp only [Option.some.injEq,Addr.mk.injEq,and_true] at he
  obtain ⟨rfl,rfl⟩:=he
  refine .inr ⟨b,off + n,rfl,hb,fun i hi=>?_⟩
  have hi2:n + i < l.length:=by simp at hi;omega
  rw [Nat.add_assoc,hc _ hi2]
  simp
theorem Only.ofBelow {T:Nat -> Prop} {w w':World} (h:Below w.heap.size w w'):Only T w w':=⟨h.os,h.tape,h.output,h.size,fun b hb _=>h.block b hb⟩
def Sub (P:Nat -> Prop) (lo hi:Nat) (b:Nat):Prop:=P b /\ ¬ (lo <= b /\ b < hi)
theorem Only.widen {P:Nat -> Prop} {lo hi:Nat} {w w':World} (h:Only (Sub P lo hi) w w'):Only P w w':=h.mono (fun k _ hk=>hk.1)
theorem Tb.widen {lo hi lo' hi' p:Nat} {w:World} {l:List Nat} (h:Tb lo hi w p l) (h1:lo' <= lo) (h2:hi <= hi') (h3:hi' <= w.heap.size):Tb lo' hi' w p l:=by
 obtain ⟨a1,c1,a2,c2,mb,n,g1,g2,g3,g4,g5,g6,g7,g8,g9⟩:=h
 exact ⟨a1,c1,a2,c2,mb,n,g1,g2,g3,g4,h3,by omega,by omega,fun x hx=>by have:=g8 x hx;omega,fun x hx=>by have:=g9 x hx;omega⟩
theorem Tb.below {lo hi p:Nat} {w w':World} {l:List Nat} (h:Tb lo hi w p l) (hb:Below w.heap.size w w'):Tb lo hi w' p l :=
 h.only (T:=fun _=>False) (.ofBelow hb) (fun _ _ _ h=>h)
theorem Zdv {l:List Nat} (h:(wordsE l).2 = 0):May l /\ weight l <= 2 ^ 20:=by
 unfold wordsE at h
 split at h
 ·simp at h
 ·split at h
  ·simp at h
  ·next h1 h2=>exact ⟨by simpa using h1,by omega⟩
def rdAt (A:World) (rp:Nat):Nat:=match A.cell? ⟨rp,1,none⟩ with
 | some v=>(intOf v).toNat
 | none=>0
theorem Zep {A:World} {rp at_:Nat} {bs:List Nat} (h:Rd A rp bs at_):rdAt A rp = at_:=by
 obtain ⟨a,cap,h1,_⟩:=h
 unfold rdAt
 simp only [(Zck h1).2]
 simp [intOf]
theorem OwnN.lit {k:IntKind} (E:TypeId) (w:World) (base:Nat) (l:List Nat) (vs:Array Value) (B:Nat) (hB:B = w.heap.size) (hv:vs = (l.map fun (n:Nat)=>Value.int k n).toArray) (hb:base <= w.heap.size) (hl:l.length <= maxLen) :
  OwnN E k (w.alloc (.cells vs E)) base (some ⟨B,0,none⟩) l.length l:=by
 subst hB hv
 exact ⟨by simp,.inr ⟨w.heap.size,l.length,(l.map fun (n:Nat)=>Value.int k n).toArray,rfl,hb,World.alloc_heap_new w _,Nat.le_refl _,hl,by simp,by simp [List.take_of_length_le]⟩⟩
end Go.Proofs.YtendielanacflaaGreat

namespace Go.Proofs.YtendielanacflaaGreat.M01
abbrev Wst:=List Nat × Nat
def roomy (s:Wst):List Nat:=if s.2 % 8 = 0 then s.1 ++ [0] else s.1
def addBit (s:Wst) (b:Nat):Wst:=((roomy s).set (s.2 / 8) ((roomy s).getD (s.2 / 8) 0 ||| b * 2 ^ (s.2 % 8)),s.2 + 1)
def WOk (s:Wst):Prop:=s.1.length = (s.2 + 7) / 8 /\ ∀ x ∈ s.1,x < 256
theorem Zgb {s:Wst} (h:WOk s):(roomy s).length = s.2 / 8 + 1:=by
 obtain ⟨h1,_⟩:=h
 unfold roomy
 split
 ·simp;omega
 ·omega
theorem Zlb {s:Wst} (h:WOk s):∀ x ∈ roomy s,x < 256:=by
 intro x hx
 unfold roomy at hx
 split at hx
 ·rcases List.mem_append.1 hx with h1 | h1
  ·exact h.2 x h1
  ·simp at h1;omega
 ·exact h.2 x hx
theorem Zafd {s:Wst} (h:WOk s):(roomy s).getD (s.2 / 8) 0 < 256:=by
 have hl:=Zgb h
 simp only [List.getD,List.getElem?_eq_getElem (show s.2 / 8 < (roomy s).length by omega),Option.getD_some]
 exact Zlb h _ (List.getElem_mem _)
theorem Znj (b n:Nat) (hb:b < 2):b * 2 ^ (n % 8) < 256:=by
 have h1:2 ^ (n % 8) <= 2 ^ 7:=Nat.pow_le_pow_right (by decide) (by omega)
 have h2:b * 2 ^ (n % 8) <= 1 * 2 ^ (n % 8):=Nat.mul_le_mul_right _ (by omega)
 omega
theorem Zng {s:Wst} (h:WOk s) {b:Nat} (hb:b < 2):WOk (addBit s b):=by
 have hl:=Zgb h
 refine ⟨?_,fun x hx=>?_⟩
 ·unfold addBit
  simp only [List.length_set,hl]
  omega
 ·unfold addBit at hx
  rcases List.mem_or_eq_of_mem_set hx with h1 | rfl
  ·exact Zlb h x h1
  ·exact Nat.or_lt_two_pow (n:=8) (Zafd h) (Znj b s.2 hb)
def addNum (s:Wst) (v:Nat):Nat -> Wst
 | 0=>s
 | n + 1=>addBit (addNum s v n) (v / 2 ^ n % 2)
theorem Zij {s:Wst} (h:WOk s) (v n:Nat):WOk (addNum s v n):=by
 induction n with
 | zero=>exact h
 | succ n ih=>exact Zng ih (Nat.mod_lt _ (by decide))
theorem Zac (s:Wst) (v n:Nat):(addNum s v n).2 = s.2 + n:=by
 induction n with
 | zero=>rfl
 | succ n ih=>show (addNum s v n).2 + 1 = _;omega
end Go.Proofs.YtendielanacflaaGreat.M01
namespace Go.Proofs.YtendielanacflaaGreat
open Go.RowKit Go.Shelf M01
def Wr0 (P:Nat -> Prop) (w:World) (p:Nat) (l:List Nat) (n:Nat):Prop :=
 ∃ a c,w.heap[p]? = some (.cells #[.slice a l.length c,.int .i64 (n:Nat)] 42 (0,0)) /\ OwnN 5 .u8 w 0 a c l /\ P p /\ (∀ g,a = some ⟨g,0,none⟩ -> P g /\ p < g) /\ (∀ b,w.heap.size <= b -> P b)
def Wr (P:Nat -> Prop) (w:World) (p:Nat) (s:Wst):Prop:=Wr0 P w p s.1 s.2 /\ WOk s /\ s.2 <= 100000000
theorem Wr0.lt {P:Nat -> Prop} {w:World} {p n:Nat} {l:List Nat} (h:Wr0 P w p l n):p < w.heap.size:=by
 obtain ⟨a,c,h1,_⟩:=h
 exact (Array.getElem?_eq_some_iff.1 h1).1
theorem Wr0.grow {P:Nat -> Prop} {w w2:World} {p n:Nat} {l:List Nat} {a a':Option Addr} {c c' y:Nat}
  (h1:w.heap[p]? = some (.cells #[.slice a l.length c,.int .i64 (n:Nat)] 42 (0,0))) (h2:OwnN 5 .u8 w 0 a c l) (h3:P p) (h4:∀ g,a = some ⟨g,0,none⟩ -> P g /\ p < g) (h5:∀ b,w.heap.size <= b -> P b)
  (hown:OwnN 5 .u8 w2 0 a' c' (l ++ [y])) (hg:w.grownBy w2 (Value.slice a l.length c).ownBlock) (hnew:∀ g,a' = some ⟨g,0,none⟩ -> a = some ⟨g,0,none⟩ \/ w.heap.size <= g) :
  Only P w (w2.setCell ⟨p,0,none⟩ (.slice a' (l.length + 1) c')) /\ Wr0 P (w2.setCell ⟨p,0,none⟩ (.slice a' (l.length + 1) c')) p (l ++ [y]) n:=by
 have hlt:p < w.heap.size:=(Array.getElem?_eq_some_iff.1 h1).1
 have hX:w2.heap[p]? = _:=(hg.block p hlt (Zot h2 (fun g e=>(h4 g e).2) p (Nat.le_refl _))).trans h1
 have ho2:Only P w w2:=(Only.refl P w).grown hg (fun r hr=>by
  rcases h2.form with ⟨rfl,_,_⟩ | ⟨g,rfl,_⟩
  ·simp [Value.ownBlock] at hr
  ·simp [Value.ownBlock] at hr
   subst hr
   exact .inl (h4 _ rfl).1)
 have hO:=ho2.setCell (p:=⟨p,0,none⟩) (.inl h3) (.slice a' (l.length + 1) c')
 have hps:∀ g,a' = some ⟨g,0,none⟩ -> P g /\ p < g:=fun g e=>by
  rcases hnew g e with h | h
  ·exact h4 g h
  ·exact ⟨h5 g h,by omega⟩
 exact ⟨hO,a',c',by rw [(Zaq hX).1];simp,hown.other (fun g e=>by have:=(hps g e).2;show p ≠ g;omega) _,h3,hps,fun b hb=>h5 b (Nat.le_trans hO.size hb)⟩
theorem Wr0.store {P:Nat -> Prop} {w:World} {p n g c:Nat} {l:List Nat} (h1:w.heap[p]? = some (.cells #[.slice (some ⟨g,0,none⟩) l.length c,.int .i64 (n:Nat)] 42 (0,0)))
  (h2:OwnN 5 .u8 w 0 (some ⟨g,0,none⟩) c l) (h3:P p) (h4:P g /\ p < g) (h5:∀ b,w.heap.size <= b -> P b) (i x:Nat) (m:Nat) :
  Only P w ((w.setCell ⟨g,i,none⟩ (.int .u8 (x:Nat))).setCell ⟨p,1,none⟩ (.int .i64 (m:Nat))) /\ Wr0 P ((w.setCell ⟨g,i,none⟩ (.int .u8 (x:Nat))).setCell ⟨p,1,none⟩ (.int .i64 (m:Nat))) p (l.set i x) m:=by
 have hO:=((Only.refl P w).setCell (p:=⟨g,i,none⟩) (.inl h4.1) (.int .u8 (x:Nat))).setCell (p:=⟨p,1,none⟩) (.inl h3) (.int .i64 (m:Nat))
 have hX:(w.setCell ⟨g,i,none⟩ (.int .u8 (x:Nat))).heap[p]? = _:=(Below.heap_setCell _ _ _ _ (by show p ≠ g;omega)).trans h1
 refine ⟨hO,some ⟨g,0,none⟩,c,?_,?_,h3,fun g' e=>by cases e;exact h4,fun b hb=>h5 b (Nat.le_trans hO.size hb)⟩
 ·rw [(Zaq hX).2,List.length_set]
 ·exact ((h2.stored i x).1).other (fun g' e=>by cases e;show p ≠ g;omega) _
theorem wrap8 (n:Int):IntKind.u8.wrap n = n % 256:=by simp [IntKind.wrap,IntKind.bits,IntKind.signed]
theorem or8 (a b:Nat) (ha:a < 256) (hb:b < 256):bits .or .u8 (a:Int) (b:Int) = ((a ||| b:Nat):Int):=by
 have h1:(BitVec.ofInt 8 (a:Int)).toNat = a:=by
  rw [BitVec.ofInt_natCast,BitVec.toNat_ofNat];exact Nat.mod_eq_of_lt (by omega)
 have h2:(BitVec.ofInt 8 (b:Int)).toNat = b:=by
  rw [BitVec.ofInt_natCast,BitVec.toNat_ofNat];exact Nat.mod_eq_of_lt (by omega)
 have h3:a ||| b < 256:=Nat.or_lt_two_pow (n:=8) ha hb
 show IntKind.u8.wrap ((BitVec.ofInt 8 (a:Int) ||| BitVec.ofInt 8 (b:Int)).toNat:Int) = _
 rw [BitVec.toNat_or,h1,h2,wrap8]
 omega
theorem and1 (v:Nat) (hv:v < 4294967296):bits .and .u32 (v:Int) 1 = ((v % 2:Nat):Int):=by
 have h1:(BitVec.ofInt 32 (v:Int)).toNat = v:=by
  rw [BitVec.ofInt_natCast,BitVec.toNat_ofNat];exact Nat.mod_eq_of_lt (by omega)
 have h2:(BitVec.ofInt 32 (1:Int)).toNat = 1:=by decide
 show IntKind.u32.wrap ((BitVec.ofInt 32 (v:Int) &&& BitVec.ofInt 32 (1:Int)).toNat:Int) = _
 rw [BitVec.toNat_and,h1,h2,Nat.and_one_is_mod]
 have:IntKind.u32.wrap ((v % 2:Nat):Int) = ((v % 2:Nat):Int) % 4294967296:=by simp [IntKind.wrap,IntKind.bits,IntKind.signed]
 rw [this]
 omega
set_option maxRecDepth 100000 in
set_option maxHeartbeats 1600000 in
theorem Zagn {P:Nat -> Prop} {w:World} {p:Nat} {s:Wst} (h:Wr P w p s) (v:Nat) (hv:v < 4294967296) (hn:s.2 < 100000000) :
  Calls Tryz.prog 40 #[.pointer (some ⟨p,0,none⟩),.int .u32 (v:Nat)] w fun e w'=>e = .returned (.tuple #[]) /\ Only P w w' /\ Wr P w' p (addBit s (v % 2)):=by
 obtain ⟨h0,hok,hbd⟩:=h
 have hok2:=Zng hok (b:=v % 2) (Nat.mod_lt _ (by decide))
 have hrl:=Zgb hok
 have hol:=Zafd hok
 have hsl:=hok.1
 have HOK2:=Zh hok2
 have HAD:Hid (addBit s (v % 2) = ((roomy s).set (s.2 / 8) ((roomy s).getD (s.2 / 8) 0 ||| v % 2 * 2 ^ (s.2 % 8)),s.2 + 1)):=rfl
 obtain ⟨l,n⟩:=s
 simp only at *
 obtain ⟨b,hb⟩:∃ b,v % 2 = b:=⟨_,rfl⟩
 have hb2:b < 2:=by omega
 obtain ⟨i,hi⟩:∃ i,n / 8 = i:=⟨_,rfl⟩
 obtain ⟨j,hj⟩:∃ j,n % 8 = j:=⟨_,rfl⟩
 obtain ⟨sh,hsh⟩:∃ sh,b * 2 ^ j = sh:=⟨_,rfl⟩
 have hsh2:sh < 256:=by rw [<- hsh,<- hj];exact Znj b n hb2
 rw [hi] at hol hrl
 have hj8:j < 8:=by omega
 have hin:i <= n:=by omega
 have f1:(n:Int) / 8 = (i:Int):=by omega
 have f1':Int.tdiv (n:Int) 8 = (i:Int):=by rw [<- hi];rfl
 have f2:(n:Int) % 8 = (j:Int):=by omega
 have f2':Int.tmod (n:Int) 8 = (j:Int):=by rw [<- hj];rfl
 have f3:bits .and .u32 (v:Int) 1 = (b:Int):=by rw [and1 v hv,hb]
 have f4:IntKind.u8.wrap (b:Int) = (b:Int):=by rw [wrap8];omega
 have f5:IntKind.u8.wrap ((b:Int) * 2 ^ j) = (sh:Int):=by
  have:(b:Int) * 2 ^ j = (sh:Int):=by rw [<- hsh];simp
  rw [this,wrap8];omega
 have f7:IntKind.i64.wrap (i:Int) = (i:Int):=IntWalk.i64_in _ (by omega)
 have f8:IntKind.i64.wrap (j:Int) = (j:Int):=IntWalk.i64_in _ (by omega)
 rw [hi,hj,hb,hsh] at HAD
 obtain ⟨n1,hn1e⟩:∃ n1,n + 1 = n1:=⟨_,rfl⟩
 have f9:(n:Int) + 1 = (n1:Int):=by omega
 have hn1:n1 <= 100000000:=by omega
 rw [hn1e] at HAD
 clear hn1e
 rw [hb] at HOK2
 rw [hb]
 obtain ⟨old,hold⟩:∃ old,(roomy (l,n)).getD i 0 = old:=⟨_,rfl⟩
 rw [hold] at HAD hol
 obtain ⟨nw,hnw⟩:∃ nw,old ||| sh = nw:=⟨_,rfl⟩
 have f6:bits .or .u8 (old:Int) (sh:Int) = (nw:Int):=by rw [or8 old sh hol hsh2,hnw]
 rw [hnw] at HAD
 obtain ⟨a,c,h1,h2,h3,h4,h5⟩:=h0
 have hlt:p < w.heap.size:=(Array.getElem?_eq_some_iff.1 h1).1
 have hll:l.length <= 100000000:=by omega
 clear hsh hnw hok hok2 hi hb hsl
 by_cases hj0:n % 8 = 0
 ·have hRM:Hid (roomy (l,n) = l ++ [0]):=by unfold Hid roomy;rw [if_pos hj0]
  have hjz:j = 0:=by omega
  have t0:((j:Int) == 0) = true:=beq_iff_eq.2 (by omega)
  have H1:=Zh h1
  have H2:=Zh h2
  have H3:=Zh h3
  have H4:=Zh h4
  have H5:=Zh h5
  obtain ⟨x0,x1,y0,y1⟩:=Zae h1
  clear h1 h2 h3 h4 h5 hj0 hj hjz
  go_enter Tryz.func40,Tryz.ntmps40
  go_wp2_with (at_builtin;refine app1AtN Zfb rfl (.tmp 14) (.tmp 15) rfl (base:=0) (y:=0) rfl H2.out rfl (Nat.le_refl _) (by omega) (by omega) (by omega) (Nat.zero_le _) ?_;intro a' c' w2 hown hg hnew;have hX:=Zae ((hg.block p hlt (Zot H2.out (fun g e=>(H4.out g e).2) p (Nat.le_refl _))).trans H1.out);obtain ⟨z0,z1,k0,k1⟩:=hX;replace hown:=Zh hown;replace hg:=Zh hg;replace hnew:=Zh hnew)
  have HG:=Wr0.grow H1.out H2.out H3.out H4.out H5.out hown.out hg.out hnew.out
  have HO:=Zh HG.1
  have HW:=Zh HG.2
  clear HG x0 x1 y0 y1 z0 z1 k0 k1 hown hg hnew H1 H2 H3 H4 H5
  generalize w2.setCell ⟨p,0,none⟩ (.slice a' (l.length + 1) c') = WA at *
  obtain ⟨a2,c2,g1,g2,g3,g4,g5⟩:=HW.out
  obtain ⟨g,rfl,hcl,hfr⟩:∃ g,a2 = some ⟨g,0,none⟩ /\ WA.cell? ⟨g,i,none⟩ = some (.int .u8 (old:Nat)) /\ WA.frozen? ⟨g,i,none⟩ = false:=by
   obtain ⟨g,he,_,_,hc,hf⟩:=g2.at (i:=i) (by rw [hRM.out] at hrl;omega)
   refine ⟨g,he,?_,hf⟩
   have h9:(l ++ [0]).getD i 0 = old:=by rw [<- hold,hRM.out]
   rw [hc,<- h9]
   simp [List.getD,List.getElem?_eq_getElem (show i < (l ++ [0]).length by rw [hRM.out] at hrl;omega)]
  have hi1:i < l.length + 1:=by rw [hRM.out] at hrl;first | omega | (simp at hrl;omega)
  have hi2:(i:Int) < ((l.length + 1:Nat):Int):=by omega
  have hi3:(0:Int) <= (i:Int):=by omega
  have hi5:i <= l.length:=by omega
  have hi6:(i:Int) < (l.length:Int) + 1:=by omega
  have hi7:(i:Int) <= (l.length:Int):=by omega
  have hi8:i < l.length + 1:=by omega
  have G1:=Zh g1
  have G2:=Zh g2
  have G3:=Zh g3
  have G4:=Zh (g4 g rfl)
  have G5:=Zh g5
  obtain ⟨e0,e1,d0,d1⟩:=Zae g1
  try simp only [List.length_append,List.length_singleton] at e0
  clear HW g1 g2 g3 g4 g5 hrl hol hold
  go_wp2_with fail
  go_still_tail 22,(by kernel_rfl)
  change wpList _ _ _ _ _ WA.drew
  replace G1:=Zh (show WA.drew.heap[p]? = _ from G1.out)
  replace G2:=Zh (show OwnN 5 .u8 WA.drew 0 _ _ _ from G2.out)
  replace G5:=Zh (show ∀ b,WA.drew.heap.size <= b -> P b from G5.out)
  replace hcl:WA.drew.cell? ⟨g,i,none⟩ = _:=hcl
  replace hfr:WA.drew.frozen? ⟨g,i,none⟩ = false:=hfr
  replace e0:WA.drew.cell? ⟨p,0,none⟩ = _:=e0
  replace e1:WA.drew.cell? ⟨p,1,none⟩ = _:=e1
  replace d0:WA.drew.frozen? ⟨p,0,none⟩ = false:=d0
  replace d1:WA.drew.frozen? ⟨p,1,none⟩ = false:=d1
  have HO2:=Zh (show Only P w WA.drew from (HO.out).trans (Zak P WA 1))
  generalize WA.drew = W3 at *
  have hpg:¬ (p = g):=fun e=>by have:=G4.out.2;omega
  have hpg2:¬ (g = p):=fun e=>by have:=G4.out.2;omega
  go_wp2_with fail
  go_end0
  obtain ⟨k1,k2⟩:=Wr0.store G1.out G2.out G3.out G4.out G5.out i nw n1
  refine ⟨rfl,HO2.out.trans k1,?_,HOK2.out,?_⟩
  ·rw [HAD.out,hRM.out]
   exact k2
  ·rw [HAD.out]
   exact hn1
 ·have hRM:Hid (roomy (l,n) = l):=by unfold Hid roomy;rw [if_neg hj0]
  have t0:((j:Int) == 0) = false:=beq_eq_false_iff_ne.2 (by omega)
  have HW:Hid (Wr0 P w p l n):=⟨a,c,h1,h2,h3,h4,h5⟩
  obtain ⟨x0,x1,y0,y1⟩:=Zae h1
  clear h1 h2 h3 h4 h5 hj0 hj
  go_enter Tryz.func40,Tryz.ntmps40
  go_wp2_with fail
  clear x0 x1 y0 y1
  obtain ⟨a2,c2,g1,g2,g3,g4,g5⟩:=HW.out
  obtain ⟨g,rfl,hcl,hfr⟩:∃ g,a2 = some ⟨g,0,none⟩ /\ w.cell? ⟨g,i,none⟩ = some (.int .u8 (old:Nat)) /\ w.frozen? ⟨g,i,none⟩ = false:=by
   obtain ⟨g,he,_,_,hc,hf⟩:=g2.at (i:=i) (by rw [hRM.out] at hrl;omega)
   refine ⟨g,he,?_,hf⟩
   have h9:(l).getD i 0 = old:=by rw [<- hold,hRM.out]
   rw [hc,<- h9]
   simp [List.getD,List.getElem?_eq_getElem (show i < (l).length by rw [hRM.out] at hrl;omega)]
  have hi1:i < l.length:=by rw [hRM.out] at hrl;first | omega | (simp at hrl;omega)
  have hi2:(i:Int) < ((l.length:Nat):Int):=by omega
  have hi3:(0:Int) <= (i:Int):=by omega
  have hi5:i <= l.length:=by omega
  have hi6:(i:Int) < (l.length:Int) + 1:=by omega
  have hi7:(i:Int) <= (l.length:Int):=by omega
  have hi8:i < l.length + 1:=by omega
  have G1:=Zh g1
  have G2:=Zh g2
  have G3:=Zh g3
  have G4:=Zh (g4 g rfl)
  have G5:=Zh g5
  obtain ⟨e0,e1,d0,d1⟩:=Zae g1
  try simp only [List.length_append,List.length_singleton] at e0
  clear HW g1 g2 g3 g4 g5 hrl hol hold
  go_wp2_with fail
  go_still_tail 22,(by kernel_rfl)
  change wpList _ _ _ _ _ w.drew
  replace G1:=Zh (show w.drew.heap[p]? = _ from G1.out)
  replace G2:=Zh (show OwnN 5 .u8 w.drew 0 _ _ _ from G2.out)
  replace G5:=Zh (show ∀ b,w.drew.heap.size <= b -> P b from G5.out)
  replace hcl:w.drew.cell? ⟨g,i,none⟩ = _:=hcl
  replace hfr:w.drew.frozen? ⟨g,i,none⟩ = false:=hfr
  replace e0:w.drew.cell? ⟨p,0,none⟩ = _:=e0
  replace e1:w.drew.cell? ⟨p,1,none⟩ = _:=e1
  replace d0:w.drew.frozen? ⟨p,0,none⟩ = false:=d0
  replace d1:w.drew.frozen? ⟨p,1,none⟩ = false:=d1
  have HO2:=Zh (show Only P w w.drew from (Only.refl P w).trans (Zak P w 1))
  generalize w.drew = W3 at *
  have hpg:¬ (p = g):=fun e=>by have:=G4.out.2;omega
  have hpg2:¬ (g = p):=fun e=>by have:=G4.out.2;omega
  go_wp2_with fail
  go_end0
  obtain ⟨k1,k2⟩:=Wr0.store G1.out G2.out G3.out G4.out G5.out i nw n1
  refine ⟨rfl,HO2.out.trans k1,?_,HOK2.out,?_⟩
  ·rw [HAD.out,hRM.out]
   exact k2
  ·rw [HAD.out]
   exact hn1
end Go.Proofs.YtendielanacflaaGreat
namespace Go.Proofs.YtendielanacflaaGreat
open Go.RowKit Go.Shelf M01
theorem Wr.lt {P:Nat -> Prop} {w:World} {p:Nat} {s:Wst} (h:Wr P w p s):p < w.heap.size:=h.1.lt
set_option maxRecDepth 100000 in
set_option maxHeartbeats 1600000 in
theorem Zau {P:Nat -> Prop} {w:World} {p:Nat} {s:Wst} (h:Wr P w p s) (v n:Nat) (hn:n <= 32) (hv:v < 2 ^ n) (hs:s.2 + n <= 100000000) :
  Calls Tryz.prog 18 #[.pointer (some ⟨p,0,none⟩),.int .u32 (v:Nat),.int .i64 (n:Nat)] w fun e w'=>e = .returned (.int .i64 0) /\ Only P w w' /\ Wr P w' p (addNum s v n):=by
 have H:=Zh h
 have hmf:∀ (fn:Fn) (first cap:Array Value) (w:World),(Instr.makeFunc fn first cap).run Tryz.prog w = .ok (.func fn first cap) w:=fun _ _ _ _=>rfl
 have hp32:2 ^ n <= 2 ^ 32:=Nat.pow_le_pow_right (by decide) hn
 have hv32:v < 4294967296:=by omega
 have t1:decide ((n:Int) < 0) = false:=by simp
 have t2:decide ((32:Int) < (n:Int)) = false:=by simp;omega
 have t3:(v:Int) / 2 ^ n = 0:=by
  have:(v:Int) / ((2 ^ n:Nat):Int) = 0:=by rw [<- Int.natCast_ediv,Nat.div_eq_of_lt hv];rfl
  simpa using this
 have HV:=Zh hv
 have HP:=Zh hp32
 clear h hv hp32
 go_enter Tryz.func18,Tryz.ntmps18
 go_wp2_with fail
 go_loopw [29] (fun c A=>∃ k:Nat,k <= n /\ c = .int .i64 (k:Nat) /\ Only P w A /\ Wr P A p (addNum s v k)) (fun c _=>n - (intOf c).toNat)
 case atStart=>exact ⟨0,by omega,rfl,Only.refl _ _,H.out⟩
 case round =>
  clear H hmf
  obtain ⟨k,hk,rfl,ho,hw⟩:=hrel
  have HO:=Zh ho
  have HW:=Zh hw
  clear ho hw
  by_cases hlt:k < n
  ·obtain ⟨x,hx⟩:∃ x,v / 2 ^ k = x:=⟨_,rfl⟩
   have hx2:x < 4294967296:=by rw [<- hx];exact Nat.lt_of_le_of_lt (Nat.div_le_self _ _) hv32
   have q1:(v:Int) / 2 ^ k = (x:Int):=by rw [<- hx];simp
   have hk32:k <= 32:=by omega
   have HL:=Zac s v k
   have HB:=Zh (Zagn HW.out x hx2 (by omega))
   have HA:Hid (addBit (addNum s v k) (x % 2) = addNum s v (k + 1)):=by unfold Hid;rw [<- hx];rfl
   rw [HA.out] at HB
   clear HL HW hx
   go_wp2_with (go_at_call 40;refine HB.out.mono ?_;rintro e w2 ⟨rfl,ho2,hw2⟩;replace ho2:=Zh ho2;replace hw2:=Zh hw2)
   go_roundw
   case rel=>exact ⟨k + 1,by omega,by go_num,HO.out.trans ho2.out,hw2.out⟩
   case measure=>simp [intOf];omega
  ·obtain rfl:k = n:=by omega
   go_wp2
   go_ret
   exact ⟨rfl,HO.out,HW.out⟩
theorem Zon {P:Nat -> Prop} {w:World} {p:Nat} {s:Wst} (h:Wr P w p s) :
  Calls Tryz.prog 25 #[.pointer (some ⟨p,0,none⟩)] w fun e w'=>∃ a c,e = .returned (.slice a s.1.length c) /\ OwnN 5 .u8 w' w.heap.size a c s.1 /\ Below w.heap.size w w':=by
 obtain ⟨⟨a,c,h1,h2,_⟩,hok,hb⟩:=h
 obtain ⟨c0,c1,_,_⟩:=Zae h1
 have HC:=Zh (Zer w a c s.1 h2.row (by rw [hok.1];omega))
 clear h1 h2 hok hb
 go_enter Tryz.func25,Tryz.ntmps25
 go_wp2_with fail
 refine HC.out.mono ?_
 rintro e w2 ⟨a2,c2,rfl,ho,hb⟩
 have HO:=Zh ho
 have HB:=Zh hb
 clear ho hb HC
 go_wp2
 go_ret
 exact ⟨a2,c2,rfl,HO.out,HB.out⟩
end Go.Proofs.YtendielanacflaaGreat
