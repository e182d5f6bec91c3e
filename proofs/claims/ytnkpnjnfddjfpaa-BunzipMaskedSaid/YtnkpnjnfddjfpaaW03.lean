/- prefix.New: contract. The reference of layers 4, 6: words as rows of bits: contracts of Bits, Rows, begins, Get (seats that have no layer 1). The reference of layer 26: the head of a block: plain. recover: the type assertions of a deferred closure. pressworkref26.head: contract. The reference of layer 22: Places: contract. The reference of layer 22: Digits, Put: contracts. The reference of layer 23: has, Row: contracts. The reference of layer 24: Lengths: contract. The reference of layer 24: Selectors: contract. The reference of layer 2: Align, Bytes: contracts. -/
import Derived.Test.YtnkpnjnfddjfpaaW02
import Derived.Test.YtnkpnjnfddjfpaaW01
import Derived.StillTailTactics
import Derived.Deep.RegionLaw
import Derived.Test.YtnkpnjnfddjfpaaChecked
import Derived.BigQuiet
import Derived.Deep.QuietTactic
import Derived.Defers
import Derived.Recover
import Derived.Laws.Pointers
set_option linter.unusedVariables false
set_option linter.unusedSimpArgs false
namespace Go.Proofs.Ytnkpnjnfddjfpaa
open Go.RowKit Go.Shelf M04 M06
theorem RowN.keptR {k:IntKind} {w w':World} {a:Option Addr} {cap:Nat} {l:List Nat} {row:Option Nat} (h:RowN k w a cap l) (hg:w.grownBy w' row) (hr:∀ x,a = some x -> row ≠ some x.block):RowN k w' a cap l:=by
 obtain ⟨h1,h2,h3⟩:=h
 refine ⟨h1,h2,?_⟩
 rcases h3 with h3 | ⟨b,off,rfl,hb',hc⟩
 ·exact .inl h3
 ·exact .inr ⟨b,off,rfl,Nat.lt_of_lt_of_le hb' hg.size,fun i hi=>(World.cell?_of_block (a:=⟨b,off + i,none⟩) (hg.block b hb' (fun e=>hr _ rfl e.symm))).trans (hc i hi)⟩
theorem Zzn (l:List Nat) (i:Nat) (hi:i < l.length) (h20:∀ x ∈ l,x <= 20) (hw:weight l <= 2 ^ 20):word l i < 2 ^ 20:=by
 have h:=Zka l i hi h20 hw
 have h2:word l i < 2 ^ l.getD i 0:=by
  rcases Nat.lt_or_ge (word l i) (2 ^ l.getD i 0) with h3 | h3
  ·exact h3
  ·have:=Nat.div_pos h3 (Nat.pow_pos (by decide))
   omega
 exact Nat.lt_of_lt_of_le h2 (Nat.pow_le_pow_right (by decide) (Zfz h20 i))
theorem Zmq (j m:Nat) (h:j < m) (hm:m <= 20):min (IntKind.u8.wrap (m - j:Int)).toNat 32 = m - j:=by
 have h2:IntKind.u8.wrap (m - j:Int) = ((m - j:Nat):Int):=by
  unfold IntKind.wrap IntKind.signed IntKind.bits
  simp only [Bool.false_and]
  rw [if_neg (by decide)]
  omega
 rw [h2]
 omega
theorem Zje {w w':World} {row:Option Nat} (h:w.grownBy w' row):w.grownBy w'.drew row:=⟨h.os,h.tape,h.output,h.size,h.block⟩
theorem cells3' {w:World} {b:Nat} {x y z:Value} {t:TypeId} (h:w.heap[b]? = some (.cells #[x,y,z] t (0,0))):w.cell? ⟨b,2,none⟩ = some z:=by
 simp [World.cell?,h]
theorem Zij {ops:Array Oper} {rest:List Oper} {o:Oper} {ac:Act} {w:World} {Q:Exit -> Act -> World -> Prop} {b n X k:Nat} {F:TF} {v:Int} (hgd:o.guard = none) (mo xo vo:Operand) (hop:o.op = Op.mapUpdate 168 mo xo vo)
  (hm:ac.eval mo = .map (some b)) (hx:ac.eval xo = wordV X k) (hv:ac.eval vo = .int .i64 v) (h:MapF w b n F) (hn:n < 1000000) (hX:X < 4294967296) (hk:k < 256) (hb:-1000000 <= v /\ v <= 1000000)
  (hK:∀ w',MapF w' b (n + 1) (putF F X k v) -> w.grownBy w' (some b) -> wpList Try.prog ops Q rest (ac.put o.dst undef) w'):wpList Try.prog ops Q (o :: rest) ac w:=by
 refine wpList_plain hgd fun K hK'=>?_
 obtain ⟨w',hrun,h1,h2⟩:=h.put (by unfold maxLen;omega) X k v hX hk hb
 unfold Oper.wp
 simp [execOp,hop,hm,hx,hv,hrun,Result.andThen]
 exact hK' _ _ (hK w' h1 h2)
def Tb (lo hi:Nat) (w:World) (p:Nat) (l:List Nat):Prop :=
 ∃ a1 c1 a2 c2 mb n,w.heap[p]? = some (.cells #[.slice a1 l.length c1,.slice a2 l.length c2,.map (some mb)] 170 (0,0)) /\ RowN .u8 w a1 c1 l /\ RowN .u32 w a2 c2 (words l) /\ MapF w mb n (tabI l (words l) l.length) /\ hi <= w.heap.size ∧
  (lo <= p /\ p < hi) /\ (lo <= mb /\ mb < hi) /\ (∀ x,a1 = some x -> lo <= x.block /\ x.block < hi) /\ (∀ x,a2 = some x -> lo <= x.block /\ x.block < hi)
theorem MapF.same {w w':World} {b n:Nat} {F:Nat -> Nat -> Option Int} (h:MapF w b n F) (hs:w'.heap[b]? = w.heap[b]?):MapF w' b n F:=by
 obtain ⟨D,⟨es,clock,hb,h1⟩,h2⟩:=h
 exact ⟨D,⟨es,clock,hs.trans hb,h1⟩,h2⟩
theorem Tb.only {T:Nat -> Prop} {lo hi p:Nat} {w w':World} {l:List Nat} (h:Tb lo hi w p l) (ho:Only T w w') (hT:∀ b,lo <= b -> b < hi -> ¬ T b):Tb lo hi w' p l:=by
 obtain ⟨a1,c1,a2,c2,mb,n,h1,h2,h3,h4,hs,hp,hm,h5,h6⟩:=h
 refine ⟨a1,c1,a2,c2,mb,n,Zac h1 ho (hT p hp.1 hp.2),?_,?_,h4.same (ho.block mb (by omega) (hT mb hm.1 hm.2)),Nat.le_trans hs ho.size,hp,hm,h5,h6⟩
 ·exact h2.same ho.size (fun x h0 hx=>ho.block _ (by have:=(h5 x hx).2;omega) (hT _ (h5 x hx).1 (h5 x hx).2))
 ·exact h3.same ho.size (fun x h0 hx=>ho.block _ (by have:=(h6 x hx).2;omega) (hT _ (h6 x hx).1 (h6 x hx).2))
set_option maxRecDepth 100000 in
set_option maxHeartbeats 1600000 in
theorem Zjq (a:Option Addr) (cap:Nat) (l:List Nat) (w:World) (hr:RowN .u8 w a cap l) :
  Calls Try.prog 80 #[.slice a l.length cap] w fun e w'=>Below w.heap.size w w' /\ if (wordsE l).2 = 0 then ∃ p,e = .returned (.tuple #[.pointer (some ⟨p,0,none⟩),.int .i64 0]) /\ Tb w.heap.size w'.heap.size w' p l else e = .returned (.tuple #[.pointer none,.int .i64 (wordsE l).2]):=by
 by_cases hm:May l /\ weight l <= 2 ^ 20
 case neg =>
  have he:(wordsE l).2 = 5 \/ (wordsE l).2 = 2:=by
   unfold wordsE
   by_cases h1:May l
   ·rw [if_neg (by simpa using h1),if_pos (by rw [not_and] at hm;have:=hm h1;omega)];exact .inr rfl
   ·rw [if_pos h1];exact .inl rfl
  have HE:=Zh he
  have H0:Hid ((wordsE l).2 ≠ 0):=by unfold Hid;omega
  have HW:=Zh (Zhv a cap l w hr)
  clear hm he
  generalize hwe:wordsE l = we at *
  obtain ⟨w1l,er⟩:=we
  have HWE:=Zh hwe
  clear hwe
  have hb:(er == 0) = false:=by have:=H0.out;simpa using this
  go_enter Try.func80,Try.ntmps80
  go_wp2_with fail
  refine HW.out.mono ?_
  rintro e w1 ⟨a1,c1,rfl,_,hb1⟩
  rw [HWE.out]
  rcases HE.out with h5 | h5
  ·obtain rfl:er = 5:=h5
   go_wp2
   go_ret2
   exact ⟨hb1,rfl⟩
  ·obtain rfl:er = 2:=h5
   go_wp2
   go_ret2
   exact ⟨hb1,rfl⟩
 obtain ⟨hmay,hwt⟩:=hm
 have hwe:wordsE l = (words l,0):=by
  unfold wordsE
  rw [if_neg (by simpa using hmay),if_neg (by omega)]
 have h512:=hmay.2
 have H20:=Zh hmay.1
 have HWT:=Zh hwt
 have HW:=Zh (Zhv a cap l w hr)
 unfold WordsOut at HW
 rw [hwe,Zcp] at HW
 rw [hwe]
 simp only [if_true]
 clear hwe hmay hwt
 go_enter Try.func80,Try.ntmps80
 go_wp2_with fail
 refine HW.out.mono ?_
 rintro e w1 ⟨a1,c1,rfl,ho1,hb1⟩
 clear HW
 have HO1:=Zh ho1
 have HB1:=Zh hb1
 clear ho1 hb1
 go_wp2_with fail
 refine (Zgt w1 a cap l (hr.below HB1.out) (by omega)).mono ?_
 rintro e w2 ⟨a2,c2,rfl,ho2,hb2⟩
 have HO2:=Zh ho2
 have HB2:=Zh (HB1.out.trans (hb2.mono HB1.out.size))
 have HOW:=Zh (HO1.out.below hb2)
 clear ho2 hb2 HO1
 have hmm:=@run_makeMap Try.prog
 go_wp2_with fail
 obtain ⟨W0,hW0⟩:∃ W0,(w2.alloc (.map #[] 0)).alloc (.cells #[.slice a2 l.length c2,.slice a1 l.length c1,.map (some w2.heap.size)] 170) = W0:=⟨_,rfl⟩
 have hz0:W0.heap.size = w2.heap.size + 2:=by rw [<- hW0];simp
 have hp0:W0.heap[w2.heap.size + 1]? = some (.cells #[.slice a2 l.length c2,.slice a1 l.length c1,.map (some w2.heap.size)] 170 (0,0)):=by
  rw [<- hW0];have:=World.alloc_heap_new (w2.alloc (.map #[] 0)) (.cells #[.slice a2 l.length c2,.slice a1 l.length c1,.map (some w2.heap.size)] 170);rwa [World.size_alloc] at this
 have hb0:Below w2.heap.size w2 W0:=by rw [<- hW0];exact ((Below.refl _ _).alloc (Nat.le_refl _) _).alloc (by simp) _
 have hM0:MapF W0 w2.heap.size 0 (fun _ _=>none):=by rw [<- hW0];exact (Zsp w2).kept (World.grownBy_alloc _ _ none) (by simp)
 simp only [hW0]
 have hO0:=HOW.out.below hb0
 have hL0:=HO2.out.below hb0
 have hB0:Below w.heap.size w W0:=HB2.out.trans (hb0.mono HB2.out.size)
 have hr0:=hr.below hB0
 have hsz:=HB2.out.size
 have hne:∀ {base cap:Nat} {a:Option Addr} {k:IntKind} {E:TypeId} {L:List Nat},OwnN E k w2 base a cap L -> ∀ x,a = some x -> base <= x.block /\ x.block < w2.heap.size:=by
  intro base cap a k E L h x hx
  rcases h.form with ⟨h1,_⟩ | ⟨g,h1,hb,h2⟩
  ·rw [h1] at hx;cases hx
  ·rw [h1] at hx;cases hx;exact ⟨hb,h2⟩
 have hnw:∀ x,a1 = some x -> w.heap.size <= x.block /\ x.block < w2.heap.size:=hne HOW.out
 have hnl:∀ x,a2 = some x -> w.heap.size <= x.block /\ x.block < w2.heap.size:=fun x hx=>⟨Nat.le_trans HB1.out.size (hne HO2.out x hx).1,(hne HO2.out x hx).2⟩
 have hna:∀ x,0 < l.length -> a = some x -> x.block < w.heap.size:=fun x h0 hx=>by
  obtain ⟨b',off,he,hlt,_⟩:=hr.at h0
  rw [hx] at he;cases he;exact hlt
 have HNW:=Zh hnw
 have HNL:=Zh hnl
 have HNA:=Zh hna
 have HP0:=Zh hp0
 have HB0:=Zh hB0
 have HR0:=Zh hr0
 have HRW:=Zh hO0.row
 have HRL:=Zh hL0.row
 have HM0:=Zh hM0
 generalize hmbd:w2.heap.size = mb at *
 clear hW0 hp0 hb0 hM0 hO0 hL0 hB0 hr0 hne hnw hnl hna HO2 HOW hmm HB2
 go_loopw [7,8,9,26,45] (fun _ _ _ i _ A=>∃ k:Nat,k <= l.length /\ i = .int .i64 k /\ W0.grownBy A (some mb) /\ ∃ n,n <= k * 32 /\ MapF A mb n (tabI l (words l) k)) (fun _ _ _ i _ _=>l.length - (intOf i).toNat)
 case atStart=>exact ⟨0,by omega,rfl,⟨rfl,rfl,rfl,Nat.le_refl _,fun _ _ _=>rfl⟩,0,by omega,HM0.out⟩
 case round =>
  obtain ⟨k,hk,rfl,hg,n,hn,hM⟩:=hrel
  have HG:=Zh hg
  have HM:=Zh hM
  clear hg hM
  by_cases hlt:k < l.length
  ·obtain ⟨b,off,rfl,hb,hck⟩:=HR0.out.at hlt
   have hbw:b < w.heap.size:=HNA.out _ (by omega) rfl
   have hck':wr.cell? ⟨b,off + k,none⟩ = some (.int .u8 (l[k]:Nat)):=(World.cell?_of_block (a:=⟨b,off + k,none⟩) (HG.out.block b hb (by intro e;cases e;omega))).trans hck
   have hx20:=H20.out _ (List.getElem_mem hlt)
   have hgl:l.getD k 0 = l[k]:=by simp [hlt]
   have HI:=Zh (show tabI l (words l) (k + 1) = if l.getD k 0 = 0 then tabI l (words l) k else tabK ((words l).getD k 0) (l.getD k 0) (putF (tabI l (words l) k) ((words l).getD k 0) (l.getD k 0) k) (l.getD k 0) from rfl)
   by_cases hx0:l[k] = 0
   ·have HI0:Hid (tabI l (words l) (k + 1) = tabI l (words l) k):=by rw [Hid,HI.out,if_pos (by rw [hgl];exact hx0)]
    rw [hx0] at hck'
    clear hck hx0 hgl hx20 HI
    go_wp2
    go_roundw
    case rel=>exact ⟨k + 1,by omega,by go_num,HG.out,n,by omega,by rw [HI0.out];exact HM.out⟩
    case measure=>simp [intOf];omega
   ·have hwl:=Zzn l k hlt H20.out HWT.out
    have hgw:(words l).getD k 0 = word l k:=by simp [words,hlt]
    have HI1:Hid (tabI l (words l) (k + 1) = tabK (word l k) l[k] (putF (tabI l (words l) k) (word l k) l[k] k) l[k]):=by rw [Hid,HI.out,if_neg (by rw [hgl];exact hx0),hgw,hgl]
    obtain ⟨bw,ow,rfl,hbw2,hcw⟩:=HRW.out.at (i:=k) (by rw [Zcp];exact hlt)
    rw [Zfv] at hcw
    have hbwl:bw < mb:=(HNW.out _ rfl).2
    have HCW:=Zh hcw
    have hcw':wr.cell? ⟨bw,ow + k,none⟩ = some (.int .u32 (word l k:Nat)):=(World.cell?_of_block (a:=⟨bw,ow + k,none⟩) (HG.out.block bw hbw2 (by intro e;cases e;omega))).trans hcw
    have hpt:wr.cell? ⟨mb + 1,2,none⟩ = some (.map (some mb)):=by
     have:=(HG.out.block (mb + 1) (by omega) (by intro e;cases e)).trans HP0.out
     exact (cells3' this)
    have b0:((l[k]:Int) == 0) = false:=by simp;omega
    clear hck hcw hx0 hgl HI hgw
    generalize word l k = x at *
    generalize l[k] = m at *
    go_wp2_with fail
    go_still_tail 11,(by kernel_rfl)
    change wpList _ _ _ _ _ wr.drew
    refine Zij (b:=mb) (n:=n) (X:=x) (k:=m) (v:=(k:Int)) (F:=tabI l (words l) k) rfl (.tmp 36) (.tmp 42) (.tmp 43) rfl rfl rfl rfl HM.out (by omega) (Nat.lt_trans hwl (by decide)) (by omega) (by omega) ?_
    intro w5 hM5 hg5
    have HG5:=Zh (show W0.grownBy w5 (some mb) from (Zje HG.out).trans hg5)
    have HM5:=Zh hM5
    clear hM5 hg5 HG HM hcw' hpt hck'
    generalize putF (tabI l (words l) k) x m k = F0 at *
    go_wp2_with fail
    go_loopw [9,45] (fun _ i A=>∃ j:Nat,j <= m /\ i = .int .u8 j /\ W0.grownBy A (some mb) /\ MapF A mb (n + 1 + j) (tabK x m F0 j)) (fun _ i _=>m - (intOf i).toNat)
    case atStart=>exact ⟨0,by omega,rfl,HG5.out,HM5.out⟩
    case round =>
     clear HG5 HM5
     obtain ⟨j,hj,rfl,hg,hM⟩:=hrel
     have HG:=Zh hg
     have HM:=Zh hM
     clear hg hM
     by_cases hjl:j < m
     ·have hcw':wr.cell? ⟨bw,ow + k,none⟩ = some (.int .u32 (x:Nat)):=(World.cell?_of_block (a:=⟨bw,ow + k,none⟩) (HG.out.block bw hbw2 (by intro e;cases e;omega))).trans HCW.out
      have hpt:wr.cell? ⟨mb + 1,2,none⟩ = some (.map (some mb)):=by
       have:=(HG.out.block (mb + 1) (by omega) (by intro e;cases e)).trans HP0.out
       exact (cells3' this)
      go_wp2_with fail
      go_still_tail 14,(by kernel_rfl)
      change wpList _ _ _ _ _ wr.drew
      refine Zij (b:=mb) (n:=n + 1 + j) (X:=x / 2 ^ (m - j)) (k:=j) (v:=-1) (F:=tabK x m F0 j) rfl (.tmp 51) (.tmp 61) (.const (.int .i64 (-1))) rfl rfl ?hx rfl HM.out (by omega) (Nat.lt_of_le_of_lt (Nat.div_le_self _ _) (Nat.lt_trans hwl (by decide))) (by omega) (by omega) ?_
      case hx =>
       show _ = wordV _ _
       unfold wordV
       refine congrArg (fun z=>Value.agg #[z,_]) ?_
       rw [Zmq j m hjl hx20]
       exact congrArg (Value.int IntKind.u32) (by rw [Int.natCast_ediv,Int.natCast_pow];rfl)
      intro w6 hM6 hg6
      have HG6:=Zh (show W0.grownBy w6 (some mb) from (Zje HG.out).trans hg6)
      have HM6:=Zh hM6
      clear hM6 hg6 HG HM hcw' hpt
      go_wp2
      go_roundw
      case rel=>exact ⟨j + 1,by omega,by go_num,HG6.out,HM6.out⟩
      case measure=>simp [intOf];omega
     ·obtain rfl:j = m:=by omega
      go_wp2
      go_roundw
      case rel=>exact ⟨k + 1,by omega,by go_num,HG.out,n + 1 + j,by omega,by rw [HI1.out];exact HM.out⟩
      case measure=>simp [intOf];omega
  ·obtain rfl:k = l.length:=by omega
   go_wp2
   go_ret2
   have hwz:=HG.out.size
   refine ⟨HB0.out.trans (Below.of_grown HG.out HB0.out.size (by intro x hx;cases hx;exact hsz)),mb + 1,rfl,⟨a2,c2,a1,c1,mb,n,?_,?_,?_,HM.out,Nat.le_refl _,⟨by omega,by omega⟩,⟨hsz,by omega⟩,?_,?_⟩⟩
   ·exact (HG.out.block (mb + 1) (by omega) (by intro e;cases e)).trans HP0.out
   ·exact HRL.out.keptR HG.out (fun y hy e=>by cases e;have:=HNL.out _ hy;omega)
   ·exact HRW.out.keptR HG.out (fun y hy e=>by cases e;have:=HNW.out _ hy;omega)
   ·exact fun y hy=>by have:=HNL.out _ hy;omega
   ·exact fun y hy=>by have:=HNW.out _ hy;omega
theorem Tb.below {lo hi p:Nat} {w w':World} {l:List Nat} (h:Tb lo hi w p l) (hb:Below w.heap.size w w'):Tb lo hi w' p l :=
 h.only (T:=fun _=>False) (.ofBelow hb) (fun _ _ _ h=>h)
end Go.Proofs.Ytnkpnjnfddjfpaa

namespace Go.Proofs.Ytnkpnjnfddjfpaa
open Go.RowKit M01 M04 M10
def encSl:Enc (Option Addr × Nat × List Nat) where
 sz:=1
 cells x:=[.slice x.1 x.2.2.length x.2.1]
 len _:=rfl
 one x u hu:=by
  simp only [List.mem_cons,List.not_mem_nil,or_false] at hu
  subst hu;rfl
 pos:=by decide
abbrev Es:=List (Option Addr × Nat × List Nat)
section
variable {P : Program} {T E : TypeId} {α : Type} {cc : Enc α} {z : Value} {bytes : Nat}
theorem Zqm (et:ElemS P T E cc z bytes) {w:World} {ops:Array Oper} {o:Oper} {ac:Act} {K:Act -> World -> Prop} {Q:Exit -> Act -> World -> Prop} {G:Prop} (hgd:o.guard = none) (s x:Operand)
  (ho:o.op = .call { callee:=.builtin .append,args:=#[s,x],argTypes:=#[T,T] }) {base:Nat} {a:Option Addr} {cap:Nat} {l:List α} (y:α) {cs:Array Value} {c E':Nat}
  (hs:ac.eval s = .slice a l.length cap) (hown:OwnS cc E w base a cap l) (hx:ac.eval x = .slice (some ⟨w.heap.size,0,none⟩) 1 c) (hcs:cs = (cc.cells y).toArray) (hc:1 <= c) (hc':c <= 9223372036854775807)
  (hn:l.length + 1 <= 9223372036854775807) (hbytes:(l.length + 1) * bytes <= 140737488355328) (hbase:base <= w.heap.size)
  (h:∀ a' cap' w',OwnS cc E w' base a' cap' (l ++ [y]) -> Below base w w' -> w.grownBy w' (Value.slice a l.length cap).ownBlock -> (∀ g,a' = some ⟨g,0,none⟩ -> a = some ⟨g,0,none⟩ \/ w.heap.size <= g) -> K (ac.put o.dst (.slice a' (l.length + 1) cap')) w') :
  if Region.wanted o (yielded ops ac.tmps) = true then Oper.wp P o ac (w.alloc (.cells cs E')) K Q else G:=by
 have hw:Region.wanted o (yielded ops ac.tmps) = true:=by simp [Region.wanted,hgd]
 rw [if_pos hw]
 obtain ⟨i,h2,h3,h4,h5⟩:=info_parts et.info
 have hy:RowS cc (w.alloc (.cells cs E')) (some ⟨w.heap.size,0,none⟩) c [y]:=by
  subst hcs
  have:=RowS.lit cc w [y] E' ((cc.cells y).toArray) w.heap.size rfl (by simp [flat]) (by simp)
  exact ⟨by simpa using hc,⟨hc',fun hn=>by cases hn⟩,this.2.2⟩
 have hcl:∀ j u,(flat cc [y])[j]? = some u -> (w.alloc (.cells cs E')).cell? ((⟨w.heap.size,0,none⟩:Addr).add j) = some u:=by
  intro j u hu
  obtain ⟨_,_,h0 | ⟨b',off,he,_,hcc⟩⟩:=hy
  ·simp at h0
  ·cases he
   have:=hcc j u hu
   unfold Addr.add
   split
   ·simp_all
   ·exact this
 obtain ⟨v',w',hr,h6,h7,h8,h9⟩:=run_append_own_at (P:=P) (w.alloc (.cells cs E')) base T o.type E i z cc.sz bytes et.und h2 h3 h4 h5 et.zs cc.pos _ l.length _ (hown.alloc _) ⟨w.heap.size,0,none⟩ 1 c (flat cc [y]) (by rw [Zbt];rfl)
  hcl (Zha _) (by simpa [maxLen] using hn) hbytes (by simp;omega)
 have hv:∃ a' cap',v' = .slice a' (l.length + 1) cap':=by
  rcases h6.2 with ⟨h11,h10⟩ | ⟨g,c',cur,h11,_⟩
  ·omega
  ·exact ⟨_,_,h11⟩
 obtain ⟨a',cap',rfl⟩:=hv
 have hown':OwnS cc E w' base a' cap' (l ++ [y]):=by
  unfold OwnS;rw [List.length_append,Zdc];exact h6
 have hbel:Below base (w.alloc (.cells cs E')) w':=Below.of_grown h7 (by simp;omega) (by
  intro g hg
  exact (World.ownsRow.lt hown g hg).1)
 unfold Oper.wp
 simp [execOp,ho,resolve,invoke,builtin,hs,hx,hr,Result.andThen]
 refine h a' cap' w' hown' (((Below.refl base w).alloc hbase _).trans hbel) ⟨h7.os,h7.tape,h7.output,Nat.le_trans (by simp) h7.size,fun q hq hr=>(h7.block q (by simp;omega) hr).trans (Below.heap_alloc _ _ _ hq)⟩ ?_
 rintro g rfl
 rcases h9 with h9 | h9
 ·left
  rcases hown.form with ⟨rfl,_,_⟩ | ⟨g',rfl,_⟩
  ·simp [Value.ownBlock] at h9
  ·simp [Value.ownBlock] at h9
   rw [h9]
 ·right
  simp [Value.ownBlock] at h9
  omega
end
end Go.Proofs.Ytnkpnjnfddjfpaa

namespace Go.Proofs.Ytnkpnjnfddjfpaa.M27
open M01 M02 M04 M06 M10
structure Hd where
 s:Nat
 m:Nat
 pl:Nat
 used:List Nat
 group:List Nat
 tabs:List (List Nat)
 at2:Nat
def hd6 (B:List Nat) (s m pl:Nat) (used:List Nat) (mn:Nat) (group:List Nat) (at_:Nat):Option Hd:=(tabsL B (used.length + 2) mn at_ []).bind fun t=>some ⟨s,m,pl,used,group,t.1,t.2⟩
def hd5 (B:List Nat) (s m pl:Nat) (used:List Nat) (mn at_:Nat):Option Hd:=if mn < 2 \/ 6 < mn then none else (selG B at_ mn).bind fun g=>hd6 B s m pl used mn g.1 g.2
def hd4 (B:List Nat) (s m pl:Nat) (used:List Nat) (at_:Nat):Option Hd:=(numG B at_ 3).bind fun mn=>hd5 B s m pl used mn.1 mn.2
def hd3 (B:List Nat) (s m pl at_:Nat):Option Hd:=(pickG B at_).bind fun u=>hd4 B s m pl u.1 u.2
def hd2 (B:List Nat) (s m at_:Nat):Option Hd:=(numG B at_ 24).bind fun pl=>hd3 B s m pl.1 pl.2
end Go.Proofs.Ytnkpnjnfddjfpaa.M27

namespace Go.Proofs.Ytnkpnjnfddjfpaa
open Go.RowKit Go.Shelf
theorem Zoz (w:World):(Instr.typeAssert Value.nilIface 20 25 true).run Try.prog w = .ok (.tuple #[.int .i64 0,.bool false]) w:=by kernel_rfl
theorem Zoy (n:Int) (w:World):(Instr.typeAssert (.iface 25 (.int .i64 n)) 20 25 true).run Try.prog w = .ok (.tuple #[.int .i64 n,.bool true]) w:=by kernel_rfl
def OneR (q:Nat) (A:World) (z:Value):Prop:=A.heap[q]? = some (.cells #[z] 25 (0,0))
theorem OneR.only {q:Nat} {A B:World} {z:Value} {T:Nat -> Prop} (h:OneR q A z) (ho:Only T A B) (hT:¬ T q):OneR q B z:=Zac h ho hT
theorem OneR.below {q:Nat} {A B:World} {z:Value} (h:OneR q A z) (ho:Below A.heap.size A B):OneR q B z:=(ho.block q (Array.getElem?_eq_some_iff.1 h).1).trans h
theorem OneR.belowAt {q n:Nat} {A B:World} {z:Value} (h:OneR q A z) (ho:Below n A B) (hq:q < n):OneR q B z:=(ho.block q hq).trans h
theorem OneR.set {q:Nat} {A:World} {z:Value} (h:OneR q A z) (y:Value):OneR q (A.setCell ⟨q,0,none⟩ y) y:=by
 show (A.heap.modify q _)[q]? = _
 rw [Array.getElem?_modify,if_pos rfl,h];rfl
theorem OneR.new (w:World) (z:Value):OneR w.heap.size (w.alloc (.cells #[z] 25)) z:=World.alloc_heap_new _ _
theorem Zbc {A:World} {b i:Nat} {cs:Array Value} {x:Value} {t:TypeId} (h:A.heap[b]? = some (.cells cs t (0,0))):(A.setCell ⟨b,i,none⟩ x).heap[b]? = some (.cells (cs.setIfInBounds i x) t (0,0)):=by
 show (A.heap.modify b _)[b]? = _
 rw [Array.getElem?_modify,if_pos rfl,h];rfl
end Go.Proofs.Ytnkpnjnfddjfpaa

namespace Go.Proofs.Ytnkpnjnfddjfpaa
open Go.RowKit M01 M02 M04 M10 M27
theorem Zkp (w:World) (o:Obj) {n:Nat} (h:n = w.heap.size):(w.alloc o).heap[n]? = some o:=by subst h;show (w.heap.push o)[w.heap.size]? = _;simp
abbrev Ts:=List (Option Addr × Nat × List Nat)
theorem app1SAt {P:Program} {T E:TypeId} {α:Type} {cc:Enc α} {z:Value} {bytes:Nat} (et:ElemS P T E cc z bytes) {w:World} {ops:Array Oper} {rest:List Oper} {o:Oper} {ac:Act} {Q:Exit -> Act -> World -> Prop} (hgd:o.guard = none) (s x:Operand)
  (ho:o.op = .call { callee:=.builtin .append,args:=#[s,x],argTypes:=#[T,T] }) {base:Nat} {a:Option Addr} {cap:Nat} {l:List α} (y:α) {cs:Array Value} {c E':Nat}
  (hs:ac.eval s = .slice a l.length cap) (hown:OwnS cc E w base a cap l) (hx:ac.eval x = .slice (some ⟨w.heap.size,0,none⟩) 1 c) (hcs:cs = (cc.cells y).toArray) (hc:1 <= c) (hc':c <= 9223372036854775807)
  (hn:l.length + 1 <= 9223372036854775807) (hbytes:(l.length + 1) * bytes <= 140737488355328) (hbase:base <= w.heap.size)
  (h:∀ a' cap' w',OwnS cc E w' base a' cap' (l ++ [y]) -> Below base w w' -> w.grownBy w' (Value.slice a l.length cap).ownBlock -> (∀ g,a' = some ⟨g,0,none⟩ -> a = some ⟨g,0,none⟩ \/ w.heap.size <= g) -> wpList P ops Q rest (ac.put o.dst (.slice a' (l.length + 1) cap')) w') :
  wpList P ops Q (o :: rest) ac (w.alloc (.cells cs E')):=by
 refine wpList_plain (by assumption) fun K hK'=>?_
 have hw:Region.wanted o (yielded ops ac.tmps) = true:=by simp [Region.wanted,hgd]
 have:=Zqm (ops:=ops) (K:=K) (Q:=Q) (G:=False) et hgd s x ho y (E':=E') hs hown hx hcs hc hc' hn hbytes hbase (fun a' cap' w' h1 h2 h3 h4=>hK' _ _ (h a' cap' w' h1 h2 h3 h4))
 rw [if_pos hw] at this
 exact this
section
variable {q : Nat} {A : World} {x0 x1 x2 x3 x4 : Value} {ua : Option Addr} {uc : Nat} {used : List Nat} {ga : Option Addr} {gc : Nat} {group : List Nat} {wg : Option Addr} {wc : Nat} {ts : Ts}
theorem Zdh {E:TypeId} {k:IntKind} {w:World} {base cap:Nat} {a:Option Addr} {l:List Nat} (h:OwnN E k w base a cap l) {g:Nat} (e:a = some ⟨g,0,none⟩):base <= g /\ g < w.heap.size:=by
 rcases h.form with ⟨h1,_⟩ | ⟨g2,h1,h2,h3⟩ <;> rw [h1] at e <;> cases e
 exact ⟨h2,h3⟩
end
end Go.Proofs.Ytnkpnjnfddjfpaa

namespace Go.Proofs.Ytnkpnjnfddjfpaa
open Go.RowKit M01 M02 M10 M27
def placesL:List Nat -> List Nat -> List Nat
 | l,[]=>[]
 | l,c :: r=>l.idxOf c :: placesL (toFront l (l.idxOf c)) r
theorem Zvt {l:List Nat} {c k:Nat} (hk:k < l.length) (h1:∀ j (h:j < l.length),j < k -> l[j] ≠ c) (h2:l[k] = c):l.idxOf c = k:=by
 unfold List.idxOf
 rw [List.findIdx_eq hk]
 exact ⟨by simpa using h2,fun j hj=>by simpa using h1 j (by omega) hj⟩
theorem Zcg {l:List Nat} {k x:Nat} (hk:k < l.length) (h:x ∈ l):x ∈ toFront l k:=by
 unfold toFront
 have e:l = l.take k ++ l[k] :: l.drop (k + 1):=by rw [<- List.drop_eq_getElem_cons hk,List.take_append_drop]
 rw [e] at h
 rcases List.mem_append.1 h with h | h
 ·exact List.mem_cons.2 (.inr (List.mem_append.2 (.inl h)))
 ·rcases List.mem_cons.1 h with h | h
  ·refine List.mem_cons.2 (.inl ?_)
   rw [List.getD_eq_getElem?_getD,List.getElem?_eq_getElem hk];exact h
  ·exact List.mem_cons.2 (.inr (List.mem_append.2 (.inr h)))
theorem Zde:∀ (r l:List Nat),(placesL l r).length = r.length
 | [],l=>rfl
 | c :: r,l=>by unfold placesL;rw [List.length_cons,List.length_cons,Zde r]
set_option maxRecDepth 100000 in
set_option maxHeartbeats 3200000 in
theorem Zlz (ua ba:Option Addr) (uc bc:Nat) (used bl:List Nat) (w:World) (hu:RowN .u8 w ua uc used) (hb:RowN .u8 w ba bc bl) (hin:∀ x ∈ bl,x ∈ used) (hul:used.length <= 256) (hbl:bl.length <= 1000000) (h256:∀ x ∈ used,x < 256) :
  Calls Try.prog 129 #[.slice ua used.length uc,.slice ba bl.length bc] w fun e w'=>∃ g c,e = .returned (.slice g bl.length c) /\ OwnN 3 .i64 w' w.heap.size g c (placesL used bl) /\ Below w.heap.size w w':=by
 have HB:=Zh hb
 have HIN:=Zh hin
 obtain ⟨q,hq⟩:∃ q,w.heap.size = q:=⟨_,rfl⟩
 have HQ:=Zh hq
 have HU:=Zh (hu.below (Zai w (.cells #[] 5)))
 have HBX:=Zh (Zai w (.cells #[] 5))
 obtain ⟨P,hP⟩:∃ P,P = placesL used bl:=⟨_,rfl⟩
 have HP0:Hid ([] ++ placesL used (bl.drop 0) = P):=hP.symm
 have HPE:=Zh hP
 rw [<- hP]
 obtain ⟨n,hn⟩:∃ n,bl.length = n:=⟨_,rfl⟩
 have HLN:=Zh hn
 have HPL:Hid (P.length = n):=by unfold Hid;rw [hP,Zde,hn]
 rw [hn] at hbl ⊢
 rw [hq] at HBX
 clear hb hin hu hq hP hn
 go_enter Try.func129,Try.ntmps129
 go_wp2_with (at_builtin;refine appAnyN Zbl rfl (.tmp 9) (.tmp 10) rfl (a:=some ⟨w.heap.size,0,none⟩) (cap:=0) (l:=[]) (ys:=used) (base:=w.heap.size) rfl (OwnN.lit0 _ _ _ _ (Nat.le_refl _)) rfl rfl HU.out (by simp;omega) (by simp;omega) (by simp) ?_;intro a1 c1 w1 hown1 hg1 hb1;simp only [List.nil_append] at hown1;simp only [List.length_nil,Nat.zero_add];have HO1:=Zh hown1;have HB1:=Zh ((Zai w _).trans hb1);clear hown1 hg1 hb1)
 go_loopw [5,6,7] (fun lv ov iv A=>∃ (i:Nat) (lg:Option Addr) (lc:Nat) (fl:List Nat) (og:Option Addr) (oc:Nat) (o:List Nat),i <= n /\ iv = .int .i64 (i:Nat) /\ lv = .slice lg fl.length lc /\ ov = .slice og o.length oc /\ Hid (fl.length = used.length) /\ Hid (o.length = i) /\ Hid (∀ x ∈ bl,x ∈ fl) /\ Hid (OwnN 5 .u8 A q lg lc fl) /\ Hid (OwnN 3 .i64 A q og oc o) /\ Hid (∀ g,lg = some ⟨g,0,none⟩ -> og ≠ some ⟨g,0,none⟩) /\ Hid (Below q w A) /\ Hid (o ++ placesL fl (bl.drop i) = P)) (fun _ _ iv _=>n - (intOf iv).toNat)
 case atStart=>exact ⟨0,a1,c1,used,none,0,[],Nat.zero_le _,rfl,rfl,rfl,rfl,rfl,HIN.out,by rw [<- HQ.out];exact HO1.out,OwnN.nil _ _ _ _,(fun g _ h=>by cases h),by rw [<- HQ.out];exact HB1.out,HP0.out⟩
 case round =>
  clear HO1 HB1 HP0
  obtain ⟨i,lg,lc,fl,og,oc,o,hi,rfl,rfl,rfl,HFL,HOL,HFI,HL,HO,HNE,HE,HF⟩:=hrel
  generalize wr = W at *
  by_cases hlt:i < n
  case neg =>
   obtain rfl:i = n:=by omega
   have t0:decide (i < i) = false:=by simp
   go_wp2_with fail
   go_ret
   have he:o = P:=by have:=HF.out;rw [List.drop_eq_nil_of_le (by rw [HLN.out];exact Nat.le_refl _)] at this;simpa [placesL] using this
   rw [HQ.out]
   exact ⟨og,oc,by rw [HOL.out];rfl,by rw [<- he];exact HO.out,HE.out⟩
  have t0:decide ((i:Int) < (n:Int)) = true:=by simp;omega
  have hil:i < bl.length:=by rw [HLN.out];exact hlt
  obtain ⟨bb,boff,rfl,hbb,hbc⟩:=(HB.out.below (HQ.out ▸ HE.out)).at hil
  have hcf:=HFI.out _ (List.getElem_mem hil)
  have HDR:Hid (bl.drop i = bl[i] :: bl.drop (i + 1)):=List.drop_eq_getElem_cons hil
  generalize bl[i] = c at *
  have hio:fl.idxOf c < fl.length:=List.idxOf_lt_length_of_mem hcf
  have HIO:=Zh hio
  have HFLL:Hid (fl.length <= 256):=by have:=HFL.out;unfold Hid;omega
  clear hio hcf
  go_wp2_with fail
  go_loopw [8] (fun kv A=>∃ (k m:Nat),k < fl.length /\ kv = .int .i64 (k:Nat) /\ A = W.drewN m /\ Hid (∀ j (h:j < fl.length),j < k -> fl[j] ≠ c)) (fun kv _=>fl.length - (intOf kv).toNat)
  case atStart=>exact ⟨0,0,by have:=HIO.out;omega,rfl,rfl,fun j _ h=>absurd h (Nat.not_lt_zero j)⟩
  case round =>
   obtain ⟨k,m,hk,rfl,hwx,HNO⟩:=hrel
   subst hwx
   obtain ⟨gl,hlg,_,_,hlc,_⟩:=HL.out.at hk
   subst hlg
   have hbc2:(W.drewN m).cell? ⟨bb,boff + i,none⟩ = some (.int .u8 (c:Nat)):=hbc
   by_cases hc:fl[k] = c
   ·have t2:((fl[k]:Int) == (c:Int)) = true:=beq_iff_eq.2 (by omega)
    have t3:((fl[k]:Int) != (c:Int)) = false:=by rw [hc];simp
    have HIX:Hid (fl.idxOf c = k):=Zvt hk (fun j h hj=>HNO.out j h hj) hc
    generalize fl[k] = v at *
    clear HNO hc
    have hik:(i:Int) < (n:Int):=by omega
    have hkk:(k:Int) < (fl.length:Int):=by omega
    go_wp2_with fail
    go_quiet (fail)
    have HLX:=Zh (show OwnN 5 .u8 ((W.drewN m).drewN nq) q _ lc fl from HL.out)
    have HOX:=Zh (show OwnN 3 .i64 ((W.drewN m).drewN nq) q og oc o from HO.out)
    have HEX:=Zh (belDN (belDN HE.out m) nq)
    clear hbc hbc2 hlc
    simp only [World.drewN_drewN] at HLX HOX HEX ⊢
    generalize W.drewN (m + nq) = wx at *
    have HQX:Hid (q <= wx.heap.size):=by have:=HEX.out.size;have:=HQ.out;unfold Hid;omega
    have hol:o.length <= 1000000:=by have:=HOL.out;omega
    have HKF:=Zh hk
    go_wp2_with (at_builtin;refine app1At (y:=k) Zaz rfl (.tmp 29) (.tmp 31) rfl rfl HOX.out rfl (by omega) (by omega) (by omega) (by omega) HQX.out ?_;intro a7 c7 w7 hown7 hg7 hb7 hf7;have HO7:=Zh hown7;have HB7:=Zh hb7;have HL7:=Zh (HLX.out.kept hg7 (fun g hg e=>HNE.out g hg (Zdq HOX.out e)));clear hown7 hg7 hb7 hf7)
    refine (Znm _ lc fl k w7 HL7.out.row HKF.out (by have:=HFLL.out;omega)).mono ?_
    rintro e w8 ⟨ng,nc,rfl,hmo,hb8⟩
    have HQ7:Hid (q <= w7.heap.size):=by have:=HB7.out.size;have:=HQX.out;unfold Hid;omega
    have HO8:=Zh (HO7.out.below hb8)
    have HL8:=Zh (hmo.mono HQ7.out)
    have HE8:=Zh ((HEX.out.trans HB7.out).trans (hb8.mono HQ7.out))
    have hne8:∀ g,ng = some ⟨g,0,none⟩ -> a7 ≠ some ⟨g,0,none⟩:=fun g hg e=>by
     have h1:=(Zdh hmo hg).1
     have h2:=(Zdh HO7.out e).2
     omega
    have HNE8:=Zh hne8
    have HF8:Hid ((o ++ [k]) ++ placesL (toFront fl k) (bl.drop (i + 1)) = P):=by
     have h:=HF.out
     rw [HDR.out,placesL,HIX.out] at h
     unfold Hid
     rw [List.append_assoc]
     exact h
    clear hmo hb8 hne8
    go_wp2_with fail
    go_roundw
    case rel =>
     refine ⟨i + 1,ng,nc,toFront fl k,a7,c7,o ++ [k],by omega,by go_num,?_,by rw [List.length_append];rfl,?_,(by unfold Hid;rw [List.length_append,HOL.out];rfl),fun x hx=>Zcg HKF.out (HFI.out x hx),HL8.out,HO8.out,HNE8.out,HE8.out,HF8.out⟩
     ·rw [Zau HKF.out]
     ·unfold Hid;rw [Zau HKF.out];exact HFL.out
    case measure=>simp [intOf];omega
   ·have t2:((fl[k]:Int) == (c:Int)) = false:=beq_eq_false_iff_ne.2 (by omega)
    have t3:((fl[k]:Int) != (c:Int)) = true:=by simp;omega
    have hk1:k + 1 < fl.length:=by
     rcases Nat.lt_or_ge (k + 1) fl.length with h | h
     ·exact h
     ·exfalso
      have h3:=HIO.out
      have h4:fl[fl.idxOf c] = c:=List.getElem_idxOf h3
      rcases Nat.lt_or_ge (fl.idxOf c) k with h5 | h5
      ·exact HNO.out _ h3 h5 h4
      ·have h6:fl.idxOf c = k:=by omega
       simp only [h6] at h4
       exact hc h4
    have HNO2:Hid (∀ j (h:j < fl.length),j < k + 1 -> fl[j] ≠ c):=fun j h hj=>by
     rcases Nat.lt_or_ge j k with h2 | h2
     ·exact HNO.out j h h2
     ·obtain rfl:j = k:=by omega
      exact hc
    generalize fl[k] = v at *
    clear HNO hc
    have hik:(i:Int) < (n:Int):=by omega
    have hkk:(k:Int) < (fl.length:Int):=by omega
    have hfl2:=HFLL.out
    have uk1:wrap64 ((k:Int) + 1) = (k:Int) + 1:=IntWalk.wrap64_in _ (by omega)
    go_wp2_with fail
    go_quiet (fail)
    clear hbc hbc2 hlc t2 t3 hik hkk
    clear uk1
    simp only [World.drewN_drewN]
    go_wp2_with fail
    go_roundw
    case rel=>exact ⟨k + 1,m + nq,hk1,by go_num,by first | with_reducible rfl | exact World.drewN_drewN,HNO2.out⟩
    case measure=>simp [intOf];omega
end Go.Proofs.Ytnkpnjnfddjfpaa

namespace Go.Proofs.Ytnkpnjnfddjfpaa
open Go.RowKit M01 M02 M10 M27
def digL:Nat -> Nat -> List Nat
 | 0,_=>[]
 | f + 1,n=>if n = 0 then [] else if n % 2 = 1 then 0 :: digL f ((n - 1) / 2) else 1 :: digL f ((n - 2) / 2)
def digG (n:Nat):List Nat:=digL n n
theorem Zfd (f:Nat):digL f 0 = []:=by cases f <;> simp [digL]
theorem Zfc:∀ f g n,n <= f -> n <= g -> digL f n = digL g n
 | 0,g,n,h,_=>by
  obtain rfl:n = 0:=by omega
  rw [Zfd,Zfd]
 | f + 1,0,n,_,h=>by
  obtain rfl:n = 0:=by omega
  rw [Zfd,Zfd]
 | f + 1,g + 1,n,h1,h2=>by
  unfold digL
  by_cases h0:n = 0
  ·rw [if_pos h0,if_pos h0]
  ·rw [if_neg h0,if_neg h0,Zfc f g ((n - 1) / 2) (by omega) (by omega),Zfc f g ((n - 2) / 2) (by omega) (by omega)]
theorem Zvk {n:Nat} (h0:n ≠ 0) (h:n % 2 = 1):digG n = 0 :: digG ((n - 1) / 2):=by
 obtain ⟨m,rfl⟩:∃ m,n = m + 1:=⟨n - 1,by omega⟩
 conv=>lhs;unfold digG digL
 rw [if_neg h0,if_pos h]
 unfold digG
 rw [Zfc m _ _ (by omega) (Nat.le_refl _)]
theorem Zru {n:Nat} (h0:n ≠ 0) (h:¬ n % 2 = 1):digG n = 1 :: digG ((n - 2) / 2):=by
 obtain ⟨m,rfl⟩:∃ m,n = m + 1:=⟨n - 1,by omega⟩
 conv=>lhs;unfold digG digL
 rw [if_neg h0,if_neg h]
 unfold digG
 rw [Zfc m _ _ (by omega) (Nat.le_refl _)]
theorem Zfb:∀ f n,(digL f n).length <= n
 | 0,n=>by simp [digL]
 | f + 1,n=>by
  unfold digL
  by_cases h0:n = 0
  ·rw [if_pos h0];simp
  ·rw [if_neg h0]
   split
   ·rw [List.length_cons];have:=Zfb f ((n - 1) / 2);omega
   ·rw [List.length_cons];have:=Zfb f ((n - 2) / 2);omega
theorem Zfy:∀ f n,∀ x ∈ digL f n,x <= 1
 | 0,n,x,h=>by simp [digL] at h
 | f + 1,n,x,h=>by
  unfold digL at h
  split at h
  ·cases h
  ·split at h
   ·rcases List.mem_cons.1 h with h | h
    ·omega
    ·exact Zfy f _ x h
   ·rcases List.mem_cons.1 h with h | h
    ·omega
    ·exact Zfy f _ x h
set_option maxRecDepth 100000 in
set_option maxHeartbeats 1600000 in
theorem Zgs (n:Nat) (w:World) (hn:n <= 1000000) :
  Calls Try.prog 130 #[.int .i64 (n:Nat)] w fun e w'=>∃ g c,e = .returned (.slice g (digG n).length c) /\ OwnN 3 .i64 w' w.heap.size g c (digG n) /\ Below w.heap.size w w':=by
 obtain ⟨P,hP⟩:∃ P,P = digG n:=⟨_,rfl⟩
 have HP0:Hid ([] ++ digG n = P):=hP.symm
 have HPL:Hid (P.length <= n):=by unfold Hid;rw [hP];exact Zfb n n
 rw [<- hP]
 have HNN:=Zh hn
 clear hP
 go_enter Try.func130,Try.ntmps130
 go_wp2_with fail
 go_loopw [0,3] (fun nv ov A=>∃ (k:Nat) (g:Option Addr) (c:Nat) (o:List Nat),nv = .int .i64 (k:Nat) /\ k <= n /\ ov = .slice g o.length c /\ Hid (OwnN 3 .i64 A w.heap.size g c o) /\ Hid (Below w.heap.size w A) /\ Hid (o ++ digG k = P)) (fun nv _ _=>(intOf nv).toNat)
 case atStart=>exact ⟨n,none,0,[],rfl,Nat.le_refl _,rfl,OwnN.nil _ _ _ _,Below.refl _ _,HP0.out⟩
 case round =>
  clear HP0
  obtain ⟨k,g,c,o,rfl,hk,rfl,HO,HE,HF⟩:=hrel
  by_cases h0:k = 0
  ·subst h0
   go_wp2_with fail
   go_ret
   have he:o = P:=by have:=HF.out;simpa [digG,digL] using this
   rw [<- he]
   exact ⟨g,c,rfl,HO.out,HE.out⟩
  have t0:decide ((0:Int) < (k:Int)) = true:=by simp;omega
  have t0':decide (0 < k) = true:=by simp;omega
  have HQ:Hid (w.heap.size <= wr.heap.size):=HE.out.size
  have hol:o.length <= 1000000:=by
   have h1:=congrArg List.length HF.out
   rw [List.length_append] at h1
   have:=HPL.out
   omega
  by_cases h1:k % 2 = 1
  ·have v1':(k:Int) % 2 = 1:=by omega
   obtain ⟨j,hj⟩:∃ j,(k - 1) / 2 = j:=⟨_,rfl⟩
   have v2:IntKind.i64.wrap ((k:Int) - 1) = ((k - 1:Nat):Int):=by rw [IntWalk.i64_in _ (by omega)];omega
   have v3:((k - 1:Nat):Int) / 2 = (j:Int):=by omega
   have HF2:Hid ((o ++ [0]) ++ digG j = P):=by have h:=HF.out;rw [Zvk h0 h1,hj] at h;unfold Hid;rw [List.append_assoc];exact h
   have hjk:j < k:=by omega
   clear hj h1 HF
   go_wp2_with (at_builtin;refine app1N (y:=0) Zaz rfl (.tmp 9) (.tmp 10) rfl rfl HO.out rfl (by omega) (by omega) (by omega) (by omega) HQ.out ?_;intro a7 c7 w7 hown7 hg7 hb7;have HO7:=Zh hown7;have HB7:=Zh hb7;clear hown7 hg7 hb7)
   go_roundw
   case rel=>exact ⟨j,a7,c7,o ++ [0],by first | rfl | exact Zcw (by omega),by omega,by rw [List.length_append];rfl,HO7.out,HE.out.trans HB7.out,HF2.out⟩
   case measure=>simp [intOf];omega
  ·have v1':(k:Int) % 2 = 0:=by omega
   obtain ⟨j,hj⟩:∃ j,(k - 2) / 2 = j:=⟨_,rfl⟩
   have v2:IntKind.i64.wrap ((k:Int) - 2) = ((k - 2:Nat):Int):=by rw [IntWalk.i64_in _ (by omega)];omega
   have v3:((k - 2:Nat):Int) / 2 = (j:Int):=by omega
   have HF2:Hid ((o ++ [1]) ++ digG j = P):=by have h:=HF.out;rw [Zru h0 h1,hj] at h;unfold Hid;rw [List.append_assoc];exact h
   have hjk:j < k:=by omega
   clear hj h1 HF
   go_wp2_with (at_builtin;refine app1N (y:=1) Zaz rfl (.tmp 15) (.tmp 16) rfl rfl HO.out rfl (by omega) (by omega) (by omega) (by omega) HQ.out ?_;intro a7 c7 w7 hown7 hg7 hb7;have HO7:=Zh hown7;have HB7:=Zh hb7;clear hown7 hg7 hb7)
   go_roundw
   case rel=>exact ⟨j,a7,c7,o ++ [1],by first | rfl | exact Zcw (by omega),by omega,by rw [List.length_append];rfl,HO7.out,HE.out.trans HB7.out,HF2.out⟩
   case measure=>simp [intOf];omega
def putS (e:Nat):List Nat -> Nat -> List Nat
 | [],run=>digG run ++ [e]
 | k :: r,run=>if k = 0 then putS e r (run + 1) else (digG run ++ [k + 1]) ++ putS e r 0
def fputG (b:List Nat):List Nat × List Nat:=(usedG b,putS ((usedG b).length + 1) (placesL (usedG b) b) 0)
theorem Zhg (e:Nat):∀ (l:List Nat) (run:Nat),(putS e l run).length <= l.length + run + 1
 | [],run=>by unfold putS;rw [List.length_append];have:=Zfb run run;unfold digG;simp;omega
 | k :: r,run=>by
  unfold putS
  split
  ·have:=Zhg e r (run + 1);rw [List.length_cons];omega
  ·have h1:=Zhg e r 0
   have h2:=Zfb run run
   rw [List.length_append,List.length_append,List.length_cons]
   unfold digG
   simp
   omega
theorem Zgh:∀ (r l:List Nat),∀ x ∈ placesL l r,x <= l.length + r.length
 | [],l,x,h=>by cases h
 | c :: r,l,x,h=>by
  unfold placesL at h
  have h1:l.idxOf c <= l.length:=List.idxOf_le_length
  rcases List.mem_cons.1 h with h | h
  ·rw [h,List.length_cons];omega
  ·have h2:=Zgh r _ x h
   have h3:(toFront l (l.idxOf c)).length <= l.length + 1:=by unfold toFront;simp;omega
   rw [List.length_cons]
   omega
theorem Zui {l:List Nat} (h256:∀ x ∈ l,x < 256) {x:Nat} (h:x ∈ l):x ∈ usedG l:=by
 unfold usedG usedTo
 rw [List.mem_filter]
 exact ⟨List.mem_range.2 (h256 x h),by simpa using h⟩
theorem Zpd {l:List Nat} {x:Nat} (h:x ∈ usedG l):x < 256:=by
 unfold usedG usedTo at h
 rw [List.mem_filter] at h
 exact List.mem_range.1 h.1
set_option maxRecDepth 100000 in
set_option maxHeartbeats 3200000 in
theorem Ztf (a:Option Addr) (cap:Nat) (b:List Nat) (w:World) (hr:RowN .u8 w a cap b) (h256:∀ x ∈ b,x < 256) (hl:b.length <= 100000) :
  Calls Try.prog 72 #[.slice a b.length cap] w fun e w'=>∃ ug uc sg sc,e = .returned (.tuple #[.slice ug (fputG b).1.length uc,.slice sg (fputG b).2.length sc]) /\ OwnN 5 .u8 w' w.heap.size ug uc (fputG b).1 /\ OwnN 3 .i64 w' w.heap.size sg sc (fputG b).2 /\ Below w.heap.size w w':=by
 have HUS:=Zh (Zqh a cap b w hr h256 (by omega))
 have hul:(usedG b).length <= 256:=Zgl b 256
 have HPC:=Zh (fun w1 ug uc (h1:RowN .u8 w1 ug uc (usedG b)) (h2:RowN .u8 w1 a cap b)=>Zlz ug a uc cap (usedG b) b w1 h1 h2 (fun x hx=>Zui h256 hx) hul (by omega) (fun x hx=>Zpd hx))
 obtain ⟨q,hq⟩:∃ q,w.heap.size = q:=⟨_,rfl⟩
 have HQ:=Zh hq
 rw [hq] at HUS ⊢
 have HF1:Hid ((fputG b).1 = usedG b):=rfl
 obtain ⟨P,hP⟩:∃ P,(fputG b).2 = P:=⟨_,rfl⟩
 have HFP:=Zh hP
 have hP2:putS ((usedG b).length + 1) (placesL (usedG b) b) 0 = P:=hP
 generalize hu:usedG b = u at *
 have hpl:(placesL u b).length = b.length:=Zde b u
 have hple:=Zgh b u
 generalize hpc:placesL u b = pl at *
 obtain ⟨n,hn⟩:∃ n,b.length = n:=⟨_,rfl⟩
 rw [hn] at HUS HPC hpl hl ⊢
 have HPN:Hid (P.length <= n + 1):=by unfold Hid;rw [<- hP2];have:=Zhg (u.length + 1) pl 0;omega
 obtain ⟨e1,he1⟩:∃ e1,u.length + 1 = e1:=⟨_,rfl⟩
 rw [he1] at hP2
 have HE1:=Zh he1
 have HP0:Hid ([] ++ putS e1 (pl.drop 0) 0 = P):=hP2
 have HPL:=Zh hpl
 have HPLE:Hid (∀ x ∈ pl,x <= 200000):=fun x hx=>by have:=hple x hx;omega
 have HR:=Zh hr
 have hl2:=hl
 clear hr h256 hq hP hP2 hu hpc hn hpl he1 hl hple
 go_enter Try.func72,Try.ntmps72
 go_wp2_with fail
 refine HUS.out.mono ?_
 rintro e w1 ⟨ug,uc,rfl,hu1,hb1⟩
 have HU1:=Zh hu1
 have HB1:=Zh hb1
 have HQ1:Hid (q <= w1.heap.size):=by have:=hb1.size;have:=HQ.out;unfold Hid;omega
 go_wp2_with fail
 refine (HPC.out w1 ug uc hu1.row (HR.out.below (HQ.out ▸ hb1))).mono ?_
 rintro e w2 ⟨pg,pc,rfl,hp2,hb2⟩
 have HU2:=Zh (HU1.out.below hb2)
 have HB2:=Zh (HB1.out.trans (hb2.mono HQ1.out))
 have HP2:=Zh hp2.row
 have HQ2:Hid (q <= w2.heap.size):=by have:=hb2.size;have:=HQ1.out;unfold Hid;omega
 clear hu1 hb1 hp2 hb2 HU1 HB1 HPC HUS
 go_wp2_with fail
 go_loopw [6,7,8] (fun ov rv iv A=>∃ (i run:Nat) (og:Option Addr) (oc:Nat) (o:List Nat),i <= n /\ run <= i /\ iv = .int .i64 (i:Nat) /\ rv = .int .i64 (run:Nat) /\ ov = .slice og o.length oc /\ Hid (OwnN 3 .i64 A w2.heap.size og oc o) /\ Hid (Below w2.heap.size w2 A) /\ Hid (o ++ putS e1 (pl.drop i) run = P)) (fun _ _ iv _=>n - (intOf iv).toNat)
 case atStart=>exact ⟨0,0,none,0,[],Nat.zero_le _,Nat.le_refl _,rfl,rfl,rfl,OwnN.nil _ _ _ _,Below.refl _ _,HP0.out⟩
 case round =>
  clear HP0
  obtain ⟨i,run,og,oc,o,hi,hri,rfl,rfl,rfl,HO,HE,HF⟩:=hrel
  have HQW:Hid (w2.heap.size <= wr.heap.size):=HE.out.size
  by_cases hlt:i < n
  ·have t0:decide ((i:Int) < (n:Int)) = true:=by simp;omega
   have hip:i < pl.length:=by rw [HPL.out];exact hlt
   obtain ⟨gb,goff,rfl,hgb,hgc0⟩:=HP2.out.at hip
   have HGC:Hid (∀ A,Below w2.heap.size w2 A -> A.cell? ⟨gb,goff + i,none⟩ = some (.int .i64 (pl[i]:Nat))):=fun A hA=>(hA.cell (p:=⟨gb,goff + i,none⟩) hgb).trans hgc0
   have HDR:Hid (pl.drop i = pl[i] :: pl.drop (i + 1)):=List.drop_eq_getElem_cons hip
   have hkb:=HPLE.out _ (List.getElem_mem hip)
   generalize pl[i] = k at *
   have hgc:=HGC.out wr HE.out
   clear hgc0
   by_cases hk0:k = 0
   ·have t1:((k:Int) == 0) = true:=beq_iff_eq.2 (by omega)
    have HF2:Hid (o ++ putS e1 (pl.drop (i + 1)) (run + 1) = P):=by have h:=HF.out;rw [HDR.out,putS,if_pos hk0] at h;exact h
    clear hk0 HF
    go_wp2_with fail
    go_roundw
    case rel=>exact ⟨i + 1,run + 1,og,oc,o,hlt,by omega,by go_num,by go_num,by trivial,HO.out,HE.out,HF2.out⟩
    case measure=>simp [intOf];omega
   ·have t1:((k:Int) == 0) = false:=beq_eq_false_iff_ne.2 (by omega)
    have HF2:Hid (((o ++ digG run) ++ [k + 1]) ++ putS e1 (pl.drop (i + 1)) 0 = P):=by have h:=HF.out;rw [HDR.out,putS,if_neg hk0] at h;unfold Hid;simpa using h
    have hlen:o.length + (digG run).length + 1 <= 200000:=by
     have h1:=congrArg List.length HF2.out
     rw [List.length_append,List.length_append,List.length_append] at h1
     simp at h1
     have:=HPN.out
     omega
    have HDG:=Zh (Zgs run wr (by omega))
    generalize digG run = dg at *
    have HLE:=Zh hlen
    clear hk0 HF
    go_wp2_with fail
    refine HDG.out.mono ?_
    rintro e w3 ⟨dgg,dgc,rfl,hd3,hb3⟩
    have HO3:=Zh (HO.out.below hb3)
    have HE3:=Zh (HE.out.trans (hb3.mono HQW.out))
    have HD3:=Zh hd3.row
    have HQ3:Hid (w2.heap.size <= w3.heap.size):=HE3.out.size
    have hl4:o.length + dg.length <= 200000:=by have:=HLE.out;omega
    clear hd3 hb3 HDG
    obtain ⟨k1,hk1⟩:∃ k1,k + 1 = k1:=⟨_,rfl⟩
    rw [hk1] at HF2
    have u5:IntKind.i64.wrap ((k:Int) + 1) = (k1:Int):=by rw [IntWalk.i64_in _ (by omega)];omega
    clear hk1
    go_wp2_with (first | (at_builtin;refine appAnyN Zaz rfl (.tmp 27) (.tmp 29) rfl rfl HO3.out rfl rfl HD3.out (by omega) (by omega) HQ3.out ?_;intro a4 c4 w4 hown4 hg4 hb4;have HO4:=Zh hown4;have HE4:=Zh (HE3.out.trans hb4);have hgc4:=HGC.out w4 (HE3.out.trans hb4);have HQ4:=Zh (HE3.out.trans hb4).size;clear hown4 hg4 hb4) | (at_builtin;refine app1N (y:=k1) Zaz rfl (.tmp 31) (.tmp 37) rfl (show _ = Value.slice a4 (o ++ dg).length c4 by rw [List.length_append];rfl) HO4.out rfl (by omega) (by omega) (by rw [List.length_append];omega) (by rw [List.length_append];omega) HQ4.out ?_;intro a5 c5 w5 hown5 hg5 hb5;have HO5:=Zh hown5;have HE5:=Zh (HE4.out.trans hb5);clear hown5 hg5 hb5))
    go_roundw
    case rel=>exact ⟨i + 1,0,a5,c5,(o ++ dg) ++ [k1],hlt,Nat.zero_le _,by go_num,by trivial,by rw [List.length_append,List.length_append];rfl,HO5.out,HE5.out,HF2.out⟩
    case measure=>simp [intOf];omega
  ·obtain rfl:i = n:=by omega
   have t0:decide (i < i) = false:=by simp
   have HF2:Hid ((o ++ digG run) ++ [e1] = P):=by
    have h:=HF.out
    rw [List.drop_eq_nil_of_le (by rw [HPL.out];exact Nat.le_refl _),putS] at h
    unfold Hid
    simpa using h
   have hlen:o.length + (digG run).length + 1 <= 200000:=by
    have h1:=congrArg List.length HF2.out
    rw [List.length_append,List.length_append] at h1
    simp at h1
    have:=HPN.out
    omega
   have HDG:=Zh (Zgs run wr (by omega))
   generalize digG run = dg at *
   have HLE:=Zh hlen
   clear HF
   go_wp2_with fail
   refine HDG.out.mono ?_
   rintro e w3 ⟨dgg,dgc,rfl,hd3,hb3⟩
   have HO3:=Zh (HO.out.below hb3)
   have HE3:=Zh (HE.out.trans (hb3.mono HQW.out))
   have HD3:=Zh hd3.row
   have HQ3:Hid (w2.heap.size <= w3.heap.size):=HE3.out.size
   have hl4:o.length + dg.length <= 200000:=by have:=HLE.out;omega
   have u5:IntKind.i64.wrap ((u.length:Int) + 1) = (e1:Int):=by rw [IntWalk.i64_in _ (by omega)];have:=HE1.out;omega
   clear hd3 hb3 HDG
   go_wp2_with (first | (at_builtin;refine appAnyN Zaz rfl (.tmp 39) (.tmp 41) rfl rfl HO3.out rfl rfl HD3.out (by omega) (by omega) HQ3.out ?_;intro a4 c4 w4 hown4 hg4 hb4;have HO4:=Zh hown4;have HE4:=Zh (HE3.out.trans hb4);have HQ4:=Zh (HE3.out.trans hb4).size;clear hown4 hg4 hb4) | (at_builtin;refine app1N (y:=e1) Zaz rfl (.tmp 44) (.tmp 48) rfl (show _ = Value.slice a4 (o ++ dg).length c4 by rw [List.length_append];rfl) HO4.out rfl (by omega) (by omega) (by rw [List.length_append];omega) (by rw [List.length_append];omega) HQ4.out ?_;intro a5 c5 w5 hown5 hg5 hb5;have HO5:=Zh hown5;have HE5:=Zh (HE4.out.trans hb5);clear hown5 hg5 hb5))
   go_ret2
   rw [HF1.out,HFP.out]
   have hP:(o ++ dg) ++ [e1] = P:=HF2.out
   refine ⟨ug,uc,a5,c5,?_,HU2.out.below HE5.out,?_,HB2.out.trans (HE5.out.mono HQ2.out)⟩
   ·rw [<- hP,List.length_append,List.length_append];rfl
   ·rw [<- hP];exact HO5.out.mono HQ2.out
end Go.Proofs.Ytnkpnjnfddjfpaa

namespace Go.Proofs.Ytnkpnjnfddjfpaa
open Go.RowKit M01 M02 M10 M27
set_option maxRecDepth 100000 in
set_option maxHeartbeats 1600000 in
theorem Ztg (a:Option Addr) (cap:Nat) (l:List Nat) (c:Nat) (w:World) (hr:RowN .u8 w a cap l) (h256:∀ x ∈ l,x < 256) (hl:l.length <= 100000) :
  Calls Try.prog 131 #[.slice a l.length cap,.int .i64 (c:Nat)] w fun e w'=>e = .returned (.bool (decide (c ∈ l))) /\ w' = w:=by
 have HR:=Zh hr
 have H256:=Zh h256
 obtain ⟨R,hR⟩:∃ R,decide (c ∈ l) = R:=⟨_,rfl⟩
 rw [hR]
 have HRE:=Zh hR
 clear hr h256 hR
 go_enter Try.func131,Try.ntmps131
 go_wp2_with fail
 go_loopw [5] (fun iv A=>∃ i:Nat,i <= l.length /\ iv = .int .i64 (i:Nat) /\ A = w /\ Hid (∀ j (h:j < l.length),j < i -> l[j] ≠ c)) (fun iv _=>l.length - (intOf iv).toNat)
 case atStart=>exact ⟨0,Nat.zero_le _,rfl,rfl,fun j _ h=>absurd h (Nat.not_lt_zero j)⟩
 case round =>
  obtain ⟨i,hi,rfl,hw,HNO⟩:=hrel
  subst hw
  by_cases hlt:i < l.length
  ·have t0:decide (i < l.length) = true:=by simp;omega
   obtain ⟨b,off,rfl,_,hc⟩:=HR.out.at hlt
   have hx:=H256.out _ (List.getElem_mem hlt)
   by_cases hxc:l[i] = c
   ·have HT:Hid (R = true):=by unfold Hid;rw [<- HRE.out];exact decide_eq_true (hxc ▸ List.getElem_mem hlt)
    have t1:((l[i]:Int) == (c:Int)) = true:=beq_iff_eq.2 (by omega)
    generalize l[i] = x at *
    clear hxc HNO
    go_wp2_with fail
    go_ret
    exact ⟨by rw [HT.out];rfl,rfl⟩
   ·have t1:((l[i]:Int) == (c:Int)) = false:=beq_eq_false_iff_ne.2 (by omega)
    have HNO2:Hid (∀ j (h:j < l.length),j < i + 1 -> l[j] ≠ c):=fun j h hj=>by
     rcases Nat.lt_or_ge j i with h2 | h2
     ·exact HNO.out j h h2
     ·obtain rfl:j = i:=by omega
      exact hxc
    generalize l[i] = x at *
    clear hxc HNO
    go_wp2_with fail
    go_roundw
    case rel=>exact ⟨i + 1,by omega,by go_num,by trivial,HNO2.out⟩
    case measure=>simp [intOf];omega
  ·obtain rfl:i = l.length:=by omega
   have t0:decide (l.length < l.length) = false:=by simp
   have HT:Hid (R = false):=by
    unfold Hid
    rw [<- HRE.out]
    refine decide_eq_false fun h=>?_
    obtain ⟨j,hj,he⟩:=List.getElem_of_mem h
    exact HNO.out j hj hj he
   go_wp2_with fail
   go_ret
   exact ⟨by rw [HT.out];rfl,rfl⟩
theorem appSomeSAt {P:Program} {T E:TypeId} {α:Type} {cc:Enc α} {z:Value} {bytes:Nat} (et:ElemS P T E cc z bytes) {w:World} {ops:Array Oper} {rest:List Oper} {o:Oper} {ac:Act} {Q:Exit -> Act -> World -> Prop} (hgd:o.guard = none) (s x:Operand)
  (ho:o.op = .call { callee:=.builtin .append,args:=#[s,x],argTypes:=#[T,T] }) {base:Nat} {a:Option Addr} {cap m c:Nat} {l ys:List α}
  (hs:ac.eval s = .slice a l.length cap) (hown:OwnS cc E w base a cap l) {b:Addr} (hm:m = ys.length) (hx:ac.eval x = .slice (some b) m c) (hy:RowS cc w (some b) c ys)
  (hn:l.length + m <= 9223372036854775807) (hbytes:(l.length + m) * bytes <= 140737488355328) (hbase:base <= w.heap.size)
  (h:∀ a' cap' w',OwnS cc E w' base a' cap' (l ++ ys) -> w.grownBy w' (Value.slice a l.length cap).ownBlock -> Below base w w' -> (∀ g,a' = some ⟨g,0,none⟩ -> a = some ⟨g,0,none⟩ \/ w.heap.size <= g) -> wpList P ops Q rest (ac.put o.dst (.slice a' (l.length + m) cap')) w') :
  wpList P ops Q (o :: rest) ac w:=by
 subst hm
 obtain ⟨i,h2,h3,h4,h5⟩:=info_parts et.info
 refine wpList_plain (by assumption) fun K hK'=>?_
 have hcl:∀ j u,(flat cc ys)[j]? = some u -> w.cell? (b.add j) = some u:=by
  intro j u hu
  obtain ⟨_,_,rfl | ⟨b',off,he,_,hc⟩⟩:=hy
  ·simp [flat] at hu
  ·cases he
   have:=hc j u hu
   unfold Addr.add
   split
   ·simp_all
   ·exact this
 obtain ⟨v',w',hr,h6,h7,h8,h9⟩:=run_append_own_at (P:=P) w base T o.type E i z cc.sz bytes et.und h2 h3 h4 h5 et.zs cc.pos _ l.length _ hown b ys.length c (flat cc ys) (Zbt _)
  hcl (Zha _) (by simpa [maxLen] using hn) hbytes hbase
 have hv:∃ a' cap',v' = .slice a' (l.length + ys.length) cap':=by
  rcases h6.2 with ⟨h9,h10⟩ | ⟨g,c',cur,h9,_⟩
  ·exact ⟨none,0,by rw [h9,h10]⟩
  ·exact ⟨_,_,h9⟩
 obtain ⟨a',cap',rfl⟩:=hv
 have hown':OwnS cc E w' base a' cap' (l ++ ys):=by
  unfold OwnS;rw [List.length_append,Zdc];exact h6
 have hbel:Below base w w':=Below.of_grown h7 hbase (by
  intro g hg
  exact (World.ownsRow.lt hown g hg).1)
 unfold Oper.wp
 simp [execOp,ho,resolve,invoke,builtin,hs,hx,hr,Result.andThen]
 refine hK' _ _ (h a' cap' w' hown' h7 hbel ?_)
 rintro g rfl
 rcases h9 with h9 | h9
 ·left
  rcases hown.form with ⟨rfl,_,_⟩ | ⟨g',rfl,_⟩
  ·simp [Value.ownBlock] at h9
  ·simp [Value.ownBlock] at h9
   rw [h9]
 ·right
  simp [Value.ownBlock] at h9
  omega
theorem Zbr {α:Type} {cc:Enc α} {a:Option Addr} {n c g:Nat} {E:TypeId} {w:World} {base:Nat} {l:List α} (ho:OwnS cc E w base a c l) (h:(Value.slice a n c).ownBlock = some g):a = some ⟨g,0,none⟩:=by
 rcases ho.form with ⟨rfl,_⟩ | ⟨g0,rfl,_⟩
 ·simp [Value.ownBlock] at h
 ·simp [Value.ownBlock] at h
  rw [h]
theorem Zbz {α:Type} {cc:Enc α} {E:TypeId} {w:World} {base cap:Nat} {a:Option Addr} {l:List α} (h:OwnS cc E w base a cap l) {g:Nat} (e:a = some ⟨g,0,none⟩):base <= g /\ g < w.heap.size:=by
 rcases h.form with ⟨h1,_⟩ | ⟨g2,h1,h2,h3⟩ <;> rw [h1] at e <;> cases e
 exact ⟨h2,h3⟩
def grpL (u:List Nat) (g n:Nat):List Nat:=(List.range n).map fun k=>if 16 * g + k ∈ u then 1 else 0
def someG (u:List Nat) (g n:Nat):Bool:=(List.range n).any fun k=>decide (16 * g + k ∈ u)
def firstL (u:List Nat) (n:Nat):List Nat:=(List.range n).map fun g=>if someG u g 16 then 1 else 0
def restL (u:List Nat):Nat -> List Nat
 | 0=>[]
 | g + 1=>restL u g ++ if someG u g 16 then grpL u g 16 else []
def mapG (u:List Nat):List Nat:=firstL u 16 ++ restL u 16
theorem Zsh (u:List Nat) (g n:Nat):grpL u g (n + 1) = grpL u g n ++ [if 16 * g + n ∈ u then 1 else 0]:=by simp [grpL,List.range_succ]
theorem Zql (u:List Nat) (g n:Nat):someG u g (n + 1) = (someG u g n || decide (16 * g + n ∈ u)):=by simp [someG,List.range_succ]
theorem Zmz (u:List Nat) (n:Nat):firstL u (n + 1) = firstL u n ++ [if someG u n 16 then 1 else 0]:=by simp [firstL,List.range_succ]
theorem Zck (u:List Nat) (g n:Nat):(grpL u g n).length = n:=by simp [grpL]
theorem Zbf (u:List Nat) (n:Nat):(firstL u n).length = n:=by simp [firstL]
theorem Zfk (u:List Nat):∀ g,(restL u g).length <= 16 * g
 | 0=>Nat.le_refl _
 | g + 1=>by
  unfold restL
  have:=Zfk u g
  rw [List.length_append]
  split
  ·rw [Zck];omega
  ·simp;omega
set_option maxRecDepth 100000 in
set_option maxHeartbeats 3200000 in
theorem Zma (a:Option Addr) (cap:Nat) (u:List Nat) (w:World) (hr:RowN .u8 w a cap u) (h256:∀ x ∈ u,x < 256) (hl:u.length <= 100000) :
  Calls Try.prog 73 #[.slice a u.length cap] w fun e w'=>∃ g c,e = .returned (.slice g (mapG u).length c) /\ OwnB w' w.heap.size g c (mapG u) /\ Below w.heap.size w w':=by
 have HH:=Zh (fun A c (h:Below w.heap.size w A)=>Ztg a cap u c A (hr.below h) h256 hl)
 obtain ⟨q,hq⟩:∃ q,w.heap.size = q:=⟨_,rfl⟩
 rw [hq] at HH ⊢
 have HQ:=Zh hq
 clear hr hq h256
 go_enter Try.func73,Try.ntmps73
 go_wp2_with fail
 go_loopw [3,4,5] (fun fv rv gv A=>∃ (g:Nat) (fa ra:Option Addr) (fc rc:Nat) (rl:List Nat),g <= 16 /\ gv = .int .i64 (g:Nat) /\ fv = .slice fa (firstL u g).length fc /\ rv = .slice ra rl.length rc /\ Hid (rl = restL u g) /\ rl.length <= 16 * g /\ Hid (OwnB A q fa fc (firstL u g)) /\ Hid (OwnB A q ra rc rl) /\ Hid (∀ x,fa = some ⟨x,0,none⟩ -> ra ≠ some ⟨x,0,none⟩) /\ Hid (Below q w A)) (fun _ _ gv _=>16 - (intOf gv).toNat)
 case atStart=>exact ⟨0,none,none,0,0,[],Nat.zero_le _,rfl,rfl,rfl,rfl,Nat.le_refl _,OwnS.nil _ _ _ _,OwnS.nil _ _ _ _,(fun x h=>by cases h),Below.refl _ _⟩
 case round =>
  obtain ⟨g,fa,ra,fc,rc,rl,hg,rfl,rfl,rfl,HRE,hrl,HF,HRR,HNE,HE⟩:=hrel
  generalize wr = W at *
  rw [Zbf]
  by_cases hlt:g < 16
  case neg =>
   obtain rfl:g = 16:=by omega
   have t0:decide ((16:Int) < 16) = false:=by simp
   have HQW:Hid (q <= W.heap.size):=by have:=HE.out.size;have:=HQ.out;unfold Hid;omega
   have HRL:=Zh hrl
   have hrl4:rl.length <= 256:=by omega
   have HFL:Hid ((firstL u 16).length = 16):=Zbf u 16
   have HM:Hid (mapG u = firstL u 16 ++ rl):=by unfold Hid mapG;rw [<- HRE.out]
   generalize firstL u 16 = fl at *
   clear hrl
   go_wp2_with (at_builtin;refine appAnyS Zad rfl (.tmp 40) (.tmp 41) rfl (show _ = Value.slice fa fl.length fc by rw [HFL.out];rfl) HF.out rfl rfl (OwnS.row HRR.out) (by rw [HFL.out];omega) (by rw [HFL.out];omega) HQW.out ?_;intro a7 c7 w7 hown7 hg7 hb7;have HO7:=Zh hown7;have HB7:=Zh hb7;clear hown7 hg7 hb7)
   go_ret
   rw [HM.out]
   exact ⟨a7,c7,by rw [List.length_append,HFL.out];rfl,HO7.out,HE.out.trans HB7.out⟩
  have t0:decide ((g:Int) < 16) = true:=by simp;omega
  have t0':decide (g < 16) = true:=by simp;omega
  have HQW:Hid (q <= W.heap.size):=by have:=HE.out.size;have:=HQ.out;unfold Hid;omega
  have HRL:=Zh hrl
  clear hrl
  go_wp2_with fail
  go_loopw [6,7,8] (fun bv sv kv A=>∃ (k:Nat) (ba:Option Addr) (bc:Nat),k <= 16 /\ kv = .int .i64 (k:Nat) /\ sv = .bool (someG u g k) /\ bv = .slice ba (grpL u g k).length bc /\ Hid (OwnB A W.heap.size ba bc (grpL u g k)) /\ Hid (Below W.heap.size W A)) (fun _ _ kv _=>16 - (intOf kv).toNat)
  case atStart=>exact ⟨0,none,0,Nat.zero_le _,rfl,rfl,rfl,OwnS.nil _ _ _ _,Below.refl _ _⟩
  case round =>
   obtain ⟨k,ba,bc,hk,rfl,rfl,rfl,HB,HE2⟩:=hrel
   rw [Zck]
   have HQ2:Hid (W.heap.size <= wr.heap.size):=HE2.out.size
   by_cases hlt2:k < 16
   ·have t1:decide ((k:Int) < 16) = true:=by simp;omega
    have t1':decide (k < 16) = true:=by simp;omega
    obtain ⟨c,hc⟩:∃ c,16 * g + k = c:=⟨_,rfl⟩
    have u1:IntKind.i64.wrap ((16:Int) * (g:Int)) = ((16 * g:Nat):Int):=by rw [IntWalk.i64_in _ (by omega)];omega
    have u2:(16:Int) * (g:Int) + (k:Int) = (c:Int):=by omega
    have HHC:=Zh (HH.out wr c (HE.out.trans (HE2.out.mono HQW.out)))
    have HGS:=Zh (Zsh u g k)
    have HSS:=Zh (Zql u g k)
    rw [hc] at HGS HSS
    obtain ⟨m,hm⟩:∃ m,decide (c ∈ u) = m:=⟨_,rfl⟩
    rw [hm] at HHC HSS
    have HY:Hid (((if c ∈ u then 1 else 0:Nat) == 1) = m):=by
     unfold Hid
     rw [<- hm]
     by_cases h:c ∈ u <;> simp [h]
    obtain ⟨y,hy⟩:∃ y,(if c ∈ u then 1 else 0:Nat) = y:=⟨_,rfl⟩
    rw [hy] at HY HGS
    have HCS:Hid (#[Value.bool m] = (encB.cells y).toArray):=by unfold Hid;simp [encB,HY.out]
    have HGL:Hid ((grpL u g k).length = k):=Zck u g k
    clear hm hy
    generalize grpL u g k = bl at *
    obtain ⟨b,hb⟩:∃ b,someG u g k = b:=⟨_,rfl⟩
    rw [hb] at HSS ⊢
    have HHB:=Zh hb
    clear hb
    cases b
    case false =>
     have HSV:Hid (someG u g (k + 1) = m):=by unfold Hid;rw [HSS.out];simp
     go_wp2_with fail
     refine HHC.out.mono ?_
     rintro e w3 ⟨rfl,hw3⟩
     replace hw3:=hw3.symm
     subst hw3
     go_wp2_with (at_builtin;refine app1S (cs:=#[.bool m]) Zad rfl (.tmp 28) (.tmp 30) rfl y (show _ = Value.slice ba bl.length bc by rw [HGL.out];rfl) HB.out rfl HCS.out (by omega) (by omega) (by rw [HGL.out];omega) (by rw [HGL.out];omega) HQ2.out ?_;intro a7 c7 w7 hown7 hg7 hb7;have HO7:=Zh hown7;have HB7:=Zh hb7;clear hown7 hg7 hb7)
     go_roundw
     case rel=>exact ⟨k + 1,a7,c7,by omega,by go_num,by rw [HSV.out],by rw [HGS.out,List.length_append];rfl,by rw [HGS.out];exact HO7.out,HE2.out.trans HB7.out⟩
     case measure=>simp [intOf];omega
    case true =>
     have HSV:Hid (someG u g (k + 1) = true):=by unfold Hid;rw [HSS.out];simp
     go_wp2_with fail
     refine HHC.out.mono ?_
     rintro e w3 ⟨rfl,hw3⟩
     replace hw3:=hw3.symm
     subst hw3
     go_wp2_with (at_builtin;refine app1S (cs:=#[.bool m]) Zad rfl (.tmp 28) (.tmp 30) rfl y (show _ = Value.slice ba bl.length bc by rw [HGL.out];rfl) HB.out rfl HCS.out (by omega) (by omega) (by rw [HGL.out];omega) (by rw [HGL.out];omega) HQ2.out ?_;intro a7 c7 w7 hown7 hg7 hb7;have HO7:=Zh hown7;have HB7:=Zh hb7;clear hown7 hg7 hb7)
     go_roundw
     case rel=>exact ⟨k + 1,a7,c7,by omega,by go_num,by rw [HSV.out],by rw [HGS.out,List.length_append];rfl,by rw [HGS.out];exact HO7.out,HE2.out.trans HB7.out⟩
     case measure=>simp [intOf];omega
   ·obtain rfl:k = 16:=by omega
    have t1:decide ((16:Int) < 16) = false:=by simp
    have HBR:=Zh (OwnS.row HB.out)
    have HBL:Hid (16 = (grpL u g 16).length):=(Zck u g 16).symm
    obtain ⟨bb,rfl⟩:∃ bb,ba = some ⟨bb,0,none⟩:=by
     rcases OwnS.form HB.out with ⟨_,_,h⟩ | ⟨gg,h,_⟩
     ·have:=HBL.out;rw [h] at this;simp at this
     ·exact ⟨gg,h⟩
    have HB2:=HB
    have HFW:=Zh (OwnS.below HF.out HE2.out)
    have HRW:=Zh (OwnS.below HRR.out HE2.out)
    have HQR:Hid (q <= wr.heap.size):=Nat.le_trans HQW.out HQ2.out
    have HEW:=Zh (HE.out.trans (HE2.out.mono HQW.out))
    have HFS:=Zh (Zmz u g)
    have HFL:Hid ((firstL u g).length = g):=Zbf u g
    have HRS:Hid (restL u (g + 1) = restL u g ++ if someG u g 16 then grpL u g 16 else []):=rfl
    generalize grpL u g 16 = gl at *
    generalize firstL u g = fl at *
    obtain ⟨b,hb⟩:∃ b,someG u g 16 = b:=⟨_,rfl⟩
    rw [hb] at HFS HRS ⊢
    have hrl4:rl.length <= 256:=by have:=HRL.out;omega
    clear hb
    cases b
    case false =>
     have HFS2:Hid (firstL u (g + 1) = fl ++ [0]):=by unfold Hid;rw [HFS.out];rfl
     go_wp2_with (first | (at_builtin;refine app1SAt (cs:=#[.bool false]) Zad rfl (.tmp 32) (.tmp 34) rfl 0 (show _ = Value.slice fa fl.length fc by rw [HFL.out];rfl) HFW.out rfl rfl (by omega) (by omega) (by rw [HFL.out];omega) (by rw [HFL.out];omega) HQR.out ?_;intro a7 c7 w7 hown7 hb7 hg7 hf7;have HO7:=Zh hown7;have HB7:=Zh hb7;have HR7:=Zh (OwnS.kept HRW.out hg7 (fun x hx e=>HNE.out x (Zbr HFW.out e.symm.symm) hx));have HF7:=Zh hf7;have HQ7:=Zh (Nat.le_trans HQR.out hg7.size);have HBL7:=Zh (OwnS.kept HB2.out hg7 (fun x hx e=>by have h1:=(Zbz HB2.out hx).1;have h2:=(Zbz HF.out (Zbr HFW.out e)).2;omega));clear hown7 hg7 hb7 hf7))
     have HRS2:Hid (restL u (g + 1) = rl):=by unfold Hid;rw [HRS.out,<- HRE.out];simp
     have hne7:∀ x,a7 = some ⟨x,0,none⟩ -> ra ≠ some ⟨x,0,none⟩:=fun x hx e=>by
      rcases HF7.out x hx with h4 | h4
      ·exact HNE.out x h4 e
      ·have h5:=(Zbz HRW.out e).2;omega
     go_roundw
     case rel=>exact ⟨g + 1,a7,ra,c7,rc,rl,by omega,by go_num,by rw [HFS2.out,List.length_append];rfl,rfl,HRS2.out.symm,by have:=HRL.out;omega,by rw [HFS2.out];exact HO7.out,HR7.out,hne7,HEW.out.trans HB7.out⟩
     case measure=>simp [intOf];omega
    case true =>
     have HFS2:Hid (firstL u (g + 1) = fl ++ [1]):=by unfold Hid;rw [HFS.out];rfl
     go_wp2_with (first | (at_builtin;refine app1SAt (cs:=#[.bool true]) Zad rfl (.tmp 32) (.tmp 34) rfl 1 (show _ = Value.slice fa fl.length fc by rw [HFL.out];rfl) HFW.out rfl rfl (by omega) (by omega) (by rw [HFL.out];omega) (by rw [HFL.out];omega) HQR.out ?_;intro a7 c7 w7 hown7 hb7 hg7 hf7;have HO7:=Zh hown7;have HB7:=Zh hb7;have HR7:=Zh (OwnS.kept HRW.out hg7 (fun x hx e=>HNE.out x (Zbr HFW.out e.symm.symm) hx));have HF7:=Zh hf7;have HQ7:=Zh (Nat.le_trans HQR.out hg7.size);have HBL7:=Zh (OwnS.kept HB2.out hg7 (fun x hx e=>by have h1:=(Zbz HB2.out hx).1;have h2:=(Zbz HF.out (Zbr HFW.out e)).2;omega));clear hown7 hg7 hb7 hf7) | (at_builtin;refine appSomeSAt Zad rfl (.tmp 37) (.tmp 38) rfl rfl HR7.out HBL.out rfl (OwnS.row HBL7.out) (by omega) (by omega) HQ7.out ?_;intro a8 c8 w8 hown8 hg8 hb8 hf8;have HO8:=Zh hown8;have HB8:=Zh hb8;have HF8:=Zh hf8;have HFI8:=Zh (OwnS.kept HO7.out hg8 (fun x hx e=>by have h3:=Zbr HR7.out e;rcases HF7.out x hx with h4 | h4;exact HNE.out x h4 h3;have h5:=(Zbz HRW.out h3).2;omega));clear hown8 hg8 hb8 hf8))
     have HRS2:Hid (restL u (g + 1) = rl ++ gl):=by unfold Hid;rw [HRS.out,<- HRE.out];simp
     have hne8:∀ x,a7 = some ⟨x,0,none⟩ -> a8 ≠ some ⟨x,0,none⟩:=fun x hx e=>by
      rcases HF8.out x e with h6 | h6
      ·rcases HF7.out x hx with h4 | h4
       ·exact HNE.out x h4 h6
       ·have h5:=(Zbz HRW.out h6).2;omega
      ·have h7:=(Zbz HO7.out hx).2;omega
     go_roundw
     case rel=>exact ⟨g + 1,a7,a8,c7,c8,rl ++ gl,by omega,by go_num,by rw [HFS2.out,List.length_append];rfl,by rw [List.length_append,<- HBL.out],HRS2.out.symm,by have:=HRL.out;rw [List.length_append,<- HBL.out];omega,by rw [HFS2.out];exact HFI8.out,HO8.out,hne8,HEW.out.trans (HB7.out.trans HB8.out)⟩
     case measure=>simp [intOf];omega
end Go.Proofs.Ytnkpnjnfddjfpaa

namespace Go.Proofs.Ytnkpnjnfddjfpaa
open Go.RowKit M01 M02 M10 M27
def stepsL (a x:Nat):List Nat:=(List.replicate (x - a) [1,0] ++ List.replicate (a - x) [1,1]).flatten
theorem Zml (a:Nat):stepsL a a = []:=by simp [stepsL]
theorem Zua {a x:Nat} (h:a < x):stepsL a x = [1,0] ++ stepsL (a + 1) x:=by
 obtain ⟨d,hd⟩:∃ d,x - a = d + 1:=⟨x - a - 1,by omega⟩
 unfold stepsL
 rw [hd,show x - (a + 1) = d by omega,show a - x = 0 by omega,show a + 1 - x = 0 by omega,List.replicate_succ]
 simp
theorem Ztz {a x:Nat} (h:x < a):stepsL a x = [1,1] ++ stepsL (a - 1) x:=by
 obtain ⟨d,hd⟩:∃ d,a - x = d + 1:=⟨a - x - 1,by omega⟩
 unfold stepsL
 rw [hd,show a - 1 - x = d by omega,show x - a = 0 by omega,show x - (a - 1) = 0 by omega,List.replicate_succ]
 simp
theorem Zqn (a x:Nat):(stepsL a x).length = 2 * ((x - a) + (a - x)):=by
 unfold stepsL
 rw [List.length_flatten]
 simp
 omega
def lensR:Nat -> List Nat -> List Nat
 | _,[]=>[]
 | a,x :: r=>stepsL a x ++ 0 :: lensR x r
def lengthsG (l:List Nat):List Nat:=hbits (l.getD 0 0) 5 ++ lensR (l.getD 0 0) l
theorem Zff:∀ (l:List Nat) (a:Nat),a < 256 -> (∀ x ∈ l,x < 256) -> (lensR a l).length <= 512 * l.length
 | [],a,_,_=>by simp [lensR]
 | x :: r,a,ha,h=>by
  unfold lensR
  have h1:=h x (by simp)
  have h2:=Zff r x h1 (fun y hy=>h y (by simp [hy]))
  rw [List.length_append,List.length_cons,Zqn,List.length_cons]
  omega
set_option maxRecDepth 100000 in
set_option maxHeartbeats 3200000 in
theorem Zfj (a:Option Addr) (cap:Nat) (l:List Nat) (w:World) (hr:RowN .u8 w a cap l) (h256:∀ x ∈ l,x < 256) (hl:l.length <= 300) (h0:0 < l.length) :
  Calls Try.prog 75 #[.slice a l.length cap] w fun e w'=>∃ g c,e = .returned (.slice g (lengthsG l).length c) /\ OwnB w' w.heap.size g c (lengthsG l) /\ Below w.heap.size w w':=by
 have HR:=Zh hr
 have H256:=Zh h256
 obtain ⟨b,off,rfl,hb,hc0⟩:=hr.at h0
 have HGD:Hid (l.getD 0 0 = l[0]):=by unfold Hid;simp [h0]
 have hx0:=h256 _ (List.getElem_mem h0)
 have HCL:Hid (∀ A,Below w.heap.size w A -> ∀ i (h:i < l.length),A.cell? ⟨b,off + i,none⟩ = some (.int .u8 (l[i]:Nat))):=fun A hA i h=>by
  obtain ⟨b',off',he,_,hc⟩:=(hr.below hA).at h
  cases he
  exact hc
 obtain ⟨q,hq⟩:∃ q,w.heap.size = q:=⟨_,rfl⟩
 obtain ⟨P,hP⟩:∃ P,P = lengthsG l:=⟨_,rfl⟩
 rw [<- hP]
 unfold lengthsG at hP
 rw [HGD.out] at hP
 have hpl:P.length <= 5 + 512 * l.length:=by
  rw [hP,List.length_append,Zae]
  have:=Zff l l[0] hx0 h256
  omega
 have HPL:=Zh hpl
 have hP':P = hbits l[0] 5 ++ lensR l[0] (l.drop 0):=hP
 generalize l[0] = x0 at *
 have HB5:=Zh (Zar x0 5 w (by omega) (by decide))
 rw [hq] at HB5 HCL ⊢
 have HQ:=Zh hq
 have HP0:Hid (hbits x0 5 ++ lensR x0 (l.drop 0) = P):=hP'.symm
 have HBL:Hid ((hbits x0 5).length = 5):=Zae _ _
 generalize hbits x0 5 = hb5 at *
 have hc0':w.cell? ⟨b,off,none⟩ = some (.int .u8 (x0:Nat)):=hc0
 obtain ⟨n,hn⟩:∃ n,l.length = n:=⟨_,rfl⟩
 have HLN:=Zh hn
 have HC0:Hid (∀ A,Below q w A -> A.cell? ⟨b,off,none⟩ = some (.int .u8 (x0:Nat))):=fun A hA=>(hA.cell (p:=⟨b,off,none⟩) (by rw [<- hq];exact hb)).trans hc0
 rw [hn] at hl h0 hpl ⊢
 clear hr h256 hq hP hP' hn hc0
 go_enter Try.func75,Try.ntmps75
 go_wp2_with fail
 refine HB5.out.mono ?_
 rintro e w1 ⟨g1,rfl,ho1,hb1⟩
 have hc1:=HC0.out w1 hb1
 have HO1:=Zh ho1
 have HE1:=Zh hb1
 clear ho1 hb1 HB5 hc0'
 go_wp2_with fail
 go_loopw [3,4,5] (fun ov av iv A=>∃ (i at_:Nat) (og:Option Addr) (oc:Nat) (o:List Nat),i <= n /\ at_ < 256 /\ iv = .int .i64 (i:Nat) /\ av = .int .u8 (at_:Nat) /\ ov = .slice og o.length oc /\ Hid (OwnB A q og oc o) /\ Hid (Below q w A) /\ Hid (o ++ lensR at_ (l.drop i) = P)) (fun _ _ iv _=>n - (intOf iv).toNat)
 case atStart=>exact ⟨0,x0,some ⟨g1,0,none⟩,5,hb5,Nat.zero_le _,hx0,rfl,rfl,by rw [HBL.out],HO1.out,HE1.out,HP0.out⟩
 case round =>
  clear HO1 HE1 HP0 hc1
  obtain ⟨i,at_,og,oc,o,hi,hat,rfl,rfl,rfl,HO,HE,HF⟩:=hrel
  by_cases hlt:i < n
  case neg =>
   obtain rfl:i = n:=by omega
   have t0:decide (i < i) = false:=by simp
   go_wp2_with fail
   go_ret
   have he:o = P:=by have:=HF.out;rw [List.drop_eq_nil_of_le (by rw [HLN.out];exact Nat.le_refl _)] at this;simpa [lensR] using this
   rw [<- he]
   exact ⟨og,oc,rfl,HO.out,HE.out⟩
  have t0:decide ((i:Int) < (n:Int)) = true:=by simp;omega
  have hil:i < l.length:=by rw [HLN.out];exact hlt
  have HCI:Hid (∀ A,Below q w A -> A.cell? ⟨b,off + i,none⟩ = some (.int .u8 (l[i]:Nat))):=fun A hA=>HCL.out A hA i hil
  have hx:=H256.out _ (List.getElem_mem hil)
  have HDR:Hid (l.drop i = l[i] :: l.drop (i + 1)):=List.drop_eq_getElem_cons hil
  generalize l[i] = x at *
  obtain ⟨rest,hrest⟩:∃ rest,rest = lensR x (l.drop (i + 1)):=⟨_,rfl⟩
  have HRE:=Zh hrest
  have HF2:Hid (o ++ (stepsL at_ x ++ 0 :: rest) = P):=by have h:=HF.out;rw [HDR.out,lensR] at h;unfold Hid;rw [hrest];exact h
  clear hrest HF
  go_wp2_with fail
  go_loopw [3,4] (fun ov av A=>∃ (a2:Nat) (og:Option Addr) (oc:Nat) (o:List Nat),a2 < 256 /\ av = .int .u8 (a2:Nat) /\ ov = .slice og o.length oc /\ Hid (OwnB A q og oc o) /\ Hid (Below q w A) /\ Hid (o ++ (stepsL a2 x ++ 0 :: rest) = P)) (fun _ av _=>((intOf av).toNat - x) + (x - (intOf av).toNat))
  case atStart=>exact ⟨at_,og,oc,o,hat,rfl,rfl,HO.out,HE.out,HF2.out⟩
  case round =>
   clear HO HE HF2 hat
   obtain ⟨a2,og,oc,o,hat,rfl,rfl,HO,HE,HF⟩:=hrel
   have HQW:Hid (q <= wr.heap.size):=by have:=HE.out.size;have:=HQ.out;unfold Hid;omega
   have hcx:=HCI.out wr HE.out
   have hol:o.length + 2 <= 1000000:=by
    have h1:=congrArg List.length HF.out
    rw [List.length_append,List.length_append,List.length_cons] at h1
    have:=HPL.out
    have:=HLN.out
    omega
   by_cases he:a2 = x
   ·have t1:((a2:Int) == (x:Int)) = true:=beq_iff_eq.2 (by omega)
    have t2:((a2:Int) != (x:Int)) = false:=by rw [he];simp
    have HF2:Hid ((o ++ [0]) ++ lensR a2 (l.drop (i + 1)) = P):=by have h:=HF.out;rw [he,Zml,HRE.out] at h;unfold Hid;rw [he,List.append_assoc];exact h
    clear he HF
    go_wp2_with (at_builtin;refine app1S (cs:=#[.bool false]) Zad rfl (.tmp 42) (.tmp 43) rfl 0 rfl HO.out rfl rfl (by omega) (by omega) (by omega) (by omega) HQW.out ?_;intro a7 c7 w7 hown7 hg7 hb7;have HO7:=Zh hown7;have HB7:=Zh hb7;clear hown7 hg7 hb7)
    go_roundw
    case rel=>exact ⟨i + 1,a2,a7,c7,o ++ [0],hlt,hat,by go_num,by trivial,by rw [List.length_append];rfl,HO7.out,HE.out.trans HB7.out,HF2.out⟩
    case measure=>simp [intOf];omega
   have t1:((a2:Int) == (x:Int)) = false:=beq_eq_false_iff_ne.2 (by omega)
   have t2:((a2:Int) != (x:Int)) = true:=by simp;omega
   by_cases hup:a2 < x
   ·have t3:decide ((a2:Int) < (x:Int)) = true:=by simp;omega
    have t3':decide (a2 < x) = true:=by simp;omega
    have HF2:Hid ((o ++ [1,0]) ++ (stepsL (a2 + 1) x ++ 0 :: rest) = P):=by have h:=HF.out;rw [Zua hup] at h;unfold Hid;simpa using h
    clear he HF
    go_wp2_with (at_builtin;refine appAnyS Zad rfl (.tmp 32) (.tmp 33) rfl (m:=2) (ys:=[1,0]) rfl (OwnS.alloc HO.out _) rfl rfl (RowS.lit encB wr [1,0] 4 #[.bool true,.bool false] wr.heap.size rfl rfl (by simp)) (by omega) (by omega) (by simp;exact Nat.le_succ_of_le HQW.out) ?_;intro a7 c7 w7 hown7 hg7 hb7;have HO7:=Zh hown7;have HB7:=Zh (((Zai wr (.cells #[.bool true,.bool false] 4)).mono HQW.out).trans hb7);clear hown7 hg7 hb7)
    go_roundw
    case rel=>exact ⟨a2 + 1,a7,c7,o ++ [1,0],by omega,by go_num,by rw [List.length_append];rfl,HO7.out,HE.out.trans HB7.out,HF2.out⟩
    case measure=>simp [intOf];omega
   ·have t3:decide ((a2:Int) < (x:Int)) = false:=by simp;omega
    have t3':decide (a2 < x) = false:=by simp;omega
    have HF2:Hid ((o ++ [1,1]) ++ (stepsL (a2 - 1) x ++ 0 :: rest) = P):=by have h:=HF.out;rw [Ztz (show x < a2 by omega)] at h;unfold Hid;simpa using h
    obtain ⟨a3,ha3⟩:∃ a3,a2 - 1 = a3:=⟨_,rfl⟩
    rw [ha3] at HF2
    have u3:(a2:Int) - 1 = (a3:Int):=by omega
    have hxa:x <= a3:=by omega
    have ha3':a3 < 256:=by omega
    have hm3:a3 < a2:=by omega
    clear he HF ha3
    go_wp2_with (at_builtin;refine appAnyS Zad rfl (.tmp 37) (.tmp 38) rfl (m:=2) (ys:=[1,1]) rfl (OwnS.alloc HO.out _) rfl rfl (RowS.lit encB wr [1,1] 4 #[.bool true,.bool true] wr.heap.size rfl rfl (by simp)) (by omega) (by omega) (by simp;exact Nat.le_succ_of_le HQW.out) ?_;intro a7 c7 w7 hown7 hg7 hb7;have HO7:=Zh hown7;have HB7:=Zh (((Zai wr (.cells #[.bool true,.bool true] 4)).mono HQW.out).trans hb7);clear hown7 hg7 hb7)
    go_roundw
    case rel=>exact ⟨a3,a7,c7,o ++ [1,1],ha3',by first | trivial | exact Zcw (by omega),by rw [List.length_append];rfl,HO7.out,HE.out.trans HB7.out,HF2.out⟩
    case measure=>simp [intOf];omega
end Go.Proofs.Ytnkpnjnfddjfpaa

namespace Go.Proofs.Ytnkpnjnfddjfpaa
open Go.RowKit M01 M02 M10 M27
def selR:List Nat -> List Nat -> List Nat
 | _,[]=>[]
 | fl,x :: r=>List.replicate (fl.idxOf x) 1 ++ 0 :: selR (toFront fl (fl.idxOf x)) r
def selectorsG (l:List Nat):List Nat:=hbits l.length 15 ++ selR [0,1,2,3,4,5] l
theorem Zfq:∀ (l fl:List Nat),fl.length <= 6 -> (∀ x ∈ l,x ∈ fl) -> (selR fl l).length <= 7 * l.length
 | [],fl,_,_=>by simp [selR]
 | x :: r,fl,h6,h=>by
  unfold selR
  have h1:fl.idxOf x < fl.length:=List.idxOf_lt_length_of_mem (h x (by simp))
  have h2:=Zfq r (toFront fl (fl.idxOf x)) (by rw [Zau h1];exact h6) (fun y hy=>Zcg h1 (h y (by simp [hy])))
  rw [List.length_append,List.length_cons,List.length_replicate,List.length_cons]
  omega
set_option maxRecDepth 100000 in
set_option maxHeartbeats 3200000 in
theorem Zds (a:Option Addr) (cap:Nat) (l:List Nat) (w:World) (hr:RowN .i64 w a cap l) (h6:∀ x ∈ l,x < 6) (hl:l.length <= 30000) :
  Calls Try.prog 74 #[.slice a l.length cap] w fun e w'=>∃ g c,e = .returned (.slice g (selectorsG l).length c) /\ OwnB w' w.heap.size g c (selectorsG l) /\ Below w.heap.size w w':=by
 have HR:=Zh hr
 have HB15:=Zh (Zar l.length 15 w (by omega) (by decide))
 obtain ⟨q,hq⟩:∃ q,w.heap.size = q:=⟨_,rfl⟩
 obtain ⟨P,hP⟩:∃ P,P = selectorsG l:=⟨_,rfl⟩
 rw [<- hP]
 unfold selectorsG at hP
 have hmem:∀ x ∈ l,x ∈ [0,1,2,3,4,5]:=fun x hx=>by
  have:=h6 x hx
  simp
  omega
 have HMEM:=Zh hmem
 have hpl:P.length <= 15 + 7 * l.length:=by
  rw [hP,List.length_append,Zae]
  have:=Zfq l [0,1,2,3,4,5] (by decide) hmem
  omega
 have HPL:=Zh hpl
 have HP0:Hid (hbits l.length 15 ++ selR [0,1,2,3,4,5] (l.drop 0) = P):=hP.symm
 have HBL:Hid ((hbits l.length 15).length = 15):=Zae _ _
 generalize hbits l.length 15 = hb5 at *
 obtain ⟨n,hn⟩:∃ n,l.length = n:=⟨_,rfl⟩
 have HLN:=Zh hn
 rw [hn] at hl hpl HB15 ⊢
 rw [hq] at HB15 ⊢
 have HQ:=Zh hq
 have u0:(n:Int) % 4294967296 = (n:Int):=by omega
 clear hr h6 hq hP hn hmem
 go_enter Try.func74,Try.ntmps74
 go_wp2_with fail
 refine HB15.out.mono ?_
 rintro e w1 ⟨g1,rfl,ho1,hb1⟩
 have HQ1:Hid (q <= w1.heap.size):=by have:=hb1.size;have:=HQ.out;unfold Hid;omega
 have HLIT:=Zh ((OwnN.lit (k:=.i64) 3 w1 w1.heap.size [0,1,2,3,4,5] #[.int .i64 0,.int .i64 1,.int .i64 2,.int .i64 3,.int .i64 4,.int .i64 5] w1.heap.size rfl rfl (Nat.le_refl _) (by simp [maxLen])).mono HQ1.out)
 have HO1:=Zh (OwnS.alloc ho1 (.cells #[.int .i64 0,.int .i64 1,.int .i64 2,.int .i64 3,.int .i64 4,.int .i64 5] 3))
 have HE1:=Zh (hb1.trans ((Zai w1 (.cells #[.int .i64 0,.int .i64 1,.int .i64 2,.int .i64 3,.int .i64 4,.int .i64 5] 3)).mono HQ1.out))
 have HG1:Hid (g1 < w1.heap.size):=(Zbz ho1 rfl).2
 clear ho1 hb1 HB15
 go_wp2_with fail
 obtain ⟨lg0,hlg0⟩:∃ lg0,w1.heap.size = lg0:=⟨_,rfl⟩
 rw [hlg0] at HLIT HG1
 simp only [hlg0]
 generalize w1.alloc (.cells #[.int .i64 0,.int .i64 1,.int .i64 2,.int .i64 3,.int .i64 4,.int .i64 5] 3) = W0 at *
 clear hlg0
 go_loopw [3,4,5] (fun ov lv iv A=>∃ (i:Nat) (fl:List Nat) (lg:Nat) (lc:Nat) (og:Option Addr) (oc:Nat) (o:List Nat),i <= n /\ iv = .int .i64 (i:Nat) /\ lv = .slice (some ⟨lg,0,none⟩) 6 lc /\ ov = .slice og o.length oc /\ Hid (fl.length = 6) /\ Hid (∀ x ∈ l,x ∈ fl) /\ Hid (OwnN 3 .i64 A q (some ⟨lg,0,none⟩) lc fl) /\ Hid (OwnB A q og oc o) /\ Hid (∀ g,og = some ⟨g,0,none⟩ -> g ≠ lg) /\ Hid (Below q w A) /\ Hid (o ++ selR fl (l.drop i) = P)) (fun _ _ iv _=>n - (intOf iv).toNat)
 case atStart=>exact ⟨0,[0,1,2,3,4,5],lg0,6,some ⟨g1,0,none⟩,15,hb5,Nat.zero_le _,rfl,rfl,by rw [HBL.out],rfl,HMEM.out,HLIT.out,HO1.out,(fun g h=>by cases h;have:=HG1.out;omega),HE1.out,HP0.out⟩
 case round =>
  clear HO1 HE1 HP0 HLIT HG1
  obtain ⟨i,fl,lg,lc,og,oc,o,hi,rfl,rfl,rfl,HF6,HFI,HL,HO,HNE,HE,HF⟩:=hrel
  by_cases hlt:i < n
  case neg =>
   obtain rfl:i = n:=by omega
   have t0:decide (i < i) = false:=by simp
   go_wp2_with fail
   go_ret
   have he:o = P:=by have:=HF.out;rw [List.drop_eq_nil_of_le (by rw [HLN.out];exact Nat.le_refl _)] at this;simpa [selR] using this
   rw [<- he]
   exact ⟨og,oc,rfl,HO.out,HE.out⟩
  have t0:decide ((i:Int) < (n:Int)) = true:=by simp;omega
  have hil:i < l.length:=by rw [HLN.out];exact hlt
  obtain ⟨bb,boff,rfl,hbb,hbc0⟩:=HR.out.at hil
  have HCI:Hid (∀ A,Below q w A -> A.cell? ⟨bb,boff + i,none⟩ = some (.int .i64 (l[i]:Nat))):=fun A hA=>(hA.cell (p:=⟨bb,boff + i,none⟩) (by rw [<- HQ.out];exact hbb)).trans hbc0
  have hxf:=HFI.out _ (List.getElem_mem hil)
  have HDR:Hid (l.drop i = l[i] :: l.drop (i + 1)):=List.drop_eq_getElem_cons hil
  clear hbc0
  generalize l[i] = x at *
  have hio:fl.idxOf x < fl.length:=List.idxOf_lt_length_of_mem hxf
  have HIO:=Zh hio
  have HIX:Hid (∀ h:fl.idxOf x < fl.length,fl[fl.idxOf x]'h = x):=fun h=>List.getElem_idxOf h
  have HNX:Hid (∀ j (h:j < fl.length),j < fl.idxOf x -> fl[j] ≠ x):=fun j h hj e=>by
   have:=List.not_of_lt_findIdx (p:=(· == x)) (xs:=fl) (i:=j) hj
   simp [e] at this
  have hF:=HF.out
  rw [HDR.out,selR] at hF
  clear HF
  generalize fl.idxOf x = ix at *
  obtain ⟨rest,hrest⟩:∃ rest,rest = selR (toFront fl ix) (l.drop (i + 1)):=⟨_,rfl⟩
  have HRE:=Zh hrest
  have HF2:Hid (o ++ (List.replicate (ix - 0) 1 ++ 0 :: rest) = P):=by unfold Hid;rw [hrest];exact hF
  have HI6:Hid (ix < 6):=by have:=HF6.out;have:=HIO.out;unfold Hid;omega
  clear hio hrest hF hxf
  go_wp2_with fail
  go_loopw [3,6] (fun ov kv A=>∃ (k:Nat) (og:Option Addr) (oc:Nat) (o:List Nat),k <= ix /\ kv = .int .i64 (k:Nat) /\ ov = .slice og o.length oc /\ Hid (OwnN 3 .i64 A q (some ⟨lg,0,none⟩) lc fl) /\ Hid (OwnB A q og oc o) /\ Hid (∀ g,og = some ⟨g,0,none⟩ -> g ≠ lg) /\ Hid (Below q w A) /\ Hid (o ++ (List.replicate (ix - k) 1 ++ 0 :: rest) = P)) (fun _ kv _=>ix - (intOf kv).toNat)
  case atStart=>exact ⟨0,og,oc,o,Nat.zero_le _,rfl,rfl,HL.out,HO.out,HNE.out,HE.out,HF2.out⟩
  case round =>
   clear HL HO HNE HE HF2
   obtain ⟨k,og,oc,o,hk,rfl,rfl,HL,HO,HNE,HE,HF⟩:=hrel
   generalize wr = W at *
   have hk6:k < 6:=by have:=HI6.out;omega
   have hkf:k < fl.length:=by rw [HF6.out];exact hk6
   obtain ⟨g2,hg2,_,_,hlc,_⟩:=HL.out.at hkf
   cases hg2
   have hcx:=HCI.out W HE.out
   have hol:o.length + 1 <= 1000000:=by
    have h1:=congrArg List.length HF.out
    rw [List.length_append,List.length_append,List.length_cons] at h1
    have:=HPL.out
    omega
   have hii:(i:Int) < (n:Int):=by omega
   by_cases he:k = ix
   ·have hfe:fl[k] = x:=by simp only [he];exact HIX.out _
    have t1:((fl[k]:Int) == (x:Int)) = true:=beq_iff_eq.2 (by omega)
    have t2:((fl[k]:Int) != (x:Int)) = false:=by rw [hfe];simp
    have HF2:Hid ((o ++ [0]) ++ selR (toFront fl k) (l.drop (i + 1)) = P):=by have h:=HF.out;rw [he,Nat.sub_self,HRE.out] at h;unfold Hid;rw [he];simpa using h
    generalize fl[k] = v at *
    have HKF:=Zh hkf
    clear he HF hfe hkf
    go_wp2_with fail
    go_quiet (fail)
    have HLX:=Zh (show OwnN 3 .i64 (W.drewN nq) q (some ⟨lg,0,none⟩) lc fl from HL.out)
    have HOX:=Zh (show OwnB (W.drewN nq) q og oc o from HO.out)
    have HEX:=Zh (belDN HE.out nq)
    clear hlc hcx
    generalize W.drewN nq = wx at *
    have HQX:Hid (q <= wx.heap.size):=by have:=HEX.out.size;have:=HQ.out;unfold Hid;omega
    have HFR:=Zh (fun A c (h:RowN .i64 A (some ⟨lg,0,none⟩) c fl)=>Znn (some ⟨lg,0,none⟩) c fl k A h HKF.out (by rw [HF6.out];decide))
    rw [HF6.out] at HFR
    have HT6:Hid ((toFront fl k).length = 6):=by unfold Hid;rw [Zau HKF.out];exact HF6.out
    go_wp2_with (at_builtin;refine app1SAt (cs:=#[.bool false]) Zad rfl (.tmp 32) (.tmp 33) rfl 0 rfl HOX.out rfl rfl (by omega) (by omega) (by omega) (by omega) HQX.out ?_;intro a7 c7 w7 hown7 hb7 hg7 hf7;have HO7:=Zh hown7;have HB7:=Zh hb7;have HL7:=Zh (HLX.out.kept hg7 (fun g hg e=>by cases hg;exact HNE.out _ (Zbr HOX.out e) rfl));clear hown7 hg7 hb7 hf7)
    refine (HFR.out w7 lc HL7.out.row).mono ?_
    rintro e w8 ⟨ng,nc,rfl,hmo,hb8⟩
    have HQ7:Hid (q <= w7.heap.size):=by have:=HB7.out.size;have:=HQX.out;unfold Hid;omega
    obtain ⟨ng2,rfl⟩:∃ ng2,ng = some ⟨ng2,0,none⟩:=by
     rcases hmo.form with ⟨_,_,h⟩ | ⟨g,h,_⟩
     ·have:=HT6.out;rw [h] at this;simp at this
     ·exact ⟨g,h⟩
    have HO8:=Zh (OwnS.below HO7.out hb8)
    have HL8:=Zh (hmo.mono HQ7.out)
    have HE8:=Zh ((HEX.out.trans HB7.out).trans (hb8.mono HQ7.out))
    have hne8:∀ g,a7 = some ⟨g,0,none⟩ -> g ≠ ng2:=fun g hg e=>by
     have h1:=(Zdh hmo rfl).1
     have h2:=(Zbz HO7.out hg).2
     omega
    have HNE8:=Zh hne8
    clear hmo hb8 hne8
    go_wp2_with fail
    go_roundw
    case rel=>exact ⟨i + 1,toFront fl k,ng2,nc,a7,c7,o ++ [0],hlt,by go_num,by trivial,by rw [List.length_append];rfl,HT6.out,(fun y hy=>Zcg HKF.out (HFI.out y hy)),HL8.out,HO8.out,HNE8.out,HE8.out,HF2.out⟩
    case measure=>simp [intOf];omega
   ·have hki:k < ix:=by omega
    have hne:fl[k] ≠ x:=HNX.out k hkf hki
    have t1:((fl[k]:Int) == (x:Int)) = false:=beq_eq_false_iff_ne.2 (by omega)
    have t2:((fl[k]:Int) != (x:Int)) = true:=by simp;omega
    obtain ⟨d,hd⟩:∃ d,ix - k = d + 1:=⟨ix - k - 1,by omega⟩
    have HF2:Hid ((o ++ [1]) ++ (List.replicate (ix - (k + 1)) 1 ++ 0 :: rest) = P):=by have h:=HF.out;rw [hd,List.replicate_succ] at h;unfold Hid;rw [show ix - (k + 1) = d by omega];simpa using h
    generalize fl[k] = v at *
    clear he HF hne hd
    go_wp2_with fail
    go_quiet (fail)
    have HLX:=Zh (show OwnN 3 .i64 (W.drewN nq) q (some ⟨lg,0,none⟩) lc fl from HL.out)
    have HOX:=Zh (show OwnB (W.drewN nq) q og oc o from HO.out)
    have HEX:=Zh (belDN HE.out nq)
    clear hlc hcx
    generalize W.drewN nq = wx at *
    have HQX:Hid (q <= wx.heap.size):=by have:=HEX.out.size;have:=HQ.out;unfold Hid;omega
    go_wp2_with (at_builtin;refine app1SAt (cs:=#[.bool true]) Zad rfl (.tmp 27) (.tmp 28) rfl 1 rfl HOX.out rfl rfl (by omega) (by omega) (by omega) (by omega) HQX.out ?_;intro a7 c7 w7 hown7 hb7 hg7 hf7;have HO7:=Zh hown7;have HB7:=Zh hb7;have HL7:=Zh (HLX.out.kept hg7 (fun g hg e=>by cases hg;exact HNE.out _ (Zbr HOX.out e) rfl));have HNE7:Hid (∀ g,a7 = some ⟨g,0,none⟩ -> g ≠ lg):=(fun g hg e=>by rcases hf7 g hg with h | h;exact HNE.out g h e;have h2:=(Zdh HLX.out rfl).2;omega);clear hown7 hg7 hb7 hf7)
    go_roundw
    case rel=>exact ⟨k + 1,a7,c7,o ++ [1],hki,by go_num,by rw [List.length_append];rfl,HL7.out,HO7.out,HNE7.out,HEX.out.trans HB7.out,HF2.out⟩
    case measure=>simp [intOf];omega
end Go.Proofs.Ytnkpnjnfddjfpaa

namespace Go.Proofs.Ytnkpnjnfddjfpaa
open Go.RowKit M01 M02 M10 M27
def alignL (l:List Nat):List Nat:=l ++ List.replicate ((8 - l.length % 8) % 8) 0
def packH (l:List Nat):List Nat:=(List.range ((alignL l).length / 8)).map fun j=>numHL (((alignL l).drop (8 * j)).take 8)
theorem Zcu (l:List Nat):(alignL l).length % 8 = 0 /\ (alignL l).length <= l.length + 7:=by
 unfold alignL
 rw [List.length_append,List.length_replicate]
 omega
theorem Zlo {l:List Nat} (h:∀ x ∈ l,x < 2) (hl:l.length <= 8):numHL l < 256:=by
 have aux:∀ (m:List Nat) (v k:Nat),v < 2 ^ k -> (∀ x ∈ m,x < 2) -> m.foldl (fun v b=>2 * v + b) v < 2 ^ (k + m.length):=by
  intro m
  induction m with
  | nil=>intro v k hv _;exact hv
  | cons x xs ih =>
   intro v k hv h2
   have h4:=h2 x (by simp)
   have:=ih (2 * v + x) (k + 1) (by rw [Nat.pow_succ];omega) (fun y hy=>h2 y (by simp [hy]))
   rw [List.length_cons,show k + (xs.length + 1) = k + 1 + xs.length by omega]
   exact this
 have h5:numHL l < 2 ^ l.length:=by have:=aux l 0 0 (by decide) h;rw [Nat.zero_add] at this;exact this
 have h6:2 ^ l.length <= 2 ^ 8:=Nat.pow_le_pow_right (by decide) hl
 omega
set_option maxRecDepth 100000 in
set_option maxHeartbeats 1600000 in
theorem Znk (a:Option Addr) (cap:Nat) (l:List Nat) (w:World) (hr:RowB w a cap l) (hl:l.length <= 1000000) :
  Calls Try.prog 76 #[.slice a l.length cap] w fun e w'=>∃ g c,e = .returned (.slice g (alignL l).length c) /\ OwnB w' w.heap.size g c (alignL l) /\ Below w.heap.size w w':=by
 have HR:=Zh (RowS.below hr (Zai w (.cells #[] 4)))
 obtain ⟨q,hq⟩:∃ q,w.heap.size = q:=⟨_,rfl⟩
 have HQ:=Zh hq
 obtain ⟨P,hP⟩:∃ P,P = alignL l:=⟨_,rfl⟩
 rw [<- hP]
 have HP:Hid (P = l ++ List.replicate ((8 - l.length % 8) % 8) 0):=hP
 obtain ⟨n,hn⟩:∃ n,l.length = n:=⟨_,rfl⟩
 have HLN:=Zh hn
 rw [hn] at HP hl ⊢
 clear hr hq hP hn
 go_enter Try.func76,Try.ntmps76
 go_wp2_with (at_builtin;refine appAnyS Zad rfl (.tmp 4) (.tmp 5) rfl (a:=some ⟨w.heap.size,0,none⟩) (cap:=0) (m:=n) (l:=[]) (ys:=l) (base:=w.heap.size) rfl (OwnS.lit0 _ _ _ _ (Nat.le_refl _)) HLN.out.symm rfl HR.out (by simp;omega) (by simp;omega) (by simp) ?_;intro a1 c1 w1 hown1 hg1 hb1;simp only [List.nil_append] at hown1;simp only [List.length_nil,Nat.zero_add];have HO1:=Zh hown1;have HB1:=Zh ((Zai w _).trans hb1);clear hown1 hg1 hb1)
 have HQ1:Hid (w.heap.size <= w1.heap.size):=HB1.out.size
 go_loopw [3] (fun ov A=>∃ (j:Nat) (og:Option Addr) (oc:Nat) (o:List Nat),j <= (8 - n % 8) % 8 /\ ov = .slice og (n + j) oc /\ Hid (o = l ++ List.replicate j 0) /\ Hid (OwnB A w.heap.size og oc o) /\ Hid (Below w.heap.size w A)) (fun ov _=>n + 8 - (match ov with | .slice _ m _=>m | _=>0))
 case atStart=>exact ⟨0,a1,c1,l,Nat.zero_le _,rfl,by unfold Hid;simp,HO1.out,HB1.out⟩
 case round =>
  clear HO1 HB1 HQ1
  obtain ⟨j,og,oc,o,hj,rfl,HOE,HO,HE⟩:=hrel
  have HOL:Hid (o.length = n + j):=by unfold Hid;rw [HOE.out,List.length_append,List.length_replicate,HLN.out]
  by_cases he:j = (8 - n % 8) % 8
  ·have t1:((n:Int) + (j:Int)) % 8 = 0:=by omega
   have HT:Hid (o = P):=by unfold Hid;rw [HP.out,HOE.out,<- he]
   clear he
   obtain ⟨nj,hnj⟩:∃ nj,n + j = nj:=⟨_,rfl⟩
   rw [hnj] at HOL ⊢
   have t2:(nj:Int) % 8 = 0:=by omega
   clear t1 hnj
   go_wp2_with fail
   go_ret
   rw [<- HT.out]
   exact ⟨og,oc,by rw [HOL.out];rfl,HO.out,HE.out⟩
  ·have HQW:Hid (w.heap.size <= wr.heap.size):=HE.out.size
   have hj2:j + 1 <= (8 - n % 8) % 8:=by omega
   have HOE2:Hid (o ++ [0] = l ++ List.replicate (j + 1) 0):=by unfold Hid;rw [HOE.out,List.replicate_succ',List.append_assoc]
   obtain ⟨nj,hnj⟩:∃ nj,n + j = nj:=⟨_,rfl⟩
   have HNJ:=Zh hnj
   rw [hnj] at HOL ⊢
   have t2:((nj:Int) % 8 == 0) = false:=beq_eq_false_iff_ne.2 (by omega)
   have t3:((nj:Int) % 8 != 0) = true:=by simp;omega
   have hnj2:nj <= 2000000:=by omega
   clear he hnj
   go_wp2_with (at_builtin;refine app1S (cs:=#[.bool false]) Zad rfl (.tmp 11) (.tmp 12) rfl 0 (show _ = Value.slice og o.length oc by rw [HOL.out];rfl) HO.out rfl rfl (by omega) (by omega) (by rw [HOL.out];omega) (by rw [HOL.out];omega) HQW.out ?_;intro a7 c7 w7 hown7 hg7 hb7;have HO7:=Zh hown7;have HB7:=Zh hb7;clear hown7 hg7 hb7)
   go_roundw
   case rel=>exact ⟨j + 1,a7,c7,o ++ [0],hj2,by rw [HOL.out,<- HNJ.out,Nat.add_assoc],HOE2.out,HO7.out,HE.out.trans HB7.out⟩
   case measure=>have:=HNJ.out;have:=HOL.out;simp;omega
set_option maxRecDepth 100000 in
set_option maxHeartbeats 1600000 in
theorem Zic (a:Option Addr) (cap:Nat) (l:List Nat) (w:World) (hr:RowB w a cap l) (hb2:∀ x ∈ l,x < 2) (hl:l.length <= 1000000) :
  Calls Try.prog 43 #[.slice a l.length cap] w fun e w'=>∃ g c,e = .returned (.slice g (packH l).length c) /\ OwnN 5 .u8 w' w.heap.size g c (packH l) /\ Below w.heap.size w w':=by
 have HAL:=Zh (Znk a cap l w hr hl)
 obtain ⟨q,hq⟩:∃ q,w.heap.size = q:=⟨_,rfl⟩
 rw [hq] at HAL ⊢
 have HQ:=Zh hq
 have HPE:Hid (packH l = (List.range ((alignL l).length / 8)).map fun j=>numHL (((alignL l).drop (8 * j)).take 8)):=rfl
 have hal:=Zcu l
 have hlt:∀ x ∈ alignL l,x < 2:=fun x hx=>by
  unfold alignL at hx
  rcases List.mem_append.1 hx with hx | hx
  ·exact hb2 x hx
  ·rw [List.eq_of_mem_replicate hx];decide
 have HLT:=Zh hlt
 generalize alignL l = al at *
 have HA8:=Zh hal.1
 have hal2:al.length <= 1000007:=by omega
 obtain ⟨m,hm⟩:∃ m,al.length / 8 = m:=⟨_,rfl⟩
 have HM:Hid (al.length = 8 * m):=by have:=HA8.out;unfold Hid;omega
 rw [hm] at HPE
 have HPL:Hid ((packH l).length = m):=by unfold Hid;rw [HPE.out];simp
 generalize packH l = P at *
 have hm2:m <= 130000:=by omega
 clear hr hq hal hlt hm hb2
 go_enter Try.func43,Try.ntmps43
 go_wp2_with fail
 refine HAL.out.mono ?_
 rintro e w1 ⟨ag,ac,rfl,hal1,hb1⟩
 have HR1:=Zh (OwnS.row hal1)
 have HE1:=Zh hb1
 have HQ1:Hid (q <= w1.heap.size):=by have:=hb1.size;have:=HQ.out;unfold Hid;omega
 have hacap:=HR1.out.1
 have hacap2:=HR1.out.2.1.1
 obtain ⟨n8,hn8⟩:∃ n8,al.length = n8:=⟨_,rfl⟩
 rw [hn8] at HM hacap hal2 ⊢
 have HN8:=Zh hn8
 clear hal1 hb1 HAL hn8
 go_wp2_with fail
 go_loopw [4,5] (fun ov iv A=>∃ (j i8:Nat) (og:Option Addr) (oc:Nat) (o:List Nat),j <= m /\ i8 = 8 * j /\ iv = .int .i64 (i8:Nat) /\ ov = .slice og o.length oc /\ Hid (o.length = j) /\ Hid (o = (List.range j).map fun j=>numHL ((al.drop (8 * j)).take 8)) /\ Hid (OwnN 5 .u8 A w1.heap.size og oc o) /\ Hid (Below w1.heap.size w1 A)) (fun _ iv _=>8 * m - (intOf iv).toNat)
 case atStart=>exact ⟨0,0,none,0,[],Nat.zero_le _,rfl,rfl,rfl,rfl,rfl,OwnN.nil _ _ _ _,Below.refl _ _⟩
 case round =>
  obtain ⟨j,i8,og,oc,o,hj,hi8,rfl,rfl,HOL,HOE,HO,HE⟩:=hrel
  have HI8:=Zh hi8
  clear hi8
  by_cases hlt:j < m
  ·have t0:decide ((i8:Int) < (n8:Int)) = true:=by have:=HI8.out;have:=HM.out;simp;omega
   have t0':decide (i8 < n8) = true:=by have:=HI8.out;have:=HM.out;simp;omega
   have hi8n:i8 + 8 <= n8:=by have:=HI8.out;have:=HM.out;omega
   obtain ⟨ab,aoff,rfl,_⟩:=HR1.out.at (i:=i8) (by rw [HN8.out];omega)
   have HSB:=Zh (fun A (h:Below w1.heap.size w1 A)=>RowS.subB (RowS.below HR1.out h) i8 8 (by rw [HN8.out];omega))
   have HSL:Hid (8 = ((al.drop i8).take 8).length):=by unfold Hid;rw [List.length_take,List.length_drop,HN8.out];omega
   have HSX:Hid (∀ x ∈ (al.drop i8).take 8,x < 2):=fun x hx=>HLT.out x (List.mem_of_mem_drop (List.mem_of_mem_take hx))
   have HOE2:Hid (o ++ [numHL ((al.drop i8).take 8)] = (List.range (j + 1)).map fun j=>numHL ((al.drop (8 * j)).take 8)):=by unfold Hid;rw [List.range_succ,List.map_append,<- HOE.out,HI8.out];rfl
   have hvl:=Zlo HSX.out (by rw [<- HSL.out];exact Nat.le_refl _)
   have HNM:=Zh (fun A c (h:RowB A (some ⟨ab,aoff + i8,none⟩) c ((al.drop i8).take 8))=>Zlx (some ⟨ab,aoff + i8,none⟩) c ((al.drop i8).take 8) A h (by rw [<- HSL.out];decide) HSX.out)
   rw [<- HSL.out] at HNM
   generalize numHL ((al.drop i8).take 8) = v at *
   have uv:(v:Int) % 256 = (v:Int):=by omega
   have k1:(i8:Int) <= (n8:Int):=by omega
   have k2:(i8:Int) + 8 <= (ac:Int):=by omega
   have k3:i8 + 8 <= ac:=by omega
   have k4:(i8:Int) + 8 - (i8:Int) = 8:=by omega
   have k5:(ac:Int) - (i8:Int) = ((ac - i8:Nat):Int):=by omega
   have HQW:Hid (w1.heap.size <= wr.heap.size):=HE.out.size
   have hol6:o.length <= 200000:=by have:=HOL.out;omega
   have k6:i8 <= 2000000:=by omega
   go_wp2_with fail
   refine (HNM.out wr _ (HSB.out wr HE.out)).mono ?_
   rintro e w3 ⟨rfl,hw3⟩
   replace hw3:=hw3.symm
   subst hw3
   go_wp2_with (at_builtin;refine app1N (y:=v) Zbl rfl (.tmp 14) (.tmp 22) rfl rfl HO.out rfl (by omega) (by omega) (by omega) (by omega) HQW.out ?_;intro a7 c7 w7 hown7 hg7 hb7;have HO7:=Zh hown7;have HB7:=Zh hb7;clear hown7 hg7 hb7)
   go_roundw
   case rel=>exact ⟨j + 1,i8 + 8,a7,c7,o ++ [v],hlt,by have:=HI8.out;omega,by go_num,by rw [List.length_append];rfl,(by unfold Hid;rw [List.length_append,HOL.out];rfl),HOE2.out,HO7.out,HE.out.trans HB7.out⟩
   case measure=>have:=HI8.out;simp [intOf];omega
  ·obtain rfl:j = m:=by omega
   have t0:decide ((i8:Int) < (n8:Int)) = false:=by have:=HI8.out;have:=HM.out;simp;omega
   have t0':decide (i8 < n8) = false:=by have:=HI8.out;have:=HM.out;simp;omega
   have HT:Hid (P = o):=by unfold Hid;rw [HPE.out,HOE.out]
   go_wp2_with fail
   go_ret
   rw [HT.out]
   exact ⟨og,oc,rfl,HO.out.mono HQ1.out,HE1.out.trans (HE.out.mono HQ1.out)⟩
end Go.Proofs.Ytnkpnjnfddjfpaa
