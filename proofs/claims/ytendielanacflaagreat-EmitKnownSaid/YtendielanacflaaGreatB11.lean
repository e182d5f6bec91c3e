/- repeat.runs, Pack: contracts. header.may: contract. prefix.get, GetLow: contracts. -/
import Derived.Test.YtendielanacflaaGreatB01
import Derived.Test.YtendielanacflaaGreatB03
import Derived.Test.YtendielanacflaaGreatB05
import Derived.Sort.BigQuietIn
set_option linter.unusedVariables false
set_option linter.unusedSimpArgs false
namespace Go.Proofs.YtendielanacflaaGreat
open Go.RowKit Go.Shelf M04 M07
attribute [local go_sem] Oper.semAt_some
theorem app1SIn {P:Program} {T E:TypeId} {α:Type} {cc:Enc α} {z:Value} {bytes:Nat} {F:Fence} {dep:Nat} (et:ElemS P T E cc z bytes) {w:World} {ops:Array Oper} {rest:List Oper} {o:Oper} {ac:Act} {Q:Exit -> Act -> World -> Prop} (hgd:o.guard = none) (s x:Operand)
  (ho:o.op = .call { callee:=.builtin .append,args:=#[s,x],argTypes:=#[T,T] }) {base:Nat} {a:Option Addr} {cap:Nat} {l:List α} (y:α) {cs:Array Value} {c E':Nat}
  (hs:ac.eval s = .slice a l.length cap) (hown:OwnS cc E w base a cap l) (hx:ac.eval x = .slice (some ⟨w.heap.size,0,none⟩) 1 c) (hcs:cs = (cc.cells y).toArray) (hc:1 <= c) (hc':c <= 9223372036854775807)
  (hn:l.length + 1 <= 9223372036854775807) (hbytes:(l.length + 1) * bytes <= 140737488355328) (hbase:base <= w.heap.size)
  (h:∀ a' cap' w',OwnS cc E w' base a' cap' (l ++ [y]) -> w.grownBy w' (Value.slice a l.length cap).ownBlock -> Below base w w' -> wpListIn F dep P ops Q rest (ac.put o.dst (.slice a' (l.length + 1) cap')) w') :
  wpListIn F dep P ops Q (o :: rest) ac (w.alloc (.cells cs E')):=by
 obtain ⟨i,h2,h3,h4,h5⟩:=info_parts et.info
 have hy:RowS cc (w.alloc (.cells cs E')) (some ⟨w.heap.size,0,none⟩) c [y]:=by
  subst hcs
  have:=RowS.lit cc w [y] E' ((cc.cells y).toArray) w.heap.size rfl (by simp [flat]) (by simp)
  exact ⟨by simpa using hc,⟨hc',fun hn=>by cases hn⟩,this.2.2⟩
 have hcl:∀ j u,(flat cc [y])[j]? = some u -> (w.alloc (.cells cs E')).cell? ((⟨w.heap.size,0,none⟩:Addr).add j) = some u:=by
  intro j u hu
  obtain ⟨_,_,h0 | ⟨b',off,he,_,hcc⟩⟩:=hy
  ·simp at h0
  ·cases he
   have:=hcc j u hu
   unfold Addr.add
   split
   ·simp_all
   ·exact this
 refine wpListIn_plain hgd fun K hK'=>?_
 obtain ⟨v',w',hr,h6,h7,h8⟩:=run_append_own (P:=P) (w.alloc (.cells cs E')) base T o.type E i z cc.sz bytes et.und h2 h3 h4 h5 et.zs cc.pos _ l.length _ (hown.alloc _) ⟨w.heap.size,0,none⟩ 1 c (flat cc [y]) (by rw [Zbw];rfl)
  hcl (Zsm _) (by simpa [maxLen] using hn) hbytes (by simp;omega)
 have hv:∃ a' cap',v' = .slice a' (l.length + 1) cap':=by
  rcases h6.2 with ⟨h11,h10⟩ | ⟨g,c',cur,h11,_⟩
  ·omega
  ·exact ⟨_,_,h11⟩
 obtain ⟨a',cap',rfl⟩:=hv
 have hown':OwnS cc E w' base a' cap' (l ++ [y]):=by
  unfold OwnS;rw [List.length_append,Zdy];exact h6
 have hbel:Below base (w.alloc (.cells cs E')) w':=Below.of_grown h7 (by simp;omega) (by
  intro g hg
  exact (World.ownsRow.lt hown g hg).1)
 unfold Oper.wpIn
 refine ⟨by simp [Oper.about,ho,resolve,Target.leads,Sem.run_pure],?_⟩
 rw [Oper.semAt_plain F _ _ (by rw [ho];intro c hc';cases hc')]
 simp [execOp,ho,resolve,invoke,builtin,hs,hx,hr,Result.andThen]
 exact hK' _ _ (h a' cap' w' hown' ⟨h7.os,h7.tape,h7.output,Nat.le_trans (by simp) h7.size,fun q hq hr=>(h7.block q (by simp;omega) hr).trans (Below.heap_alloc _ _ _ hq)⟩ (((Below.refl base w).alloc hbase _).trans hbel))
theorem Zrk (a:Option Addr) (cap n:Nat) (w:World) :
  Calls Tryz.prog 126 #[.slice a n cap] w fun e w'=>e = .returned (.func (.func 149) #[] #[.pointer (some ⟨w.heap.size,0,none⟩)]) /\ w' = w.alloc (.cells #[.slice a n cap] 24):=by
 have hmf:∀ (fn:Fn) (first cap:Array Value) (w:World),(Instr.makeFunc fn first cap).run Tryz.prog w = .ok (.func fn first cap) w:=fun _ _ _ _=>rfl
 go_enter Tryz.func126,Tryz.ntmps126
 go_wp2
 go_ret
 exact ⟨rfl,rfl⟩
def runsRow (l:List Nat) (i:Nat):Array Value:=#[.int .u8 (((runs l).getD i (0,0)).1:Nat),.int .i64 (((runs l).getD i (0,0)).2:Nat)]
theorem Zagx (l:List Nat) (p j k n:Nat) (h:runs (l.drop p) = (runs l).drop j) (h2:runs (l.drop p) = (k,n) :: runs (l.drop (p + n))):j < (runs l).length /\ runsRow l j = #[.int .u8 (k:Nat),.int .i64 (n:Nat)] /\ runs (l.drop (p + n)) = (runs l).drop (j + 1):=by
 rw [h2] at h
 have hj:j < (runs l).length:=by
  rcases Nat.lt_or_ge j (runs l).length with h3 | h3
  ·exact h3
  ·rw [List.drop_eq_nil_of_le h3] at h;cases h
 rw [List.drop_eq_getElem_cons hj] at h
 simp only [List.cons.injEq] at h
 refine ⟨hj,?_,h.2⟩
 unfold runsRow
 rw [List.getD_eq_getElem?_getD,List.getElem?_eq_getElem hj,Option.getD_some,<- h.1]
theorem Zzl (l:List Nat) (j:Nat) (h:runs (l.drop l.length) = (runs l).drop j) (hj:j <= (runs l).length):j = (runs l).length:=by
 rw [List.drop_length] at h
 have:=congrArg List.length h
 simp [runs,runsF] at this
 unfold runs at *
 omega
set_option maxRecDepth 100000 in
set_option maxHeartbeats 1600000 in
theorem Zrm (a:Option Addr) (cap:Nat) (l:List Nat) (w:World) (B:Nat) (hr:RowN .u8 w a cap l) (hB:w.heap[B]? = some (.cells #[.slice a l.length cap] 24 (0,0))) :
  Yields Tryz.prog 149 #[.pointer (some ⟨B,0,none⟩)] (runs l).length (runsRow l) (orderS a B l) (fun _=>False) w:=by
 intro y J Jx W hsame hJ hJx hY h0
 have hlen:=hr.len
 have HY:=Zh hY
 have HJD:=Zh (fun i (A:World) q (h:J i A)=>(hJ i A (A.drewN q) h (Zak _ _ _)))
 have HR:=Zh hr
 have HBX:=Zh hB
 clear hJ hJx hY hr hB
 refine callsIn_of_wp Tryz.func149 rfl trivial ?_ rfl
 simp only [Tryz.ntmps149,List.size_toArray,List.length_cons,List.length_nil,Nat.reduceAdd,Nat.reduceSub,Array.replicate_succ,Array.replicate_zero,List.push_toArray,List.append_toArray,List.nil_append,List.cons_append]
 gi_wp2
 gi_loopw [3] (fun i A=>∃ p j:Nat,p <= l.length /\ i = .int .i64 (p:Nat) /\ j <= (runs l).length /\ runs (l.drop p) = (runs l).drop j /\ SameOn (orderS a B l) w A /\ J j A) (fun i _=>l.length - (intOf i).toNat)
 case atStart=>exact ⟨0,0,by omega,by trivial,by omega,by simp,hsame,h0⟩
 case round =>
  obtain ⟨p,j,hp,rfl,hj,hrd,hsA,hJA⟩:=hrel
  have HRD:=Zh hrd
  have HSA:=Zh hsA
  have HJA:=Zh hJA
  have hbox:wr.cell? ⟨B,0,none⟩ = some (.slice a l.length cap):=cell_of_one ((hsA.same B (.inl rfl)).trans HBX.out)
  clear hrd hsA hJA
  by_cases hlt:p < l.length
  ·have b0:decide (p < l.length) = true:=by simpa using hlt
   gi_wp2
   gi_loopw [4] (fun n A=>∃ m:Nat,1 <= m /\ p + m <= l.length /\ n = .int .i64 (m:Nat) /\ (∀ i,i < m -> l.getD (p + i) 0 = l.getD p 0) /\ SameOn (orderS a B l) w A /\ J j A) (fun n _=>l.length - (intOf n).toNat)
   case atStart=>exact ⟨1,by omega,by omega,by trivial,fun i hi=>by obtain rfl:i = 0:=(by omega);rfl,HSA.out,HJA.out⟩
   case round =>
    clear HSA HJA hbox
    obtain ⟨m,hm1,hpm,rfl,hall,hsA,hJA⟩:=hrel
    have HALL:=Zh hall
    have HSA:=Zh hsA
    have HJA:=Zh hJA
    have hbox:wr.cell? ⟨B,0,none⟩ = some (.slice a l.length cap):=cell_of_one ((hsA.same B (.inl rfl)).trans HBX.out)
    clear hall hsA hJA
    have hrA:=HR.out.same HSA.out.size (fun x h0 hx=>HSA.out.same _ (.inr ⟨h0,x,hx,rfl⟩))
    obtain ⟨b,off,rfl,hb,hck⟩:=hrA.at hlt
    have hgp:l.getD p 0 = l[p]:=by simp [hlt]
    obtain ⟨pm,hpme⟩:∃ pm,p + m = pm:=⟨_,rfl⟩
    have qpm:(p:Int) + (m:Int) = (pm:Int):=by omega
    have qi:(p:Int) < (l.length:Int):=by omega
    by_cases hend:pm < l.length /\ l.getD pm 0 = l.getD p 0
    ·obtain ⟨hpl,heq⟩:=hend
     obtain ⟨b',off',he',_,hck2⟩:=hrA.at hpl
     cases he'
     have hg2:l.getD pm 0 = l[pm]:=by simp [hpl]
     have HALL2:Hid (∀ i,i < m + 1 -> l.getD (p + i) 0 = l.getD p 0):=by
      unfold Hid
      intro i hi
      by_cases e:i < m
      ·exact HALL.out i e
      ·obtain rfl:i = m:=by omega
       rw [hpme];exact heq
     rw [hg2,hgp] at heq
     rw [<- heq] at hck
     have b1:decide (pm < l.length) = true:=by simpa using hpl
     have qj:(pm:Int) < (l.length:Int):=by omega
     have hpm2:p + (m + 1) <= l.length:=by omega
     clear hgp hg2 heq hpme HALL hrA hb hpm
     generalize l[pm] = x at *
     gi_wp2
     gi_big_quiet_th (fail)
     gi_wp2
     go_roundw
     case rel=>exact ⟨m + 1,by omega,by omega,by go_num,HALL2.out,⟨HSA.out.size,HSA.out.same⟩,HJD.out _ _ _ HJA.out⟩
     case measure=>simp [intOf];omega
    ·have hstep:=Zzm l p m (by omega) hpm HALL.out (by
      rcases Nat.lt_or_ge pm l.length with h | h
      ·right;rw [hpme];exact fun e=>hend ⟨h,e⟩
      ·left;omega)
     obtain ⟨hjl,hrow,hnx⟩:=Zagx l p j _ m HRD.out hstep
     rw [hgp] at hrow
     have HNX:=Zh hnx
     have HJL:=Zh hjl
     have HYY:=Zh (fun q=>HY.out j (wr.drewN q) hjl (HJD.out _ _ q HJA.out))
     rw [hrow] at HYY
     rw [hpme] at HNX
     have hpl2:pm <= l.length:=by omega
     have HPM:=Zh hpme
     clear hstep hnx hjl hrow
     by_cases hpl:pm < l.length
     ·obtain ⟨b',off',he',_,hck2⟩:=hrA.at hpl
      cases he'
      have hg2:l.getD pm 0 = l[pm]:=by simp [hpl]
      have hne:l[pm] ≠ l[p]:=fun e=>hend ⟨hpl,by rw [hg2,hgp];exact e⟩
      have b1:decide (pm < l.length) = true:=by simpa using hpl
      have qj:(pm:Int) < (l.length:Int):=by omega
      generalize l[pm] = x at *
      generalize l[p] = k at *
      have b2:((x:Int) == (k:Int)) = false:=beq_eq_false_iff_ne.2 (by omega)
      clear hend hg2 hgp hne hrA hb hpme HALL
      gi_wp2
      gi_big_quiet_th (fail)
      obtain ⟨fn,tmps,assign,body,hy,hR⟩:=HYY.out nq
      have HRR:=Zh hR
      clear hR HYY
      gi_wp2
      refine (Zbb HRR.out).mono ?_
      rintro e W' (⟨rfl,hJ',hk'⟩ | ⟨rfl,hJx'⟩)
      ·have HJ2:=Zh hJ'
       have HK2:=Zh hk'
       clear hJ' hk' HRR hy
       gi_wp2
       go_roundw
       case rel=>exact ⟨pm,j + 1,hpl2,by trivial,HJL.out,HNX.out,(show SameOn _ w (wr.drewN nq) from ⟨HSA.out.size,HSA.out.same⟩).trans HK2.out,HJ2.out⟩
       case measure=>simp [intOf];have:=HPM.out;omega
      ·have HJ2:=Zh hJx'
       clear hJx' HRR hy
       gi_wp2
       refine bodyPost_ret (results_none rfl _ _ _) rfl ?_
       exact ⟨⟨_,rfl⟩,.inr ⟨_,HJL.out,HJ2.out⟩⟩
     ·have b1:decide (pm < l.length) = false:=by simpa using hpl
      generalize l[p] = k at *
      clear hend hgp hrA hb hpme HALL
      gi_wp2
      gi_big_quiet_th (fail)
      obtain ⟨fn,tmps,assign,body,hy,hR⟩:=HYY.out nq
      have HRR:=Zh hR
      clear hR HYY
      gi_wp2
      refine (Zbb HRR.out).mono ?_
      rintro e W' (⟨rfl,hJ',hk'⟩ | ⟨rfl,hJx'⟩)
      ·have HJ2:=Zh hJ'
       have HK2:=Zh hk'
       clear hJ' hk' HRR hy
       gi_wp2
       go_roundw
       case rel=>exact ⟨pm,j + 1,hpl2,by trivial,HJL.out,HNX.out,(show SameOn _ w (wr.drewN nq) from ⟨HSA.out.size,HSA.out.same⟩).trans HK2.out,HJ2.out⟩
       case measure=>simp [intOf];have:=HPM.out;omega
      ·have HJ2:=Zh hJx'
       clear hJx' HRR hy
       gi_wp2
       refine bodyPost_ret (results_none rfl _ _ _) rfl ?_
       exact ⟨⟨_,rfl⟩,.inr ⟨_,HJL.out,HJ2.out⟩⟩
  ·obtain rfl:p = l.length:=by omega
   have b0:decide (l.length < l.length) = false:=by simp
   have HD:=Zh (Zzl l j HRD.out hj)
   gi_wp2
   go_end0
   exact ⟨⟨_,rfl⟩,.inl (by rw [<- HD.out];exact HJA.out)⟩
theorem Zou (n:Nat) (w:World):Calls Tryz.prog 125 #[.int .u8 (n:Nat)] w fun e w'=>e = .returned (.bool (decide (15 < n))) /\ w' = w:=by
 go_enter Tryz.func125,Tryz.ntmps125
 go_wp2
 go_ret
 exact ⟨congrArg (fun b=>Ending.returned (.bool b)) (decide_eq_decide.2 (by omega)),rfl⟩
theorem Zvc (a:Option Addr) (cap:Nat) (l:List Nat) (w:World) (hr:RowN .u8 w a cap l) :
  Calls Tryz.prog 122 #[.slice a l.length cap,.func (Fn.func 125) #[] #[]] w fun e w'=>IdxOut l e /\ w' = w:=by
 have hlen:=hr.len
 go_enter Tryz.func122,Tryz.ntmps122
 go_wp2_with fail
 go_loop [5,8] (fun _ i=>∃ k:Nat,k <= l.length /\ i = .int .i64 k /\ ∀ x ∈ l.take k,x <= 15) (fun _ i=>l.length - (intOf i).toNat)
 case atStart=>exact ⟨0,by omega,rfl,by simp⟩
 case round =>
  obtain ⟨k,hk,rfl,hall⟩:=hrel
  have HA:=Zh hall
  clear hall
  by_cases hlt:k < l.length
  ·obtain ⟨b,off,rfl,hb,hck⟩:=hr.at hlt
   clear hr
   have HM:=Zh (List.getElem_mem hlt)
   have HT:=Zh (Zaw l k hlt)
   generalize l[k] = x at *
   by_cases hx:15 < x
   ·have hd:decide (15 < x) = true:=by simpa using hx
    have HL:Hid (long l = true):=by
     unfold Hid long
     rw [List.any_eq_true]
     exact ⟨x,HM.out,hd⟩
    go_wp2_with (go_at_call 125;refine (Zou x _).mono ?_;rintro e w' ⟨rfl,rfl⟩;rw [hd])
    go_ret
    exact ⟨by unfold IdxOut;rw [if_pos HL.out];exact ⟨k,rfl⟩,rfl⟩
   ·have hd:decide (15 < x) = false:=by simpa using hx
    go_wp2_with (go_at_call 125;refine (Zou x _).mono ?_;rintro e w' ⟨rfl,rfl⟩;rw [hd])
    go_round
    case rel=>exact ⟨k + 1,by omega,by go_num,by rw [HT.out];intro y hy;rcases List.mem_append.1 hy with h | h;exact HA.out y h;simp at h;omega⟩
    case measure=>simp [intOf];omega
  ·have h2:l.take k = l:=List.take_of_length_le (by omega)
   rw [h2] at HA
   have HL:Hid (long l = false):=by
    unfold Hid long
    rw [List.any_eq_false]
    intro x hx
    have:=HA.out x hx
    simpa using this
   go_wp2
   go_ret
   exact ⟨by unfold IdxOut;rw [if_neg (by rw [HL.out];decide)];rfl,rfl⟩
theorem Zmi (a:Option Addr) (cap:Nat) (l:List Nat) (w:World) (hr:RowN .u8 w a cap l) :
  Calls Tryz.prog 88 #[.slice a l.length cap,.func (Fn.func 125) #[] #[]] w fun e w'=>e = .returned (.bool (long l)) /\ w' = w:=by
 have HC:=Zh (Zvc a cap l w hr)
 clear hr
 go_enter Tryz.func88,Tryz.ntmps88
 go_wp2_with fail
 refine HC.out.mono ?_
 by_cases hl:long l = true
 ·have HL:=Zh hl
  rintro e w1 ⟨h,rfl⟩
  unfold IdxOut at h
  rw [if_pos hl] at h
  obtain ⟨k,rfl⟩:=h
  have t1:decide ((0:Int) <= (k:Int)) = true:=by simp
  clear hl HC
  go_wp2
  go_ret
  exact ⟨by rw [HL.out];rfl,rfl⟩
 ·have HL:=Zh (show long l = false by simpa using hl)
  rintro e w1 ⟨h,rfl⟩
  unfold IdxOut at h
  rw [if_neg hl] at h
  subst h
  clear hl HC
  go_wp2
  go_ret
  exact ⟨by rw [HL.out];rfl,rfl⟩
def PkI (w:World) (ob base:Nat) (acc:List Sg) (A:World):Prop :=
 ∃ a c,A.heap[ob]? = some (.cells #[.slice a acc.length c] 91 (0,0)) /\ OwnS encSg 95 A base a c acc /\ Below w.heap.size w A /\ base <= A.heap.size
theorem OwnS.put {α:Type} {cc:Enc α} {E:TypeId} {A:World} {base cap:Nat} {a:Option Addr} {l:List α} (h:OwnS cc E A base a cap l) {r:Nat} {o:Obj} (hl:A.heap[r]? = some o) (ho:o.isCells = false) (o':Obj):OwnS cc E (A.putObj r o') base a cap l:=by
 refine ⟨h.1,?_⟩
 rcases h.2 with h2 | ⟨g,c,cur,h1,h2,h3,h4⟩
 ·exact .inl h2
 ·exact .inr ⟨g,c,cur,h1,h2,Zap h3 hl ho,h4⟩
theorem OwnS.only {α:Type} {cc:Enc α} {T:Nat -> Prop} {E:TypeId} {A B:World} {base cap:Nat} {a:Option Addr} {l:List α} (h:OwnS cc E A base a cap l) (ho:Only T A B) (hT:∀ b,base <= b -> ¬ T b):OwnS cc E B base a cap l:=by
 refine ⟨h.1,?_⟩
 rcases h.2 with h2 | ⟨g,c,cur,h1,h2,h3,h4⟩
 ·exact .inl h2
 ·exact .inr ⟨g,c,cur,h1,h2,Zah h3 ho (hT g h2),h4⟩
theorem PkI.only {w A B:World} {ob base:Nat} {acc:List Sg} (h:PkI w ob base acc A) (ho:Only (fun _=>False) A B):PkI w ob base acc B:=by
 obtain ⟨a,c,h1,h2,h3,h4⟩:=h
 exact ⟨a,c,Zah h1 ho id,h2.only ho (fun _ _=>id),Below.only h3 ho (Nat.le_refl _) (fun _ h=>h.elim),Nat.le_trans h4 ho.size⟩
theorem PkI.put {w A:World} {ob base l:Nat} {acc:List Sg} {o:Obj} (h:PkI w ob base acc A) (hl:A.heap[l]? = some o) (ho:o.isCells = false) (hN:w.heap.size <= l) (o':Obj):PkI w ob base acc (A.putObj l o'):=by
 obtain ⟨a,c,h1,h2,h3,h4⟩:=h
 exact ⟨a,c,Zap h1 hl ho,h2.put hl ho _,Below.put h3 (Nat.le_refl _) hl hN _,by rw [World.putObj_size];exact h4⟩
theorem Zaff {w A w7:World} {ob base c c7:Nat} {acc:List Sg} {s:Sg} {a a7:Option Addr} (h1:A.heap[ob]? = some (.cells #[.slice a acc.length c] 91 (0,0))) (h2:OwnS encSg 95 A base a c acc) (h3:Below w.heap.size w A) (h4:base <= A.heap.size)
  (hob:w.heap.size <= ob) (hbase:ob < base) (hown:OwnS encSg 95 w7 base a7 c7 (acc ++ [s])) (hg:A.grownBy w7 (Value.slice a acc.length c).ownBlock) :
  PkI w ob base (acc ++ [s]) (w7.setCell ⟨ob,0,none⟩ (.slice a7 (acc.length + 1) c7)) /\ KeepsOthers A (w7.setCell ⟨ob,0,none⟩ (.slice a7 (acc.length + 1) c7)) ∧
   (∀ b,b < base -> b ≠ ob -> (w7.setCell ⟨ob,0,none⟩ (.slice a7 (acc.length + 1) c7)).heap[b]? = A.heap[b]?) ∧
   (∀ b,A.heap.size <= b + 1 -> b < A.heap.size -> (∀ g,a = some ⟨g,0,none⟩ -> g ≠ b) -> b ≠ ob -> (w7.setCell ⟨ob,0,none⟩ (.slice a7 (acc.length + 1) c7)).heap[b]? = A.heap[b]?):=by
 have hgb:∀ g,(Value.slice a acc.length c).ownBlock = some g -> base <= g /\ a = some ⟨g,0,none⟩:=by
  intro g hgg
  rcases h2.form with ⟨rfl,_⟩ | ⟨g',rfl,hb,_⟩
  ·simp [Value.ownBlock] at hgg
  ·simp [Value.ownBlock] at hgg
   subst hgg
   exact ⟨hb,rfl⟩
 have hlt:ob < A.heap.size:=by omega
 have hX:w7.heap[ob]? = _:=(hg.block ob hlt (fun e=>by have:=(hgb ob e.symm).1;omega)).trans h1
 have hks:KeepsOthers A w7:=KeepsOthers.of_grownBy hg (fun j o hj ho=>by
  obtain ⟨_,he⟩:=hgb j hj
  rcases h2.2 with h' | ⟨g,cc,cur,h5,h6,h7,_⟩
  ·rw [he] at h';simp at h'
  ·rw [he] at h5
   simp only [Value.slice.injEq,Option.some.injEq,Addr.mk.injEq,and_true] at h5
   obtain ⟨rfl,_⟩:=h5
   rw [h7] at ho;cases ho;rfl)
 refine ⟨⟨a7,c7,?_,hown.other (fun g e=>?_) _,((h3.trans (Below.of_grown hg (Nat.le_trans h3.size (Nat.le_refl _)) (fun k hk=>by have:=(hgb k hk).1;omega))).setCell (by show w.heap.size <= ob;exact hob) _),?_⟩,hks.trans (KeepsOthers.setCell _ _ _),fun b hb hne=>?_,fun b hb1 hb2 hne hno=>?_⟩
 ·have:=one_setCell (u:=.slice a7 (acc.length + 1) c7) hX
  rw [List.length_append];exact this
 ·rcases hown.form with ⟨h,_⟩ | ⟨g',h,hb,_⟩
  ·rw [h] at e;cases e
  ·rw [h] at e;cases e;show ob ≠ g;omega
 ·show base <= (w7.setCell _ _).heap.size
  have:=hg.size
  simp [World.setCell];omega
 ·exact (Below.heap_setCell _ _ _ _ hne).trans (hg.block b (by omega) (fun e=>by have:=(hgb b e.symm).1;omega))
 ·exact (Below.heap_setCell _ _ _ _ hno).trans (hg.block b hb2 (fun e=>hne b (hgb b e.symm).2 rfl))
theorem Zrg {A w7:World} {ob base c:Nat} {acc:List Sg} {a:Option Addr} (h1:A.heap[ob]? = some (.cells #[.slice a acc.length c] 91 (0,0))) (h2:OwnS encSg 95 A base a c acc) (hbase:ob < base) (hg:A.grownBy w7 (Value.slice a acc.length c).ownBlock) :
  w7.heap[ob]? = some (.cells #[.slice a acc.length c] 91 (0,0)):=by
 refine (hg.block ob (Array.getElem?_eq_some_iff.1 h1).1 (fun e=>?_)).trans h1
 rcases h2.form with ⟨rfl,_⟩ | ⟨g',rfl,hb,_⟩
 ·simp [Value.ownBlock] at e
 ·simp [Value.ownBlock] at e
  omega
theorem Zags {A w7:World} {ob base c:Nat} {acc:List Sg} {a:Option Addr} (h1:A.heap[ob]? = some (.cells #[.slice a acc.length c] 91 (0,0))) (h2:OwnS encSg 95 A base a c acc) (hbase:ob < base) (hg:A.grownBy w7 (Value.slice a acc.length c).ownBlock):∃ v,w7.cell? ⟨ob,0,none⟩ = some v:=⟨_,cell_of_one (Zrg h1 h2 hbase hg)⟩
theorem Zagt {A w7:World} {ob base c:Nat} {acc:List Sg} {a:Option Addr} (h1:A.heap[ob]? = some (.cells #[.slice a acc.length c] 91 (0,0))) (h2:OwnS encSg 95 A base a c acc) (hbase:ob < base) (hg:A.grownBy w7 (Value.slice a acc.length c).ownBlock):w7.frozen? ⟨ob,0,none⟩ = false:=free_of_one (Zrg h1 h2 hbase hg)
theorem Ztd {w A w8 w9:World} {ob base c c7:Nat} {acc:List Sg} {s:Sg} {a a7:Option Addr} {o:Obj} (h1:A.heap[ob]? = some (.cells #[.slice a acc.length c] 91 (0,0))) (h2:OwnS encSg 95 A base a c acc) (h3:Below w.heap.size w A) (h4:base <= A.heap.size)
  (hob:w.heap.size <= ob) (hbase:ob < base) (hown:OwnS encSg 95 w8 base a7 c7 (acc ++ [s])) (hg:(A.alloc o).grownBy w8 (Value.slice a acc.length c).ownBlock) :
  w8.heap[A.heap.size]? = some o /\ w8.heap[ob]? = some (.cells #[.slice a acc.length c] 91 (0,0)) ∧
  (Below (w8.setCell ⟨ob,0,none⟩ (.slice a7 (acc.length + 1) c7)).heap.size (w8.setCell ⟨ob,0,none⟩ (.slice a7 (acc.length + 1) c7)) w9 →
   PkI w ob base (acc ++ [s]) w9 /\ KeepsOthers A w9 /\ (∀ b,b < base -> b ≠ ob -> w9.heap[b]? = A.heap[b]?) /\ A.heap.size <= w9.heap.size):=by
 have hb:=Zav A o
 have hlt:ob < A.heap.size:=by omega
 have h1':=(hb.block ob hlt).trans h1
 have h4':base <= (A.alloc o).heap.size:=by simp;omega
 have hgl:∀ g,a = some ⟨g,0,none⟩ -> g < A.heap.size:=by
  intro g hg
  rcases h2.form with ⟨h,_⟩ | ⟨g',h,_,h5⟩
  ·rw [h] at hg;cases hg
  ·rw [h] at hg;cases hg;exact h5
 obtain ⟨p1,p2,p3,p4⟩:=Zaff h1' (h2.alloc o) (h3.trans (hb.mono h3.size)) h4' hob hbase hown hg
 have h8:=Zrg h1' (h2.alloc o) hbase hg
 refine ⟨?_,h8,fun hb9=>?_⟩
 ·have:=p4 A.heap.size (by simp) (by simp) (fun g hg=>by have:=hgl g hg;omega) (by omega)
  rw [World.alloc_heap_new] at this
  rw [<- this]
  exact (Below.heap_setCell _ _ _ _ (by show A.heap.size ≠ ob;omega)).symm
 ·have ho9:Only (fun _=>False) (w8.setCell ⟨ob,0,none⟩ (.slice a7 (acc.length + 1) c7)) w9:=.ofBelow hb9
  refine ⟨p1.only ho9,((KeepsOthers.alloc A o).trans p2).trans ⟨hb9.size,fun k o' hk _=>(hb9.block k (Array.getElem?_eq_some_iff.1 hk).1).trans hk⟩,fun b hbb hne=>?_,?_⟩
  ·have e1:=p3 b hbb hne
   have hbl:b < (w8.setCell ⟨ob,0,none⟩ (.slice a7 (acc.length + 1) c7)).heap.size:=by have:=p2.size;simp at this ⊢;omega
   exact (hb9.block b hbl).trans (e1.trans (hb.block b (by omega)))
  ·have:=p2.size;have:=hb9.size;simp at *;omega
theorem Zvd (rs:List (Nat × Nat)) (i:Nat) (h:i < rs.length):(rs.take (i + 1)).flatMap packR = (rs.take i).flatMap packR ++ packR rs[i]:=by
 rw [List.take_succ_eq_append_getElem h,List.flatMap_append];simp
theorem Zrf (rs:List (Nat × Nat)) (hk:∀ r ∈ rs,r.1 <= 15) (hn:∀ r ∈ rs,0 < r.2) (i:Nat):((rs.take i).flatMap packR).length <= (unrun rs).length:=by
 have h1:=(Ztb (rs.take i) (fun r hr=>hk r (List.mem_of_mem_take hr)) (fun r hr=>hn r (List.mem_of_mem_take hr)) []).2.2
 have h2:(unrun (rs.take i)).length <= (unrun rs).length:=by
  unfold unrun
  conv=>rhs;rw [<- List.take_append_drop i rs,List.flatMap_append,List.length_append]
  omega
 omega
set_option maxRecDepth 100000 in
set_option maxHeartbeats 6400000 in
theorem Zrj (a:Option Addr) (cap:Nat) (l:List Nat) (w:World) (hr:RowN .u8 w a cap l) (h15:∀ x ∈ l,x <= 15) (hl:l.length <= 1000) :
  Calls Tryz.prog 91 #[.slice a l.length cap] w fun e w'=>∃ a' c',e = .returned (.tuple #[.slice a' (pack l).length c',.int .i64 0]) /\ OwnS encSg 95 w' w.heap.size a' c' (pack l) /\ Below w.heap.size w w':=by
 have hlong:long l = false:=by
  unfold long
  rw [List.any_eq_false]
  intro x hx
  have:=h15 x hx
  simpa using this
 have HC:=Zh (Zmi a cap l w hr)
 rw [hlong] at HC
 have HRS:=Zh (Zti l h15)
 have HRP:=Zh (Zmr l)
 have HUN:=Zh (Zrf (runs l) HRS.out HRP.out)
 rw [Zex] at HUN
 have HR:=Zh hr
 have HLB:=Zh hl
 clear hr h15 hlong hl
 refine (callsIn_wide (n:=9)).1 ?_
 refine callsIn_of_wp_marks Tryz.func91 rfl trivial ?_ rfl
 simp only [Tryz.ntmps91,List.size_toArray,List.length_cons,List.length_nil,Nat.reduceAdd,Nat.reduceSub,Array.replicate_succ,Array.replicate_zero,List.push_toArray,List.append_toArray,List.nil_append,List.cons_append]
 gi_wp2_with (first | (refine ⟨trivial,?_⟩;gi_at_call 88;refine (callsIn_wide.2 HC.out).mono ?_;rintro e w' ⟨rfl,rfl⟩) | (refine ⟨trivial,?_⟩;gi_at_call 126;refine (callsIn_wide.2 (Zrk _ _ _ _)).mono ?_;rintro e w' ⟨rfl,rfl⟩))
 have hb0:=World.alloc_heap_new w' (.cells #[.slice none 0 0] 91)
 have hb1:=World.alloc_heap_new (w'.alloc (.cells #[.slice none 0 0] 91)) (.cells #[.slice a l.length cap] 24)
 have hbel:Below w'.heap.size w' ((w'.alloc (.cells #[.slice none 0 0] 91)).alloc (.cells #[.slice a l.length cap] 24)):=((Below.refl _ w').alloc (Nat.le_refl _) _).alloc (by simp) _
 have hz:((w'.alloc (.cells #[.slice none 0 0] 91)).alloc (.cells #[.slice a l.length cap] 24)).heap.size = w'.heap.size + 2:=by simp
 have hb0':=(Below.heap_alloc (w'.alloc (.cells #[.slice none 0 0] 91)) (.cells #[.slice a l.length cap] 24) w'.heap.size (by simp)).trans hb0
 have hz1:(w'.alloc (.cells #[.slice none 0 0] 91)).heap.size = w'.heap.size + 1:=by simp
 rw [hz1] at hb1
 generalize (w'.alloc (.cells #[.slice none 0 0] 91)).alloc (.cells #[.slice a l.length cap] 24) = W0 at *
 clear hb0 hz1
 have hr4:RowN .u8 W0 a cap l:=HR.out.below hbel
 refine Zjk (g:=.tmp 11) (gf:=149) (lb:=#[.pointer (some ⟨w'.heap.size + 1,0,none⟩)]) rfl (enters_of Tryz.func149 (by kernel_rfl) rfl)
  (Zrm a cap l W0 (w'.heap.size + 1) hr4 hb1) (SameOn.refl _ _) ?hS (fun _ h=>h.elim) (fun _=>rfl)
  (fun i A=>PkI w' w'.heap.size (w'.heap.size + 2) (((runs l).take i).flatMap packR) A)
  (fun _ _ _=>False) (fun i A B h ho=>h.only ho) (fun i A l' o o' h h1 h2 h3=>h.put h2 h3 (by omega) _) (fun _ _ _ _ h _=>h) (fun _ _ _ _ _ _ h _ _ _=>h) ?h0 ?a1 ?assign ?body ?done (fun _ _ _ _ h _=>h.elim)
 case hS =>
  rintro b (rfl | ⟨h0,x,hx,rfl⟩)
  ·omega
  ·obtain ⟨b',off,he,hlt,_⟩:=hr4.at h0
   rw [hx] at he
   cases he
   exact hlt
 case h0=>exact ⟨none,0,by simpa using hb0',by simpa using OwnS.nil encSg 95 W0 (w'.heap.size + 2),hbel,by omega⟩
 case assign =>
  intro y i W K hK
  simp only [runsRow]
  gi_wp2
  exact hK
 case done =>
  rintro A ⟨a7,c7,h1,h2,h3,h4⟩ hD
  rw [List.take_of_length_le (Nat.le_refl _)] at h1 h2
  have hPK:Hid (((runs l).flatMap packR) = pack l):=rfl
  have c3:=cell_of_one h1
  have H2:=Zh h2
  have H3:=Zh h3
  clear h1 h2 h3
  generalize (runs l).flatMap packR = pk at *
  gi_wp2
  refine ⟨by simp,.inl ⟨_,_,rfl,run_takeDeferred hD,?_⟩⟩
  refine ⟨_,results_tmp2 rfl _ _ _,?_⟩
  exact ⟨a7,c7,by rw [<- hPK.out];rfl,by rw [<- hPK.out];exact (H2.out.put hD rfl _).mono (by omega),Below.put H3.out (Nat.le_refl _) hD (by omega) _⟩
 case body =>
  rintro y i hi A hz2 hpk
  obtain ⟨k,n,hrow⟩:∃ k n,(runs l)[i] = (k,n):=⟨_,_,rfl⟩
  have hk15:k <= 15:=by have:=HRS.out _ (List.getElem_mem hi);rw [hrow] at this;exact this
  have hn0:0 < n:=by have:=HRP.out _ (List.getElem_mem hi);rw [hrow] at this;exact this
  have hgd:(runs l)[i]?.getD (0,0) = (k,n):=by rw [List.getElem?_eq_getElem hi,hrow];rfl
  have HT:=Zh (Zvd (runs l) i hi)
  rw [hrow] at HT
  have hbd:=HUN.out (i + 1)
  have hbd0:=HUN.out i
  rw [HT.out,List.length_append] at hbd
  simp only [hgd]
  obtain ⟨tgt,htgt⟩:∃ tgt,tgt = ((runs l).take i).flatMap packR ++ packR (k,n):=⟨_,rfl⟩
  rw [<- htgt] at HT
  have htl:tgt.length <= 1000:=by rw [htgt,List.length_append];have:=HLB.out;omega
  have HSS:=Zh (fun b (h:orderS a (w'.heap.size + 1) l b)=>(show b < w'.heap.size + 2 /\ b ≠ w'.heap.size from by
   rcases h with rfl | ⟨h0,x,hx,rfl⟩
   ·omega
   ·obtain ⟨b',off,he,hlt,_⟩:=HR.out.at h0
    rw [hx] at he
    cases he
    show b' < _ /\ b' ≠ _
    omega))
  have HPA:=Zh hpk
  have hn1000:n <= 1000:=by
   have h2:=Zex l
   have h3:n <= (unrun (runs l)).length:=by
    rw [<- List.take_append_drop i (runs l),List.drop_eq_getElem_cons hi,hrow]
    unfold unrun
    simp only [List.flatMap_append,List.flatMap_cons,List.length_append,List.length_replicate]
    omega
   rw [h2] at h3
   have:=HLB.out
   omega
  clear hpk hrow hgd hbd hbd0 hb0' hb1 hbel hr4
  generalize ((runs l).take i).flatMap packR = acc0 at *
  obtain ⟨ob,hob⟩:∃ ob,w'.heap.size = ob:=⟨_,rfl⟩
  obtain ⟨base,hbase⟩:∃ base,w'.heap.size + 2 = base:=⟨_,rfl⟩
  have hzb:base <= W0.heap.size:=by omega
  have hobb:ob < base:=by omega
  have HOB:=Zh hob
  have HBASE:=Zh hbase
  rw [hbase,hob] at HPA
  have HSS:=Zh (fun b (h:orderS a (ob + 1) l b)=>(show b < base /\ b ≠ ob from by rw [<- HBASE.out,<- HOB.out];exact HSS.out b (by rw [HOB.out];exact h)))
  simp only [hob]
  clear hob hbase
  by_cases hk0:k = 0
  ·have HTG:=Zh (show acc0 ++ packK k n = tgt from by rw [htgt];unfold packR;rw [if_neg (by show ¬ 0 < k;omega),hk0])
   have t0:decide ((0:Int) < (k:Int)) = false:=by simp;omega
   have t1:decide (0 < k) = false:=by simp;omega
   clear htgt hn0 hk0
   gi_wp2
   gi_loopw [6,7,27,39,50] (fun x _ _ _ _ A'=>∃ (m:Nat) (acc:List Sg),x = .int .i64 (m:Nat) /\ m <= 1000 /\ PkI w' ob base acc A' /\ acc ++ packK k m = tgt /\ KeepsOthers A A' /\ (∀ b,b < base -> b ≠ ob -> A'.heap[b]? = A.heap[b]?) /\ A.heap.size <= A'.heap.size) (fun x _ _ _ _ _=>(intOf x).toNat)
   case atStart=>exact ⟨n,acc0,by trivial,by omega,HPA.out,HTG.out,KeepsOthers.refl _,fun _ _ _=>rfl,Nat.le_refl _⟩
   case round =>
    try clear qn1
    try clear HPA
    try clear HP8
    clear HTG
    obtain ⟨m,acc,rfl,hm,hpk,htg,hko,hsm,hsz⟩:=hrel
    have HKO:=Zh hko
    have HSM:=Zh hsm
    have HSZ:=Zh hsz
    by_cases hm0:0 < m
    ·obtain ⟨a9,c9,h1,h2,h3,h4⟩:=hpk
     have hlen:acc.length + 1 <= 1000:=by
      rw [<- htg,Zdt k m hk15 hm0,List.length_append,List.length_cons] at htl;omega
     rw [Zdt k m hk15 hm0] at htg
     obtain ⟨hs1,hs2,hs3⟩:=Zdd k m hk15 hm0
     have e0:=cell_of_one h1
     have f0:=free_of_one h1
     have hobA:ob < wr.heap.size:=by omega
     have hqo:¬ (wr.heap.size = ob):=by omega
     have HPR:=Zh (fun o w8 w9 a8 c8 s g1 g2=>Ztd (o:=o) (w8:=w8) (w9:=w9) (a7:=a8) (c7:=c8) (s:=s) h1 h2 h3 h4 (by have:=HOB.out;omega) hobb g1 g2)
     have H2:=Zh h2
     have t9:decide ((0:Int) < (m:Int)) = true:=by simp;omega
     clear h1 h2 h3 hko hsm hsz
     obtain ⟨s,hse⟩:∃ s,pickS k m = s:=⟨_,rfl⟩
     rw [hse] at htg hs1 hs2 hs3
     have HTM:=Zh (fun A=>Zeq s hs3 A)
     unfold sgV at HTM
     have HTG:=Zh (show (acc ++ [s]) ++ packK k (m - times s) = tgt from by rw [<- htg];simp)
     have hsx:=hs3.lt
     have hs18:=hs3.1
     obtain ⟨tm,htm⟩:∃ tm,times s = tm:=⟨_,rfl⟩
     rw [htm] at hs1 hs2 HTM HTG
     obtain ⟨m2,hm2⟩:∃ m2,m - tm = m2:=⟨_,rfl⟩
     rw [hm2] at HTG
     have qm2:(m:Int) - (tm:Int) = (m2:Int):=by omega
     have hm2l:m2 < m /\ m2 <= 1000:=by omega
     clear htg htm hs1 hs2 hs3 hm2
     unfold pickS at hse
     by_cases q1:k = 0 /\ 11 <= m
     ·rw [if_pos q1] at hse
      by_cases qm:138 < m
      ·obtain rfl:s = (18,127):=by rw [<- hse];simp;omega
       have b0:((k:Int) == 0) = true:=beq_iff_eq.2 (by omega)
       have b1:decide ((11:Int) <= (m:Int)) = true:=by simp;omega
       have bm:(if (138:Int) < (m:Int) then (138:Int) else (m:Int)) = 138:=if_pos (by omega)
       clear hse q1 qm
       simp only at hsx hs18 HTM
       gi_wp2_with (first | (gi_at_builtin;refine app1SIn Zaz rfl (.tmp 58) (.tmp 60) rfl (18,127) (base:=base) rfl (H2.out.alloc _) (show Value.slice (some ⟨wr.heap.size + 1,0,none⟩) 1 1 = .slice (some ⟨(wr.alloc _).heap.size,0,none⟩) 1 1 from by simp) rfl (Nat.le_refl _) (by decide) (by omega) (by omega) (by simp;omega) ?_;intro a8 c8 w8 hown8 hg8 hb8;have HPR2:=Zh (fun w9=>HPR.out _ w8 w9 a8 c8 (18,127) hown8 hg8);obtain ⟨g1,g2,_⟩:=HPR2.out w8;obtain ⟨k0,k1,_,_⟩:=Zae g1;have e8:=cell_of_one g2;have f8:=free_of_one g2;clear g1 g2 hown8 hg8 hb8 HPR H2) | (refine ⟨trivial,?_⟩;gi_at_call 127;refine (callsIn_wide.2 (HTM.out _)).mono ?_;rintro e w9 ⟨rfl,hb9⟩;have HF9:=Zh ((HPR2.out w9).2.2 hb9);clear hb9 HPR2))
       go_roundw
       case rel=>exact ⟨m2,acc ++ [(18,127)],by trivial,by omega,HF9.out.1,HTG.out,HKO.out.trans HF9.out.2.1,fun b h1 h2=>(HF9.out.2.2.1 b h1 h2).trans (HSM.out b h1 h2),Nat.le_trans HSZ.out HF9.out.2.2.2⟩
       case measure=>simp [intOf];omega
      ·obtain ⟨x,hx⟩:∃ x,m - 11 = x:=⟨_,rfl⟩
       obtain rfl:s = (18,x):=by rw [<- hse];simp;omega
       have b0:((k:Int) == 0) = true:=beq_iff_eq.2 (by omega)
       have b1:decide ((11:Int) <= (m:Int)) = true:=by simp;omega
       have bm:(if (138:Int) < (m:Int) then (138:Int) else (m:Int)) = (m:Int):=if_neg (by omega)
       have qx:(m:Int) - 11 = (x:Int):=by omega
       clear hse hx q1 qm
       simp only at hsx hs18 HTM
       gi_wp2_with (first | (gi_at_builtin;refine app1SIn Zaz rfl (.tmp 58) (.tmp 60) rfl (18,x) (base:=base) rfl (H2.out.alloc _) (show Value.slice (some ⟨wr.heap.size + 1,0,none⟩) 1 1 = .slice (some ⟨(wr.alloc _).heap.size,0,none⟩) 1 1 from by simp) rfl (Nat.le_refl _) (by decide) (by omega) (by omega) (by simp;omega) ?_;intro a8 c8 w8 hown8 hg8 hb8;have HPR2:=Zh (fun w9=>HPR.out _ w8 w9 a8 c8 (18,x) hown8 hg8);obtain ⟨g1,g2,_⟩:=HPR2.out w8;obtain ⟨k0,k1,_,_⟩:=Zae g1;have e8:=cell_of_one g2;have f8:=free_of_one g2;clear g1 g2 hown8 hg8 hb8 HPR H2) | (refine ⟨trivial,?_⟩;gi_at_call 127;refine (callsIn_wide.2 (HTM.out _)).mono ?_;rintro e w9 ⟨rfl,hb9⟩;have HF9:=Zh ((HPR2.out w9).2.2 hb9);clear hb9 HPR2))
       go_roundw
       case rel=>exact ⟨m2,acc ++ [(18,x)],by trivial,by omega,HF9.out.1,HTG.out,HKO.out.trans HF9.out.2.1,fun b h1 h2=>(HF9.out.2.2.1 b h1 h2).trans (HSM.out b h1 h2),Nat.le_trans HSZ.out HF9.out.2.2.2⟩
       case measure=>simp [intOf];omega
     rw [if_neg q1] at hse
     by_cases q2:k = 0 /\ 3 <= m
     ·rw [if_pos q2] at hse
      obtain ⟨x,hx⟩:∃ x,m - 3 = x:=⟨_,rfl⟩
      obtain rfl:s = (17,x):=by rw [<- hse,hx]
      have b0:((k:Int) == 0) = true:=beq_iff_eq.2 (by omega)
      have b1:decide ((11:Int) <= (m:Int)) = false:=by simp;omega
      have b2:decide ((3:Int) <= (m:Int)) = true:=by simp;omega
      have qx:(m:Int) - 3 = (x:Int):=by omega
      clear hse hx q1 q2
      simp only at hsx hs18 HTM
      gi_wp2_with (first | (gi_at_builtin;refine app1SIn Zaz rfl (.tmp 58) (.tmp 60) rfl (17,x) (base:=base) rfl (H2.out.alloc _) (show Value.slice (some ⟨wr.heap.size + 1,0,none⟩) 1 1 = .slice (some ⟨(wr.alloc _).heap.size,0,none⟩) 1 1 from by simp) rfl (Nat.le_refl _) (by decide) (by omega) (by omega) (by simp;omega) ?_;intro a8 c8 w8 hown8 hg8 hb8;have HPR2:=Zh (fun w9=>HPR.out _ w8 w9 a8 c8 (17,x) hown8 hg8);obtain ⟨g1,g2,_⟩:=HPR2.out w8;obtain ⟨k0,k1,_,_⟩:=Zae g1;have e8:=cell_of_one g2;have f8:=free_of_one g2;clear g1 g2 hown8 hg8 hb8 HPR H2) | (refine ⟨trivial,?_⟩;gi_at_call 127;refine (callsIn_wide.2 (HTM.out _)).mono ?_;rintro e w9 ⟨rfl,hb9⟩;have HF9:=Zh ((HPR2.out w9).2.2 hb9);clear hb9 HPR2))
      go_roundw
      case rel=>exact ⟨m2,acc ++ [(17,x)],by trivial,by omega,HF9.out.1,HTG.out,HKO.out.trans HF9.out.2.1,fun b h1 h2=>(HF9.out.2.2.1 b h1 h2).trans (HSM.out b h1 h2),Nat.le_trans HSZ.out HF9.out.2.2.2⟩
      case measure=>simp [intOf];omega
     rw [if_neg q2] at hse
     by_cases q3:3 <= m
     ·rw [if_pos q3] at hse
      by_cases qm:6 < m
      ·obtain rfl:s = (16,3):=by rw [<- hse];simp;omega
       have b0:((k:Int) == 0) = false:=beq_eq_false_iff_ne.2 (by omega)
       have b2:decide ((3:Int) <= (m:Int)) = true:=by simp;omega
       have bm:(if (6:Int) < (m:Int) then (6:Int) else (m:Int)) = 6:=if_pos (by omega)
       clear hse q1 q2 q3 qm
       simp only at hsx hs18 HTM
       gi_wp2_with (first | (gi_at_builtin;refine app1SIn Zaz rfl (.tmp 58) (.tmp 60) rfl (16,3) (base:=base) rfl (H2.out.alloc _) (show Value.slice (some ⟨wr.heap.size + 1,0,none⟩) 1 1 = .slice (some ⟨(wr.alloc _).heap.size,0,none⟩) 1 1 from by simp) rfl (Nat.le_refl _) (by decide) (by omega) (by omega) (by simp;omega) ?_;intro a8 c8 w8 hown8 hg8 hb8;have HPR2:=Zh (fun w9=>HPR.out _ w8 w9 a8 c8 (16,3) hown8 hg8);obtain ⟨g1,g2,_⟩:=HPR2.out w8;obtain ⟨k0,k1,_,_⟩:=Zae g1;have e8:=cell_of_one g2;have f8:=free_of_one g2;clear g1 g2 hown8 hg8 hb8 HPR H2) | (refine ⟨trivial,?_⟩;gi_at_call 127;refine (callsIn_wide.2 (HTM.out _)).mono ?_;rintro e w9 ⟨rfl,hb9⟩;have HF9:=Zh ((HPR2.out w9).2.2 hb9);clear hb9 HPR2))
       go_roundw
       case rel=>exact ⟨m2,acc ++ [(16,3)],by trivial,by omega,HF9.out.1,HTG.out,HKO.out.trans HF9.out.2.1,fun b h1 h2=>(HF9.out.2.2.1 b h1 h2).trans (HSM.out b h1 h2),Nat.le_trans HSZ.out HF9.out.2.2.2⟩
       case measure=>simp [intOf];omega
      ·obtain ⟨x,hx⟩:∃ x,m - 3 = x:=⟨_,rfl⟩
       obtain rfl:s = (16,x):=by rw [<- hse];simp;omega
       have b0:((k:Int) == 0) = false:=beq_eq_false_iff_ne.2 (by omega)
       have b2:decide ((3:Int) <= (m:Int)) = true:=by simp;omega
       have bm:(if (6:Int) < (m:Int) then (6:Int) else (m:Int)) = (m:Int):=if_neg (by omega)
       have qx:(m:Int) - 3 = (x:Int):=by omega
       clear hse hx q1 q2 q3 qm
       simp only at hsx hs18 HTM
       gi_wp2_with (first | (gi_at_builtin;refine app1SIn Zaz rfl (.tmp 58) (.tmp 60) rfl (16,x) (base:=base) rfl (H2.out.alloc _) (show Value.slice (some ⟨wr.heap.size + 1,0,none⟩) 1 1 = .slice (some ⟨(wr.alloc _).heap.size,0,none⟩) 1 1 from by simp) rfl (Nat.le_refl _) (by decide) (by omega) (by omega) (by simp;omega) ?_;intro a8 c8 w8 hown8 hg8 hb8;have HPR2:=Zh (fun w9=>HPR.out _ w8 w9 a8 c8 (16,x) hown8 hg8);obtain ⟨g1,g2,_⟩:=HPR2.out w8;obtain ⟨k0,k1,_,_⟩:=Zae g1;have e8:=cell_of_one g2;have f8:=free_of_one g2;clear g1 g2 hown8 hg8 hb8 HPR H2) | (refine ⟨trivial,?_⟩;gi_at_call 127;refine (callsIn_wide.2 (HTM.out _)).mono ?_;rintro e w9 ⟨rfl,hb9⟩;have HF9:=Zh ((HPR2.out w9).2.2 hb9);clear hb9 HPR2))
       go_roundw
       case rel=>exact ⟨m2,acc ++ [(16,x)],by trivial,by omega,HF9.out.1,HTG.out,HKO.out.trans HF9.out.2.1,fun b h1 h2=>(HF9.out.2.2.1 b h1 h2).trans (HSM.out b h1 h2),Nat.le_trans HSZ.out HF9.out.2.2.2⟩
       case measure=>simp [intOf];omega
     ·rw [if_neg q3] at hse
      subst hse
      by_cases hkz:k = 0
      ·skip
       have b0:((k:Int) == 0) = true:=beq_iff_eq.2 (by omega)
       have b1:decide ((11:Int) <= (m:Int)) = false:=by simp;omega
       have b2:decide ((3:Int) <= (m:Int)) = false:=by simp;omega
       clear q1 q2 q3 hkz
       simp only at hsx hs18 HTM
       gi_wp2_with (first | (gi_at_builtin;refine app1SIn Zaz rfl (.tmp 58) (.tmp 60) rfl (k,0) (base:=base) rfl (H2.out.alloc _) (show Value.slice (some ⟨wr.heap.size + 1,0,none⟩) 1 1 = .slice (some ⟨(wr.alloc _).heap.size,0,none⟩) 1 1 from by simp) rfl (Nat.le_refl _) (by decide) (by omega) (by omega) (by simp;omega) ?_;intro a8 c8 w8 hown8 hg8 hb8;have HPR2:=Zh (fun w9=>HPR.out _ w8 w9 a8 c8 (k,0) hown8 hg8);obtain ⟨g1,g2,_⟩:=HPR2.out w8;obtain ⟨k0,k1,_,_⟩:=Zae g1;have e8:=cell_of_one g2;have f8:=free_of_one g2;clear g1 g2 hown8 hg8 hb8 HPR H2) | (refine ⟨trivial,?_⟩;gi_at_call 127;refine (callsIn_wide.2 (HTM.out _)).mono ?_;rintro e w9 ⟨rfl,hb9⟩;have HF9:=Zh ((HPR2.out w9).2.2 hb9);clear hb9 HPR2))
       go_roundw
       case rel=>exact ⟨m2,acc ++ [(k,0)],by trivial,by omega,HF9.out.1,HTG.out,HKO.out.trans HF9.out.2.1,fun b h1 h2=>(HF9.out.2.2.1 b h1 h2).trans (HSM.out b h1 h2),Nat.le_trans HSZ.out HF9.out.2.2.2⟩
       case measure=>simp [intOf];omega
      ·skip
       have b0:((k:Int) == 0) = false:=beq_eq_false_iff_ne.2 (by omega)
       have b1:decide ((11:Int) <= (m:Int)) = false:=by simp;omega
       have b2:decide ((3:Int) <= (m:Int)) = false:=by simp;omega
       clear q1 q2 q3 hkz
       simp only at hsx hs18 HTM
       gi_wp2_with (first | (gi_at_builtin;refine app1SIn Zaz rfl (.tmp 58) (.tmp 60) rfl (k,0) (base:=base) rfl (H2.out.alloc _) (show Value.slice (some ⟨wr.heap.size + 1,0,none⟩) 1 1 = .slice (some ⟨(wr.alloc _).heap.size,0,none⟩) 1 1 from by simp) rfl (Nat.le_refl _) (by decide) (by omega) (by omega) (by simp;omega) ?_;intro a8 c8 w8 hown8 hg8 hb8;have HPR2:=Zh (fun w9=>HPR.out _ w8 w9 a8 c8 (k,0) hown8 hg8);obtain ⟨g1,g2,_⟩:=HPR2.out w8;obtain ⟨k0,k1,_,_⟩:=Zae g1;have e8:=cell_of_one g2;have f8:=free_of_one g2;clear g1 g2 hown8 hg8 hb8 HPR H2) | (refine ⟨trivial,?_⟩;gi_at_call 127;refine (callsIn_wide.2 (HTM.out _)).mono ?_;rintro e w9 ⟨rfl,hb9⟩;have HF9:=Zh ((HPR2.out w9).2.2 hb9);clear hb9 HPR2))
       go_roundw
       case rel=>exact ⟨m2,acc ++ [(k,0)],by trivial,by omega,HF9.out.1,HTG.out,HKO.out.trans HF9.out.2.1,fun b h1 h2=>(HF9.out.2.2.1 b h1 h2).trans (HSM.out b h1 h2),Nat.le_trans HSZ.out HF9.out.2.2.2⟩
       case measure=>simp [intOf];omega
    ·obtain rfl:m = 0:=by omega
     have HPK:=Zh hpk
     have htg2:acc = tgt:=by rw [<- htg];simp [packK,packM]
     clear hpk htg hko hsm hsz
     have t9:decide ((0:Int) < ((0:Nat):Int)) = false:=rfl
     gi_wp2
     refine ⟨(HKO.out).from _,⟨HSZ.out,fun b hb=>HSM.out b (HSS.out b hb).1 (HSS.out b hb).2⟩,?_⟩
     show PkI w' ob (ob + 2) (((runs l).take (i + 1)).flatMap packR) wr
     have hb2:ob + 2 = base:=by have:=HOB.out;have:=HBASE.out;omega
     rw [HT.out,<- htg2,hb2]
     exact HPK.out
  ·have HTG:=Zh (show (acc0 ++ [(k,0)]) ++ packK k (n - 1) = tgt from by rw [htgt];unfold packR;rw [if_pos (by show 0 < k;omega)];simp)
   have t0:decide ((0:Int) < (k:Int)) = true:=by simp;omega
   have t1:decide (0 < k) = true:=by simp;omega
   have hlen0:acc0.length + 1 <= 1000:=by rw [htgt,List.length_append] at htl;unfold packR at htl;rw [if_pos (by show 0 < k;omega)] at htl;simp at htl;omega
   clear htgt
   obtain ⟨a7,c7,h1,h2,h3,h4⟩:=HPA.out
   have e0:=cell_of_one h1
   have f0:=free_of_one h1
   have H1:=Zh h1
   have H2:=Zh h2
   have H3:=Zh h3
   have hobA:ob < A.heap.size:=by omega
   clear h1 h2 h3 HPA
   gi_wp2_with (gi_at_builtin;refine app1SIn Zaz rfl (.tmp 16) (.tmp 19) rfl (k,0) (base:=base) rfl H2.out rfl rfl (Nat.le_refl _) (by decide) (by omega) (by omega) h4 ?_;intro a8 c8 w8 hown8 hg8 hb8;have HP8:=Zh (Zaff H1.out H2.out H3.out h4 (by have:=HOB.out;omega) hobb hown8 hg8);have e8:∃ v,w8.cell? ⟨ob,0,none⟩ = some v:=Zags H1.out H2.out hobb hg8;have f8:w8.frozen? ⟨ob,0,none⟩ = false:=Zagt H1.out H2.out hobb hg8;obtain ⟨v8,e8⟩:=e8;clear hown8 hg8 hb8)
   have qn1:(n:Int) - 1 = ((n - 1:Nat):Int):=by omega
   gi_loopw [6,7,27,39,50] (fun x _ _ _ _ A'=>∃ (m:Nat) (acc:List Sg),x = .int .i64 (m:Nat) /\ m <= 1000 /\ PkI w' ob base acc A' /\ acc ++ packK k m = tgt /\ KeepsOthers A A' /\ (∀ b,b < base -> b ≠ ob -> A'.heap[b]? = A.heap[b]?) /\ A.heap.size <= A'.heap.size) (fun x _ _ _ _ _=>(intOf x).toNat)
   case atStart=>exact ⟨n - 1,acc0 ++ [(k,0)],by go_num,by omega,HP8.out.1,HTG.out,HP8.out.2.1,HP8.out.2.2.1,HP8.out.2.1.size⟩
   case round =>
    try clear qn1
    try clear HPA
    try clear HP8
    clear HTG
    obtain ⟨m,acc,rfl,hm,hpk,htg,hko,hsm,hsz⟩:=hrel
    have HKO:=Zh hko
    have HSM:=Zh hsm
    have HSZ:=Zh hsz
    by_cases hm0:0 < m
    ·obtain ⟨a9,c9,h1,h2,h3,h4⟩:=hpk
     have hlen:acc.length + 1 <= 1000:=by
      rw [<- htg,Zdt k m hk15 hm0,List.length_append,List.length_cons] at htl;omega
     rw [Zdt k m hk15 hm0] at htg
     obtain ⟨hs1,hs2,hs3⟩:=Zdd k m hk15 hm0
     have e0:=cell_of_one h1
     have f0:=free_of_one h1
     have hobA:ob < wr.heap.size:=by omega
     have hqo:¬ (wr.heap.size = ob):=by omega
     have HPR:=Zh (fun o w8 w9 a8 c8 s g1 g2=>Ztd (o:=o) (w8:=w8) (w9:=w9) (a7:=a8) (c7:=c8) (s:=s) h1 h2 h3 h4 (by have:=HOB.out;omega) hobb g1 g2)
     have H2:=Zh h2
     have t9:decide ((0:Int) < (m:Int)) = true:=by simp;omega
     clear h1 h2 h3 hko hsm hsz
     obtain ⟨s,hse⟩:∃ s,pickS k m = s:=⟨_,rfl⟩
     rw [hse] at htg hs1 hs2 hs3
     have HTM:=Zh (fun A=>Zeq s hs3 A)
     unfold sgV at HTM
     have HTG:=Zh (show (acc ++ [s]) ++ packK k (m - times s) = tgt from by rw [<- htg];simp)
     have hsx:=hs3.lt
     have hs18:=hs3.1
     obtain ⟨tm,htm⟩:∃ tm,times s = tm:=⟨_,rfl⟩
     rw [htm] at hs1 hs2 HTM HTG
     obtain ⟨m2,hm2⟩:∃ m2,m - tm = m2:=⟨_,rfl⟩
     rw [hm2] at HTG
     have qm2:(m:Int) - (tm:Int) = (m2:Int):=by omega
     have hm2l:m2 < m /\ m2 <= 1000:=by omega
     clear htg htm hs1 hs2 hs3 hm2
     unfold pickS at hse
     by_cases q1:k = 0 /\ 11 <= m
     ·rw [if_pos q1] at hse
      by_cases qm:138 < m
      ·obtain rfl:s = (18,127):=by rw [<- hse];simp;omega
       have b0:((k:Int) == 0) = true:=beq_iff_eq.2 (by omega)
       have b1:decide ((11:Int) <= (m:Int)) = true:=by simp;omega
       have bm:(if (138:Int) < (m:Int) then (138:Int) else (m:Int)) = 138:=if_pos (by omega)
       clear hse q1 qm
       simp only at hsx hs18 HTM
       gi_wp2_with (first | (gi_at_builtin;refine app1SIn Zaz rfl (.tmp 58) (.tmp 60) rfl (18,127) (base:=base) rfl (H2.out.alloc _) (show Value.slice (some ⟨wr.heap.size + 1,0,none⟩) 1 1 = .slice (some ⟨(wr.alloc _).heap.size,0,none⟩) 1 1 from by simp) rfl (Nat.le_refl _) (by decide) (by omega) (by omega) (by simp;omega) ?_;intro a8 c8 w8 hown8 hg8 hb8;have HPR2:=Zh (fun w9=>HPR.out _ w8 w9 a8 c8 (18,127) hown8 hg8);obtain ⟨g1,g2,_⟩:=HPR2.out w8;obtain ⟨k0,k1,_,_⟩:=Zae g1;have e8:=cell_of_one g2;have f8:=free_of_one g2;clear g1 g2 hown8 hg8 hb8 HPR H2) | (refine ⟨trivial,?_⟩;gi_at_call 127;refine (callsIn_wide.2 (HTM.out _)).mono ?_;rintro e w9 ⟨rfl,hb9⟩;have HF9:=Zh ((HPR2.out w9).2.2 hb9);clear hb9 HPR2))
       go_roundw
       case rel=>exact ⟨m2,acc ++ [(18,127)],by trivial,by omega,HF9.out.1,HTG.out,HKO.out.trans HF9.out.2.1,fun b h1 h2=>(HF9.out.2.2.1 b h1 h2).trans (HSM.out b h1 h2),Nat.le_trans HSZ.out HF9.out.2.2.2⟩
       case measure=>simp [intOf];omega
      ·obtain ⟨x,hx⟩:∃ x,m - 11 = x:=⟨_,rfl⟩
       obtain rfl:s = (18,x):=by rw [<- hse];simp;omega
       have b0:((k:Int) == 0) = true:=beq_iff_eq.2 (by omega)
       have b1:decide ((11:Int) <= (m:Int)) = true:=by simp;omega
       have bm:(if (138:Int) < (m:Int) then (138:Int) else (m:Int)) = (m:Int):=if_neg (by omega)
       have qx:(m:Int) - 11 = (x:Int):=by omega
       clear hse hx q1 qm
       simp only at hsx hs18 HTM
       gi_wp2_with (first | (gi_at_builtin;refine app1SIn Zaz rfl (.tmp 58) (.tmp 60) rfl (18,x) (base:=base) rfl (H2.out.alloc _) (show Value.slice (some ⟨wr.heap.size + 1,0,none⟩) 1 1 = .slice (some ⟨(wr.alloc _).heap.size,0,none⟩) 1 1 from by simp) rfl (Nat.le_refl _) (by decide) (by omega) (by omega) (by simp;omega) ?_;intro a8 c8 w8 hown8 hg8 hb8;have HPR2:=Zh (fun w9=>HPR.out _ w8 w9 a8 c8 (18,x) hown8 hg8);obtain ⟨g1,g2,_⟩:=HPR2.out w8;obtain ⟨k0,k1,_,_⟩:=Zae g1;have e8:=cell_of_one g2;have f8:=free_of_one g2;clear g1 g2 hown8 hg8 hb8 HPR H2) | (refine ⟨trivial,?_⟩;gi_at_call 127;refine (callsIn_wide.2 (HTM.out _)).mono ?_;rintro e w9 ⟨rfl,hb9⟩;have HF9:=Zh ((HPR2.out w9).2.2 hb9);clear hb9 HPR2))
       go_roundw
       case rel=>exact ⟨m2,acc ++ [(18,x)],by trivial,by omega,HF9.out.1,HTG.out,HKO.out.trans HF9.out.2.1,fun b h1 h2=>(HF9.out.2.2.1 b h1 h2).trans (HSM.out b h1 h2),Nat.le_trans HSZ.out HF9.out.2.2.2⟩
       case measure=>simp [intOf];omega
     rw [if_neg q1] at hse
     by_cases q2:k = 0 /\ 3 <= m
     ·rw [if_pos q2] at hse
      obtain ⟨x,hx⟩:∃ x,m - 3 = x:=⟨_,rfl⟩
      obtain rfl:s = (17,x):=by rw [<- hse,hx]
      have b0:((k:Int) == 0) = true:=beq_iff_eq.2 (by omega)
      have b1:decide ((11:Int) <= (m:Int)) = false:=by simp;omega
      have b2:decide ((3:Int) <= (m:Int)) = true:=by simp;omega
      have qx:(m:Int) - 3 = (x:Int):=by omega
      clear hse hx q1 q2
      simp only at hsx hs18 HTM
      gi_wp2_with (first | (gi_at_builtin;refine app1SIn Zaz rfl (.tmp 58) (.tmp 60) rfl (17,x) (base:=base) rfl (H2.out.alloc _) (show Value.slice (some ⟨wr.heap.size + 1,0,none⟩) 1 1 = .slice (some ⟨(wr.alloc _).heap.size,0,none⟩) 1 1 from by simp) rfl (Nat.le_refl _) (by decide) (by omega) (by omega) (by simp;omega) ?_;intro a8 c8 w8 hown8 hg8 hb8;have HPR2:=Zh (fun w9=>HPR.out _ w8 w9 a8 c8 (17,x) hown8 hg8);obtain ⟨g1,g2,_⟩:=HPR2.out w8;obtain ⟨k0,k1,_,_⟩:=Zae g1;have e8:=cell_of_one g2;have f8:=free_of_one g2;clear g1 g2 hown8 hg8 hb8 HPR H2) | (refine ⟨trivial,?_⟩;gi_at_call 127;refine (callsIn_wide.2 (HTM.out _)).mono ?_;rintro e w9 ⟨rfl,hb9⟩;have HF9:=Zh ((HPR2.out w9).2.2 hb9);clear hb9 HPR2))
      go_roundw
      case rel=>exact ⟨m2,acc ++ [(17,x)],by trivial,by omega,HF9.out.1,HTG.out,HKO.out.trans HF9.out.2.1,fun b h1 h2=>(HF9.out.2.2.1 b h1 h2).trans (HSM.out b h1 h2),Nat.le_trans HSZ.out HF9.out.2.2.2⟩
      case measure=>simp [intOf];omega
     rw [if_neg q2] at hse
     by_cases q3:3 <= m
     ·rw [if_pos q3] at hse
      by_cases qm:6 < m
      ·obtain rfl:s = (16,3):=by rw [<- hse];simp;omega
       have b0:((k:Int) == 0) = false:=beq_eq_false_iff_ne.2 (by omega)
       have b2:decide ((3:Int) <= (m:Int)) = true:=by simp;omega
       have bm:(if (6:Int) < (m:Int) then (6:Int) else (m:Int)) = 6:=if_pos (by omega)
       clear hse q1 q2 q3 qm
       simp only at hsx hs18 HTM
       gi_wp2_with (first | (gi_at_builtin;refine app1SIn Zaz rfl (.tmp 58) (.tmp 60) rfl (16,3) (base:=base) rfl (H2.out.alloc _) (show Value.slice (some ⟨wr.heap.size + 1,0,none⟩) 1 1 = .slice (some ⟨(wr.alloc _).heap.size,0,none⟩) 1 1 from by simp) rfl (Nat.le_refl _) (by decide) (by omega) (by omega) (by simp;omega) ?_;intro a8 c8 w8 hown8 hg8 hb8;have HPR2:=Zh (fun w9=>HPR.out _ w8 w9 a8 c8 (16,3) hown8 hg8);obtain ⟨g1,g2,_⟩:=HPR2.out w8;obtain ⟨k0,k1,_,_⟩:=Zae g1;have e8:=cell_of_one g2;have f8:=free_of_one g2;clear g1 g2 hown8 hg8 hb8 HPR H2) | (refine ⟨trivial,?_⟩;gi_at_call 127;refine (callsIn_wide.2 (HTM.out _)).mono ?_;rintro e w9 ⟨rfl,hb9⟩;have HF9:=Zh ((HPR2.out w9).2.2 hb9);clear hb9 HPR2))
       go_roundw
       case rel=>exact ⟨m2,acc ++ [(16,3)],by trivial,by omega,HF9.out.1,HTG.out,HKO.out.trans HF9.out.2.1,fun b h1 h2=>(HF9.out.2.2.1 b h1 h2).trans (HSM.out b h1 h2),Nat.le_trans HSZ.out HF9.out.2.2.2⟩
       case measure=>simp [intOf];omega
      ·obtain ⟨x,hx⟩:∃ x,m - 3 = x:=⟨_,rfl⟩
       obtain rfl:s = (16,x):=by rw [<- hse];simp;omega
       have b0:((k:Int) == 0) = false:=beq_eq_false_iff_ne.2 (by omega)
       have b2:decide ((3:Int) <= (m:Int)) = true:=by simp;omega
       have bm:(if (6:Int) < (m:Int) then (6:Int) else (m:Int)) = (m:Int):=if_neg (by omega)
       have qx:(m:Int) - 3 = (x:Int):=by omega
       clear hse hx q1 q2 q3 qm
       simp only at hsx hs18 HTM
       gi_wp2_with (first | (gi_at_builtin;refine app1SIn Zaz rfl (.tmp 58) (.tmp 60) rfl (16,x) (base:=base) rfl (H2.out.alloc _) (show Value.slice (some ⟨wr.heap.size + 1,0,none⟩) 1 1 = .slice (some ⟨(wr.alloc _).heap.size,0,none⟩) 1 1 from by simp) rfl (Nat.le_refl _) (by decide) (by omega) (by omega) (by simp;omega) ?_;intro a8 c8 w8 hown8 hg8 hb8;have HPR2:=Zh (fun w9=>HPR.out _ w8 w9 a8 c8 (16,x) hown8 hg8);obtain ⟨g1,g2,_⟩:=HPR2.out w8;obtain ⟨k0,k1,_,_⟩:=Zae g1;have e8:=cell_of_one g2;have f8:=free_of_one g2;clear g1 g2 hown8 hg8 hb8 HPR H2) | (refine ⟨trivial,?_⟩;gi_at_call 127;refine (callsIn_wide.2 (HTM.out _)).mono ?_;rintro e w9 ⟨rfl,hb9⟩;have HF9:=Zh ((HPR2.out w9).2.2 hb9);clear hb9 HPR2))
       go_roundw
       case rel=>exact ⟨m2,acc ++ [(16,x)],by trivial,by omega,HF9.out.1,HTG.out,HKO.out.trans HF9.out.2.1,fun b h1 h2=>(HF9.out.2.2.1 b h1 h2).trans (HSM.out b h1 h2),Nat.le_trans HSZ.out HF9.out.2.2.2⟩
       case measure=>simp [intOf];omega
     ·rw [if_neg q3] at hse
      subst hse
      by_cases hkz:k = 0
      ·skip
       have b0:((k:Int) == 0) = true:=beq_iff_eq.2 (by omega)
       have b1:decide ((11:Int) <= (m:Int)) = false:=by simp;omega
       have b2:decide ((3:Int) <= (m:Int)) = false:=by simp;omega
       clear q1 q2 q3 hkz
       simp only at hsx hs18 HTM
       gi_wp2_with (first | (gi_at_builtin;refine app1SIn Zaz rfl (.tmp 58) (.tmp 60) rfl (k,0) (base:=base) rfl (H2.out.alloc _) (show Value.slice (some ⟨wr.heap.size + 1,0,none⟩) 1 1 = .slice (some ⟨(wr.alloc _).heap.size,0,none⟩) 1 1 from by simp) rfl (Nat.le_refl _) (by decide) (by omega) (by omega) (by simp;omega) ?_;intro a8 c8 w8 hown8 hg8 hb8;have HPR2:=Zh (fun w9=>HPR.out _ w8 w9 a8 c8 (k,0) hown8 hg8);obtain ⟨g1,g2,_⟩:=HPR2.out w8;obtain ⟨k0,k1,_,_⟩:=Zae g1;have e8:=cell_of_one g2;have f8:=free_of_one g2;clear g1 g2 hown8 hg8 hb8 HPR H2) | (refine ⟨trivial,?_⟩;gi_at_call 127;refine (callsIn_wide.2 (HTM.out _)).mono ?_;rintro e w9 ⟨rfl,hb9⟩;have HF9:=Zh ((HPR2.out w9).2.2 hb9);clear hb9 HPR2))
       go_roundw
       case rel=>exact ⟨m2,acc ++ [(k,0)],by trivial,by omega,HF9.out.1,HTG.out,HKO.out.trans HF9.out.2.1,fun b h1 h2=>(HF9.out.2.2.1 b h1 h2).trans (HSM.out b h1 h2),Nat.le_trans HSZ.out HF9.out.2.2.2⟩
       case measure=>simp [intOf];omega
      ·skip
       have b0:((k:Int) == 0) = false:=beq_eq_false_iff_ne.2 (by omega)
       have b1:decide ((11:Int) <= (m:Int)) = false:=by simp;omega
       have b2:decide ((3:Int) <= (m:Int)) = false:=by simp;omega
       clear q1 q2 q3 hkz
       simp only at hsx hs18 HTM
       gi_wp2_with (first | (gi_at_builtin;refine app1SIn Zaz rfl (.tmp 58) (.tmp 60) rfl (k,0) (base:=base) rfl (H2.out.alloc _) (show Value.slice (some ⟨wr.heap.size + 1,0,none⟩) 1 1 = .slice (some ⟨(wr.alloc _).heap.size,0,none⟩) 1 1 from by simp) rfl (Nat.le_refl _) (by decide) (by omega) (by omega) (by simp;omega) ?_;intro a8 c8 w8 hown8 hg8 hb8;have HPR2:=Zh (fun w9=>HPR.out _ w8 w9 a8 c8 (k,0) hown8 hg8);obtain ⟨g1,g2,_⟩:=HPR2.out w8;obtain ⟨k0,k1,_,_⟩:=Zae g1;have e8:=cell_of_one g2;have f8:=free_of_one g2;clear g1 g2 hown8 hg8 hb8 HPR H2) | (refine ⟨trivial,?_⟩;gi_at_call 127;refine (callsIn_wide.2 (HTM.out _)).mono ?_;rintro e w9 ⟨rfl,hb9⟩;have HF9:=Zh ((HPR2.out w9).2.2 hb9);clear hb9 HPR2))
       go_roundw
       case rel=>exact ⟨m2,acc ++ [(k,0)],by trivial,by omega,HF9.out.1,HTG.out,HKO.out.trans HF9.out.2.1,fun b h1 h2=>(HF9.out.2.2.1 b h1 h2).trans (HSM.out b h1 h2),Nat.le_trans HSZ.out HF9.out.2.2.2⟩
       case measure=>simp [intOf];omega
    ·obtain rfl:m = 0:=by omega
     have HPK:=Zh hpk
     have htg2:acc = tgt:=by rw [<- htg];simp [packK,packM]
     clear hpk htg hko hsm hsz
     have t9:decide ((0:Int) < ((0:Nat):Int)) = false:=rfl
     gi_wp2
     refine ⟨(HKO.out).from _,⟨HSZ.out,fun b hb=>HSM.out b (HSS.out b hb).1 (HSS.out b hb).2⟩,?_⟩
     show PkI w' ob (ob + 2) (((runs l).take (i + 1)).flatMap packR) wr
     have hb2:ob + 2 = base:=by have:=HOB.out;have:=HBASE.out;omega
     rw [HT.out,<- htg2,hb2]
     exact HPK.out
end Go.Proofs.YtendielanacflaaGreat

namespace Go.Proofs.YtendielanacflaaGreat
open Go.RowKit Go.Shelf M04
set_option maxRecDepth 100000 in
set_option maxHeartbeats 3200000 in
theorem Zxr (a b:Option Addr) (ca cb:Nat) (f o:List Nat) (w:World) (h1:RowN .u8 w a ca f) (h2:RowN .u8 w b cb o) (hf:f.length <= 1000) (ho:o.length <= 1000) :
  Calls Tryz.prog 46 #[.slice a f.length ca,.slice b o.length cb] w fun e w'=>e = .returned (.bool (mayH f o)) /\ w' = w:=by
 have HC1:=Zh (Zjw a ca f w h1)
 have HC2:=Zh (Zjw b cb o w h2)
 have HK1:=Zh (Zbf a ca f w h1)
 have HK2:=Zh (Zbf b cb o w h2)
 have HS1:=Zh (Zhk a ca f w h1)
 have HS2:=Zh (Zhk b cb o w h2)
 have H1:=Zh h1
 clear h1 h2
 by_cases c1:f.length < 257
 ·have HR:Hid (mayH f o = false):=by unfold Hid mayH;simp;omega
  have t1:decide ((f.length:Int) < 257) = true:=by simp;omega
  clear c1 hf ho
  go_enter Tryz.func46,Tryz.ntmps46
  go_wp2
  go_ret
  exact ⟨by rw [HR.out];rfl,rfl⟩
 have t1:decide ((f.length:Int) < 257) = false:=by simp;omega
 by_cases c2:286 < f.length
 ·have HR:Hid (mayH f o = false):=by unfold Hid mayH;simp;omega
  have t2:decide ((286:Int) < (f.length:Int)) = true:=by simp;omega
  clear c1 c2 hf ho
  go_enter Tryz.func46,Tryz.ntmps46
  go_wp2
  go_ret
  exact ⟨by rw [HR.out];rfl,rfl⟩
 have t2:decide ((286:Int) < (f.length:Int)) = false:=by simp;omega
 by_cases c3:o.length < 1
 ·have HR:Hid (mayH f o = false):=by unfold Hid mayH;simp;omega
  have t3:decide ((o.length:Int) < 1) = true:=by simp;omega
  clear c1 c2 c3 hf ho
  go_enter Tryz.func46,Tryz.ntmps46
  go_wp2
  go_ret
  exact ⟨by rw [HR.out];rfl,rfl⟩
 have t3:decide ((o.length:Int) < 1) = false:=by simp;omega
 by_cases c4:30 < o.length
 ·have HR:Hid (mayH f o = false):=by unfold Hid mayH;simp;omega
  have t4:decide ((30:Int) < (o.length:Int)) = true:=by simp;omega
  clear c1 c2 c3 c4 hf ho
  go_enter Tryz.func46,Tryz.ntmps46
  go_wp2
  go_ret
  exact ⟨by rw [HR.out];rfl,rfl⟩
 have t4:decide ((30:Int) < (o.length:Int)) = false:=by simp;omega
 have hil:256 < f.length:=by omega
 obtain ⟨bl,off,rfl,hbl,hck⟩:=H1.out.at hil
 have hgd:f.getD 256 0 = f[256]:=by simp [hil]
 have hq:(256:Int) < (f.length:Int):=by omega
 have HM:Hid (mayH f o = (decide (f[256] ≠ 0) && !(long f) && !(long o) && (decide ((clsE f).1 = 2) || singleB f) && (decide ((clsE o).1 = 2) || decide ((clsE o).1 = 0) || singleB o))):=by
  have e1:257 <= f.length:=by omega
  have e2:f.length <= 286:=by omega
  have e3:1 <= o.length:=by omega
  have e4:o.length <= 30:=by omega
  unfold Hid mayH
  rw [hgd]
  simp only [e1,e2,e3,e4,decide_true,Bool.true_and]
 clear c1 c2 c3 c4 hf ho hgd H1
 generalize f[256] = x at *
 by_cases c5:x = 0
 ·have HR:Hid (mayH f o = false):=by unfold Hid;rw [HM.out];simp [c5]
  subst c5
  clear HM
  go_enter Tryz.func46,Tryz.ntmps46
  go_wp2
  go_ret
  exact ⟨by rw [HR.out];rfl,rfl⟩
 have t5:((x:Int) == 0) = false:=beq_eq_false_iff_ne.2 (by omega)
 have HM2:Hid (mayH f o = (!(long f) && !(long o) && (decide ((clsE f).1 = 2) || singleB f) && (decide ((clsE o).1 = 2) || decide ((clsE o).1 = 0) || singleB o))):=by
  unfold Hid;rw [HM.out];simp [c5]
 clear c5 HM
 generalize mayH f o = R at *
 generalize long f = lf at *
 cases lf
 case true =>
  have HR:Hid (R = false):=by unfold Hid;rw [HM2.out];simp
  clear HM2
  go_enter Tryz.func46,Tryz.ntmps46
  go_wp2_with (first | (go_at_call 88;refine HC1.out.mono ?_;rintro e w' ⟨rfl,rfl⟩))
  go_ret
  exact ⟨by rw [HR.out];rfl,rfl⟩
 generalize long o = lo at *
 cases lo
 case true =>
  have HR:Hid (R = false):=by unfold Hid;rw [HM2.out];simp
  clear HM2
  go_enter Tryz.func46,Tryz.ntmps46
  go_wp2_with (first | (go_at_call 88;refine HC1.out.mono ?_;rintro e w' ⟨rfl,rfl⟩;clear HC1) | (go_at_call 88;refine HC2.out.mono ?_;rintro e w' ⟨rfl,rfl⟩))
  go_ret
  exact ⟨by rw [HR.out];rfl,rfl⟩
 -- classes
 generalize clsE f = kf at *
 generalize clsE o = ko at *
 generalize singleB f = sf at *
 generalize singleB o = so at *
 obtain ⟨cf,ef⟩:=kf
 obtain ⟨co,eo⟩:=ko
 simp only [] at HM2 HK1 HK2
 by_cases d1:cf = 2
 ·have u1:((cf:Int) == 2) = true:=by rw [d1];rfl
  by_cases d2:co = 2
  ·have u3:((co:Int) == 2) = true:=by rw [d2];rfl
   have HR:Hid (R = true):=by unfold Hid;rw [HM2.out];simp_all
   clear HM2
   go_enter Tryz.func46,Tryz.ntmps46
   go_wp2_with (first | (go_at_call 88;refine HC1.out.mono ?_;rintro e w' ⟨rfl,rfl⟩;clear HC1) | (go_at_call 88;refine HC2.out.mono ?_;rintro e w' ⟨rfl,rfl⟩;clear HC2) | (go_at_call 89;refine HK1.out.mono ?_;rintro e w' ⟨rfl,rfl⟩;clear HK1) | (go_at_call 89;refine HK2.out.mono ?_;rintro e w' ⟨rfl,rfl⟩;clear HK2) | (go_at_call 90;refine HSF.out.mono ?_;rintro e w' ⟨rfl,rfl⟩;clear HSF) | (go_at_call 90;refine HSO.out.mono ?_;rintro e w' ⟨rfl,rfl⟩;clear HSO))
   go_ret
   exact ⟨by rw [HR.out];rfl,rfl⟩
  have u3:((co:Int) == 2) = false:=beq_eq_false_iff_ne.2 (by omega)
  by_cases d0:co = 0
  ·have u4:((co:Int) == 0) = true:=by rw [d0];rfl
   have HR:Hid (R = true):=by unfold Hid;rw [HM2.out];simp_all
   clear HM2
   go_enter Tryz.func46,Tryz.ntmps46
   go_wp2_with (first | (go_at_call 88;refine HC1.out.mono ?_;rintro e w' ⟨rfl,rfl⟩;clear HC1) | (go_at_call 88;refine HC2.out.mono ?_;rintro e w' ⟨rfl,rfl⟩;clear HC2) | (go_at_call 89;refine HK1.out.mono ?_;rintro e w' ⟨rfl,rfl⟩;clear HK1) | (go_at_call 89;refine HK2.out.mono ?_;rintro e w' ⟨rfl,rfl⟩;clear HK2) | (go_at_call 90;refine HSF.out.mono ?_;rintro e w' ⟨rfl,rfl⟩;clear HSF) | (go_at_call 90;refine HSO.out.mono ?_;rintro e w' ⟨rfl,rfl⟩;clear HSO))
   go_ret
   exact ⟨by rw [HR.out];rfl,rfl⟩
  have u4:((co:Int) == 0) = false:=beq_eq_false_iff_ne.2 (by omega)
  have HSO:=HS2
  clear HS2
  have HR:Hid (R = so):=by unfold Hid;rw [HM2.out];simp_all
  clear HM2
  go_enter Tryz.func46,Tryz.ntmps46
  go_wp2_with (first | (go_at_call 88;refine HC1.out.mono ?_;rintro e w' ⟨rfl,rfl⟩;clear HC1) | (go_at_call 88;refine HC2.out.mono ?_;rintro e w' ⟨rfl,rfl⟩;clear HC2) | (go_at_call 89;refine HK1.out.mono ?_;rintro e w' ⟨rfl,rfl⟩;clear HK1) | (go_at_call 89;refine HK2.out.mono ?_;rintro e w' ⟨rfl,rfl⟩;clear HK2) | (go_at_call 90;refine HSF.out.mono ?_;rintro e w' ⟨rfl,rfl⟩;clear HSF) | (go_at_call 90;refine HSO.out.mono ?_;rintro e w' ⟨rfl,rfl⟩;clear HSO))
  go_ret
  exact ⟨by rw [HR.out];rfl,rfl⟩
 have u1:((cf:Int) == 2) = false:=beq_eq_false_iff_ne.2 (by omega)
 cases sf
 case false =>
  have HSF:=HS1
  clear HS1 HS2
  have HR:Hid (R = false):=by unfold Hid;rw [HM2.out];simp_all
  clear HM2
  go_enter Tryz.func46,Tryz.ntmps46
  go_wp2_with (first | (go_at_call 88;refine HC1.out.mono ?_;rintro e w' ⟨rfl,rfl⟩;clear HC1) | (go_at_call 88;refine HC2.out.mono ?_;rintro e w' ⟨rfl,rfl⟩;clear HC2) | (go_at_call 89;refine HK1.out.mono ?_;rintro e w' ⟨rfl,rfl⟩;clear HK1) | (go_at_call 89;refine HK2.out.mono ?_;rintro e w' ⟨rfl,rfl⟩;clear HK2) | (go_at_call 90;refine HSF.out.mono ?_;rintro e w' ⟨rfl,rfl⟩;clear HSF) | (go_at_call 90;refine HSO.out.mono ?_;rintro e w' ⟨rfl,rfl⟩;clear HSO))
  go_ret
  exact ⟨by rw [HR.out];rfl,rfl⟩
 have HSF:=HS1
 clear HS1
 by_cases d2:co = 2
 ·have u3:((co:Int) == 2) = true:=by rw [d2];rfl
  have HR:Hid (R = true):=by unfold Hid;rw [HM2.out];simp_all
  clear HM2
  go_enter Tryz.func46,Tryz.ntmps46
  go_wp2_with (first | (go_at_call 88;refine HC1.out.mono ?_;rintro e w' ⟨rfl,rfl⟩;clear HC1) | (go_at_call 88;refine HC2.out.mono ?_;rintro e w' ⟨rfl,rfl⟩;clear HC2) | (go_at_call 89;refine HK1.out.mono ?_;rintro e w' ⟨rfl,rfl⟩;clear HK1) | (go_at_call 89;refine HK2.out.mono ?_;rintro e w' ⟨rfl,rfl⟩;clear HK2) | (go_at_call 90;refine HSF.out.mono ?_;rintro e w' ⟨rfl,rfl⟩;clear HSF) | (go_at_call 90;refine HSO.out.mono ?_;rintro e w' ⟨rfl,rfl⟩;clear HSO))
  go_ret
  exact ⟨by rw [HR.out];rfl,rfl⟩
 have u3:((co:Int) == 2) = false:=beq_eq_false_iff_ne.2 (by omega)
 by_cases d0:co = 0
 ·have u4:((co:Int) == 0) = true:=by rw [d0];rfl
  have HR:Hid (R = true):=by unfold Hid;rw [HM2.out];simp_all
  clear HM2
  go_enter Tryz.func46,Tryz.ntmps46
  go_wp2_with (first | (go_at_call 88;refine HC1.out.mono ?_;rintro e w' ⟨rfl,rfl⟩;clear HC1) | (go_at_call 88;refine HC2.out.mono ?_;rintro e w' ⟨rfl,rfl⟩;clear HC2) | (go_at_call 89;refine HK1.out.mono ?_;rintro e w' ⟨rfl,rfl⟩;clear HK1) | (go_at_call 89;refine HK2.out.mono ?_;rintro e w' ⟨rfl,rfl⟩;clear HK2) | (go_at_call 90;refine HSF.out.mono ?_;rintro e w' ⟨rfl,rfl⟩;clear HSF) | (go_at_call 90;refine HSO.out.mono ?_;rintro e w' ⟨rfl,rfl⟩;clear HSO))
  go_ret
  exact ⟨by rw [HR.out];rfl,rfl⟩
 have u4:((co:Int) == 0) = false:=beq_eq_false_iff_ne.2 (by omega)
 have HSO:=HS2
 clear HS2
 have HR:Hid (R = so):=by unfold Hid;rw [HM2.out];simp_all
 clear HM2
 go_enter Tryz.func46,Tryz.ntmps46
 go_wp2_with (first | (go_at_call 88;refine HC1.out.mono ?_;rintro e w' ⟨rfl,rfl⟩;clear HC1) | (go_at_call 88;refine HC2.out.mono ?_;rintro e w' ⟨rfl,rfl⟩;clear HC2) | (go_at_call 89;refine HK1.out.mono ?_;rintro e w' ⟨rfl,rfl⟩;clear HK1) | (go_at_call 89;refine HK2.out.mono ?_;rintro e w' ⟨rfl,rfl⟩;clear HK2) | (go_at_call 90;refine HSF.out.mono ?_;rintro e w' ⟨rfl,rfl⟩;clear HSF) | (go_at_call 90;refine HSO.out.mono ?_;rintro e w' ⟨rfl,rfl⟩;clear HSO))
 go_ret
 exact ⟨by rw [HR.out];rfl,rfl⟩
end Go.Proofs.YtendielanacflaaGreat

namespace Go.Proofs.YtendielanacflaaGreat
open Go.RowKit Go.Shelf M01 M04 M06 M10
theorem Rd.below {w w':World} {p at_:Nat} {bs:List Nat} (h:Rd w p bs at_) (hb:Below w.heap.size w w'):Rd w' p bs at_:=by
 obtain ⟨a,cap,h1,h2,h3⟩:=h
 refine ⟨a,cap,?_,h2.below hb,h3⟩
 have hlt:p < w.heap.size:=(Array.getElem?_eq_some_iff.1 h1).1
 exact (hb.block p hlt).trans h1
theorem Rd.belowAt {w w':World} {p at_ n:Nat} {bs:List Nat} (h:Rd w p bs at_) (hb:Below n w w') (hp:p < n):Rd w' p bs at_:=by
 obtain ⟨a,cap,h1,h2,h3,h4,h5,h6⟩:=h
 exact ⟨a,cap,(hb.block p hp).trans h1,h2.same hb.size (fun x _ hx=>hb.block _ (by have:=h6 x hx;omega)),h3,h4,h5,h6⟩
theorem Zwl (w1:World) (nb:Nat) (u v:Value) (t:TypeId) :
  (((w1.setCell ⟨nb,0,none⟩ u).setCell ⟨nb,1,none⟩ v).alloc (.cells #[u,v] t)).heap[w1.heap.size]? = some (.cells #[u,v] t (0,0)) /\ Only (fun b=>b = nb) w1 (((w1.setCell ⟨nb,0,none⟩ u).setCell ⟨nb,1,none⟩ v).alloc (.cells #[u,v] t)):=by
 refine ⟨?_,(((Only.refl (fun b=>b = nb) w1).setCell (p:=⟨nb,0,none⟩) (.inl rfl) u).setCell (p:=⟨nb,1,none⟩) (.inl rfl) v).alloc _⟩
 have:=World.alloc_heap_new ((w1.setCell ⟨nb,0,none⟩ u).setCell ⟨nb,1,none⟩ v) (.cells #[u,v] t)
 simpa [World.setCell] using this
theorem Zagq (x b k:Nat) (hx:x < 2 ^ k) (hb:b < 2) (hk:k <= 20):bits .or .u32 ((x:Int) * 2 % 4294967296) (b:Int) = ((2 * x + b:Nat):Int):=by
 have hp:2 ^ k <= 2 ^ 20:=Nat.pow_le_pow_right (by decide) hk
 have h1:((x:Int) * 2 % 4294967296) = ((2 * x:Nat):Int):=by omega
 rw [h1,Zil (2 * x) b (by omega) (by omega)]
 have h2:=Zafe b x 1 (by omega)
 rw [Nat.or_comm,Nat.mul_comm 2 x]
 have h3:x * 2 ^ 1 = x * 2:=rfl
 rw [h3] at h2
 rw [h2,Nat.add_comm]
theorem Rd.drewN {w:World} {p at_:Nat} {bs:List Nat} (h:Rd w p bs at_) (q:Nat):Rd (w.drewN q) p bs at_:=h
theorem World.cell?_lt {w:World} {a:Addr} {v:Value} (h:w.cell? a = some v):a.block < w.heap.size:=by
 unfold World.cell? at h
 rcases Nat.lt_or_ge a.block w.heap.size with h1 | h1
 ·exact h1
 ·rw [Array.getElem?_eq_none h1] at h
  simp at h
def SymOut (rp:Nat) (bs:List Nat) (R:Option (Nat × Nat)) (e:Ending) (w':World):Prop :=
 match R with
 | some (s,at2)=>e = .returned (.tuple #[.int .i64 (s:Nat),.int .i64 0]) /\ Rd w' rp bs at2
 | none=>e = .returned (.tuple #[.int .i64 0,.int .i64 2])
def wordK (A:World) (c:Value):Nat :=
 match c with
 | .pointer (some a)=>match A.cell? ⟨a.block,1,none⟩ with
  | some v=>(intOf v).toNat
  | none=>0
 | _=>0
theorem Ztv {A:World} {nb x k:Nat} (h:A.heap[nb]? = some (.cells #[.int .u32 (x:Nat),.int .u8 (k:Nat)] 129 (0,0))):wordK A (.pointer (some ⟨nb,0,none⟩)) = k:=by
 unfold wordK
 simp only [(Zck h).2]
 simp [intOf]
set_option maxRecDepth 100000 in
set_option maxHeartbeats 1600000 in
theorem Zvf (w:World) (lo hi p rp:Nat) (l bs:List Nat) (at_:Nat) (h20:∀ x ∈ l,x <= 20) (hT:Tb lo hi w p l) (hR:Rd w rp bs at_) (hrp:rp < lo \/ hi <= rp) :
  Calls Tryz.prog 152 #[.pointer (some ⟨p,0,none⟩),.pointer (some ⟨rp,0,none⟩),.func (Fn.func 104) #[.pointer (some ⟨rp,0,none⟩)] #[]] w fun e w' =>
   Only (fun b=>b = rp) w w' /\ SymOut rp bs (sym l bs at_) e w':=by
 have HT:=Zh hT
 have HR:=Zh hR
 have HG:=Zh (Zsn l h20)
 have HRP:=Zh hrp
 clear hT hR h20 hrp
 unfold sym
 obtain ⟨R,hR0⟩:∃ R,R = decF (tabOf l) bs 22 0 0 at_:=⟨_,rfl⟩
 rw [<- hR0]
 have HR0:=Zh hR0
 clear hR0
 go_enter Tryz.func152,Tryz.ntmps152
 go_wp2_with fail
 have HN:=Zh (World.alloc_heap_new w (.cells #[.int .u32 0,.int .u8 0] 129))
 go_loopw [8,9,10,11,12] (fun c _ _ _ _ A=>∃ x k at2 f nb:Nat,c = .pointer (some ⟨nb,0,none⟩) /\ A.heap[nb]? = some (.cells #[.int .u32 (x:Nat),.int .u8 (k:Nat)] 129 (0,0)) /\ w.heap.size <= nb /\ Rd A rp bs at2 /\ Only (fun b=>b = rp) w A /\ x < 2 ^ k /\ k <= 21 /\ f + k = 22 /\ R = decF (tabOf l) bs f x k at2) (fun c _ _ _ _ A=>22 - wordK A c)
 case atStart=>exact ⟨0,0,at_,22,w.heap.size,rfl,HN.out,Nat.le_refl _,HR.out.below (Zav w _),(Only.refl _ w).alloc _,by decide,by decide,rfl,HR0.out⟩
 case round =>
  obtain ⟨x,k,at2,f,nb,rfl,hc,hnb,hrd,hon,hx,hk,hf,he⟩:=hrel
  have HWK:=Zh (Ztv hc)
  obtain ⟨c0,c1,d0,d1⟩:=Zae hc
  have hT:=HT.out.only hon (fun b h1 h2 e=>by subst e;have:=HRP.out;omega)
  obtain ⟨a1,n1,a2,n2,mb,n,hp,_,_,hM,_⟩:=hT
  have hpt:wr.cell? ⟨p,2,none⟩ = some (.map (some mb)):=cells3' hp
  have hx32:x < 4294967296:=Nat.lt_of_lt_of_le hx (Nat.le_trans (Nat.pow_le_pow_right (by decide) hk) (by decide))
  have hL:∀ q,(Instr.lookup 125 (.map (some mb)) (.agg #[.int .u32 (x:Nat),.int .u8 (k:Nat)]) true).run Tryz.prog (wr.drewN q) = .ok (.tuple #[.int .i64 ((tabOf l x k).getD 0),.bool (tabOf l x k).isSome]) (wr.drewN q):=fun q=>(hM.same rfl:MapF (wr.drewN q) mb n (tabOf l)).look x k hx32 (by omega)
  have HE:=Zh he
  have HRD:=Zh hrd
  have HON:=Zh hon
  have HX:=Zh hx
  clear hp hM he hrd hon hx hc
  have hgd:=HG.out x k
  obtain ⟨f,rfl⟩:∃ f',f = f' + 1:=⟨f - 1,by omega⟩
  unfold decF at HE
  generalize tabOf l x k = r at *
  rcases r with _ | v
  ·clear hgd
   simp only [Option.getD_none,Option.isSome_none] at hL
   go_wp2_with fail
   go_quiet (fail)
   go_wp2
   go_ret2
   rw [HE.out]
   exact ⟨HON.out.trans (Zak _ _ _),rfl⟩
  ·obtain ⟨hk20,hv⟩:=hgd v rfl
   clear hgd
   simp only [Option.getD_some,Option.isSome_some] at hL
   rcases hv with rfl | ⟨s,rfl,hs⟩
   ·have HRP1:=HRD.out.lt
    have hrpw:rp < w.heap.size:=HR.out.lt
    by_cases hlt:at2 + 1 <= 8 * bs.length
    ·have HGET:=fun q=>Zfl (wr.drewN q) rp bs at2 1 (by decide) (HRD.out.drewN q) hlt
     have HE2:Hid (R = decF (tabOf l) bs f (2 * x + bit bs at2) (k + 1) (at2 + 1)):=by
      unfold Hid
      have:=HE.out
      simpa [hlt] using this
     have hnum:num bs at2 1 = bit bs at2:=by simp [num]
     simp only [hnum] at HGET
     have HGET:=Zh HGET
     have hbl:=Zkj bs at2
     have HLT:=Zh hlt
     clear HE hlt hnum HT HG
     generalize hbe:bit bs at2 = b at *
     clear hbe
     go_wp2_with fail
     go_quiet (fail)
     go_wp2_with fail
     refine (HGET.out _).mono ?_
     rintro e w1 ⟨rfl,hrd1,hon1⟩
     have c0':w1.cell? ⟨nb,0,none⟩ = some (.int .u32 (x:Nat)):=(World.cell?_of_block (a:=⟨nb,0,none⟩) (hon1.block nb (World.cell?_lt c0) (by show nb ≠ rp;omega))).trans c0
     have c1':w1.cell? ⟨nb,1,none⟩ = some (.int .u8 (k:Nat)):=(World.cell?_of_block (a:=⟨nb,1,none⟩) (hon1.block nb (World.cell?_lt c0) (by show nb ≠ rp;omega))).trans c1
     have d0':w1.frozen? ⟨nb,0,none⟩ = false:=(World.frozen?_of_block (a:=⟨nb,0,none⟩) (hon1.block nb (World.cell?_lt c0) (by show nb ≠ rp;omega))).trans d0
     have d1':w1.frozen? ⟨nb,1,none⟩ = false:=(World.frozen?_of_block (a:=⟨nb,1,none⟩) (hon1.block nb (World.cell?_lt c0) (by show nb ≠ rp;omega))).trans d1
     have hor:=Zagq x b k HX.out hbl hk20
     have HRD1:=Zh hrd1
     have HON1:=Zh ((HON.out.trans (Zak _ _ _)).trans hon1)
     clear hrd1 hon1 c0 c1 d0 d1 hL HON HRD
     go_wp2_with fail
     have hq1:(2 * (x:Int) + (b:Int)) = ((2 * x + b:Nat):Int):=by omega
     have hq2:((k:Int) + 1) = ((k + 1:Nat):Int):=by omega
     rw [hq1,hq2,HWK.out]
     obtain ⟨g1,g2⟩:=Zwl w1 nb (.int .u32 ((2 * x + b:Nat):Int)) (.int .u8 ((k + 1:Nat):Int)) 129
     generalize ((w1.setCell ⟨nb,0,none⟩ (.int .u32 ((2 * x + b:Nat):Int))).setCell ⟨nb,1,none⟩ (.int .u8 ((k + 1:Nat):Int))).alloc (.cells #[.int .u32 ((2 * x + b:Nat):Int),.int .u8 ((k + 1:Nat):Int)] 129) = W at *
     have hb1:Below w.heap.size w1 W:=⟨g2.os,g2.tape,g2.output,g2.size,fun b' hb'=>g2.block b' (by have:=HON1.out.size;omega) (by show b' ≠ nb;omega)⟩
     rw [Ztv g1]
     have hpow:2 * x + b < 2 ^ (k + 1):=by have:=HX.out;rw [Nat.pow_succ];omega
     have hws:=HON1.out.size
     exact ⟨⟨2 * x + b,k + 1,at2 + 1,f,w1.heap.size,rfl,g1,hws,HRD1.out.belowAt hb1 hrpw,⟨hb1.os.trans HON1.out.os,hb1.tape.trans HON1.out.tape,hb1.output.trans HON1.out.output,Nat.le_trans hws hb1.size,fun b' hb' hn=>(hb1.block b' hb').trans (HON1.out.block b' hb' hn)⟩,hpow,by omega,by omega,HE2.out⟩,by omega⟩
    ·have HGET:=fun q=>Zca (wr.drewN q) rp bs at2 1 (by decide) (HRD.out.drewN q) (by omega)
     have HE2:Hid (R = none):=by
      unfold Hid
      have:=HE.out
      simpa [hlt] using this
     have HGET:=Zh HGET
     clear HE hlt HT HG
     go_wp2_with fail
     go_quiet (fail)
     go_wp2_with fail
     refine (HGET.out _).mono ?_
     rintro e w1 ⟨rfl,q,rfl⟩
     go_wp2
     go_ret2
     rw [HE2.out]
     exact ⟨HON.out.trans (Zak _ _ _),rfl⟩
   ·clear hs
    have HE2:Hid (R = some (s,at2)):=by
     unfold Hid
     have:=HE.out
     simpa using this
    have t1:decide ((0:Int) <= (s:Int)) = true:=by simp
    clear HE HT HG
    go_wp2_with fail
    go_quiet (fail)
    go_wp2
    go_ret2
    rw [HE2.out]
    exact ⟨HON.out.trans (Zak _ _ _),rfl,HRD.out.drewN _⟩
theorem Zea (w:World) (lo hi p rp:Nat) (l bs:List Nat) (at_:Nat) (h20:∀ x ∈ l,x <= 20) (hT:Tb lo hi w p l) (hR:Rd w rp bs at_) (hrp:rp < lo \/ hi <= rp) :
  Calls Tryz.prog 131 #[.pointer (some ⟨p,0,none⟩),.pointer (some ⟨rp,0,none⟩)] w fun e w' =>
   Only (fun b=>b = rp) w w' /\ SymOut rp bs (sym l bs at_) e w':=by
 have HP:=Zh (Zvf w lo hi p rp l bs at_ h20 hT hR hrp)
 have hmf:∀ (fn:Fn) (first cap:Array Value) (w:World),(Instr.makeFunc fn first cap).run Tryz.prog w = .ok (.func fn first cap) w:=fun _ _ _ _=>rfl
 clear h20 hT hR hrp
 generalize sym l bs at_ = R at *
 go_enter Tryz.func131,Tryz.ntmps131
 go_wp2_with fail
 refine HP.out.mono ?_
 rintro e w1 ⟨hon,hs⟩
 have HON:=Zh hon
 clear hon HP
 rcases R with _ | ⟨s,at2⟩
 ·obtain rfl:e = _:=hs
  go_wp2
  go_ret2
  exact ⟨HON.out,rfl⟩
 ·obtain ⟨rfl,hrd⟩:e = _ /\ _:=hs
  have HRD:=Zh hrd
  clear hrd
  go_wp2
  go_ret2
  exact ⟨HON.out,rfl,HRD.out⟩
end Go.Proofs.YtendielanacflaaGreat
