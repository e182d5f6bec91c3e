/- emit.parts: an iterator over parts of tokens, with two cells of its own. Deflate: what lies ahead of the walk: the kinds, the parts' states, a writer by itself. token.may, token.Expand: contracts. -/
import Derived.Test.YtendielanacflaaGreatB01
import Derived.Test.YtendielanacflaaGreatB16
import Derived.Test.YtendielanacflaaGreatB15
import Derived.Test.YtendielanacflaaGreatB04
import Derived.Test.YtendielanacflaaGreatB06
set_option linter.unusedVariables false
set_option linter.unusedSimpArgs false
namespace Go.Proofs.YtendielanacflaaGreat
open Go.RowKit Go.Shelf M01 M09 M10 M17 M18
def cutT (a:Option Addr) (cap k:Nat):Option Addr:=if cap = k then a else a.map (·.add (k * 3))
theorem cutHiT (a:Option Addr) (len cap k:Nat) (h:k <= len) (hc:len <= cap) (w:World):(Instr.sliceAt 22 (.slice a len cap) (some (.int .i64 (k:Nat))) none none).run Tryz.prog w = .ok (.slice (cutT a cap k) (len - k) (cap - k)) w:=by
 have hsz:(Tryz.prog.info? 40).map (·.size) = some 3:=by kernel_rfl
 have h3:k <= cap:=by omega
 cases h5:Tryz.prog.info? 40 with
 | none=>rw [h5] at hsz;cases hsz
 | some ie =>
  simp only [h5,Option.map_some,Option.some.injEq] at hsz
  simp [Instr.sliceAt,Instr.slice,Instr.sliceBounds,Instr.sliceBound,run_underlying Tryz.underlying22,asIntOf,sizeOf,typeInfo,h5,hsz,go_sem,h,hc,h3,cutT]
theorem cutLoT (a:Option Addr) (len cap k:Nat) (h:k <= cap) (w:World):(Instr.sliceAt 22 (.slice a len cap) none (some (.int .i64 (k:Nat))) none).run Tryz.prog w = .ok (.slice a k cap) w:=by
 have hsz:(Tryz.prog.info? 40).map (·.size) = some 3:=by kernel_rfl
 cases h5:Tryz.prog.info? 40 with
 | none=>rw [h5] at hsz;cases hsz
 | some ie =>
  simp only [h5,Option.map_some,Option.some.injEq] at hsz
  simp [Instr.sliceAt,Instr.slice,Instr.sliceBounds,Instr.sliceBound,run_underlying Tryz.underlying22,asIntOf,sizeOf,typeInfo,h5,hsz,go_sem,h,Addr.add]
theorem Zadq {w:World} {a:Option Addr} {cap:Nat} {l:List Tok} (h:RowS encT w a cap l) (n:Nat) (hn:n <= l.length):RowS encT w (cutT a cap n) (cap - n) (l.drop n):=by
 obtain ⟨h1,h2,h3⟩:=h
 refine ⟨by rw [List.length_drop];omega,⟨by omega,fun e=>?_⟩,?_⟩
 ·unfold cutT at e
  split at e
  ·omega
  ·have:a = none:=by cases a with
    | none=>rfl
    | some x=>cases e
   have:=h2.2 this
   omega
 ·rcases h3 with h3 | ⟨b,off,ha,hb,hc⟩
  ·left;rw [h3];simp
  ·by_cases hl:n = l.length
   ·left;rw [hl,List.drop_length]
   ·right
    refine ⟨b,off + n * 3,?_,hb,fun i v hv=>?_⟩
    ·unfold cutT
     rw [if_neg (by omega),ha]
     simp only [Option.map_some,Addr.add_mid]
    ·have hfl:flat encT l = flat encT (l.take n) ++ flat encT (l.drop n):=by rw [<- Zdy,List.take_append_drop]
     have hlt:(flat encT (l.take n)).length = n * 3:=by rw [Zbw,List.length_take,Nat.min_eq_left hn];rfl
     have:=hc (n * 3 + i) v (by rw [hfl,List.getElem?_append_right (by omega),hlt,Nat.add_sub_cancel_left];exact hv)
     rw [<- Nat.add_assoc] at this
     exact this
theorem Zzh {w:World} {a:Option Addr} {cap:Nat} {l:List Tok} (h:RowS encT w a cap l) (n:Nat):RowS encT w a cap (l.take n):=by
 obtain ⟨h1,h2,h3⟩:=h
 refine ⟨by rw [List.length_take];omega,h2,?_⟩
 rcases h3 with h3 | ⟨b,off,ha,hb,hc⟩
 ·left;rw [h3];simp
 ·right
  refine ⟨b,off,ha,hb,fun i v hv=>hc i v ?_⟩
  have hfl:flat encT l = flat encT (l.take n) ++ flat encT (l.drop n):=by rw [<- Zdy,List.take_append_drop]
  rw [hfl,List.getElem?_append_left (List.getElem?_eq_some_iff.1 hv).1]
  exact hv
theorem Zug {a:Option Addr} {cap n:Nat} {x:Addr} (h:cutT a cap n = some x):∃ y,a = some y /\ x.block = y.block:=by
 unfold cutT at h
 split at h
 ·exact ⟨x,h,rfl⟩
 ·cases a with
  | none=>cases h
  | some y =>
   simp only [Option.map_some,Option.some.injEq] at h
   refine ⟨y,rfl,?_⟩
   rw [<- h]
   obtain ⟨yb,yo,yr⟩:=y
   cases yr with
   | none=>simp [Addr.add];split <;> rfl
   | some v =>
    simp [Addr.add]
    split <;> rfl
structure Pst where
 a:Option Addr
 cap:Nat
 l:List Tok
 ta:Option Addr
 tc:Nat
 x:List Nat
def Pst.n (s:Pst):Nat:=min s.l.length 1024
def Pst.z (s:Pst):Nat:=sizL (s.l.take s.n)
def Pst.next (s:Pst):Pst:=⟨cutT s.a s.cap s.n,s.cap - s.n,s.l.drop s.n,cutA s.ta s.tc s.z,s.tc - s.z,s.x.drop s.z⟩
def Pst.ath (s:Pst):Nat -> Pst
 | 0=>s
 | i + 1=>(s.ath i).next
def Pst.row (s:Pst):Array Value:=#[.agg #[.slice s.a s.n s.cap,.slice s.ta s.z s.tc,.bool (decide (s.l.length <= 1024))]]
structure Pst.Ok (w:World) (s:Pst):Prop where
 rl:RowS encT w s.a s.cap s.l
 rx:RowN .u8 w s.ta s.tc s.x
 ok:Oks s.l
 sz:s.x.length = sizL s.l
theorem Pst.z_le {w:World} {s:Pst} (h:s.Ok w):s.z <= s.x.length /\ (s.x.drop s.z).length = sizL (s.l.drop s.n):=by
 have e:sizL s.l = sizL (s.l.take s.n) + sizL (s.l.drop s.n):=by rw [<- Zmv,List.take_append_drop]
 have h2:=h.sz
 unfold Pst.z
 rw [List.length_drop]
 omega
theorem Pst.Ok.nxt {w:World} {s:Pst} (h:s.Ok w):s.next.Ok w :=
 ⟨Zadq h.rl _ (by unfold Pst.n;omega),Zmp h.rx _ (Pst.z_le h).1,h.ok.drop _,(Pst.z_le h).2⟩
theorem Pst.Ok.at {w:World} {s:Pst} (h:s.Ok w):∀ i,(s.ath i).Ok w
 | 0=>h
 | i + 1=>(Pst.Ok.at h i).nxt
theorem Pst.ath_l (s:Pst):∀ i,(s.ath i).l = s.l.drop (1024 * i)
 | 0=>rfl
 | i + 1=>by
  show (s.ath i).l.drop (s.ath i).n = _
  unfold Pst.n
  rw [Pst.ath_l s i,List.drop_drop,List.length_drop]
  by_cases h:s.l.length - 1024 * i <= 1024
  ·rw [List.drop_of_length_le (by omega),List.drop_of_length_le (by omega)]
  ·congr 1;omega
theorem Pst.ath_block {s:Pst}:∀ i x,((s.ath i).a = some x -> ∃ y,s.a = some y /\ x.block = y.block) /\ ((s.ath i).ta = some x -> ∃ y,s.ta = some y /\ x.block = y.block)
 | 0,x=>⟨fun h=>⟨x,h,rfl⟩,fun h=>⟨x,h,rfl⟩⟩
 | i + 1,x=>⟨fun h=>by
   obtain ⟨y,h1,h2⟩:=Zug h
   obtain ⟨z,h3,h4⟩:=(Pst.ath_block i y).1 h1
   exact ⟨z,h3,h2.trans h4⟩,fun h=>by
   obtain ⟨y,h1,h2⟩:=Zgp h
   obtain ⟨z,h3,h4⟩:=(Pst.ath_block i y).2 h1
   exact ⟨z,h3,h2.trans h4⟩⟩
def partN (n:Nat):Nat:=if n <= 1024 then 1 else (n + 1023) / 1024
def parT (B1 B2:Nat) (b:Nat):Prop:=b = B1 \/ b = B2
def parD (s:Pst) (b:Nat):Prop:=(0 < s.l.length /\ ∃ x,s.a = some x /\ b = x.block) \/ (0 < s.x.length /\ ∃ x,s.ta = some x /\ b = x.block)
def parS (s:Pst) (B1 B2:Nat) (b:Nat):Prop:=parT B1 B2 b \/ parD s b
theorem Pst.Ok.same {w A:World} {s:Pst} (h:s.Ok w) {S:Nat -> Prop} (hs:SameOn S w A) (hS:∀ b,parD s b -> S b):s.Ok A :=
 ⟨h.rl.same hs.size (fun x h0 hx=>hs.same _ (hS _ (.inl ⟨h0,x,hx,rfl⟩))),h.rx.same hs.size (fun x h0 hx=>hs.same _ (hS _ (.inr ⟨h0,x,hx,rfl⟩))),h.ok,h.sz⟩
theorem Zrp {t:Tok} (h:tokOk t):(sizT t:Int) = max t.len 1 /\ sizT t <= 258:=by
 unfold tokOk at h
 unfold sizT
 split at h
 ·next h0=>rw [if_pos h0,h0];exact ⟨by decide,by decide⟩
 ·next h0=>rw [if_neg h0];omega
theorem Zpg (l:List Tok) (k:Nat) (h:k < l.length):sizL (l.take (k + 1)) = sizL (l.take k) + sizT l[k]:=by
 rw [List.take_succ_eq_append_getElem h,Zmv];simp [sizL]
theorem Zjr (l:List Tok) (h:∀ t ∈ l,tokOk t):sizL l <= 258 * l.length:=by
 induction l with
 | nil=>simp [sizL]
 | cons t l ih =>
  have h1:=(Zrp (h t (by simp))).2
  have h2:=ih (fun x hx=>h x (by simp [hx]))
  simp only [sizL,List.map_cons,List.sum_cons,List.length_cons] at *
  omega
theorem Pst.ath_x (s:Pst):∀ i,(s.ath i).x.length <= s.x.length
 | 0=>Nat.le_refl _
 | i + 1=>by
  show ((s.ath i).x.drop (s.ath i).z).length <= _
  have:=Pst.ath_x s i
  rw [List.length_drop];omega
theorem Zag {P:Program} {n:Nat} {Q:Exit -> Act -> World -> Prop} {o:Oper} {a:Act} {w w':World} {K:Act -> World -> Prop} {v:Value}
  (hr:(execOp a.eval o).run P w = .ok (.value v) w') (h:K (a.put o.dst v) w'):Oper.wpIn Fence.wide n P o a w K Q:=by
 refine ⟨fun _ _=>trivial,?_⟩
 show o.uponIn _ _ _ _ _ _ ((o.semAt none a.eval).run P w)
 rw [Oper.semAt_none,hr]
 exact h
theorem Zcy {P:Program} {n:Nat} {Q:Exit -> Act -> World -> Prop} {o:Oper} {a:Act} {w w':World} {K:Act -> World -> Prop}
  (hr:(execOp a.eval o).run P w = .ok .skip w') (h:K (a.put o.dst undef) w'):Oper.wpIn Fence.wide n P o a w K Q:=by
 refine ⟨fun _ _=>trivial,?_⟩
 show o.uponIn _ _ _ _ _ _ ((o.semAt none a.eval).run P w)
 rw [Oper.semAt_none,hr]
 exact h
theorem ldTokS (p:Addr) (v:Value) (w:World) (h:w.cell? p = some v):(Instr.loadAt 22 (.pointer (some p))).run Tryz.prog w = .ok v w:=by
 simp [Instr.loadAt,Instr.sureAddr,loadVar,isAgg,run_underlying Tryz.underlying22,h,go_sem]
theorem ldU8S (p:Addr) (v:Value) (w:World) (h:w.cell? p = some v):(Instr.loadAt 24 (.pointer (some p))).run Tryz.prog w = .ok v w:=by
 simp [Instr.loadAt,Instr.sureAddr,loadVar,isAgg,run_underlying Tryz.underlying24,h,go_sem]
theorem stTokS (p:Addr) (a:Option Addr) (n c:Nat) (u:Value) (w:World) (h:w.cell? p = some u) (hf:w.frozen? p = false):(Instr.storeAt 22 (.pointer (some p)) (.slice a n c)).run Tryz.prog w = .ok () (w.setCell p (.slice a n c)):=by
 simp [Instr.storeAt,Instr.sureAddr,storeVar,isAgg,run_underlying Tryz.underlying22,h,hf,go_sem]
theorem stU8S (p:Addr) (a:Option Addr) (n c:Nat) (u:Value) (w:World) (h:w.cell? p = some u) (hf:w.frozen? p = false):(Instr.storeAt 24 (.pointer (some p)) (.slice a n c)).run Tryz.prog w = .ok () (w.setCell p (.slice a n c)):=by
 simp [Instr.storeAt,Instr.sureAddr,storeVar,isAgg,run_underlying Tryz.underlying24,h,hf,go_sem]
theorem alcPart (w:World):(Instr.alloc 64 true (.tuple #[])).run Tryz.prog w = .ok (.pointer (some ⟨w.heap.size,0,none⟩)) (w.alloc (.cells #[.slice none 0 0,.slice none 0 0,.bool false] 64)):=by kernel_rfl
theorem stPart (w:World) (a1 a2:Option Addr) (n1 c1 n2 c2:Nat) (d:Bool):(Instr.storeAt 64 (.pointer (some ⟨w.heap.size,0,none⟩)) (.agg #[.slice a1 n1 c1,.slice a2 n2 c2,.bool d])).run Tryz.prog (w.alloc (.cells #[.slice none 0 0,.slice none 0 0,.bool false] 64)) = .ok () (w.alloc (.cells #[.slice a1 n1 c1,.slice a2 n2 c2,.bool d] 64)):=by
 simp [Instr.storeAt,Instr.sureAddr,storeVar,isAgg,run_underlying Tryz.underlying64,go_sem]
theorem bldPart (a1 a2:Option Addr) (n1 c1 n2 c2:Nat) (d:Bool) (w:World):(Instr.build 64 #[(0,.slice a1 n1 c1),(1,.slice a2 n2 c2),(2,.bool d)]).run Tryz.prog w = .ok (.agg #[.slice a1 n1 c1,.slice a2 n2 c2,.bool d]) w:=by
 kernel_rfl
theorem eqlI (t:TypeId) (x y:Int) (w:World):(binOp .eql t (.int .i64 x) (.int .i64 y):Sem Value).run Tryz.prog w = .ok (.bool (x == y)) w:=by
 simp [binOp,go_sem]
theorem eqgE (t:TypeId) (x y:Operand) (m n:Int) (w:World):(eqGuard .eql t x y (.int .i64 m) (.int .i64 n)).run Tryz.prog w = .ok () w:=by simp [eqGuard,go_sem]
set_option maxRecDepth 100000 in
set_option maxHeartbeats 3200000 in
theorem Zov (s0:Pst) (w:World) (B1 B2:Nat) (hne:B1 ≠ B2) (h:s0.Ok w) (hl:s0.l.length <= 100000)
  (hB1:w.heap[B1]? = some (.cells #[.slice s0.a s0.l.length s0.cap] 22 (0,0))) (hB2:w.heap[B2]? = some (.cells #[.slice s0.ta s0.x.length s0.tc] 24 (0,0)))
  (hD:∀ b,parD s0 b -> ¬ parT B1 B2 b) :
  YieldsF Tryz.prog 59 #[.pointer (some ⟨B1,0,none⟩),.pointer (some ⟨B2,0,none⟩)] (partN s0.l.length) (fun i=>(s0.ath i).row) (parS s0 B1 B2) (parT B1 B2) w:=by
 intro y J Jx W hsame hJ hJx hY h0
 have HY:=Zh hY
 have HJ:=Zh hJ
 have h1:=(hsame.same B1 (.inl (.inl rfl))).trans hB1
 have h2:=(hsame.same B2 (.inl (.inr rfl))).trans hB2
 have HD:=Zh hD
 have HOK:=Zh h
 have HDL:Hid (∀ b,parD s0 b -> b < w.heap.size):=Zh (fun b hb=>by
  rcases hb with ⟨h0,x,hx,rfl⟩ | ⟨h0,x,hx,rfl⟩
  ·obtain ⟨b',off,he,hlt,_⟩:=h.rl.at h0
   rw [hx] at he
   cases he
   exact hlt
  ·obtain ⟨b',off,he,hlt,_⟩:=h.rx.at h0
   rw [hx] at he
   cases he
   exact hlt)
 clear hJ hJx hY hD h
 refine callsIn_of_wp Tryz.func59 rfl trivial ?_ rfl
 simp only [Tryz.ntmps59,List.size_toArray,List.length_cons,List.length_nil,Nat.reduceAdd,Nat.reduceSub,Array.replicate_succ,Array.replicate_zero,List.push_toArray,List.append_toArray,List.nil_append,List.cons_append]
 gi_wp2
 gi_loopw [] (fun A=>∃ i:Nat,i < partN s0.l.length /\ A.heap[B1]? = some (.cells #[.slice (s0.ath i).a (s0.ath i).l.length (s0.ath i).cap] 22 (0,0)) /\ A.heap[B2]? = some (.cells #[.slice (s0.ath i).ta (s0.ath i).x.length (s0.ath i).tc] 24 (0,0)) /\ SameOn (parD s0) w A /\ J i A) (fun A=>match A.cell? ⟨B1,0,none⟩ with | some (.slice _ n _)=>n | _=>0)
 case atStart=>exact ⟨0,by unfold partN;split <;> omega,h1,h2,⟨hsame.size,fun b hb=>hsame.same b (.inr hb)⟩,h0⟩
 case round =>
  clear hsame h1 h2 h0
  obtain ⟨i,hi,h1,h2,hsa,hJA⟩:=hrel
  have hok:=(HOK.out.at i).same hsa (fun b hb=>by
   rcases hb with ⟨h0,x,hx,rfl⟩ | ⟨h0,x,hx,rfl⟩
   ·obtain ⟨z,hz,hzb⟩:=(Pst.ath_block i x).1 hx
    exact .inl ⟨by rw [Pst.ath_l,List.length_drop] at h0;omega,z,hz,hzb⟩
   ·obtain ⟨z,hz,hzb⟩:=(Pst.ath_block i x).2 hx
    exact .inr ⟨by have:=Pst.ath_x s0 i;omega,z,hz,hzb⟩)
  have HLAST:Hid ((s0.ath i).l.length <= 1024 -> i + 1 = partN s0.l.length):=Zh (fun h=>by
   rw [Pst.ath_l,List.length_drop] at h
   rcases Nat.lt_or_ge 1024 s0.l.length with hh | hh
   ·rw [partN,if_neg (by omega)] at hi ⊢;omega
   ·rw [partN,if_pos (by omega)] at hi ⊢;omega)
  have HMORE:Hid (¬ (s0.ath i).l.length <= 1024 -> i + 1 < partN s0.l.length):=Zh (fun h=>by
   rw [Pst.ath_l,List.length_drop] at h
   rcases Nat.lt_or_ge 1024 s0.l.length with hh | hh
   ·rw [partN,if_neg (by omega)] at hi ⊢;omega
   ·rw [partN,if_pos (by omega)] at hi ⊢;omega)
  have HNX:Hid (s0.ath (i + 1) = (s0.ath i).next):=Zh rfl
  have HSA:=Zh hsa
  have HJA:=Zh hJA
  have hYi:=fun A h=>HY.out i wr A hi hJA h
  have HYI:=Zh hYi
  clear hYi hsa hJA
  generalize s0.ath i = s at *
  obtain ⟨a,cap,l,ta,tc,x⟩:=s
  simp only [Pst.row,Pst.next,Pst.n,Pst.z] at HYI HNX HLAST HMORE h1 h2 hok
  have hzz:=Pst.z_le hok
  simp only [Pst.n,Pst.z] at hzz
  have hrl:=hok.rl
  have hrx:=hok.rx
  have hokl:=hok.ok
  have hszx:=hok.sz
  simp only at hrl hrx hokl hszx
  have hcap:=hrl.1
  have hxcap:=hrx.1
  have hlen:=hrl.len
  obtain ⟨n,hn⟩:∃ n,min l.length 1024 = n:=⟨_,rfl⟩
  rw [hn] at HYI HNX hzz
  obtain ⟨z,hz⟩:∃ z,sizL (l.take n) = z:=⟨_,rfl⟩
  rw [hz] at HYI HNX hzz
  have HZ:=Zh hz
  have hzle:z <= 264192:=by
   have:=Zjr (l.take n) (fun t ht=>hokl.1 t (List.mem_of_mem_take ht))
   rw [List.length_take] at this
   omega
  have hzx:=hzz.1
  have HOKL:=Zh hokl
  have HOK2:=Zh hok
  have H1:=Zh h1
  have H2:=Zh h2
  have k1:=cell_of_one h1
  have k2:=cell_of_one h2
  have hn1:n <= l.length:=by omega
  have hn2:n <= 1024:=by omega
  have hnc:n <= cap:=by omega
  have HCL:=Zh (fun A=>cutLoT a l.length cap n hnc A)
  have hcl:∀ A,(Instr.sliceAt 22 (.slice a l.length cap) none (some (.int .i64 (n:Nat))) none).run Tryz.prog A = .ok (.slice a n cap) A:=HCL.out
  have HRL:=Zh hrl
  clear hok hzz hrl hrx hokl hszx hz h1 h2
  by_cases hc:l.length <= 1024
  ·obtain rfl:n = l.length:=by omega
   have HZT:Hid (sizL (l.take l.length) = z):=HZ
   rw [decide_eq_true hc] at HYI
   clear hn
   generalize wr = w0 at *
   gi_wp2
   gi_loopw [5,16] (fun sz iv A=>∃ k:Nat,k <= l.length /\ iv = .int .i64 (k:Nat) /\ sz = .int .i64 (sizL (l.take k):Nat) /\ Only (fun _=>False) w0 A) (fun _ iv _=>l.length - (intOf iv).toNat)
   case atStart=>exact ⟨0,by omega,rfl,by simp [sizL],Only.refl _ _⟩
   case round =>
    obtain ⟨k,hk,rfl,rfl,hoA⟩:=hrel
    by_cases hlt:k < l.length
    ·have hkl:k < l.length:=by omega
     have hrA:=HRL.out.same hoA.size (fun x h0 hx=>hoA.block _ (by
      obtain ⟨b',off,he,hlt',_⟩:=HRL.out.at h0
      rw [hx] at he
      cases he
      exact hlt') id)
     obtain ⟨b,off,rfl,hb,hcl⟩:=hrA.at hkl
     have c0:=hcl 0 _ rfl
     have c1:=hcl 1 _ rfl
     have c2:=hcl 2 _ rfl
     have hst:=Zrp (HOKL.out.1 _ (List.getElem_mem hkl))
     have HSN:=Zh (Zpg l k hkl)
     have hsl:=Zjr (l.take k) (fun t ht=>HOKL.out.1 t (List.mem_of_mem_take ht))
     rw [List.length_take] at hsl
     have hsl2:sizL (l.take k) <= 264192:=by omega
     have HOA:=Zh hoA
     clear hrA hcl hsl hoA
     generalize sizL (l.take k) = q at *
     generalize l[k] = t at *
     generalize sizT t = m at *
     obtain ⟨L,D,bt⟩:=t
     simp only [encT,Nat.add_zero] at c0 c1 c2 hst
     rw [<- Nat.add_assoc] at c1 c2
     have HSUM:Hid (wrap64 ((q:Int) + if L < 1 then 1 else L) = ((q + m:Nat):Int)):=Zh (by
      have h1:(if L < 1 then 1 else L) = (m:Int):=by split <;> omega
      rw [h1]
      unfold wrap64
      omega)
     have hwi:IntKind.i64.wrap ((k:Int) + 1) = ((k + 1:Nat):Int):=by rw [IntWalk.i64_in _ (by omega)];omega
     clear hst
     gi_wp2
     go_roundw
     case rel=>exact ⟨k + 1,by omega,by go_num,by rw [HSN.out,HSUM.out],HOA.out.alloc _⟩
     case measure=>simp [intOf];omega
    ·obtain rfl:k = l.length:=by omega
     rw [HZT.out]
     have HOA:=Zh hoA
     have h1':=(hoA.block B1 (lt_of_block H1.out) id).trans H1.out
     have h2':=(hoA.block B2 (lt_of_block H2.out) id).trans H2.out
     have hB1s:=lt_of_block h1'
     have hB2s:=lt_of_block h2'
     clear hoA hlt k1 k2
     gi_wp2
     obtain ⟨W6,hW6⟩:∃ W6,wr.drew = W6:=⟨_,rfl⟩
     have h16:W6.heap[B1]? = some (.cells #[.slice a l.length cap] 22 (0,0)):=by rw [<- hW6];exact h1'
     have h26:W6.heap[B2]? = some (.cells #[.slice ta x.length tc] 24 (0,0)):=by rw [<- hW6];exact h2'
     have HO6:Hid (Only (fun _=>False) w0 W6):=Zh (by rw [<- hW6];exact HOA.out.drew)
     have HLD:Hid (∀ p q:Bool,(if p = true then W6.alloc (if q = true then (.cells #[.slice a l.length cap,.slice ta z tc,.bool true] 64) else (.cells #[.slice none 0 0,.slice none 0 0,.bool false] 64)) else W6).cell? ⟨B1,0,none⟩ = some (.slice a l.length cap) /\ (if p = true then W6.alloc (if q = true then (.cells #[.slice a l.length cap,.slice ta z tc,.bool true] 64) else (.cells #[.slice none 0 0,.slice none 0 0,.bool false] 64)) else W6).cell? ⟨B2,0,none⟩ = some (.slice ta x.length tc)):=Zh (fun p q=>by
      cases p with
      | false=>exact ⟨cell_of_one h16,cell_of_one h26⟩
      | true=>exact ⟨cell_of_one ((Below.heap_alloc _ _ _ (lt_of_block h16)).trans h16),cell_of_one ((Below.heap_alloc _ _ _ (lt_of_block h26)).trans h26)⟩)
     refine Zar [26,27,28,29,30,31,32,33,34,35,36,8] (fun j=>j == 11) (fun listed A=>A = if listed.getD 11 false = true then W6.alloc (if listed.getD 12 false = true then (.cells #[.slice a l.length cap,.slice ta z tc,.bool true] 64) else (.cells #[.slice none 0 0,.slice none 0 0,.bool false] 64)) else W6) (fun j v _=>match j with | 0=>v = .slice a l.length cap | 1=>v = .int .i64 (l.length:Nat) | 2=>v = .slice a l.length cap | 3=>v = .slice ta x.length tc | 4=>v = .int .i64 (z:Nat) | 5=>v = .slice ta z tc | 6=>v = .int .i64 (l.length:Nat) | 7=>v = .slice a l.length cap | 8=>v = .int .i64 (l.length:Nat) | 9=>v = .bool true | 10=>v = .agg #[.slice a l.length cap,.slice ta z tc,.bool true] | 11=>v = .pointer (some ⟨W6.heap.size,0,none⟩) | _=>True) (fun _ _ _ _=>True) (by kernel_rfl) (by kernel_rfl) (OneEach.mk' (by kernel_rfl) (by kernel_rfl)) (by kernel_rfl) (by kernel_rfl) (by subst hW6;simp) ?_ ?_
     ·intro i0 o hi0 listed a1 w1 hR hil hunf hdes hanc hout hdep
      have hsz:i0 < 13:=(Array.getElem?_eq_some_iff.1 hi0).1
      obtain ⟨q1,q2⟩:=HLD.out (listed.getD 11 false) (listed.getD 12 false)
      rw [<- hR] at q1 q2
      have hall:i0 = 0 \/ i0 = 1 \/ i0 = 2 \/ i0 = 3 \/ i0 = 4 \/ i0 = 5 \/ i0 = 6 \/ i0 = 7 \/ i0 = 8 \/ i0 = 9 \/ i0 = 10 \/ i0 = 11 \/ i0 = 12:=by omega
      clear hsz
      rcases hall with rfl | rfl | rfl | rfl | rfl | rfl | rfl | rfl | rfl | rfl | rfl | rfl | rfl <;> simp only [List.getElem?_toArray,List.getElem?_cons_zero,List.getElem?_cons_succ,Option.some.injEq] at hi0 <;> subst hi0
      ·have f1:a1.eval (.tmp 1) = .pointer (some ⟨B1,0,none⟩):=hout 1 (by decide)
       refine Zag (v:=.slice a l.length cap) (w':=w1) (by simp [execOp,f1,ldTokS _ _ _ q1]) ⟨_,rfl,by rw [Zaa (by decide),Zaa (by decide)];exact hR,fun j u hu hV _=>⟨hV,trivial,trivial⟩,rfl⟩
      ·have f4:a1.eval (.tmp 4) = .int .i64 (l.length:Nat):=hout 4 (by decide)
       refine Zag (v:=.int .i64 (l.length:Nat)) (w':=w1) (by simp [execOp,f4]) ⟨_,rfl,by rw [Zaa (by decide),Zaa (by decide)];exact hR,fun j u hu hV _=>⟨hV,trivial,trivial⟩,rfl⟩
      ·have e26:a1.eval (.tmp 26) = .slice a l.length cap:=hdep ⟨0,.data⟩ (by simp) rfl _ rfl
       have e27:a1.eval (.tmp 27) = .int .i64 (l.length:Nat):=hdep ⟨1,.data⟩ (by simp) rfl _ rfl
       refine Zag (v:=.slice a l.length cap) (w':=w1) (by simp only [execOp,e26,e27,Option.map_some,Option.map_none];have hh:=cutLoT a l.length cap l.length (by omega) w1;(try simp only [Int.cast_ofNat_Int] at hh);simp [hh]) ⟨_,rfl,by rw [Zaa (by decide),Zaa (by decide)];exact hR,fun j u hu hV _=>⟨hV,trivial,trivial⟩,rfl⟩
      ·have f2:a1.eval (.tmp 2) = .pointer (some ⟨B2,0,none⟩):=hout 2 (by decide)
       refine Zag (v:=.slice ta x.length tc) (w':=w1) (by simp [execOp,f2,ldU8S _ _ _ q2]) ⟨_,rfl,by rw [Zaa (by decide),Zaa (by decide)];exact hR,fun j u hu hV _=>⟨hV,trivial,trivial⟩,rfl⟩
      ·have f5:a1.eval (.tmp 5) = .int .i64 (z:Nat):=hout 5 (by decide)
       refine Zag (v:=.int .i64 (z:Nat)) (w':=w1) (by simp [execOp,f5]) ⟨_,rfl,by rw [Zaa (by decide),Zaa (by decide)];exact hR,fun j u hu hV _=>⟨hV,trivial,trivial⟩,rfl⟩
      ·have e29:a1.eval (.tmp 29) = .slice ta x.length tc:=hdep ⟨3,.data⟩ (by simp) rfl _ rfl
       have e30:a1.eval (.tmp 30) = .int .i64 (z:Nat):=hdep ⟨4,.data⟩ (by simp) rfl _ rfl
       refine Zag (v:=.slice ta z tc) (w':=w1) (by simp [execOp,e29,e30,cutLoN ta x.length tc z (by omega)]) ⟨_,rfl,by rw [Zaa (by decide),Zaa (by decide)];exact hR,fun j u hu hV _=>⟨hV,trivial,trivial⟩,rfl⟩
      ·have f4:a1.eval (.tmp 4) = .int .i64 (l.length:Nat):=hout 4 (by decide)
       refine Zag (v:=.int .i64 (l.length:Nat)) (w':=w1) (by simp [execOp,f4]) ⟨_,rfl,by rw [Zaa (by decide),Zaa (by decide)];exact hR,fun j u hu hV _=>⟨hV,trivial,trivial⟩,rfl⟩
      ·have f1:a1.eval (.tmp 1) = .pointer (some ⟨B1,0,none⟩):=hout 1 (by decide)
       refine Zag (v:=.slice a l.length cap) (w':=w1) (by simp [execOp,f1,ldTokS _ _ _ q1]) ⟨_,rfl,by rw [Zaa (by decide),Zaa (by decide)];exact hR,fun j u hu hV _=>⟨hV,trivial,trivial⟩,rfl⟩
      ·have e33:a1.eval (.tmp 33) = .slice a l.length cap:=hdep ⟨7,.data⟩ (by simp) rfl _ rfl
       have x33:a1.tmps[33]?.getD undef = .slice a l.length cap:=by simpa [Act.eval] using e33
       refine Zag (v:=.int .i64 (l.length:Nat)) (w':=w1) (by simp [execOp,x33,go_sem]) ⟨_,rfl,by rw [Zaa (by decide),Zaa (by decide)];exact hR,fun j u hu hV _=>⟨hV,trivial,trivial⟩,rfl⟩
      ·have e32:a1.eval (.tmp 32) = .int .i64 (l.length:Nat):=hdep ⟨6,.data⟩ (by simp) rfl _ rfl
       have e34:a1.eval (.tmp 34) = .int .i64 (l.length:Nat):=hdep ⟨8,.data⟩ (by simp) rfl _ rfl
       refine Zag (v:=.bool true) (w':=w1) (by simp only [execOp,e32,e34];simp [eqgE,eqlI];try omega) ⟨_,rfl,by rw [Zaa (by decide),Zaa (by decide)];exact hR,fun j u hu hV _=>⟨hV,trivial,trivial⟩,rfl⟩
      ·have e28:a1.eval (.tmp 28) = .slice a l.length cap:=hdep ⟨2,.data⟩ (by simp) rfl _ rfl
       have e31:a1.eval (.tmp 31) = .slice ta z tc:=hdep ⟨5,.data⟩ (by simp) rfl _ rfl
       have e35:a1.eval (.tmp 35) = .bool true:=hdep ⟨9,.data⟩ (by simp) rfl _ rfl
       refine Zag (v:=.agg #[.slice a l.length cap,.slice ta z tc,.bool true]) (w':=w1) (by simp [execOp,e28,e31,e35,bldPart]) ⟨_,rfl,by rw [Zaa (by decide),Zaa (by decide)];exact hR,fun j u hu hV _=>⟨hV,trivial,trivial⟩,rfl⟩
      ·have h12:listed.getD 12 false = false:=hdes 12 (by kernel_rfl)
       rw [hunf,if_neg (by decide)] at hR
       refine Zag (v:=.pointer (some ⟨W6.heap.size,0,none⟩)) (w':=w1.alloc (.cells #[.slice none 0 0,.slice none 0 0,.bool false] 64)) (by rw [hR];simp [execOp,alcPart]) ⟨_,rfl,by rw [Zad hil,if_pos rfl,Zaa (by decide),h12,if_neg (by decide),hR],fun j u hu hV _=>⟨hV,trivial,trivial⟩,rfl⟩
      ·have h11:listed.getD 11 false = true:=hanc 11 (by kernel_rfl)
       rw [hunf,h11,if_pos rfl,if_neg (by decide)] at hR
       have e8:a1.eval (.tmp 8) = .pointer (some ⟨W6.heap.size,0,none⟩):=hdep ⟨11,.data⟩ (by simp) rfl _ rfl
       have e36:a1.eval (.tmp 36) = .agg #[.slice a l.length cap,.slice ta z tc,.bool true]:=hdep ⟨10,.data⟩ (by simp) rfl _ rfl
       refine Zcy (w':=W6.alloc (.cells #[.slice a l.length cap,.slice ta z tc,.bool true] 64)) (by rw [hR];simp only [execOp,e8,e36];rw [Sem.run_bind,stPart];simp) ⟨undef,rfl,?_,fun j u hu hV _=>⟨hV,trivial,trivial⟩,trivial⟩
       rw [Zad hil,Zaa (by decide),h11,if_pos rfl,if_pos rfl]
     ·intro listed fv w1 hR hall hV
      have v8:fv 8 = .pointer (some ⟨W6.heap.size,0,none⟩):=hV 11 _ rfl rfl
      rw [if_pos (hall 11 (by decide)),if_pos (hall 12 (by decide))] at hR
      simp only [spread,List.contains_cons,List.contains_nil,Nat.reduceBEq,Bool.or_false,Bool.or_true,cond_true,cond_false,Nat.reduceAdd,Nat.zero_add,v8]
      have g1:w1.heap[B1]? = some (.cells #[.slice a l.length cap] 22 (0,0)):=by rw [hR];exact (Below.heap_alloc _ _ _ (lt_of_block h16)).trans h16
      have g2:w1.heap[B2]? = some (.cells #[.slice ta x.length tc] 24 (0,0)):=by rw [hR];exact (Below.heap_alloc _ _ _ (lt_of_block h26)).trans h26
      have g3:w1.heap[W6.heap.size]? = some (.cells #[.slice a l.length cap,.slice ta z tc,.bool true] 64):=by rw [hR];exact World.alloc_heap_new _ _
      have HO7:Hid (Only (fun _=>False) w0 w1):=Zh (by rw [hR];exact HO6.out.alloc _)
      have hs6:w0.heap.size <= W6.heap.size:=HO6.out.size
      have hB6:B1 < W6.heap.size /\ B2 < W6.heap.size:=⟨lt_of_block h16,lt_of_block h26⟩
      clear HLD hR hV hall v8 h16 h26 HO6 HOA h1' h2' hW6
      obtain ⟨pb,hpb⟩:∃ pb,W6.heap.size = pb:=⟨_,rfl⟩
      rw [hpb] at g3 hs6 hB6
      rw [hpb]
      clear hpb
      generalize w1 = W7 at *
      clear hB1s hB2s
      clear wr W6
      gi_wp2
      refine Zar [37,38,39,40,41,42] (fun _=>false) (fun listed A=>Only (parT B1 B2) W7 A /\ A.heap[B1]? = some (.cells #[if listed.getD 6 false = true then .slice (cutT a cap l.length) (l.length - l.length) (cap - l.length) else .slice a l.length cap] 22 (0,0)) /\ A.heap[B2]? = some (.cells #[if listed.getD 7 false = true then .slice (cutA ta tc z) (x.length - z) (tc - z) else .slice ta x.length tc] 24 (0,0))) (fun j v _=>match j with | 0=>v = .slice a l.length cap | 1=>v = .int .i64 (l.length:Nat) | 2=>v = .slice (cutT a cap l.length) (l.length - l.length) (cap - l.length) | 3=>v = .slice ta x.length tc | 4=>v = .int .i64 (z:Nat) | 5=>v = .slice (cutA ta tc z) (x.length - z) (tc - z) | _=>True) (fun _ _ _ _=>True) (by kernel_rfl) (by kernel_rfl) (OneEach.mk' (by kernel_rfl) (by kernel_rfl)) (by kernel_rfl) (by kernel_rfl) ⟨⟨rfl,rfl,rfl,Nat.le_refl _,fun _ _ _=>rfl⟩,g1,g2⟩ ?_ ?_
      ·intro i0 o hi0 listed a1 w1 hR hil hunf hdes hanc hout hdep
       have hsz:i0 < 8:=(Array.getElem?_eq_some_iff.1 hi0).1
       obtain ⟨ho,q1,q2⟩:=hR
       have hall:i0 = 0 \/ i0 = 1 \/ i0 = 2 \/ i0 = 3 \/ i0 = 4 \/ i0 = 5 \/ i0 = 6 \/ i0 = 7:=by omega
       clear hsz
       rcases hall with rfl | rfl | rfl | rfl | rfl | rfl | rfl | rfl <;> simp only [List.getElem?_toArray,List.getElem?_cons_zero,List.getElem?_cons_succ,Option.some.injEq] at hi0 <;> subst hi0
       ·have h6:listed.getD 6 false = false:=hdes 6 (by kernel_rfl)
        have q1':=q1
        rw [h6,if_neg (by decide)] at q1'
        have f1:a1.eval (.tmp 1) = .pointer (some ⟨B1,0,none⟩):=hout 1 (by decide)
        refine Zag (v:=.slice a l.length cap) (w':=w1) (by simp [execOp,f1,ldTokS _ _ _ (cell_of_one q1')]) ⟨_,rfl,⟨ho,by rw [Zaa (by decide)];exact q1,by rw [Zaa (by decide)];exact q2⟩,fun j u hu hV _=>⟨hV,trivial,trivial⟩,rfl⟩
       ·have f4:a1.eval (.tmp 4) = .int .i64 (l.length:Nat):=hout 4 (by decide)
        refine Zag (v:=.int .i64 (l.length:Nat)) (w':=w1) (by simp [execOp,f4]) ⟨_,rfl,⟨ho,by rw [Zaa (by decide)];exact q1,by rw [Zaa (by decide)];exact q2⟩,fun j u hu hV _=>⟨hV,trivial,trivial⟩,rfl⟩
       ·have e37:a1.eval (.tmp 37) = .slice a l.length cap:=hdep ⟨0,.data⟩ (by simp) rfl _ rfl
        have e38:a1.eval (.tmp 38) = .int .i64 (l.length:Nat):=hdep ⟨1,.data⟩ (by simp) rfl _ rfl
        refine Zag (v:=.slice (cutT a cap l.length) (l.length - l.length) (cap - l.length)) (w':=w1) (by simp only [execOp,e37,e38,Option.map_some,Option.map_none];have hh:=cutHiT a l.length cap l.length (by omega) (by omega) w1;(try simp only [Int.cast_ofNat_Int] at hh);simp [hh]) ⟨_,rfl,⟨ho,by rw [Zaa (by decide)];exact q1,by rw [Zaa (by decide)];exact q2⟩,fun j u hu hV _=>⟨hV,trivial,trivial⟩,rfl⟩
       ·have h7:listed.getD 7 false = false:=hdes 7 (by kernel_rfl)
        have q2':=q2
        rw [h7,if_neg (by decide)] at q2'
        have f2:a1.eval (.tmp 2) = .pointer (some ⟨B2,0,none⟩):=hout 2 (by decide)
        refine Zag (v:=.slice ta x.length tc) (w':=w1) (by simp [execOp,f2,ldU8S _ _ _ (cell_of_one q2')]) ⟨_,rfl,⟨ho,by rw [Zaa (by decide)];exact q1,by rw [Zaa (by decide)];exact q2⟩,fun j u hu hV _=>⟨hV,trivial,trivial⟩,rfl⟩
       ·have f5:a1.eval (.tmp 5) = .int .i64 (z:Nat):=hout 5 (by decide)
        refine Zag (v:=.int .i64 (z:Nat)) (w':=w1) (by simp [execOp,f5]) ⟨_,rfl,⟨ho,by rw [Zaa (by decide)];exact q1,by rw [Zaa (by decide)];exact q2⟩,fun j u hu hV _=>⟨hV,trivial,trivial⟩,rfl⟩
       ·have e40:a1.eval (.tmp 40) = .slice ta x.length tc:=hdep ⟨3,.data⟩ (by simp) rfl _ rfl
        have e41:a1.eval (.tmp 41) = .int .i64 (z:Nat):=hdep ⟨4,.data⟩ (by simp) rfl _ rfl
        refine Zag (v:=.slice (cutA ta tc z) (x.length - z) (tc - z)) (w':=w1) (by simp only [execOp,e40,e41,Option.map_some,Option.map_none];have hh:=cutHiN ta x.length tc z (by omega) (by omega) w1;simp [hh]) ⟨_,rfl,⟨ho,by rw [Zaa (by decide)];exact q1,by rw [Zaa (by decide)];exact q2⟩,fun j u hu hV _=>⟨hV,trivial,trivial⟩,rfl⟩
       ·rw [hunf,if_neg (by decide)] at q1
        have f1:a1.eval (.tmp 1) = .pointer (some ⟨B1,0,none⟩):=hout 1 (by decide)
        have e39:a1.eval (.tmp 39) = .slice (cutT a cap l.length) (l.length - l.length) (cap - l.length):=hdep ⟨2,.data⟩ (by simp) rfl _ rfl
        refine Zcy (w':=w1.setCell ⟨B1,0,none⟩ (.slice (cutT a cap l.length) (l.length - l.length) (cap - l.length))) (by simp only [execOp,f1,e39];simp [stTokS _ _ _ _ _ _ (cell_of_one q1) (free_of_one q1)]) ⟨undef,rfl,⟨ho.setCell (.inl (.inl rfl)) _,?_,?_⟩,fun j u hu hV _=>⟨hV,trivial,trivial⟩,trivial⟩
        ·rw [Zad hil,if_pos rfl];exact one_setCell q1
        ·rw [Zaa (by decide)];exact (Below.heap_setCell _ _ _ _ (by show B2 ≠ B1;omega)).trans q2
       ·rw [hunf,if_neg (by decide)] at q2
        have f2:a1.eval (.tmp 2) = .pointer (some ⟨B2,0,none⟩):=hout 2 (by decide)
        have e42:a1.eval (.tmp 42) = .slice (cutA ta tc z) (x.length - z) (tc - z):=hdep ⟨5,.data⟩ (by simp) rfl _ rfl
        refine Zcy (w':=w1.setCell ⟨B2,0,none⟩ (.slice (cutA ta tc z) (x.length - z) (tc - z))) (by simp only [execOp,f2,e42];simp [stU8S _ _ _ _ _ _ (cell_of_one q2) (free_of_one q2)]) ⟨undef,rfl,⟨ho.setCell (.inl (.inr rfl)) _,?_,?_⟩,fun j u hu hV _=>⟨hV,trivial,trivial⟩,trivial⟩
        ·rw [Zaa (by decide)];exact (Below.heap_setCell _ _ _ _ (by show B1 ≠ B2;omega)).trans q1
        ·rw [Zad hil,if_pos rfl];exact one_setCell q2
      ·intro listed fv w1 hR hall hV
       rw [if_pos (hall 6 (by decide)),if_pos (hall 7 (by decide))] at hR
       obtain ⟨ho8,n1,n2⟩:=hR
       simp only [spread,List.contains_cons,List.contains_nil,Nat.reduceBEq,Bool.or_false,Bool.or_true,cond_true,cond_false,Nat.reduceAdd,Nat.zero_add]
       have g38:w1.heap[pb]? = some (.cells #[.slice a l.length cap,.slice ta z tc,.bool true] 64):=(ho8.block pb (lt_of_block g3) (fun h=>by unfold parT at h;omega)).trans g3
       obtain ⟨b0,b1,b2⟩:=cells3 g38
       have hon:=(HO7.out.mono (fun _ _ h=>h.elim)).trans ho8
       obtain ⟨fn,tmps,assign,body,hy,hRR⟩:=HYI.out _ hon
       have HR:=Zh hRR
       have HON:=Zh hon
       have G38:=Zh g38
       have N1:=Zh n1
       have N2:=Zh n2
       have hps:=lt_of_block g38
       clear hRR hon ho8 hV hall g1 g2 g3 n1 n2 g38
       gi_wp2
       refine (Zbb HR.out).mono ?_
       rintro e W' (⟨rfl,hJ',hk',hnk⟩ | ⟨rfl,hJx'⟩)
       ·have g39:=(hnk pb hs6 hps).trans G38.out
        obtain ⟨d0,d1,d2⟩:=cells3 g39
        have m1:=(hk'.same B1 (.inl (.inl rfl))).trans N1.out
        have m2:=(hk'.same B2 (.inl (.inr rfl))).trans N2.out
        have M1:=Zh m1
        have M2:=Zh m2
        have HJ':=Zh hJ'
        have HK':=Zh hk'
        clear hJ' hk' hnk g39 m1 m2 b0 b1 b2 hy HR
        gi_wp2
        refine bodyPost_ret (results_none rfl _ _ _) rfl ?_
        exact ⟨⟨_,rfl⟩,.inl (by rw [<- HLAST.out hc];exact HJ'.out)⟩
       ·have HJX:=Zh hJx'
        clear hJx' b0 b1 b2 hy HR
        gi_wp2
        refine bodyPost_ret (results_none rfl _ _ _) rfl ?_
        exact ⟨⟨_,rfl⟩,.inr ⟨i,hi,HJX.out⟩⟩
  ·obtain rfl:n = 1024:=by omega
   have HZT:Hid (sizL (l.take 1024) = z):=HZ
   rw [decide_eq_false hc] at HYI
   clear hn
   generalize wr = w0 at *
   gi_wp2
   gi_loopw [5,16] (fun sz iv A=>∃ k:Nat,k <= 1024 /\ iv = .int .i64 (k:Nat) /\ sz = .int .i64 (sizL (l.take k):Nat) /\ Only (fun _=>False) w0 A) (fun _ iv _=>1024 - (intOf iv).toNat)
   case atStart=>exact ⟨0,by omega,rfl,by simp [sizL],Only.refl _ _⟩
   case round =>
    obtain ⟨k,hk,rfl,rfl,hoA⟩:=hrel
    by_cases hlt:k < 1024
    ·have hkl:k < l.length:=by omega
     have hrA:=HRL.out.same hoA.size (fun x h0 hx=>hoA.block _ (by
      obtain ⟨b',off,he,hlt',_⟩:=HRL.out.at h0
      rw [hx] at he
      cases he
      exact hlt') id)
     obtain ⟨b,off,rfl,hb,hcl⟩:=hrA.at hkl
     have c0:=hcl 0 _ rfl
     have c1:=hcl 1 _ rfl
     have c2:=hcl 2 _ rfl
     have hst:=Zrp (HOKL.out.1 _ (List.getElem_mem hkl))
     have HSN:=Zh (Zpg l k hkl)
     have hsl:=Zjr (l.take k) (fun t ht=>HOKL.out.1 t (List.mem_of_mem_take ht))
     rw [List.length_take] at hsl
     have hsl2:sizL (l.take k) <= 264192:=by omega
     have HOA:=Zh hoA
     clear hrA hcl hsl hoA
     generalize sizL (l.take k) = q at *
     generalize l[k] = t at *
     generalize sizT t = m at *
     obtain ⟨L,D,bt⟩:=t
     simp only [encT,Nat.add_zero] at c0 c1 c2 hst
     rw [<- Nat.add_assoc] at c1 c2
     have HSUM:Hid (wrap64 ((q:Int) + if L < 1 then 1 else L) = ((q + m:Nat):Int)):=Zh (by
      have h1:(if L < 1 then 1 else L) = (m:Int):=by split <;> omega
      rw [h1]
      unfold wrap64
      omega)
     have hwi:IntKind.i64.wrap ((k:Int) + 1) = ((k + 1:Nat):Int):=by rw [IntWalk.i64_in _ (by omega)];omega
     clear hst
     gi_wp2
     go_roundw
     case rel=>exact ⟨k + 1,by omega,by go_num,by rw [HSN.out,HSUM.out],HOA.out.alloc _⟩
     case measure=>simp [intOf];omega
    ·obtain rfl:k = 1024:=by omega
     rw [HZT.out]
     have HOA:=Zh hoA
     have h1':=(hoA.block B1 (lt_of_block H1.out) id).trans H1.out
     have h2':=(hoA.block B2 (lt_of_block H2.out) id).trans H2.out
     have hB1s:=lt_of_block h1'
     have hB2s:=lt_of_block h2'
     clear hoA hlt k1 k2
     gi_wp2
     obtain ⟨W6,hW6⟩:∃ W6,wr.drew = W6:=⟨_,rfl⟩
     have h16:W6.heap[B1]? = some (.cells #[.slice a l.length cap] 22 (0,0)):=by rw [<- hW6];exact h1'
     have h26:W6.heap[B2]? = some (.cells #[.slice ta x.length tc] 24 (0,0)):=by rw [<- hW6];exact h2'
     have HO6:Hid (Only (fun _=>False) w0 W6):=Zh (by rw [<- hW6];exact HOA.out.drew)
     have HLD:Hid (∀ p q:Bool,(if p = true then W6.alloc (if q = true then (.cells #[.slice a 1024 cap,.slice ta z tc,.bool false] 64) else (.cells #[.slice none 0 0,.slice none 0 0,.bool false] 64)) else W6).cell? ⟨B1,0,none⟩ = some (.slice a l.length cap) /\ (if p = true then W6.alloc (if q = true then (.cells #[.slice a 1024 cap,.slice ta z tc,.bool false] 64) else (.cells #[.slice none 0 0,.slice none 0 0,.bool false] 64)) else W6).cell? ⟨B2,0,none⟩ = some (.slice ta x.length tc)):=Zh (fun p q=>by
      cases p with
      | false=>exact ⟨cell_of_one h16,cell_of_one h26⟩
      | true=>exact ⟨cell_of_one ((Below.heap_alloc _ _ _ (lt_of_block h16)).trans h16),cell_of_one ((Below.heap_alloc _ _ _ (lt_of_block h26)).trans h26)⟩)
     refine Zar [26,27,28,29,30,31,32,33,34,35,36,8] (fun j=>j == 11) (fun listed A=>A = if listed.getD 11 false = true then W6.alloc (if listed.getD 12 false = true then (.cells #[.slice a 1024 cap,.slice ta z tc,.bool false] 64) else (.cells #[.slice none 0 0,.slice none 0 0,.bool false] 64)) else W6) (fun j v _=>match j with | 0=>v = .slice a l.length cap | 1=>v = .int .i64 (1024) | 2=>v = .slice a 1024 cap | 3=>v = .slice ta x.length tc | 4=>v = .int .i64 (z:Nat) | 5=>v = .slice ta z tc | 6=>v = .int .i64 (1024) | 7=>v = .slice a l.length cap | 8=>v = .int .i64 (l.length:Nat) | 9=>v = .bool false | 10=>v = .agg #[.slice a 1024 cap,.slice ta z tc,.bool false] | 11=>v = .pointer (some ⟨W6.heap.size,0,none⟩) | _=>True) (fun _ _ _ _=>True) (by kernel_rfl) (by kernel_rfl) (OneEach.mk' (by kernel_rfl) (by kernel_rfl)) (by kernel_rfl) (by kernel_rfl) (by subst hW6;simp) ?_ ?_
     ·intro i0 o hi0 listed a1 w1 hR hil hunf hdes hanc hout hdep
      have hsz:i0 < 13:=(Array.getElem?_eq_some_iff.1 hi0).1
      obtain ⟨q1,q2⟩:=HLD.out (listed.getD 11 false) (listed.getD 12 false)
      rw [<- hR] at q1 q2
      have hall:i0 = 0 \/ i0 = 1 \/ i0 = 2 \/ i0 = 3 \/ i0 = 4 \/ i0 = 5 \/ i0 = 6 \/ i0 = 7 \/ i0 = 8 \/ i0 = 9 \/ i0 = 10 \/ i0 = 11 \/ i0 = 12:=by omega
      clear hsz
      rcases hall with rfl | rfl | rfl | rfl | rfl | rfl | rfl | rfl | rfl | rfl | rfl | rfl | rfl <;> simp only [List.getElem?_toArray,List.getElem?_cons_zero,List.getElem?_cons_succ,Option.some.injEq] at hi0 <;> subst hi0
      ·have f1:a1.eval (.tmp 1) = .pointer (some ⟨B1,0,none⟩):=hout 1 (by decide)
       refine Zag (v:=.slice a l.length cap) (w':=w1) (by simp [execOp,f1,ldTokS _ _ _ q1]) ⟨_,rfl,by rw [Zaa (by decide),Zaa (by decide)];exact hR,fun j u hu hV _=>⟨hV,trivial,trivial⟩,rfl⟩
      ·have f4:a1.eval (.tmp 4) = .int .i64 (1024):=hout 4 (by decide)
       refine Zag (v:=.int .i64 (1024)) (w':=w1) (by simp [execOp,f4]) ⟨_,rfl,by rw [Zaa (by decide),Zaa (by decide)];exact hR,fun j u hu hV _=>⟨hV,trivial,trivial⟩,rfl⟩
      ·have e26:a1.eval (.tmp 26) = .slice a l.length cap:=hdep ⟨0,.data⟩ (by simp) rfl _ rfl
       have e27:a1.eval (.tmp 27) = .int .i64 (1024):=hdep ⟨1,.data⟩ (by simp) rfl _ rfl
       refine Zag (v:=.slice a 1024 cap) (w':=w1) (by simp only [execOp,e26,e27,Option.map_some,Option.map_none];have hh:=cutLoT a l.length cap 1024 (by omega) w1;(try simp only [Int.cast_ofNat_Int] at hh);simp [hh]) ⟨_,rfl,by rw [Zaa (by decide),Zaa (by decide)];exact hR,fun j u hu hV _=>⟨hV,trivial,trivial⟩,rfl⟩
      ·have f2:a1.eval (.tmp 2) = .pointer (some ⟨B2,0,none⟩):=hout 2 (by decide)
       refine Zag (v:=.slice ta x.length tc) (w':=w1) (by simp [execOp,f2,ldU8S _ _ _ q2]) ⟨_,rfl,by rw [Zaa (by decide),Zaa (by decide)];exact hR,fun j u hu hV _=>⟨hV,trivial,trivial⟩,rfl⟩
      ·have f5:a1.eval (.tmp 5) = .int .i64 (z:Nat):=hout 5 (by decide)
       refine Zag (v:=.int .i64 (z:Nat)) (w':=w1) (by simp [execOp,f5]) ⟨_,rfl,by rw [Zaa (by decide),Zaa (by decide)];exact hR,fun j u hu hV _=>⟨hV,trivial,trivial⟩,rfl⟩
      ·have e29:a1.eval (.tmp 29) = .slice ta x.length tc:=hdep ⟨3,.data⟩ (by simp) rfl _ rfl
       have e30:a1.eval (.tmp 30) = .int .i64 (z:Nat):=hdep ⟨4,.data⟩ (by simp) rfl _ rfl
       refine Zag (v:=.slice ta z tc) (w':=w1) (by simp [execOp,e29,e30,cutLoN ta x.length tc z (by omega)]) ⟨_,rfl,by rw [Zaa (by decide),Zaa (by decide)];exact hR,fun j u hu hV _=>⟨hV,trivial,trivial⟩,rfl⟩
      ·have f4:a1.eval (.tmp 4) = .int .i64 (1024):=hout 4 (by decide)
       refine Zag (v:=.int .i64 (1024)) (w':=w1) (by simp [execOp,f4]) ⟨_,rfl,by rw [Zaa (by decide),Zaa (by decide)];exact hR,fun j u hu hV _=>⟨hV,trivial,trivial⟩,rfl⟩
      ·have f1:a1.eval (.tmp 1) = .pointer (some ⟨B1,0,none⟩):=hout 1 (by decide)
       refine Zag (v:=.slice a l.length cap) (w':=w1) (by simp [execOp,f1,ldTokS _ _ _ q1]) ⟨_,rfl,by rw [Zaa (by decide),Zaa (by decide)];exact hR,fun j u hu hV _=>⟨hV,trivial,trivial⟩,rfl⟩
      ·have e33:a1.eval (.tmp 33) = .slice a l.length cap:=hdep ⟨7,.data⟩ (by simp) rfl _ rfl
       have x33:a1.tmps[33]?.getD undef = .slice a l.length cap:=by simpa [Act.eval] using e33
       refine Zag (v:=.int .i64 (l.length:Nat)) (w':=w1) (by simp [execOp,x33,go_sem]) ⟨_,rfl,by rw [Zaa (by decide),Zaa (by decide)];exact hR,fun j u hu hV _=>⟨hV,trivial,trivial⟩,rfl⟩
      ·have e32:a1.eval (.tmp 32) = .int .i64 (1024):=hdep ⟨6,.data⟩ (by simp) rfl _ rfl
       have e34:a1.eval (.tmp 34) = .int .i64 (l.length:Nat):=hdep ⟨8,.data⟩ (by simp) rfl _ rfl
       refine Zag (v:=.bool false) (w':=w1) (by simp only [execOp,e32,e34];simp [eqgE,eqlI];try omega) ⟨_,rfl,by rw [Zaa (by decide),Zaa (by decide)];exact hR,fun j u hu hV _=>⟨hV,trivial,trivial⟩,rfl⟩
      ·have e28:a1.eval (.tmp 28) = .slice a 1024 cap:=hdep ⟨2,.data⟩ (by simp) rfl _ rfl
       have e31:a1.eval (.tmp 31) = .slice ta z tc:=hdep ⟨5,.data⟩ (by simp) rfl _ rfl
       have e35:a1.eval (.tmp 35) = .bool false:=hdep ⟨9,.data⟩ (by simp) rfl _ rfl
       refine Zag (v:=.agg #[.slice a 1024 cap,.slice ta z tc,.bool false]) (w':=w1) (by simp [execOp,e28,e31,e35,bldPart]) ⟨_,rfl,by rw [Zaa (by decide),Zaa (by decide)];exact hR,fun j u hu hV _=>⟨hV,trivial,trivial⟩,rfl⟩
      ·have h12:listed.getD 12 false = false:=hdes 12 (by kernel_rfl)
       rw [hunf,if_neg (by decide)] at hR
       refine Zag (v:=.pointer (some ⟨W6.heap.size,0,none⟩)) (w':=w1.alloc (.cells #[.slice none 0 0,.slice none 0 0,.bool false] 64)) (by rw [hR];simp [execOp,alcPart]) ⟨_,rfl,by rw [Zad hil,if_pos rfl,Zaa (by decide),h12,if_neg (by decide),hR],fun j u hu hV _=>⟨hV,trivial,trivial⟩,rfl⟩
      ·have h11:listed.getD 11 false = true:=hanc 11 (by kernel_rfl)
       rw [hunf,h11,if_pos rfl,if_neg (by decide)] at hR
       have e8:a1.eval (.tmp 8) = .pointer (some ⟨W6.heap.size,0,none⟩):=hdep ⟨11,.data⟩ (by simp) rfl _ rfl
       have e36:a1.eval (.tmp 36) = .agg #[.slice a 1024 cap,.slice ta z tc,.bool false]:=hdep ⟨10,.data⟩ (by simp) rfl _ rfl
       refine Zcy (w':=W6.alloc (.cells #[.slice a 1024 cap,.slice ta z tc,.bool false] 64)) (by rw [hR];simp only [execOp,e8,e36];rw [Sem.run_bind,stPart];simp) ⟨undef,rfl,?_,fun j u hu hV _=>⟨hV,trivial,trivial⟩,trivial⟩
       rw [Zad hil,Zaa (by decide),h11,if_pos rfl,if_pos rfl]
     ·intro listed fv w1 hR hall hV
      have v8:fv 8 = .pointer (some ⟨W6.heap.size,0,none⟩):=hV 11 _ rfl rfl
      rw [if_pos (hall 11 (by decide)),if_pos (hall 12 (by decide))] at hR
      simp only [spread,List.contains_cons,List.contains_nil,Nat.reduceBEq,Bool.or_false,Bool.or_true,cond_true,cond_false,Nat.reduceAdd,Nat.zero_add,v8]
      have g1:w1.heap[B1]? = some (.cells #[.slice a l.length cap] 22 (0,0)):=by rw [hR];exact (Below.heap_alloc _ _ _ (lt_of_block h16)).trans h16
      have g2:w1.heap[B2]? = some (.cells #[.slice ta x.length tc] 24 (0,0)):=by rw [hR];exact (Below.heap_alloc _ _ _ (lt_of_block h26)).trans h26
      have g3:w1.heap[W6.heap.size]? = some (.cells #[.slice a 1024 cap,.slice ta z tc,.bool false] 64):=by rw [hR];exact World.alloc_heap_new _ _
      have HO7:Hid (Only (fun _=>False) w0 w1):=Zh (by rw [hR];exact HO6.out.alloc _)
      have hs6:w0.heap.size <= W6.heap.size:=HO6.out.size
      have hB6:B1 < W6.heap.size /\ B2 < W6.heap.size:=⟨lt_of_block h16,lt_of_block h26⟩
      clear HLD hR hV hall v8 h16 h26 HO6 HOA h1' h2' hW6
      obtain ⟨pb,hpb⟩:∃ pb,W6.heap.size = pb:=⟨_,rfl⟩
      rw [hpb] at g3 hs6 hB6
      rw [hpb]
      clear hpb
      generalize w1 = W7 at *
      clear hB1s hB2s
      clear wr W6
      gi_wp2
      refine Zar [37,38,39,40,41,42] (fun _=>false) (fun listed A=>Only (parT B1 B2) W7 A /\ A.heap[B1]? = some (.cells #[if listed.getD 6 false = true then .slice (cutT a cap 1024) (l.length - 1024) (cap - 1024) else .slice a l.length cap] 22 (0,0)) /\ A.heap[B2]? = some (.cells #[if listed.getD 7 false = true then .slice (cutA ta tc z) (x.length - z) (tc - z) else .slice ta x.length tc] 24 (0,0))) (fun j v _=>match j with | 0=>v = .slice a l.length cap | 1=>v = .int .i64 (1024) | 2=>v = .slice (cutT a cap 1024) (l.length - 1024) (cap - 1024) | 3=>v = .slice ta x.length tc | 4=>v = .int .i64 (z:Nat) | 5=>v = .slice (cutA ta tc z) (x.length - z) (tc - z) | _=>True) (fun _ _ _ _=>True) (by kernel_rfl) (by kernel_rfl) (OneEach.mk' (by kernel_rfl) (by kernel_rfl)) (by kernel_rfl) (by kernel_rfl) ⟨⟨rfl,rfl,rfl,Nat.le_refl _,fun _ _ _=>rfl⟩,g1,g2⟩ ?_ ?_
      ·intro i0 o hi0 listed a1 w1 hR hil hunf hdes hanc hout hdep
       have hsz:i0 < 8:=(Array.getElem?_eq_some_iff.1 hi0).1
       obtain ⟨ho,q1,q2⟩:=hR
       have hall:i0 = 0 \/ i0 = 1 \/ i0 = 2 \/ i0 = 3 \/ i0 = 4 \/ i0 = 5 \/ i0 = 6 \/ i0 = 7:=by omega
       clear hsz
       rcases hall with rfl | rfl | rfl | rfl | rfl | rfl | rfl | rfl <;> simp only [List.getElem?_toArray,List.getElem?_cons_zero,List.getElem?_cons_succ,Option.some.injEq] at hi0 <;> subst hi0
       ·have h6:listed.getD 6 false = false:=hdes 6 (by kernel_rfl)
        have q1':=q1
        rw [h6,if_neg (by decide)] at q1'
        have f1:a1.eval (.tmp 1) = .pointer (some ⟨B1,0,none⟩):=hout 1 (by decide)
        refine Zag (v:=.slice a l.length cap) (w':=w1) (by simp [execOp,f1,ldTokS _ _ _ (cell_of_one q1')]) ⟨_,rfl,⟨ho,by rw [Zaa (by decide)];exact q1,by rw [Zaa (by decide)];exact q2⟩,fun j u hu hV _=>⟨hV,trivial,trivial⟩,rfl⟩
       ·have f4:a1.eval (.tmp 4) = .int .i64 (1024):=hout 4 (by decide)
        refine Zag (v:=.int .i64 (1024)) (w':=w1) (by simp [execOp,f4]) ⟨_,rfl,⟨ho,by rw [Zaa (by decide)];exact q1,by rw [Zaa (by decide)];exact q2⟩,fun j u hu hV _=>⟨hV,trivial,trivial⟩,rfl⟩
       ·have e37:a1.eval (.tmp 37) = .slice a l.length cap:=hdep ⟨0,.data⟩ (by simp) rfl _ rfl
        have e38:a1.eval (.tmp 38) = .int .i64 (1024):=hdep ⟨1,.data⟩ (by simp) rfl _ rfl
        refine Zag (v:=.slice (cutT a cap 1024) (l.length - 1024) (cap - 1024)) (w':=w1) (by simp only [execOp,e37,e38,Option.map_some,Option.map_none];have hh:=cutHiT a l.length cap 1024 (by omega) (by omega) w1;(try simp only [Int.cast_ofNat_Int] at hh);simp [hh]) ⟨_,rfl,⟨ho,by rw [Zaa (by decide)];exact q1,by rw [Zaa (by decide)];exact q2⟩,fun j u hu hV _=>⟨hV,trivial,trivial⟩,rfl⟩
       ·have h7:listed.getD 7 false = false:=hdes 7 (by kernel_rfl)
        have q2':=q2
        rw [h7,if_neg (by decide)] at q2'
        have f2:a1.eval (.tmp 2) = .pointer (some ⟨B2,0,none⟩):=hout 2 (by decide)
        refine Zag (v:=.slice ta x.length tc) (w':=w1) (by simp [execOp,f2,ldU8S _ _ _ (cell_of_one q2')]) ⟨_,rfl,⟨ho,by rw [Zaa (by decide)];exact q1,by rw [Zaa (by decide)];exact q2⟩,fun j u hu hV _=>⟨hV,trivial,trivial⟩,rfl⟩
       ·have f5:a1.eval (.tmp 5) = .int .i64 (z:Nat):=hout 5 (by decide)
        refine Zag (v:=.int .i64 (z:Nat)) (w':=w1) (by simp [execOp,f5]) ⟨_,rfl,⟨ho,by rw [Zaa (by decide)];exact q1,by rw [Zaa (by decide)];exact q2⟩,fun j u hu hV _=>⟨hV,trivial,trivial⟩,rfl⟩
       ·have e40:a1.eval (.tmp 40) = .slice ta x.length tc:=hdep ⟨3,.data⟩ (by simp) rfl _ rfl
        have e41:a1.eval (.tmp 41) = .int .i64 (z:Nat):=hdep ⟨4,.data⟩ (by simp) rfl _ rfl
        refine Zag (v:=.slice (cutA ta tc z) (x.length - z) (tc - z)) (w':=w1) (by simp only [execOp,e40,e41,Option.map_some,Option.map_none];have hh:=cutHiN ta x.length tc z (by omega) (by omega) w1;simp [hh]) ⟨_,rfl,⟨ho,by rw [Zaa (by decide)];exact q1,by rw [Zaa (by decide)];exact q2⟩,fun j u hu hV _=>⟨hV,trivial,trivial⟩,rfl⟩
       ·rw [hunf,if_neg (by decide)] at q1
        have f1:a1.eval (.tmp 1) = .pointer (some ⟨B1,0,none⟩):=hout 1 (by decide)
        have e39:a1.eval (.tmp 39) = .slice (cutT a cap 1024) (l.length - 1024) (cap - 1024):=hdep ⟨2,.data⟩ (by simp) rfl _ rfl
        refine Zcy (w':=w1.setCell ⟨B1,0,none⟩ (.slice (cutT a cap 1024) (l.length - 1024) (cap - 1024))) (by simp only [execOp,f1,e39];simp [stTokS _ _ _ _ _ _ (cell_of_one q1) (free_of_one q1)]) ⟨undef,rfl,⟨ho.setCell (.inl (.inl rfl)) _,?_,?_⟩,fun j u hu hV _=>⟨hV,trivial,trivial⟩,trivial⟩
        ·rw [Zad hil,if_pos rfl];exact one_setCell q1
        ·rw [Zaa (by decide)];exact (Below.heap_setCell _ _ _ _ (by show B2 ≠ B1;omega)).trans q2
       ·rw [hunf,if_neg (by decide)] at q2
        have f2:a1.eval (.tmp 2) = .pointer (some ⟨B2,0,none⟩):=hout 2 (by decide)
        have e42:a1.eval (.tmp 42) = .slice (cutA ta tc z) (x.length - z) (tc - z):=hdep ⟨5,.data⟩ (by simp) rfl _ rfl
        refine Zcy (w':=w1.setCell ⟨B2,0,none⟩ (.slice (cutA ta tc z) (x.length - z) (tc - z))) (by simp only [execOp,f2,e42];simp [stU8S _ _ _ _ _ _ (cell_of_one q2) (free_of_one q2)]) ⟨undef,rfl,⟨ho.setCell (.inl (.inr rfl)) _,?_,?_⟩,fun j u hu hV _=>⟨hV,trivial,trivial⟩,trivial⟩
        ·rw [Zaa (by decide)];exact (Below.heap_setCell _ _ _ _ (by show B1 ≠ B2;omega)).trans q1
        ·rw [Zad hil,if_pos rfl];exact one_setCell q2
      ·intro listed fv w1 hR hall hV
       rw [if_pos (hall 6 (by decide)),if_pos (hall 7 (by decide))] at hR
       obtain ⟨ho8,n1,n2⟩:=hR
       simp only [spread,List.contains_cons,List.contains_nil,Nat.reduceBEq,Bool.or_false,Bool.or_true,cond_true,cond_false,Nat.reduceAdd,Nat.zero_add]
       have g38:w1.heap[pb]? = some (.cells #[.slice a 1024 cap,.slice ta z tc,.bool false] 64):=(ho8.block pb (lt_of_block g3) (fun h=>by unfold parT at h;omega)).trans g3
       obtain ⟨b0,b1,b2⟩:=cells3 g38
       have hon:=(HO7.out.mono (fun _ _ h=>h.elim)).trans ho8
       obtain ⟨fn,tmps,assign,body,hy,hRR⟩:=HYI.out _ hon
       have HR:=Zh hRR
       have HON:=Zh hon
       have G38:=Zh g38
       have N1:=Zh n1
       have N2:=Zh n2
       have hps:=lt_of_block g38
       clear hRR hon ho8 hV hall g1 g2 g3 n1 n2 g38
       gi_wp2
       refine (Zbb HR.out).mono ?_
       rintro e W' (⟨rfl,hJ',hk',hnk⟩ | ⟨rfl,hJx'⟩)
       ·have g39:=(hnk pb hs6 hps).trans G38.out
        obtain ⟨d0,d1,d2⟩:=cells3 g39
        have m1:=(hk'.same B1 (.inl (.inl rfl))).trans N1.out
        have m2:=(hk'.same B2 (.inl (.inr rfl))).trans N2.out
        have M1:=Zh m1
        have M2:=Zh m2
        have HJ':=Zh hJ'
        have HK':=Zh hk'
        clear hJ' hk' hnk g39 m1 m2 b0 b1 b2 hy HR
        gi_wp2
        have HME:Hid ((match W'.cell? ⟨B1,0,none⟩ with | some (.slice _ n _)=>n | _=>0) < (match w0.cell? ⟨B1,0,none⟩ with | some (.slice _ n _)=>n | _=>0)):=Zh (by rw [cell_of_one M1.out,cell_of_one H1.out];show l.length - 1024 < l.length;omega)
        go_roundw
        case rel =>
         refine ⟨i + 1,HMORE.out hc,by rw [HNX.out];simp only [List.length_drop];exact M1.out,by rw [HNX.out];simp only [List.length_drop];exact M2.out,?_,HJ'.out⟩
         refine ⟨Nat.le_trans HSA.out.size (Nat.le_trans HON.out.size HK'.out.size),fun b hb=>?_⟩
         have hbl:b < w0.heap.size /\ ¬ parT B1 B2 b:=⟨Nat.lt_of_lt_of_le (HDL.out b hb) HSA.out.size,HD.out b hb⟩
         exact (HK'.out.same b (.inr hb)).trans ((HON.out.block b hbl.1 hbl.2).trans (HSA.out.same b hb))
        case measure=>exact HME.out
       ·have HJX:=Zh hJx'
        clear hJx' b0 b1 b2 hy HR
        gi_wp2
        refine bodyPost_ret (results_none rfl _ _ _) rfl ?_
        exact ⟨⟨_,rfl⟩,.inr ⟨i,hi,HJX.out⟩⟩
end Go.Proofs.YtendielanacflaaGreat

namespace Go.Proofs.YtendielanacflaaGreat
open Go.RowKit Go.Shelf M01 M09 M10 M17 M18
def kF (i:Nat):Nat:=match i with | 0=>60 | 1=>62 | _=>66
def kG (i:Nat):Nat:=match i with | 0=>31 | 1=>65 | _=>67
theorem Zui (w:World):Calls Tryz.prog 29 #[] w fun e w'=>e = .returned (.slice (some ⟨w.heap.size,0,none⟩) 3 3) /\ w' = w.alloc (kndO kF kG):=by
 go_enter Tryz.func29,Tryz.ntmps29
 go_wp2
 go_ret
 exact ⟨rfl,rfl⟩
theorem Zuj (a ta:Option Addr) (n c tn tc:Nat) (w:World):Calls Tryz.prog 26 #[.slice a n c,.slice ta tn tc] w fun e w'=>e = .returned (.func (.func 59) #[] #[.pointer (some ⟨w.heap.size,0,none⟩),.pointer (some ⟨w.heap.size + 1,0,none⟩)]) /\ w' = (w.alloc (.cells #[.slice a n c] 22)).alloc (.cells #[.slice ta tn tc] 24):=by
 have hmf:∀ (fn:Fn) (first cap:Array Value) (w:World),(Instr.makeFunc fn first cap).run Tryz.prog w = .ok (.func fn first cap) w:=fun _ _ _ _=>rfl
 go_enter Tryz.func26,Tryz.ntmps26
 go_wp2
 go_ret
 exact ⟨rfl,rfl⟩
def kC (l:List Tok) (n at_:Nat) (i:Nat):Nat:=match i with | 0=>stoN n at_ | 1=>(fixOut l).1 | _=>(dynOut l).1
theorem Zagj (l:List Tok) (n at_:Nat):bestK (kC l n at_ 0) (kC l n at_ 1) (kC l n at_ 2) = kindK l n at_:=rfl
theorem Zacn (l:List Tok) (n at_:Nat) (hl:l.length <= 1100) (hn:n <= 10000000):∀ i,i < 3 -> kC l n at_ i <= 1000000000:=by
 intro i hi
 have h1:=Zxl l hl
 have h2:=Zxh l hl
 have h3:=(M17.Zkc n at_).2.1
 have hc:i = 0 \/ i = 1 \/ i = 2:=by omega
 rcases hc with rfl | rfl | rfl
 ·show stoN n at_ <= _
  unfold stoN
  omega
 ·show (fixOut l).1 <= _;omega
 ·show (dynOut l).1 <= _;omega
theorem Zko (a:Option Addr) (cap:Nat) (l:List Tok) (ta:Option Addr) (tn tc:Nat) (last:Bool) (at_:Nat) (hl:l.length <= 1100) (hby:∀ t ∈ l,t.byte < 256) (hn:tn <= 10000000) (ha:at_ <= 100000000) (w:World) (hr:RowS encT w a cap l) :
  ∀ i,i < 3 -> Calls Tryz.prog (kF i) #[.agg #[.slice a l.length cap,.slice ta tn tc,.bool last],.int .i64 (at_:Nat)] w fun e w'=>e = .returned (.int .i64 (kC l tn at_ i:Nat)) /\ Below w.heap.size w w':=by
 intro i hi
 have hc:i = 0 \/ i = 1 \/ i = 2:=by omega
 rcases hc with rfl | rfl | rfl
 ·exact Zacr tn at_ hn ha (.slice a l.length cap) ta tc last w
 ·exact Zacp a cap l ta tn tc last (.int .i64 (at_:Nat)) hl hby w hr
 ·exact Zaco a cap l ta tn tc last (.int .i64 (at_:Nat)) hl hby w hr
theorem Zsq:∀ i,i < 3 -> ∀ args w,(callFunc (kF i) args).run Tryz.prog w = .ok (.enter (kF i) args) w:=by
 intro i hi
 have hc:i = 0 \/ i = 1 \/ i = 2:=by omega
 rcases hc with rfl | rfl | rfl
 ·exact enters_of Tryz.func60 (by kernel_rfl) rfl
 ·exact enters_of Tryz.func62 (by kernel_rfl) rfl
 ·exact enters_of Tryz.func66 (by kernel_rfl) rfl
theorem Zwg (a:Option Addr) (cap:Nat) (l:List Tok) (ta:Option Addr) (tn tc:Nat) (last:Bool) (at_:Nat) (hl:l.length <= 1100) (hby:∀ t ∈ l,t.byte < 256) (hn:tn <= 10000000) (ha:at_ <= 100000000) (g pb ab:Nat) (w:World) (hr:RowS encT w a cap l)
  (hp:w.heap[pb]? = some (.cells #[.slice a l.length cap,.slice ta tn tc,.bool last] 64)) (hat:w.heap[ab]? = some (.cells #[.int .i64 (at_:Nat)] 3)) (hg:w.heap[g]? = some (kndO kF kG)) :
  Calls Tryz.prog 28 #[.slice (some ⟨g,0,none⟩) 3 3,.func (.func 30) #[] #[.pointer (some ⟨pb,0,none⟩),.pointer (some ⟨ab,0,none⟩)]] w fun e w'=>e = .returned (knd kF kG (kindK l tn at_)) /\ Below w.heap.size w w':=by
 have hsm:=Zacn l tn at_ hl hn
 have:=Zacq kF kG (kC l tn at_) 30 (enters_of Tryz.func30 (by kernel_rfl) rfl) (.pointer (some ⟨pb,0,none⟩)) (.pointer (some ⟨ab,0,none⟩)) g w hg hsm (fun i j hi hj W hW=>by
  refine Zabi (kF i) (kF j) (Zsq i hi) (Zsq j hj) (fnV (kG i)) (fnV (kG j)) (.agg #[.slice a l.length cap,.slice ta tn tc,.bool last]) (kC l tn at_ i) (kC l tn at_ j) _ _ _ (.int .i64 (at_:Nat)) pb ab rfl W ((hW.block _ (lt_of_block hp)).trans hp) ((hW.block _ (lt_of_block hat)).trans hat) (hsm i hi) (hsm j hj) (fun W2 h2=>?_) (fun W2 h2=>?_)
  ·exact Zko a cap l ta tn tc last at_ hl hby hn ha W2 (hr.below (hW.trans (h2.mono hW.size))) i hi
  ·exact Zko a cap l ta tn tc last at_ hl hby hn ha W2 (hr.below (hW.trans (h2.mono hW.size))) j hj)
 rw [Zagj] at this
 exact this
section
variable {P : Nat → Prop} {w : World} {p : Nat} {s : Wst}
theorem lay0 (hW:Wr P w p s) (hg:WG s) (a:Option Addr) (cap:Nat) (l:List Tok) (ta:Option Addr) (tc:Nat) (x:List Nat) (last:Bool) (hx:RowN .u8 w ta tc x) (hb:∀ c ∈ x,c < 256)
  (hQ:∀ y,0 < x.length -> ta = some y -> ¬ P y.block) (hxl:x.length <= 1000000) (hs:s.2 <= 9000000) (hk:kindK l x.length s.2 = 0) :
  Calls Tryz.prog 31 #[.pointer (some ⟨p,0,none⟩),.agg #[.slice a l.length cap,.slice ta x.length tc,.bool last]] w fun e w'=>e = .returned (.tuple #[]) /\ Only P w w' /\ Wr P w' p (partW s last l x):=by
 have e:partW s last l x = stoW s last x:=by unfold partW;rw [if_pos hk]
 rw [e]
 refine Zip hW hg a l.length cap ta tc x last hx hb hQ ?_
 have h1:=(Zgd x.length x s last (Nat.le_refl _) hg).2.2
 have h2:=(M17.Zkc x.length s.2).2.1
 omega
theorem lay1 (hW:Wr P w p s) (hg:WG s) (a:Option Addr) (cap:Nat) (l:List Tok) (ta:Option Addr) (tc:Nat) (x:List Nat) (last:Bool) (hr:RowS encT w a cap l) (ho:Oks l)
  (hQ:∀ y,0 < l.length -> a = some y -> ¬ P y.block) (hl:l.length <= 1100) (hs:s.2 <= 9000000) (hk:kindK l x.length s.2 = 1) :
  Calls Tryz.prog 65 #[.pointer (some ⟨p,0,none⟩),.agg #[.slice a l.length cap,.slice ta x.length tc,.bool last]] w fun e w'=>e = .returned (.tuple #[]) /\ Only P w w' /\ Wr P w' p (partW s last l x):=by
 have e:partW s last l x = fixW s last l:=by unfold partW;rw [if_neg (by omega),if_pos hk]
 rw [e]
 exact Zuh hW hg a cap l ta x.length tc last hr ho.2 hQ (fun y h0 hy=>by
  obtain ⟨b',off,he,hlt,_⟩:=hr.at h0
  rw [hy] at he
  cases he
  exact hlt) hl hs
theorem lay2 (hW:Wr P w p s) (hg:WG s) (a:Option Addr) (cap:Nat) (l:List Tok) (ta:Option Addr) (tc:Nat) (x:List Nat) (last:Bool) (hr:RowS encT w a cap l) (ho:Oks l)
  (hQ:∀ y,0 < l.length -> a = some y -> ¬ P y.block) (hl:l.length <= 1100) (hs:s.2 <= 9000000) (hk:kindK l x.length s.2 = 2) :
  Calls Tryz.prog 67 #[.pointer (some ⟨p,0,none⟩),.agg #[.slice a l.length cap,.slice ta x.length tc,.bool last]] w fun e w'=>e = .returned (.tuple #[]) /\ Only P w w' /\ Wr P w' p (partW s last l x):=by
 have e:partW s last l x = dynW s last l:=by unfold partW;rw [if_neg (by omega),if_neg (by omega)]
 rw [e]
 exact Znw hW hg a cap l ta x.length tc last hr ho hQ (fun y h0 hy=>by
  obtain ⟨b',off,he,hlt,_⟩:=hr.at h0
  rw [hy] at he
  cases he
  exact hlt) hl hs
end
theorem Zagk (l:List Tok) (n at_:Nat):kindK l n at_ = 0 \/ kindK l n at_ = 1 \/ kindK l n at_ = 2:=by
 rcases Zki (stoN n at_) (fixOut l).1 (dynOut l).1 with h | h | h
 ·exact .inl h.1
 ·exact .inr (.inl h.1)
 ·exact .inr (.inr h.1)
def emS (s:Pst):Nat -> Wst
 | 0=>([],0)
 | i + 1=>partW (emS s i) (decide ((s.ath i).l.length <= 1024)) ((s.ath i).l.take (s.ath i).n) ((s.ath i).x.take (s.ath i).z)
theorem Zaia {w:World} {s:Pst} (h:s.Ok w):∀ i,WG (emS s i) /\ (emS s i).2 + 8 * (s.ath i).x.length <= 8 * s.x.length + 300 * i
 | 0=>⟨Zbv,by show 0 + 8 * s.x.length <= _;omega⟩
 | i + 1=>by
  obtain ⟨h1,h2⟩:=Zaia h i
  have hok:=h.at i
  have hz:=Pst.z_le hok
  have hl:=Zfz h1 (decide ((s.ath i).l.length <= 1024)) (hok.ok.take (s.ath i).n) ((s.ath i).x.take (s.ath i).z)
  have hst:=(M17.Zkc ((s.ath i).x.take (s.ath i).z).length (emS s i).2).2.1
  have hz2:(s.ath i).z <= 264192:=by
   have:=Zjr ((s.ath i).l.take (s.ath i).n) (fun t ht=>hok.ok.1 t (List.mem_of_mem_take ht))
   rw [List.length_take] at this
   have h3:(s.ath i).n <= 1024:=by unfold Pst.n;omega
   unfold Pst.z
   omega
  have hx:(s.ath (i + 1)).x.length = (s.ath i).x.length - (s.ath i).z:=by show ((s.ath i).x.drop (s.ath i).z).length = _;rw [List.length_drop]
  refine ⟨(Zjh h1 _ _ _).1,?_⟩
  show (partW _ _ _ _).2 + _ <= _
  rw [hl,hx]
  have hm:min (min (stoN ((s.ath i).x.take (s.ath i).z).length (emS s i).2) (fixOut ((s.ath i).l.take (s.ath i).n)).1) (dynOut ((s.ath i).l.take (s.ath i).n)).1 <= stoN ((s.ath i).x.take (s.ath i).z).length (emS s i).2:=by omega
  have hk:stoN ((s.ath i).x.take (s.ath i).z).length (emS s i).2 <= 8 * (s.ath i).z + 210:=by
   unfold stoN
   rw [List.length_take,Nat.min_eq_left hz.1] at hst ⊢
   omega
  omega
theorem Zabr {w:World} {s:Pst} (h:s.Ok w) (i:Nat) (hl:1024 < (s.ath i).l.length):emA (emS s i) (s.ath i).l (s.ath i).x = emA (emS s (i + 1)) (s.ath (i + 1)).l (s.ath (i + 1)).x:=by
 have hn:(s.ath i).n = 1024:=by unfold Pst.n;omega
 rw [Zhy _ _ _ hl]
 show _ = emA (partW _ (decide ((s.ath i).l.length <= 1024)) _ _) ((s.ath i).l.drop (s.ath i).n) ((s.ath i).x.drop (s.ath i).z)
 unfold Pst.z
 rw [hn,decide_eq_false (by omega)]
theorem Zabq {w:World} {s:Pst} (h:s.Ok w) (i:Nat) (hl:(s.ath i).l.length <= 1024):emA (emS s i) (s.ath i).l (s.ath i).x = emS s (i + 1):=by
 have hn:(s.ath i).n = (s.ath i).l.length:=by unfold Pst.n;omega
 have hok:=h.at i
 rw [Zgq _ _ _ hl]
 show _ = partW _ (decide ((s.ath i).l.length <= 1024)) _ _
 unfold Pst.z
 rw [hn,List.take_length,decide_eq_true hl,<- hok.sz,List.take_length]
theorem Zaew {w:World} {s:Pst} (h:s.Ok w):∀ i,i < partN s.l.length -> emA ([],0) s.l s.x = emA (emS s i) (s.ath i).l (s.ath i).x
 | 0,_=>rfl
 | i + 1,hi=>by
  rw [Zaew h i (by omega)]
  refine Zabr h i ?_
  rw [Pst.ath_l,List.length_drop]
  rcases Nat.lt_or_ge 1024 s.l.length with hh | hh
  ·rw [partN,if_neg (by omega)] at hi;omega
  ·rw [partN,if_pos (by omega)] at hi;omega
theorem Zadh (n:Nat) (h:n <= 100000):1 <= partN n /\ partN n <= 98:=by
 unfold partN
 split <;> omega
theorem Zafz {w:World} {s:Pst} (h:s.Ok w):emS s (partN s.l.length) = emA ([],0) s.l s.x:=by
 obtain ⟨i,hi⟩:∃ i,partN s.l.length = i + 1:=⟨partN s.l.length - 1,by
  have:1 <= partN s.l.length:=by unfold partN;split <;> omega
  omega⟩
 rw [hi,Zaew h i (by omega)]
 refine (Zabq h i ?_).symm
 rw [Pst.ath_l,List.length_drop]
 rcases Nat.lt_or_ge 1024 s.l.length with hh | hh
 ·rw [partN,if_neg (by omega)] at hi;omega
 ·omega
def WrI (lo up:Nat) (A:World) (p:Nat) (s:Wst):Prop :=
 ∃ a c,A.heap[p]? = some (.cells #[.slice a s.1.length c,.int .i64 (s.2:Nat)] 42 (0,0)) /\ OwnN 5 .u8 A 0 a c s.1 /\ (∀ g,a = some ⟨g,0,none⟩ -> lo <= g /\ g < up) /\ WOk s /\ s.2 <= 100000000
theorem Zyu {E:TypeId} {k:IntKind} {A B:World} {base cap:Nat} {a:Option Addr} {l:List Nat} (h:OwnN E k A base a cap l) (hk:∀ g o,a = some ⟨g,0,none⟩ -> A.heap[g]? = some o -> o.isCells = true -> B.heap[g]? = some o):OwnN E k B base a cap l:=by
 refine ⟨h.1,?_⟩
 rcases h.2 with h2 | ⟨g,c,cur,h1,h2,h3,h4⟩
 ·exact .inl h2
 ·refine .inr ⟨g,c,cur,h1,h2,hk g _ ?_ h3 rfl,h4⟩
  simp only [Value.slice.injEq] at h1
  exact h1.1
theorem WrI.keep {lo up:Nat} {A B:World} {p:Nat} {s:Wst} (h:WrI lo up A p s) (hk:∀ k o,k = p \/ (lo <= k /\ k < up) -> A.heap[k]? = some o -> o.isCells = true -> B.heap[k]? = some o):WrI lo up B p s:=by
 obtain ⟨a,c,h1,h2,h3,h4⟩:=h
 exact ⟨a,c,hk p _ (.inl rfl) h1 rfl,Zyu h2 (fun g o hg ho hc=>hk g o (.inr (h3 g hg)) ho hc),h3,h4⟩
theorem WrI.only {T:Nat -> Prop} {lo up:Nat} {A B:World} {p:Nat} {s:Wst} (h:WrI lo up A p s) (ho:Only T A B) (hp:¬ T p) (hT:∀ b,T b -> b < lo):WrI lo up B p s :=
 h.keep (fun k o hk hA _=>(ho.block k (lt_of_block hA) (fun t=>by
  rcases hk with rfl | hk
  ·exact hp t
  ·have:=hT k t;omega)).trans hA)
theorem WrI.below {lo up:Nat} {A B:World} {p:Nat} {s:Wst} (h:WrI lo up A p s) (hb:Below A.heap.size A B):WrI lo up B p s :=
 h.keep (fun k o _ hA _=>(hb.block k (lt_of_block hA)).trans hA)
theorem WrI.put {lo up:Nat} {A:World} {p:Nat} {s:Wst} (h:WrI lo up A p s) {r:Nat} {ob:Obj} (hro:A.heap[r]? = some ob) (hoc:ob.isCells = false) (o':Obj):WrI lo up (A.putObj r o') p s :=
 h.keep (fun k o _ hA hc=>(World.putObj_heap_other (by intro e;subst e;rw [hA] at hro;cases hro;rw [hc] at hoc;cases hoc)).trans hA)
theorem WrI.mono {lo up up':Nat} {A:World} {p:Nat} {s:Wst} (h:WrI lo up A p s) (hu:up <= up'):WrI lo up' A p s:=by
 obtain ⟨a,c,h1,h2,h3,h4⟩:=h
 exact ⟨a,c,h1,h2,fun g hg=>⟨(h3 g hg).1,Nat.lt_of_lt_of_le (h3 g hg).2 hu⟩,h4⟩
theorem WrI.up {lo up:Nat} {A:World} {p:Nat} {s:Wst} (h:WrI lo up A p s):WrI lo A.heap.size A p s:=by
 obtain ⟨a,c,h1,h2,h3,h4⟩:=h
 refine ⟨a,c,h1,h2,fun g hg=>⟨(h3 g hg).1,?_⟩,h4⟩
 rcases h2.form with ⟨rfl,_,_⟩ | ⟨g',rfl,_,hg'⟩
 ·cases hg
 ·cases hg;exact hg'
theorem WrI.wr {lo up:Nat} {A:World} {p:Nat} {s:Wst} (h:WrI lo up A p s) (hlo:p < lo):∃ P:Nat -> Prop,Wr P A p s /\ (∀ b,P b -> b = p \/ (lo <= b /\ b < up) \/ A.heap.size <= b) /\ (∀ k o,A.heap[k]? = some o -> o.isCells = false -> ¬ P k):=by
 obtain ⟨a,c,h1,h2,h3,h4⟩:=h
 refine ⟨fun b=>b = p \/ (a = some ⟨b,0,none⟩) \/ A.heap.size <= b,⟨⟨a,c,h1,h2,.inl rfl,fun g hg=>⟨.inr (.inl hg),by have:=(h3 g hg).1;omega⟩,fun b hb=>.inr (.inr hb)⟩,h4⟩,?_,?_⟩
 ·rintro b (rfl | hb | hb)
  ·exact .inl rfl
  ·exact .inr (.inl (h3 b hb))
  ·exact .inr (.inr hb)
 ·rintro k o hk hc (rfl | hb | hb)
  ·rw [h1] at hk;cases hk;cases hc
  ·rcases h2.2 with h5 | ⟨g,cc,cur,h5,h6,h7,h8⟩
   ·simp only [Value.slice.injEq] at h5
    rw [h5.1.1] at hb
    cases hb
   ·simp only [Value.slice.injEq] at h5
    rw [h5.1] at hb
    cases hb
    rw [h7] at hk;cases hk;cases hc
  ·have:=lt_of_block hk;omega
theorem Wr.backI {P:Nat -> Prop} {lo:Nat} {B:World} {p:Nat} {s:Wst} (h:Wr P B p s) (hP:∀ b,P b -> b = p \/ lo <= b):WrI lo B.heap.size B p s:=by
 obtain ⟨⟨a,c,h1,h2,h3,h4,h5⟩,h6⟩:=h
 refine ⟨a,c,h1,h2,fun g hg=>⟨?_,?_⟩,h6⟩
 ·have h7:=h4 g hg
  rcases hP g h7.1 with rfl | h8
  ·omega
  ·exact h8
 ·rcases h2.form with ⟨rfl,_,_⟩ | ⟨g',rfl,_,hg'⟩
  ·cases hg
  ·cases hg;exact hg'
end Go.Proofs.YtendielanacflaaGreat

namespace Go.Proofs.YtendielanacflaaGreat
open Go.RowKit Go.Shelf M01 M08 M10 M17
attribute [local go_sem] Oper.semAt_some
set_option maxHeartbeats 800000 in
theorem Zaak (t:Tok) (w:World) :
  Calls Tryz.prog 34 #[tokV t] w fun e w'=>e = .returned (.bool (decide (tokOk t))) /\ Below w.heap.size w w':=by
 obtain ⟨L,D,b⟩:=t
 unfold tokV
 by_cases h0:L = 0
 ·have H:Hid (decide (tokOk ⟨L,D,b⟩) = (D == 0)):=by
   have e:(D == 0) = decide (D = 0):=by by_cases h:D = 0 <;> simp [h]
   show decide _ = _
   rw [e,decide_eq_decide]
   unfold tokOk
   simp [h0]
  have b0:(L == 0) = true:=by simp [h0]
  clear h0
  go_enter Tryz.func34,Tryz.ntmps34
  go_wp2
  go_ret
  exact ⟨Zbs H.out.symm,Zai _ _⟩
 have H:Hid (tokOk ⟨L,D,b⟩ ↔ (b = 0 /\ 3 <= L /\ L <= 258 /\ 1 <= D /\ D <= 32768)):=by unfold Hid tokOk;simp [h0]
 have b0:(L == 0) = false:=by simp [h0]
 clear h0
 by_cases h3:3 <= L
 case neg =>
  have ch3:decide (3 <= L) = false:=by simpa using h3
  have HH:Hid (decide (tokOk ⟨L,D,b⟩) = false):=by show decide _ = false;rw [decide_eq_false_iff_not,H.out];exact fun h=>h3 h.2.1
  clear h3
  go_enter Tryz.func34,Tryz.ntmps34
  go_wp2
  go_ret
  exact ⟨Zbs HH.out.symm,Zai _ _⟩
 have ch3:decide (3 <= L) = true:=by simpa using h3
 by_cases h4:L <= 258
 case neg =>
  have ch4:decide (L <= 258) = false:=by simpa using h4
  have HH:Hid (decide (tokOk ⟨L,D,b⟩) = false):=by show decide _ = false;rw [decide_eq_false_iff_not,H.out];exact fun h=>h4 h.2.2.1
  clear h4
  go_enter Tryz.func34,Tryz.ntmps34
  go_wp2
  go_ret
  exact ⟨Zbs HH.out.symm,Zai _ _⟩
 have ch4:decide (L <= 258) = true:=by simpa using h4
 by_cases h5:1 <= D
 case neg =>
  have ch5:decide (1 <= D) = false:=by simpa using h5
  have HH:Hid (decide (tokOk ⟨L,D,b⟩) = false):=by show decide _ = false;rw [decide_eq_false_iff_not,H.out];exact fun h=>h5 h.2.2.2.1
  clear h5
  go_enter Tryz.func34,Tryz.ntmps34
  go_wp2
  go_ret
  exact ⟨Zbs HH.out.symm,Zai _ _⟩
 have ch5:decide (1 <= D) = true:=by simpa using h5
 by_cases h6:D <= 32768
 case neg =>
  have ch6:decide (D <= 32768) = false:=by simpa using h6
  have HH:Hid (decide (tokOk ⟨L,D,b⟩) = false):=by show decide _ = false;rw [decide_eq_false_iff_not,H.out];exact fun h=>h6 h.2.2.2.2
  clear h6
  go_enter Tryz.func34,Tryz.ntmps34
  go_wp2
  go_ret
  exact ⟨Zbs HH.out.symm,Zai _ _⟩
 have ch6:decide (D <= 32768) = true:=by simpa using h6
 have HH:Hid (decide (tokOk ⟨L,D,b⟩) = ((b:Int) == 0)):=by
  show decide _ = _
  have e:((b:Int) == 0) = decide (b = 0):=by
   by_cases hb:b = 0
   ·simp [hb]
   ·simp [hb]
  rw [e,decide_eq_decide,H.out]
  exact ⟨fun h=>h.1,fun h=>⟨h,h3,h4,h5,h6⟩⟩
 clear h3 h4 h5 h6
 go_enter Tryz.func34,Tryz.ntmps34
 go_wp2
 go_ret
 exact ⟨Zbs HH.out.symm,Zai _ _⟩
theorem Zum (t:Tok) (w:World):Calls Tryz.prog 33 #[tokV t] w fun e w'=>e = .returned (.bool (!decide (tokOk t))) /\ Below w.heap.size w w':=by
 have HM:=Zh (fun w'=>Zaak t w')
 obtain ⟨L,D,b⟩:=t
 unfold tokV at HM ⊢
 generalize decide (tokOk ⟨L,D,b⟩) = r at *
 go_enter Tryz.func33,Tryz.ntmps33
 go_wp2_with fail
 refine (HM.out _).mono ?_
 rintro e w1 ⟨rfl,hb1⟩
 have hb:=(Zai w (.cells #[.int .i64 L,.int .i64 D,.int .u8 (b:Nat)] 40)).trans (hb1.mono (by simp))
 have HB:=Zh hb
 clear hb1 hb HM
 go_wp2
 go_ret
 exact ⟨rfl,HB.out⟩
def IdxT (l:List Tok) (e:Ending):Prop:=if ∀ t ∈ l,tokOk t then e = .returned (.int .i64 (-1)) else ∃ k:Nat,e = .returned (.int .i64 (k:Nat))
theorem Zvu (a:Option Addr) (cap:Nat) (l:List Tok) (w:World) (hr:RowS encT w a cap l) :
  Calls Tryz.prog 69 #[.slice a l.length cap,.func (Fn.func 33) #[] #[]] w fun e w'=>IdxT l e /\ Below w.heap.size w w':=by
 have hlen:=hr.len
 go_enter Tryz.func69,Tryz.ntmps69
 go_wp2_with fail
 go_loopw [5,8] (fun _ i A=>∃ k:Nat,k <= l.length /\ i = .int .i64 k /\ (∀ t ∈ l.take k,tokOk t) /\ Below w.heap.size w A) (fun _ i _=>l.length - (intOf i).toNat)
 case atStart=>exact ⟨0,by omega,rfl,by simp,Below.refl _ _⟩
 case round =>
  obtain ⟨k,hk,rfl,hall,hbel⟩:=hrel
  by_cases hlt:k < l.length
  ·have hrA:=hr.below hbel
   obtain ⟨b,off,rfl,hb,hcl⟩:=hrA.at hlt
   have c0:=hcl 0 _ rfl
   have c1:=hcl 1 _ rfl
   have c2:=hcl 2 _ rfl
   have HM:=Zh (List.getElem_mem hlt)
   have HT:=Zh (fun h2=>Zaaj hlt hall h2)
   have HBEL:=Zh hbel
   have HR:=Zh hr
   clear hrA hcl hbel hr hall
   generalize l[k] = t at *
   have HC:=Zh (fun w'=>Zum t w')
   obtain ⟨L,D,bt⟩:=t
   unfold tokV at HC
   simp only [encT,Nat.add_zero] at c0 c1 c2
   rw [<- Nat.add_assoc] at c1 c2
   by_cases hok:tokOk ⟨L,D,bt⟩
   ·have hd:(!decide (tokOk ⟨L,D,bt⟩)) = false:=by simp [hok]
    rw [hd] at HC
    have HT2:=Zh (HT.out hok)
    clear hok hd HT HM
    go_wp2_with fail
    refine (HC.out _).mono ?_
    rintro e w1 ⟨rfl,hb1⟩
    have HB1:=Zh (HBEL.out.trans (hb1.mono HBEL.out.size))
    clear hb1 HC HBEL c0 c1 c2
    go_wp2
    go_roundw
    case rel=>exact ⟨k + 1,by omega,by go_num,HT2.out,HB1.out⟩
    case measure=>simp [intOf];omega
   ·have hd:(!decide (tokOk ⟨L,D,bt⟩)) = true:=by simp [hok]
    rw [hd] at HC
    have HNO:Hid (¬ ∀ t ∈ l,tokOk t):=Zh (fun h=>hok (h _ HM.out))
    clear hok hd HT HM
    go_wp2_with fail
    refine (HC.out _).mono ?_
    rintro e w1 ⟨rfl,hb1⟩
    have HB1:=Zh (HBEL.out.trans (hb1.mono HBEL.out.size))
    clear hb1 HC HBEL c0 c1 c2
    go_wp2
    go_ret
    exact ⟨by unfold IdxT;rw [if_neg HNO.out];exact ⟨k,rfl⟩,HB1.out⟩
  ·obtain rfl:k = l.length:=by omega
   rw [List.take_length] at hall
   have HA:=Zh hall
   have HBEL:=Zh hbel
   clear hbel hall
   go_wp2
   go_ret
   exact ⟨by unfold IdxT;rw [if_pos HA.out];rfl,HBEL.out⟩
theorem Znd (a:Option Addr) (cap:Nat) (l:List Tok) (w:World) (hr:RowS encT w a cap l) :
  Calls Tryz.prog 32 #[.slice a l.length cap,.func (Fn.func 33) #[] #[]] w fun e w'=>e = .returned (.bool (!decide (∀ t ∈ l,tokOk t))) /\ Below w.heap.size w w':=by
 have HC:=Zh (Zvu a cap l w hr)
 clear hr
 go_enter Tryz.func32,Tryz.ntmps32
 go_wp2_with fail
 refine HC.out.mono ?_
 rintro e w1 ⟨h,hb⟩
 have HB:=Zh hb
 unfold IdxT at h
 clear HC hb
 by_cases hok:∀ t ∈ l,tokOk t
 ·rw [if_pos hok] at h
  subst h
  have HD:Hid ((!decide (∀ t ∈ l,tokOk t)) = false):=by show _ = _;rw [decide_eq_true hok];rfl
  clear hok
  go_wp2
  go_ret
  exact ⟨by rw [HD.out];rfl,HB.out⟩
 ·rw [if_neg hok] at h
  obtain ⟨k,rfl⟩:=h
  have HD:Hid ((!decide (∀ t ∈ l,tokOk t)) = true):=by show _ = _;rw [decide_eq_false hok];rfl
  have t1:decide ((0:Int) <= (k:Int)) = true:=by simp
  clear hok
  go_wp2
  go_ret
  exact ⟨by rw [HD.out];rfl,HB.out⟩
theorem Zyb (n p:Nat) (h:n <= 30000000) (hp:p < n):n + 1 <= 9223372036854775807 /\ (n + 1) * 1 <= 140737488355328 /\ wrap64 (p:Int) = (p:Int):=⟨by omega,by omega,by unfold wrap64;omega⟩
def ExpE (w:World) (l:List Tok) (e:Ending) (w':World):Prop :=
 if ∀ t ∈ l,tokOk t then match expL [] l with
  | some o=>∃ a c,e = .returned (.tuple #[.slice a o.length c,.int .i64 0]) /\ OwnN 5 .u8 w' w.heap.size a c o
  | none=>e = .returned (.tuple #[.slice none 0 0,.int .i64 2])
 else e = .returned (.tuple #[.slice none 0 0,.int .i64 5])
def ExpOut (w:World) (l:List Tok) (e:Ending) (w':World):Prop:=Below w.heap.size w w' /\ ExpE w l e w'
set_option maxRecDepth 100000 in
set_option maxHeartbeats 1600000 in
theorem Zhq (a:Option Addr) (cap:Nat) (l:List Tok) (w:World) (hr:RowS encT w a cap l) (hby:∀ t ∈ l,t.byte < 256) (hl:l.length <= 100000) :
  Calls Tryz.prog 10 #[.slice a l.length cap] w (ExpOut w l):=by
 have HC:=Zh (Znd a cap l w hr)
 have HBY:=Zh hby
 have HR:=Zh hr
 clear hr hby
 go_enter Tryz.func10,Tryz.ntmps10
 go_wp2_with fail
 refine HC.out.mono ?_
 rintro e w1 ⟨rfl,hb1⟩
 have HB1:=Zh hb1
 clear HC hb1
 by_cases hok:∀ t ∈ l,tokOk t
 case neg =>
  have HN:=Zh hok
  have hd:(!decide (∀ t ∈ l,tokOk t)) = true:=by rw [decide_eq_false hok];rfl
  rw [hd]
  clear hd hok
  go_wp2
  go_ret2
  exact ⟨HB1.out,by unfold ExpE;rw [if_neg HN.out];rfl⟩
 have HOK:=Zh hok
 have hd:(!decide (∀ t ∈ l,tokOk t)) = false:=by rw [decide_eq_true hok];rfl
 rw [hd]
 clear hd hok
 go_wp2_with fail
 go_loopw [4,11] (fun out i A=>∃ (k:Nat) (o:List Nat) (oa:Option Addr) (oc:Nat),k <= l.length /\ i = .int .i64 k /\ out = .slice oa o.length oc /\ expL [] (l.take k) = some o /\ OwnN 5 .u8 A w.heap.size oa oc o /\ Below w.heap.size w A /\ o.length <= 258 * k) (fun _ i _=>l.length - (intOf i).toNat)
 case atStart=>exact ⟨0,[],none,0,by omega,rfl,rfl,rfl,OwnN.nil _ _ _ _,HB1.out,by simp⟩
 case round =>
  obtain ⟨k,o,oa,oc,hk,rfl,rfl,hex,hown,hbel,hol⟩:=hrel
  by_cases hlt:k < l.length
  ·have hrA:=HR.out.below hbel
   obtain ⟨b,off,rfl,hb,hcl⟩:=hrA.at hlt
   have c0:=hcl 0 _ rfl
   have c1:=hcl 1 _ rfl
   have c2:=hcl 2 _ rfl
   have HS:=Zh (Zny l k hlt [])
   have hto:=HOK.out _ (List.getElem_mem hlt)
   have hbt:=HBY.out _ (List.getElem_mem hlt)
   have HALL:=Zh (fun (h:expT o l[k] = none)=>(show expL [] l = none from by
    have e:l = l.take (k + 1) ++ l.drop (k + 1):=(List.take_append_drop _ _).symm
    rw [e,Zlw,Zny l k hlt,hex]
    simp only [Option.bind_some]
    rw [h];rfl))
   rw [hex] at HS
   simp only [Option.bind_some] at HS
   have HBEL:=Zh hbel
   clear hrA hcl hbel hex
   generalize l[k] = t at *
   obtain ⟨L,D,bt⟩:=t
   simp only [encT,Nat.add_zero] at c0 c1 c2
   rw [<- Nat.add_assoc] at c1 c2
   have hba:=Zai wr (.cells #[.int .i64 L,.int .i64 D,.int .u8 (bt:Nat)] 40)
   have ho2:=hown.below hba
   have HOW:=Zh ho2
   have hsz:=HBEL.out.size
   by_cases h0:L = 0
   ·have hE:expT o ⟨L,D,bt⟩ = some (o ++ [bt]):=by unfold expT;rw [if_pos h0]
    have HE:=Zh (HS.out.trans hE)
    subst h0
    clear hE HS HALL hto hown ho2
    go_wp2_with (at_builtin;refine app1N Zfb rfl (.tmp 18) (.tmp 21) rfl rfl HOW.out (show Value.slice (some ⟨wr.heap.size + 1,0,none⟩) 1 1 = .slice (some ⟨(wr.alloc _).heap.size,0,none⟩) 1 1 from by simp) (Nat.le_refl _) (by omega) (by omega) (by omega) (by simp;omega) ?_;intro a3 cap3 w3 hown3 hg3 hb3)
    have HB3:=Zh (HBEL.out.trans ((hba.mono hsz).trans hb3))
    clear hg3 hb3
    go_roundw
    case rel=>exact ⟨k + 1,o ++ [bt],a3,cap3,by omega,by go_num,by simp,HE.out,hown3,HB3.out,by simp;omega⟩
    case measure=>simp [intOf];omega
   ·have hf:3 <= L /\ L <= 258 /\ 1 <= D /\ D <= 32768:=by
     unfold tokOk at hto;rw [if_neg h0] at hto;exact ⟨hto.2.1,hto.2.2.1,hto.2.2.2.1,hto.2.2.2.2⟩
    obtain ⟨m,rfl⟩:=Int.eq_ofNat_of_zero_le (by omega:0 <= L)
    obtain ⟨d,rfl⟩:=Int.eq_ofNat_of_zero_le (by omega:0 <= D)
    obtain ⟨f1,f2,f3,f4⟩:=hf
    have b0:((m:Int) == 0) = false:=by simp;omega
    by_cases hd:o.length < d
    ·have hE:expT o ⟨(m:Int),(d:Int),bt⟩ = none:=by unfold expT;rw [if_neg h0,if_pos (by show (o.length:Int) < (d:Int);omega)]
     have HN:=Zh (HALL.out hE)
     have b1:decide ((o.length:Int) < (d:Int)) = true:=by simp;omega
     have b1':decide (o.length < d) = true:=by simp;omega
     have HB3:=Zh (HBEL.out.trans (hba.mono hsz))
     clear hE HS HALL hto hown ho2 hd
     go_wp2
     go_ret2
     exact ⟨HB3.out,by unfold ExpE;rw [if_pos HOK.out,HN.out];rfl⟩
    ·have hE:expT o ⟨(m:Int),(d:Int),bt⟩ = some (repOut d o m):=by unfold expT;rw [if_neg h0,if_neg (by show ¬ (o.length:Int) < (d:Int);omega)];simp
     have HE:=Zh (HS.out.trans hE)
     have b1:decide ((o.length:Int) < (d:Int)) = false:=by simp;omega
     have b1':decide (o.length < d) = false:=by simp;omega
     have e0:(wr.alloc (.cells #[.int .i64 (m:Int),.int .i64 (d:Int),.int .u8 (bt:Nat)] 40)).heap[wr.heap.size]? = some (.cells #[.int .i64 (m:Int),.int .i64 (d:Int),.int .u8 (bt:Nat)] 40):=World.alloc_heap_new wr _
     have HA2:=Zh (HBEL.out.trans (hba.mono hsz))
     have E0:=Zh e0
     have hsz2:wr.heap.size < (wr.alloc (.cells #[.int .i64 (m:Int),.int .i64 (d:Int),.int .u8 (bt:Nat)] 40)).heap.size:=by simp
     have hpa:∀ g,oa = some ⟨g,0,none⟩ -> g ≠ wr.heap.size:=by
      intro g hg
      rcases hown.form with ⟨h,_⟩ | ⟨g',h,_,h2⟩
      ·rw [h] at hg;cases hg
      ·rw [h] at hg;cases hg;omega
     have HPA:=Zh hpa
     clear hE HS HALL hto hown ho2 e0 hba hpa
     obtain ⟨tb,htb⟩:∃ tb,wr.heap.size = tb:=⟨_,rfl⟩
     go_wp2_with fail
     generalize (wr.alloc (.cells #[.int .i64 (m:Int),.int .i64 (d:Int),.int .u8 (bt:Nat)] 40)) = A2 at *
     rw [htb] at hsz2 E0 HPA hsz
     clear htb c0 c1 c2 hb HBEL
     go_loopw [4,30] (fun out j B=>∃ (q:Nat) (pa:Option Addr) (pc:Nat),q <= m /\ j = .int .i64 q /\ out = .slice pa (repOut d o q).length pc /\ OwnN 5 .u8 B w.heap.size pa pc (repOut d o q) /\ (∀ g,pa = some ⟨g,0,none⟩ -> g ≠ tb) /\ Below w.heap.size w B /\ tb < B.heap.size /\ B.heap[tb]? = some (.cells #[.int .i64 (m:Int),.int .i64 (d:Int),.int .u8 (bt:Nat)] 40)) (fun _ j _=>m - (intOf j).toNat)
     case atStart=>exact ⟨0,oa,oc,by omega,rfl,rfl,HOW.out,HPA.out,HA2.out,hsz2,E0.out⟩
     case round =>
      obtain ⟨q,pa,pc,hq,rfl,rfl,hrw,hpt,hbB,htB,hcB⟩:=hrel
      obtain ⟨e0',e1',e2'⟩:=cells3 hcB
      have hrl:=Zdu d o q
      have HBB:=Zh hbB
      have HCB:=Zh hcB
      have HPT:=Zh hpt
      have hszB:=hbB.size
      by_cases hlq:q < m
      ·have hqi:(q:Int) < (m:Int):=by omega
       have HR:=Zh (show repOut d o (q + 1) = repOut d o q ++ [(repOut d o q).getD ((repOut d o q).length - d) 0] from rfl)
       generalize repOut d o q = r at *
       obtain ⟨px,hpx⟩:∃ px,r.length - d = px:=⟨_,rfl⟩
       rw [hpx] at HR
       have hpl:px < r.length:=by omega
       have qp:(r.length:Int) - (d:Int) = (px:Int):=by omega
       have qpw:IntKind.i64.wrap ((r.length:Int) - (d:Int)) = (px:Int):=by rw [qp];exact IntWalk.i64_in _ (by omega)
       obtain ⟨g9,rfl,_,_,hcv,_⟩:=hrw.at hpl
       have hgd:r.getD px 0 = r[px]:=by rw [List.getD_eq_getElem?_getD,List.getElem?_eq_getElem hpl];rfl
       rw [hgd] at HR
       have hrb:r.length <= 30000000:=by omega
       obtain ⟨nn1,nn2,qww⟩:=Zyb r.length px hrb hpl
       have hq258:q <= 258:=by omega
       have HLQ:=Zh (And.intro hlq (And.intro htB hszB))
       have HARI:=Zh (And.intro hol (And.intro hk (And.intro hlt (And.intro f1 (And.intro f2 (And.intro f3 (And.intro f4 (And.intro hd (And.intro h0 hl)))))))))
       clear qpw qww hrl hpx hol hk f1 f2 f3 f4 hd b0 b1 b1' hq hsz htB hsz2 h0 hlt hl hlq
       have HRW:=Zh hrw
       clear hrw hbB hcB hpt hgd
       generalize r[px] = v at *
       go_wp2_with (at_builtin;refine app1AtN Zfb rfl (.tmp 32) (.tmp 41) rfl (base:=w.heap.size) (y:=v) rfl HRW.out rfl (Nat.le_refl _) (by decide) nn1 nn2 hszB ?_;intro a7 c7 w7 hown7 hg7 hat7)
       obtain ⟨hlq,htB,_⟩:=HLQ.out
       obtain ⟨hol,hk,hlt,f1,f2,f3,f4,hd,h0,hl⟩:=HARI.out
       have hb7:=HBB.out.trans (Below.of_grown hg7 hszB (fun k e=>by cases e;have:=HRW.out.form;simp at this;omega))
       have hc7:w7.heap[tb]? = some (.cells #[.int .i64 (m:Int),.int .i64 (d:Int),.int .u8 (bt:Nat)] 40):=(hg7.block tb htB (fun e=>by cases e;exact HPT.out _ rfl rfl)).trans HCB.out
       have H7:=Zh (And.intro hb7 hc7)
       have HS7:=Zh hg7.size
       have HO7:=Zh hown7
       have HA7:Hid (∀ g,a7 = some ⟨g,0,none⟩ -> g ≠ tb):=Zh (fun g hg=>by
        rcases hat7 g hg with h | h
        ·exact HPT.out g h
        ·omega)
       clear hb7 hc7 hg7 hown7 hat7
       go_roundw
       case rel=>exact ⟨q + 1,a7,c7,by omega,by go_num,by rw [HR.out];simp,by rw [HR.out];exact HO7.out,HA7.out,H7.out.1,by have:=HS7.out;omega,H7.out.2⟩
       case measure=>simp [intOf];omega
      ·obtain rfl:q = m:=by omega
       have HRW:=Zh hrw
       clear hrw hbB hcB hpt e0' e1' e2'
       go_wp2
       go_roundw
       case rel=>exact ⟨k + 1,repOut d o q,pa,pc,by omega,by go_num,rfl,HE.out,HRW.out,HBB.out,by omega⟩
       case measure=>simp [intOf];omega
  ·obtain rfl:k = l.length:=by omega
   rw [List.take_length] at hex
   have HE:=Zh hex
   have HO:=Zh hown
   have HBEL:=Zh hbel
   clear hbel hex hown
   go_wp2
   go_ret2
   exact ⟨HBEL.out,by unfold ExpE;rw [if_pos HOK.out,HE.out];exact ⟨oa,oc,rfl,HO.out⟩⟩
end Go.Proofs.YtendielanacflaaGreat
