/- Words that all seats use: of the model's parts, and of the layers. Layer 1: laying bits: plain mathematics, and the contracts of lsb.Writer (bit, Put, Bytes). prefix: PutLow: contract. cost.may, cost.uses: contracts. Laying tokens by two codes: plain. Plain mathematics of layer 5: lengths that cost least: rows of packages, what is taken of each, the lengths; they make a full code. -/
import Derived.Test.YtendielanacflaaGreatS01
import Derived.Test.YtendielanacflaaGreatS02
import Derived.Test.YtendielanacflaaGreatS03
import Derived.Maps.AppendAt
import Derived.WalkLawsBesides
import Derived.Lib.SlicesS
import Derived.StillTailTactics
set_option linter.unusedVariables false
set_option linter.unusedSimpArgs false
namespace Go.Proofs.YtendielanacflaaGreat
open Go.RowKit Go.Shelf M01 M04 M08
theorem Zcz {w:World} {b:Nat} {x y:Value} {t:TypeId} (h:w.heap[b]? = some (.cells #[x,y] t (0,0))):w.cell? ⟨b,0,none⟩ = some x /\ w.cell? ⟨b,1,none⟩ = some y :=
 ⟨(Zae h).1,(Zae h).2.1⟩
theorem Zfl (w:World) (o:Obj):Below w.heap.size w (w.alloc o):=(Below.refl _ _).alloc (Nat.le_refl _) _
theorem Zfk (w:World) (u v:Value) (t:TypeId):(w.alloc (.cells #[u,v] t)).cell? ⟨w.heap.size,0,none⟩ = some u /\ (w.alloc (.cells #[u,v] t)).cell? ⟨w.heap.size,1,none⟩ = some v:=by
 have h:=World.alloc_heap_new w (.cells #[u,v] t)
 exact ⟨(Zae h).1,(Zae h).2.1⟩
theorem Zbs (T:Nat -> Prop) (w:World) (q:Nat):Only T w (w.drewN q):=⟨rfl,rfl,rfl,Nat.le_refl _,fun _ _ _=>rfl⟩
theorem app1AtN {P:Program} {T E:TypeId} {k:IntKind} {bytes:Nat} (et:ElemTy P T E k bytes) {w:World} {ops:Array Oper} {rest:List Oper} {o:Oper} {ac:Act} {Q:Exit -> Act -> World -> Prop} (hgd:o.guard = none) (s x:Operand)
  (ho:o.op = .call { callee:=.builtin .append,args:=#[s,x],argTypes:=#[T,T] }) {base:Nat} {a:Option Addr} {cap:Nat} {l:List Nat} {y:Nat} {c E':Nat}
  (hs:ac.eval s = .slice a l.length cap) (hown:OwnN E k w base a cap l) (hx:ac.eval x = .slice (some ⟨w.heap.size,0,none⟩) 1 c) (hc:1 <= c) (hc':c <= 9223372036854775807)
  (hn:l.length + 1 <= 9223372036854775807) (hbytes:(l.length + 1) * bytes <= 140737488355328) (hbase:base <= w.heap.size)
  (h:∀ a' cap' w',OwnN E k w' base a' cap' (l ++ [y]) -> w.grownBy w' (Value.slice a l.length cap).ownBlock -> (∀ g,a' = some ⟨g,0,none⟩ -> a = some ⟨g,0,none⟩ \/ w.heap.size <= g) -> wpList P ops Q rest (ac.put o.dst (.slice a' (l.length + 1) cap')) w') :
  wpList P ops Q (o :: rest) ac (w.alloc (.cells #[.int k y] E')):=by
 obtain ⟨i,h2,h3,h4,h5⟩:=info_parts et.info
 refine wpList_plain hgd fun K hK'=>?_
 have hy:RowN k (w.alloc (.cells #[.int k y] E')) (some ⟨w.heap.size,0,none⟩) c [y]:=by
  refine ⟨by simpa using hc,⟨hc',fun hn=>by cases hn⟩,.inr ⟨w.heap.size,0,rfl,by simp,fun i hi=>?_⟩⟩
  obtain rfl:i = 0:=by simp at hi;omega
  simp [World.cell?_alloc_at]
 obtain ⟨v',w',hr,h6,h7,h8,h9⟩:=run_append_own_at (P:=P) (w.alloc (.cells #[.int k y] E')) base T o.type E i (.int k 0) 1 bytes et.und h2 h3 h4 h5 rfl (by decide) _ l.length _ (hown.alloc (.cells #[.int k y] E')) ⟨w.heap.size,0,none⟩ 1 c ([y].map fun (n:Nat)=>Value.int k n) (by simp)
  (Zbm hy _ rfl) (by intro u hu;simp only [List.mem_map] at hu;obtain ⟨n,_,rfl⟩:=hu;rfl) (by simpa [maxLen] using hn) hbytes (by simp;omega)
 have hv:∃ a' cap',v' = .slice a' (l.length + 1) cap':=by
  rcases h6.2 with ⟨h9,h10⟩ | ⟨g,c',cur,h9,_⟩
  ·exact ⟨none,0,by rw [h9,h10]⟩
  ·exact ⟨_,_,h9⟩
 obtain ⟨a',cap',rfl⟩:=hv
 have hown':OwnN E k w' base a' cap' (l ++ [y]):=by
  unfold OwnN;rw [List.length_append,List.map_append];exact h6
 unfold Oper.wp
 simp [execOp,ho,resolve,invoke,builtin,hs,hx,hr,Result.andThen]
 refine hK' _ _ (h a' cap' w' hown' ⟨h7.os,h7.tape,h7.output,Nat.le_trans (by simp) h7.size,fun q hq hr=>(h7.block q (by simp;omega) hr).trans (Below.heap_alloc _ _ _ hq)⟩ ?_)
 rintro g rfl
 rcases h9 with h9 | h9
 ·left
  rcases hown.form with ⟨rfl,_,_⟩ | ⟨g',rfl,_⟩
  ·simp [Value.ownBlock] at h9
  ·simp [Value.ownBlock] at h9
   rw [h9]
 ·right
  simp [Value.ownBlock] at h9
  omega
theorem Zaca {E:TypeId} {k:IntKind} {w:World} {base cap n sp:Nat} {a:Option Addr} {l:List Nat} (h:OwnN E k w base a cap l) (h7:∀ g,a = some ⟨g,0,none⟩ -> sp < g) (b:Nat) (hb:b <= sp):some b ≠ (Value.slice a n cap).ownBlock:=by
 rcases h.form with ⟨rfl,_,_⟩ | ⟨g,rfl,_⟩
 ·simp [Value.ownBlock]
 ·have:=h7 g rfl
  simp [Value.ownBlock]
  omega
theorem Zhy {k:IntKind} {w:World} {a:Option Addr} {cap:Nat} {l:List Nat} (h:RowN k w a cap l) (n:Nat):RowN k w a cap (l.take n):=by
 obtain ⟨h1,h2,h3⟩:=h
 refine ⟨by simp;omega,h2,?_⟩
 rcases h3 with rfl | ⟨b,off,rfl,hb,hc⟩
 ·exact .inl (by simp)
 ·refine .inr ⟨b,off,rfl,hb,fun i hi=>?_⟩
  have hi2:i < l.length:=by simp at hi;omega
  rw [hc i hi2]
  simp
theorem Only.ofBelow {T:Nat -> Prop} {w w':World} (h:Below w.heap.size w w'):Only T w w':=⟨h.os,h.tape,h.output,h.size,fun b hb _=>h.block b hb⟩
def Sub (P:Nat -> Prop) (lo hi:Nat) (b:Nat):Prop:=P b /\ ¬ (lo <= b /\ b < hi)
theorem Only.widen {P:Nat -> Prop} {lo hi:Nat} {w w':World} (h:Only (Sub P lo hi) w w'):Only P w w':=h.mono (fun k _ hk=>hk.1)
theorem Tb.widen {lo hi lo' hi' p:Nat} {w:World} {l:List Nat} (h:Tb lo hi w p l) (h1:lo' <= lo) (h2:hi <= hi') (h3:hi' <= w.heap.size):Tb lo' hi' w p l:=by
 obtain ⟨a1,c1,a2,c2,mb,n,g1,g2,g3,g4,g5,g6,g7,g8,g9⟩:=h
 exact ⟨a1,c1,a2,c2,mb,n,g1,g2,g3,g4,h3,by omega,by omega,fun x hx=>by have:=g8 x hx;omega,fun x hx=>by have:=g9 x hx;omega⟩
theorem Tb.below {lo hi p:Nat} {w w':World} {l:List Nat} (h:Tb lo hi w p l) (hb:Below w.heap.size w w'):Tb lo hi w' p l :=
 h.only (T:=fun _=>False) (.ofBelow hb) (fun _ _ _ h=>h)
theorem Zjz {l:List Nat} (h:(wordsE l).2 = 0):May l /\ weight l <= 2 ^ 20:=by
 unfold wordsE at h
 split at h
 ·simp at h
 ·split at h
  ·simp at h
  ·next h1 h2=>exact ⟨by simpa using h1,by omega⟩
theorem OwnN.lit {k:IntKind} (E:TypeId) (w:World) (base:Nat) (l:List Nat) (vs:Array Value) (B:Nat) (hB:B = w.heap.size) (hv:vs = (l.map fun (n:Nat)=>Value.int k n).toArray) (hb:base <= w.heap.size) (hl:l.length <= maxLen) :
  OwnN E k (w.alloc (.cells vs E)) base (some ⟨B,0,none⟩) l.length l:=by
 subst hB hv
 exact ⟨by simp,.inr ⟨w.heap.size,l.length,(l.map fun (n:Nat)=>Value.int k n).toArray,rfl,hb,World.alloc_heap_new w _,Nat.le_refl _,hl,by simp,by simp [List.take_of_length_le]⟩⟩
end Go.Proofs.YtendielanacflaaGreat

namespace Go.Proofs.YtendielanacflaaGreat.M01
abbrev Wst:=List Nat × Nat
def roomy (s:Wst):List Nat:=if s.2 % 8 = 0 then s.1 ++ [0] else s.1
def addBit (s:Wst) (b:Nat):Wst:=((roomy s).set (s.2 / 8) ((roomy s).getD (s.2 / 8) 0 ||| b * 2 ^ (s.2 % 8)),s.2 + 1)
def WOk (s:Wst):Prop:=s.1.length = (s.2 + 7) / 8 /\ ∀ x ∈ s.1,x < 256
theorem Zex {s:Wst} (h:WOk s):(roomy s).length = s.2 / 8 + 1:=by
 obtain ⟨h1,_⟩:=h
 unfold roomy
 split
 ·simp;omega
 ·omega
theorem Zjp {s:Wst} (h:WOk s):∀ x ∈ roomy s,x < 256:=by
 intro x hx
 unfold roomy at hx
 split at hx
 ·rcases List.mem_append.1 hx with h1 | h1
  ·exact h.2 x h1
  ·simp at h1;omega
 ·exact h.2 x hx
theorem Zabz {s:Wst} (h:WOk s):(roomy s).getD (s.2 / 8) 0 < 256:=by
 have hl:=Zex h
 simp only [List.getD,List.getElem?_eq_getElem (show s.2 / 8 < (roomy s).length by omega),Option.getD_some]
 exact Zjp h _ (List.getElem_mem _)
theorem Zmd (b n:Nat) (hb:b < 2):b * 2 ^ (n % 8) < 256:=by
 have h1:2 ^ (n % 8) <= 2 ^ 7:=Nat.pow_le_pow_right (by decide) (by omega)
 have h2:b * 2 ^ (n % 8) <= 1 * 2 ^ (n % 8):=Nat.mul_le_mul_right _ (by omega)
 omega
theorem Zma {s:Wst} (h:WOk s) {b:Nat} (hb:b < 2):WOk (addBit s b):=by
 have hl:=Zex h
 refine ⟨?_,fun x hx=>?_⟩
 ·unfold addBit
  simp only [List.length_set,hl]
  omega
 ·unfold addBit at hx
  rcases List.mem_or_eq_of_mem_set hx with h1 | rfl
  ·exact Zjp h x h1
  ·exact Nat.or_lt_two_pow (n:=8) (Zabz h) (Zmd b s.2 hb)
def addNum (s:Wst) (v:Nat):Nat -> Wst
 | 0=>s
 | n + 1=>addBit (addNum s v n) (v / 2 ^ n % 2)
theorem Zgy {s:Wst} (h:WOk s) (v n:Nat):WOk (addNum s v n):=by
 induction n with
 | zero=>exact h
 | succ n ih=>exact Zma ih (Nat.mod_lt _ (by decide))
theorem Zac (s:Wst) (v n:Nat):(addNum s v n).2 = s.2 + n:=by
 induction n with
 | zero=>rfl
 | succ n ih=>show (addNum s v n).2 + 1 = _;omega
end Go.Proofs.YtendielanacflaaGreat.M01
namespace Go.Proofs.YtendielanacflaaGreat
open Go.RowKit Go.Shelf M01
def Wr0 (P:Nat -> Prop) (w:World) (p:Nat) (l:List Nat) (n:Nat):Prop :=
 ∃ a c,w.heap[p]? = some (.cells #[.slice a l.length c,.int .i64 (n:Nat)] 42 (0,0)) /\ OwnN 5 .u8 w 0 a c l /\ P p /\ (∀ g,a = some ⟨g,0,none⟩ -> P g /\ p < g) /\ (∀ b,w.heap.size <= b -> P b)
def Wr (P:Nat -> Prop) (w:World) (p:Nat) (s:Wst):Prop:=Wr0 P w p s.1 s.2 /\ WOk s /\ s.2 <= 100000000
theorem Wr0.lt {P:Nat -> Prop} {w:World} {p n:Nat} {l:List Nat} (h:Wr0 P w p l n):p < w.heap.size:=by
 obtain ⟨a,c,h1,_⟩:=h
 exact (Array.getElem?_eq_some_iff.1 h1).1
theorem Wr0.grow {P:Nat -> Prop} {w w2:World} {p n:Nat} {l:List Nat} {a a':Option Addr} {c c' y:Nat}
  (h1:w.heap[p]? = some (.cells #[.slice a l.length c,.int .i64 (n:Nat)] 42 (0,0))) (h2:OwnN 5 .u8 w 0 a c l) (h3:P p) (h4:∀ g,a = some ⟨g,0,none⟩ -> P g /\ p < g) (h5:∀ b,w.heap.size <= b -> P b)
  (hown:OwnN 5 .u8 w2 0 a' c' (l ++ [y])) (hg:w.grownBy w2 (Value.slice a l.length c).ownBlock) (hnew:∀ g,a' = some ⟨g,0,none⟩ -> a = some ⟨g,0,none⟩ \/ w.heap.size <= g) :
  Only P w (w2.setCell ⟨p,0,none⟩ (.slice a' (l.length + 1) c')) /\ Wr0 P (w2.setCell ⟨p,0,none⟩ (.slice a' (l.length + 1) c')) p (l ++ [y]) n:=by
 have hlt:p < w.heap.size:=(Array.getElem?_eq_some_iff.1 h1).1
 have hX:w2.heap[p]? = _:=(hg.block p hlt (Zaca h2 (fun g e=>(h4 g e).2) p (Nat.le_refl _))).trans h1
 have ho2:Only P w w2:=(Only.refl P w).grown hg (fun r hr=>by
  rcases h2.form with ⟨rfl,_,_⟩ | ⟨g,rfl,_⟩
  ·simp [Value.ownBlock] at hr
  ·simp [Value.ownBlock] at hr
   subst hr
   exact .inl (h4 _ rfl).1)
 have hO:=ho2.setCell (p:=⟨p,0,none⟩) (.inl h3) (.slice a' (l.length + 1) c')
 have hps:∀ g,a' = some ⟨g,0,none⟩ -> P g /\ p < g:=fun g e=>by
  rcases hnew g e with h | h
  ·exact h4 g h
  ·exact ⟨h5 g h,by omega⟩
 exact ⟨hO,a',c',by rw [(Zar hX).1];simp,hown.other (fun g e=>by have:=(hps g e).2;show p ≠ g;omega) _,h3,hps,fun b hb=>h5 b (Nat.le_trans hO.size hb)⟩
theorem Wr0.store {P:Nat -> Prop} {w:World} {p n g c:Nat} {l:List Nat} (h1:w.heap[p]? = some (.cells #[.slice (some ⟨g,0,none⟩) l.length c,.int .i64 (n:Nat)] 42 (0,0)))
  (h2:OwnN 5 .u8 w 0 (some ⟨g,0,none⟩) c l) (h3:P p) (h4:P g /\ p < g) (h5:∀ b,w.heap.size <= b -> P b) (i x:Nat) (m:Nat) :
  Only P w ((w.setCell ⟨g,i,none⟩ (.int .u8 (x:Nat))).setCell ⟨p,1,none⟩ (.int .i64 (m:Nat))) /\ Wr0 P ((w.setCell ⟨g,i,none⟩ (.int .u8 (x:Nat))).setCell ⟨p,1,none⟩ (.int .i64 (m:Nat))) p (l.set i x) m:=by
 have hO:=((Only.refl P w).setCell (p:=⟨g,i,none⟩) (.inl h4.1) (.int .u8 (x:Nat))).setCell (p:=⟨p,1,none⟩) (.inl h3) (.int .i64 (m:Nat))
 have hX:(w.setCell ⟨g,i,none⟩ (.int .u8 (x:Nat))).heap[p]? = _:=(Below.heap_setCell _ _ _ _ (by show p ≠ g;omega)).trans h1
 refine ⟨hO,some ⟨g,0,none⟩,c,?_,?_,h3,fun g' e=>by cases e;exact h4,fun b hb=>h5 b (Nat.le_trans hO.size hb)⟩
 ·rw [(Zar hX).2,List.length_set]
 ·exact ((h2.stored i x).1).other (fun g' e=>by cases e;show p ≠ g;omega) _
theorem wrap8 (n:Int):IntKind.u8.wrap n = n % 256:=by simp [IntKind.wrap,IntKind.bits,IntKind.signed]
theorem or8 (a b:Nat) (ha:a < 256) (hb:b < 256):bits .or .u8 (a:Int) (b:Int) = ((a ||| b:Nat):Int):=by
 have h1:(BitVec.ofInt 8 (a:Int)).toNat = a:=by
  rw [BitVec.ofInt_natCast,BitVec.toNat_ofNat];exact Nat.mod_eq_of_lt (by omega)
 have h2:(BitVec.ofInt 8 (b:Int)).toNat = b:=by
  rw [BitVec.ofInt_natCast,BitVec.toNat_ofNat];exact Nat.mod_eq_of_lt (by omega)
 have h3:a ||| b < 256:=Nat.or_lt_two_pow (n:=8) ha hb
 show IntKind.u8.wrap ((BitVec.ofInt 8 (a:Int) ||| BitVec.ofInt 8 (b:Int)).toNat:Int) = _
 rw [BitVec.toNat_or,h1,h2,wrap8]
 omega
theorem and1 (v:Nat) (hv:v < 4294967296):bits .and .u32 (v:Int) 1 = ((v % 2:Nat):Int):=by
 have h1:(BitVec.ofInt 32 (v:Int)).toNat = v:=by
  rw [BitVec.ofInt_natCast,BitVec.toNat_ofNat];exact Nat.mod_eq_of_lt (by omega)
 have h2:(BitVec.ofInt 32 (1:Int)).toNat = 1:=by decide
 show IntKind.u32.wrap ((BitVec.ofInt 32 (v:Int) &&& BitVec.ofInt 32 (1:Int)).toNat:Int) = _
 rw [BitVec.toNat_and,h1,h2,Nat.and_one_is_mod]
 have:IntKind.u32.wrap ((v % 2:Nat):Int) = ((v % 2:Nat):Int) % 4294967296:=by simp [IntKind.wrap,IntKind.bits,IntKind.signed]
 rw [this]
 omega
set_option maxRecDepth 100000 in
set_option maxHeartbeats 1600000 in
theorem Zadl {P:Nat -> Prop} {w:World} {p:Nat} {s:Wst} (h:Wr P w p s) (v:Nat) (hv:v < 4294967296) (hn:s.2 < 100000000) :
  Calls Tryz.prog 40 #[.pointer (some ⟨p,0,none⟩),.int .u32 (v:Nat)] w fun e w'=>e = .returned (.tuple #[]) /\ Only P w w' /\ Wr P w' p (addBit s (v % 2)):=by
 obtain ⟨h0,hok,hbd⟩:=h
 have hok2:=Zma hok (b:=v % 2) (Nat.mod_lt _ (by decide))
 have hrl:=Zex hok
 have hol:=Zabz hok
 have hsl:=hok.1
 have HOK2:=Zh hok2
 have HAD:Hid (addBit s (v % 2) = ((roomy s).set (s.2 / 8) ((roomy s).getD (s.2 / 8) 0 ||| v % 2 * 2 ^ (s.2 % 8)),s.2 + 1)):=rfl
 obtain ⟨l,n⟩:=s
 simp only at *
 obtain ⟨b,hb⟩:∃ b,v % 2 = b:=⟨_,rfl⟩
 have hb2:b < 2:=by omega
 obtain ⟨i,hi⟩:∃ i,n / 8 = i:=⟨_,rfl⟩
 obtain ⟨j,hj⟩:∃ j,n % 8 = j:=⟨_,rfl⟩
 obtain ⟨sh,hsh⟩:∃ sh,b * 2 ^ j = sh:=⟨_,rfl⟩
 have hsh2:sh < 256:=by rw [<- hsh,<- hj];exact Zmd b n hb2
 rw [hi] at hol hrl
 have hj8:j < 8:=by omega
 have hin:i <= n:=by omega
 have f1:(n:Int) / 8 = (i:Int):=by omega
 have f1':Int.tdiv (n:Int) 8 = (i:Int):=by rw [<- hi];rfl
 have f2:(n:Int) % 8 = (j:Int):=by omega
 have f2':Int.tmod (n:Int) 8 = (j:Int):=by rw [<- hj];rfl
 have f3:bits .and .u32 (v:Int) 1 = (b:Int):=by rw [and1 v hv,hb]
 have f4:IntKind.u8.wrap (b:Int) = (b:Int):=by rw [wrap8];omega
 have f5:IntKind.u8.wrap ((b:Int) * 2 ^ j) = (sh:Int):=by
  have:(b:Int) * 2 ^ j = (sh:Int):=by rw [<- hsh];simp
  rw [this,wrap8];omega
 have f7:IntKind.i64.wrap (i:Int) = (i:Int):=IntWalk.i64_in _ (by omega)
 have f8:IntKind.i64.wrap (j:Int) = (j:Int):=IntWalk.i64_in _ (by omega)
 rw [hi,hj,hb,hsh] at HAD
 obtain ⟨n1,hn1e⟩:∃ n1,n + 1 = n1:=⟨_,rfl⟩
 have f9:(n:Int) + 1 = (n1:Int):=by omega
 have hn1:n1 <= 100000000:=by omega
 rw [hn1e] at HAD
 clear hn1e
 rw [hb] at HOK2
 rw [hb]
 obtain ⟨old,hold⟩:∃ old,(roomy (l,n)).getD i 0 = old:=⟨_,rfl⟩
 rw [hold] at HAD hol
 obtain ⟨nw,hnw⟩:∃ nw,old ||| sh = nw:=⟨_,rfl⟩
 have f6:bits .or .u8 (old:Int) (sh:Int) = (nw:Int):=by rw [or8 old sh hol hsh2,hnw]
 rw [hnw] at HAD
 obtain ⟨a,c,h1,h2,h3,h4,h5⟩:=h0
 have hlt:p < w.heap.size:=(Array.getElem?_eq_some_iff.1 h1).1
 have hll:l.length <= 100000000:=by omega
 clear hsh hnw hok hok2 hi hb hsl
 by_cases hj0:n % 8 = 0
 ·have hRM:Hid (roomy (l,n) = l ++ [0]):=by unfold Hid roomy;rw [if_pos hj0]
  have hjz:j = 0:=by omega
  have t0:((j:Int) == 0) = true:=beq_iff_eq.2 (by omega)
  have H1:=Zh h1
  have H2:=Zh h2
  have H3:=Zh h3
  have H4:=Zh h4
  have H5:=Zh h5
  obtain ⟨x0,x1,y0,y1⟩:=Zae h1
  clear h1 h2 h3 h4 h5 hj0 hj hjz
  go_enter Tryz.func40,Tryz.ntmps40
  go_wp2_with (at_builtin;refine app1AtN Zhf rfl (.tmp 14) (.tmp 15) rfl (base:=0) (y:=0) rfl H2.out rfl (Nat.le_refl _) (by omega) (by omega) (by omega) (Nat.zero_le _) ?_;intro a' c' w2 hown hg hnew;have hX:=Zae ((hg.block p hlt (Zaca H2.out (fun g e=>(H4.out g e).2) p (Nat.le_refl _))).trans H1.out);obtain ⟨z0,z1,k0,k1⟩:=hX;replace hown:=Zh hown;replace hg:=Zh hg;replace hnew:=Zh hnew)
  have HG:=Wr0.grow H1.out H2.out H3.out H4.out H5.out hown.out hg.out hnew.out
  have HO:=Zh HG.1
  have HW:=Zh HG.2
  clear HG x0 x1 y0 y1 z0 z1 k0 k1 hown hg hnew H1 H2 H3 H4 H5
  generalize w2.setCell ⟨p,0,none⟩ (.slice a' (l.length + 1) c') = WA at *
  obtain ⟨a2,c2,g1,g2,g3,g4,g5⟩:=HW.out
  obtain ⟨g,rfl,hcl,hfr⟩:∃ g,a2 = some ⟨g,0,none⟩ /\ WA.cell? ⟨g,i,none⟩ = some (.int .u8 (old:Nat)) /\ WA.frozen? ⟨g,i,none⟩ = false:=by
   obtain ⟨g,he,_,_,hc,hf⟩:=g2.at (i:=i) (by rw [hRM.out] at hrl;omega)
   refine ⟨g,he,?_,hf⟩
   have h9:(l ++ [0]).getD i 0 = old:=by rw [<- hold,hRM.out]
   rw [hc,<- h9]
   simp [List.getD,List.getElem?_eq_getElem (show i < (l ++ [0]).length by rw [hRM.out] at hrl;omega)]
  have hi1:i < l.length + 1:=by rw [hRM.out] at hrl;first | omega | (simp at hrl;omega)
  have hi2:(i:Int) < ((l.length + 1:Nat):Int):=by omega
  have hi3:(0:Int) <= (i:Int):=by omega
  have hi5:i <= l.length:=by omega
  have hi6:(i:Int) < (l.length:Int) + 1:=by omega
  have hi7:(i:Int) <= (l.length:Int):=by omega
  have hi8:i < l.length + 1:=by omega
  have G1:=Zh g1
  have G2:=Zh g2
  have G3:=Zh g3
  have G4:=Zh (g4 g rfl)
  have G5:=Zh g5
  obtain ⟨e0,e1,d0,d1⟩:=Zae g1
  try simp only [List.length_append,List.length_singleton] at e0
  clear HW g1 g2 g3 g4 g5 hrl hol hold
  go_wp2_with fail
  go_still_tail 22,(by kernel_rfl)
  change wpList _ _ _ _ _ WA.drew
  replace G1:=Zh (show WA.drew.heap[p]? = _ from G1.out)
  replace G2:=Zh (show OwnN 5 .u8 WA.drew 0 _ _ _ from G2.out)
  replace G5:=Zh (show ∀ b,WA.drew.heap.size <= b -> P b from G5.out)
  replace hcl:WA.drew.cell? ⟨g,i,none⟩ = _:=hcl
  replace hfr:WA.drew.frozen? ⟨g,i,none⟩ = false:=hfr
  replace e0:WA.drew.cell? ⟨p,0,none⟩ = _:=e0
  replace e1:WA.drew.cell? ⟨p,1,none⟩ = _:=e1
  replace d0:WA.drew.frozen? ⟨p,0,none⟩ = false:=d0
  replace d1:WA.drew.frozen? ⟨p,1,none⟩ = false:=d1
  have HO2:=Zh (show Only P w WA.drew from (HO.out).trans (Zbs P WA 1))
  generalize WA.drew = W3 at *
  have hpg:¬ (p = g):=fun e=>by have:=G4.out.2;omega
  have hpg2:¬ (g = p):=fun e=>by have:=G4.out.2;omega
  go_wp2_with fail
  go_end0
  obtain ⟨k1,k2⟩:=Wr0.store G1.out G2.out G3.out G4.out G5.out i nw n1
  refine ⟨rfl,HO2.out.trans k1,?_,HOK2.out,?_⟩
  ·rw [HAD.out,hRM.out]
   exact k2
  ·rw [HAD.out]
   exact hn1
 ·have hRM:Hid (roomy (l,n) = l):=by unfold Hid roomy;rw [if_neg hj0]
  have t0:((j:Int) == 0) = false:=beq_eq_false_iff_ne.2 (by omega)
  have HW:Hid (Wr0 P w p l n):=⟨a,c,h1,h2,h3,h4,h5⟩
  obtain ⟨x0,x1,y0,y1⟩:=Zae h1
  clear h1 h2 h3 h4 h5 hj0 hj
  go_enter Tryz.func40,Tryz.ntmps40
  go_wp2_with fail
  clear x0 x1 y0 y1
  obtain ⟨a2,c2,g1,g2,g3,g4,g5⟩:=HW.out
  obtain ⟨g,rfl,hcl,hfr⟩:∃ g,a2 = some ⟨g,0,none⟩ /\ w.cell? ⟨g,i,none⟩ = some (.int .u8 (old:Nat)) /\ w.frozen? ⟨g,i,none⟩ = false:=by
   obtain ⟨g,he,_,_,hc,hf⟩:=g2.at (i:=i) (by rw [hRM.out] at hrl;omega)
   refine ⟨g,he,?_,hf⟩
   have h9:(l).getD i 0 = old:=by rw [<- hold,hRM.out]
   rw [hc,<- h9]
   simp [List.getD,List.getElem?_eq_getElem (show i < (l).length by rw [hRM.out] at hrl;omega)]
  have hi1:i < l.length:=by rw [hRM.out] at hrl;first | omega | (simp at hrl;omega)
  have hi2:(i:Int) < ((l.length:Nat):Int):=by omega
  have hi3:(0:Int) <= (i:Int):=by omega
  have hi5:i <= l.length:=by omega
  have hi6:(i:Int) < (l.length:Int) + 1:=by omega
  have hi7:(i:Int) <= (l.length:Int):=by omega
  have hi8:i < l.length + 1:=by omega
  have G1:=Zh g1
  have G2:=Zh g2
  have G3:=Zh g3
  have G4:=Zh (g4 g rfl)
  have G5:=Zh g5
  obtain ⟨e0,e1,d0,d1⟩:=Zae g1
  try simp only [List.length_append,List.length_singleton] at e0
  clear HW g1 g2 g3 g4 g5 hrl hol hold
  go_wp2_with fail
  go_still_tail 22,(by kernel_rfl)
  change wpList _ _ _ _ _ w.drew
  replace G1:=Zh (show w.drew.heap[p]? = _ from G1.out)
  replace G2:=Zh (show OwnN 5 .u8 w.drew 0 _ _ _ from G2.out)
  replace G5:=Zh (show ∀ b,w.drew.heap.size <= b -> P b from G5.out)
  replace hcl:w.drew.cell? ⟨g,i,none⟩ = _:=hcl
  replace hfr:w.drew.frozen? ⟨g,i,none⟩ = false:=hfr
  replace e0:w.drew.cell? ⟨p,0,none⟩ = _:=e0
  replace e1:w.drew.cell? ⟨p,1,none⟩ = _:=e1
  replace d0:w.drew.frozen? ⟨p,0,none⟩ = false:=d0
  replace d1:w.drew.frozen? ⟨p,1,none⟩ = false:=d1
  have HO2:=Zh (show Only P w w.drew from (Only.refl P w).trans (Zbs P w 1))
  generalize w.drew = W3 at *
  have hpg:¬ (p = g):=fun e=>by have:=G4.out.2;omega
  have hpg2:¬ (g = p):=fun e=>by have:=G4.out.2;omega
  go_wp2_with fail
  go_end0
  obtain ⟨k1,k2⟩:=Wr0.store G1.out G2.out G3.out G4.out G5.out i nw n1
  refine ⟨rfl,HO2.out.trans k1,?_,HOK2.out,?_⟩
  ·rw [HAD.out,hRM.out]
   exact k2
  ·rw [HAD.out]
   exact hn1
end Go.Proofs.YtendielanacflaaGreat
namespace Go.Proofs.YtendielanacflaaGreat
open Go.RowKit Go.Shelf M01
theorem Wr.lt {P:Nat -> Prop} {w:World} {p:Nat} {s:Wst} (h:Wr P w p s):p < w.heap.size:=h.1.lt
set_option maxRecDepth 100000 in
set_option maxHeartbeats 1600000 in
theorem Zao {P:Nat -> Prop} {w:World} {p:Nat} {s:Wst} (h:Wr P w p s) (v n:Nat) (hn:n <= 32) (hv:v < 2 ^ n) (hs:s.2 + n <= 100000000) :
  Calls Tryz.prog 18 #[.pointer (some ⟨p,0,none⟩),.int .u32 (v:Nat),.int .i64 (n:Nat)] w fun e w'=>e = .returned (.int .i64 0) /\ Only P w w' /\ Wr P w' p (addNum s v n):=by
 have H:=Zh h
 have hmf:∀ (fn:Fn) (first cap:Array Value) (w:World),(Instr.makeFunc fn first cap).run Tryz.prog w = .ok (.func fn first cap) w:=fun _ _ _ _=>rfl
 have hp32:2 ^ n <= 2 ^ 32:=Nat.pow_le_pow_right (by decide) hn
 have hv32:v < 4294967296:=by omega
 have t1:decide ((n:Int) < 0) = false:=by simp
 have t2:decide ((32:Int) < (n:Int)) = false:=by simp;omega
 have t3:(v:Int) / 2 ^ n = 0:=by
  have:(v:Int) / ((2 ^ n:Nat):Int) = 0:=by rw [<- Int.natCast_ediv,Nat.div_eq_of_lt hv];rfl
  simpa using this
 have HV:=Zh hv
 have HP:=Zh hp32
 clear h hv hp32
 go_enter Tryz.func18,Tryz.ntmps18
 go_wp2_with fail
 go_loopw [29] (fun c A=>∃ k:Nat,k <= n /\ c = .int .i64 (k:Nat) /\ Only P w A /\ Wr P A p (addNum s v k)) (fun c _=>n - (intOf c).toNat)
 case atStart=>exact ⟨0,by omega,rfl,Only.refl _ _,H.out⟩
 case round =>
  clear H hmf
  obtain ⟨k,hk,rfl,ho,hw⟩:=hrel
  have HO:=Zh ho
  have HW:=Zh hw
  clear ho hw
  by_cases hlt:k < n
  ·obtain ⟨x,hx⟩:∃ x,v / 2 ^ k = x:=⟨_,rfl⟩
   have hx2:x < 4294967296:=by rw [<- hx];exact Nat.lt_of_le_of_lt (Nat.div_le_self _ _) hv32
   have q1:(v:Int) / 2 ^ k = (x:Int):=by rw [<- hx];simp
   have hk32:k <= 32:=by omega
   have HL:=Zac s v k
   have HB:=Zh (Zadl HW.out x hx2 (by omega))
   have HA:Hid (addBit (addNum s v k) (x % 2) = addNum s v (k + 1)):=by unfold Hid;rw [<- hx];rfl
   rw [HA.out] at HB
   clear HL HW hx
   go_wp2_with (go_at_call 40;refine HB.out.mono ?_;rintro e w2 ⟨rfl,ho2,hw2⟩;replace ho2:=Zh ho2;replace hw2:=Zh hw2)
   go_roundw
   case rel=>exact ⟨k + 1,by omega,by go_num,HO.out.trans ho2.out,hw2.out⟩
   case measure=>simp [intOf];omega
  ·obtain rfl:k = n:=by omega
   go_wp2
   go_ret
   exact ⟨rfl,HO.out,HW.out⟩
theorem Zmz {P:Nat -> Prop} {w:World} {p:Nat} {s:Wst} (h:Wr P w p s) :
  Calls Tryz.prog 25 #[.pointer (some ⟨p,0,none⟩)] w fun e w'=>∃ a c,e = .returned (.slice a s.1.length c) /\ OwnN 5 .u8 w' w.heap.size a c s.1 /\ Below w.heap.size w w':=by
 obtain ⟨⟨a,c,h1,h2,_⟩,hok,hb⟩:=h
 obtain ⟨c0,c1,_,_⟩:=Zae h1
 have HC:=Zh (Zgm w a c s.1 h2.row (by rw [hok.1];omega))
 clear h1 h2 hok hb
 go_enter Tryz.func25,Tryz.ntmps25
 go_wp2_with fail
 refine HC.out.mono ?_
 rintro e w2 ⟨a2,c2,rfl,ho,hb⟩
 have HO:=Zh ho
 have HB:=Zh hb
 clear ho hb HC
 go_wp2
 go_ret
 exact ⟨a2,c2,rfl,HO.out,HB.out⟩
end Go.Proofs.YtendielanacflaaGreat

namespace Go.Proofs.YtendielanacflaaGreat
open Go.RowKit Go.Shelf M01 M04 M06
def addWord (s:Wst) (x n:Nat):Nat -> Wst
 | 0=>s
 | j + 1=>addNum (addWord s x n j) (x / 2 ^ (n - 1 - j) % 2) 1
def addSym (l:List Nat) (st:Wst) (s:Nat):Wst:=addWord st ((words l).getD s 0) (l.getD s 0) (l.getD s 0)
theorem Zbj (s:Wst) (x n j:Nat):(addWord s x n j).2 = s.2 + j:=by
 induction j with
 | zero=>rfl
 | succ j ih=>unfold addWord;rw [Zac,ih];omega
theorem Zjw (w:World) (lo hi p:Nat) (l:List Nat) (s:Nat) (h:Tb lo hi w p l) (hs:s < l.length) (hx:l.getD s 0 <= 255) :
  Calls Tryz.prog 114 #[.pointer (some ⟨p,0,none⟩),.int .i64 (s:Nat)] w fun e w'=>e = .returned (.int .i64 (l.getD s 0:Nat)) /\ w' = w:=by
 obtain ⟨a1,c1,a2,c2,mb,nn,g1,g2,g3,g4,_⟩:=h
 obtain ⟨b,off,rfl,hb,hck⟩:=g2.at hs
 have hge:l[s] = l.getD s 0:=by simp [List.getD,List.getElem?_eq_getElem hs]
 rw [hge] at hck
 have c0:w.cell? ⟨p,0,none⟩ = some (.slice (some ⟨b,off,none⟩) l.length c1):=by simp [World.cell?,g1]
 have t1:decide (l.length <= s) = false:=by simp;omega
 have q1:(0:Int) <= (s:Int):=by omega
 have q2:(s:Int) < (l.length:Int):=by omega
 generalize l.getD s 0 = x at *
 clear g1 g2 g3 g4 hge hb
 go_enter Tryz.func114,Tryz.ntmps114
 go_wp2
 go_ret
 exact ⟨rfl,rfl⟩
set_option maxRecDepth 100000 in
set_option maxHeartbeats 1600000 in
theorem Zsx {P:Nat -> Prop} {w:World} {lo hi tp p:Nat} {l:List Nat} {st:Wst} (hT:Tb lo hi w tp l) (hW:Wr P w p st) (hP:∀ b,lo <= b -> b < hi -> ¬ P b) (s n:Nat) (hs:s < l.length) (hn:l.getD s 0 = n) (h0:0 < n) (h20:n <= 20)
  (hx:(words l).getD s 0 < 4294967296) (hb:st.2 + n <= 100000000) :
  Calls Tryz.prog 78 #[.pointer (some ⟨tp,0,none⟩),.pointer (some ⟨p,0,none⟩),.int .i64 (s:Nat),.func (Fn.func 18) #[.pointer (some ⟨p,0,none⟩)] #[]] w fun e w' =>
   e = .returned (.int .i64 0) /\ Only P w w' /\ Wr P w' p (addWord st ((words l).getD s 0) n n):=by
 have HB:=Zh (Zjw w lo hi tp l s hT hs (by omega))
 rw [hn] at HB
 obtain ⟨x,hxe⟩:∃ x,(words l).getD s 0 = x:=⟨_,rfl⟩
 rw [hxe] at hx ⊢
 have HT:=Zh hT
 have HW:=Zh hW
 have HP:=Zh hP
 have t0:((n:Int) == 0) = false:=beq_eq_false_iff_ne.2 (by omega)
 obtain ⟨n1,hn1⟩:∃ n1,n = n1 + 1:=⟨n - 1,by omega⟩
 have q0:(n:Int) - 1 = (n1:Int):=by omega
 replace hn1:=Zh hn1
 have HXE:=Zh hxe
 have hwl:=Zbl l
 clear hT hW hP hxe
 go_enter Tryz.func78,Tryz.ntmps78
 go_wp2_with fail
 refine HB.out.mono ?_
 rintro e w1 ⟨rfl,rfl⟩
 go_wp2_with fail
 go_loopw [10] (fun c A=>Only P w1 A /\ ((∃ r:Nat,c = .int .i64 (r:Nat) /\ r < n /\ Wr P A p (addWord st x n (n - 1 - r))) \/ (c = .int .i64 (-1) /\ Wr P A p (addWord st x n n)))) (fun c _=>(intOf c + 1).toNat)
 case atStart=>exact ⟨Only.refl _ _,.inl ⟨n1,rfl,by have:=hn1.out;omega,by rw [show n - 1 - n1 = 0 by have:=hn1.out;omega];exact HW.out⟩⟩
 case round =>
  clear HB q0 t0
  obtain ⟨ho,hrel⟩:=hrel
  have HO:=Zh ho
  rcases hrel with ⟨r,rfl,hr,hw⟩ | ⟨rfl,hw⟩
  ·have HW2:=Zh hw
   have HT2:=Zh (HT.out.only ho HP.out)
   obtain ⟨a1,c1,a2,c2,mb,nn,g1,g2,g3,g4,_⟩:=HT2.out
   obtain ⟨b,off,rfl,hbb,hck⟩:=g3.at (i:=s) (by rw [hwl];exact hs)
   have hge:(words l)[s]'(by rw [hwl];exact hs) = x:=by rw [<- HXE.out];simp [List.getD,List.getElem?_eq_getElem (show s < (words l).length by rw [hwl];exact hs)]
   rw [hge] at hck
   have k1:wr.cell? ⟨tp,1,none⟩ = some (.slice (some ⟨b,off,none⟩) l.length c2):=by simp [World.cell?,g1]
   obtain ⟨y,hy⟩:∃ y,x / 2 ^ r = y:=⟨_,rfl⟩
   have hy2:y < 4294967296:=by rw [<- hy];exact Nat.lt_of_le_of_lt (Nat.div_le_self _ _) hx
   have q1:(x:Int) / 2 ^ r = (y:Int):=by rw [<- hy];simp
   obtain ⟨z,hz⟩:∃ z,y % 2 = z:=⟨_,rfl⟩
   have q2:bits .and .u32 (y:Int) 1 = (z:Int):=by rw [and1 y hy2,hz]
   have q3:(0:Int) <= (s:Int):=by omega
   have q4:(s:Int) < (l.length:Int):=by omega
   have q5:(0:Int) <= (r:Int):=by omega
   have hr32:r <= 32:=by omega
   have hll:(addWord st x n (n - 1 - r)).2 + 1 <= 100000000:=by rw [Zbj];omega
   have HPU:=Zh (show Calls Tryz.prog 18 #[.pointer (some ⟨p,0,none⟩),.int .u32 (z:Nat),.int .i64 1] wr _ from Zao HW2.out z 1 (by decide) (by omega) hll)
   have HA:Hid (addNum (addWord st x n (n - 1 - r)) z 1 = addWord st x n (n - r)):=by
    unfold Hid
    rw [show n - r = (n - 1 - r) + 1 by omega]
    show _ = addNum _ (x / 2 ^ (n - 1 - (n - 1 - r)) % 2) 1
    rw [show n - 1 - (n - 1 - r) = r by omega,hy,hz]
   rw [HA.out] at HPU
   clear ho hw HW2 HT2 g1 g2 g3 g4 hge hll HA hy hz hbb
   go_wp2_with (go_at_call 18;refine HPU.out.mono ?_;rintro e w2 ⟨rfl,ho2,hw2⟩;replace ho2:=Zh ho2;replace hw2:=Zh hw2)
   go_roundw
   case rel =>
    refine ⟨HO.out.trans ho2.out,?_⟩
    cases r with
    | zero=>exact .inr ⟨rfl,hw2.out⟩
    | succ r=>exact .inl ⟨r,congrArg (Value.int IntKind.i64) (by omega),by omega,by rw [show n - 1 - r = n - (r + 1) by omega];exact hw2.out⟩
   case measure=>simp [intOf]
  ·have HW2:=Zh hw
   clear ho hw
   go_wp2
   go_ret
   exact ⟨rfl,HO.out,HW2.out⟩
theorem Zdf {P:Nat -> Prop} {w:World} {lo hi tp p:Nat} {l:List Nat} {st:Wst} (hT:Tb lo hi w tp l) (hW:Wr P w p st) (hP:∀ b,lo <= b -> b < hi -> ¬ P b) (s:Nat) (hs:s < l.length) (h0:0 < l.getD s 0) (h20:l.getD s 0 <= 20)
  (hx:(words l).getD s 0 < 4294967296) (hb:st.2 + l.getD s 0 <= 100000000) :
  Calls Tryz.prog 42 #[.pointer (some ⟨tp,0,none⟩),.pointer (some ⟨p,0,none⟩),.int .i64 (s:Nat)] w fun e w' =>
   e = .returned (.int .i64 0) /\ Only P w w' /\ Wr P w' p (addSym l st s):=by
 have HC:=Zh (Zsx hT hW hP s _ hs rfl h0 h20 hx hb)
 have hmf:∀ (fn:Fn) (first cap:Array Value) (w:World),(Instr.makeFunc fn first cap).run Tryz.prog w = .ok (.func fn first cap) w:=fun _ _ _ _=>rfl
 have HD:Hid (addWord st ((words l).getD s 0) (l.getD s 0) (l.getD s 0) = addSym l st s):=rfl
 rw [HD.out] at HC
 clear hT hW hP h0 h20 hx hb
 go_enter Tryz.func42,Tryz.ntmps42
 go_wp2_with fail
 refine HC.out.mono ?_
 rintro e w2 ⟨rfl,ho,hw⟩
 have HO:=Zh ho
 have HW:=Zh hw
 clear ho hw HC
 go_wp2
 go_ret
 exact ⟨rfl,HO.out,HW.out⟩
theorem Zlu (w:World) (lo hi p:Nat) (l:List Nat) (s:Nat) (h:Tb lo hi w p l) (hs:l.length <= s) :
  Calls Tryz.prog 114 #[.pointer (some ⟨p,0,none⟩),.int .i64 (s:Nat)] w fun e w'=>e = .returned (.int .i64 0) /\ w' = w:=by
 obtain ⟨a1,c1,a2,c2,mb,nn,g1,g2,g3,g4,_⟩:=h
 have c0:w.cell? ⟨p,0,none⟩ = some (.slice a1 l.length c1):=by simp [World.cell?,g1]
 have t1:decide (l.length <= s) = true:=by simpa using hs
 clear g1 g2 g3 g4 hs
 go_enter Tryz.func114,Tryz.ntmps114
 go_wp2
 go_ret
 exact ⟨rfl,rfl⟩
def addSymE (l:List Nat) (st:Wst) (s:Nat):Wst:=if l.getD s 0 = 0 then st else addSym l st s
theorem Zir (w:World) (lo hi p:Nat) (l:List Nat) (s:Nat) (h:Tb lo hi w p l) (hx:∀ x ∈ l,x <= 20) :
  Calls Tryz.prog 114 #[.pointer (some ⟨p,0,none⟩),.int .i64 (s:Nat)] w fun e w'=>e = .returned (.int .i64 (l.getD s 0:Nat)) /\ w' = w:=by
 by_cases hs:s < l.length
 ·exact Zjw w lo hi p l s h hs (by have:=Zaw hx s;omega)
 ·have h0:l.getD s 0 = 0:=by simp [List.getD,List.getElem?_eq_none (show l.length <= s by omega)]
  rw [h0]
  exact Zlu w lo hi p l s h (by omega)
theorem Zio (w:World) (lo hi tp p:Nat) (l:List Nat) (s:Nat) (hT:Tb lo hi w tp l) (hx:∀ x ∈ l,x <= 20) (h0:l.getD s 0 = 0) :
  Calls Tryz.prog 42 #[.pointer (some ⟨tp,0,none⟩),.pointer (some ⟨p,0,none⟩),.int .i64 (s:Nat)] w fun e w'=>e = .returned (.int .i64 5) /\ w' = w:=by
 have HB:=Zh (Zir w lo hi tp l s hT hx)
 rw [h0] at HB
 have hmf:∀ (fn:Fn) (first cap:Array Value) (w:World),(Instr.makeFunc fn first cap).run Tryz.prog w = .ok (.func fn first cap) w:=fun _ _ _ _=>rfl
 clear hT hx h0
 go_enter Tryz.func42,Tryz.ntmps42
 go_wp2_with fail
 go_enter Tryz.func78,Tryz.ntmps78
 go_wp2_with fail
 refine HB.out.mono ?_
 rintro e w1 ⟨rfl,rfl⟩
 go_wp2
 go_ret
 go_wp2
theorem Zbu {P:Nat -> Prop} {w:World} {lo hi tp p:Nat} {l:List Nat} {st:Wst} (hT:Tb lo hi w tp l) (hW:Wr P w p st) (hP:∀ b,lo <= b -> b < hi -> ¬ P b) (h20:∀ x ∈ l,x <= 20) (hwt:weight l <= 2 ^ 20) (s:Nat) (hb:st.2 + 20 <= 100000000) :
  Calls Tryz.prog 42 #[.pointer (some ⟨tp,0,none⟩),.pointer (some ⟨p,0,none⟩),.int .i64 (s:Nat)] w fun e w' =>
   ∃ c:Nat,e = .returned (.int .i64 (c:Nat)) /\ Only P w w' /\ Wr P w' p (addSymE l st s):=by
 unfold addSymE
 by_cases h0:l.getD s 0 = 0
 ·rw [if_pos h0]
  refine (Zio w lo hi tp p l s hT h20 h0).mono ?_
  rintro e w' ⟨rfl,rfl⟩
  exact ⟨5,rfl,Only.refl _ _,hW⟩
 ·rw [if_neg h0]
  have hs:s < l.length:=by
   rcases Nat.lt_or_ge s l.length with h | h
   ·exact h
   ·exact absurd (by simp [List.getD,List.getElem?_eq_none h]) h0
  have hle:=Zaw h20 s
  have hx:(words l).getD s 0 < 4294967296:=by
   have h1:=Zgc l s hs h20 hwt
   have h2:(words l).getD s 0 = word l s:=by simp [List.getD,List.getElem?_eq_getElem (show s < (words l).length by rw [Zbl];exact hs),Zdi]
   have h3:word l s < 2 ^ l.getD s 0:=by
    rcases Nat.lt_or_ge (word l s) (2 ^ l.getD s 0) with h | h
    ·exact h
    ·have:=Nat.div_pos h (Nat.pow_pos (by decide));omega
   have h4:2 ^ l.getD s 0 <= 2 ^ 20:=Nat.pow_le_pow_right (by decide) hle
   omega
  refine (Zdf hT hW hP s hs (by omega) hle hx (by omega)).mono ?_
  rintro e w' ⟨rfl,h1,h2⟩
  exact ⟨0,rfl,h1,h2⟩
theorem Wr.below {P:Nat -> Prop} {w w':World} {p:Nat} {s:Wst} (h:Wr P w p s) (hb:Below w.heap.size w w'):Wr P w' p s:=by
 have hlt:=h.lt
 obtain ⟨⟨a,c,h1,h2,h3,h4,h5⟩,h6⟩:=h
 exact ⟨⟨a,c,(hb.block p hlt).trans h1,h2.below hb,h3,h4,fun b hb'=>h5 b (Nat.le_trans hb.size hb')⟩,h6⟩
theorem Wr.narrow {P:Nat -> Prop} {w w':World} {p:Nat} {s:Wst} (h:Wr P w p s) (hb:Below w.heap.size w w'):Wr (Sub P w.heap.size w'.heap.size) w' p s:=by
 have hlt:=h.lt
 obtain ⟨⟨a,c,h1,h2,h3,h4,h5⟩,h6⟩:=h
 have hz:=hb.size
 refine ⟨⟨a,c,(hb.block p hlt).trans h1,h2.below hb,⟨h3,by omega⟩,fun g hg=>⟨⟨(h4 g hg).1,?_⟩,(h4 g hg).2⟩,fun b hb'=>⟨h5 b (by omega),by omega⟩⟩,h6⟩
 rcases h2.form with ⟨rfl,_,_⟩ | ⟨g',rfl,_,hg'⟩
 ·cases hg
 ·cases hg;omega
theorem Wr.widen {P:Nat -> Prop} {lo hi:Nat} {w:World} {p:Nat} {s:Wst} (h:Wr (Sub P lo hi) w p s):Wr P w p s:=by
 obtain ⟨⟨a,c,h1,h2,h3,h4,h5⟩,h6⟩:=h
 exact ⟨⟨a,c,h1,h2,h3.1,fun g hg=>⟨(h4 g hg).1.1,(h4 g hg).2⟩,fun b hb=>(h5 b hb).1⟩,h6⟩
theorem Zcg {l:List Nat} (h:∀ x ∈ l,x <= 20) (st:Wst) (s:Nat):(addSymE l st s).2 <= st.2 + 20:=by
 unfold addSymE
 split
 ·omega
 ·unfold addSym
  rw [Zbj]
  have:=Zaw h s
  omega
end Go.Proofs.YtendielanacflaaGreat

namespace Go.Proofs.YtendielanacflaaGreat
open Go.RowKit Go.Shelf M08 M17
attribute [local go_sem] Oper.semAt_some
def mayN (t:Tok):Nat:=if (t.len = 0 /\ t.dist ≠ 0) \/ (t.len ≠ 0 /\ t.byte ≠ 0) then 5 else 0
theorem Zai (w:World) (o:Obj):Below w.heap.size w (w.alloc o):=(Below.refl _ _).alloc (Nat.le_refl _) _
theorem Zgq (t:Tok) (w:World) :
  Calls Tryz.prog 109 #[tokV t] w fun e w'=>e = .returned (.int .i64 (mayN t:Nat)) /\ Below w.heap.size w w':=by
 obtain ⟨L,D,b⟩:=t
 unfold tokV
 by_cases h0:L = 0
 ·by_cases h1:D = 0
  ·have H:Hid (mayN ⟨L,D,b⟩ = 0):=by unfold Hid mayN;rw [if_neg (by simp [h0,h1])]
   have b0:(L == 0) = true:=by simp [h0]
   have b2:(L != 0) = false:=by simp [h0]
   have b1:(D != 0) = false:=by simp [h1]
   clear h0 h1
   go_enter Tryz.func109,Tryz.ntmps109
   go_wp2
   go_ret
   exact ⟨Zav (by rw [H.out];rfl),Zai _ _⟩
  ·have H:Hid (mayN ⟨L,D,b⟩ = 5):=by unfold Hid mayN;rw [if_pos (by simp [h0,h1])]
   have b0:(L == 0) = true:=by simp [h0]
   have b2:(L != 0) = false:=by simp [h0]
   have b1:(D != 0) = true:=by simp [h1]
   clear h0 h1
   go_enter Tryz.func109,Tryz.ntmps109
   go_wp2
   go_ret
   exact ⟨Zav (by rw [H.out];rfl),Zai _ _⟩
 ·by_cases h1:b = 0
  ·have H:Hid (mayN ⟨L,D,b⟩ = 0):=by unfold Hid mayN;rw [if_neg (by simp [h0,h1])]
   have b0:(L == 0) = false:=by simp [h0]
   have b2:(L != 0) = true:=by simp [h0]
   have b1:((b:Int) != 0) = false:=by simp;omega
   clear h0 h1
   go_enter Tryz.func109,Tryz.ntmps109
   go_wp2
   go_ret
   exact ⟨Zav (by rw [H.out];rfl),Zai _ _⟩
  ·have H:Hid (mayN ⟨L,D,b⟩ = 5):=by unfold Hid mayN;rw [if_pos (by simp [h0,h1])]
   have b0:(L == 0) = false:=by simp [h0]
   have b2:(L != 0) = true:=by simp [h0]
   have b1:((b:Int) != 0) = true:=by simp;omega
   clear h0 h1
   go_enter Tryz.func109,Tryz.ntmps109
   go_wp2
   go_ret
   exact ⟨Zav (by rw [H.out];rfl),Zai _ _⟩
theorem Zmk (a:Option Addr) (cap n:Nat) (w:World) :
  Calls Tryz.prog 71 #[.slice a n cap] w fun e w'=>e = .returned (.func (.func 108) #[] #[.pointer (some ⟨w.heap.size,0,none⟩)]) /\ w' = w.alloc (.cells #[.slice a n cap] 22):=by
 have hmf:∀ (fn:Fn) (first cap:Array Value) (w:World),(Instr.makeFunc fn first cap).run Tryz.prog w = .ok (.func fn first cap) w:=fun _ _ _ _=>rfl
 go_enter Tryz.func71,Tryz.ntmps71
 go_wp2
 go_ret
 exact ⟨rfl,rfl⟩
def lenS (n:Int):Nat:=if 3 <= n /\ n <= 258 then 257 + lk n.toNat else 0
def lenB (n:Int):Nat:=if 3 <= n /\ n <= 258 then lbits (257 + lk n.toNat) else 0
def lenX (n:Int):Nat:=if 3 <= n /\ n <= 258 then n.toNat - lensL.getD (lk n.toNat) 0 else 0
def lenE (n:Int):Nat:=if 3 <= n /\ n <= 258 then 0 else 5
def dstS (n:Int):Nat:=if 1 <= n /\ n <= 32768 then dk n.toNat else 0
def dstB (n:Int):Nat:=if 1 <= n /\ n <= 32768 then dbits (dk n.toNat) else 0
def dstX (n:Int):Nat:=if 1 <= n /\ n <= 32768 then n.toNat - distL.getD (dk n.toNat) 0 else 0
def dstE (n:Int):Nat:=if 1 <= n /\ n <= 32768 then 0 else 5
theorem Zbx (n:Int) (w:World) :
  Calls Tryz.prog 43 #[.int .i64 n] w fun e w'=>e = .returned (.tuple #[.int .i64 (lenS n:Nat),.int .i64 (lenB n:Nat),.int .i64 (lenX n:Nat),.int .i64 (lenE n:Nat)]) /\ Below w.heap.size w w':=by
 unfold lenS lenB lenX lenE
 by_cases h:3 <= n /\ n <= 258
 ·obtain ⟨m,rfl⟩:=Int.eq_ofNat_of_zero_le (by omega:0 <= n)
  simp only [if_pos h,Int.toNat_natCast]
  exact Zof m w (by omega) (by omega)
 ·simp only [if_neg h]
  exact (Zih n w (by omega)).mono fun e w' ⟨h1,h2⟩=>⟨h1,h2 ▸ Below.refl _ _⟩
theorem Zbn (n:Int) (w:World) :
  Calls Tryz.prog 44 #[.int .i64 n] w fun e w'=>e = .returned (.tuple #[.int .i64 (dstS n:Nat),.int .i64 (dstB n:Nat),.int .i64 (dstX n:Nat),.int .i64 (dstE n:Nat)]) /\ Below w.heap.size w w':=by
 unfold dstS dstB dstX dstE
 by_cases h:1 <= n /\ n <= 32768
 ·obtain ⟨m,rfl⟩:=Int.eq_ofNat_of_zero_le (by omega:0 <= n)
  simp only [if_pos h,Int.toNat_natCast]
  exact Zis m w (by omega) (by omega)
 ·simp only [if_neg h]
  exact (Zfy n w (by omega)).mono fun e w' ⟨h1,h2⟩=>⟨h1,h2 ▸ Below.refl _ _⟩
def useRow (l:List Tok) (i:Nat):Array Value :=
 let r:=(useU l).getD i endU
 #[.agg #[.bool r.far,.int .i64 (r.sym:Nat),.int .i64 (r.bits:Nat)],.int .i64 (r.err:Nat)]
def useP (l:List Tok) (k:Nat):Nat:=((l.take k).flatMap tokU).length
theorem Zbw {l:List Tok} {i:Nat} {r:URow} (h:(useU l)[i]? = some r):i < (useU l).length /\ useRow l i = #[.agg #[.bool r.far,.int .i64 (r.sym:Nat),.int .i64 (r.bits:Nat)],.int .i64 (r.err:Nat)]:=by
 refine ⟨(List.getElem?_eq_some_iff.1 h).1,?_⟩
 simp [useRow,List.getD,h]
theorem Zya (l:List Tok) (k:Nat) (hk:k < l.length):useP l (k + 1) = useP l k + (tokU l[k]).length:=by
 unfold useP
 rw [List.take_succ_eq_append_getElem hk,List.flatMap_append,List.length_append]
 simp
theorem Zaej (l:List Tok) (k:Nat) (hk:k < l.length) (h:∀ t ∈ l.take k,tokOk t) (j:Nat) (hj:j < (tokU l[k]).length):(useU l)[useP l k + j]? = (tokU l[k])[j]?:=by
 rw [Zyb l k hk h]
 unfold useP
 rw [List.getElem?_append_right (by omega),Nat.add_sub_cancel_left]
 split
 ·rw [List.getElem?_append_left hj]
 ·rfl
theorem Zabn (l:List Tok) (k:Nat) (hk:k < l.length) (h:∀ t ∈ l.take k,tokOk t) (hb:¬ tokOk l[k]):(useU l).length = useP l k + (tokU l[k]).length:=by
 rw [Zyb l k hk h,if_neg hb,List.length_append];rfl
theorem Zaei (l:List Tok) (h:∀ t ∈ l,tokOk t):(useU l)[useP l l.length]? = some endU /\ (useU l).length = useP l l.length + 1:=by
 rw [Zfz l h]
 unfold useP
 rw [List.take_length]
 refine ⟨?_,by simp⟩
 rw [List.getElem?_append_right (Nat.le_refl _),Nat.sub_self];rfl
theorem Zxx {l:List Tok} {k:Nat} (hk:k < l.length) (h:∀ t ∈ l.take k,tokOk t) (h2:tokOk l[k]):∀ t ∈ l.take (k + 1),tokOk t:=by
 rw [List.take_succ_eq_append_getElem hk]
 intro t ht
 rcases List.mem_append.1 ht with ht | ht
 ·exact h t ht
 ·simp at ht;exact ht ▸ h2
theorem Zabk {t:Tok} (h:t.len = 0) (h1:t.dist = 0):tokOk t /\ tokU t = [⟨false,t.byte,0,0⟩]:=by
 refine ⟨by unfold tokOk;rw [if_pos h];exact h1,?_⟩
 unfold tokU;rw [if_pos h,if_pos h1]
theorem Zpx {t:Tok} (h:t.len = 0) (h1:t.dist ≠ 0):¬ tokOk t /\ tokU t = [⟨false,t.byte,0,5⟩]:=by
 refine ⟨by unfold tokOk;rw [if_pos h];exact h1,?_⟩
 unfold tokU;rw [if_pos h,if_neg h1]
theorem Zabj {t:Tok} (h:t.len ≠ 0) (h1:tokOk t):tokU t = [⟨false,lenS t.len,lenB t.len,0⟩,⟨true,dstS t.dist,dstB t.dist,0⟩] /\ lenE t.len = 0 /\ dstE t.dist = 0 /\ mayN t = 0:=by
 have h2:=h1
 unfold tokOk at h2
 rw [if_neg h] at h2
 unfold tokU lenS lenB dstS dstB lenE dstE mayN
 rw [if_neg h,if_pos h1,if_pos ⟨h2.2.1,h2.2.2.1⟩,if_pos ⟨h2.2.1,h2.2.2.1⟩,if_pos h2.2.2.2,if_pos h2.2.2.2,if_pos ⟨h2.2.1,h2.2.2.1⟩,if_pos h2.2.2.2,if_neg (by simp [h,h2.1])]
 exact ⟨rfl,rfl,rfl,rfl⟩
theorem Zpw {t:Tok} (h:t.len ≠ 0) (h1:¬ tokOk t):tokU t = [⟨false,lenS t.len,lenB t.len,5⟩] /\ max (max (lenE t.len) (dstE t.dist)) (mayN t) = 5:=by
 have h2:=h1
 unfold tokOk at h2
 rw [if_neg h] at h2
 unfold tokU lenS lenB
 rw [if_neg h,if_neg h1]
 refine ⟨rfl,?_⟩
 unfold lenE dstE mayN
 by_cases a:3 <= t.len /\ t.len <= 258
 ·by_cases b:1 <= t.dist /\ t.dist <= 32768
  ·have hb:t.byte ≠ 0:=fun hb=>h2 ⟨hb,a.1,a.2,b.1,b.2⟩
   rw [if_pos a,if_pos b,if_pos (.inr ⟨h,hb⟩)];rfl
  ·rw [if_neg b];split <;> split <;> rfl
 ·rw [if_neg a];split <;> split <;> rfl
theorem box3 {wr w1:World} {x y z:Value} {t:TypeId} (h:Below (wr.alloc (.cells #[x,y,z] t)).heap.size (wr.alloc (.cells #[x,y,z] t)) w1):w1.heap[wr.heap.size]? = some (.cells #[x,y,z] t) :=
 (h.block _ (by simp)).trans (World.alloc_heap_new _ _)
theorem cells3 {w:World} {b:Nat} {x y z:Value} {t:TypeId} (h:w.heap[b]? = some (.cells #[x,y,z] t)):w.cell? ⟨b,0,none⟩ = some x /\ w.cell? ⟨b,1,none⟩ = some y /\ w.cell? ⟨b,2,none⟩ = some z:=by
 simp [World.cell?,h]
def useS (a:Option Addr) (B:Nat) (l:List Tok) (b:Nat):Prop:=b = B \/ (0 < l.length /\ ∃ x,a = some x /\ b = x.block)
set_option maxRecDepth 100000 in
set_option maxHeartbeats 3200000 in
theorem Zik (a:Option Addr) (cap:Nat) (l:List Tok) (w:World) (B:Nat) (hl:l.length <= 100000) (hby:∀ t ∈ l,t.byte < 256) (hr:RowS encT w a cap l) (hB:w.heap[B]? = some (.cells #[.slice a l.length cap] 22 (0,0))) :
  Yields Tryz.prog 108 #[.pointer (some ⟨B,0,none⟩)] (useU l).length (useRow l) (useS a B l) (fun _=>False) w:=by
 intro y J Jx W hsame hJ hJx hY h0
 have HY:=Zh hY
 have HJ:=Zh hJ
 have hbox:W.cell? ⟨B,0,none⟩ = some (.slice a l.length cap):=cell_of_one ((hsame.same B (.inl rfl)).trans hB)
 have HBY:=Zh hby
 clear hJ hJx hY hby
 refine callsIn_of_wp Tryz.func108 rfl trivial ?_ rfl
 simp only [Tryz.ntmps108,List.size_toArray,List.length_cons,List.length_nil,Nat.reduceAdd,Nat.reduceSub,Array.replicate_succ,Array.replicate_zero,List.push_toArray,List.append_toArray,List.nil_append,List.cons_append]
 gi_wp2
 gi_loopw [4,5,6,7,8,9,10,11,12,13,16] (fun _ _ _ _ _ _ _ _ _ _ i A=>∃ k:Nat,k <= l.length /\ i = .int .i64 k /\ (∀ t ∈ l.take k,tokOk t) /\ SameOn (useS a B l) w A /\ J (useP l k) A) (fun _ _ _ _ _ _ _ _ _ _ i _=>l.length - (intOf i).toNat)
 case atStart=>exact ⟨0,by omega,rfl,by simp,hsame,by simpa [useP] using h0⟩
 case round =>
  clear hsame hbox h0
  obtain ⟨k,hk,rfl,hok,hsameA,hJA⟩:=hrel
  have HO:=Zh hok
  have HA:=Zh hJA
  clear hok hJA
  by_cases hlt:k < l.length
  ·have hrA:=hr.same hsameA.size (fun x h0 hx=>hsameA.same _ (.inr ⟨h0,x,hx,rfl⟩))
   obtain ⟨b,off,rfl,hb,hcl⟩:=hrA.at hlt
   have c0:=hcl 0 _ rfl
   have c1:=hcl 1 _ rfl
   have c2:=hcl 2 _ rfl
   have G:=Zh (fun j (hj:j < (tokU l[k]).length)=>Zaej l k hlt HO.out j hj)
   have GL:=Zh (fun hb=>Zabn l k hlt HO.out hb)
   have GS:=Zh (Zya l k hlt)
   have GT:=Zh (fun h2=>Zxx hlt HO.out h2)
   have hbt:=HBY.out _ (List.getElem_mem hlt)
   clear hrA hcl
   generalize l[k] = t at *
   obtain ⟨L,D,bt⟩:=t
   simp only [encT,Nat.add_zero] at c0 c1 c2 hbt
   rw [<- Nat.add_assoc] at c1 c2
   have HS:Hid (∀ x,useS (some ⟨b,off,none⟩) B l x -> x < wr.heap.size /\ ¬ False):=by
    rintro x (rfl | ⟨h0,x',hx',rfl⟩)
    ·exact ⟨Nat.lt_of_lt_of_le (Array.getElem?_eq_some_iff.1 hB).1 hsameA.size,id⟩
    ·cases hx';exact ⟨hb,id⟩
   by_cases h0:L = 0
   ·by_cases h1:D = 0
    ·obtain ⟨t1,t2⟩:=Zabk (t:=⟨L,D,bt⟩) h0 h1
     obtain ⟨hi,hrow⟩:=Zbw ((G.out 0 (by rw [t2];simp)).trans (by rw [t2];rfl))
     have b0:(L == 0) = true:=by simp [h0]
     have hm:mayN ⟨0,0,bt⟩ = 0:=by simp [mayN]
     subst h0 h1
     have T2:=Zh t2
     have T1:=Zh t1
     have HM:=Zh hm
     have HROW:=Zh hrow
     clear t1 t2 hm hrow
     gi_wp2
     refine ⟨trivial,?_⟩
     gi_at_call 109
     refine (callsIn_wide.2 (Zgq ⟨0,0,bt⟩ _)).mono ?_
     rintro e w1 ⟨rfl,hb1⟩
     rw [HM.out]
     obtain ⟨q0,q1,q2⟩:=cells3 (box3 hb1)
     have hO:Only (fun _=>False) wr w1:=((Only.refl _ _).alloc _).below hb1
     have hJ1:=HJ.out _ _ _ HA.out hO
     obtain ⟨fn,tmps,assign,body,hy,hR⟩:=HY.out _ _ hi hJ1
     rw [HROW.out] at hy
     simp only [Int.cast_ofNat_Int] at hy
     have HR:=Zh hR
     have HK:=Zh (hO.sameOn (S:=useS (some ⟨b,off,none⟩) B l) HS.out)
     clear hR hJ1 hO hb1
     gi_wp2
     refine (Zba HR.out).mono ?_
     rintro e W' (⟨rfl,hJ',hk'⟩ | ⟨rfl,hJx'⟩)
     ·gi_wp2
      go_roundw
      case rel=>exact ⟨k + 1,by omega,by go_num,GT.out T1.out,(hsameA.trans HK.out).trans hk',by rw [GS.out,T2.out];exact hJ'⟩
      case measure=>simp [intOf];omega
     ·gi_wp2
      refine bodyPost_ret (results_none rfl _ _ _) rfl ?_
      exact ⟨⟨_,rfl⟩,.inr ⟨_,hi,hJx'⟩⟩
    ·have b1:(D == 0) = false:=by simp [h1]
     obtain ⟨t1,t2⟩:=Zpx (t:=⟨L,D,bt⟩) h0 h1
     obtain ⟨hi,hrow⟩:=Zbw ((G.out 0 (by rw [t2];simp)).trans (by rw [t2];rfl))
     have b0:(L == 0) = true:=by simp [h0]
     have hm:mayN ⟨0,D,bt⟩ = 5:=by simp [mayN,h1]
     subst h0
     have T2:=Zh t2
     have T1:=Zh t1
     have HM:=Zh hm
     have HROW:=Zh hrow
     clear t1 t2 hm hrow
     gi_wp2
     refine ⟨trivial,?_⟩
     gi_at_call 109
     refine (callsIn_wide.2 (Zgq ⟨0,D,bt⟩ _)).mono ?_
     rintro e w1 ⟨rfl,hb1⟩
     rw [HM.out]
     obtain ⟨q0,q1,q2⟩:=cells3 (box3 hb1)
     have hO:Only (fun _=>False) wr w1:=((Only.refl _ _).alloc _).below hb1
     have hJ1:=HJ.out _ _ _ HA.out hO
     obtain ⟨fn,tmps,assign,body,hy,hR⟩:=HY.out _ _ hi hJ1
     rw [HROW.out] at hy
     simp only [Int.cast_ofNat_Int] at hy
     have HR:=Zh hR
     have HK:=Zh (hO.sameOn (S:=useS (some ⟨b,off,none⟩) B l) HS.out)
     clear hR hJ1 hO hb1
     gi_wp2
     refine (Zba HR.out).mono ?_
     rintro e W' (⟨rfl,hJ',hk'⟩ | ⟨rfl,hJx'⟩)
     ·gi_wp2
      refine bodyPost_ret (results_none rfl _ _ _) rfl ?_
      exact ⟨⟨_,rfl⟩,.inl (by rw [GL.out T1.out,T2.out];exact hJ')⟩
     ·gi_wp2
      refine bodyPost_ret (results_none rfl _ _ _) rfl ?_
      exact ⟨⟨_,rfl⟩,.inr ⟨_,hi,hJx'⟩⟩
   ·have b0:(L == 0) = false:=by simp [h0]
    by_cases hok:tokOk ⟨L,D,bt⟩
    ·obtain ⟨t2,tl,td,hm⟩:=Zabj (t:=⟨L,D,bt⟩) h0 hok
     obtain ⟨hi,hrow⟩:=Zbw ((G.out 0 (by rw [t2];simp)).trans (by rw [t2];rfl))
     obtain ⟨hi2,hrow2⟩:=Zbw ((G.out 1 (by rw [t2];simp)).trans (by rw [t2];rfl))
     have T2:=Zh t2
     have T1:=Zh hok
     have HM:=Zh hm
     have HL:=Zh tl
     have HD:=Zh td
     have HROW:=Zh hrow
     have HROW2:=Zh hrow2
     clear t2 tl td hm hrow hrow2 h0 hok
     gi_wp2
     refine ⟨trivial,?_⟩
     gi_at_call 43
     refine (callsIn_wide.2 (Zbx L _)).mono ?_
     rintro e w1 ⟨rfl,hb1⟩
     have q1:=box3 hb1
     obtain ⟨_,p1,_⟩:=cells3 q1
     have hO1:Only (fun _=>False) wr w1:=((Only.refl _ _).alloc _).below hb1
     have hw1:wr.heap.size < w1.heap.size:=(Array.getElem?_eq_some_iff.1 q1).1
     have Q1:=Zh q1
     have HO1:=Zh hO1
     clear hb1 q1 hO1
     rw [HL.out]
     gi_wp2
     refine ⟨trivial,?_⟩
     gi_at_call 44
     refine (callsIn_wide.2 (Zbn D _)).mono ?_
     rintro e w2 ⟨rfl,hb2⟩
     have q2:=(hb2.block _ hw1).trans Q1.out
     obtain ⟨p20,p21,p22⟩:=cells3 q2
     have hO2:Only (fun _=>False) wr w2:=HO1.out.below hb2
     have hw2:wr.heap.size < w2.heap.size:=(Array.getElem?_eq_some_iff.1 q2).1
     have HO2:=Zh hO2
     clear hb2 q2 hO2 HO1 Q1 p1
     rw [HD.out]
     gi_wp2
     refine ⟨trivial,?_⟩
     gi_at_call 109
     refine (callsIn_wide.2 (Zgq ⟨L,D,bt⟩ _)).mono ?_
     rintro e w3 ⟨rfl,hb3⟩
     have hO:=HO2.out.below hb3
     have hJ1:=HJ.out _ _ _ HA.out hO
     have HK:=Zh (hO.sameOn (S:=useS (some ⟨b,off,none⟩) B l) HS.out)
     clear hO hb3 p20 p21 p22 HO2
     rw [HM.out]
     obtain ⟨fn,tmps,assign,body,hy,hR⟩:=HY.out _ _ hi hJ1
     rw [HROW.out] at hy
     simp only [Int.cast_ofNat_Int] at hy
     have HR:=Zh hR
     have HI2:=Zh hi2
     have HI:=Zh hi
     clear hR hJ1 hi hi2
     gi_wp2
     refine (Zba HR.out).mono ?_
     rintro e W' (⟨rfl,hJ',hk'⟩ | ⟨rfl,hJx'⟩)
     ·obtain ⟨fn2,tmps2,assign2,body2,hy2,hR2⟩:=HY.out _ _ HI2.out hJ'
      rw [HROW2.out] at hy2
      simp only [Int.cast_ofNat_Int] at hy2
      have HR2:=Zh hR2
      have HK2:=Zh hk'
      clear hR2 hJ' hy HR hk'
      gi_wp2
      refine (Zba HR2.out).mono ?_
      rintro e W2 (⟨rfl,hJ2,hk2⟩ | ⟨rfl,hJx2⟩)
      ·gi_wp2
       go_roundw
       case rel=>exact ⟨k + 1,by omega,by go_num,GT.out T1.out,((hsameA.trans HK.out).trans HK2.out).trans hk2,by rw [GS.out,T2.out];exact hJ2⟩
       case measure=>simp [intOf];omega
      ·gi_wp2
       refine bodyPost_ret (results_none rfl _ _ _) rfl ?_
       exact ⟨⟨_,rfl⟩,.inr ⟨_,HI2.out,hJx2⟩⟩
     ·gi_wp2
      refine ⟨fun _ h=>(by cases h),?_⟩
      gi_wp2
      refine bodyPost_ret (results_none rfl _ _ _) rfl ?_
      exact ⟨⟨_,rfl⟩,.inr ⟨_,HI.out,hJx'⟩⟩
    ·obtain ⟨t2,tm⟩:=Zpw (t:=⟨L,D,bt⟩) h0 hok
     obtain ⟨hi,hrow⟩:=Zbw ((G.out 0 (by rw [t2];simp)).trans (by rw [t2];rfl))
     have T2:=Zh t2
     have T1:=Zh hok
     have HROW:=Zh hrow
     clear t2 hrow h0
     have hx:lenE L = 0 \/ lenE L = 5:=by unfold lenE;split <;> simp
     have hy:dstE D = 0 \/ dstE D = 5:=by unfold dstE;split <;> simp
     have hz:mayN ⟨L,D,bt⟩ = 0 \/ mayN ⟨L,D,bt⟩ = 5:=by unfold mayN;split <;> simp
     rcases hx with hx | hx <;> rcases hy with hy | hy <;> rcases hz with hz | hz <;> rw [hx,hy,hz] at tm <;> first | (exact absurd tm (by decide)) | skip
     all_goals
      have HL:=Zh hx
      have HD:=Zh hy
      have HM:=Zh hz
      clear hx hy hz tm hok
      gi_wp2
      refine ⟨trivial,?_⟩
      gi_at_call 43
      refine (callsIn_wide.2 (Zbx L _)).mono ?_
      rintro e w1 ⟨rfl,hb1⟩
      have q1:=box3 hb1
      obtain ⟨_,p1,_⟩:=cells3 q1
      have hO1:Only (fun _=>False) wr w1:=((Only.refl _ _).alloc _).below hb1
      have hw1:wr.heap.size < w1.heap.size:=(Array.getElem?_eq_some_iff.1 q1).1
      have Q1:=Zh q1
      have HO1:=Zh hO1
      clear hb1 q1 hO1
      rw [HL.out]
      gi_wp2
      refine ⟨trivial,?_⟩
      gi_at_call 44
      refine (callsIn_wide.2 (Zbn D _)).mono ?_
      rintro e w2 ⟨rfl,hb2⟩
      have q2:=(hb2.block _ hw1).trans Q1.out
      obtain ⟨p20,p21,p22⟩:=cells3 q2
      have hO2:Only (fun _=>False) wr w2:=HO1.out.below hb2
      have hw2:wr.heap.size < w2.heap.size:=(Array.getElem?_eq_some_iff.1 q2).1
      have HO2:=Zh hO2
      clear hb2 q2 hO2 HO1 Q1 p1
      rw [HD.out]
      gi_wp2
      refine ⟨trivial,?_⟩
      gi_at_call 109
      refine (callsIn_wide.2 (Zgq ⟨L,D,bt⟩ _)).mono ?_
      rintro e w3 ⟨rfl,hb3⟩
      have hO:=HO2.out.below hb3
      have hJ1:=HJ.out _ _ _ HA.out hO
      have HK:=Zh (hO.sameOn (S:=useS (some ⟨b,off,none⟩) B l) HS.out)
      clear hO hb3 p20 p21 p22 HO2
      rw [HM.out]
      obtain ⟨fn,tmps,assign,body,hy,hR⟩:=HY.out _ _ hi hJ1
      rw [HROW.out] at hy
      simp only [Int.cast_ofNat_Int] at hy
      have HR:=Zh hR
      have HI:=Zh hi
      clear hR hJ1 hi
      gi_wp2
      refine (Zba HR.out).mono ?_
      rintro e W' (⟨rfl,hJ',hk'⟩ | ⟨rfl,hJx'⟩)
      ·gi_wp2
       refine ⟨fun _ h=>(by cases h),?_⟩
       gi_wp2
       refine bodyPost_ret (results_none rfl _ _ _) rfl ?_
       exact ⟨⟨_,rfl⟩,.inl (by rw [GL.out T1.out,T2.out];exact hJ')⟩
      ·gi_wp2
       refine ⟨fun _ h=>(by cases h),?_⟩
       gi_wp2
       refine bodyPost_ret (results_none rfl _ _ _) rfl ?_
       exact ⟨⟨_,rfl⟩,.inr ⟨_,HI.out,hJx'⟩⟩
  ·obtain rfl:k = l.length:=by omega
   have hall:∀ t ∈ l,tokOk t:=by have:=HO.out;rwa [List.take_length] at this
   obtain ⟨g1,g2⟩:=Zaei l hall
   obtain ⟨hi,hrow⟩:=Zbw g1
   obtain ⟨fn,tmps,assign,body,hy,hR⟩:=HY.out _ _ hi HA.out
   rw [hrow] at hy
   simp only [endU,Int.cast_ofNat_Int] at hy
   have HR:=Zh hR
   have HI:=Zh hi
   have HG:=Zh g2
   clear hR hi hrow g1 g2 hall
   gi_wp2
   refine (Zba HR.out).mono ?_
   rintro e W' (⟨rfl,hJ',hk'⟩ | ⟨rfl,hJx'⟩)
   ·gi_wp2
    go_end0
    exact ⟨⟨_,rfl⟩,.inl (by rw [HG.out];exact hJ')⟩
   ·gi_wp2
    go_end0
    exact ⟨⟨_,rfl⟩,.inr ⟨_,HI.out,hJx'⟩⟩
end Go.Proofs.YtendielanacflaaGreat

namespace Go.Proofs.YtendielanacflaaGreat
open Go.RowKit Go.Shelf M01 M04 M06 M08 M17
def layTok (l1 l2:List Nat) (st:Wst) (t:Tok):Wst :=
 if t.len = 0 then addSymE l1 st t.byte else addNum (addSymE l2 (addNum (addSymE l1 st (lenS t.len)) (lenX t.len) (lenB t.len)) (dstS t.dist)) (dstX t.dist) (dstB t.dist)
def layTo (l1 l2:List Nat) (st:Wst) (l:List Tok):Wst:=l.foldl (layTok l1 l2) st
theorem Zvs (n:Int):lenX n < 2 ^ lenB n /\ lenB n <= 5:=by
 unfold lenX lenB
 by_cases h:3 <= n /\ n <= 258
 ·simp only [if_pos h]
  obtain ⟨m,rfl⟩:=Int.eq_ofNat_of_zero_le (by omega:0 <= n)
  have hall:∀ m:Fin 259,3 <= m.val -> m.val - lensL.getD (lk m.val) 0 < 2 ^ lbits (257 + lk m.val) /\ lbits (257 + lk m.val) <= 5:=by decide +kernel
  exact hall ⟨m,by omega⟩ (by show 3 <= m;omega)
 ·simp only [if_neg h];decide
theorem Zuy (n:Int):dstX n < 2 ^ dstB n /\ dstB n <= 13:=by
 unfold dstX dstB
 by_cases h:1 <= n /\ n <= 32768
 ·simp only [if_pos h]
  obtain ⟨m,rfl⟩:=Int.eq_ofNat_of_zero_le (by omega:0 <= n)
  simp only [Int.toNat_natCast]
  obtain ⟨s1,s2⟩:=Zdd Zop m (by decide) (show distL.getD 0 0 <= m from by show 1 <= m;omega)
  have hk:dk m < 30:=Zux m
  rw [show lastLe distL m = dk m from rfl] at s1 s2
  generalize dk m = k at *
  have hall:∀ k:Fin 30,(k.val + 1 < 30 -> distL.getD (k.val + 1) 0 <= distL.getD k.val 0 + 2 ^ dbits k.val) /\ (k.val = 29 -> 32768 < distL.getD k.val 0 + 2 ^ dbits k.val) /\ dbits k.val <= 13:=by decide
  obtain ⟨g1,g2,g3⟩:=hall ⟨k,hk⟩
  simp only at g1 g2 g3
  refine ⟨?_,g3⟩
  by_cases h29:k = 29
  ·have:=g2 h29
   omega
  ·have:=g1 (by omega)
   have:=s2 (by show k + 1 < 30;omega)
   omega
 ·simp only [if_neg h];decide
theorem Zsq {l1 l2:List Nat} (h1:∀ x ∈ l1,x <= 20) (h2:∀ x ∈ l2,x <= 20) (st:Wst) (t:Tok):(layTok l1 l2 st t).2 <= st.2 + 58:=by
 unfold layTok
 split
 ·have:=Zcg h1 st t.byte;omega
 ·rw [Zac]
  have:=Zcg h2 (addNum (addSymE l1 st (lenS t.len)) (lenX t.len) (lenB t.len)) (dstS t.dist)
  rw [Zac] at this
  have:=Zcg h1 st (lenS t.len)
  have:=(Zvs t.len).2
  have:=(Zuy t.dist).2
  omega
theorem Zsp (l1 l2:List Nat) (st:Wst) (l:List Tok) (k:Nat) (hk:k < l.length):layTo l1 l2 st (l.take (k + 1)) = layTok l1 l2 (layTo l1 l2 st (l.take k)) l[k]:=by
 unfold layTo
 rw [List.take_succ_eq_append_getElem hk,List.foldl_append]
 rfl
theorem Zvp {l1 l2:List Nat} (h1:∀ x ∈ l1,x <= 20) (h2:∀ x ∈ l2,x <= 20) (l:List Tok):∀ st,(layTo l1 l2 st l).2 <= st.2 + 58 * l.length:=by
 induction l with
 | nil=>intro st;simp [layTo]
 | cons t l ih =>
  intro st
  have:=ih (layTok l1 l2 st t)
  have:=Zsq h1 h2 st t
  simp only [layTo,List.foldl_cons,List.length_cons] at *
  omega
end Go.Proofs.YtendielanacflaaGreat

namespace Go.Proofs.YtendielanacflaaGreat.M05
def ltF (f:List Nat) (a b:Nat):Bool:=decide (f.getD a 0 < f.getD b 0) || (decide (f.getD a 0 = f.getD b 0) && decide (a < b))
def insF (f:List Nat) (x:Nat):List Nat -> List Nat
 | []=>[x]
 | y :: l=>if ltF f x y then x :: y :: l else y :: insF f x l
def used (f:List Nat):List Nat:=(List.range f.length).filter fun s=>decide (0 < f.getD s 0)
def rar (f:List Nat):List Nat:=(used f).foldr (insF f) []
abbrev Item:=Nat × Nat
def nextF:Nat -> List Nat -> List Nat -> List Item
 | 0,_,_=>[]
 | f + 1,s :: sy,a :: b :: t=>if s <= a + b then (s,1) :: nextF f sy (a :: b :: t) else (a + b,0) :: nextF f (s :: sy) t
 | f + 1,s :: sy,l=>(s,1) :: nextF f sy l
 | f + 1,[],a :: b :: t=>(a + b,0) :: nextF f [] t
 | _ + 1,[],_=>[]
def nextR (sy last:List Nat):List Item:=nextF (sy.length + last.length + 1) sy last
def wts (r:List Item):List Nat:=r.map fun x=>x.1
def symN (r:List Item) (t:Nat):Nat:=((r.take t).map fun x=>x.2).sum
def rowS (sy:List Nat):Nat -> List Item
 | 0=>nextR sy []
 | i + 1=>nextR sy (wts (rowS sy i))
def tkn (sy:List Nat) (lim:Nat):Nat -> Nat
 | 0=>2 * sy.length - 2
 | i + 1=>2 * (tkn sy lim i - symN (rowS sy (lim - 1 - i)) (tkn sy lim i))
def cnt (sy:List Nat) (lim i:Nat):Nat:=symN (rowS sy (lim - 1 - i)) (tkn sy lim i)
def lenJ (sy:List Nat) (lim j:Nat):Nat:=((List.range lim).filter fun i=>decide (j < cnt sy lim i)).length
theorem Zcw:∀ (f g:Nat) (sy last:List Nat),sy.length + last.length + 1 <= f -> sy.length + last.length + 1 <= g -> nextF f sy last = nextF g sy last:=by
 intro f
 induction f with
 | zero=>intro g sy last h;omega
 | succ f ih =>
  intro g sy last h1 h2
  obtain ⟨g,rfl⟩:∃ k,g = k + 1:=⟨g - 1,by omega⟩
  match sy,last with
  | s :: sy,a :: b :: t =>
   simp only [List.length_cons] at h1 h2
   simp only [nextF]
   rw [ih g sy (a :: b :: t) (by simp;omega) (by simp;omega),ih g (s :: sy) t (by simp;omega) (by simp;omega)]
  | s :: sy,[a] =>
   simp only [List.length_cons,List.length_nil] at h1 h2
   simp only [nextF]
   rw [ih g sy [a] (by simp;omega) (by simp;omega)]
  | s :: sy,[] =>
   simp only [List.length_cons,List.length_nil] at h1 h2
   simp only [nextF]
   rw [ih g sy [] (by simp;omega) (by simp;omega)]
  | [],a :: b :: t =>
   simp only [List.length_cons,List.length_nil] at h1 h2
   simp only [nextF]
   rw [ih g [] t (by simp;omega) (by simp;omega)]
  | [],[a]=>simp [nextF]
  | [],[]=>simp [nextF]
theorem Znc (s a b:Nat) (sy t:List Nat):nextR (s :: sy) (a :: b :: t) = if s <= a + b then (s,1) :: nextR sy (a :: b :: t) else (a + b,0) :: nextR (s :: sy) t:=by
 unfold nextR
 rw [nextF]
 rw [Zcw _ (sy.length + (a :: b :: t).length + 1) sy (a :: b :: t) (by simp;omega) (by omega),Zcw _ ((s :: sy).length + t.length + 1) (s :: sy) t (by simp;omega) (by omega)]
theorem Zer (s:Nat) (sy l:List Nat) (hl:l.length < 2):nextR (s :: sy) l = (s,1) :: nextR sy l:=by
 unfold nextR
 match l,hl with
 | [a],_=>rw [nextF];rw [Zcw _ (sy.length + [a].length + 1) sy [a] (by simp) (by omega)];intro a' b' t h;cases h
 | [],_=>rw [nextF];rw [Zcw _ (sy.length + ([]:List Nat).length + 1) sy [] (by simp) (by omega)];intro a' b' t h;cases h
theorem Znb (a b:Nat) (t:List Nat):nextR [] (a :: b :: t) = (a + b,0) :: nextR [] t:=by
 unfold nextR
 rw [nextF]
 rw [Zcw _ (([]:List Nat).length + t.length + 1) [] t (by simp) (by omega)]
theorem Zhp (l:List Nat) (hl:l.length < 2):nextR [] l = []:=by
 unfold nextR
 match l,hl with
 | [a],_=>rfl
 | [],_=>rfl
theorem Zvy:∀ (n:Nat) (sy last:List Nat),sy.length + last.length <= n -> (nextR sy last).length = sy.length + last.length / 2:=by
 intro n
 induction n with
 | zero =>
  intro sy last h
  have h1:sy = []:=List.eq_nil_of_length_eq_zero (by omega)
  have h2:last = []:=List.eq_nil_of_length_eq_zero (by omega)
  subst h1 h2;rfl
 | succ n ih =>
  intro sy last h
  match sy,last with
  | s :: sy,a :: b :: t =>
   simp only [List.length_cons] at h
   rw [Znc]
   split
   ·rw [List.length_cons,ih _ _ (by simp;omega)];simp;omega
   ·rw [List.length_cons,ih _ _ (by simp;omega)];simp;omega
  | s :: sy,[a]=>rw [Zer _ _ _ (by simp),List.length_cons,ih _ _ (by simp at h ⊢;omega)];simp
  | s :: sy,[]=>rw [Zer _ _ _ (by simp),List.length_cons,ih _ _ (by simp at h ⊢;omega)];simp
  | [],a :: b :: t =>
   simp only [List.length_cons,List.length_nil] at h
   rw [Znb,List.length_cons,ih _ _ (by simp;omega)];simp;omega
  | [],[a]=>rw [Zhp _ (by simp)];simp
  | [],[]=>rfl
theorem Zcn (sy last:List Nat):(nextR sy last).length = sy.length + last.length / 2:=Zvy _ sy last (Nat.le_refl _)
theorem Zbv (r:List Item) (t:Nat) (h:t < r.length):symN r (t + 1) = symN r t + r[t].2:=by
 unfold symN
 rw [List.take_succ_eq_append_getElem h,List.map_append,List.sum_append]
 simp
theorem Zxs (x:Item) (r:List Item) (t:Nat):symN (x :: r) (t + 1) = x.2 + symN r t:=by simp [symN]
theorem Zfd (r:List Item):symN r 0 = 0:=by simp [symN]
def isSym (r:List Item):Prop:=∀ x ∈ r,x.2 <= 1
theorem Zaed (r:List Item) (h:isSym r) (t:Nat):symN r t <= t:=by
 induction t generalizing r with
 | zero=>simp [symN]
 | succ t ih =>
  cases r with
  | nil=>simp [symN]
  | cons x r =>
   rw [Zxs]
   have:=h x (by simp)
   have:=ih r (fun y hy=>h y (by simp [hy]))
   omega
def pkg (last:List Nat) (p:Nat):Nat:=last.getD (2 * p) 0 + last.getD (2 * p + 1) 0
theorem Zms (sy last:List Nat) (x:Item) (r:List Item) (h:nextR sy last = x :: r) :
  (x = (sy.getD 0 0,1) /\ 0 < sy.length /\ r = nextR (sy.drop 1) last /\ (2 <= last.length -> sy.getD 0 0 <= pkg last 0)) ∨
  (x = (pkg last 0,0) /\ 2 <= last.length /\ r = nextR sy (last.drop 2) /\ (0 < sy.length -> pkg last 0 < sy.getD 0 0)):=by
 match sy,last with
 | s :: sy,a :: b :: t =>
  rw [Znc] at h
  split at h
  ·next hle =>
   simp only [List.cons.injEq] at h
   obtain ⟨rfl,rfl⟩:=h
   exact .inl ⟨rfl,by simp,rfl,fun _=>hle⟩
  ·next hle =>
   simp only [List.cons.injEq] at h
   obtain ⟨rfl,rfl⟩:=h
   exact .inr ⟨rfl,by simp,rfl,fun _=>by show a + b < s;omega⟩
 | s :: sy,[a] =>
  rw [Zer _ _ _ (by simp)] at h
  simp only [List.cons.injEq] at h
  obtain ⟨rfl,rfl⟩:=h
  exact .inl ⟨rfl,by simp,rfl,fun h=>by simp at h⟩
 | s :: sy,[] =>
  rw [Zer _ _ _ (by simp)] at h
  simp only [List.cons.injEq] at h
  obtain ⟨rfl,rfl⟩:=h
  exact .inl ⟨rfl,by simp,rfl,fun h=>by simp at h⟩
 | [],a :: b :: t =>
  rw [Znb] at h
  simp only [List.cons.injEq] at h
  obtain ⟨rfl,rfl⟩:=h
  exact .inr ⟨rfl,by simp,rfl,fun h=>by simp at h⟩
 | [],[a]=>rw [Zhp _ (by simp)] at h;cases h
 | [],[]=>rw [Zhp _ (by simp)] at h;cases h
theorem Zdo (l:List Nat) (i j:Nat):(l.drop i).getD j 0 = l.getD (i + j) 0:=by
 simp [List.getD_eq_getElem?_getD,List.getElem?_drop]
theorem Zlb (last:List Nat) (p q:Nat):pkg (last.drop (2 * p)) q = pkg last (p + q):=by
 unfold pkg
 rw [Zdo,Zdo,show 2 * p + 2 * q = 2 * (p + q) by omega,show 2 * p + (2 * q + 1) = 2 * (p + q) + 1 by omega]
theorem Zbc (sy last:List Nat):∀ t,t <= (nextR sy last).length →
  (nextR sy last).drop t = nextR (sy.drop (symN (nextR sy last) t)) (last.drop (2 * (t - symN (nextR sy last) t))) /\ symN (nextR sy last) t <= t /\ symN (nextR sy last) t <= sy.length /\ 2 * (t - symN (nextR sy last) t) <= last.length:=by
 intro t
 induction t with
 | zero=>intro _;simp [symN]
 | succ t ih =>
  intro ht
  obtain ⟨h1,h2,h3,h4⟩:=ih (by omega)
  rw [List.drop_eq_getElem_cons (by omega)] at h1
  rw [Zbv _ t (by omega)]
  generalize (nextR sy last)[t] = x at *
  generalize symN (nextR sy last) t = S at *
  rcases Zms _ _ _ _ h1.symm with ⟨rfl,h5,h6,_⟩ | ⟨rfl,h5,h6,_⟩
  ·simp only [List.length_drop] at h5
   rw [h6,List.drop_drop,show t + 1 - (S + 1) = t - S by omega]
   exact ⟨rfl,by omega,by omega,h4⟩
  ·simp only [List.length_drop] at h5
   rw [h6,List.drop_drop,Nat.add_zero,show 2 * (t - S) + 2 = 2 * (t + 1 - S) by omega]
   exact ⟨rfl,by omega,h3,by omega⟩
theorem Zcx (sy last:List Nat) (t:Nat) (ht:t < (nextR sy last).length) :
  ((nextR sy last)[t] = (sy.getD (symN (nextR sy last) t) 0,1) /\ symN (nextR sy last) t < sy.length /\ (2 * (t - symN (nextR sy last) t) + 2 <= last.length -> sy.getD (symN (nextR sy last) t) 0 <= pkg last (t - symN (nextR sy last) t))) ∨
  ((nextR sy last)[t] = (pkg last (t - symN (nextR sy last) t),0) /\ 2 * (t - symN (nextR sy last) t) + 2 <= last.length /\ (symN (nextR sy last) t < sy.length -> pkg last (t - symN (nextR sy last) t) < sy.getD (symN (nextR sy last) t) 0)):=by
 obtain ⟨h1,h2,h3,h4⟩:=Zbc sy last t (by omega)
 rw [List.drop_eq_getElem_cons ht] at h1
 generalize (nextR sy last)[t] = x at *
 generalize symN (nextR sy last) t = S at *
 rcases Zms _ _ _ _ h1.symm with ⟨rfl,h5,_,h6⟩ | ⟨rfl,h5,_,h6⟩
 ·left
  simp only [List.length_drop] at h5 h6
  rw [Zdo,Zlb] at h6
  rw [Zdo]
  exact ⟨rfl,by omega,fun h=>h6 (by omega)⟩
 ·right
  simp only [List.length_drop] at h5 h6
  rw [Zdo,Zlb] at h6
  rw [Zlb]
  exact ⟨rfl,by omega,fun h=>h6 (by omega)⟩
theorem Zeg (sy last:List Nat):isSym (nextR sy last):=by
 intro x hx
 obtain ⟨t,ht,rfl⟩:=List.getElem_of_mem hx
 rcases Zcx sy last t ht with ⟨h,_⟩ | ⟨h,_⟩ <;> rw [h] <;> simp
theorem Zro (sy last:List Nat):symN (nextR sy last) (nextR sy last).length = sy.length:=by
 obtain ⟨h1,h2,h3,h4⟩:=Zbc sy last _ (Nat.le_refl _)
 have hl:=Zcn sy last
 rw [List.drop_length] at h1
 have h5:=congrArg List.length h1
 rw [Zcn,List.length_drop,List.length_drop] at h5
 simp at h5
 omega
def Rises (l:List Nat):Prop:=∀ i j,i <= j -> j < l.length -> l.getD i 0 <= l.getD j 0
theorem Zoc (sy last:List Nat) (hs:Rises sy):∀ t,t <= (nextR sy last).length -> ∀ p,p < t - symN (nextR sy last) t -> ∀ j,j < sy.length -> sy.getD j 0 <= pkg last p -> j < symN (nextR sy last) t:=by
 intro t
 induction t with
 | zero=>intro _ p hp;omega
 | succ t ih =>
  intro ht p hp j hj hle
  have hst:=(Zbc sy last t (by omega)).2.1
  rw [Zbv _ t (by omega)] at hp ⊢
  rcases Zcx sy last t (by omega) with ⟨h1,h2,_⟩ | ⟨h1,h2,h3⟩
  ·rw [h1] at hp ⊢
   simp only at hp ⊢
   have:=ih (by omega) p (by omega) j hj hle
   omega
  ·rw [h1] at hp ⊢
   simp only at hp ⊢
   by_cases hpt:p < t - symN (nextR sy last) t
   ·exact ih (by omega) p hpt j hj hle
   ·obtain rfl:p = t - symN (nextR sy last) t:=by omega
    rcases Nat.lt_or_ge j (symN (nextR sy last) t) with h | h
    ·exact h
    ·have h4:=h3 (by omega)
     have:=hs _ _ h hj
     omega
theorem Zach (sy last:List Nat):∀ t,t <= (nextR sy last).length -> ∀ c,c < symN (nextR sy last) t -> ∃ q,q < t /\ (wts (nextR sy last)).getD q 0 = sy.getD c 0:=by
 intro t
 induction t with
 | zero=>intro _ c hc;rw [Zfd] at hc;omega
 | succ t ih =>
  intro ht c hc
  rw [Zbv _ t (by omega)] at hc
  by_cases h:c < symN (nextR sy last) t
  ·obtain ⟨q,hq,h2⟩:=ih (by omega) c h
   exact ⟨q,by omega,h2⟩
  ·rcases Zcx sy last t (by omega) with ⟨h1,h2,_⟩ | ⟨h1,h2,_⟩
   ·rw [h1] at hc
    simp only at hc
    obtain rfl:c = symN (nextR sy last) t:=by omega
    refine ⟨t,by omega,?_⟩
    unfold wts
    rw [List.getD_eq_getElem?_getD,List.getElem?_map,List.getElem?_eq_getElem (by omega),h1]
    rfl
   ·rw [h1] at hc
    simp only at hc
    omega
def lastOf (sy:List Nat):Nat -> List Nat
 | 0=>[]
 | k + 1=>wts (rowS sy k)
theorem Zau (sy:List Nat) (k:Nat):rowS sy k = nextR sy (lastOf sy k):=by cases k <;> rfl
theorem Zdx (sy:List Nat) (k:Nat):(rowS sy k).length = sy.length + (lastOf sy k).length / 2:=by rw [Zau,Zcn]
theorem Zdu (sy:List Nat) (k:Nat):(lastOf sy (k + 1)).length = (rowS sy k).length:=by simp [lastOf,wts]
theorem Zpm (sy:List Nat) (h:1 <= sy.length) (k:Nat):(rowS sy k).length <= 2 * sy.length - 1:=by
 induction k with
 | zero=>rw [Zdx];simp [lastOf];omega
 | succ k ih=>rw [Zdx,Zdu];omega
theorem Zadt (sy:List Nat) (k:Nat):2 * sy.length * 2 ^ k <= (rowS sy k).length * 2 ^ k + sy.length + 2 ^ k - 1:=by
 induction k with
 | zero=>rw [Zdx];simp [lastOf];omega
 | succ k ih =>
  rw [Zdx,Zdu]
  have hp:0 < 2 ^ k:=Nat.pos_of_ne_zero (by simp)
  generalize (rowS sy k).length = r at *
  generalize sy.length = m at *
  rw [Nat.pow_succ]
  have h2:r <= 2 * (r / 2) + 1:=by omega
  have h3:r * 2 ^ k <= 2 * (r / 2) * 2 ^ k + 2 ^ k:=by
   calc r * 2 ^ k <= (2 * (r / 2) + 1) * 2 ^ k:=Nat.mul_le_mul_right _ h2
    _ = _:=by rw [Nat.add_mul,Nat.one_mul]
  have h4:2 * m * (2 ^ k * 2) = 2 * m * 2 ^ k + 2 * m * 2 ^ k:=by rw [<- Nat.mul_assoc];omega
  have h5:(m + r / 2) * (2 ^ k * 2) = 2 * m * 2 ^ k + 2 * (r / 2) * 2 ^ k:=by
   rw [<- Nat.mul_assoc,Nat.add_mul,Nat.add_mul,Nat.mul_comm 2 m,Nat.mul_right_comm m 2,Nat.mul_comm 2 (r / 2),Nat.mul_right_comm (r / 2) 2]
  rw [h4,h5]
  generalize 2 * m * 2 ^ k = A at *
  generalize 2 * (r / 2) * 2 ^ k = B at *
  omega
theorem Zhz (sy:List Nat) (k:Nat) (h1:1 <= sy.length) (h:sy.length <= 2 ^ (k + 1)):2 * sy.length - 2 <= (rowS sy k).length:=by
 have h2:=Zadt sy k
 have hp:0 < 2 ^ k:=Nat.pos_of_ne_zero (by simp)
 rw [Nat.pow_succ] at h
 rcases Nat.lt_or_ge (rowS sy k).length (2 * sy.length - 2) with h3 | h3
 ·exfalso
  have h4:(rowS sy k).length + 3 <= 2 * sy.length:=by omega
  have h5:((rowS sy k).length + 3) * 2 ^ k <= 2 * sy.length * 2 ^ k:=Nat.mul_le_mul_right _ h4
  rw [Nat.add_mul] at h5
  omega
 ·exact h3
theorem Ztz (sy:List Nat) (hs:Rises sy) (h2:2 <= sy.length):∀ k,symN (rowS sy k) (min (rowS sy k).length (2 * sy.length - 2)) = sy.length:=by
 intro k
 induction k with
 | zero =>
  have hl:(rowS sy 0).length = sy.length:=by rw [Zdx];simp [lastOf]
  rw [hl,Nat.min_eq_left (by omega)]
  have:=Zro sy []
  have hl2:(nextR sy []).length = sy.length:=hl
  rw [hl2] at this
  exact this
 | succ k ih =>
  have hle:=Zpm sy (by omega) (k + 1)
  have hall:=Zro sy (lastOf sy (k + 1))
  rw [<- Zau] at hall
  by_cases hc:(rowS sy (k + 1)).length <= 2 * sy.length - 2
  ·rw [Nat.min_eq_left hc,hall]
  ·have hl:(rowS sy (k + 1)).length = 2 * sy.length - 1:=by omega
   rw [Nat.min_eq_right (by omega)]
   have hlen:=Zdx sy (k + 1)
   rw [Zdu] at hlen
   have hk2:2 * sy.length - 2 <= (rowS sy k).length:=by omega
   rw [Nat.min_eq_right hk2] at ih
   have hst:=Zbc sy (lastOf sy (k + 1)) (2 * sy.length - 2) (by rw [<- Zau];omega)
   rw [<- Zau] at hst
   have hsucc:=Zbv (rowS sy (k + 1)) (2 * sy.length - 2) (by omega)
   rw [show 2 * sy.length - 2 + 1 = (rowS sy (k + 1)).length by omega,hall] at hsucc
   have hone:=Zeg sy (lastOf sy (k + 1))
   rw [<- Zau] at hone
   have h1:=hone _ (List.getElem_mem (show 2 * sy.length - 2 < (rowS sy (k + 1)).length by omega))
   by_cases hS:symN (rowS sy (k + 1)) (2 * sy.length - 2) = sy.length
   ·exact hS
   ·exfalso
    have hS1:symN (rowS sy (k + 1)) (2 * sy.length - 2) = sy.length - 1:=by omega
    -- the heaviest symbol lies in a package that came
    obtain ⟨q,hq,hqw⟩:=Zach sy (lastOf sy k) (2 * sy.length - 2) (by rw [<- Zau];exact hk2) (sy.length - 1) (by rw [<- Zau,ih];omega)
    rw [<- Zau] at hqw
    have hpk:sy.getD (sy.length - 1) 0 <= pkg (lastOf sy (k + 1)) (q / 2):=by
     rw [<- hqw]
     unfold pkg
     show (wts (rowS sy k)).getD q 0 <= (wts (rowS sy k)).getD _ 0 + (wts (rowS sy k)).getD _ 0
     rcases Nat.mod_two_eq_zero_or_one q with h | h
     ·rw [show 2 * (q / 2) = q by omega];omega
     ·rw [show 2 * (q / 2) + 1 = q by omega];omega
    have:=Zoc sy (lastOf sy (k + 1)) hs (2 * sy.length - 2) (by rw [<- Zau];omega) (q / 2) (by rw [<- Zau,hS1];omega) (sy.length - 1) (by omega) hpk
    rw [<- Zau,hS1] at this
    omega
theorem Zch (sy:List Nat) (lim i:Nat):cnt sy lim i <= tkn sy lim i:=by
 unfold cnt
 rw [Zau]
 exact Zaed _ (Zeg _ _) _
theorem Zfe (sy:List Nat) (lim:Nat) (h2:2 <= sy.length) (hl:sy.length <= 2 ^ lim) (h0:1 <= lim):∀ i,i < lim -> tkn sy lim i <= (rowS sy (lim - 1 - i)).length:=by
 intro i
 induction i with
 | zero =>
  intro _
  exact Zhz sy (lim - 1 - 0) (by omega) (by rw [show lim - 1 - 0 + 1 = lim by omega];exact hl)
 | succ i ih =>
  intro hi
  have h1:=ih (by omega)
  have h3:=Zbc sy (lastOf sy (lim - 1 - i)) (tkn sy lim i) (by rw [<- Zau];exact h1)
  rw [<- Zau] at h3
  have h4:lim - 1 - i = (lim - 1 - (i + 1)) + 1:=by omega
  have h5:=h3.2.2.2
  rw [h4,Zdu,<- h4] at h5
  exact h5
theorem Zuk (sy:List Nat) (lim:Nat) (hs:Rises sy) (h2:2 <= sy.length) (hl:sy.length <= 2 ^ lim) (h0:1 <= lim):cnt sy lim 0 = sy.length:=by
 have h:=Ztz sy hs h2 (lim - 1 - 0)
 rw [Nat.min_eq_right (Zhz sy (lim - 1 - 0) (by omega) (by rw [show lim - 1 - 0 + 1 = lim by omega];exact hl))] at h
 exact h
theorem Zuj (sy:List Nat) (lim:Nat) (hs:Rises sy) (h2:2 <= sy.length) (hl:sy.length <= 2 ^ lim) (h0:1 <= lim) (i:Nat) (hi:i + 1 < lim):cnt sy lim (i + 1) <= cnt sy lim i:=by
 have h1:=Zfe sy lim h2 hl h0 i (by omega)
 have h1':=Zfe sy lim h2 hl h0 (i + 1) hi
 have h4:lim - 1 - i = (lim - 1 - (i + 1)) + 1:=by omega
 rcases Nat.eq_zero_or_pos (cnt sy lim (i + 1)) with hz | hz
 ·omega
 ·have hc:cnt sy lim (i + 1) <= sy.length:=by
   unfold cnt
   rw [Zau]
   exact (Zbc sy _ _ (by rw [<- Zau];exact h1')).2.2.1
  obtain ⟨q,hq,hqw⟩:=Zach sy (lastOf sy (lim - 1 - (i + 1))) (tkn sy lim (i + 1)) (by rw [<- Zau];exact h1') (cnt sy lim (i + 1) - 1) (by rw [<- Zau];unfold cnt at hz ⊢;omega)
  rw [<- Zau] at hqw
  have hpk:sy.getD (cnt sy lim (i + 1) - 1) 0 <= pkg (lastOf sy (lim - 1 - i)) (q / 2):=by
   rw [<- hqw,h4]
   unfold pkg
   show (wts (rowS sy (lim - 1 - (i + 1)))).getD q 0 <= (wts (rowS sy (lim - 1 - (i + 1)))).getD _ 0 + (wts (rowS sy (lim - 1 - (i + 1)))).getD _ 0
   rcases Nat.mod_two_eq_zero_or_one q with h | h
   ·rw [show 2 * (q / 2) = q by omega];omega
   ·rw [show 2 * (q / 2) + 1 = q by omega];omega
  have hq2:q / 2 < tkn sy lim i - symN (rowS sy (lim - 1 - i)) (tkn sy lim i):=by
   have:tkn sy lim (i + 1) = 2 * (tkn sy lim i - symN (rowS sy (lim - 1 - i)) (tkn sy lim i)):=rfl
   omega
  rw [Zau] at hq2 h1
  have:=Zoc sy (lastOf sy (lim - 1 - i)) hs (tkn sy lim i) h1 (q / 2) hq2 (cnt sy lim (i + 1) - 1) (by omega) hpk
  rw [<- Zau] at this
  unfold cnt at *
  omega
theorem Zaee (sy:List Nat) (lim:Nat) (h2:2 <= sy.length) (hl:sy.length <= 2 ^ lim) (h0:1 <= lim):tkn sy lim lim = 0:=by
 obtain ⟨k,rfl⟩:∃ k,lim = k + 1:=⟨lim - 1,by omega⟩
 have h1:=Zfe sy (k + 1) h2 hl h0 k (by omega)
 rw [show k + 1 - 1 - k = 0 by omega] at h1
 have h3:=Zbc sy (lastOf sy 0) (tkn sy (k + 1) k) (by rw [<- Zau];exact h1)
 rw [<- Zau] at h3
 have h4:=h3.2.2.2
 simp [lastOf] at h4
 show 2 * (tkn sy (k + 1) k - symN (rowS sy (k + 1 - 1 - k)) (tkn sy (k + 1) k)) = 0
 rw [show k + 1 - 1 - k = 0 by omega]
 omega
def sumN (f:Nat -> Nat):Nat -> Nat
 | 0=>0
 | n + 1=>sumN f n + f n
theorem Zcf {f g:Nat -> Nat} {n:Nat} (h:∀ i,i < n -> f i = g i):sumN f n = sumN g n:=by
 induction n with
 | zero=>rfl
 | succ n ih=>simp only [sumN];rw [ih (fun i hi=>h i (by omega)),h n (by omega)]
theorem Zrn (f g:Nat -> Nat) (n:Nat):sumN (fun i=>f i + g i) n = sumN f n + sumN g n:=by
 induction n with
 | zero=>rfl
 | succ n ih=>simp only [sumN,ih];omega
theorem Zfv (c n:Nat):sumN (fun _=>c) n = n * c:=by
 induction n with
 | zero=>simp [sumN]
 | succ n ih=>simp only [sumN,ih,Nat.add_mul,Nat.one_mul]
theorem Zxm (n:Nat):sumN (fun _=>0) n = 0:=by rw [Zfv,Nat.mul_zero]
theorem Zxl (g:Nat -> Nat -> Nat) (n m:Nat):sumN (fun j=>sumN (fun i=>g i j) n) m = sumN (fun i=>sumN (fun j=>g i j) m) n:=by
 induction n with
 | zero=>simp only [sumN,Zxm]
 | succ n ih =>
  simp only [sumN]
  rw [Zrn,ih]
theorem Zady (c n m : Nat) (h : c ≤ m) : sumN (fun j => if j < c then n else 0) m = c * n := by
  induction m with
  | zero => obtain rfl : c = 0 := by omega
            simp [sumN]
  | succ m ih =>
    simp only [sumN]
    rcases Nat.lt_or_ge m c with h1 | h1
    · obtain rfl : c = m + 1 := by omega
      rw [if_pos h1, Zcf (g := fun _ => n) (fun i hi => if_pos (by omega)), Zfv, Nat.add_mul, Nat.one_mul]
    · rw [if_neg (by omega), ih h1, Nat.add_zero]
theorem Zlr (f:Nat -> Nat) (n:Nat):((List.range n).map f).sum = sumN f n:=by
 induction n with
 | zero=>rfl
 | succ n ih=>rw [List.range_succ,List.map_append,List.sum_append,ih];simp [sumN]
theorem Ziw (sy:List Nat) (lim:Nat) (h2:2 <= sy.length) (hl:sy.length <= 2 ^ lim) (h0:1 <= lim) (i:Nat) (hi:i < lim):cnt sy lim i <= sy.length:=by
 have h1:=Zfe sy lim h2 hl h0 i hi
 unfold cnt
 rw [Zau] at h1 ⊢
 exact (Zbc sy _ _ h1).2.2.1
theorem Zaef (sy:List Nat) (lim L:Nat) (hL:lim <= L):∀ i,i <= lim -> tkn sy lim 0 * 2 ^ L = sumN (fun j=>cnt sy lim j * 2 ^ (L - j)) i + tkn sy lim i * 2 ^ (L - i):=by
 intro i
 induction i with
 | zero=>intro _;simp [sumN]
 | succ i ih =>
  intro hi
  rw [ih (by omega)]
  simp only [sumN]
  have h1:=Zch sy lim i
  have h2:tkn sy lim (i + 1) = 2 * (tkn sy lim i - cnt sy lim i):=rfl
  have h3:2 ^ (L - i) = 2 * 2 ^ (L - (i + 1)):=by rw [show L - i = L - (i + 1) + 1 by omega,Nat.pow_succ,Nat.mul_comm]
  rw [h2]
  have h4:2 * (tkn sy lim i - cnt sy lim i) * 2 ^ (L - (i + 1)) = (tkn sy lim i - cnt sy lim i) * 2 ^ (L - i):=by
   rw [h3,Nat.mul_comm 2,Nat.mul_assoc]
  rw [h4,Nat.sub_mul]
  have h5:cnt sy lim i * 2 ^ (L - i) <= tkn sy lim i * 2 ^ (L - i):=Nat.mul_le_mul_right _ h1
  omega
theorem Zyn (sy : List Nat) (lim : Nat) (hs : Rises sy) (h2 : 2 ≤ sy.length) (hl : sy.length ≤ 2 ^ lim) (h0 : 1 ≤ lim) {i j : Nat} (hij : i ≤ j) (hj : j < lim) : cnt sy lim j ≤ cnt sy lim i := by
  induction j with
  | zero => obtain rfl : i = 0 := by omega
            exact Nat.le_refl _
  | succ j ih =>
    rcases Nat.lt_or_ge j i with h | h
    · obtain rfl : i = j + 1 := by omega
      exact Nat.le_refl _
    · exact Nat.le_trans (Zuj sy lim hs h2 hl h0 j hj) (ih h (by omega))
theorem Zfp (p:Nat -> Bool) (n:Nat) (h:∀ i j,i <= j -> j < n -> p j = true -> p i = true):∀ i,i < n -> (p i = true ↔ i < ((List.range n).filter p).length):=by
 induction n with
 | zero=>intro i hi;omega
 | succ n ih =>
  intro i hi
  have ih':=ih (fun i j hij hj=>h i j hij (by omega))
  rw [List.range_succ,List.filter_append,List.length_append]
  by_cases hp:p n = true
  ·have hall:((List.range n).filter p) = List.range n:=by
    rw [List.filter_eq_self]
    intro x hx
    exact h x n (by have:=List.mem_range.1 hx;omega) (by omega) hp
   rw [hall,List.length_range]
   simp only [List.filter_cons,hp,if_true,List.filter_nil,List.length_singleton]
   exact ⟨fun _=>hi,fun _=>h i n (by omega) (by omega) hp⟩
  ·simp only [List.filter_cons,hp,List.filter_nil]
   by_cases hin:i < n
   ·simpa using ih' i hin
   ·obtain rfl:i = n:=by omega
    have hle:((List.range i).filter p).length <= i:=by have:=List.length_filter_le p (List.range i);simpa using this
    simp [hp];omega
theorem Zkt (sy:List Nat) (lim:Nat) (hs:Rises sy) (h2:2 <= sy.length) (hl:sy.length <= 2 ^ lim) (h0:1 <= lim) (j i:Nat) (hi:i < lim):j < cnt sy lim i ↔ i < lenJ sy lim j:=by
 have:=Zfp (fun i=>decide (j < cnt sy lim i)) lim (fun a b hab hb h=>by
  simp only [decide_eq_true_eq] at h ⊢
  exact Nat.lt_of_lt_of_le h (Zyn sy lim hs h2 hl h0 hab hb)) i hi
 simpa [lenJ] using this
theorem Zoy (sy:List Nat) (lim j:Nat):lenJ sy lim j <= lim:=by
 unfold lenJ
 have:=List.length_filter_le (fun i=>decide (j < cnt sy lim i)) (List.range lim)
 simpa using this
theorem Zqs (sy:List Nat) (lim:Nat) (hs:Rises sy) (h2:2 <= sy.length) (hl:sy.length <= 2 ^ lim) (h0:1 <= lim) (j:Nat) (hj:j < sy.length):1 <= lenJ sy lim j:=by
 have:=(Zkt sy lim hs h2 hl h0 j 0 (by omega)).1 (by rw [Zuk sy lim hs h2 hl h0];exact hj)
 omega
theorem Zadr (l:Nat) (hl:l <= 20):2 ^ (20 - l) + sumN (fun i=>2 ^ (19 - i)) l = 2 ^ 20:=by
 induction l with
 | zero=>rfl
 | succ l ih =>
  simp only [sumN]
  have h1:=ih (by omega)
  have h2:2 ^ (20 - l) = 2 * 2 ^ (19 - l):=by rw [show 20 - l = 19 - l + 1 by omega,Nat.pow_succ,Nat.mul_comm]
  rw [show 20 - (l + 1) = 19 - l by omega]
  omega
theorem Ztj (f : Nat → Nat) (l n : Nat) (h : l ≤ n) : sumN (fun i => if i < l then f i else 0) n = sumN f l := by
  induction n with
  | zero => obtain rfl : l = 0 := by omega
            rfl
  | succ n ih =>
    simp only [sumN]
    rcases Nat.lt_or_ge n l with h1 | h1
    · obtain rfl : l = n + 1 := by omega
      rw [if_pos h1]
      simp only [sumN]
      rw [Zcf (g := f) (fun i hi => if_pos (by omega))]
    · rw [if_neg (by omega), ih h1, Nat.add_zero]
theorem Zvr (sy:List Nat) (lim:Nat) (hs:Rises sy) (h2:2 <= sy.length) (hl:sy.length <= 2 ^ lim) (h0:1 <= lim) (h17:lim <= 17):sumN (fun j=>2 ^ (20 - lenJ sy lim j)) sy.length = 2 ^ 20:=by
 have h1:sumN (fun j=>2 ^ (20 - lenJ sy lim j) + sumN (fun i=>2 ^ (19 - i)) (lenJ sy lim j)) sy.length = sy.length * 2 ^ 20:=by
  rw [<- Zfv]
  exact Zcf (fun j _=>Zadr _ (by have:=Zoy sy lim j;omega))
 rw [Zrn] at h1
 have h3:sumN (fun j=>sumN (fun i=>2 ^ (19 - i)) (lenJ sy lim j)) sy.length = sumN (fun i=>cnt sy lim i * 2 ^ (19 - i)) lim:=by
  have e1:sumN (fun j=>sumN (fun i=>2 ^ (19 - i)) (lenJ sy lim j)) sy.length = sumN (fun j=>sumN (fun i=>if j < cnt sy lim i then 2 ^ (19 - i) else 0) lim) sy.length:=by
   refine Zcf (fun j _=>?_)
   rw [<- Ztj (fun i=>2 ^ (19 - i)) (lenJ sy lim j) lim (Zoy _ _ _)]
   refine Zcf (fun i hi=>?_)
   by_cases h:j < cnt sy lim i
   ·rw [if_pos h,if_pos ((Zkt sy lim hs h2 hl h0 j i hi).1 h)]
   ·rw [if_neg h,if_neg (fun hc=>h ((Zkt sy lim hs h2 hl h0 j i hi).2 hc))]
  rw [e1,Zxl]
  exact Zcf (fun i hi=>Zady _ _ _ (Ziw sy lim h2 hl h0 i hi))
 have h4:=Zaef sy lim 19 (by omega) lim (Nat.le_refl _)
 rw [Zaee sy lim h2 hl h0,Nat.zero_mul,Nat.add_zero] at h4
 have h5:tkn sy lim 0 = 2 * sy.length - 2:=rfl
 rw [h3,<- h4,h5] at h1
 have h6:(2 * sy.length - 2) * 2 ^ 19 = sy.length * 2 ^ 20 - 2 ^ 20:=by
  rw [Nat.sub_mul];omega
 have h7:2 ^ 20 <= sy.length * 2 ^ 20:=by omega
 omega
def symW (f:List Nat):List Nat:=(rar f).map fun s=>f.getD s 0
def limS (f:List Nat) (lim s:Nat):Nat:=if f.getD s 0 = 0 then 0 else (if (rar f).length = 1 then 1 else 0) + lenJ (symW f) lim ((rar f).idxOf s)
def limL (f:List Nat) (lim:Nat):List Nat:=(List.range f.length).map (limS f lim)
theorem Zan (f:List Nat) (lim:Nat):(limL f lim).length = f.length:=by simp [limL]
theorem Zeq (f:List Nat) (lim s:Nat) (hs:s < f.length):(limL f lim).getD s 0 = limS f lim s:=by
 unfold limL
 rw [List.getD_eq_getElem?_getD,List.getElem?_map,List.getElem?_range hs]
 rfl
theorem Zhj (f:List Nat) (x:Nat) (l:List Nat):(insF f x l).Perm (x :: l):=by
 induction l with
 | nil=>exact .refl _
 | cons y l ih =>
  unfold insF
  split
  ·exact .refl _
  ·exact (List.Perm.cons y ih).trans (List.Perm.swap x y l)
theorem Zbf (f:List Nat):(rar f).Perm (used f):=by
 unfold rar
 generalize used f = l
 induction l with
 | nil=>exact .refl _
 | cons x l ih=>exact (Zhj f x _).trans (List.Perm.cons x ih)
theorem Zjy (f:List Nat):(used f).Nodup:=List.Pairwise.filter _ List.nodup_range
theorem Zno (f:List Nat):(rar f).Nodup:=(Zbf f).nodup_iff.2 (Zjy f)
theorem Zbr (f:List Nat) (s:Nat):s ∈ rar f ↔ s < f.length /\ 0 < f.getD s 0:=by
 rw [(Zbf f).mem_iff]
 simp [used]
def Lex (f:List Nat) (l:List Nat):Prop:=l.Pairwise fun a b=>ltF f a b = true
theorem Zafe (f:List Nat) (a b:Nat) (h:a ≠ b):ltF f a b = true \/ ltF f b a = true:=by
 unfold ltF
 simp only [Bool.or_eq_true,Bool.and_eq_true,decide_eq_true_eq]
 omega
theorem Zbg (f:List Nat) (a b c:Nat) (h:ltF f a b = true) (h':ltF f b c = true):ltF f a c = true:=by
 unfold ltF at *
 simp only [Bool.or_eq_true,Bool.and_eq_true,decide_eq_true_eq] at *
 omega
theorem Zzn (f:List Nat) (x:Nat) (l:List Nat) (h:Lex f l) (hx:x ∉ l):Lex f (insF f x l):=by
 induction l with
 | nil=>simp [insF,Lex]
 | cons y l ih =>
  unfold Lex at *
  rw [List.pairwise_cons] at h
  unfold insF
  split
  ·next hlt =>
   refine List.pairwise_cons.2 ⟨fun z hz=>?_,List.pairwise_cons.2 h⟩
   rcases List.mem_cons.1 hz with rfl | hz
   ·exact hlt
   ·exact Zbg f _ _ _ hlt (h.1 z hz)
  ·next hlt =>
   refine List.pairwise_cons.2 ⟨fun z hz=>?_,ih h.2 (fun hc=>hx (by simp [hc]))⟩
   rcases List.mem_cons.1 ((Zhj f x l).mem_iff.1 hz) with rfl | hz
   ·rcases Zafe f y z (fun e=>hx (by simp [e])) with h1 | h1
    ·exact h1
    ·exact absurd h1 hlt
   ·exact h.1 z hz
theorem Zwq (f:List Nat):Lex f (rar f):=by
 unfold rar
 have hn:=Zjy f
 revert hn
 generalize used f = l
 intro hn
 induction l with
 | nil=>simp [Lex]
 | cons x l ih =>
  rw [List.nodup_cons] at hn
  refine Zzn f x _ (ih hn.2) (fun hc=>hn.1 ?_)
  have:(l.foldr (insF f) []).Perm l:=by
   clear ih hn hc
   induction l with
   | nil=>exact .refl _
   | cons x l ih=>exact (Zhj f x _).trans (List.Perm.cons x ih)
  exact this.mem_iff.1 hc
theorem Zsr (f:List Nat):∀ (l m:List Nat),l.Perm m -> Lex f l -> Lex f m -> l = m:=by
 intro l
 induction l with
 | nil=>intro m hp _ _;exact hp.symm.eq_nil.symm
 | cons x l ih =>
  intro m hp h1 h2
  cases m with
  | nil=>exact absurd hp.length_eq (by simp)
  | cons y m =>
   unfold Lex at h1 h2
   rw [List.pairwise_cons] at h1 h2
   have hxy:x = y:=by
    rcases List.mem_cons.1 (hp.mem_iff.1 (List.mem_cons_self (a:=x) (l:=l))) with h | h
    ·exact h
    ·rcases List.mem_cons.1 (hp.mem_iff.2 (List.mem_cons_self (a:=y) (l:=m))) with h' | h'
     ·exact h'.symm
     ·exfalso
      have a:=h2.1 x h
      have b:=h1.1 y h'
      have c:=Zbg f _ _ _ a b
      unfold ltF at c
      simp at c
   subst hxy
   rw [ih m (List.Perm.cons_inv hp) h1.2 h2.2]
theorem Zfw (f:List Nat):Rises (symW f):=by
 intro i j hij hj
 unfold symW at hj ⊢
 rw [List.length_map] at hj
 rw [List.getD_eq_getElem?_getD,List.getD_eq_getElem?_getD,List.getElem?_map,List.getElem?_map,List.getElem?_eq_getElem (by omega),List.getElem?_eq_getElem hj]
 simp only [Option.map_some,Option.getD_some]
 rcases Nat.lt_or_ge i j with h | h
 ·have:=List.pairwise_iff_getElem.1 (Zwq f) i j (by omega) hj h
  unfold ltF at this
  simp only [Bool.or_eq_true,Bool.and_eq_true,decide_eq_true_eq] at this
  omega
 ·obtain rfl:i = j:=by omega
  exact Nat.le_refl _
theorem Zbh (f:List Nat):(symW f).length = (rar f).length:=by simp [symW]
theorem Zdv (f:List Nat) (lim s:Nat) (h0:1 <= lim) (hm:(rar f).length <= 2 ^ lim) (hs:s < f.length):limS f lim s <= lim /\ (limS f lim s = 0 ↔ f.getD s 0 = 0):=by
 unfold limS
 by_cases hf:f.getD s 0 = 0
 ·rw [if_pos hf];exact ⟨Nat.zero_le _,⟨fun _=>hf,fun _=>rfl⟩⟩
 ·rw [if_neg hf]
  have hmem:=(Zbr f s).2 ⟨hs,by omega⟩
  have hidx:=List.idxOf_lt_length_of_mem hmem
  by_cases h1:(rar f).length = 1
  ·rw [if_pos h1]
   have hz:lenJ (symW f) lim ((rar f).idxOf s) = 0:=by
    unfold lenJ
    rw [List.length_eq_zero_iff,List.filter_eq_nil_iff]
    intro i hi
    have hc:cnt (symW f) lim i = 0:=by
     have ht:∀ i,tkn (symW f) lim i = 0:=by
      intro i
      induction i with
      | zero=>show 2 * (symW f).length - 2 = 0;rw [Zbh,h1]
      | succ i ih=>show 2 * (tkn (symW f) lim i - _) = 0;rw [ih];simp
     have:=Zch (symW f) lim i
     rw [ht] at this
     omega
    rw [hc];simp
   rw [hz]
   exact ⟨by omega,⟨fun h=>by omega,fun h=>absurd h hf⟩⟩
  ·rw [if_neg h1,Nat.zero_add]
   have h2:2 <= (symW f).length:=by rw [Zbh];omega
   have h3:=Zqs (symW f) lim (Zfw f) h2 (by rw [Zbh];exact hm) h0 _ (by rw [Zbh];exact hidx)
   exact ⟨Zoy _ _ _,by omega⟩
theorem Zoa {l m:List Nat} (h:l.Perm m) (g:Nat -> Nat):(l.map g).sum = (m.map g).sum:=by
 induction h with
 | nil=>rfl
 | cons x _ ih=>simp [ih]
 | swap x y l=>simp;omega
 | trans _ _ ih1 ih2=>exact ih1.trans ih2
theorem Zmx (f:List Nat) (lim:Nat) (h0:1 <= lim) (h17:lim <= 17) (h2:2 <= (rar f).length) (hm:(rar f).length <= 2 ^ lim):M04.weight (limL f lim) = 2 ^ 20:=by
 have hf:=Zvr (symW f) lim (Zfw f) (by rw [Zbh];exact h2) (by rw [Zbh];exact hm) h0 h17
 have e1:M04.weight (limL f lim) = ((used f).map fun s=>M04.wt (limS f lim s)).sum:=by
  unfold M04.weight limL used
  rw [List.map_map]
  generalize List.range f.length = l
  induction l with
  | nil=>rfl
  | cons s l ih =>
   rw [List.map_cons,List.sum_cons,ih,List.filter_cons]
   by_cases hz:f.getD s 0 = 0
   ·have h3:limS f lim s = 0:=by unfold limS;rw [if_pos hz]
    have hd:decide (0 < f.getD s 0) = false:=by rw [decide_eq_false_iff_not];omega
    rw [hd,if_neg (by decide)]
    show M04.wt (limS f lim s) + _ = _
    rw [h3]
    simp [M04.wt]
   ·have hd:decide (0 < f.getD s 0) = true:=by rw [decide_eq_true_eq];omega
    rw [hd,if_pos rfl,List.map_cons,List.sum_cons]
    rfl
 rw [e1,<- Zoa (Zbf f)]
 have e2:((rar f).map fun s=>M04.wt (limS f lim s)) = (List.range (rar f).length).map fun j=>2 ^ (20 - lenJ (symW f) lim j):=by
  apply List.ext_getElem
  ·simp
  ·intro j h1 h3
   simp only [List.length_map] at h1
   simp only [List.getElem_map,List.getElem_range]
   have hmem:=(Zbr f (rar f)[j]).1 (List.getElem_mem h1)
   have hidx:(rar f).idxOf (rar f)[j] = j:=(Zno f).idxOf_getElem j h1
   have hl:limS f lim (rar f)[j] = lenJ (symW f) lim j:=by
    unfold limS
    rw [if_neg (by omega),if_neg (by omega),hidx,Nat.zero_add]
   have hp:=Zqs (symW f) lim (Zfw f) (by rw [Zbh];exact h2) (by rw [Zbh];exact hm) h0 j (by rw [Zbh];exact h1)
   rw [hl]
   unfold M04.wt
   rw [if_neg (by omega)]
 rw [e2,Zlr,<- Zbh f]
 exact hf
end Go.Proofs.YtendielanacflaaGreat.M05
