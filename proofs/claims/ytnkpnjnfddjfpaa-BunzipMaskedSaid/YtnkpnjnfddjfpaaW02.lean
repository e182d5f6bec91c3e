/- Words that all seats use: of the model's parts, of bits, of bytes. Words that all seats use: lists of what has come up, adding, bits.Mul. A row of numbers that is filled from the left. Slices of bools as lists of noughts and ones. Plain mathematics of layer 4: words of a code do not begin with one another; a row of 20 bits begins with one word, where the code is full. Plain mathematics of layer 6: what a table of words holds, symbol by symbol. Plain mathematics of layers 6, 9, 10: reading by a code. Plain mathematics: bits of words, what a table of words holds. Plain mathematics of layer 2: bits of bytes, the greatest first: as bits of the bytes turned around. Plain mathematics of layers 20 to 27: what a bzip2 file says, bit by bit (B: the bytes turned around, so that bits come in order). The reference of layer 2: rows of bits, the greatest first: contracts of Bits, Number, Of, Get. The references of layers 22, 24: moved, front: contracts. Plain mathematics of layer 26: the places of the mask. Plain mathematics of layer 26: a block, bit by bit. Plain mathematics of layer 21: counting the bytes gives the way back. Plain mathematics: what the parts of a block keep to. The reference of layer 24: GetSelectors: contract. The reference of layer 22: Used: contract. A map from words (bits, how many) to numbers, as a function. -/
import Derived.Test.YtnkpnjnfddjfpaaW01
import Derived.Laws.Bits64b
import Derived.Maps.AppendAt
import Derived.WalkLawsBesides
import Derived.Lib.SlicesS
import Derived.Test.YtnkpnjnfddjfpaaChecked
import Derived.Lib.Hide
import Derived.Maps.Own
import Derived.Maps.OwnOps
import Derived.Maps.OwnSet
import Derived.Maps.Views
import Derived.DeepKeys4
import Derived.WalkArith
set_option linter.unusedVariables false
set_option linter.unusedSimpArgs false
namespace Go.Proofs.Ytnkpnjnfddjfpaa
open Go.RowKit Go.Shelf M01
theorem Zdg {w:World} {b:Nat} {u v:Value} {t:TypeId} (h:w.heap[b]? = some (.cells #[u,v] t (0,0))):w.cell? ⟨b,0,none⟩ = some u /\ w.cell? ⟨b,1,none⟩ = some v /\ w.frozen? ⟨b,0,none⟩ = false /\ w.frozen? ⟨b,1,none⟩ = false:=by
 simp [World.cell?,World.frozen?,h]
theorem Zzj {w:World} {b:Nat} {u v x:Value} {t:TypeId} (h:w.heap[b]? = some (.cells #[u,v] t (0,0))) :
  (w.setCell ⟨b,0,none⟩ x).heap[b]? = some (.cells #[x,v] t (0,0)) /\ (w.setCell ⟨b,1,none⟩ x).heap[b]? = some (.cells #[u,x] t (0,0)):=by
 constructor
 ·show (w.heap.modify b _)[b]? = _
  rw [Array.getElem?_modify,if_pos rfl,h];rfl
 ·show (w.heap.modify b _)[b]? = _
  rw [Array.getElem?_modify,if_pos rfl,h];rfl
theorem RowN.drewN {k:IntKind} {w:World} {a:Option Addr} {cap:Nat} {l:List Nat} (h:RowN k w a cap l) (q:Nat):RowN k (w.drewN q) a cap l:=h
theorem Zcj (a b:Nat) (ha:a < 4294967296) (hb:b < 4294967296):bits .and .u32 (a:Int) (b:Int) = ((a &&& b:Nat):Int):=by
 have hx:a &&& b < 2 ^ 32:=Nat.and_lt_two_pow _ (by omega)
 have h1:(BitVec.ofInt 32 (a:Int)).toNat = a:=by
  rw [BitVec.ofInt_natCast,BitVec.toNat_ofNat];exact Nat.mod_eq_of_lt (by omega)
 have h2:(BitVec.ofInt 32 (b:Int)).toNat = b:=by
  rw [BitVec.ofInt_natCast,BitVec.toNat_ofNat];exact Nat.mod_eq_of_lt (by omega)
 show IntKind.u32.wrap ((BitVec.ofInt 32 (a:Int) &&& BitVec.ofInt 32 (b:Int)).toNat:Int) = _
 rw [BitVec.toNat_and,h1,h2,IntKind.wrap_u32]
 omega
theorem Zhr (a b:Nat) (ha:a < 4294967296) (hb:b < 4294967296):bits .or .u32 (a:Int) (b:Int) = ((a ||| b:Nat):Int):=by
 have hx:a ||| b < 2 ^ 32:=Nat.or_lt_two_pow (by omega) (by omega)
 have h1:(BitVec.ofInt 32 (a:Int)).toNat = a:=by
  rw [BitVec.ofInt_natCast,BitVec.toNat_ofNat];exact Nat.mod_eq_of_lt (by omega)
 have h2:(BitVec.ofInt 32 (b:Int)).toNat = b:=by
  rw [BitVec.ofInt_natCast,BitVec.toNat_ofNat];exact Nat.mod_eq_of_lt (by omega)
 show IntKind.u32.wrap ((BitVec.ofInt 32 (a:Int) ||| BitVec.ofInt 32 (b:Int)).toNat:Int) = _
 rw [BitVec.toNat_or,h1,h2,IntKind.wrap_u32]
 omega
theorem Zxt (x r:Nat) (hx:x < 256):bits .and .u32 ((x:Int) / 2 ^ r % 4294967296) 1 = ((x / 2 ^ r % 2:Nat):Int):=by
 have h0:x / 2 ^ r <= x:=Nat.div_le_self _ _
 have h1:((x:Int) / 2 ^ r % 4294967296) = ((x / 2 ^ r:Nat):Int):=by
  have h2:(2:Int) ^ r = ((2 ^ r:Nat):Int):=by simp
  rw [h2,<- Int.natCast_ediv]
  generalize x / 2 ^ r = y at *
  omega
 rw [h1]
 have:=Zcj (x / 2 ^ r) 1 (by omega) (by omega)
 rw [Nat.and_one_is_mod] at this
 exact this
theorem eqNilT (w:World):(binOp .eql 22 (.slice none 0 0) (.slice none 0 0)).run Try.prog w = .ok (.bool true) w:=by kernel_rfl
theorem eqNilF (x:Addr) (n c:Nat) (w:World):(binOp .eql 22 (.slice (some x) n c) (.slice none 0 0)).run Try.prog w = .ok (.bool false) w:=by kernel_rfl
set_option maxRecDepth 100000 in
theorem Zgt (w:World) (a:Option Addr) (cap:Nat) (l:List Nat) (hr:RowN .u8 w a cap l) (hl:l.length <= 100000000) :
  Calls Try.prog 44 #[.slice a l.length cap] w fun e w'=>∃ a' c',e = .returned (.slice a' l.length c') /\ OwnN 5 .u8 w' w.heap.size a' c' l /\ Below w.heap.size w w':=by
 by_cases ha:a = none
 ·subst ha
  have h0:cap = 0:=hr.2.1.2 rfl
  subst h0
  have hl0:l = []:=List.eq_nil_of_length_eq_zero (by have:=hr.1;omega)
  subst hl0
  clear hr
  go_enter Try.func44,Try.ntmps44
  go_wp2_with fail
  rw [eqNilT]
  go_wp2
  go_ret
  exact ⟨none,0,rfl,OwnN.nil _ _ _ _,Below.refl _ _⟩
 ·obtain ⟨x,rfl⟩:=Option.ne_none_iff_exists'.1 ha
  clear ha
  go_enter Try.func44,Try.ntmps44
  go_wp2_with fail
  rw [eqNilF]
  go_wp2_with (at_builtin;refine appAnyN Zbl rfl (.tmp 5) (.tmp 6) rfl (a:=some ⟨w.heap.size,0,none⟩) (cap:=0) (l:=[]) (ys:=l) (base:=w.heap.size) rfl (OwnN.lit0 _ _ _ _ (Nat.le_refl _)) rfl rfl (hr.below ((Below.refl _ _).alloc (Nat.le_refl _) _)) (by simp;omega) (by simp;omega) (by simp) ?_;intro a1 cap1 w1 hown1 hg1 hb1;simp only [List.nil_append] at hown1;simp only [List.length_nil,Nat.zero_add])
  go_ret
  exact ⟨a1,cap1,rfl,hown1,((Below.refl w.heap.size w).alloc (Nat.le_refl _) _).trans hb1⟩
theorem Zda {w:World} {b:Nat} {x y:Value} {t:TypeId} (h:w.heap[b]? = some (.cells #[x,y] t (0,0))):w.cell? ⟨b,0,none⟩ = some x /\ w.cell? ⟨b,1,none⟩ = some y :=
 ⟨(Zdg h).1,(Zdg h).2.1⟩
theorem Zai (w:World) (o:Obj):Below w.heap.size w (w.alloc o):=(Below.refl _ _).alloc (Nat.le_refl _) _
theorem Zah (T:Nat -> Prop) (w:World) (q:Nat):Only T w (w.drewN q):=⟨rfl,rfl,rfl,Nat.le_refl _,fun _ _ _=>rfl⟩
def formP:List PanicEntry:=[{ v:=.iface 25 (.int .i64 2),recovered:=false }]
theorem Zaf {w:World} {b:Nat} {x y z u:Value} {t:TypeId} (h:w.heap[b]? = some (.cells #[x,y,z,u] t (0,0))):w.cell? ⟨b,0,none⟩ = some x /\ w.cell? ⟨b,1,none⟩ = some y /\ w.cell? ⟨b,2,none⟩ = some z /\ w.cell? ⟨b,3,none⟩ = some u /\ w.frozen? ⟨b,1,none⟩ = false /\ w.frozen? ⟨b,3,none⟩ = false:=by
 simp [World.cell?,World.frozen?,h]
theorem Zvn {w:World} {b:Nat} {x y z u v:Value} {t:TypeId} (h:w.heap[b]? = some (.cells #[x,y,z,u] t (0,0))) :
  (w.setCell ⟨b,1,none⟩ v).heap[b]? = some (.cells #[x,v,z,u] t (0,0)) /\ (w.setCell ⟨b,3,none⟩ v).heap[b]? = some (.cells #[x,y,z,v] t (0,0)):=by
 constructor
 ·show (w.heap.modify b _)[b]? = _
  rw [Array.getElem?_modify,if_pos rfl,h];rfl
 ·show (w.heap.modify b _)[b]? = _
  rw [Array.getElem?_modify,if_pos rfl,h];rfl
theorem Zal {w:World} {b:Nat} {x y z u:Value} {t:TypeId} (h:w.heap[b]? = some (.cells #[x,y,z,u] t (0,0))):w.frozen? ⟨b,0,none⟩ = false /\ w.frozen? ⟨b,1,none⟩ = false /\ w.frozen? ⟨b,2,none⟩ = false /\ w.frozen? ⟨b,3,none⟩ = false:=by
 simp [World.frozen?,h]
theorem Zam {w:World} {b:Nat} {u:Value} {t:TypeId} (h:w.heap[b]? = some (.cells #[u] t (0,0))):w.frozen? ⟨b,0,none⟩ = false:=by simp [World.frozen?,h]
theorem Zie {k:IntKind} {w:World} {a:Option Addr} {cap:Nat} {l:List Nat} (h:RowN k w a cap l) (n:Nat):RowN k w a cap (l.take n):=by
 obtain ⟨h1,h2,h3⟩:=h
 refine ⟨by simp;omega,h2,?_⟩
 rcases h3 with rfl | ⟨b,off,rfl,hb,hc⟩
 ·exact .inl (by simp)
 ·refine .inr ⟨b,off,rfl,hb,fun i hi=>?_⟩
  have hi2:i < l.length:=by simp at hi;omega
  rw [hc i hi2]
  simp
theorem Ztm {k:IntKind} {w:World} {b off cap:Nat} {l:List Nat} (h:RowN k w (some ⟨b,off,none⟩) cap l) (n:Nat) (hn:n < l.length):RowN k w (some ⟨b,off + n,none⟩) (cap - n) (l.drop n):=by
 obtain ⟨h1,h2,h3⟩:=h
 refine ⟨by simp;omega,⟨by omega,fun e=>by cases e⟩,?_⟩
 rcases h3 with rfl | ⟨b',off',he,hb,hc⟩
 ·simp at hn
 ·simp only [Option.some.injEq,Addr.mk.injEq,and_true] at he
  obtain ⟨rfl,rfl⟩:=he
  refine .inr ⟨b,off + n,rfl,hb,fun i hi=>?_⟩
  have hi2:n + i < l.length:=by simp at hi;omega
  rw [Nat.add_assoc,hc _ hi2]
  simp
theorem Only.ofBelow {T:Nat -> Prop} {w w':World} (h:Below w.heap.size w w'):Only T w w':=⟨h.os,h.tape,h.output,h.size,fun b hb _=>h.block b hb⟩
theorem OwnN.lit {k:IntKind} (E:TypeId) (w:World) (base:Nat) (l:List Nat) (vs:Array Value) (B:Nat) (hB:B = w.heap.size) (hv:vs = (l.map fun (n:Nat)=>Value.int k n).toArray) (hb:base <= w.heap.size) (hl:l.length <= maxLen) :
  OwnN E k (w.alloc (.cells vs E)) base (some ⟨B,0,none⟩) l.length l:=by
 subst hB hv
 exact ⟨by simp,.inr ⟨w.heap.size,l.length,(l.map fun (n:Nat)=>Value.int k n).toArray,rfl,hb,World.alloc_heap_new w _,Nat.le_refl _,hl,by simp,by simp [List.take_of_length_le]⟩⟩
theorem Zqp (l:List Nat):∀ r:ByteArray,((l.map fun (n:Nat)=>(n:Int)).foldl (fun r n=>r.push (UInt8.ofNat n.toNat)) r) = r ++ ByteArray.mk (l.map UInt8.ofNat).toArray:=by
 induction l with
 | nil=>intro r;simp [ByteArray.ext_iff]
 | cons x t ih =>
  intro r
  simp only [List.map_cons,List.foldl_cons,Int.toNat_natCast]
  rw [ih]
  simp [ByteArray.ext_iff]
theorem Zdf (l:List Nat):strOf l = ByteArray.mk (l.map UInt8.ofNat).toArray:=by
 unfold strOf
 rw [Zqp]
 simp
theorem Zgv (l m:List Nat):strOf (l ++ m) = strOf l ++ strOf m:=by
 rw [Zdf,Zdf,Zdf]
 simp [ByteArray.ext_iff]
theorem Zcz (l:List Nat):(strOf l).size = l.length:=by
 rw [Zdf]
 simp [ByteArray.size]
end Go.Proofs.Ytnkpnjnfddjfpaa

namespace Go.Proofs.Ytnkpnjnfddjfpaa
open Go.RowKit Go.Shelf
theorem Zaz:ElemTy Try.prog 103 3 .i64 8:=⟨Try.underlying103,by kernel_rfl⟩
theorem Zag {listed:Array Bool} {i:Nat} (hi:i < listed.size):(listed.setIfInBounds i true).getD i false = true:=by simp [hi]
theorem Zaa {l:Array Bool} {i k:Nat} (h:i ≠ k):(l.setIfInBounds i true).getD k false = l.getD k false:=by
 simp [Array.getElem?_setIfInBounds_ne h]
theorem evalC (a:Act) (v:Value):a.eval (.const v) = v:=rfl
theorem eqgA (t:TypeId) (x y:Operand) (u v:Value) (w:World):(eqGuard .add t x y u v).run Try.prog w = .ok () w:=by simp [eqGuard,go_sem]
theorem addI (t:TypeId) (x y:Int) (w:World):(binOp .add t (.int .i64 x) (.int .i64 y):Sem Value).run Try.prog w = .ok (.int .i64 (IntKind.i64.wrap (x + y))) w:=by
 simp [binOp,Op.intArith,go_sem]
theorem belDN {B:Nat} {w w':World} (h:Below B w w') (q:Nat):Below B w (w'.drewN q):=⟨h.os,h.tape,h.output,h.size,h.block⟩
theorem maskN (a:Nat) (ha:a < 4294967296):bits .and .u64 (a:Int) 4294967295 = (a:Int):=by
 have h:=bits_and_u64_nat a 4294967295 (by omega) (by omega)
 have e:a &&& 4294967295 = a % 4294967296:=Nat.and_two_pow_sub_one_eq_mod a 32
 rw [e,Nat.mod_eq_of_lt ha] at h
 exact h
theorem mask0:bits .and .u64 0 4294967295 = 0:=by have:=maskN 0 (by omega);simpa using this
theorem mask1:bits .and .u64 1 4294967295 = 1:=by have:=maskN 1 (by omega);simpa using this
set_option maxHeartbeats 800000 in
theorem Zpi (n:Nat) (hn:n <= 1000000) (w:World) :
  Calls Try.prog 134 #[.int .u64 1,.int .u64 n] w fun e w'=>e = .returned (.tuple #[.int .u64 0,.int .u64 n]) /\ w = w':=by
 have h1:=maskN n (by omega)
 have h2:=mask1
 have h3:(n:Int) / 4294967296 = 0:=by omega
 go_enter Try.func134,Try.ntmps134
 go_wp2
 go_ret2
 exact ⟨by simp [mask0,IntKind.wrap_u64],rfl⟩
theorem Zob (n:Nat) (hn:n <= 1000000) (w:World) :
  Calls Try.prog 78 #[.int .u64 1,.int .u64 n] w fun e w'=>e = .returned (.tuple #[.int .u64 0,.int .u64 n]) /\ w = w':=by
 go_enter Try.func78,Try.ntmps78
 go_wp2_with (go_at_call 134;refine (Zpi n hn _).mono ?_;rintro e w' ⟨rfl,rfl⟩)
 go_ret2
 exact ⟨rfl,rfl⟩
end Go.Proofs.Ytnkpnjnfddjfpaa

namespace Go.Proofs.Ytnkpnjnfddjfpaa
open Go.RowKit
def partL (f:Nat -> Nat) (n k:Nat):List Nat:=(List.range n).map fun i=>if i < k then f i else 0
theorem Zdr (f:Nat -> Nat) (n k:Nat):(partL f n k).length = n:=by simp [partL]
theorem Zei (f:Nat -> Nat) (n:Nat):partL f n 0 = List.replicate n 0:=by
 apply List.ext_getElem?
 intro i
 simp only [partL,List.getElem?_map,List.getElem?_replicate,Nat.not_lt_zero,if_false]
 by_cases h:i < n
 ·simp [h]
 ·simp [h]
theorem Zeh (f:Nat -> Nat) (n k:Nat) (hk:k < n):(partL f n k).set k (f k) = partL f n (k + 1):=by
 apply List.ext_getElem?
 intro i
 rw [List.getElem?_set,Zdr]
 unfold partL
 by_cases he:k = i
 ·subst he;rw [if_pos rfl,if_pos hk];simp [hk]
 ·rw [if_neg he]
  by_cases h:i < n
  ·simp only [List.getElem?_map,List.getElem?_range h,Option.map_some,Option.some.injEq]
   by_cases h2:i < k
   ·rw [if_pos h2,if_pos (by omega)]
   ·rw [if_neg h2,if_neg (by omega)]
  ·simp [h]
end Go.Proofs.Ytnkpnjnfddjfpaa

namespace Go.Proofs.Ytnkpnjnfddjfpaa
open Go.RowKit
def encB:Enc Nat:=⟨1,fun n=>[.bool (n == 1)],fun _=>rfl,fun _ u hu=>by simp at hu;subst hu;rfl,by decide⟩
theorem flatB (l:List Nat):flat encB l = l.map fun n=>Value.bool (n == 1):=by
 induction l with
 | nil=>rfl
 | cons a l ih=>simp only [flat,List.flatMap_cons,List.map_cons,encB] at *;rw [ih];rfl
abbrev OwnB (w:World) (base:Nat) (a:Option Addr) (cap:Nat) (l:List Nat):Prop:=OwnS encB 4 w base a cap l
abbrev RowB (w:World) (a:Option Addr) (cap:Nat) (l:List Nat):Prop:=RowS encB w a cap l
theorem RowS.atB {w:World} {a:Option Addr} {cap:Nat} {l:List Nat} (h:RowB w a cap l) {i:Nat} (hi:i < l.length) :
  ∃ b off,a = some ⟨b,off,none⟩ /\ b < w.heap.size /\ w.cell? ⟨b,off + i,none⟩ = some (.bool (l[i] == 1)):=by
 obtain ⟨b,off,ha,hb,hc⟩:=h.at hi
 exact ⟨b,off,ha,hb,by simpa [encB] using hc 0 (.bool (l[i] == 1)) (by simp [encB])⟩
theorem RowS.subB {w:World} {b off cap:Nat} {l:List Nat} (h:RowB w (some ⟨b,off,none⟩) cap l) (i n:Nat) (hi:i + n <= l.length):RowB w (some ⟨b,off + i,none⟩) (cap - i) ((l.drop i).take n):=by
 obtain ⟨h1,⟨h2,_⟩,h3⟩:=h
 refine ⟨by simp;omega,⟨by omega,by simp⟩,?_⟩
 rcases h3 with rfl | ⟨b',off',he,hb,hc⟩
 ·left;simp
 ·right
  simp only [Option.some.injEq,Addr.mk.injEq,and_true] at he
  obtain ⟨rfl,rfl⟩:=he
  refine ⟨b,off + i,rfl,hb,fun j v hv=>?_⟩
  rw [Nat.add_assoc]
  refine hc (i + j) v ?_
  rw [flatB] at hv ⊢
  rw [List.getElem?_map,List.getElem?_take] at hv
  rw [List.getElem?_map]
  split at hv
  ·rw [List.getElem?_drop] at hv;exact hv
  ·simp at hv
theorem OwnS.storedB {w:World} {base g cap:Nat} {l:List Nat} (h:OwnB w base (some ⟨g,0,none⟩) cap l) (i x:Nat):OwnB (w.setCell ⟨g,i,none⟩ (.bool (x == 1))) base (some ⟨g,0,none⟩) cap (l.set i x):=by
 have h1:=(World.ownsRow.stored h i (.bool (x == 1))).1
 unfold OwnB OwnS at *
 rw [List.length_set,flatB,List.map_set]
 rw [flatB] at h1
 exact h1
theorem OwnS.atB {w:World} {base g cap:Nat} {l:List Nat} (h:OwnB w base (some ⟨g,0,none⟩) cap l) {i:Nat} (hi:i < l.length) :
  (∃ v,w.cell? ⟨g,i,none⟩ = some v) /\ w.frozen? ⟨g,i,none⟩ = false:=by
 have hc:=World.ownsRow.cellAt h i (by simpa [encB] using hi)
 rw [flatB,List.getElem?_map,List.getElem?_eq_getElem hi,Option.map_some] at hc
 exact ⟨⟨_,hc⟩,World.ownsRow.frozenAt h i⟩
theorem makeB {P:Program} {T:TypeId} {bytes:Nat} (et:ElemS P T 4 encB (.bool false) bytes) {w:World} {ops:Array Oper} {rest:List Oper} {o:Oper} {a:Act} {Q:Exit -> Act -> World -> Prop}
  (hg:o.guard = none) (lo c:Operand) (hop:o.op = Op.makeSlice T lo c) (base:Nat) {kl kc:IntKind} {n:Nat} (hl:a.eval lo = .int kl n) (hc:a.eval c = .int kc n)
  (hb:bytes * n <= 281474976710656) (hn:n <= 9223372036854775807) (hbase:base <= w.heap.size)
  (hK:∀ w',OwnB w' base (some ⟨w.heap.size,0,none⟩) n (List.replicate n 0) -> w.grownBy w' none -> wpList P ops Q rest (a.put o.dst (.slice (some ⟨w.heap.size,0,none⟩) n n)) w') :
  wpList P ops Q (o :: rest) a w:=by
 obtain ⟨i,h2,h3,h4,h5⟩:=info_parts et.info
 refine wpList_plain (by assumption) fun K hK'=>?_
 obtain ⟨w',hrun,r1,r2⟩:=run_make_full (P:=P) w base T 4 i (.bool false) 1 et.und h2 h3 h4 kl kc n (by rw [h5];exact hb) (by simpa [maxLen] using hn) hbase
 unfold Oper.wp
 simp [execOp,hop,hl,hc,hrun,Result.andThen]
 refine hK' _ _ (hK w' ?_ r2)
 unfold OwnB OwnS
 have hm:(madeCells (Value.bool false).cells (n * 1)).toList = flat encB (List.replicate n 0):=by
  rw [Nat.mul_one];show (madeCells #[.bool false] n).toList = _;rw [toList_madeCells_one,flatB];simp
 rw [List.length_replicate,<- hm]
 exact r1
theorem Zeg (f:Nat -> Nat) (n:Nat):partL f n n = (List.range n).map f:=by
 unfold partL
 apply List.map_congr_left
 intro i hi
 simp only [List.mem_range] at hi
 rw [if_pos hi]
end Go.Proofs.Ytnkpnjnfddjfpaa

namespace Go.Proofs.Ytnkpnjnfddjfpaa.M04
def start (l:List Nat) (i:Nat):Nat:=acc l (l.getD i 0) i
def size (l:List Nat) (i:Nat):Nat:=2 ^ (20 - l.getD i 0)
theorem Zwm (l:List Nat) {n k n' k' j:Nat} (h:n < n' \/ n = n' /\ k <= k') (hp:pre l n k j):pre l n' k' j:=by
 unfold pre at *;omega
theorem Zus (l:List Nat) {n k n' k':Nat} (h:n < n' \/ n = n' /\ k <= k'):acc l n k <= acc l n' k':=S_le fun j _=>by
 by_cases hp:pre l n k j
 ·rw [if_pos hp,if_pos (Zwm l h hp)];exact Nat.le_refl _
 ·rw [if_neg hp];exact Nat.zero_le _
theorem Zmk (l:List Nat) (i:Nat) (hi:i < l.length) (h0:l.getD i 0 ≠ 0):acc l (l.getD i 0) (i + 1) = start l i + size l i :=
 Zmu l _ i h0 hi (by simp [hi])
theorem Zws (l:List Nat) (i:Nat) (hi:i < l.length) (h0:l.getD i 0 ≠ 0):start l i + size l i <= weight l:=by
 rw [<- Zmk l i hi h0];exact Zxe _ _ _
theorem Zgu (l:List Nat) (i k:Nat) (hi:i < l.length) (h0:l.getD i 0 ≠ 0) (h:l.getD i 0 < l.getD k 0 \/ l.getD i 0 = l.getD k 0 /\ i < k):start l i + size l i <= start l k:=by
 rw [<- Zmk l i hi h0];exact Zus l (by omega)
theorem Zhl (l:List Nat) (i:Nat):0 < size l i:=Nat.pow_pos (by decide)
theorem Zgj (l:List Nat) (i:Nat) (h0:l.getD i 0 ≠ 0):start l i = word l i * size l i:=by
 rw [word,if_neg h0]
 exact (Nat.div_mul_cancel (Zxp l _ i)).symm
theorem Zzy (q s m:Nat) (hm:0 < m):q / m = s ↔ s * m <= q /\ q < s * m + m:=by
 rw [Nat.div_eq_iff hm]
 constructor
 ·intro h;constructor <;> omega
 ·intro h;constructor <;> omega
def hit (l:List Nat) (row i:Nat):Prop:=l.getD i 0 ≠ 0 /\ row / size l i = word l i
instance (l:List Nat) (row i:Nat):Decidable (hit l row i):=by unfold hit;infer_instance
theorem apart (l:List Nat) (i k:Nat) (hi:i < l.length) (hk:k < l.length) (h0:l.getD i 0 ≠ 0) (h1:l.getD k 0 ≠ 0) (hne:i ≠ k):start l i + size l i <= start l k \/ start l k + size l k <= start l i:=by
 by_cases h:l.getD i 0 < l.getD k 0 \/ l.getD i 0 = l.getD k 0 /\ i < k
 ·exact .inl (Zgu l i k hi h0 h)
 ·exact .inr (Zgu l k i hk h1 (by omega))
theorem Zka (l:List Nat) (i:Nat) (hi:i < l.length) (h20:∀ x ∈ l,x <= 20) (hw:weight l <= 2 ^ 20):word l i / 2 ^ l.getD i 0 = 0:=by
 by_cases h0:l.getD i 0 = 0
 ·rw [word,if_pos h0];exact Nat.zero_div _
 ·have h1:=Zws l i hi h0
  have h2:=Zgj l i h0
  have h3:=Zhl l i
  have h4:=Zfz h20 i
  have h5:size l i * 2 ^ l.getD i 0 = 2 ^ 20:=by unfold size;rw [<- Nat.pow_add];congr 1;omega
  refine Nat.div_eq_of_lt ?_
  rw [h2] at h1
  have h6:word l i * size l i < 2 ^ l.getD i 0 * size l i:=by rw [Nat.mul_comm (2 ^ _),h5];omega
  exact Nat.lt_of_mul_lt_mul_right h6
theorem Zjz (l:List Nat) (i k:Nat) (hi:i < l.length) (hk:k < l.length) (h20:∀ x ∈ l,x <= 20) (h0:l.getD i 0 ≠ 0) (hne:k ≠ i) (hle:l.getD i 0 <= l.getD k 0):word l k / 2 ^ (l.getD k 0 - l.getD i 0) ≠ word l i:=by
 intro e
 have h1:l.getD k 0 ≠ 0:=by omega
 have h4:=Zfz h20 k
 have hs:size l i = 2 ^ (l.getD k 0 - l.getD i 0) * size l k:=by unfold size;rw [<- Nat.pow_add];congr 1;omega
 have hk':start l k / size l i = word l k / 2 ^ (l.getD k 0 - l.getD i 0):=by
  rw [Zgj l k h1,hs,Nat.mul_comm (2 ^ _) (size l k),<- Nat.div_div_eq_div_mul,Nat.mul_div_cancel _ (Zhl l k)]
 rw [e,Zzy _ _ _ (Zhl l i),<- Zgj l i h0] at hk'
 have:=apart l i k hi hk h0 h1 (Ne.symm hne)
 have:=Zhl l k
 omega
theorem Zfv (l:List Nat) (i:Nat) (hi:i < (words l).length):(words l)[i] = word l i:=by simp [words]
end Go.Proofs.Ytnkpnjnfddjfpaa.M04

namespace Go.Proofs.Ytnkpnjnfddjfpaa.M06
abbrev TF:=Nat -> Nat -> Option Int
def putF (F:TF) (x k:Nat) (v:Int):TF:=fun x' k'=>if x' = x /\ k' = k then some v else F x' k'
def tabK (x n:Nat) (F:TF):Nat -> TF
 | 0=>F
 | k + 1=>putF (tabK x n F k) (x / 2 ^ (n - k)) k (-1)
def tabI (lens ws:List Nat):Nat -> TF
 | 0=>fun _ _=>none
 | i + 1=>if lens.getD i 0 = 0 then tabI lens ws i else tabK (ws.getD i 0) (lens.getD i 0) (putF (tabI lens ws i) (ws.getD i 0) (lens.getD i 0) i) (lens.getD i 0)
end Go.Proofs.Ytnkpnjnfddjfpaa.M06

namespace Go.Proofs.Ytnkpnjnfddjfpaa.M10
open M01 M04 M06
def decF (F:TF) (bs:List Nat):Nat -> Nat -> Nat -> Nat -> Option (Nat × Nat)
 | 0,_,_,_=>none
 | f + 1,x,k,at_=>match F x k with
  | none=>none
  | some s=>if 0 <= s then some (s.toNat,at_) else if at_ + 1 <= 8 * bs.length then decF F bs f (2 * x + bit bs at_) (k + 1) (at_ + 1) else none
def tabOf (l:List Nat):TF:=tabI l (words l) l.length
def sym (l bs:List Nat) (at_:Nat):Option (Nat × Nat):=decF (tabOf l) bs 22 0 0 at_
def Good (l:List Nat) (F:TF) (i:Nat):Prop :=
 ∀ x k v,F x k = some v -> k <= 20 /\ (v = -1 \/ ∃ s:Nat,v = s /\ s < i /\ x = (words l).getD s 0 /\ k = l.getD s 0 /\ 0 < k)
theorem Good.tabK {l:List Nat} {F:TF} {i:Nat} (h:Good l F i) (x n:Nat) (hn:n <= 20):∀ k,k <= n -> Good l (tabK x n F k) i:=by
 intro k
 induction k with
 | zero=>exact fun _=>h
 | succ k ih =>
  intro hk x' k' v hv
  unfold M06.tabK putF at hv
  split at hv
  ·next hc =>
   simp only [Option.some.injEq] at hv
   exact ⟨by omega,.inl hv.symm⟩
  ·exact ih (by omega) x' k' v hv
theorem Zsg (l:List Nat) (h20:∀ x ∈ l,x <= 20):∀ i,i <= l.length -> Good l (tabI l (words l) i) i:=by
 intro i
 induction i with
 | zero=>intro _ x k v hv;simp [tabI] at hv
 | succ i ih =>
  intro hi
  have h1:Good l (tabI l (words l) i) (i + 1):=fun x k v hv=>by
   obtain ⟨a,b⟩:=ih (by omega) x k v hv
   refine ⟨a,?_⟩
   rcases b with b | ⟨s,b1,b2,b3⟩
   ·exact .inl b
   ·exact .inr ⟨s,b1,by omega,b3⟩
  unfold tabI
  split
  ·exact h1
  ·next h0 =>
   have hle:l.getD i 0 <= 20:=Zfz h20 i
   refine Good.tabK ?_ _ _ hle _ (Nat.le_refl _)
   intro x k v hv
   unfold putF at hv
   split at hv
   ·next hc =>
    simp only [Option.some.injEq] at hv
    exact ⟨by omega,.inr ⟨i,hv.symm,by omega,hc.1,hc.2,by omega⟩⟩
   ·exact h1 x k v hv
theorem Zvq (l:List Nat) (h20:∀ x ∈ l,x <= 20):Good l (tabOf l) l.length:=Zsg l h20 _ (Nat.le_refl _)
end Go.Proofs.Ytnkpnjnfddjfpaa.M10

namespace Go.Proofs.Ytnkpnjnfddjfpaa
open Go.RowKit M01 M04 M10
def bitL (bs:List Nat):List Nat:=(List.range (8 * bs.length)).map (bit bs)
theorem Zkb (bs:List Nat):(bitL bs).length = 8 * bs.length:=by simp [bitL]
theorem Zxv (bs:List Nat):∀ x ∈ bitL bs,x < 2:=by
 intro x hx
 simp only [bitL,List.mem_map] at hx
 obtain ⟨i,_,rfl⟩:=hx
 exact Zgq _ _
def bitsN (v n:Nat):List Nat:=(List.range n).map fun j=>v / 2 ^ j % 2
theorem Zqy (bs:List Nat) (x:Nat):bitL (bs ++ [x]) = bitL bs ++ bitsN x 8:=by
 unfold bitL bitsN
 rw [List.length_append,List.length_singleton,Nat.mul_add,List.range_add,List.map_append,List.map_map]
 congr 1
 ·apply List.map_congr_left
  intro i hi
  simp only [List.mem_range] at hi
  unfold bit
  rw [List.getD_eq_getElem?_getD,List.getD_eq_getElem?_getD,List.getElem?_append_left (by omega)]
 ·apply List.map_congr_left
  intro i hi
  simp only [List.mem_range] at hi
  simp only [Function.comp]
  unfold bit
  rw [List.getD_eq_getElem?_getD,List.getElem?_append_right (by omega),show (8 * bs.length + i) / 8 - bs.length = 0 by omega,show (8 * bs.length + i) % 8 = i by omega]
  simp
def hitF (l:List Nat) (x n j:Nat):Prop:=0 < l.getD j 0 /\ n <= l.getD j 0 /\ word l j / 2 ^ (l.getD j 0 - n) = x
instance (l:List Nat) (x n j:Nat):Decidable (hitF l x n j):=by unfold hitF;infer_instance
theorem Zzh (x n:Nat) (F:M06.TF) (x' k':Nat):∀ k,M06.tabK x n F k x' k' = if k' < k /\ x' = x / 2 ^ (n - k') then some (-1) else F x' k':=by
 intro k
 induction k with
 | zero=>simp [M06.tabK]
 | succ k ih =>
  unfold M06.tabK M06.putF
  rw [ih]
  by_cases h:x' = x / 2 ^ (n - k) /\ k' = k
  ·rw [if_pos h,if_pos (by obtain ⟨h1,rfl⟩:=h;exact ⟨by omega,h1⟩)]
  ·rw [if_neg h]
   by_cases h2:k' < k /\ x' = x / 2 ^ (n - k')
   ·rw [if_pos h2,if_pos ⟨by omega,h2.2⟩]
   ·rw [if_neg h2,if_neg]
    rintro ⟨h3,h4⟩
    by_cases e:k' = k
    ·subst e;exact h ⟨h4,rfl⟩
    ·exact h2 ⟨by omega,h4⟩
theorem Zzg (l:List Nat) (i x n:Nat) (hi:i < l.length):M06.tabI l (words l) (i + 1) x n =
  if n < l.getD i 0 /\ x = word l i / 2 ^ (l.getD i 0 - n) then some (-1) else if x = word l i /\ n = l.getD i 0 /\ 0 < l.getD i 0 then some (i:Int) else M06.tabI l (words l) i x n:=by
 have hw:(words l).getD i 0 = word l i:=by rw [List.getD_eq_getElem?_getD,List.getElem?_eq_getElem (by rw [Zcp];exact hi),Option.getD_some,Zfv]
 rw [M06.tabI]
 by_cases h0:l.getD i 0 = 0
 ·rw [if_pos h0,if_neg (by omega),if_neg (by omega)]
 ·rw [if_neg h0,Zzh,hw]
  unfold M06.putF
  by_cases h:n < l.getD i 0 /\ x = word l i / 2 ^ (l.getD i 0 - n)
  ·rw [if_pos h,if_pos h]
  ·rw [if_neg h,if_neg h]
   by_cases h2:x = word l i /\ n = l.getD i 0
   ·rw [if_pos h2,if_pos ⟨h2.1,h2.2,by omega⟩]
   ·rw [if_neg h2,if_neg (fun h3=>h2 ⟨h3.1,h3.2.1⟩)]
theorem Zwv (l:List Nat) (h20:∀ x ∈ l,x <= 20) (x n:Nat):∀ i,i <= l.length →
  (∀ j,j < i -> hitF l x n j -> M06.tabI l (words l) i x n = if n = l.getD j 0 then some (j:Int) else some (-1)) /\ ((∀ j,j < i -> ¬ hitF l x n j) -> M06.tabI l (words l) i x n = none):=by
 intro i
 induction i with
 | zero=>intro _;exact ⟨fun j hj=>by omega,fun _=>rfl⟩
 | succ i ih =>
  intro hi
  obtain ⟨ih1,ih2⟩:=ih (by omega)
  rw [Zzg l i x n hi]
  refine ⟨fun j hj hh=>?_,fun hn=>?_⟩
  ·obtain ⟨h1,h2,h3⟩:=hh
   by_cases e:j = i
   ·subst e
    by_cases hlt:n < l.getD j 0
    ·rw [if_pos ⟨hlt,h3.symm⟩,if_neg (by omega)]
    ·have hn:n = l.getD j 0:=by omega
     rw [if_neg (by omega),if_pos hn,if_pos ⟨by rw [<- h3,hn,Nat.sub_self,Nat.pow_zero,Nat.div_one],hn,h1⟩]
   ·by_cases hc1:n < l.getD i 0 /\ x = word l i / 2 ^ (l.getD i 0 - n)
    ·rw [if_pos hc1,if_neg]
     intro hn
     have:=Zjz l j i (by omega) hi h20 (by omega) (by omega) (by omega)
     rw [<- hn,<- hc1.2] at this
     rw [<- hn,Nat.sub_self] at h3
     simp at h3
     exact this h3.symm
    ·rw [if_neg hc1,if_neg]
     ·exact ih1 j (by omega) ⟨h1,h2,h3⟩
     ·rintro ⟨h4,h5,h6⟩
      have:=Zjz l i j hi (by omega) h20 (by omega) (by omega) (by omega)
      rw [<- h5,h3] at this
      exact this h4
  ·rw [if_neg (fun h=>hn i (by omega) ⟨by omega,by omega,h.2.symm⟩),if_neg (fun h=>hn i (by omega) ⟨h.2.2,by omega,by rw [h.2.1,Nat.sub_self];simp [h.1]⟩)]
   exact ih2 fun j hj=>hn j (by omega)
theorem Zmo (l:List Nat) (h20:∀ x ∈ l,x <= 20) (x n j:Nat) (hj:j < l.length) (h:hitF l x n j):tabOf l x n = if n = l.getD j 0 then some (j:Int) else some (-1) :=
 (Zwv l h20 x n _ (Nat.le_refl _)).1 j hj h
theorem Zvj (l bs:List Nat) (h20:∀ x ∈ l,x <= 20) (f x n at_ j:Nat) (hj:j < l.length) (h:hitF l x n j) (hn:n = l.getD j 0):decF (tabOf l) bs (f + 1) x n at_ = some (j,at_):=by
 unfold decF
 rw [Zmo l h20 x n j hj h,if_pos hn]
 simp
theorem Zyc (l bs:List Nat) (h20:∀ x ∈ l,x <= 20) (f x n at_ j:Nat) (hj:j < l.length) (h:hitF l x n j) (hn:n ≠ l.getD j 0):decF (tabOf l) bs (f + 1) x n at_ = if at_ + 1 <= 8 * bs.length then decF (tabOf l) bs f (2 * x + bit bs at_) (n + 1) (at_ + 1) else none:=by
 rw [decF,Zmo l h20 x n j hj h,if_neg hn]
 rfl
end Go.Proofs.Ytnkpnjnfddjfpaa

namespace Go.Proofs.Ytnkpnjnfddjfpaa.M02
open M01
def rev8 (x:Nat):Nat:=x % 2 * 128 + x / 2 % 2 * 64 + x / 4 % 2 * 32 + x / 8 % 2 * 16 + x / 16 % 2 * 8 + x / 32 % 2 * 4 + x / 64 % 2 * 2 + x / 128 % 2
theorem Zwn:∀ x,x < 256 -> ∀ r,r < 8 -> rev8 x / 2 ^ r % 2 = x / 2 ^ (7 - r) % 2:=by decide +kernel
def rv (l:List Nat):List Nat:=l.map rev8
theorem Zap (l:List Nat):(rv l).length = l.length:=List.length_map _
theorem Zto (l m:List Nat):rv (l ++ m) = rv l ++ rv m:=List.map_append
theorem Zoa (l:List Nat) (h:∀ x ∈ l,x < 256) (i:Nat) (hi:i < 8 * l.length):bit (rv l) i = l.getD (i / 8) 0 / 2 ^ (7 - i % 8) % 2:=by
 have hk:i / 8 < l.length:=by omega
 unfold bit rv
 rw [List.getD_eq_getElem?_getD,List.getElem?_map,List.getElem?_eq_getElem hk,List.getD_eq_getElem?_getD,List.getElem?_eq_getElem hk]
 exact Zwn _ (h _ (List.getElem_mem hk)) _ (Nat.mod_lt _ (by decide))
def numH (B:List Nat) (at_:Nat):Nat -> Nat
 | 0=>0
 | n + 1=>2 * numH B at_ n + bit B (at_ + n)
theorem Zbq (B:List Nat) (at_ n:Nat):numH B at_ n < 2 ^ n:=by
 induction n with
 | zero=>simp [numH]
 | succ n ih =>
  have:=Zgq B (at_ + n)
  simp only [numH,Nat.pow_succ]
  omega
theorem Zkf (B:List Nat) (at_:Nat):numH B at_ 1 = bit B at_:=by simp [numH]
end Go.Proofs.Ytnkpnjnfddjfpaa.M02

namespace Go.Proofs.Ytnkpnjnfddjfpaa.M27
open M01 M02 M04 M06 M10
abbrev nb (B:List Nat):Nat:=8 * B.length
def numG (B:List Nat) (at_ n:Nat):Option (Nat × Nat):=if at_ + n <= nb B then some (numH B at_ n,at_ + n) else none
def toFront (l:List Nat) (k:Nat):List Nat:=l.getD k 0 :: (l.take k ++ l.drop (k + 1))
def pickB (B:List Nat) (at_ g:Nat):List Nat:=((List.range 16).filter fun k=>bit B (at_ + k) = 1).map fun k=>16 * g + k
def pickL (B:List Nat) (f0:Nat):Nat -> Nat -> Nat -> List Nat -> Option (List Nat × Nat)
 | 0,g,at_,out=>some (out,at_)
 | m + 1,g,at_,out=>if bit B (f0 + g) = 1 then (if at_ + 16 <= nb B then pickL B f0 m (g + 1) (at_ + 16) (out ++ pickB B at_ g) else none) else pickL B f0 m (g + 1) at_ out
def pickG (B:List Nat) (at_:Nat):Option (List Nat × Nat) :=
 if at_ + 16 <= nb B then match pickL B at_ 16 0 (at_ + 16) [] with
  | some (out,at2)=>if out = [] then none else some (out,at2)
  | none=>none
 else none
def lenL (B:List Nat):Nat -> Nat -> Nat -> Nat -> List Nat -> Option (List Nat × Nat)
 | 0,_,_,_,_=>none
 | f + 1,k,at_,n,out =>
  if n <= out.length then some (out,at_)
  else if k < 1 \/ 20 < k \/ nb B <= at_ then none
  else if bit B at_ = 0 then lenL B f k (at_ + 1) n (out ++ [k])
  else if nb B <= at_ + 1 then none
  else lenL B f (if bit B (at_ + 1) = 1 then k - 1 else k + 1) (at_ + 2) n out
def lenG (B:List Nat) (at_ n:Nat):Option (List Nat × Nat):=(numG B at_ 5).bind fun p=>lenL B (nb B + 2) p.1 p.2 n []
def onesG (B:List Nat) (tables:Nat):Nat -> Nat -> Nat -> Option (Nat × Nat)
 | 0,_,_=>none
 | f + 1,k,at_=>if nb B <= at_ then none else if bit B at_ = 0 then some (k,at_ + 1) else if k + 1 = tables then none else onesG B tables f (k + 1) (at_ + 1)
def selL (B:List Nat) (tables:Nat):Nat -> List Nat -> Nat -> List Nat -> Option (List Nat × Nat)
 | 0,_,at_,out=>some (out,at_)
 | n + 1,l,at_,out=>(onesG B tables 8 0 at_).bind fun p=>selL B tables n (toFront l p.1) p.2 (out ++ [l.getD p.1 0])
def selG (B:List Nat) (at_ tables:Nat):Option (List Nat × Nat) :=
 (numG B at_ 15).bind fun p=>if p.1 = 0 then none else selL B tables p.1 [0,1,2,3,4,5] p.2 []
def frL (used:List Nat) (most:Nat):List Nat -> List Nat -> List Nat -> Nat -> Option (List Nat)
 | [],_,_,_=>none
 | s :: r,l,out,worth =>
  if used.length + 1 < s \/ (s = used.length + 1) ≠ (r = []) then none
  else if s <= 1 then (if most < out.length + worth * (s + 1) then none else frL used most r l (out ++ List.replicate (worth * (s + 1)) (l.getD 0 0)) (2 * worth))
  else if s = used.length + 1 then (if most < out.length then none else some out)
  else if most < out.length + 1 then none else frL used most r (toFront l (s - 1)) (out ++ [l.getD (s - 1) 0]) 1
def rising:List Nat -> Bool
 | []=>true
 | [_]=>true
 | a :: b :: l=>decide (a < b) && rising (b :: l)
def frontG (used symbols:List Nat) (most:Nat):Option (List Nat):=frL used most symbols used [] 1
def wayL (last:List Nat):List Nat:=(List.range 256).flatMap fun c=>(List.range last.length).filter fun i=>last.getD i 0 = c
def backL (last:List Nat):Nat -> Nat -> List Nat
 | 0,_=>[]
 | n + 1,at_=>last.getD ((wayL last).getD at_ 0) 0 :: backL last n ((wayL last).getD at_ 0)
def backG (last:List Nat) (at_:Nat):Option (List Nat):=if at_ < last.length then some (backL last last.length at_) else none
def sayL:List Nat -> Nat -> Nat -> List Nat
 | [],_,_=>[]
 | c :: r,p,run=>if run = 4 then List.replicate c p ++ sayL r c 0 else c :: sayL r c (if run = 0 \/ c = p then run + 1 else 1)
def say (l:List Nat):List Nat:=sayL l 0 0
def crcBit (v:Nat):Nat:=if 2147483648 <= v then (2 * v % 4294967296).xor 79764919 else 2 * v % 4294967296
def crcTab (c:Nat):Nat:=crcBit (crcBit (crcBit (crcBit (crcBit (crcBit (crcBit (crcBit (c * 16777216))))))))
def crcStep (v c:Nat):Nat:=(v * 256 % 4294967296).xor (crcTab ((v / 16777216).xor c))
def crcHigh (l:List Nat):Nat:=4294967295 - l.foldl crcStep 4294967295
def foldS (all one:Nat):Nat:=((2 * all % 4294967296).xor (all / 2147483648)).xor one
end Go.Proofs.Ytnkpnjnfddjfpaa.M27

namespace Go.Proofs.Ytnkpnjnfddjfpaa
open Go.RowKit M01 M02 M10 M27
theorem Zad:ElemS Try.prog 66 4 encB (.bool false) 1:=⟨Try.underlying66,by kernel_rfl,by kernel_rfl⟩
def hbits (v n:Nat):List Nat:=(List.range n).map fun j=>v / 2 ^ (n - 1 - j) % 2
theorem Zae (v n:Nat):(hbits v n).length = n:=by simp [hbits]
theorem Zcl (v n:Nat):∀ x ∈ hbits v n,x < 2:=by
 intro x hx
 simp only [hbits,List.mem_map] at hx
 obtain ⟨i,_,rfl⟩:=hx
 omega
theorem Zsj:∀ x,x < 256 -> hbits x 8 = bitsN (rev8 x) 8:=by decide +kernel
def partR (f:Nat -> Nat) (n k:Nat):List Nat:=(List.range n).map fun i=>if n - k <= i then f i else 0
theorem Zlu (f:Nat -> Nat) (n k:Nat):(partR f n k).length = n:=by simp [partR]
theorem Zqa (f:Nat -> Nat) (n:Nat):partR f n 0 = List.replicate n 0:=by
 apply List.ext_getElem?
 intro i
 simp only [partR,List.getElem?_map,List.getElem?_replicate]
 by_cases h:i < n
 ·simp [h];intro h2;omega
 ·simp [h]
theorem Zpz (f:Nat -> Nat) (n k m:Nat) (hk:k < n) (hm:m = n - 1 - k):(partR f n k).set m (f m) = partR f n (k + 1):=by
 apply List.ext_getElem?
 intro i
 rw [List.getElem?_set,Zlu]
 unfold partR
 by_cases he:m = i
 ·subst he;rw [if_pos rfl,if_pos (by omega)];simp [show m < n by omega];omega
 ·rw [if_neg he]
  by_cases h:i < n
  ·simp only [List.getElem?_map,List.getElem?_range h,Option.map_some,Option.some.injEq]
   by_cases h2:n - k <= i
   ·rw [if_pos h2,if_pos (by omega)]
   ·rw [if_neg h2,if_neg (by omega)]
  ·simp [h]
theorem Zpy (f:Nat -> Nat) (n:Nat):partR f n n = (List.range n).map f:=by
 unfold partR
 apply List.map_congr_left
 intro i hi
 rw [if_pos (by omega)]
def numHL (l:List Nat):Nat:=l.foldl (fun v b=>2 * v + b) 0
theorem Zge (l:List Nat) (b:Nat):numHL (l ++ [b]) = 2 * numHL l + b:=by simp [numHL]
theorem Zvx (l:List Nat) (h:∀ x ∈ l,x < 2):∀ k,k <= l.length -> numHL (l.take k) < 2 ^ k:=by
 intro k
 induction k with
 | zero=>intro _;simp [numHL]
 | succ k ih =>
  intro hk
  rw [M04.Zbx l k hk,Zge]
  have:=ih (by omega)
  have:=h l[k] (List.getElem_mem hk)
  rw [Nat.pow_succ]
  omega
set_option maxRecDepth 100000 in
set_option maxHeartbeats 800000 in
theorem Zar (v n:Nat) (w:World) (hv:v < 4294967296) (hn:n <= 32) :
  Calls Try.prog 42 #[.int .u32 (v:Nat),.int .i64 (n:Nat)] w fun e w'=>∃ g,e = .returned (.slice (some ⟨g,0,none⟩) n n) /\ OwnB w' w.heap.size (some ⟨g,0,none⟩) n (hbits v n) /\ Below w.heap.size w w':=by
 go_enter Try.func42,Try.ntmps42
 go_wp2_with (first | (at_make;refine makeB (n:=n) Zad rfl _ _ rfl w.heap.size rfl rfl (by omega) (by omega) (Nat.le_refl _) ?_;intro w1 hown1 hg1))
 have HB0:=Zh (Below.of_grown hg1 (Nat.le_refl _) (fun k e=>by cases e))
 obtain ⟨g1,hg⟩:∃ g1,w.heap.size = g1:=⟨_,rfl⟩
 rw [<- Zqa (fun j=>v / 2 ^ (n - 1 - j) % 2) n] at hown1
 have HO:=Zh hown1
 clear hg1 hown1
 simp only [hg]
 rw [hg] at HO
 have HG1:=Zh hg
 clear hg
 go_loopw [0,6] (fun x i A=>∃ k:Nat,k <= n /\ i = .int .i64 k /\ x = .int .u32 (v / 2 ^ k:Nat) /\ OwnB A g1 (some ⟨g1,0,none⟩) n (partR (fun j=>v / 2 ^ (n - 1 - j) % 2) n k) /\ Below w.heap.size w A) (fun x i _=>n - (intOf i).toNat)
 case atStart=>exact ⟨0,by omega,rfl,by simp,HO.out,HB0.out⟩
 case round =>
  clear HO HB0
  obtain ⟨k,hk,rfl,rfl,ho,hb⟩:=hrel
  have HO:=Zh ho
  have HB:=Zh hb
  clear ho hb
  by_cases hlt:k < n
  ·have t0:decide ((k:Nat) < n) = true:=by simp;omega
   obtain ⟨m,hm⟩:∃ m,m = n - 1 - k:=⟨_,rfl⟩
   have hmi:(n:Int) - 1 - (k:Int) = (m:Int):=by omega
   have hmn:m < n:=by omega
   obtain ⟨⟨u,f1⟩,f2⟩:=OwnS.atB HO.out (i:=m) (by rw [Zlu];exact hmn)
   have hstep:=OwnS.storedB HO.out m (v / 2 ^ (n - 1 - m) % 2)
   rw [Zpz _ n k m hlt hm,show n - 1 - m = k by omega] at hstep
   have HS:=Zh hstep
   have HBS:=Zh (HB.out.setCell (p:=⟨g1,m,none⟩) (by show w.heap.size <= g1;have:=HG1.out;omega) (.bool (v / 2 ^ k % 2 == 1)))
   obtain ⟨x,hx⟩:∃ x,v / 2 ^ k = x:=⟨_,rfl⟩
   have hx2:x < 4294967296:=by have:=Nat.div_le_self v (2 ^ k);omega
   have HX2:Hid (v / 2 ^ (k + 1) = x / 2):=by unfold Hid;rw [Nat.pow_succ,<- Nat.div_div_eq_div_mul,hx]
   have HE:Hid ((((x:Nat):Int) % 2 == 1) = (x % 2 == 1)):=by
    unfold Hid
    have:x % 2 = 0 \/ x % 2 = 1:=by omega
    rcases this with h | h
    ·rw [h,show ((x:Nat):Int) % 2 = 0 by omega];rfl
    ·rw [h,show ((x:Nat):Int) % 2 = 1 by omega];rfl
   simp only [hx] at HS HBS ⊢
   clear hx HO HB hstep hm
   go_wp2
   go_roundw
   case rel=>exact ⟨k + 1,by omega,by go_num,by rw [HX2.out];exact Zcw (by omega),by rw [HE.out];exact HS.out,by rw [HE.out];exact HBS.out⟩
   case measure=>simp [intOf];omega
  ·obtain rfl:k = n:=by omega
   go_wp2
   go_ret
   exact ⟨g1,rfl,by rw [HG1.out];have:=HO.out;rw [Zpy] at this;exact this,HB.out⟩
set_option maxRecDepth 100000 in
set_option maxHeartbeats 800000 in
theorem Zlx (a:Option Addr) (c:Nat) (l:List Nat) (w:World) (hr:RowB w a c l) (hl:l.length <= 32) (hb:∀ x ∈ l,x < 2) :
  Calls Try.prog 77 #[.slice a l.length c] w fun e w'=>e = .returned (.int .u32 (numHL l:Nat)) /\ w' = w:=by
 have HR:=Zh hr
 have HB:=Zh hb
 clear hr hb
 go_enter Try.func77,Try.ntmps77
 go_wp2
 go_loopw [3,4] (fun x i A=>∃ k:Nat,k <= l.length /\ i = .int .i64 k /\ x = .int .u32 (numHL (l.take k):Nat) /\ A = w) (fun x i _=>l.length - (intOf i).toNat)
 case atStart=>exact ⟨0,by omega,rfl,by simp [numHL],rfl⟩
 case round =>
  obtain ⟨k,hk,rfl,rfl,rfl⟩:=hrel
  by_cases hlt:k < l.length
  ·obtain ⟨b,off,rfl,hbs,hc⟩:=HR.out.atB hlt
   have hx:=Zvx l HB.out k hk
   have hx3:(2:Nat) ^ k <= 2 ^ 31:=Nat.pow_le_pow_right (by decide) (by omega)
   have HN:Hid (numHL (l.take (k + 1)) = 2 * numHL (l.take k) + l[k]):=by
    unfold Hid
    rw [M04.Zbx l k hlt,Zge]
   have hv2:=HB.out l[k] (List.getElem_mem hlt)
   obtain ⟨y,hy⟩:∃ y,l[k] = y:=⟨_,rfl⟩
   rw [hy] at hc HN hv2
   generalize numHL (l.take k) = x at *
   have hx4:x < 2147483648:=by omega
   have t0:decide ((k:Nat) < l.length) = true:=by simp;omega
   clear hx hx3 hy
   rcases (show y = 0 \/ y = 1 by omega) with rfl | rfl
   ·rw [show ((0:Nat) == 1) = false from rfl] at hc
    go_wp2
    go_roundw
    case rel=>exact ⟨k + 1,by omega,by go_num,by rw [HN.out];exact Zcw (by omega),by trivial⟩
    case measure=>simp [intOf];omega
   ·rw [show ((1:Nat) == 1) = true from rfl] at hc
    go_wp2
    go_roundw
    case rel=>exact ⟨k + 1,by omega,by go_num,by rw [HN.out];exact Zcw (by omega),by trivial⟩
    case measure=>simp [intOf];omega
  ·obtain rfl:k = l.length:=by omega
   rw [List.take_length]
   go_wp2
   go_ret
   exact ⟨rfl,rfl⟩
set_option maxRecDepth 100000 in
set_option maxHeartbeats 800000 in
theorem Zhi (a:Option Addr) (cap:Nat) (bs:List Nat) (w:World) (hr:RowN .u8 w a cap bs) (hb:∀ x ∈ bs,x < 256) (hl:bs.length <= 1000) :
  Calls Try.prog 35 #[.slice a bs.length cap] w fun e w'=>∃ g c,e = .returned (.slice g (bitL (rv bs)).length c) /\ OwnB w' w.heap.size g c (bitL (rv bs)) /\ Below w.heap.size w w':=by
 have HR:=Zh hr
 have HB:=Zh hb
 clear hr hb
 obtain ⟨q,hq⟩:∃ q,w.heap.size = q:=⟨_,rfl⟩
 rw [hq]
 have HQ:=Zh hq
 go_enter Try.func35,Try.ntmps35
 go_wp2
 go_loopw [3,4] (fun x i A=>∃ (k:Nat) (o:List Nat) (g:Option Addr) (c:Nat),k <= bs.length /\ i = .int .i64 k /\ x = .slice g o.length c /\ o = bitL (rv (bs.take k)) /\ OwnB A q g c o /\ Below q w A) (fun x i _=>bs.length - (intOf i).toNat)
 case atStart=>exact ⟨0,[],none,0,by omega,rfl,rfl,by simp [bitL,rv],OwnS.nil _ _ _ _,Below.refl _ _⟩
 case round =>
  clear hq
  obtain ⟨k,o,g,c,hk,rfl,rfl,ho,hown,hbe⟩:=hrel
  have HO:=Zh hown
  have HE:=Zh hbe
  have HOB:=Zh ho
  have hol:o.length = 8 * k:=by rw [ho,Zkb,Zap,List.length_take,Nat.min_eq_left hk]
  have hol2:o.length <= 8000:=by omega
  replace hol:=Zh hol
  clear ho hown hbe
  by_cases hlt:k < bs.length
  ·obtain ⟨b,off,rfl,hbs,hc⟩:=(HR.out.below (HQ.out ▸ HE.out)).at hlt
   have hv:=HB.out bs[k] (List.getElem_mem hlt)
   have HT:Hid (bs.take (k + 1) = bs.take k ++ [bs[k]]):=M04.Zbx bs k hlt
   generalize bs[k] = v at *
   have hwr:q <= wr.heap.size:=by have:=HE.out.size;have:=HQ.out;omega
   have HBI:=Zh (Zar v 8 wr (by omega) (by omega))
   have HWR:=Zh hwr
   have hbl:8 = (hbits v 8).length:=by simp [hbits]
   have HBL:=Zh hbl
   have HRB:=Zh (Zsj v hv)
   clear hwr hbl
   go_wp2_with fail
   refine HBI.out.mono ?_
   rintro e w3 ⟨g3,rfl,ho3,hb3⟩
   have HO3:=Zh (HO.out.below hb3)
   have HR3:=Zh ho3.row
   have HE3:=Zh (HE.out.trans (hb3.mono HWR.out))
   have HW3:Hid (q <= w3.heap.size):=by unfold Hid;have:=hb3.size;have:=HWR.out;omega
   clear HO HE HBI ho3 hb3
   go_wp2_with (at_builtin;refine appAnyS Zad rfl (.tmp 11) (.tmp 17) rfl rfl HO3.out HBL.out rfl HR3.out (by omega) (by omega) HW3.out ?_;intro a7 cap7 w7 hown7 hg7 hb7;replace hown7:=Zh hown7;replace hb7:=Zh (HE3.out.trans hb7);clear hg7)
   go_wp2
   go_roundw
   case rel=>exact ⟨k + 1,o ++ hbits v 8,a7,cap7,by omega,by go_num,by rw [List.length_append,<- HBL.out],by rw [HT.out,Zto,show rv [v] = [rev8 v] from rfl,Zqy,<- HOB.out,HRB.out],hown7.out,hb7.out⟩
   case measure=>simp [intOf];omega
  ·obtain rfl:k = bs.length:=by omega
   go_wp2
   go_ret
   have h1:=HOB.out
   rw [List.take_length] at h1
   subst h1
   exact ⟨g,c,rfl,HO.out,HE.out⟩
end Go.Proofs.Ytnkpnjnfddjfpaa

namespace Go.Proofs.Ytnkpnjnfddjfpaa
open Go.RowKit M01 M02 M10 M27
theorem Zcc {k:IntKind} {w:World} {b off cap:Nat} {l:List Nat} (h:RowN k w (some ⟨b,off,none⟩) cap l) (i:Nat) (hi:i <= l.length) (hc:i < cap):RowN k w (some ⟨b,off + i,none⟩) (cap - i) (l.drop i):=by
 rcases Nat.lt_or_ge i l.length with h1 | h1
 ·exact Ztm h i h1
 ·rw [List.drop_eq_nil_of_le h1]
  exact ⟨by simp,⟨by have:=h.2.1.1;omega,fun e=>by cases e⟩,.inl rfl⟩
set_option maxRecDepth 100000 in
set_option maxHeartbeats 1600000 in
theorem Znn (a:Option Addr) (cap:Nat) (l:List Nat) (k:Nat) (w:World) (hr:RowN .i64 w a cap l) (hk:k < l.length) (hl:l.length <= 1000) :
  Calls Try.prog 132 #[.slice a l.length cap,.int .i64 (k:Nat)] w fun e w'=>∃ g c,e = .returned (.slice g l.length c) /\ OwnN 3 .i64 w' w.heap.size g c (toFront l k) /\ Below w.heap.size w w':=by
 obtain ⟨b,off,rfl,hb,hc⟩:=hr.at hk
 have hcap:=hr.1
 have hcap2:=hr.2.1.1
 have hgd:l.getD k 0 = l[k]:=by rw [List.getD_eq_getElem?_getD,List.getElem?_eq_getElem hk];rfl
 rw [<- hgd] at hc
 have HT:=Zh (Zie hr k)
 have HD:=Zh (fun (hlt:k + 1 < cap)=>Zcc hr (k + 1) (by omega) hlt)
 have htl:(l.take k).length = k:=by simp;omega
 have hdl:(l.drop (k + 1)).length = l.length - (k + 1):=by simp
 have HTF:Hid (toFront l k = l.getD k 0 :: (l.take k ++ l.drop (k + 1))):=rfl
 generalize l.getD k 0 = v at *
 obtain ⟨tk,htk⟩:∃ tk,tk = l.take k:=⟨_,rfl⟩
 obtain ⟨dk,hdk⟩:∃ dk,dk = l.drop (k + 1):=⟨_,rfl⟩
 rw [<- htk] at HT HTF htl
 rw [<- hdk] at HD HTF hdl
 obtain ⟨j,hj⟩:∃ j,k + 1 = j:=⟨_,rfl⟩
 rw [hj] at HD hdl
 obtain ⟨n,hn⟩:∃ n,l.length = n:=⟨_,rfl⟩
 rw [hn] at hdl hk hl hcap ⊢
 have hkc:k <= cap:=by omega
 have hki:(k:Int) < (n:Int):=by omega
 have hkn:j <= n:=by omega
 have HJ:=Zh hj
 have hLIT:=OwnN.lit (k:=.i64) 3 w w.heap.size [v] #[.int .i64 (v:Nat)] w.heap.size rfl rfl (Nat.le_refl _) (by simp [maxLen])
 have HLIT:=Zh hLIT
 have HBX:=Zh (Zai w (.cells #[.int .i64 (v:Nat)] 3))
 have HTL:=Zh htl.symm
 have HDL:=Zh hdl.symm
 have HNM:=Zh (show 1 + k + (n - j) = n by omega)
 obtain ⟨o1,ho1⟩:∃ o1,o1 = [v] ++ tk:=⟨_,rfl⟩
 have HL1:Hid (o1.length = 1 + k):=by unfold Hid;rw [ho1,List.length_append,<- HTL.out];rfl
 have HO1E:=Zh ho1
 clear ho1
 have hk1:IntKind.i64.wrap ((k:Int) + 1) = (j:Int):=by rw [IntWalk.i64_in _ (by omega)];omega
 have hk2:(k:Int) + 1 = (j:Int):=by omega
 have hkm:k + (n - j) <= 1000:=by omega
 clear hr hgd htk hdk hn htl hdl hLIT
 clear hj
 by_cases hcc:j = cap
 ·have HDL0:Hid (0 = dk.length):=by unfold Hid;have:=HDL.out;omega
  have HDN:Hid (∀ A (p:Option Addr) c',c' <= 9223372036854775807 -> (p = none -> c' = 0) -> RowN .i64 A p c' dk):=by
   unfold Hid
   intro A p c' h1 h2
   have:dk = []:=List.eq_nil_of_length_eq_zero HDL0.out.symm
   rw [this]
   exact ⟨by simp,⟨h1,h2⟩,.inl rfl⟩
  go_enter Try.func132,Try.ntmps132
  go_wp2_with (first | (at_builtin;refine appAnyN Zaz rfl (.tmp 11) (.tmp 14) rfl rfl HLIT.out HTL.out rfl (HT.out.below HBX.out) (by simp;omega) (by simp;omega) (by simp) ?_;intro a1 c1 w1 hown1 hg1 hb1;have HO1:Hid (OwnN 3 .i64 w1 w.heap.size a1 c1 o1):=(by unfold Hid;rw [HO1E.out];exact hown1);have HB1:=Zh (HBX.out.trans hb1);clear hown1 hg1 hb1) | (at_builtin;refine appAnyN Zaz rfl (.tmp 16) (.tmp 20) rfl (show _ = Value.slice a1 o1.length c1 by rw [HL1.out];rfl) HO1.out HDL0.out rfl (HDN.out _ _ _ (by omega) (by simp)) (by rw [HL1.out];omega) (by rw [HL1.out];omega) HB1.out.size ?_;intro a2 c2 w2 hown2 hg2 hb2;have HO2:=Zh hown2;have HB2:=Zh (HB1.out.trans hb2);clear hown2 hg2 hb2))
  go_ret
  have hd:toFront l k = o1 ++ dk:=by rw [HTF.out,HO1E.out];rfl
  exact ⟨a2,c2,by have h1:=HL1.out;have h2:=HNM.out;refine congrArg Ending.returned ?_;simp;omega,by rw [hd];exact HO2.out,HB2.out⟩
 ·have hlt:j < cap:=by omega
  have HD2:=Zh (HD.out hlt)
  clear HD
  go_enter Try.func132,Try.ntmps132
  go_wp2_with (first | (at_builtin;refine appAnyN Zaz rfl (.tmp 11) (.tmp 14) rfl rfl HLIT.out HTL.out rfl (HT.out.below HBX.out) (by simp;omega) (by simp;omega) (by simp) ?_;intro a1 c1 w1 hown1 hg1 hb1;have HO1:Hid (OwnN 3 .i64 w1 w.heap.size a1 c1 o1):=(by unfold Hid;rw [HO1E.out];exact hown1);have HB1:=Zh (HBX.out.trans hb1);clear hown1 hg1 hb1) | (at_builtin;refine appAnyN Zaz rfl (.tmp 16) (.tmp 20) rfl (show _ = Value.slice a1 o1.length c1 by rw [HL1.out];rfl) HO1.out HDL.out rfl (HD2.out.below HB1.out) (by rw [HL1.out];omega) (by rw [HL1.out];omega) HB1.out.size ?_;intro a2 c2 w2 hown2 hg2 hb2;have HO2:=Zh hown2;have HB2:=Zh (HB1.out.trans hb2);clear hown2 hg2 hb2))
  go_ret
  have hd:toFront l k = o1 ++ dk:=by rw [HTF.out,HO1E.out];rfl
  exact ⟨a2,c2,by have h1:=HL1.out;have h2:=HNM.out;refine congrArg Ending.returned ?_;simp;omega,by rw [hd];exact HO2.out,HB2.out⟩
set_option maxRecDepth 100000 in
set_option maxHeartbeats 1600000 in
theorem Znm (a:Option Addr) (cap:Nat) (l:List Nat) (k:Nat) (w:World) (hr:RowN .u8 w a cap l) (hk:k < l.length) (hl:l.length <= 1000) :
  Calls Try.prog 163 #[.slice a l.length cap,.int .i64 (k:Nat)] w fun e w'=>∃ g c,e = .returned (.slice g l.length c) /\ OwnN 5 .u8 w' w.heap.size g c (toFront l k) /\ Below w.heap.size w w':=by
 obtain ⟨b,off,rfl,hb,hc⟩:=hr.at hk
 have hcap:=hr.1
 have hcap2:=hr.2.1.1
 have hgd:l.getD k 0 = l[k]:=by rw [List.getD_eq_getElem?_getD,List.getElem?_eq_getElem hk];rfl
 rw [<- hgd] at hc
 have HT:=Zh (Zie hr k)
 have HD:=Zh (fun (hlt:k + 1 < cap)=>Zcc hr (k + 1) (by omega) hlt)
 have htl:(l.take k).length = k:=by simp;omega
 have hdl:(l.drop (k + 1)).length = l.length - (k + 1):=by simp
 have HTF:Hid (toFront l k = l.getD k 0 :: (l.take k ++ l.drop (k + 1))):=rfl
 generalize l.getD k 0 = v at *
 obtain ⟨tk,htk⟩:∃ tk,tk = l.take k:=⟨_,rfl⟩
 obtain ⟨dk,hdk⟩:∃ dk,dk = l.drop (k + 1):=⟨_,rfl⟩
 rw [<- htk] at HT HTF htl
 rw [<- hdk] at HD HTF hdl
 obtain ⟨j,hj⟩:∃ j,k + 1 = j:=⟨_,rfl⟩
 rw [hj] at HD hdl
 obtain ⟨n,hn⟩:∃ n,l.length = n:=⟨_,rfl⟩
 rw [hn] at hdl hk hl hcap ⊢
 have hkc:k <= cap:=by omega
 have hki:(k:Int) < (n:Int):=by omega
 have hkn:j <= n:=by omega
 have HJ:=Zh hj
 have hLIT:=OwnN.lit (k:=.u8) 5 w w.heap.size [v] #[.int .u8 (v:Nat)] w.heap.size rfl rfl (Nat.le_refl _) (by simp [maxLen])
 have HLIT:=Zh hLIT
 have HBX:=Zh (Zai w (.cells #[.int .u8 (v:Nat)] 5))
 have HTL:=Zh htl.symm
 have HDL:=Zh hdl.symm
 have HNM:=Zh (show 1 + k + (n - j) = n by omega)
 obtain ⟨o1,ho1⟩:∃ o1,o1 = [v] ++ tk:=⟨_,rfl⟩
 have HL1:Hid (o1.length = 1 + k):=by unfold Hid;rw [ho1,List.length_append,<- HTL.out];rfl
 have HO1E:=Zh ho1
 clear ho1
 have hk1:IntKind.i64.wrap ((k:Int) + 1) = (j:Int):=by rw [IntWalk.i64_in _ (by omega)];omega
 have hk2:(k:Int) + 1 = (j:Int):=by omega
 have hkm:k + (n - j) <= 1000:=by omega
 clear hr hgd htk hdk hn htl hdl hLIT
 clear hj
 by_cases hcc:j = cap
 ·have HDL0:Hid (0 = dk.length):=by unfold Hid;have:=HDL.out;omega
  have HDN:Hid (∀ A (p:Option Addr) c',c' <= 9223372036854775807 -> (p = none -> c' = 0) -> RowN .u8 A p c' dk):=by
   unfold Hid
   intro A p c' h1 h2
   have:dk = []:=List.eq_nil_of_length_eq_zero HDL0.out.symm
   rw [this]
   exact ⟨by simp,⟨h1,h2⟩,.inl rfl⟩
  go_enter Try.func163,Try.ntmps163
  go_wp2_with (first | (at_builtin;refine appAnyN Zbl rfl (.tmp 11) (.tmp 14) rfl rfl HLIT.out HTL.out rfl (HT.out.below HBX.out) (by simp;omega) (by simp;omega) (by simp) ?_;intro a1 c1 w1 hown1 hg1 hb1;have HO1:Hid (OwnN 5 .u8 w1 w.heap.size a1 c1 o1):=(by unfold Hid;rw [HO1E.out];exact hown1);have HB1:=Zh (HBX.out.trans hb1);clear hown1 hg1 hb1) | (at_builtin;refine appAnyN Zbl rfl (.tmp 16) (.tmp 20) rfl (show _ = Value.slice a1 o1.length c1 by rw [HL1.out];rfl) HO1.out HDL0.out rfl (HDN.out _ _ _ (by omega) (by simp)) (by rw [HL1.out];omega) (by rw [HL1.out];omega) HB1.out.size ?_;intro a2 c2 w2 hown2 hg2 hb2;have HO2:=Zh hown2;have HB2:=Zh (HB1.out.trans hb2);clear hown2 hg2 hb2))
  go_ret
  have hd:toFront l k = o1 ++ dk:=by rw [HTF.out,HO1E.out];rfl
  exact ⟨a2,c2,by have h1:=HL1.out;have h2:=HNM.out;refine congrArg Ending.returned ?_;simp;omega,by rw [hd];exact HO2.out,HB2.out⟩
 ·have hlt:j < cap:=by omega
  have HD2:=Zh (HD.out hlt)
  clear HD
  go_enter Try.func163,Try.ntmps163
  go_wp2_with (first | (at_builtin;refine appAnyN Zbl rfl (.tmp 11) (.tmp 14) rfl rfl HLIT.out HTL.out rfl (HT.out.below HBX.out) (by simp;omega) (by simp;omega) (by simp) ?_;intro a1 c1 w1 hown1 hg1 hb1;have HO1:Hid (OwnN 5 .u8 w1 w.heap.size a1 c1 o1):=(by unfold Hid;rw [HO1E.out];exact hown1);have HB1:=Zh (HBX.out.trans hb1);clear hown1 hg1 hb1) | (at_builtin;refine appAnyN Zbl rfl (.tmp 16) (.tmp 20) rfl (show _ = Value.slice a1 o1.length c1 by rw [HL1.out];rfl) HO1.out HDL.out rfl (HD2.out.below HB1.out) (by rw [HL1.out];omega) (by rw [HL1.out];omega) HB1.out.size ?_;intro a2 c2 w2 hown2 hg2 hb2;have HO2:=Zh hown2;have HB2:=Zh (HB1.out.trans hb2);clear hown2 hg2 hb2))
  go_ret
  have hd:toFront l k = o1 ++ dk:=by rw [HTF.out,HO1E.out];rfl
  exact ⟨a2,c2,by have h1:=HL1.out;have h2:=HNM.out;refine congrArg Ending.returned ?_;simp;omega,by rw [hd];exact HO2.out,HB2.out⟩
end Go.Proofs.Ytnkpnjnfddjfpaa

namespace Go.Proofs.Ytnkpnjnfddjfpaa.M27
def nums:List Nat :=
 [619,720,127,481,931,816,813,233,566,247,985,724,205,454,863,491,741,242,949,214,733,859,335,708,621,574,73,654,730,472,419,436] ++
 [278,496,867,210,399,680,480,51,878,465,811,169,869,675,611,697,867,561,862,687,507,283,482,129,807,591,733,623,150,238,59,379] ++
 [684,877,625,169,643,105,170,607,520,932,727,476,693,425,174,647,73,122,335,530,442,853,695,249,445,515,909,545,703,919,874,474] ++
 [882,500,594,612,641,801,220,162,819,984,589,513,495,799,161,604,958,533,221,400,386,867,600,782,382,596,414,171,516,375,682,485] ++
 [911,276,98,553,163,354,666,933,424,341,533,870,227,730,475,186,263,647,537,686,600,224,469,68,770,919,190,373,294,822,808,206] ++
 [184,943,795,384,383,461,404,758,839,887,715,67,618,276,204,918,873,777,604,560,951,160,578,722,79,804,96,409,713,940,652,934] ++
 [970,447,318,353,859,672,112,785,645,863,803,350,139,93,354,99,820,908,609,772,154,274,580,184,79,626,630,742,653,282,762,623] ++
 [680,81,927,626,789,125,411,521,938,300,821,78,343,175,128,250,170,774,972,275,999,639,495,78,352,126,857,956,358,619,580,124] ++
 [737,594,701,612,669,112,134,694,363,992,809,743,168,974,944,375,748,52,600,747,642,182,862,81,344,805,988,739,511,655,814,334] ++
 [249,515,897,955,664,981,649,113,974,459,893,228,433,837,553,268,926,240,102,654,459,51,686,754,806,760,493,403,415,394,687,700] ++
 [946,670,656,610,738,392,760,799,887,653,978,321,576,617,626,502,894,679,243,440,680,879,194,572,640,724,926,56,204,700,707,151] ++
 [457,449,797,195,791,558,945,679,297,59,87,824,713,663,412,693,342,606,134,108,571,364,631,212,174,643,304,329,343,97,430,751] ++
 [497,314,983,374,822,928,140,206,73,263,980,736,876,478,430,305,170,514,364,692,829,82,855,953,676,246,369,970,294,750,807,827] ++
 [150,790,288,923,804,378,215,828,592,281,565,555,710,82,896,831,547,261,524,462,293,465,502,56,661,821,976,991,658,869,905,758] ++
 [745,193,768,550,608,933,378,286,215,979,792,961,61,688,793,644,986,403,106,366,905,644,372,567,466,434,645,210,389,550,919,135] ++
 [780,773,635,389,707,100,626,958,165,504,920,176,193,713,857,265,203,50,668,108,645,990,626,197,510,357,358,850,858,364,936,638]
set_option maxRecDepth 100000 in
theorem Zfg:nums.length = 512:=by decide +kernel
set_option maxRecDepth 100000 in
theorem Zyo:(nums.all fun k=>decide (2 <= k) && decide (k < 1000)) = true:=by decide +kernel
theorem Zuu (L:List Nat) (p:Nat -> Bool) (h:L.all p = true) (i:Nat) (hi:i < L.length):p (L.getD i 0) = true:=by
 rw [List.getD_eq_getElem?_getD,List.getElem?_eq_getElem hi]
 exact List.all_eq_true.1 h _ (List.getElem_mem hi)
theorem Zst (i:Nat) (hi:i < 512):2 <= nums.getD i 0 /\ nums.getD i 0 < 1000:=by
 have h:=Zuu nums _ Zyo i (by rw [Zfg];exact hi)
 generalize nums.getD i 0 = x at *
 simp only [Bool.and_eq_true,decide_eq_true_eq] at h
 exact h
def maskSum:Nat -> Nat
 | 0=>0
 | i + 1=>maskSum i + nums.getD (i % 512) 0
theorem Zbh (i:Nat):maskSum i + 2 <= maskSum (i + 1) /\ maskSum (i + 1) < maskSum i + 1000:=by
 have h:=Zst (i % 512) (by omega)
 have e:maskSum (i + 1) = maskSum i + nums.getD (i % 512) 0:=rfl
 rw [e]
 generalize nums.getD (i % 512) 0 = x at *
 omega
theorem Zec:∀ i,2 * i <= maskSum i
 | 0=>Nat.zero_le _
 | i + 1=>by have:=Zec i;have:=Zbh i;omega
theorem Zdn {i j : Nat} (h : i ≤ j) : maskSum i ≤ maskSum j := by
  induction j with
  | zero => obtain rfl : i = 0 := by omega
            exact Nat.le_refl _
  | succ j ih =>
    rcases Nat.lt_or_ge j i with h1 | h1
    · obtain rfl : i = j + 1 := by omega
      exact Nat.le_refl _
    · have := ih h1; have := Zbh j; omega
def maskAt (i:Nat):Nat:=maskSum (i + 1) - 2
def maskN (n:Nat):Nat -> Nat -> Nat
 | 0,i=>i
 | f + 1,i=>if maskAt i < n then maskN n f (i + 1) else i
def maskCnt (n:Nat):Nat:=maskN n n 0
theorem Zgc (n:Nat):∀ f i,n <= f + i -> (∀ j,j < i -> maskAt j < n) -> (∀ j,j < maskN n f i -> maskAt j < n) /\ n <= maskAt (maskN n f i)
 | 0,i,h,hj=>by
  refine ⟨hj,?_⟩
  show n <= maskAt i
  have:=Zec (i + 1)
  unfold maskAt
  omega
 | f + 1,i,h,hj=>by
  unfold maskN
  by_cases h1:maskAt i < n
  ·rw [if_pos h1]
   exact Zgc n f (i + 1) (by omega) (fun j hj'=>by
    rcases Nat.lt_or_ge j i with h2 | h2
    ·exact hj j h2
    ·obtain rfl:j = i:=by omega
     exact h1)
  ·rw [if_neg h1]
   exact ⟨hj,by omega⟩
theorem Zgb (n j:Nat) (h:j < maskCnt n):maskAt j < n:=(Zgc n n 0 (by omega) (fun j hj=>by omega)).1 j h
theorem Zjg (n:Nat):n <= maskAt (maskCnt n):=(Zgc n n 0 (by omega) (fun j hj=>by omega)).2
theorem Zjh {n i:Nat} (h1:∀ j,j < i -> maskAt j < n) (h2:n <= maskAt i):i = maskCnt n:=by
 rcases Nat.lt_trichotomy i (maskCnt n) with h | h | h
 ·have:=Zgb n i h;omega
 ·exact h
 ·have:=h1 _ h;have:=Zjg n;omega
def turnAt (l:List Nat):Nat -> List Nat
 | 0=>l
 | i + 1=>(turnAt l i).set (maskAt i) ((turnAt l i).getD (maskAt i) 0 ^^^ 1)
def masked (l:List Nat):List Nat:=turnAt l (maskCnt l.length)
theorem Zaw (l:List Nat):∀ i,(turnAt l i).length = l.length
 | 0=>rfl
 | i + 1=>by unfold turnAt;rw [List.length_set,Zaw l i]
theorem Zch (l:List Nat) (h:∀ x ∈ l,x < 256):∀ i,∀ x ∈ turnAt l i,x < 256
 | 0=>h
 | i + 1=>by
  intro x hx
  unfold turnAt at hx
  rcases List.mem_or_eq_of_mem_set hx with hx | rfl
  ·exact Zch l h i x hx
  ·have:(turnAt l i).getD (maskAt i) 0 < 2 ^ 8:=by
    rw [List.getD_eq_getElem?_getD]
    cases e:(turnAt l i)[maskAt i]? with
    | none=>decide
    | some y=>exact Zch l h i y (List.mem_of_getElem? e)
   exact Nat.xor_lt_two_pow (n:=8) this (by decide)
end Go.Proofs.Ytnkpnjnfddjfpaa.M27

namespace Go.Proofs.Ytnkpnjnfddjfpaa.M27
open M01 M02 M04 M06 M10
def tabsL (B:List Nat) (n:Nat):Nat -> Nat -> List (List Nat) -> Option (List (List Nat) × Nat)
 | 0,at_,out=>some (out,at_)
 | m + 1,at_,out=>(lenG B at_ n).bind fun p=>if (wordsE p.1).2 = 0 then tabsL B n m p.2 (out ++ [p.1]) else none
def nextG (B:List Nat) (tabs:List (List Nat)) (group:List Nat) (k at_:Nat):Option (Nat × Nat) :=
 if k / 50 < group.length then sym (tabs.getD (group.getD (k / 50) 0) []) B at_ else none
def symsG (B:List Nat) (tabs:List (List Nat)) (group:List Nat) (e:Nat):Nat -> Nat -> List Nat -> Option (List Nat × Nat)
 | 0,_,_=>none
 | f + 1,at_,out=>(nextG B tabs group out.length at_).bind fun p=>if p.1 = e then some (out ++ [p.1],p.2) else symsG B tabs group e f p.2 (out ++ [p.1])
def blk8 (B:List Nat) (most s m pl:Nat) (used syms:List Nat) (at_:Nat):Option (List Nat × Nat × Nat) :=
 (frontG used syms most).bind fun f=>(backG f pl).bind fun b=>some (if m = 1 then masked b else b,s,at_)
def blk7 (B:List Nat) (most s m pl:Nat) (used group:List Nat) (tabs:List (List Nat)) (at_:Nat):Option (List Nat × Nat × Nat) :=
 (symsG B tabs group (used.length + 1) (50 * group.length + 1) at_ []).bind fun y=>blk8 B most s m pl used y.1 y.2
def blk6 (B:List Nat) (most s m pl:Nat) (used:List Nat) (mn:Nat) (group:List Nat) (at_:Nat):Option (List Nat × Nat × Nat) :=
 (tabsL B (used.length + 2) mn at_ []).bind fun t=>blk7 B most s m pl used group t.1 t.2
def blk5 (B:List Nat) (most s m pl:Nat) (used:List Nat) (mn at_:Nat):Option (List Nat × Nat × Nat) :=
 if mn < 2 \/ 6 < mn then none else (selG B at_ mn).bind fun g=>blk6 B most s m pl used mn g.1 g.2
def blk4 (B:List Nat) (most s m pl:Nat) (used:List Nat) (at_:Nat):Option (List Nat × Nat × Nat) :=
 (numG B at_ 3).bind fun mn=>blk5 B most s m pl used mn.1 mn.2
def blk3 (B:List Nat) (most s m pl at_:Nat):Option (List Nat × Nat × Nat):=(pickG B at_).bind fun u=>blk4 B most s m pl u.1 u.2
def blk2 (B:List Nat) (most s m at_:Nat):Option (List Nat × Nat × Nat):=(numG B at_ 24).bind fun pl=>blk3 B most s m pl.1 pl.2
def blk1 (B:List Nat) (most s at_:Nat):Option (List Nat × Nat × Nat):=(numG B at_ 1).bind fun m=>blk2 B most s m.1 m.2
def blkG (B:List Nat) (at_ most:Nat):Option (List Nat × Nat × Nat):=(numG B at_ 32).bind fun s=>blk1 B most s.1 s.2
end Go.Proofs.Ytnkpnjnfddjfpaa.M27

namespace Go.Proofs.Ytnkpnjnfddjfpaa.M27
def cnt (last:List Nat) (c:Nat):Nat -> Nat
 | 0=>0
 | i + 1=>cnt last c i + if last.getD i 0 = c then 1 else 0
def below (last:List Nat) (i:Nat):Nat -> Nat
 | 0=>0
 | c + 1=>below last i c + cnt last c i
def posW (last:List Nat) (i:Nat):Nat:=below last last.length (last.getD i 0) + cnt last (last.getD i 0) i
def eqs (last:List Nat) (c n:Nat):List Nat:=(List.range n).filter fun i=>last.getD i 0 = c
theorem Zod (last:List Nat) (c n:Nat):eqs last c (n + 1) = eqs last c n ++ if last.getD n 0 = c then [n] else []:=by
 unfold eqs
 rw [List.range_succ,List.filter_append]
 by_cases h:last.getD n 0 = c
 ·rw [if_pos h,List.filter_cons_of_pos (by simpa using h),List.filter_nil]
 ·rw [if_neg h,List.filter_cons_of_neg (by simpa using h),List.filter_nil]
theorem Zkd (last:List Nat) (c:Nat):∀ n,(eqs last c n).length = cnt last c n
 | 0=>by simp [eqs,cnt]
 | n + 1=>by
  rw [Zod,List.length_append,Zkd last c n,cnt]
  split <;> simp
theorem Zro (last:List Nat) (c:Nat):∀ n,cnt last c n <= n
 | 0=>by simp [cnt]
 | n + 1=>by have:=Zro last c n;unfold cnt;split <;> omega
theorem Zxg (last:List Nat) (c i:Nat) (hc:last.getD i 0 = c):∀ n,i < n -> (eqs last c n)[cnt last c i]? = some i
 | 0,h=>by omega
 | n + 1,h=>by
  rw [Zod]
  rcases Nat.lt_or_ge i n with h1 | h1
  ·have:=Zxg last c i hc n h1
   rw [List.getElem?_append_left (List.getElem?_eq_some_iff.1 this).1]
   exact this
  ·obtain rfl:i = n:=by omega
   rw [if_pos hc,List.getElem?_append_right (by rw [Zkd];exact Nat.le_refl _),Zkd]
   simp
theorem Zrw (last:List Nat) (c:Nat):∀ n q,q < cnt last c n -> ∃ j,j < n /\ last.getD j 0 = c /\ q = cnt last c j
 | 0,q,h=>by simp [cnt] at h
 | n + 1,q,h=>by
  rcases Nat.lt_or_ge q (cnt last c n) with h1 | h1
  ·obtain ⟨j,h2,h3,h4⟩:=Zrw last c n q h1
   exact ⟨j,by omega,h3,h4⟩
  ·unfold cnt at h
   split at h
   ·exact ⟨n,by omega,by assumption,by omega⟩
   ·omega
def wayK (last:List Nat) (n K:Nat):List Nat:=(List.range K).flatMap fun c=>eqs last c n
theorem Zmr (last:List Nat) (n K:Nat):wayK last n (K + 1) = wayK last n K ++ eqs last K n:=by
 unfold wayK;rw [List.range_succ,List.flatMap_append];simp
theorem Zhp (last:List Nat) (n:Nat):∀ K,(wayK last n K).length = below last n K
 | 0=>by simp [wayK,below]
 | K + 1=>by rw [Zmr,List.length_append,Zhp last n K,Zkd,below]
theorem Zuj (last:List Nat) (n c i:Nat) (hc:last.getD i 0 = c) (hi:i < n):∀ K,c < K -> (wayK last n K)[below last n c + cnt last c i]? = some i
 | 0,h=>by omega
 | K + 1,h=>by
  rw [Zmr]
  rcases Nat.lt_or_ge c K with h1 | h1
  ·have:=Zuj last n c i hc hi K h1
   rw [List.getElem?_append_left (List.getElem?_eq_some_iff.1 this).1]
   exact this
  ·obtain rfl:c = K:=by omega
   rw [List.getElem?_append_right (by rw [Zhp];omega),Zhp,Nat.add_sub_cancel_left]
   exact Zxg last c i hc n hi
theorem Zpe (last:List Nat) (n:Nat):∀ K p,p < below last n K -> ∃ j,j < n /\ last.getD j 0 < K /\ p = below last n (last.getD j 0) + cnt last (last.getD j 0) j
 | 0,p,h=>by simp [below] at h
 | K + 1,p,h=>by
  rcases Nat.lt_or_ge p (below last n K) with h1 | h1
  ·obtain ⟨j,h2,h3,h4⟩:=Zpe last n K p h1
   exact ⟨j,h2,by omega,h4⟩
  ·unfold below at h
   obtain ⟨j,h2,h3,h4⟩:=Zrw last K n (p - below last n K) (by omega)
   exact ⟨j,h2,by omega,by rw [h3];omega⟩
theorem Zfw (last:List Nat) (i:Nat):∀ K,below last (i + 1) K = below last i K + if last.getD i 0 < K then 1 else 0
 | 0=>by simp [below]
 | K + 1=>by
  unfold below
  rw [Zfw last i K,cnt]
  split <;> split <;> split <;> omega
theorem Zhq (last:List Nat) (K:Nat) (h:∀ x ∈ last,x < K):∀ i,i <= last.length -> below last i K = i
 | 0,_=>by
  have:∀ K,below last 0 K = 0:=fun K=>by induction K with
   | zero=>rfl
   | succ K ih=>simp [below,cnt,ih]
  exact this K
 | i + 1,hi=>by
  rw [Zfw,Zhq last K h i (by omega),if_pos]
  rw [List.getD_eq_getElem?_getD,List.getElem?_eq_getElem (by omega)]
  exact h _ (List.getElem_mem _)
theorem Zzk (last:List Nat):wayL last = wayK last last.length 256:=rfl
theorem Zel (last:List Nat) (h:∀ x ∈ last,x < 256):(wayL last).length = last.length:=by
 rw [Zzk,Zhp,Zhq last 256 h _ (Nat.le_refl _)]
theorem Zsf {last:List Nat} (h:∀ x ∈ last,x < 256) {i:Nat} (hi:i < last.length):last.getD i 0 < 256:=by
 rw [List.getD_eq_getElem?_getD,List.getElem?_eq_getElem hi]
 exact h _ (List.getElem_mem _)
theorem Zkt (last:List Nat) (h:∀ x ∈ last,x < 256) {i:Nat} (hi:i < last.length):(wayL last)[posW last i]? = some i :=
 Zuj last last.length _ i rfl hi 256 (Zsf h hi)
theorem Zys (last:List Nat) (h:∀ x ∈ last,x < 256) {i:Nat} (hi:i < last.length):posW last i < last.length:=by
 have:=(List.getElem?_eq_some_iff.1 (Zkt last h hi)).1
 rwa [Zel last h] at this
theorem Zyt (last:List Nat) (h:∀ x ∈ last,x < 256) {i j:Nat} (hi:i < last.length) (hj:j < last.length) (hn:i ≠ j):posW last i ≠ posW last j:=by
 intro e
 have h1:=Zkt last h hi
 have h2:=Zkt last h hj
 rw [e,h2] at h1
 exact hn (Option.some.inj h1).symm
theorem Zzm (last out:List Nat) (h:∀ x ∈ last,x < 256) (hl:out.length = last.length) (ho:∀ j,j < last.length -> out[posW last j]? = some j):out = wayL last:=by
 apply List.ext_getElem?
 intro p
 rcases Nat.lt_or_ge p last.length with hp | hp
 ·obtain ⟨j,h1,h2,h3⟩:=Zpe last last.length 256 p (by rw [Zhq last 256 h _ (Nat.le_refl _)];exact hp)
  have e:p = posW last j:=h3
  rw [e,ho j h1,Zkt last h h1]
 ·rw [List.getElem?_eq_none (by omega),List.getElem?_eq_none (by rw [Zel last h];exact hp)]
theorem Zzl (last:List Nat):∀ x ∈ wayL last,x < last.length:=by
 intro x hx
 unfold wayL at hx
 obtain ⟨c,_,h2⟩:=List.mem_flatMap.1 hx
 exact List.mem_range.1 (List.mem_filter.1 h2).1
def walkAt (w:List Nat) (at_:Nat):Nat -> Nat
 | 0=>at_
 | i + 1=>w.getD (walkAt w at_ i) 0
theorem Zft (last:List Nat) (h:∀ x ∈ last,x < 256) (at_:Nat) (ha:at_ < last.length):∀ i,walkAt (wayL last) at_ i < last.length
 | 0=>ha
 | i + 1=>by
  have:=Zft last h at_ ha i
  unfold walkAt
  rw [List.getD_eq_getElem?_getD,List.getElem?_eq_getElem (by rw [Zel last h];exact this)]
  exact Zzl last _ (List.getElem_mem _)
def walked (last:List Nat) (at_ i:Nat):List Nat:=(List.range i).map fun k=>last.getD (walkAt (wayL last) at_ (k + 1)) 0
theorem Znt (last:List Nat) (at_ i:Nat):walked last at_ (i + 1) = walked last at_ i ++ [last.getD (walkAt (wayL last) at_ (i + 1)) 0]:=by
 unfold walked;rw [List.range_succ,List.map_append];rfl
theorem Zgm (last:List Nat) (at_ i:Nat):(walked last at_ i).length = i:=by simp [walked]
theorem Zgw (w:List Nat) (at_:Nat):∀ i,walkAt w (w.getD at_ 0) i = walkAt w at_ (i + 1)
 | 0=>rfl
 | i + 1=>by show w.getD (walkAt w (w.getD at_ 0) i) 0 = _;rw [Zgw w at_ i];rfl
theorem Zet (last:List Nat):∀ n at_,walked last at_ n = backL last n at_
 | 0,at_=>rfl
 | n + 1,at_=>by
  unfold backL
  rw [<- Zet last n]
  unfold walked
  rw [List.range_succ_eq_map,List.map_cons,List.map_map]
  refine congrArg (List.cons _) (List.map_congr_left fun k _=>?_)
  simp only [Function.comp]
  rw [Zgw]
end Go.Proofs.Ytnkpnjnfddjfpaa.M27

namespace Go.Proofs.Ytnkpnjnfddjfpaa.M27
open M01 M02 M04 M06 M10
theorem Zme:∀ {l:List Nat},l.Pairwise (· < ·) -> rising l = true
 | [],_=>rfl
 | [_],_=>rfl
 | a :: b :: l,h=>by
  rw [List.pairwise_cons] at h
  have h1:=h.1 b (List.mem_cons_self ..)
  simp only [rising,Bool.and_eq_true,decide_eq_true_eq]
  exact ⟨h1,Zme h.2⟩
theorem Zlv {B:List Nat} {at_ g x:Nat} (h:x ∈ pickB B at_ g):16 * g <= x /\ x < 16 * g + 16:=by
 unfold pickB at h
 obtain ⟨k,hk,rfl⟩:=List.mem_map.1 h
 have:=List.mem_range.1 (List.mem_filter.1 hk).1
 omega
theorem Zwi (B:List Nat) (at_ g:Nat):(pickB B at_ g).Pairwise (· < ·):=by
 unfold pickB
 rw [List.pairwise_map]
 refine (List.Pairwise.filter _ List.pairwise_lt_range).imp ?_
 intro a b h
 omega
theorem Zki (B:List Nat) (f0:Nat):∀ (m g at_:Nat) (out:List Nat),out.Pairwise (· < ·) -> (∀ x ∈ out,x < 16 * g) -> ∀ l at2,pickL B f0 m g at_ out = some (l,at2) -> l.Pairwise (· < ·) /\ (∀ x ∈ l,x < 16 * (g + m))
 | 0,g,at_,out,hp,hx,l,at2,h=>by
  simp only [pickL,Option.some.injEq,Prod.mk.injEq] at h
  obtain ⟨rfl,rfl⟩:=h
  exact ⟨hp,hx⟩
 | m + 1,g,at_,out,hp,hx,l,at2,h=>by
  unfold pickL at h
  rw [show 16 * (g + (m + 1)) = 16 * (g + 1 + m) by omega]
  split at h
  ·split at h
   ·refine Zki B f0 m (g + 1) _ _ ?_ ?_ l at2 h
    ·rw [List.pairwise_append]
     refine ⟨hp,Zwi B at_ g,fun a ha b hb=>?_⟩
     have:=hx a ha
     have:=Zlv hb
     omega
    ·intro x hm
     rcases List.mem_append.1 hm with hm | hm
     ·have:=hx x hm;omega
     ·have:=Zlv hm;omega
   ·cases h
  ·exact Zki B f0 m (g + 1) _ _ hp (fun x hm=>by have:=hx x hm;omega) l at2 h
theorem Zxl:∀ (l:List Nat) (lo hi:Nat),l.Pairwise (· < ·) -> (∀ x ∈ l,lo <= x /\ x < hi) -> l.length <= hi - lo
 | [],_,_,_,_=>by simp
 | a :: l,lo,hi,h,hx=>by
  rw [List.pairwise_cons] at h
  have h1:=hx a (List.mem_cons_self ..)
  have:=Zxl l (a + 1) hi h.2 (fun x hm=>⟨h.1 x hm,(hx x (List.mem_cons_of_mem _ hm)).2⟩)
  rw [List.length_cons]
  omega
theorem Zos {B:List Nat} {at_ at2:Nat} {l:List Nat} (h:pickG B at_ = some (l,at2)):l ≠ [] /\ rising l = true /\ l.length <= 256 /\ ∀ x ∈ l,x < 256:=by
 unfold pickG at h
 split at h
 ·cases hq:pickL B at_ 16 0 (at_ + 16) [] with
  | none=>rw [hq] at h;cases h
  | some p =>
   obtain ⟨out,a2⟩:=p
   rw [hq] at h
   simp only at h
   split at h
   ·cases h
   ·rename_i hne
    simp only [Option.some.injEq,Prod.mk.injEq] at h
    obtain ⟨rfl,rfl⟩:=h
    obtain ⟨h1,h2⟩:=Zki B at_ 16 0 (at_ + 16) [] List.Pairwise.nil (fun x hm=>by cases hm) _ _ hq
    have h3:∀ x ∈ out,x < 256:=fun x hm=>by have:=h2 x hm;omega
    have h4:=Zxl out 0 256 h1 (fun x hm=>⟨Nat.zero_le _,h3 x hm⟩)
    exact ⟨hne,Zme h1,h4,h3⟩
 ·cases h
theorem Znd (B:List Nat) (n:Nat):∀ (f k at_:Nat) (out:List Nat),out.length <= n -> (∀ x ∈ out,1 <= x /\ x <= 20) -> ∀ l at2,lenL B f k at_ n out = some (l,at2) -> l.length = n /\ ∀ x ∈ l,1 <= x /\ x <= 20
 | 0,_,_,_,_,_,_,_,h=>by simp [lenL] at h
 | f + 1,k,at_,out,hl,hx,l,at2,h=>by
  unfold lenL at h
  split at h
  ·simp only [Option.some.injEq,Prod.mk.injEq] at h
   obtain ⟨rfl,rfl⟩:=h
   exact ⟨by omega,hx⟩
  ·split at h
   ·cases h
   ·rename_i h2 h3
    split at h
    ·refine Znd B n f k _ _ (by rw [List.length_append];simp;omega) (fun x hm=>?_) l at2 h
     rcases List.mem_append.1 hm with hm | hm
     ·exact hx x hm
     ·rw [List.mem_singleton.1 hm];omega
    ·split at h
     ·cases h
     ·exact Znd B n f _ _ _ hl hx l at2 h
theorem Zyh {B:List Nat} {at_ at2 n:Nat} {l:List Nat} (h:lenG B at_ n = some (l,at2)):l.length = n /\ ∀ x ∈ l,1 <= x /\ x <= 20:=by
 unfold lenG at h
 cases hq:numG B at_ 5 with
 | none=>rw [hq] at h;cases h
 | some p=>rw [hq] at h;exact Znd B n _ _ _ [] (Nat.zero_le _) (fun x hm=>by cases hm) l at2 h
theorem Znr {l:List Nat} {k x:Nat} (hk:k < l.length) (h:x ∈ toFront l k):x ∈ l:=by
 unfold toFront at h
 rcases List.mem_cons.1 h with rfl | h
 ·rw [List.getD_eq_getElem?_getD,List.getElem?_eq_getElem hk];exact List.getElem_mem _
 ·rcases List.mem_append.1 h with h | h
  ·exact List.mem_of_mem_take h
  ·exact List.mem_of_mem_drop h
theorem Zau {l:List Nat} {k:Nat} (hk:k < l.length):(toFront l k).length = l.length:=by unfold toFront;simp;omega
theorem Zon (B:List Nat) (tables:Nat):∀ (f k at_:Nat),k < tables -> ∀ r at2,onesG B tables f k at_ = some (r,at2) -> r < tables
 | 0,_,_,_,_,_,h=>by simp [onesG] at h
 | f + 1,k,at_,hk,r,at2,h=>by
  unfold onesG at h
  split at h
  ·cases h
  ·split at h
   ·simp only [Option.some.injEq,Prod.mk.injEq] at h
    obtain ⟨rfl,_⟩:=h
    exact hk
   ·split at h
    ·cases h
    ·exact Zon B tables f (k + 1) _ (by omega) r at2 h
def FirstN (n:Nat) (l:List Nat):Prop:=l.length = 6 /\ ∀ k,k < n -> l.getD k 0 < n
theorem Zle {n k:Nat} {l:List Nat} (hn:n <= 6) (h:FirstN n l) (hk:k < n):FirstN n (toFront l k):=by
 obtain ⟨h1,h2⟩:=h
 refine ⟨by rw [Zau (by omega)];exact h1,fun i hi=>?_⟩
 unfold toFront
 cases i with
 | zero=>exact h2 k hk
 | succ i =>
  rw [List.getD_cons_succ,List.getD_eq_getElem?_getD]
  rcases Nat.lt_or_ge i k with h3 | h3
  ·rw [List.getElem?_append_left (by simp;omega),List.getElem?_take_of_lt h3,<- List.getD_eq_getElem?_getD]
   exact h2 i (by omega)
  ·rw [List.getElem?_append_right (by simp;omega),List.length_take,Nat.min_eq_left (by omega),List.getElem?_drop,<- List.getD_eq_getElem?_getD,show k + 1 + (i - k) = i + 1 by omega]
   exact h2 (i + 1) hi
theorem Ztt (B:List Nat) (n:Nat) (hn:0 < n) (hn6:n <= 6):∀ (m:Nat) (l:List Nat) (at_:Nat) (out:List Nat),FirstN n l -> (∀ x ∈ out,x < n) -> ∀ g at2,selL B n m l at_ out = some (g,at2) -> g.length = out.length + m /\ ∀ x ∈ g,x < n
 | 0,l,at_,out,_,hx,g,at2,h=>by
  simp only [selL,Option.some.injEq,Prod.mk.injEq] at h
  obtain ⟨rfl,_⟩:=h
  exact ⟨rfl,hx⟩
 | m + 1,l,at_,out,hf,hx,g,at2,h=>by
  unfold selL at h
  cases hq:onesG B n 8 0 at_ with
  | none=>rw [hq] at h;cases h
  | some p =>
   obtain ⟨r,a2⟩:=p
   rw [hq] at h
   have hr:=Zon B n 8 0 at_ hn r a2 hq
   obtain ⟨h1,h2⟩:=Ztt B n hn hn6 m _ _ _ (Zle hn6 hf hr) (fun x hm=>by
    rcases List.mem_append.1 hm with hm | hm
    ·exact hx x hm
    ·rw [List.mem_singleton.1 hm];exact hf.2 r hr) g at2 h
   rw [List.length_append,List.length_singleton] at h1
   exact ⟨by omega,h2⟩
theorem Zlf {n:Nat} (hn:n <= 6):FirstN n [0,1,2,3,4,5]:=⟨rfl,fun k hk=>by
 have h6:k = 0 \/ k = 1 \/ k = 2 \/ k = 3 \/ k = 4 \/ k = 5:=by omega
 rcases h6 with rfl | rfl | rfl | rfl | rfl | rfl <;> exact hk⟩
theorem Zyz {B:List Nat} {at_ at2 n:Nat} {g:List Nat} (hn:2 <= n) (hn6:n <= 6) (h:selG B at_ n = some (g,at2)):0 < g.length /\ g.length < 32768 /\ ∀ x ∈ g,x < n:=by
 unfold selG at h
 cases hq:numG B at_ 15 with
 | none=>rw [hq] at h;cases h
 | some p =>
  rw [hq] at h
  simp only [Option.bind_some] at h
  split at h
  ·cases h
  ·rename_i hp0
   obtain ⟨h1,h2⟩:=Ztt B n (by omega) hn6 _ _ _ [] (Zlf hn6) (fun x hm=>by cases hm) g at2 h
   have h3:p.1 < 2 ^ 15:=by
    unfold numG at hq
    split at hq
    ·simp only [Option.some.injEq] at hq
     rw [<- hq]
     exact Zbq B at_ 15
    ·cases hq
   have h4:g.length = p.1:=by simpa using h1
   exact ⟨by omega,by omega,h2⟩
theorem Zsc (used:List Nat) (most:Nat):∀ (syms l out:List Nat) (worth:Nat),(∀ x ∈ l,x ∈ used) -> l.length = used.length -> l ≠ [] -> (∀ x ∈ out,x ∈ used) -> ∀ r,frL used most syms l out worth = some r -> r.length <= most /\ ∀ x ∈ r,x ∈ used
 | [],_,_,_,_,_,_,_,_,h=>by simp [frL] at h
 | s :: t,l,out,worth,hl,hll,h0,ho,r,h=>by
  unfold frL at h
  have hlen:0 < l.length:=List.length_pos_iff.2 h0
  split at h
  ·cases h
  ·rename_i h1
   split at h
   ·split at h
    ·cases h
    ·refine Zsc used most t l _ _ hl hll h0 (fun x hm=>?_) r h
     rcases List.mem_append.1 hm with hm | hm
     ·exact ho x hm
     ·have hx:x = l.getD 0 0:=(List.mem_replicate.1 hm).2
      rw [hx,List.getD_eq_getElem?_getD,List.getElem?_eq_getElem hlen]
      exact hl _ (List.getElem_mem _)
   ·split at h
    ·split at h
     ·cases h
     ·simp only [Option.some.injEq] at h
      subst h
      exact ⟨by omega,ho⟩
    ·split at h
     ·cases h
     ·have hk:s - 1 < l.length:=by omega
      refine Zsc used most t (toFront l (s - 1)) _ _ (fun x hm=>hl x (Znr hk hm)) (by rw [Zau hk];exact hll) (by unfold toFront;simp) (fun x hm=>?_) r h
      rcases List.mem_append.1 hm with hm | hm
      ·exact ho x hm
      ·rw [List.mem_singleton.1 hm,List.getD_eq_getElem?_getD,List.getElem?_eq_getElem hk]
       exact hl _ (List.getElem_mem _)
theorem Zlj {used syms r:List Nat} {most:Nat} (h0:used ≠ []) (h:frontG used syms most = some r):r.length <= most /\ ∀ x ∈ r,x ∈ used :=
 Zsc used most syms used [] 1 (fun x hm=>hm) rfl h0 (fun x hm=>by cases hm) r h
theorem Zny {l r:List Nat} {at_:Nat} (h256:∀ x ∈ l,x < 256) (h:backG l at_ = some r):r.length = l.length /\ ∀ x ∈ r,x < 256:=by
 unfold backG at h
 split at h
 ·rename_i ha
  simp only [Option.some.injEq] at h
  subst h
  rw [<- Zet]
  refine ⟨Zgm _ _ _,fun x hm=>?_⟩
  unfold walked at hm
  obtain ⟨k,_,rfl⟩:=List.mem_map.1 hm
  exact Zsf h256 (Zft l h256 at_ ha (k + 1))
 ·cases h
end Go.Proofs.Ytnkpnjnfddjfpaa.M27

namespace Go.Proofs.Ytnkpnjnfddjfpaa
open Go.RowKit M01 M02 M10 M27
theorem app1At {P:Program} {T E:TypeId} {k:IntKind} {bytes:Nat} (et:ElemTy P T E k bytes) {w:World} {ops:Array Oper} {rest:List Oper} {o:Oper} {ac:Act} {Q:Exit -> Act -> World -> Prop} (hgd:o.guard = none) (s x:Operand)
  (ho:o.op = .call { callee:=.builtin .append,args:=#[s,x],argTypes:=#[T,T] }) {base:Nat} {a:Option Addr} {cap:Nat} {l:List Nat} {y:Nat} {c E':Nat}
  (hs:ac.eval s = .slice a l.length cap) (hown:OwnN E k w base a cap l) (hx:ac.eval x = .slice (some ⟨w.heap.size,0,none⟩) 1 c) (hc:1 <= c) (hc':c <= 9223372036854775807)
  (hn:l.length + 1 <= 9223372036854775807) (hbytes:(l.length + 1) * bytes <= 140737488355328) (hbase:base <= w.heap.size)
  (h:∀ a' cap' w',OwnN E k w' base a' cap' (l ++ [y]) -> w.grownBy w' (Value.slice a l.length cap).ownBlock -> Below base w w' -> (∀ g,a' = some ⟨g,0,none⟩ -> a = some ⟨g,0,none⟩ \/ w.heap.size <= g) -> wpList P ops Q rest (ac.put o.dst (.slice a' (l.length + 1) cap')) w') :
  wpList P ops Q (o :: rest) ac (w.alloc (.cells #[.int k y] E')):=by
 obtain ⟨i,h2,h3,h4,h5⟩:=info_parts et.info
 have hy:RowN k (w.alloc (.cells #[.int k y] E')) (some ⟨w.heap.size,0,none⟩) c [y]:=by
  refine ⟨by simpa using hc,⟨hc',fun hn=>by cases hn⟩,.inr ⟨w.heap.size,0,rfl,by simp,fun i hi=>?_⟩⟩
  obtain rfl:i = 0:=by simp at hi;omega
  simp [World.cell?_alloc_at]
 refine wpList_plain (by assumption) fun K hK'=>?_
 obtain ⟨v',w',hr,h6,h7,h8,h9⟩:=run_append_own_at (P:=P) (w.alloc (.cells #[.int k y] E')) base T o.type E i (.int k 0) 1 bytes et.und h2 h3 h4 h5 rfl (by decide) _ l.length _ (hown.alloc _) ⟨w.heap.size,0,none⟩ 1 c ([y].map fun (n:Nat)=>Value.int k n) (by simp)
  (Zbi hy _ rfl) (by intro u hu;simp only [List.mem_map] at hu;obtain ⟨n,_,rfl⟩:=hu;rfl) (by simpa [maxLen] using hn) hbytes (by simp;omega)
 have hv:∃ a' cap',v' = .slice a' (l.length + 1) cap':=by
  rcases h6.2 with ⟨h11,h10⟩ | ⟨g,c',cur,h11,_⟩
  ·omega
  ·exact ⟨_,_,h11⟩
 obtain ⟨a',cap',rfl⟩:=hv
 have hown':OwnN E k w' base a' cap' (l ++ [y]):=by
  unfold OwnN;rw [List.length_append,List.map_append];exact h6
 have hbel:Below base (w.alloc (.cells #[.int k y] E')) w':=Below.of_grown h7 (by simp;omega) (by
  intro g hg
  exact (World.ownsRow.lt hown g hg).1)
 unfold Oper.wp
 simp [execOp,ho,resolve,invoke,builtin,hs,hx,hr,Result.andThen]
 refine hK' _ _ (h a' cap' w' hown' ⟨h7.os,h7.tape,h7.output,Nat.le_trans (by simp) h7.size,fun q hq hr=>(h7.block q (by simp;omega) hr).trans (Below.heap_alloc _ _ _ hq)⟩ (((Below.refl base w).alloc hbase _).trans hbel) ?_)
 rintro g rfl
 rcases h9 with h9 | h9
 ·left
  rcases hown.form with ⟨rfl,_,_⟩ | ⟨g',rfl,_⟩
  ·simp [Value.ownBlock] at h9
  ·simp [Value.ownBlock] at h9
   rw [h9]
 ·right
  simp [Value.ownBlock] at h9
  omega
theorem Zdq {a:Option Addr} {n c g:Nat} {k:IntKind} {E:TypeId} {w:World} {base:Nat} {l:List Nat} (ho:OwnN E k w base a c l) (h:(Value.slice a n c).ownBlock = some g):a = some ⟨g,0,none⟩:=by
 rcases ho.form with ⟨rfl,_⟩ | ⟨g0,rfl,_⟩
 ·simp [Value.ownBlock] at h
 ·simp [Value.ownBlock] at h
  rw [h]
end Go.Proofs.Ytnkpnjnfddjfpaa

namespace Go.Proofs.Ytnkpnjnfddjfpaa
open Go.RowKit M01 M02 M10
def hasL (l:List Nat):List Nat:=(List.range 256).map fun c=>if c ∈ l then 1 else 0
def usedTo (l:List Nat) (n:Nat):List Nat:=(List.range n).filter fun c=>decide (c ∈ l)
def usedG (l:List Nat):List Nat:=usedTo l 256
theorem Zvs:hasL [] = List.replicate 256 0:=by
 unfold hasL
 rw [List.eq_replicate_iff]
 exact ⟨by simp,fun b hb=>by simp at hb;exact hb.2.symm⟩
theorem Zmw:ElemS Try.prog 44 4 encB (.bool false) 1:=⟨Try.underlying44,by kernel_rfl,by kernel_rfl⟩
theorem Zhc (l:List Nat):(hasL l).length = 256:=by simp [hasL]
theorem Zsi (l:List Nat) (x:Nat):(hasL l).set x 1 = hasL (l ++ [x]):=by
 apply List.ext_getElem
 ·rw [List.length_set,Zhc,Zhc]
 ·intro i h1 h2
  rw [List.getElem_set]
  simp only [hasL,List.getElem_map,List.getElem_range,List.mem_append,List.mem_singleton]
  by_cases h:x = i
  ·subst h;simp
  ·have h':¬ i = x:=fun e=>h e.symm
   simp [h,h']
theorem Zyf (l:List Nat) (c:Nat) (h:c < (hasL l).length):((hasL l)[c] == 1) = decide (c ∈ l):=by
 simp only [hasL,List.getElem_map,List.getElem_range]
 by_cases h:c ∈ l <;> simp [h]
theorem Zig (l:List Nat) (n:Nat):usedTo l (n + 1) = usedTo l n ++ if n ∈ l then [n] else []:=by
 unfold usedTo
 rw [List.range_succ,List.filter_append]
 congr 1
 by_cases h:n ∈ l <;> simp [h]
theorem Zgl (l:List Nat) (n:Nat):(usedTo l n).length <= n:=by
 unfold usedTo
 exact Nat.le_trans (List.length_filter_le _ _) (by simp)
set_option maxRecDepth 100000 in
set_option maxHeartbeats 1600000 in
theorem Zqh (a:Option Addr) (cap:Nat) (l:List Nat) (w:World) (hr:RowN .u8 w a cap l) (h256:∀ x ∈ l,x < 256) (hl:l.length <= 1000000) :
  Calls Try.prog 128 #[.slice a l.length cap] w fun e w'=>∃ g c,e = .returned (.slice g (usedG l).length c) /\ OwnN 5 .u8 w' w.heap.size g c (usedG l) /\ Below w.heap.size w w':=by
 have HR:=Zh hr
 have H256:=Zh h256
 obtain ⟨q,hq⟩:∃ q,w.heap.size = q:=⟨_,rfl⟩
 have HQ:=Zh hq
 obtain ⟨n,hn⟩:∃ n,l.length = n:=⟨_,rfl⟩
 have HLN:=Zh hn
 rw [hn] at hl ⊢
 clear hr h256 hn
 go_enter Try.func128,Try.ntmps128
 go_wp2_with (first | (at_make;refine makeB (n:=256) Zmw rfl _ _ rfl w.heap.size rfl rfl (by omega) (by omega) (Nat.le_refl _) ?_;intro w1 hown1 hg1))
 have HB0:=Zh (Below.of_grown hg1 (Nat.le_refl _) (fun k e=>by cases e))
 rw [<- Zvs] at hown1
 have HO:=Zh hown1
 rw [hq] at HO HB0
 clear hg1 hown1 hq
 go_loopw [4] (fun iv A=>∃ i:Nat,i <= n /\ iv = .int .i64 (i:Nat) /\ Hid (OwnB A q (some ⟨q,0,none⟩) 256 (hasL (l.take i))) /\ Hid (Below q w A)) (fun iv _=>n - (intOf iv).toNat)
 case atStart=>exact ⟨0,Nat.zero_le _,rfl,HO.out,HB0.out⟩
 case round =>
  clear HO HB0
  obtain ⟨i,hi,rfl,HO,HB⟩:=hrel
  by_cases hlt:i < n
  ·have t0:decide (i < n) = true:=by simp;omega
   have hil:i < l.length:=by have:=HLN.out;omega
   obtain ⟨b,off,rfl,_,hc⟩:=(HR.out.below (HQ.out ▸ HB.out)).at hil
   have hx:=H256.out _ (List.getElem_mem hil)
   have HTS:Hid (l.take (i + 1) = l.take i ++ [l[i]]):=M04.Zbx l i hil
   generalize l[i] = x at *
   obtain ⟨⟨u,f1⟩,f2⟩:=OwnS.atB HO.out (i:=x) (by rw [Zhc];exact hx)
   have hstep:=OwnS.storedB HO.out x 1
   rw [Zsi] at hstep
   have HS:Hid (OwnB (wr.setCell ⟨q,x,none⟩ (.bool true)) q (some ⟨q,0,none⟩) 256 (hasL (l.take i ++ [x]))):=hstep
   have HBS:=Zh (HB.out.setCell (p:=⟨q,x,none⟩) (Nat.le_refl q) (.bool true))
   clear hstep HO HB
   go_wp2_with fail
   go_roundw
   case rel=>exact ⟨i + 1,by omega,by go_num,by rw [HTS.out];exact HS.out,HBS.out⟩
   case measure=>simp [intOf];omega
  ·obtain rfl:i = n:=by omega
   have t0:decide (i < i) = false:=by simp
   rw [<- HLN.out,List.take_length] at HO
   have HQW:Hid (q <= wr.heap.size):=by have:=HB.out.size;have:=HQ.out;unfold Hid;omega
   have HRW:=Zh (OwnS.row HO.out)
   generalize wr = W at *
   go_wp2_with fail
   go_loopw [5,6] (fun lv cv A=>∃ (c:Nat) (g:Option Addr) (gc:Nat) (r:List Nat),c <= 256 /\ cv = .int .i64 (c:Nat) /\ lv = .slice g r.length gc /\ Hid (r = usedTo l c) /\ r.length <= c /\ Hid (OwnN 5 .u8 A W.heap.size g gc r) /\ Hid (Below W.heap.size W A)) (fun _ cv _=>256 - (intOf cv).toNat)
   case atStart=>exact ⟨0,none,0,[],Nat.zero_le _,rfl,rfl,rfl,Nat.le_refl _,OwnN.nil _ _ _ _,Below.refl _ _⟩
   case round =>
    obtain ⟨c,g,gc,r,hc,rfl,rfl,HRE,hrl,HG,HE⟩:=hrel
    by_cases hlt2:c < 256
    ·have t1:decide ((c:Int) < 256) = true:=by simp;omega
     have t1':decide (c < 256) = true:=by simp;omega
     obtain ⟨b,off,he,hb,hcc⟩:=(RowS.below HRW.out HE.out).atB (i:=c) (by rw [Zhc];exact hlt2)
     cases he
     rw [Zyf] at hcc
     rw [Nat.zero_add] at hcc
     have u1:(c:Int) % 256 = (c:Int):=by omega
     have HQ2:Hid (W.heap.size <= wr.heap.size):=HE.out.size
     have hrl2:r.length <= 256:=by omega
     have HRL:=Zh hrl
     clear hrl
     have HUS:=Zh (Zig l c)
     by_cases hm:c ∈ l
     ·rw [decide_eq_true hm] at hcc
      have HRE2:Hid (r ++ [c] = usedTo l (c + 1)):=by unfold Hid;rw [HUS.out,if_pos hm,<- HRE.out]
      clear hm
      go_wp2_with (at_builtin;refine app1N (y:=c) Zbl rfl (.tmp 28) (.tmp 31) rfl rfl HG.out rfl (by omega) (by omega) (by omega) (by omega) HQ2.out ?_;intro a7 c7 w7 hown7 hg7 hb7;have HO7:=Zh hown7;have HB7:=Zh hb7;clear hown7 hg7 hb7)
      go_roundw
      case rel=>exact ⟨c + 1,a7,c7,r ++ [c],by omega,by go_num,by rw [List.length_append];rfl,HRE2.out,by rw [List.length_append];have:=HRL.out;show r.length + 1 <= c + 1;omega,HO7.out,HE.out.trans HB7.out⟩
      case measure=>simp [intOf];omega
     ·rw [decide_eq_false hm] at hcc
      have HRE2:Hid (r = usedTo l (c + 1)):=by unfold Hid;rw [HUS.out,if_neg hm,<- HRE.out,List.append_nil]
      clear hm
      go_wp2_with fail
      go_roundw
      case rel=>exact ⟨c + 1,g,gc,r,by omega,by go_num,rfl,HRE2.out,by have:=HRL.out;omega,HG.out,HE.out⟩
      case measure=>simp [intOf];omega
    ·obtain rfl:c = 256:=by omega
     have t1:decide ((256:Int) < 256) = false:=by simp
     go_wp2_with fail
     go_ret
     rw [HQ.out]
     refine ⟨g,gc,by rw [HRE.out];rfl,?_,HB.out.trans (HE.out.mono HQW.out)⟩
     have:=HG.out.mono HQW.out
     rw [HRE.out] at this
     exact this
end Go.Proofs.Ytnkpnjnfddjfpaa

namespace Go.Proofs.Ytnkpnjnfddjfpaa
open Go.RowKit Go.Maps M06
theorem Zww:laidOutB Try.prog = true:=by kernel_rfl
theorem Zph:(172:TypeId) < Try.prog.types.size:=of_decide_eq_true (by kernel_rfl)
theorem Zum:(match Try.prog.underlying 172 with | some (.array _ _) | some (.struct _)=>true | _=>false) = true:=by rw [Try.underlying172]
set_option maxRecDepth 100000 in
theorem Zfu:Keyed Try.prog 172:=Keyed.of_law (deep_law_laid Zww (m:=2) (by omega) Zph (by kernel_rfl) Zum)
theorem Zul:Try.prog.keyType 172 = true:=by kernel_rfl
def wordV (x k:Nat):Value:=.agg #[.int .u32 (x:Nat),.int .u8 (k:Nat)]
theorem Zrm {x m:Nat} (h:x < m + 1):(x:Int) <= (m:Int):=Int.ofNat_le.2 (Nat.le_of_lt_succ h)
theorem Zpg (x k:Nat) (hx:x < 4294967296) (hk:k < 256):∃ kl,keyOf Try.prog 172 (wordV x k) = some kl:=by
 have c101:Try.prog.cellsOf 172 = 2:=by kernel_rfl
 have c36:Try.prog.cellsOf 54 = 1:=by kernel_rfl
 have c5:Try.prog.cellsOf 5 = 1:=by kernel_rfl
 obtain ⟨m,hm⟩:∃ m,Try.prog.types.size = m + 1:=by
  have h:=Zph
  revert h
  generalize Try.prog.types.size = n
  intro h
  cases n with
  | zero=>exact absurd h (Nat.not_lt_zero _)
  | succ n=>exact ⟨n,rfl⟩
 have wx:(Lit.int .u32 (x:Int)).wf = true:=WalkArith.wf_u32 ⟨Int.natCast_nonneg _,Zrm (m:=4294967295) hx⟩
 have wk:(Lit.int .u8 (k:Int)).wf = true:=WalkArith.wf_u8 ⟨Int.natCast_nonneg _,Zrm (m:=255) hk⟩
 refine ⟨.string (keyBytes [.int .u32 (x:Int),.int .u8 (k:Int)]),?_⟩
 unfold keyOf wordV
 simp only [Try.underlying172]
 rw [if_pos (by simp [Zul,Value.formed,Try.underlying172,c101]),hm]
 unfold Program.keyLits
 simp only [Try.underlying172,Value.cells]
 rw [if_pos ⟨by rw [c101];rfl,by decide +kernel⟩]
 simp [c36,c5,Program.keyLits,Try.underlying54,Try.underlying5,wx,wk]
theorem Zxb {x k x' k':Nat} (h:wordV x k = wordV x' k'):x = x' /\ k = k':=by
 unfold wordV at h
 simp only [Value.agg.injEq,Array.mk.injEq,List.cons.injEq,Value.int.injEq,true_and,and_true] at h
 omega
theorem zeroInt (w:World):(zeroValue 3).run Try.prog w = .ok (.int .i64 0) w:=by kernel_rfl
def MapF (w:World) (b n:Nat) (F:Nat -> Nat -> Option Int):Prop :=
 ∃ D:DataW Unit,w.ownsMap Try.prog 172 (plainElem Try.prog 3) b n D /\ IsMap D ∧
  ∀ x k kl,keyOf Try.prog 172 (wordV x k) = some kl -> Maps.has D kl = (F x k).isSome /\ D.atKey kl (.lit (.int .i64 0)) = .lit (.int .i64 ((F x k).getD 0))
theorem Zsp (w:World):MapF (w.alloc (.map #[] 0)) w.heap.size 0 (fun _ _=>none) :=
 ⟨.map [],World.ownsMap_made _ _ _ _,isMap_empty,fun x k kl _=>⟨rfl,rfl⟩⟩
theorem MapF.kept {w w':World} {b n:Nat} {F:Nat -> Nat -> Option Int} {row:Option Nat} (h:MapF w b n F) (hg:w.grownBy w' row) (hne:some b ≠ row):MapF w' b n F:=by
 obtain ⟨D,h1,h2⟩:=h
 exact ⟨D,h1.kept hg hne,h2⟩
theorem MapF.lt {w:World} {b n:Nat} {F:Nat -> Nat -> Option Int} (h:MapF w b n F):b < w.heap.size:=by
 obtain ⟨D,h1,_⟩:=h
 exact h1.lt
theorem MapF.look {w:World} {b n:Nat} {F:Nat -> Nat -> Option Int} (h:MapF w b n F) (x k:Nat) (hx:x < 4294967296) (hk:k < 256) :
  (Instr.lookup 168 (.map (some b)) (wordV x k) true).run Try.prog w = .ok (.tuple #[.int .i64 ((F x k).getD 0),.bool (F x k).isSome]) w:=by
 obtain ⟨D,h1,_,h2⟩:=h
 obtain ⟨kl,hkl⟩:=Zpg x k hx hk
 obtain ⟨v,ps,hrun,hv⟩:=h1.look_ok Zfu Try.underlying168 (zeroInt w) (plainElem_int Try.underlying3 (by decide)) hkl
 obtain ⟨g1,g2⟩:=h2 x k kl hkl
 obtain ⟨c,rfl,hc,_⟩:=plainElem_int_inv Try.underlying3 hv
 simp only [Prod.mk.injEq] at hc
 rw [g2] at hc
 have hcc:(F x k).getD 0 = c:=by
  have:=hc.1
  simpa using this
 rw [hrun,g1,hcc]
theorem MapF.put {w:World} {b n:Nat} {F:Nat -> Nat -> Option Int} (h:MapF w b n F) (hn:n < maxLen) (x k:Nat) (v:Int) (hx:x < 4294967296) (hk:k < 256) (hv:-1000000 <= v /\ v <= 1000000) :
  ∃ w',(Instr.mapUpdate 168 (.map (some b)) (wordV x k) (.int .i64 v)).run Try.prog w = .ok () w' /\ MapF w' b (n + 1) (putF F x k v) /\ w.grownBy w' (some b):=by
 obtain ⟨D,h1,hD,h2⟩:=h
 obtain ⟨kl,hkl⟩:=Zpg x k hx hk
 have wv:(Lit.int .i64 v).wf = true:=WalkArith.wf_i64 (by omega)
 obtain ⟨w',hrun,hown,hg⟩:=h1.update Zfu Try.underlying168 hn hkl (plainElem_int Try.underlying3 wv)
 refine ⟨w',hrun,⟨_,hown,hD.put _ _,fun x' k' kl' hkl'=>?_⟩,hg⟩
 unfold putF
 by_cases he:kl' = kl
 ·subst he
  have:=Zfu.inj hkl' hkl
  obtain ⟨rfl,rfl⟩:=Zxb this
  rw [if_pos ⟨rfl,rfl⟩]
  exact ⟨by rw [has_put_same hD (Zfu.key hkl)];rfl,atKey_put_same hD (Zfu.key hkl) _ _⟩
 ·have hne:¬ (x' = x /\ k' = k):=fun ⟨h3,h4⟩=>by
   subst h3 h4
   rw [hkl] at hkl'
   exact he (Option.some.inj hkl').symm
  rw [if_neg hne]
  obtain ⟨g1,g2⟩:=h2 x' k' kl' hkl'
  exact ⟨by rw [has_put_other he];exact g1,by rw [atKey_put_other he];exact g2⟩
end Go.Proofs.Ytnkpnjnfddjfpaa
