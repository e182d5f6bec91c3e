/- Words that all seats use: of the model's parts, of bits, of bytes. Words that all seats use: lists of what has come up, adding, bits.Mul. A row of numbers that is filled from the left. Slices of bools as lists of noughts and ones. Plain mathematics of layer 4: words of a code do not begin with one another; a row of 20 bits begins with one word, where the code is full. Plain mathematics of layer 6: what a table of words holds, symbol by symbol. Plain mathematics of layers 6, 9, 10: reading by a code. Plain mathematics: bits of words, what a table of words holds. Plain mathematics of layer 2: bits of bytes, the greatest first: as bits of the bytes turned around. Plain mathematics of layers 20 to 27: what a bzip2 file says, bit by bit (B: the bytes turned around, so that bits come in order). The reference of layer 2: rows of bits, the greatest first: contracts of Bits, Number, Of, Get. The reference of layer 23: Get: contract. The references of layers 22, 24: moved, front: contracts. Plain mathematics of layer 26: the places of the mask. Plain mathematics of layer 26: a block, bit by bit. Plain mathematics of layer 21: counting the bytes gives the way back. -/
import Derived.Test.YtnkpnjnfddjfpaaGreatQ01
import Derived.Laws.Bits64b
import Derived.Maps.AppendAt
import Derived.WalkLawsBesides
import Derived.Lib.SlicesS
import Derived.Test.YtnkpnjnfddjfpaaGreatChecked
import Derived.Lib.Hide
set_option linter.unusedVariables false
set_option linter.unusedSimpArgs false
namespace Go.Proofs.YtnkpnjnfddjfpaaGreat
open Go.RowKit Go.Shelf M01
theorem Zdu {w:World} {b:Nat} {u v:Value} {t:TypeId} (h:w.heap[b]? = some (.cells #[u,v] t (0,0))):w.cell? ⟨b,0,none⟩ = some u /\ w.cell? ⟨b,1,none⟩ = some v /\ w.frozen? ⟨b,0,none⟩ = false /\ w.frozen? ⟨b,1,none⟩ = false:=by
 simp [World.cell?,World.frozen?,h]
theorem Zaaw {w:World} {b:Nat} {u v x:Value} {t:TypeId} (h:w.heap[b]? = some (.cells #[u,v] t (0,0))) :
  (w.setCell ⟨b,0,none⟩ x).heap[b]? = some (.cells #[x,v] t (0,0)) /\ (w.setCell ⟨b,1,none⟩ x).heap[b]? = some (.cells #[u,x] t (0,0)):=by
 constructor
 ·show (w.heap.modify b _)[b]? = _
  rw [Array.getElem?_modify,if_pos rfl,h];rfl
 ·show (w.heap.modify b _)[b]? = _
  rw [Array.getElem?_modify,if_pos rfl,h];rfl
theorem RowN.drewN {k:IntKind} {w:World} {a:Option Addr} {cap:Nat} {l:List Nat} (h:RowN k w a cap l) (q:Nat):RowN k (w.drewN q) a cap l:=h
theorem Zcx (a b:Nat) (ha:a < 4294967296) (hb:b < 4294967296):bits .and .u32 (a:Int) (b:Int) = ((a &&& b:Nat):Int):=by
 have hx:a &&& b < 2 ^ 32:=Nat.and_lt_two_pow _ (by omega)
 have h1:(BitVec.ofInt 32 (a:Int)).toNat = a:=by
  rw [BitVec.ofInt_natCast,BitVec.toNat_ofNat];exact Nat.mod_eq_of_lt (by omega)
 have h2:(BitVec.ofInt 32 (b:Int)).toNat = b:=by
  rw [BitVec.ofInt_natCast,BitVec.toNat_ofNat];exact Nat.mod_eq_of_lt (by omega)
 show IntKind.u32.wrap ((BitVec.ofInt 32 (a:Int) &&& BitVec.ofInt 32 (b:Int)).toNat:Int) = _
 rw [BitVec.toNat_and,h1,h2,IntKind.wrap_u32]
 omega
theorem Zid (a b:Nat) (ha:a < 4294967296) (hb:b < 4294967296):bits .or .u32 (a:Int) (b:Int) = ((a ||| b:Nat):Int):=by
 have hx:a ||| b < 2 ^ 32:=Nat.or_lt_two_pow (by omega) (by omega)
 have h1:(BitVec.ofInt 32 (a:Int)).toNat = a:=by
  rw [BitVec.ofInt_natCast,BitVec.toNat_ofNat];exact Nat.mod_eq_of_lt (by omega)
 have h2:(BitVec.ofInt 32 (b:Int)).toNat = b:=by
  rw [BitVec.ofInt_natCast,BitVec.toNat_ofNat];exact Nat.mod_eq_of_lt (by omega)
 show IntKind.u32.wrap ((BitVec.ofInt 32 (a:Int) ||| BitVec.ofInt 32 (b:Int)).toNat:Int) = _
 rw [BitVec.toNat_or,h1,h2,IntKind.wrap_u32]
 omega
theorem Zzg (x r:Nat) (hx:x < 256):bits .and .u32 ((x:Int) / 2 ^ r % 4294967296) 1 = ((x / 2 ^ r % 2:Nat):Int):=by
 have h0:x / 2 ^ r <= x:=Nat.div_le_self _ _
 have h1:((x:Int) / 2 ^ r % 4294967296) = ((x / 2 ^ r:Nat):Int):=by
  have h2:(2:Int) ^ r = ((2 ^ r:Nat):Int):=by simp
  rw [h2,<- Int.natCast_ediv]
  generalize x / 2 ^ r = y at *
  omega
 rw [h1]
 have:=Zcx (x / 2 ^ r) 1 (by omega) (by omega)
 rw [Nat.and_one_is_mod] at this
 exact this
theorem eqNilT (w:World):(binOp .eql 22 (.slice none 0 0) (.slice none 0 0)).run Tryz.prog w = .ok (.bool true) w:=by kernel_rfl
theorem eqNilF (x:Addr) (n c:Nat) (w:World):(binOp .eql 22 (.slice (some x) n c) (.slice none 0 0)).run Tryz.prog w = .ok (.bool false) w:=by kernel_rfl
set_option maxRecDepth 100000 in
theorem Zhj (w:World) (a:Option Addr) (cap:Nat) (l:List Nat) (hr:RowN .u8 w a cap l) (hl:l.length <= 100000000) :
  Calls Tryz.prog 32 #[.slice a l.length cap] w fun e w'=>∃ a' c',e = .returned (.slice a' l.length c') /\ OwnN 5 .u8 w' w.heap.size a' c' l /\ Below w.heap.size w w':=by
 by_cases ha:a = none
 ·subst ha
  have h0:cap = 0:=hr.2.1.2 rfl
  subst h0
  have hl0:l = []:=List.eq_nil_of_length_eq_zero (by have:=hr.1;omega)
  subst hl0
  clear hr
  go_enter Tryz.func32,Tryz.ntmps32
  go_wp2_with fail
  rw [eqNilT]
  go_wp2
  go_ret
  exact ⟨none,0,rfl,OwnN.nil _ _ _ _,Below.refl _ _⟩
 ·obtain ⟨x,rfl⟩:=Option.ne_none_iff_exists'.1 ha
  clear ha
  go_enter Tryz.func32,Tryz.ntmps32
  go_wp2_with fail
  rw [eqNilF]
  go_wp2_with (at_builtin;refine appAnyN Zaz rfl (.tmp 5) (.tmp 6) rfl (a:=some ⟨w.heap.size,0,none⟩) (cap:=0) (l:=[]) (ys:=l) (base:=w.heap.size) rfl (OwnN.lit0 _ _ _ _ (Nat.le_refl _)) rfl rfl (hr.below ((Below.refl _ _).alloc (Nat.le_refl _) _)) (by simp;omega) (by simp;omega) (by simp) ?_;intro a1 cap1 w1 hown1 hg1 hb1;simp only [List.nil_append] at hown1;simp only [List.length_nil,Nat.zero_add])
  go_ret
  exact ⟨a1,cap1,rfl,hown1,((Below.refl w.heap.size w).alloc (Nat.le_refl _) _).trans hb1⟩
theorem Zdm {w:World} {b:Nat} {x y:Value} {t:TypeId} (h:w.heap[b]? = some (.cells #[x,y] t (0,0))):w.cell? ⟨b,0,none⟩ = some x /\ w.cell? ⟨b,1,none⟩ = some y :=
 ⟨(Zdu h).1,(Zdu h).2.1⟩
theorem Zai (w:World) (o:Obj):Below w.heap.size w (w.alloc o):=(Below.refl _ _).alloc (Nat.le_refl _) _
theorem Zah (T:Nat -> Prop) (w:World) (q:Nat):Only T w (w.drewN q):=⟨rfl,rfl,rfl,Nat.le_refl _,fun _ _ _=>rfl⟩
def formP:List PanicEntry:=[{ v:=.iface 25 (.int .i64 2),recovered:=false }]
theorem Zac {w:World} {b:Nat} {x y z u:Value} {t:TypeId} (h:w.heap[b]? = some (.cells #[x,y,z,u] t (0,0))):w.cell? ⟨b,0,none⟩ = some x /\ w.cell? ⟨b,1,none⟩ = some y /\ w.cell? ⟨b,2,none⟩ = some z /\ w.cell? ⟨b,3,none⟩ = some u /\ w.frozen? ⟨b,1,none⟩ = false /\ w.frozen? ⟨b,3,none⟩ = false:=by
 simp [World.cell?,World.frozen?,h]
theorem Zxh {w:World} {b:Nat} {x y z u v:Value} {t:TypeId} (h:w.heap[b]? = some (.cells #[x,y,z,u] t (0,0))) :
  (w.setCell ⟨b,1,none⟩ v).heap[b]? = some (.cells #[x,v,z,u] t (0,0)) /\ (w.setCell ⟨b,3,none⟩ v).heap[b]? = some (.cells #[x,y,z,v] t (0,0)):=by
 constructor
 ·show (w.heap.modify b _)[b]? = _
  rw [Array.getElem?_modify,if_pos rfl,h];rfl
 ·show (w.heap.modify b _)[b]? = _
  rw [Array.getElem?_modify,if_pos rfl,h];rfl
theorem Zaf {w:World} {b:Nat} {x y z u:Value} {t:TypeId} (h:w.heap[b]? = some (.cells #[x,y,z,u] t (0,0))):w.frozen? ⟨b,0,none⟩ = false /\ w.frozen? ⟨b,1,none⟩ = false /\ w.frozen? ⟨b,2,none⟩ = false /\ w.frozen? ⟨b,3,none⟩ = false:=by
 simp [World.frozen?,h]
theorem Zan {w:World} {b:Nat} {u:Value} {t:TypeId} (h:w.heap[b]? = some (.cells #[u] t (0,0))):w.frozen? ⟨b,0,none⟩ = false:=by simp [World.frozen?,h]
theorem Zcu {k:IntKind} {w:World} {a:Option Addr} {cap:Nat} {l:List Nat} (h:RowN k w a cap l) (n:Nat):RowN k w a cap (l.take n):=by
 obtain ⟨h1,h2,h3⟩:=h
 refine ⟨by simp;omega,h2,?_⟩
 rcases h3 with rfl | ⟨b,off,rfl,hb,hc⟩
 ·exact .inl (by simp)
 ·refine .inr ⟨b,off,rfl,hb,fun i hi=>?_⟩
  have hi2:i < l.length:=by simp at hi;omega
  rw [hc i hi2]
  simp
theorem Zuw {k:IntKind} {w:World} {b off cap:Nat} {l:List Nat} (h:RowN k w (some ⟨b,off,none⟩) cap l) (n:Nat) (hn:n < l.length):RowN k w (some ⟨b,off + n,none⟩) (cap - n) (l.drop n):=by
 obtain ⟨h1,h2,h3⟩:=h
 refine ⟨by simp;omega,⟨by omega,fun e=>by cases e⟩,?_⟩
 rcases h3 with rfl | ⟨b',off',he,hb,hc⟩
 ·simp at hn
 ·simp only [Option.some.injEq,Addr.mk.injEq,and_true] at he
  obtain ⟨rfl,rfl⟩:=he
  refine .inr ⟨b,off + n,rfl,hb,fun i hi=>?_⟩
  have hi2:n + i < l.length:=by simp at hi;omega
  rw [Nat.add_assoc,hc _ hi2]
  simp
theorem Zyf {k:IntKind} {w:World} {b off cap:Nat} {l:List Nat} (h:RowN k w (some ⟨b,off,none⟩) cap l) (i n:Nat) (hi:i + n <= l.length):RowN k w (some ⟨b,off + i,none⟩) (cap - i) ((l.drop i).take n):=by
 obtain ⟨h1,⟨h2,_⟩,h3⟩:=h
 refine ⟨by simp;omega,⟨by omega,by simp⟩,?_⟩
 rcases h3 with rfl | ⟨b',off',he,hb,hc⟩
 ·left;simp
 ·right
  simp only [Option.some.injEq,Addr.mk.injEq,and_true] at he
  obtain ⟨rfl,rfl⟩:=he
  refine ⟨b,off + i,rfl,hb,fun j hj=>?_⟩
  rw [List.length_take,List.length_drop] at hj
  rw [Nat.add_assoc,List.getElem_take,List.getElem_drop]
  exact hc (i + j) (by omega)
theorem Only.ofBelow {T:Nat -> Prop} {w w':World} (h:Below w.heap.size w w'):Only T w w':=⟨h.os,h.tape,h.output,h.size,fun b hb _=>h.block b hb⟩
theorem Zzc (x y:ByteArray):(x.toList == y.toList) = decide (x = y):=by
 by_cases h:x = y
 ·subst h;simp
 ·rw [(Lib.bytes_beq_false_iff x y).2 h];simp [h]
theorem OwnN.lit {k:IntKind} (E:TypeId) (w:World) (base:Nat) (l:List Nat) (vs:Array Value) (B:Nat) (hB:B = w.heap.size) (hv:vs = (l.map fun (n:Nat)=>Value.int k n).toArray) (hb:base <= w.heap.size) (hl:l.length <= maxLen) :
  OwnN E k (w.alloc (.cells vs E)) base (some ⟨B,0,none⟩) l.length l:=by
 subst hB hv
 exact ⟨by simp,.inr ⟨w.heap.size,l.length,(l.map fun (n:Nat)=>Value.int k n).toArray,rfl,hb,World.alloc_heap_new w _,Nat.le_refl _,hl,by simp,by simp [List.take_of_length_le]⟩⟩
theorem Zrj (l:List Nat):∀ r:ByteArray,((l.map fun (n:Nat)=>(n:Int)).foldl (fun r n=>r.push (UInt8.ofNat n.toNat)) r) = r ++ ByteArray.mk (l.map UInt8.ofNat).toArray:=by
 induction l with
 | nil=>intro r;simp [ByteArray.ext_iff]
 | cons x t ih =>
  intro r
  simp only [List.map_cons,List.foldl_cons,Int.toNat_natCast]
  rw [ih]
  simp [ByteArray.ext_iff]
theorem Zbt (l:List Nat):strOf l = ByteArray.mk (l.map UInt8.ofNat).toArray:=by
 unfold strOf
 rw [Zrj]
 simp
theorem Zek (l m:List Nat):strOf (l ++ m) = strOf l ++ strOf m:=by
 rw [Zbt,Zbt,Zbt]
 simp [ByteArray.ext_iff]
theorem Zby (l:List Nat):(strOf l).size = l.length:=by
 rw [Zbt]
 simp [ByteArray.size]
theorem Zmw {l m:List Nat} (hl:∀ x ∈ l,x < 256) (hm:∀ x ∈ m,x < 256) (h:strOf l = strOf m):l = m:=by
 rw [Zbt,Zbt] at h
 have h1:l.map UInt8.ofNat = m.map UInt8.ofNat:=by simpa [ByteArray.ext_iff] using h
 have h2:=congrArg (List.map UInt8.toNat) h1
 simp only [List.map_map] at h2
 have f:∀ l:List Nat,(∀ x ∈ l,x < 256) -> l.map (UInt8.toNat ∘ UInt8.ofNat) = l:=fun l hl=>by
  conv=>rhs;rw [<- List.map_id l]
  refine List.map_congr_left fun x hx=>?_
  have:=hl x hx
  simp
  omega
 rwa [f l hl,f m hm] at h2
end Go.Proofs.YtnkpnjnfddjfpaaGreat

namespace Go.Proofs.YtnkpnjnfddjfpaaGreat
open Go.RowKit Go.Shelf
theorem Zax:ElemTy Tryz.prog 36 3 .i64 8:=⟨Tryz.underlying36,by kernel_rfl⟩
theorem Zag {listed:Array Bool} {i:Nat} (hi:i < listed.size):(listed.setIfInBounds i true).getD i false = true:=by simp [hi]
theorem Zaa {l:Array Bool} {i k:Nat} (h:i ≠ k):(l.setIfInBounds i true).getD k false = l.getD k false:=by
 simp [Array.getElem?_setIfInBounds_ne h]
theorem evalC (a:Act) (v:Value):a.eval (.const v) = v:=rfl
theorem eqgA (t:TypeId) (x y:Operand) (u v:Value) (w:World):(eqGuard .add t x y u v).run Tryz.prog w = .ok () w:=by simp [eqGuard,go_sem]
theorem addI (t:TypeId) (x y:Int) (w:World):(binOp .add t (.int .i64 x) (.int .i64 y):Sem Value).run Tryz.prog w = .ok (.int .i64 (IntKind.i64.wrap (x + y))) w:=by
 simp [binOp,Op.intArith,go_sem]
theorem belDN {B:Nat} {w w':World} (h:Below B w w') (q:Nat):Below B w (w'.drewN q):=⟨h.os,h.tape,h.output,h.size,h.block⟩
theorem maskN (a:Nat) (ha:a < 4294967296):bits .and .u64 (a:Int) 4294967295 = (a:Int):=by
 have h:=bits_and_u64_nat a 4294967295 (by omega) (by omega)
 have e:a &&& 4294967295 = a % 4294967296:=Nat.and_two_pow_sub_one_eq_mod a 32
 rw [e,Nat.mod_eq_of_lt ha] at h
 exact h
theorem mask0:bits .and .u64 0 4294967295 = 0:=by have:=maskN 0 (by omega);simpa using this
theorem mask1:bits .and .u64 1 4294967295 = 1:=by have:=maskN 1 (by omega);simpa using this
set_option maxHeartbeats 800000 in
theorem Zpt (n:Nat) (hn:n <= 1000000) (w:World) :
  Calls Tryz.prog 134 #[.int .u64 1,.int .u64 n] w fun e w'=>e = .returned (.tuple #[.int .u64 0,.int .u64 n]) /\ w = w':=by
 have h1:=maskN n (by omega)
 have h2:=mask1
 have h3:(n:Int) / 4294967296 = 0:=by omega
 go_enter Tryz.func134,Tryz.ntmps134
 go_wp2
 go_ret2
 exact ⟨by simp [mask0,IntKind.wrap_u64],rfl⟩
theorem Zom (n:Nat) (hn:n <= 1000000) (w:World) :
  Calls Tryz.prog 86 #[.int .u64 1,.int .u64 n] w fun e w'=>e = .returned (.tuple #[.int .u64 0,.int .u64 n]) /\ w = w':=by
 go_enter Tryz.func86,Tryz.ntmps86
 go_wp2_with (go_at_call 134;refine (Zpt n hn _).mono ?_;rintro e w' ⟨rfl,rfl⟩)
 go_ret2
 exact ⟨rfl,rfl⟩
end Go.Proofs.YtnkpnjnfddjfpaaGreat

namespace Go.Proofs.YtnkpnjnfddjfpaaGreat
open Go.RowKit
def partL (f:Nat -> Nat) (n k:Nat):List Nat:=(List.range n).map fun i=>if i < k then f i else 0
theorem Zeh (f:Nat -> Nat) (n k:Nat):(partL f n k).length = n:=by simp [partL]
theorem Zew (f:Nat -> Nat) (n:Nat):partL f n 0 = List.replicate n 0:=by
 apply List.ext_getElem?
 intro i
 simp only [partL,List.getElem?_map,List.getElem?_replicate,Nat.not_lt_zero,if_false]
 by_cases h:i < n
 ·simp [h]
 ·simp [h]
theorem Zev (f:Nat -> Nat) (n k:Nat) (hk:k < n):(partL f n k).set k (f k) = partL f n (k + 1):=by
 apply List.ext_getElem?
 intro i
 rw [List.getElem?_set,Zeh]
 unfold partL
 by_cases he:k = i
 ·subst he;rw [if_pos rfl,if_pos hk];simp [hk]
 ·rw [if_neg he]
  by_cases h:i < n
  ·simp only [List.getElem?_map,List.getElem?_range h,Option.map_some,Option.some.injEq]
   by_cases h2:i < k
   ·rw [if_pos h2,if_pos (by omega)]
   ·rw [if_neg h2,if_neg (by omega)]
  ·simp [h]
end Go.Proofs.YtnkpnjnfddjfpaaGreat

namespace Go.Proofs.YtnkpnjnfddjfpaaGreat
open Go.RowKit
def encB:Enc Nat:=⟨1,fun n=>[.bool (n == 1)],fun _=>rfl,fun _ u hu=>by simp at hu;subst hu;rfl,by decide⟩
theorem flatB (l:List Nat):flat encB l = l.map fun n=>Value.bool (n == 1):=by
 induction l with
 | nil=>rfl
 | cons a l ih=>simp only [flat,List.flatMap_cons,List.map_cons,encB] at *;rw [ih];rfl
abbrev OwnB (w:World) (base:Nat) (a:Option Addr) (cap:Nat) (l:List Nat):Prop:=OwnS encB 4 w base a cap l
abbrev RowB (w:World) (a:Option Addr) (cap:Nat) (l:List Nat):Prop:=RowS encB w a cap l
theorem RowS.atB {w:World} {a:Option Addr} {cap:Nat} {l:List Nat} (h:RowB w a cap l) {i:Nat} (hi:i < l.length) :
  ∃ b off,a = some ⟨b,off,none⟩ /\ b < w.heap.size /\ w.cell? ⟨b,off + i,none⟩ = some (.bool (l[i] == 1)):=by
 obtain ⟨b,off,ha,hb,hc⟩:=h.at hi
 exact ⟨b,off,ha,hb,by simpa [encB] using hc 0 (.bool (l[i] == 1)) (by simp [encB])⟩
theorem RowS.subB {w:World} {b off cap:Nat} {l:List Nat} (h:RowB w (some ⟨b,off,none⟩) cap l) (i n:Nat) (hi:i + n <= l.length):RowB w (some ⟨b,off + i,none⟩) (cap - i) ((l.drop i).take n):=by
 obtain ⟨h1,⟨h2,_⟩,h3⟩:=h
 refine ⟨by simp;omega,⟨by omega,by simp⟩,?_⟩
 rcases h3 with rfl | ⟨b',off',he,hb,hc⟩
 ·left;simp
 ·right
  simp only [Option.some.injEq,Addr.mk.injEq,and_true] at he
  obtain ⟨rfl,rfl⟩:=he
  refine ⟨b,off + i,rfl,hb,fun j v hv=>?_⟩
  rw [Nat.add_assoc]
  refine hc (i + j) v ?_
  rw [flatB] at hv ⊢
  rw [List.getElem?_map,List.getElem?_take] at hv
  rw [List.getElem?_map]
  split at hv
  ·rw [List.getElem?_drop] at hv;exact hv
  ·simp at hv
theorem OwnS.storedB {w:World} {base g cap:Nat} {l:List Nat} (h:OwnB w base (some ⟨g,0,none⟩) cap l) (i x:Nat):OwnB (w.setCell ⟨g,i,none⟩ (.bool (x == 1))) base (some ⟨g,0,none⟩) cap (l.set i x):=by
 have h1:=(World.ownsRow.stored h i (.bool (x == 1))).1
 unfold OwnB OwnS at *
 rw [List.length_set,flatB,List.map_set]
 rw [flatB] at h1
 exact h1
theorem OwnS.atB {w:World} {base g cap:Nat} {l:List Nat} (h:OwnB w base (some ⟨g,0,none⟩) cap l) {i:Nat} (hi:i < l.length) :
  (∃ v,w.cell? ⟨g,i,none⟩ = some v) /\ w.frozen? ⟨g,i,none⟩ = false:=by
 have hc:=World.ownsRow.cellAt h i (by simpa [encB] using hi)
 rw [flatB,List.getElem?_map,List.getElem?_eq_getElem hi,Option.map_some] at hc
 exact ⟨⟨_,hc⟩,World.ownsRow.frozenAt h i⟩
theorem makeB {P:Program} {T:TypeId} {bytes:Nat} (et:ElemS P T 4 encB (.bool false) bytes) {w:World} {ops:Array Oper} {rest:List Oper} {o:Oper} {a:Act} {Q:Exit -> Act -> World -> Prop}
  (hg:o.guard = none) (lo c:Operand) (hop:o.op = Op.makeSlice T lo c) (base:Nat) {kl kc:IntKind} {n:Nat} (hl:a.eval lo = .int kl n) (hc:a.eval c = .int kc n)
  (hb:bytes * n <= 281474976710656) (hn:n <= 9223372036854775807) (hbase:base <= w.heap.size)
  (hK:∀ w',OwnB w' base (some ⟨w.heap.size,0,none⟩) n (List.replicate n 0) -> w.grownBy w' none -> wpList P ops Q rest (a.put o.dst (.slice (some ⟨w.heap.size,0,none⟩) n n)) w') :
  wpList P ops Q (o :: rest) a w:=by
 obtain ⟨i,h2,h3,h4,h5⟩:=info_parts et.info
 refine wpList_plain (by assumption) fun K hK'=>?_
 obtain ⟨w',hrun,r1,r2⟩:=run_make_full (P:=P) w base T 4 i (.bool false) 1 et.und h2 h3 h4 kl kc n (by rw [h5];exact hb) (by simpa [maxLen] using hn) hbase
 unfold Oper.wp
 simp [execOp,hop,hl,hc,hrun,Result.andThen]
 refine hK' _ _ (hK w' ?_ r2)
 unfold OwnB OwnS
 have hm:(madeCells (Value.bool false).cells (n * 1)).toList = flat encB (List.replicate n 0):=by
  rw [Nat.mul_one];show (madeCells #[.bool false] n).toList = _;rw [toList_madeCells_one,flatB];simp
 rw [List.length_replicate,<- hm]
 exact r1
theorem Zeu (f:Nat -> Nat) (n:Nat):partL f n n = (List.range n).map f:=by
 unfold partL
 apply List.map_congr_left
 intro i hi
 simp only [List.mem_range] at hi
 rw [if_pos hi]
end Go.Proofs.YtnkpnjnfddjfpaaGreat

namespace Go.Proofs.YtnkpnjnfddjfpaaGreat.M04
def start (l:List Nat) (i:Nat):Nat:=acc l (l.getD i 0) i
def size (l:List Nat) (i:Nat):Nat:=2 ^ (20 - l.getD i 0)
theorem Zya (l:List Nat) {n k n' k' j:Nat} (h:n < n' \/ n = n' /\ k <= k') (hp:pre l n k j):pre l n' k' j:=by
 unfold pre at *;omega
theorem Zwh (l:List Nat) {n k n' k':Nat} (h:n < n' \/ n = n' /\ k <= k'):acc l n k <= acc l n' k':=S_le fun j _=>by
 by_cases hp:pre l n k j
 ·rw [if_pos hp,if_pos (Zya l h hp)];exact Nat.le_refl _
 ·rw [if_neg hp];exact Nat.zero_le _
theorem Zmu (l:List Nat) (i:Nat) (hi:i < l.length) (h0:l.getD i 0 ≠ 0):acc l (l.getD i 0) (i + 1) = start l i + size l i :=
 Znd l _ i h0 hi (by simp [hi])
theorem Zyh (l:List Nat) (i:Nat) (hi:i < l.length) (h0:l.getD i 0 ≠ 0):start l i + size l i <= weight l:=by
 rw [<- Zmu l i hi h0];exact Zrs _ _ _
theorem Zhk (l:List Nat) (i k:Nat) (hi:i < l.length) (h0:l.getD i 0 ≠ 0) (h:l.getD i 0 < l.getD k 0 \/ l.getD i 0 = l.getD k 0 /\ i < k):start l i + size l i <= start l k:=by
 rw [<- Zmu l i hi h0];exact Zwh l (by omega)
theorem Zia (l:List Nat) (i:Nat):0 < size l i:=Nat.pow_pos (by decide)
theorem Zgw (l:List Nat) (i:Nat) (h0:l.getD i 0 ≠ 0):start l i = word l i * size l i:=by
 rw [word,if_neg h0]
 exact (Nat.div_mul_cancel (Zze l _ i)).symm
theorem Zabo (q s m:Nat) (hm:0 < m):q / m = s ↔ s * m <= q /\ q < s * m + m:=by
 rw [Nat.div_eq_iff hm]
 constructor
 ·intro h;constructor <;> omega
 ·intro h;constructor <;> omega
def hit (l:List Nat) (row i:Nat):Prop:=l.getD i 0 ≠ 0 /\ row / size l i = word l i
instance (l:List Nat) (row i:Nat):Decidable (hit l row i):=by unfold hit;infer_instance
theorem apart (l:List Nat) (i k:Nat) (hi:i < l.length) (hk:k < l.length) (h0:l.getD i 0 ≠ 0) (h1:l.getD k 0 ≠ 0) (hne:i ≠ k):start l i + size l i <= start l k \/ start l k + size l k <= start l i:=by
 by_cases h:l.getD i 0 < l.getD k 0 \/ l.getD i 0 = l.getD k 0 /\ i < k
 ·exact .inl (Zhk l i k hi h0 h)
 ·exact .inr (Zhk l k i hk h1 (by omega))
theorem Zkl (l:List Nat) (i:Nat) (hi:i < l.length) (h20:∀ x ∈ l,x <= 20) (hw:weight l <= 2 ^ 20):word l i / 2 ^ l.getD i 0 = 0:=by
 by_cases h0:l.getD i 0 = 0
 ·rw [word,if_pos h0];exact Nat.zero_div _
 ·have h1:=Zyh l i hi h0
  have h2:=Zgw l i h0
  have h3:=Zia l i
  have h4:=Zfa h20 i
  have h5:size l i * 2 ^ l.getD i 0 = 2 ^ 20:=by unfold size;rw [<- Nat.pow_add];congr 1;omega
  refine Nat.div_eq_of_lt ?_
  rw [h2] at h1
  have h6:word l i * size l i < 2 ^ l.getD i 0 * size l i:=by rw [Nat.mul_comm (2 ^ _),h5];omega
  exact Nat.lt_of_mul_lt_mul_right h6
theorem Zkk (l:List Nat) (i k:Nat) (hi:i < l.length) (hk:k < l.length) (h20:∀ x ∈ l,x <= 20) (h0:l.getD i 0 ≠ 0) (hne:k ≠ i) (hle:l.getD i 0 <= l.getD k 0):word l k / 2 ^ (l.getD k 0 - l.getD i 0) ≠ word l i:=by
 intro e
 have h1:l.getD k 0 ≠ 0:=by omega
 have h4:=Zfa h20 k
 have hs:size l i = 2 ^ (l.getD k 0 - l.getD i 0) * size l k:=by unfold size;rw [<- Nat.pow_add];congr 1;omega
 have hk':start l k / size l i = word l k / 2 ^ (l.getD k 0 - l.getD i 0):=by
  rw [Zgw l k h1,hs,Nat.mul_comm (2 ^ _) (size l k),<- Nat.div_div_eq_div_mul,Nat.mul_div_cancel _ (Zia l k)]
 rw [e,Zabo _ _ _ (Zia l i),<- Zgw l i h0] at hk'
 have:=apart l i k hi hk h0 h1 (Ne.symm hne)
 have:=Zia l k
 omega
theorem Zdx (l:List Nat) (i:Nat) (hi:i < (words l).length):(words l)[i] = word l i:=by simp [words]
end Go.Proofs.YtnkpnjnfddjfpaaGreat.M04

namespace Go.Proofs.YtnkpnjnfddjfpaaGreat.M06
abbrev TF:=Nat -> Nat -> Option Int
def putF (F:TF) (x k:Nat) (v:Int):TF:=fun x' k'=>if x' = x /\ k' = k then some v else F x' k'
def tabK (x n:Nat) (F:TF):Nat -> TF
 | 0=>F
 | k + 1=>putF (tabK x n F k) (x / 2 ^ (n - k)) k (-1)
def tabI (lens ws:List Nat):Nat -> TF
 | 0=>fun _ _=>none
 | i + 1=>if lens.getD i 0 = 0 then tabI lens ws i else tabK (ws.getD i 0) (lens.getD i 0) (putF (tabI lens ws i) (ws.getD i 0) (lens.getD i 0) i) (lens.getD i 0)
end Go.Proofs.YtnkpnjnfddjfpaaGreat.M06

namespace Go.Proofs.YtnkpnjnfddjfpaaGreat.M10
open M01 M04 M06
def decF (F:TF) (bs:List Nat):Nat -> Nat -> Nat -> Nat -> Option (Nat × Nat)
 | 0,_,_,_=>none
 | f + 1,x,k,at_=>match F x k with
  | none=>none
  | some s=>if 0 <= s then some (s.toNat,at_) else if at_ + 1 <= 8 * bs.length then decF F bs f (2 * x + bit bs at_) (k + 1) (at_ + 1) else none
def tabOf (l:List Nat):TF:=tabI l (words l) l.length
def sym (l bs:List Nat) (at_:Nat):Option (Nat × Nat):=decF (tabOf l) bs 22 0 0 at_
def Good (l:List Nat) (F:TF) (i:Nat):Prop :=
 ∀ x k v,F x k = some v -> k <= 20 /\ (v = -1 \/ ∃ s:Nat,v = s /\ s < i /\ x = (words l).getD s 0 /\ k = l.getD s 0 /\ 0 < k)
theorem Good.tabK {l:List Nat} {F:TF} {i:Nat} (h:Good l F i) (x n:Nat) (hn:n <= 20):∀ k,k <= n -> Good l (tabK x n F k) i:=by
 intro k
 induction k with
 | zero=>exact fun _=>h
 | succ k ih =>
  intro hk x' k' v hv
  unfold M06.tabK putF at hv
  split at hv
  ·next hc =>
   simp only [Option.some.injEq] at hv
   exact ⟨by omega,.inl hv.symm⟩
  ·exact ih (by omega) x' k' v hv
theorem Ztg (l:List Nat) (h20:∀ x ∈ l,x <= 20):∀ i,i <= l.length -> Good l (tabI l (words l) i) i:=by
 intro i
 induction i with
 | zero=>intro _ x k v hv;simp [tabI] at hv
 | succ i ih =>
  intro hi
  have h1:Good l (tabI l (words l) i) (i + 1):=fun x k v hv=>by
   obtain ⟨a,b⟩:=ih (by omega) x k v hv
   refine ⟨a,?_⟩
   rcases b with b | ⟨s,b1,b2,b3⟩
   ·exact .inl b
   ·exact .inr ⟨s,b1,by omega,b3⟩
  unfold tabI
  split
  ·exact h1
  ·next h0 =>
   have hle:l.getD i 0 <= 20:=Zfa h20 i
   refine Good.tabK ?_ _ _ hle _ (Nat.le_refl _)
   intro x k v hv
   unfold putF at hv
   split at hv
   ·next hc =>
    simp only [Option.some.injEq] at hv
    exact ⟨by omega,.inr ⟨i,hv.symm,by omega,hc.1,hc.2,by omega⟩⟩
   ·exact h1 x k v hv
theorem Zor (l:List Nat) (h20:∀ x ∈ l,x <= 20):Good l (tabOf l) l.length:=Ztg l h20 _ (Nat.le_refl _)
end Go.Proofs.YtnkpnjnfddjfpaaGreat.M10

namespace Go.Proofs.YtnkpnjnfddjfpaaGreat
open Go.RowKit M01 M04 M10
def bitL (bs:List Nat):List Nat:=(List.range (8 * bs.length)).map (bit bs)
theorem Zbo (bs:List Nat):(bitL bs).length = 8 * bs.length:=by simp [bitL]
theorem Zkm (bs:List Nat):∀ x ∈ bitL bs,x < 2:=by
 intro x hx
 simp only [bitL,List.mem_map] at hx
 obtain ⟨i,_,rfl⟩:=hx
 exact Zdy _ _
theorem Zho (bs:List Nat) (at_ n:Nat) (h:at_ + n <= 8 * bs.length):((bitL bs).drop at_).take n = (List.range n).map fun j=>bit bs (at_ + j):=by
 apply List.ext_getElem?
 intro i
 rw [List.getElem?_take,List.getElem?_map]
 by_cases hi:i < n
 ·rw [if_pos hi,List.getElem?_drop,List.getElem?_range hi]
  simp only [bitL,List.getElem?_map,Option.map_some]
  rw [List.getElem?_range (by omega)];rfl
 ·rw [if_neg hi]
  rw [List.getElem?_eq_none (by simp;omega)];rfl
def bitsN (v n:Nat):List Nat:=(List.range n).map fun j=>v / 2 ^ j % 2
theorem Zry (bs:List Nat) (x:Nat):bitL (bs ++ [x]) = bitL bs ++ bitsN x 8:=by
 unfold bitL bitsN
 rw [List.length_append,List.length_singleton,Nat.mul_add,List.range_add,List.map_append,List.map_map]
 congr 1
 ·apply List.map_congr_left
  intro i hi
  simp only [List.mem_range] at hi
  unfold bit
  rw [List.getD_eq_getElem?_getD,List.getD_eq_getElem?_getD,List.getElem?_append_left (by omega)]
 ·apply List.map_congr_left
  intro i hi
  simp only [List.mem_range] at hi
  simp only [Function.comp]
  unfold bit
  rw [List.getD_eq_getElem?_getD,List.getElem?_append_right (by omega),show (8 * bs.length + i) / 8 - bs.length = 0 by omega,show (8 * bs.length + i) % 8 = i by omega]
  simp
def msbL (x n:Nat):List Nat:=(List.range n).map fun j=>x / 2 ^ (n - 1 - j) % 2
theorem Zdr (x n:Nat):(msbL x n).length = n:=by simp [msbL]
theorem Zaaa (x n:Nat):∀ b ∈ msbL x n,b < 2:=by
 intro b hb
 simp only [msbL,List.mem_map] at hb
 obtain ⟨j,_,rfl⟩:=hb
 exact Nat.mod_lt _ (by decide)
theorem Znr (x n j:Nat) (hj:j < n):(msbL x n)[j]'(by rw [Zdr];exact hj) = x / 2 ^ (n - 1 - j) % 2:=by simp [msbL]
theorem Zim (x n:Nat):msbL x (n + 1) = msbL (x / 2) n ++ [x % 2]:=by
 unfold msbL
 rw [List.range_succ,List.map_append,List.map_cons,List.map_nil]
 congr 1
 ·apply List.map_congr_left
  intro j hj
  simp only [List.mem_range] at hj
  rw [show n + 1 - 1 - j = (n - 1 - j) + 1 by omega,Nat.pow_succ,Nat.mul_comm,<- Nat.div_div_eq_div_mul]
 ·simp
theorem Zlt (x n k:Nat) (hk:k <= n):(msbL x n).take k = msbL (x / 2 ^ (n - k)) k:=by
 apply List.ext_getElem (by simp [Zdr];omega)
 intro j h1 h2
 rw [Zdr] at h2
 rw [List.getElem_take,Znr _ _ _ (by omega),Znr _ _ _ h2,Nat.div_div_eq_div_mul,<- Nat.pow_add]
 congr 3
 omega
theorem Zxo:∀ (n x y:Nat),x < 2 ^ n -> y < 2 ^ n -> msbL x n = msbL y n -> x = y:=by
 intro n
 induction n with
 | zero=>intro x y hx hy _;simp at hx hy;omega
 | succ n ih =>
  intro x y hx hy h
  rw [Zim,Zim] at h
  obtain ⟨h1,h2⟩:=List.append_inj' h rfl
  have:=ih (x / 2) (y / 2) (by rw [Nat.pow_succ] at hx;omega) (by rw [Nat.pow_succ] at hy;omega) h1
  simp at h2
  omega
def hitF (l:List Nat) (x n j:Nat):Prop:=0 < l.getD j 0 /\ n <= l.getD j 0 /\ word l j / 2 ^ (l.getD j 0 - n) = x
instance (l:List Nat) (x n j:Nat):Decidable (hitF l x n j):=by unfold hitF;infer_instance
theorem Zaau (x n:Nat) (F:M06.TF) (x' k':Nat):∀ k,M06.tabK x n F k x' k' = if k' < k /\ x' = x / 2 ^ (n - k') then some (-1) else F x' k':=by
 intro k
 induction k with
 | zero=>simp [M06.tabK]
 | succ k ih =>
  unfold M06.tabK M06.putF
  rw [ih]
  by_cases h:x' = x / 2 ^ (n - k) /\ k' = k
  ·rw [if_pos h,if_pos (by obtain ⟨h1,rfl⟩:=h;exact ⟨by omega,h1⟩)]
  ·rw [if_neg h]
   by_cases h2:k' < k /\ x' = x / 2 ^ (n - k')
   ·rw [if_pos h2,if_pos ⟨by omega,h2.2⟩]
   ·rw [if_neg h2,if_neg]
    rintro ⟨h3,h4⟩
    by_cases e:k' = k
    ·subst e;exact h ⟨h4,rfl⟩
    ·exact h2 ⟨by omega,h4⟩
theorem Zaat (l:List Nat) (i x n:Nat) (hi:i < l.length):M06.tabI l (words l) (i + 1) x n =
  if n < l.getD i 0 /\ x = word l i / 2 ^ (l.getD i 0 - n) then some (-1) else if x = word l i /\ n = l.getD i 0 /\ 0 < l.getD i 0 then some (i:Int) else M06.tabI l (words l) i x n:=by
 have hw:(words l).getD i 0 = word l i:=by rw [List.getD_eq_getElem?_getD,List.getElem?_eq_getElem (by rw [Zbn];exact hi),Option.getD_some,Zdx]
 rw [M06.tabI]
 by_cases h0:l.getD i 0 = 0
 ·rw [if_pos h0,if_neg (by omega),if_neg (by omega)]
 ·rw [if_neg h0,Zaau,hw]
  unfold M06.putF
  by_cases h:n < l.getD i 0 /\ x = word l i / 2 ^ (l.getD i 0 - n)
  ·rw [if_pos h,if_pos h]
  ·rw [if_neg h,if_neg h]
   by_cases h2:x = word l i /\ n = l.getD i 0
   ·rw [if_pos h2,if_pos ⟨h2.1,h2.2,by omega⟩]
   ·rw [if_neg h2,if_neg (fun h3=>h2 ⟨h3.1,h3.2.1⟩)]
theorem Zpk (l:List Nat) (h20:∀ x ∈ l,x <= 20) (x n:Nat):∀ i,i <= l.length →
  (∀ j,j < i -> hitF l x n j -> M06.tabI l (words l) i x n = if n = l.getD j 0 then some (j:Int) else some (-1)) /\ ((∀ j,j < i -> ¬ hitF l x n j) -> M06.tabI l (words l) i x n = none):=by
 intro i
 induction i with
 | zero=>intro _;exact ⟨fun j hj=>by omega,fun _=>rfl⟩
 | succ i ih =>
  intro hi
  obtain ⟨ih1,ih2⟩:=ih (by omega)
  rw [Zaat l i x n hi]
  refine ⟨fun j hj hh=>?_,fun hn=>?_⟩
  ·obtain ⟨h1,h2,h3⟩:=hh
   by_cases e:j = i
   ·subst e
    by_cases hlt:n < l.getD j 0
    ·rw [if_pos ⟨hlt,h3.symm⟩,if_neg (by omega)]
    ·have hn:n = l.getD j 0:=by omega
     rw [if_neg (by omega),if_pos hn,if_pos ⟨by rw [<- h3,hn,Nat.sub_self,Nat.pow_zero,Nat.div_one],hn,h1⟩]
   ·by_cases hc1:n < l.getD i 0 /\ x = word l i / 2 ^ (l.getD i 0 - n)
    ·rw [if_pos hc1,if_neg]
     intro hn
     have:=Zkk l j i (by omega) hi h20 (by omega) (by omega) (by omega)
     rw [<- hn,<- hc1.2] at this
     rw [<- hn,Nat.sub_self] at h3
     simp at h3
     exact this h3.symm
    ·rw [if_neg hc1,if_neg]
     ·exact ih1 j (by omega) ⟨h1,h2,h3⟩
     ·rintro ⟨h4,h5,h6⟩
      have:=Zkk l i j hi (by omega) h20 (by omega) (by omega) (by omega)
      rw [<- h5,h3] at this
      exact this h4
  ·rw [if_neg (fun h=>hn i (by omega) ⟨by omega,by omega,h.2.symm⟩),if_neg (fun h=>hn i (by omega) ⟨h.2.2,by omega,by rw [h.2.1,Nat.sub_self];simp [h.1]⟩)]
   exact ih2 fun j hj=>hn j (by omega)
theorem Zmy (l:List Nat) (h20:∀ x ∈ l,x <= 20) (x n j:Nat) (hj:j < l.length) (h:hitF l x n j):tabOf l x n = if n = l.getD j 0 then some (j:Int) else some (-1) :=
 (Zpk l h20 x n _ (Nat.le_refl _)).1 j hj h
theorem Zrm (l:List Nat) (h20:∀ x ∈ l,x <= 20) (x n:Nat) (h:∀ j,j < l.length -> ¬ hitF l x n j):tabOf l x n = none :=
 (Zpk l h20 x n _ (Nat.le_refl _)).2 h
theorem Zop (l bs:List Nat) (h20:∀ x ∈ l,x <= 20) (f x n at_ j:Nat) (hj:j < l.length) (h:hitF l x n j) (hn:n = l.getD j 0):decF (tabOf l) bs (f + 1) x n at_ = some (j,at_):=by
 unfold decF
 rw [Zmy l h20 x n j hj h,if_pos hn]
 simp
theorem Zss (l bs:List Nat) (h20:∀ x ∈ l,x <= 20) (f x n at_:Nat) (h:∀ j,j < l.length -> ¬ hitF l x n j):decF (tabOf l) bs (f + 1) x n at_ = none:=by
 unfold decF
 rw [Zrm l h20 x n h]
theorem Zzo (l bs:List Nat) (h20:∀ x ∈ l,x <= 20) (f x n at_ j:Nat) (hj:j < l.length) (h:hitF l x n j) (hn:n ≠ l.getD j 0):decF (tabOf l) bs (f + 1) x n at_ = if at_ + 1 <= 8 * bs.length then decF (tabOf l) bs f (2 * x + bit bs at_) (n + 1) (at_ + 1) else none:=by
 rw [decF,Zmy l h20 x n j hj h,if_neg hn]
 rfl
theorem Zps (l:List Nat) (x n j:Nat) (hj:j < l.length) (h20:∀ x ∈ l,x <= 20) (hw:weight l <= 2 ^ 20) (h0:0 < l.getD j 0) (hx:x < 2 ^ n) :
  (n <= l.getD j 0 /\ (msbL (word l j) (l.getD j 0)).take n = msbL x n) ↔ hitF l x n j:=by
 unfold hitF
 refine ⟨fun ⟨h1,h2⟩=>⟨h0,h1,?_⟩,fun ⟨_,h1,h2⟩=>⟨h1,?_⟩⟩
 ·rw [Zlt _ _ _ h1] at h2
  refine Zxo n _ _ ?_ hx h2
  have h3:=Zkl l j hj h20 hw
  have h4:word l j < 2 ^ l.getD j 0:=by
   rcases Nat.div_eq_zero_iff.1 h3 with h | h
   ·have:=Nat.pow_pos (n:=l.getD j 0) (show 0 < 2 by decide);omega
   ·exact h
  rw [Nat.div_lt_iff_lt_mul (Nat.pow_pos (by decide)),<- Nat.pow_add]
  rwa [show n + (l.getD j 0 - n) = l.getD j 0 by omega]
 ·rw [Zlt _ _ _ h1,h2]
theorem Zwz (bs:List Nat) (at_ n x:Nat) (h:at_ + n + 1 <= 8 * bs.length) (hx:((bitL bs).drop at_).take n = msbL x n):((bitL bs).drop at_).take (n + 1) = msbL (2 * x + bit bs (at_ + n)) (n + 1):=by
 have hb:=Zdy bs (at_ + n)
 rw [Zim,show (2 * x + bit bs (at_ + n)) / 2 = x by omega,show (2 * x + bit bs (at_ + n)) % 2 = bit bs (at_ + n) by omega,<- hx,Zho bs at_ (n + 1) (by omega),Zho bs at_ n (by omega),List.range_succ,List.map_append]
 rfl
end Go.Proofs.YtnkpnjnfddjfpaaGreat

namespace Go.Proofs.YtnkpnjnfddjfpaaGreat.M02
open M01
def rev8 (x:Nat):Nat:=x % 2 * 128 + x / 2 % 2 * 64 + x / 4 % 2 * 32 + x / 8 % 2 * 16 + x / 16 % 2 * 8 + x / 32 % 2 * 4 + x / 64 % 2 * 2 + x / 128 % 2
theorem Zyb:∀ x,x < 256 -> ∀ r,r < 8 -> rev8 x / 2 ^ r % 2 = x / 2 ^ (7 - r) % 2:=by decide +kernel
def rv (l:List Nat):List Nat:=l.map rev8
theorem Zba (l:List Nat):(rv l).length = l.length:=List.length_map _
theorem Zuz (l m:List Nat):rv (l ++ m) = rv l ++ rv m:=List.map_append
theorem Zabf (l:List Nat) (h:∀ x ∈ l,x < 256) (i:Nat) (hi:i < 8 * l.length):bit (rv l) i = l.getD (i / 8) 0 / 2 ^ (7 - i % 8) % 2:=by
 have hk:i / 8 < l.length:=by omega
 unfold bit rv
 rw [List.getD_eq_getElem?_getD,List.getElem?_map,List.getElem?_eq_getElem hk,List.getD_eq_getElem?_getD,List.getElem?_eq_getElem hk]
 exact Zyb _ (h _ (List.getElem_mem hk)) _ (Nat.mod_lt _ (by decide))
def numH (B:List Nat) (at_:Nat):Nat -> Nat
 | 0=>0
 | n + 1=>2 * numH B at_ n + bit B (at_ + n)
theorem Zbk (B:List Nat) (at_ n:Nat):numH B at_ n < 2 ^ n:=by
 induction n with
 | zero=>simp [numH]
 | succ n ih =>
  have:=Zdy B (at_ + n)
  simp only [numH,Nat.pow_succ]
  omega
theorem Zkq (B:List Nat) (at_:Nat):numH B at_ 1 = bit B at_:=by simp [numH]
end Go.Proofs.YtnkpnjnfddjfpaaGreat.M02

namespace Go.Proofs.YtnkpnjnfddjfpaaGreat.M27
open M01 M02 M04 M06 M10
abbrev nb (B:List Nat):Nat:=8 * B.length
def numG (B:List Nat) (at_ n:Nat):Option (Nat × Nat):=if at_ + n <= nb B then some (numH B at_ n,at_ + n) else none
def toFront (l:List Nat) (k:Nat):List Nat:=l.getD k 0 :: (l.take k ++ l.drop (k + 1))
def pickB (B:List Nat) (at_ g:Nat):List Nat:=((List.range 16).filter fun k=>bit B (at_ + k) = 1).map fun k=>16 * g + k
def pickL (B:List Nat) (f0:Nat):Nat -> Nat -> Nat -> List Nat -> Option (List Nat × Nat)
 | 0,g,at_,out=>some (out,at_)
 | m + 1,g,at_,out=>if bit B (f0 + g) = 1 then (if at_ + 16 <= nb B then pickL B f0 m (g + 1) (at_ + 16) (out ++ pickB B at_ g) else none) else pickL B f0 m (g + 1) at_ out
def pickG (B:List Nat) (at_:Nat):Option (List Nat × Nat) :=
 if at_ + 16 <= nb B then match pickL B at_ 16 0 (at_ + 16) [] with
  | some (out,at2)=>if out = [] then none else some (out,at2)
  | none=>none
 else none
def lenL (B:List Nat):Nat -> Nat -> Nat -> Nat -> List Nat -> Option (List Nat × Nat)
 | 0,_,_,_,_=>none
 | f + 1,k,at_,n,out =>
  if n <= out.length then some (out,at_)
  else if k < 1 \/ 20 < k \/ nb B <= at_ then none
  else if bit B at_ = 0 then lenL B f k (at_ + 1) n (out ++ [k])
  else if nb B <= at_ + 1 then none
  else lenL B f (if bit B (at_ + 1) = 1 then k - 1 else k + 1) (at_ + 2) n out
def lenG (B:List Nat) (at_ n:Nat):Option (List Nat × Nat):=(numG B at_ 5).bind fun p=>lenL B (nb B + 2) p.1 p.2 n []
def onesG (B:List Nat) (tables:Nat):Nat -> Nat -> Nat -> Option (Nat × Nat)
 | 0,_,_=>none
 | f + 1,k,at_=>if nb B <= at_ then none else if bit B at_ = 0 then some (k,at_ + 1) else if k + 1 = tables then none else onesG B tables f (k + 1) (at_ + 1)
def selL (B:List Nat) (tables:Nat):Nat -> List Nat -> Nat -> List Nat -> Option (List Nat × Nat)
 | 0,_,at_,out=>some (out,at_)
 | n + 1,l,at_,out=>(onesG B tables 8 0 at_).bind fun p=>selL B tables n (toFront l p.1) p.2 (out ++ [l.getD p.1 0])
def selG (B:List Nat) (at_ tables:Nat):Option (List Nat × Nat) :=
 (numG B at_ 15).bind fun p=>if p.1 = 0 then none else selL B tables p.1 [0,1,2,3,4,5] p.2 []
def frL (used:List Nat) (most:Nat):List Nat -> List Nat -> List Nat -> Nat -> Option (List Nat)
 | [],_,_,_=>none
 | s :: r,l,out,worth =>
  if used.length + 1 < s \/ (s = used.length + 1) ≠ (r = []) then none
  else if s <= 1 then (if most < out.length + worth * (s + 1) then none else frL used most r l (out ++ List.replicate (worth * (s + 1)) (l.getD 0 0)) (2 * worth))
  else if s = used.length + 1 then (if most < out.length then none else some out)
  else if most < out.length + 1 then none else frL used most r (toFront l (s - 1)) (out ++ [l.getD (s - 1) 0]) 1
def rising:List Nat -> Bool
 | []=>true
 | [_]=>true
 | a :: b :: l=>decide (a < b) && rising (b :: l)
def frontG (used symbols:List Nat) (most:Nat):Option (List Nat):=frL used most symbols used [] 1
def wayL (last:List Nat):List Nat:=(List.range 256).flatMap fun c=>(List.range last.length).filter fun i=>last.getD i 0 = c
def backL (last:List Nat):Nat -> Nat -> List Nat
 | 0,_=>[]
 | n + 1,at_=>last.getD ((wayL last).getD at_ 0) 0 :: backL last n ((wayL last).getD at_ 0)
def backG (last:List Nat) (at_:Nat):Option (List Nat):=if at_ < last.length then some (backL last last.length at_) else none
def sayL:List Nat -> Nat -> Nat -> List Nat
 | [],_,_=>[]
 | c :: r,p,run=>if run = 4 then List.replicate c p ++ sayL r c 0 else c :: sayL r c (if run = 0 \/ c = p then run + 1 else 1)
def say (l:List Nat):List Nat:=sayL l 0 0
def crcBit (v:Nat):Nat:=if 2147483648 <= v then (2 * v % 4294967296).xor 79764919 else 2 * v % 4294967296
def crcTab (c:Nat):Nat:=crcBit (crcBit (crcBit (crcBit (crcBit (crcBit (crcBit (crcBit (c * 16777216))))))))
def crcStep (v c:Nat):Nat:=(v * 256 % 4294967296).xor (crcTab ((v / 16777216).xor c))
def crcHigh (l:List Nat):Nat:=4294967295 - l.foldl crcStep 4294967295
def foldS (all one:Nat):Nat:=((2 * all % 4294967296).xor (all / 2147483648)).xor one
end Go.Proofs.YtnkpnjnfddjfpaaGreat.M27

namespace Go.Proofs.YtnkpnjnfddjfpaaGreat
open Go.RowKit M01 M02 M10 M27
theorem Zae:ElemS Tryz.prog 59 4 encB (.bool false) 1:=⟨Tryz.underlying59,by kernel_rfl,by kernel_rfl⟩
def hbits (v n:Nat):List Nat:=(List.range n).map fun j=>v / 2 ^ (n - 1 - j) % 2
theorem Zak (v n:Nat):(hbits v n).length = n:=by simp [hbits]
theorem Zcz (v n:Nat):∀ x ∈ hbits v n,x < 2:=by
 intro x hx
 simp only [hbits,List.mem_map] at hx
 obtain ⟨i,_,rfl⟩:=hx
 omega
theorem Ztj:∀ x,x < 256 -> hbits x 8 = bitsN (rev8 x) 8:=by decide +kernel
def partR (f:Nat -> Nat) (n k:Nat):List Nat:=(List.range n).map fun i=>if n - k <= i then f i else 0
theorem Zma (f:Nat -> Nat) (n k:Nat):(partR f n k).length = n:=by simp [partR]
theorem Zqm (f:Nat -> Nat) (n:Nat):partR f n 0 = List.replicate n 0:=by
 apply List.ext_getElem?
 intro i
 simp only [partR,List.getElem?_map,List.getElem?_replicate]
 by_cases h:i < n
 ·simp [h];intro h2;omega
 ·simp [h]
theorem Zql (f:Nat -> Nat) (n k m:Nat) (hk:k < n) (hm:m = n - 1 - k):(partR f n k).set m (f m) = partR f n (k + 1):=by
 apply List.ext_getElem?
 intro i
 rw [List.getElem?_set,Zma]
 unfold partR
 by_cases he:m = i
 ·subst he;rw [if_pos rfl,if_pos (by omega)];simp [show m < n by omega];omega
 ·rw [if_neg he]
  by_cases h:i < n
  ·simp only [List.getElem?_map,List.getElem?_range h,Option.map_some,Option.some.injEq]
   by_cases h2:n - k <= i
   ·rw [if_pos h2,if_pos (by omega)]
   ·rw [if_neg h2,if_neg (by omega)]
  ·simp [h]
theorem Zqk (f:Nat -> Nat) (n:Nat):partR f n n = (List.range n).map f:=by
 unfold partR
 apply List.map_congr_left
 intro i hi
 rw [if_pos (by omega)]
def numHL (l:List Nat):Nat:=l.foldl (fun v b=>2 * v + b) 0
theorem Zgt (l:List Nat) (b:Nat):numHL (l ++ [b]) = 2 * numHL l + b:=by simp [numHL]
theorem Ztw (B:List Nat) (at_ n:Nat):numHL ((List.range n).map fun j=>bit B (at_ + j)) = numH B at_ n:=by
 induction n with
 | zero=>rfl
 | succ n ih=>rw [List.range_succ,List.map_append,List.map_cons,List.map_nil,Zgt,ih];rfl
theorem Ztx (B:List Nat) (at_ n:Nat) (h:at_ + n <= 8 * B.length):numHL (((bitL B).drop at_).take n) = numH B at_ n:=by rw [Zho B at_ n h,Ztw]
theorem Zxq (l:List Nat) (h:∀ x ∈ l,x < 2):∀ k,k <= l.length -> numHL (l.take k) < 2 ^ k:=by
 intro k
 induction k with
 | zero=>intro _;simp [numHL]
 | succ k ih =>
  intro hk
  rw [M04.Zbm l k hk,Zgt]
  have:=ih (by omega)
  have:=h l[k] (List.getElem_mem hk)
  rw [Nat.pow_succ]
  omega
set_option maxRecDepth 100000 in
set_option maxHeartbeats 800000 in
theorem Zat (v n:Nat) (w:World) (hv:v < 4294967296) (hn:n <= 32) :
  Calls Tryz.prog 48 #[.int .u32 (v:Nat),.int .i64 (n:Nat)] w fun e w'=>∃ g,e = .returned (.slice (some ⟨g,0,none⟩) n n) /\ OwnB w' w.heap.size (some ⟨g,0,none⟩) n (hbits v n) /\ Below w.heap.size w w':=by
 go_enter Tryz.func48,Tryz.ntmps48
 go_wp2_with (first | (at_make;refine makeB (n:=n) Zae rfl _ _ rfl w.heap.size rfl rfl (by omega) (by omega) (Nat.le_refl _) ?_;intro w1 hown1 hg1))
 have HB0:=Zh (Below.of_grown hg1 (Nat.le_refl _) (fun k e=>by cases e))
 obtain ⟨g1,hg⟩:∃ g1,w.heap.size = g1:=⟨_,rfl⟩
 rw [<- Zqm (fun j=>v / 2 ^ (n - 1 - j) % 2) n] at hown1
 have HO:=Zh hown1
 clear hg1 hown1
 simp only [hg]
 rw [hg] at HO
 have HG1:=Zh hg
 clear hg
 go_loopw [0,6] (fun x i A=>∃ k:Nat,k <= n /\ i = .int .i64 k /\ x = .int .u32 (v / 2 ^ k:Nat) /\ OwnB A g1 (some ⟨g1,0,none⟩) n (partR (fun j=>v / 2 ^ (n - 1 - j) % 2) n k) /\ Below w.heap.size w A) (fun x i _=>n - (intOf i).toNat)
 case atStart=>exact ⟨0,by omega,rfl,by simp,HO.out,HB0.out⟩
 case round =>
  clear HO HB0
  obtain ⟨k,hk,rfl,rfl,ho,hb⟩:=hrel
  have HO:=Zh ho
  have HB:=Zh hb
  clear ho hb
  by_cases hlt:k < n
  ·have t0:decide ((k:Nat) < n) = true:=by simp;omega
   obtain ⟨m,hm⟩:∃ m,m = n - 1 - k:=⟨_,rfl⟩
   have hmi:(n:Int) - 1 - (k:Int) = (m:Int):=by omega
   have hmn:m < n:=by omega
   obtain ⟨⟨u,f1⟩,f2⟩:=OwnS.atB HO.out (i:=m) (by rw [Zma];exact hmn)
   have hstep:=OwnS.storedB HO.out m (v / 2 ^ (n - 1 - m) % 2)
   rw [Zql _ n k m hlt hm,show n - 1 - m = k by omega] at hstep
   have HS:=Zh hstep
   have HBS:=Zh (HB.out.setCell (p:=⟨g1,m,none⟩) (by show w.heap.size <= g1;have:=HG1.out;omega) (.bool (v / 2 ^ k % 2 == 1)))
   obtain ⟨x,hx⟩:∃ x,v / 2 ^ k = x:=⟨_,rfl⟩
   have hx2:x < 4294967296:=by have:=Nat.div_le_self v (2 ^ k);omega
   have HX2:Hid (v / 2 ^ (k + 1) = x / 2):=by unfold Hid;rw [Nat.pow_succ,<- Nat.div_div_eq_div_mul,hx]
   have HE:Hid ((((x:Nat):Int) % 2 == 1) = (x % 2 == 1)):=by
    unfold Hid
    have:x % 2 = 0 \/ x % 2 = 1:=by omega
    rcases this with h | h
    ·rw [h,show ((x:Nat):Int) % 2 = 0 by omega];rfl
    ·rw [h,show ((x:Nat):Int) % 2 = 1 by omega];rfl
   simp only [hx] at HS HBS ⊢
   clear hx HO HB hstep hm
   go_wp2
   go_roundw
   case rel=>exact ⟨k + 1,by omega,by go_num,by rw [HX2.out];exact Zbg (by omega),by rw [HE.out];exact HS.out,by rw [HE.out];exact HBS.out⟩
   case measure=>simp [intOf];omega
  ·obtain rfl:k = n:=by omega
   go_wp2
   go_ret
   exact ⟨g1,rfl,by rw [HG1.out];have:=HO.out;rw [Zqk] at this;exact this,HB.out⟩
set_option maxRecDepth 100000 in
set_option maxHeartbeats 800000 in
theorem Zdc (a:Option Addr) (c:Nat) (l:List Nat) (w:World) (hr:RowB w a c l) (hl:l.length <= 32) (hb:∀ x ∈ l,x < 2) :
  Calls Tryz.prog 94 #[.slice a l.length c] w fun e w'=>e = .returned (.int .u32 (numHL l:Nat)) /\ w' = w:=by
 have HR:=Zh hr
 have HB:=Zh hb
 clear hr hb
 go_enter Tryz.func94,Tryz.ntmps94
 go_wp2
 go_loopw [3,4] (fun x i A=>∃ k:Nat,k <= l.length /\ i = .int .i64 k /\ x = .int .u32 (numHL (l.take k):Nat) /\ A = w) (fun x i _=>l.length - (intOf i).toNat)
 case atStart=>exact ⟨0,by omega,rfl,by simp [numHL],rfl⟩
 case round =>
  obtain ⟨k,hk,rfl,rfl,rfl⟩:=hrel
  by_cases hlt:k < l.length
  ·obtain ⟨b,off,rfl,hbs,hc⟩:=HR.out.atB hlt
   have hx:=Zxq l HB.out k hk
   have hx3:(2:Nat) ^ k <= 2 ^ 31:=Nat.pow_le_pow_right (by decide) (by omega)
   have HN:Hid (numHL (l.take (k + 1)) = 2 * numHL (l.take k) + l[k]):=by
    unfold Hid
    rw [M04.Zbm l k hlt,Zgt]
   have hv2:=HB.out l[k] (List.getElem_mem hlt)
   obtain ⟨y,hy⟩:∃ y,l[k] = y:=⟨_,rfl⟩
   rw [hy] at hc HN hv2
   generalize numHL (l.take k) = x at *
   have hx4:x < 2147483648:=by omega
   have t0:decide ((k:Nat) < l.length) = true:=by simp;omega
   clear hx hx3 hy
   rcases (show y = 0 \/ y = 1 by omega) with rfl | rfl
   ·rw [show ((0:Nat) == 1) = false from rfl] at hc
    go_wp2
    go_roundw
    case rel=>exact ⟨k + 1,by omega,by go_num,by rw [HN.out];exact Zbg (by omega),by trivial⟩
    case measure=>simp [intOf];omega
   ·rw [show ((1:Nat) == 1) = true from rfl] at hc
    go_wp2
    go_roundw
    case rel=>exact ⟨k + 1,by omega,by go_num,by rw [HN.out];exact Zbg (by omega),by trivial⟩
    case measure=>simp [intOf];omega
  ·obtain rfl:k = l.length:=by omega
   rw [List.take_length]
   go_wp2
   go_ret
   exact ⟨rfl,rfl⟩
set_option maxRecDepth 100000 in
set_option maxHeartbeats 800000 in
theorem Zga (a:Option Addr) (cap:Nat) (bs:List Nat) (w:World) (hr:RowN .u8 w a cap bs) (hb:∀ x ∈ bs,x < 256) (hl:bs.length <= 1000) :
  Calls Tryz.prog 27 #[.slice a bs.length cap] w fun e w'=>∃ g c,e = .returned (.slice g (bitL (rv bs)).length c) /\ OwnB w' w.heap.size g c (bitL (rv bs)) /\ Below w.heap.size w w':=by
 have HR:=Zh hr
 have HB:=Zh hb
 clear hr hb
 obtain ⟨q,hq⟩:∃ q,w.heap.size = q:=⟨_,rfl⟩
 rw [hq]
 have HQ:=Zh hq
 go_enter Tryz.func27,Tryz.ntmps27
 go_wp2
 go_loopw [3,4] (fun x i A=>∃ (k:Nat) (o:List Nat) (g:Option Addr) (c:Nat),k <= bs.length /\ i = .int .i64 k /\ x = .slice g o.length c /\ o = bitL (rv (bs.take k)) /\ OwnB A q g c o /\ Below q w A) (fun x i _=>bs.length - (intOf i).toNat)
 case atStart=>exact ⟨0,[],none,0,by omega,rfl,rfl,by simp [bitL,rv],OwnS.nil _ _ _ _,Below.refl _ _⟩
 case round =>
  clear hq
  obtain ⟨k,o,g,c,hk,rfl,rfl,ho,hown,hbe⟩:=hrel
  have HO:=Zh hown
  have HE:=Zh hbe
  have HOB:=Zh ho
  have hol:o.length = 8 * k:=by rw [ho,Zbo,Zba,List.length_take,Nat.min_eq_left hk]
  have hol2:o.length <= 8000:=by omega
  replace hol:=Zh hol
  clear ho hown hbe
  by_cases hlt:k < bs.length
  ·obtain ⟨b,off,rfl,hbs,hc⟩:=(HR.out.below (HQ.out ▸ HE.out)).at hlt
   have hv:=HB.out bs[k] (List.getElem_mem hlt)
   have HT:Hid (bs.take (k + 1) = bs.take k ++ [bs[k]]):=M04.Zbm bs k hlt
   generalize bs[k] = v at *
   have hwr:q <= wr.heap.size:=by have:=HE.out.size;have:=HQ.out;omega
   have HBI:=Zh (Zat v 8 wr (by omega) (by omega))
   have HWR:=Zh hwr
   have hbl:8 = (hbits v 8).length:=by simp [hbits]
   have HBL:=Zh hbl
   have HRB:=Zh (Ztj v hv)
   clear hwr hbl
   go_wp2_with fail
   refine HBI.out.mono ?_
   rintro e w3 ⟨g3,rfl,ho3,hb3⟩
   have HO3:=Zh (HO.out.below hb3)
   have HR3:=Zh ho3.row
   have HE3:=Zh (HE.out.trans (hb3.mono HWR.out))
   have HW3:Hid (q <= w3.heap.size):=by unfold Hid;have:=hb3.size;have:=HWR.out;omega
   clear HO HE HBI ho3 hb3
   go_wp2_with (at_builtin;refine appAnyS Zae rfl (.tmp 11) (.tmp 17) rfl rfl HO3.out HBL.out rfl HR3.out (by omega) (by omega) HW3.out ?_;intro a7 cap7 w7 hown7 hg7 hb7;replace hown7:=Zh hown7;replace hb7:=Zh (HE3.out.trans hb7);clear hg7)
   go_wp2
   go_roundw
   case rel=>exact ⟨k + 1,o ++ hbits v 8,a7,cap7,by omega,by go_num,by rw [List.length_append,<- HBL.out],by rw [HT.out,Zuz,show rv [v] = [rev8 v] from rfl,Zry,<- HOB.out,HRB.out],hown7.out,hb7.out⟩
   case measure=>simp [intOf];omega
  ·obtain rfl:k = bs.length:=by omega
   go_wp2
   go_ret
   have h1:=HOB.out
   rw [List.take_length] at h1
   subst h1
   exact ⟨g,c,rfl,HO.out,HE.out⟩
set_option maxRecDepth 100000 in
set_option maxHeartbeats 800000 in
theorem Zfz (a:Option Addr) (cap:Nat) (bs:List Nat) (at_ n:Nat) (w:World) (hr:RowB w a cap (bitL bs)) (hl:bs.length <= 1000) (ha:at_ <= 8 * bs.length) (hn:n <= 32) :
  Calls Tryz.prog 56 #[.slice a (bitL bs).length cap,.int .i64 (at_:Nat),.int .i64 (n:Nat)] w fun e w' =>
   e = .returned (if at_ + n <= 8 * bs.length then .tuple #[.int .u32 (numH bs at_ n:Nat),.int .i64 ((at_ + n:Nat):Int),.int .i64 0] else .tuple #[.int .u32 0,.int .i64 (at_:Nat),.int .i64 2]) /\ w' = w:=by
 have HR:=Zh hr
 have HL:=Zh (Zbo bs)
 have HS:=Zh (fun h=>Zho bs at_ n h)
 have HNS:=Zh (fun h=>Ztx bs at_ n h)
 have HBL:=Zh (Zkm bs)
 have hll:(bitL bs).length = 8 * bs.length:=Zbo bs
 generalize bitL bs = L at *
 clear hr
 have t0:decide ((n:Int) < 0) = false:=by simp
 have t1:decide ((32:Int) < (n:Int)) = false:=by simp;omega
 go_enter Tryz.func56,Tryz.ntmps56
 by_cases hfit:at_ + n <= 8 * bs.length
 ·have t2:decide ((L.length:Int) - (at_:Int) < (n:Int)) = false:=by simp;omega
  have hfit2:at_ + n <= L.length:=by omega
  simp only [if_pos hfit]
  have hcap:=HR.out.1
  have hcap2:=HR.out.2.1.1
  have HLL:=Zh hll
  have hln:((L.drop at_).take n).length = n:=by rw [List.length_take,List.length_drop];omega
  have h32:L.length <= 8000:=by omega
  cases a with
  | none =>
   obtain rfl:cap = 0:=HR.out.2.1.2 rfl
   obtain rfl:at_ = 0:=by omega
   obtain rfl:n = 0:=by omega
   have hL0:L = []:=List.eq_nil_of_length_eq_zero (by omega)
   subst hL0
   have HN:=Zh (Zdc none 0 [] w (RowS.nil _ _) (by decide) (by simp))
   clear hll hln hfit hfit2
   go_wp2_with fail
   refine HN.out.mono ?_
   rintro e w3 ⟨rfl,rfl⟩
   go_wp2
   go_ret3
   exact ⟨rfl,rfl⟩
  | some ad =>
   obtain ⟨b,off,p⟩:=ad
   by_cases hn0:n = 0
   ·subst hn0
    have HN:=Zh (fun (x:Addr) (c:Nat) (hc:c <= 9223372036854775807)=>Zdc (some x) c [] w ⟨by simp,⟨hc,by simp⟩,.inl rfl⟩ (by decide) (by simp))
    by_cases hac:at_ = cap
    ·subst hac
     clear hll hln hfit
     go_wp2_with fail
     refine (HN.out _ _ (by omega)).mono ?_
     rintro e w3 ⟨rfl,rfl⟩
     go_wp2
     go_ret3
     exact ⟨rfl,rfl⟩
    ·clear hll hln hfit
     go_wp2_with fail
     refine (HN.out _ _ (by omega)).mono ?_
     rintro e w3 ⟨rfl,rfl⟩
     go_wp2
     go_ret3
     exact ⟨rfl,rfl⟩
   ·obtain rfl:p = none:=by
     rcases HR.out.2.2 with h | ⟨b',off',he,_⟩
     ·rw [h] at hfit2;simp at hfit2;omega
     ·simp only [Option.some.injEq,Addr.mk.injEq] at he;exact he.2.2
    have hac:at_ ≠ cap:=by omega
    have HSB:=Zh (HR.out.subB at_ n hfit2)
    have HN:=Zh (fun (x:Nat) (hx:x = n)=>by
     have:=Zdc (some ⟨b,off + at_,none⟩) (cap - at_) ((L.drop at_).take n) w HSB.out (by omega) (fun y hy=>HBL.out y (List.mem_of_mem_drop (List.mem_of_mem_take hy)))
     rwa [hln,HNS.out hfit,<- hx] at this)
    clear hll hln hfit
    go_wp2_with fail
    refine (HN.out _ rfl).mono ?_
    rintro e w3 ⟨rfl,rfl⟩
    go_wp2
    go_ret3
    exact ⟨rfl,rfl⟩
 ·have t2:decide ((L.length:Int) - (at_:Int) < (n:Int)) = true:=by simp;omega
  simp only [if_neg hfit]
  have hfit2:L.length < at_ + n:=by omega
  clear hfit hll
  go_wp2_with fail
  go_ret3
  exact ⟨rfl,rfl⟩
end Go.Proofs.YtnkpnjnfddjfpaaGreat

namespace Go.Proofs.YtnkpnjnfddjfpaaGreat
open Go.RowKit M01 M02 M10 M27
theorem Zea (B:List Nat) (i:Nat) (h:i < (bitL B).length):(bitL B)[i] = bit B i:=by simp [bitL]
def pickP (B:List Nat) (at_ g k:Nat):List Nat:=((List.range k).filter fun k=>bit B (at_ + k) = 1).map fun k=>16 * g + k
theorem Zqp (B:List Nat) (at_ g k:Nat):pickP B at_ g (k + 1) = pickP B at_ g k ++ if bit B (at_ + k) = 1 then [16 * g + k] else []:=by
 unfold pickP
 rw [List.range_succ,List.filter_append,List.map_append]
 congr 1
 by_cases h:bit B (at_ + k) = 1
 ·rw [if_pos h,List.filter_cons_of_pos (by simpa using h)];rfl
 ·rw [if_neg h,List.filter_cons_of_neg (by simpa using h)];rfl
theorem Zug (B:List Nat) (at_ g k:Nat):(pickP B at_ g k).length <= k:=by
 unfold pickP
 rw [List.length_map]
 exact Nat.le_trans (List.length_filter_le _ _) (by simp)
def Out23 (q n:Nat) (R:Option (List Nat × Nat)) (e:Ending) (w':World):Prop :=
 match R with
 | some (out,at2)=>∃ g c,e = .returned (.tuple #[.slice g out.length c,.int .i64 (at2:Nat),.int .i64 0]) /\ OwnN 5 .u8 w' q g c out /\ at2 <= n
 | none=>∃ m:Int,e = .returned (.tuple #[.slice none 0 0,.int .i64 m,.int .i64 2])
set_option maxRecDepth 100000 in
set_option maxHeartbeats 3200000 in
theorem Zum (a:Option Addr) (cap:Nat) (B:List Nat) (at_:Nat) (w:World) (hr:RowB w a cap (bitL B)) (hl:B.length <= 1000) (ha:at_ <= 8 * B.length) :
  Calls Tryz.prog 135 #[.slice a (bitL B).length cap,.int .i64 (at_:Nat)] w fun e w'=>Below w.heap.size w w' /\ Out23 w.heap.size (8 * B.length) (pickG B at_) e w':=by
 have HR:=Zh hr
 have hll:(bitL B).length = 8 * B.length:=Zbo B
 have HBI:Hid (∀ i,i < (bitL B).length -> ∀ b off,a = some ⟨b,off,none⟩ -> ∀ A,Below w.heap.size w A -> A.cell? ⟨b,off + i,none⟩ = some (.bool (bit B i == 1))):=fun i hi b off hab A hA=>by
  obtain ⟨b',off',h1,h2,h3⟩:=(hr.below hA).atB hi
  rw [hab] at h1
  cases h1
  rw [Zea] at h3
  exact h3
 obtain ⟨q,hq⟩:∃ q,w.heap.size = q:=⟨_,rfl⟩
 rw [hq] at HBI ⊢
 have HQ:=Zh hq
 have HLL:=Zh hll
 obtain ⟨P,hP⟩:∃ P,P = pickG B at_:=⟨_,rfl⟩
 rw [<- hP]
 unfold pickG at hP
 generalize bitL B = L at *
 have hcap:=hr.1
 have hcap2:=hr.2.1.1
 have hL8:L.length <= 8000:=by omega
 by_cases h16:at_ + 16 <= nb B
 case neg =>
  rw [if_neg h16] at hP
  subst hP
  unfold nb at h16
  have t1:decide ((L.length:Int) - (at_:Int) < 16) = true:=by simp;omega
  have haL:at_ <= L.length:=by omega
  clear hr hll ha h16
  go_enter Tryz.func135,Tryz.ntmps135
  go_wp2_with fail
  go_ret3
  exact ⟨Below.refl _ _,_,rfl⟩
 rw [if_pos h16] at hP
 unfold nb at h16
 have t1:decide ((L.length:Int) - (at_:Int) < 16) = false:=by simp;omega
 obtain ⟨b,off,rfl⟩:∃ b off,a = some ⟨b,off,none⟩:=by
  rcases hr.2.2 with h | ⟨b,off,h,_⟩
  ·rw [h] at hll;simp at hll;omega
  ·exact ⟨b,off,h⟩
 have hac:at_ ≠ cap:=by omega
 obtain ⟨R,hR⟩:∃ R,R = pickL B at_ 16 0 (at_ + 16) []:=⟨_,rfl⟩
 rw [<- hR] at hP
 have HPP:=Zh hP
 have HRR:Hid (R = pickL B at_ (16 - 0) 0 (at_ + 16) []):=hR
 have HN8:=Zh (show nb B = L.length by unfold nb;omega)
 have hfit:at_ + 16 <= L.length:=by omega
 have h16e:at_ + 16 - at_ = 16:=by omega
 clear hr hR hll ha h16 hP
 go_enter Tryz.func135,Tryz.ntmps135
 go_wp2_with fail
 simp only [h16e]
 clear h16e
 go_loopw [1,8,9] (fun av x gv A=>∃ (g at2:Nat) (o:List Nat) (ga:Option Addr) (c:Nat),g <= 16 /\ gv = .int .i64 (g:Nat) /\ av = .int .i64 (at2:Nat) /\ x = .slice ga o.length c /\ o.length <= 16 * g /\ at2 <= L.length /\ OwnN 5 .u8 A q ga c o /\ Below q w A /\ Hid (R = pickL B at_ (16 - g) g at2 o)) (fun _ _ gv _=>16 - (intOf gv).toNat)
 case atStart=>exact ⟨0,at_ + 16,[],none,0,by omega,rfl,by first | rfl | exact Zbg (by omega),rfl,by simp,hfit,OwnN.nil _ _ _ _,Below.refl _ _,HRR.out⟩
 case round =>
  clear HRR hq
  obtain ⟨g,at2,o,ga,c,hg,rfl,rfl,rfl,hol,hat2,hown,hbe,HF⟩:=hrel
  have HO:=Zh hown
  have HE:=Zh hbe
  clear hown hbe
  by_cases hlt:g < 16
  ·have t0:decide ((g:Int) < 16) = true:=by simp;omega
   have hcg:=HBI.out (at_ + g) (by omega) b off rfl _ HE.out
   rw [<- Nat.add_assoc] at hcg
   obtain ⟨m,hm⟩:∃ m,16 - g = m + 1:=⟨15 - g,by omega⟩
   have HM:=Zh (show 16 - (g + 1) = m by omega)
   rw [hm] at HF
   have HF2:Hid (R = if bit B (at_ + g) = 1 then (if at2 + 16 <= nb B then pickL B at_ m (g + 1) (at2 + 16) (o ++ pickB B at2 g) else none) else pickL B at_ m (g + 1) at2 o):=HF
   clear HF hm
   have hgi:(g:Int) < 16:=by omega
   by_cases hb1:bit B (at_ + g) = 1
   ·rw [if_pos hb1] at HF2
    rw [hb1,show ((1:Nat) == 1) = true from rfl] at hcg
    rw [HN8.out] at HF2
    by_cases h2:at2 + 16 <= L.length
    ·have t2:decide ((L.length:Int) - (at2:Int) < 16) = false:=by simp;omega
     rw [if_pos h2] at HF2
     have HP0:Hid (o = o ++ pickP B at2 g 0):=by unfold Hid;simp [pickP]
     clear hb1
     go_wp2_with fail
     go_loopw [8,10] (fun x kv A=>∃ (k:Nat) (o2:List Nat) (g2:Option Addr) (c2:Nat),k <= 16 /\ kv = .int .i64 (k:Nat) /\ x = .slice g2 o2.length c2 /\ OwnN 5 .u8 A q g2 c2 o2 /\ Below q w A /\ Hid (o2 = o ++ pickP B at2 g k)) (fun x kv _=>16 - (intOf kv).toNat)
     case atStart=>exact ⟨0,o,ga,c,by omega,rfl,rfl,HO.out,HE.out,HP0.out⟩
     case round =>
      clear HP0 HO HE hcg
      obtain ⟨k,o2,g2,c2,hk,rfl,rfl,hown,hbe,HP⟩:=hrel
      have HO:=Zh hown
      have HE:=Zh hbe
      clear hown hbe
      have ho2:o2.length <= 16 * g + k:=by
       rw [HP.out,List.length_append]
       have:=Zug B at2 g k
       omega
      have hwr:q <= wr.heap.size:=by have:=HE.out.size;have:=HQ.out;omega
      have HWR:=Zh hwr
      have HPS:=Zh (Zqp B at2 g k)
      clear hwr
      by_cases hk16:k < 16
      ·have t3:decide ((k:Int) < 16) = true:=by simp;omega
       obtain ⟨j,hj⟩:∃ j,at2 + k = j:=⟨_,rfl⟩
       have hji:(at2:Int) + (k:Int) = (j:Int):=by omega
       have hjl:j < L.length:=by omega
       have hcj:=HBI.out j hjl b off rfl _ HE.out
       rw [hj] at HPS
       clear hj
       by_cases hbj:bit B j = 1
       ·rw [hbj,show ((1:Nat) == 1) = true from rfl] at hcj
        rw [if_pos hbj] at HPS
        obtain ⟨v,hv⟩:∃ v,16 * g + k = v:=⟨_,rfl⟩
        have hvi:16 * (g:Int) + (k:Int) = (v:Int):=by omega
        have hv8:(v:Int) % 256 = (v:Int):=by omega
        rw [hv] at HPS
        clear hv hbj
        go_wp2_with (at_builtin;refine app1N (y:=v) Zaz rfl (.tmp 49) (.tmp 55) rfl rfl HO.out rfl (by omega) (by omega) (by omega) (by omega) HWR.out ?_;intro a' c' w2 hown hg hb2;replace hown:=Zh hown;replace hb2:=Zh (HE.out.trans hb2);clear hg)
        go_wp2
        go_roundw
        case rel=>exact ⟨k + 1,o2 ++ [v],a',c',by omega,by go_num,by rw [List.length_append];rfl,hown.out,hb2.out,by unfold Hid;rw [HP.out,HPS.out,List.append_assoc]⟩
        case measure=>simp [intOf];omega
       ·have hb0:(bit B j == 1) = false:=by simpa using hbj
        rw [hb0] at hcj
        rw [if_neg hbj,List.append_nil] at HPS
        clear hbj hb0
        go_wp2_with fail
        go_roundw
        case rel=>exact ⟨k + 1,o2,g2,c2,by omega,by go_num,by trivial,HO.out,HE.out,by unfold Hid;rw [HP.out,HPS.out]⟩
        case measure=>simp [intOf];omega
      ·obtain rfl:k = 16:=by omega
       have t3:decide ((16:Int) < 16) = false:=rfl
       have HPB:Hid (o2 = o ++ pickB B at2 g):=HP
       go_wp2_with fail
       go_roundw
       case rel=>exact ⟨g + 1,at2 + 16,o2,g2,c2,by omega,by go_num,by first | trivial | exact Zbg (by omega),by trivial,by omega,h2,HO.out,HE.out,by unfold Hid;rw [HM.out,HPB.out];exact HF2.out⟩
       case measure=>simp [intOf];omega
    ·have t2:decide ((L.length:Int) - (at2:Int) < 16) = true:=by simp;omega
     rw [if_neg h2] at HF2
     clear hb1
     go_wp2_with fail
     go_ret3
     refine ⟨HE.out,?_⟩
     rw [show P = none by rw [HPP.out,HF2.out]]
     exact ⟨_,rfl⟩
   ·have hb0:(bit B (at_ + g) == 1) = false:=by simpa using hb1
    rw [if_neg hb1] at HF2
    rw [hb0] at hcg
    clear hb1 hb0
    go_wp2_with fail
    go_roundw
    case rel=>exact ⟨g + 1,at2,o,ga,c,by omega,by go_num,by trivial,by trivial,by omega,hat2,HO.out,HE.out,by unfold Hid;rw [HM.out];exact HF2.out⟩
    case measure=>simp [intOf];omega
  ·obtain rfl:g = 16:=by omega
   have t0:decide ((16:Int) < 16) = false:=rfl
   have HRE:Hid (R = some (o,at2)):=HF
   by_cases ho0:o = []
   ·subst ho0
    go_wp2_with fail
    go_ret3
    refine ⟨HE.out,?_⟩
    rw [show P = none by rw [HPP.out,HRE.out];rfl]
    exact ⟨_,rfl⟩
   ·have hop:0 < o.length:=List.length_pos_iff.2 ho0
    have t4:((o.length:Int) == 0) = false:=beq_eq_false_iff_ne.2 (by omega)
    have HO0:=Zh ho0
    clear ho0 hop
    go_wp2_with fail
    go_ret3
    refine ⟨HE.out,?_⟩
    rw [show P = some (o,at2) by rw [HPP.out,HRE.out];simp only [];rw [if_neg HO0.out]]
    exact ⟨ga,c,rfl,HO.out,by have:=HLL.out;omega⟩
end Go.Proofs.YtnkpnjnfddjfpaaGreat

namespace Go.Proofs.YtnkpnjnfddjfpaaGreat
open Go.RowKit M01 M02 M10 M27
theorem Zcq {k:IntKind} {w:World} {b off cap:Nat} {l:List Nat} (h:RowN k w (some ⟨b,off,none⟩) cap l) (i:Nat) (hi:i <= l.length) (hc:i < cap):RowN k w (some ⟨b,off + i,none⟩) (cap - i) (l.drop i):=by
 rcases Nat.lt_or_ge i l.length with h1 | h1
 ·exact Zuw h i h1
 ·rw [List.drop_eq_nil_of_le h1]
  exact ⟨by simp,⟨by have:=h.2.1.1;omega,fun e=>by cases e⟩,.inl rfl⟩
set_option maxRecDepth 100000 in
set_option maxHeartbeats 1600000 in
theorem Zis (a:Option Addr) (cap:Nat) (l:List Nat) (k:Nat) (w:World) (hr:RowN .i64 w a cap l) (hk:k < l.length) (hl:l.length <= 1000) :
  Calls Tryz.prog 149 #[.slice a l.length cap,.int .i64 (k:Nat)] w fun e w'=>∃ g c,e = .returned (.slice g l.length c) /\ OwnN 3 .i64 w' w.heap.size g c (toFront l k) /\ Below w.heap.size w w':=by
 obtain ⟨b,off,rfl,hb,hc⟩:=hr.at hk
 have hcap:=hr.1
 have hcap2:=hr.2.1.1
 have hgd:l.getD k 0 = l[k]:=by rw [List.getD_eq_getElem?_getD,List.getElem?_eq_getElem hk];rfl
 rw [<- hgd] at hc
 have HT:=Zh (Zcu hr k)
 have HD:=Zh (fun (hlt:k + 1 < cap)=>Zcq hr (k + 1) (by omega) hlt)
 have htl:(l.take k).length = k:=by simp;omega
 have hdl:(l.drop (k + 1)).length = l.length - (k + 1):=by simp
 have HTF:Hid (toFront l k = l.getD k 0 :: (l.take k ++ l.drop (k + 1))):=rfl
 generalize l.getD k 0 = v at *
 obtain ⟨tk,htk⟩:∃ tk,tk = l.take k:=⟨_,rfl⟩
 obtain ⟨dk,hdk⟩:∃ dk,dk = l.drop (k + 1):=⟨_,rfl⟩
 rw [<- htk] at HT HTF htl
 rw [<- hdk] at HD HTF hdl
 obtain ⟨j,hj⟩:∃ j,k + 1 = j:=⟨_,rfl⟩
 rw [hj] at HD hdl
 obtain ⟨n,hn⟩:∃ n,l.length = n:=⟨_,rfl⟩
 rw [hn] at hdl hk hl hcap ⊢
 have hkc:k <= cap:=by omega
 have hki:(k:Int) < (n:Int):=by omega
 have hkn:j <= n:=by omega
 have HJ:=Zh hj
 have hLIT:=OwnN.lit (k:=.i64) 3 w w.heap.size [v] #[.int .i64 (v:Nat)] w.heap.size rfl rfl (Nat.le_refl _) (by simp [maxLen])
 have HLIT:=Zh hLIT
 have HBX:=Zh (Zai w (.cells #[.int .i64 (v:Nat)] 3))
 have HTL:=Zh htl.symm
 have HDL:=Zh hdl.symm
 have HNM:=Zh (show 1 + k + (n - j) = n by omega)
 obtain ⟨o1,ho1⟩:∃ o1,o1 = [v] ++ tk:=⟨_,rfl⟩
 have HL1:Hid (o1.length = 1 + k):=by unfold Hid;rw [ho1,List.length_append,<- HTL.out];rfl
 have HO1E:=Zh ho1
 clear ho1
 have hk1:IntKind.i64.wrap ((k:Int) + 1) = (j:Int):=by rw [IntWalk.i64_in _ (by omega)];omega
 have hk2:(k:Int) + 1 = (j:Int):=by omega
 have hkm:k + (n - j) <= 1000:=by omega
 clear hr hgd htk hdk hn htl hdl hLIT
 clear hj
 by_cases hcc:j = cap
 ·have HDL0:Hid (0 = dk.length):=by unfold Hid;have:=HDL.out;omega
  have HDN:Hid (∀ A (p:Option Addr) c',c' <= 9223372036854775807 -> (p = none -> c' = 0) -> RowN .i64 A p c' dk):=by
   unfold Hid
   intro A p c' h1 h2
   have:dk = []:=List.eq_nil_of_length_eq_zero HDL0.out.symm
   rw [this]
   exact ⟨by simp,⟨h1,h2⟩,.inl rfl⟩
  go_enter Tryz.func149,Tryz.ntmps149
  go_wp2_with (first | (at_builtin;refine appAnyN Zax rfl (.tmp 11) (.tmp 14) rfl rfl HLIT.out HTL.out rfl (HT.out.below HBX.out) (by simp;omega) (by simp;omega) (by simp) ?_;intro a1 c1 w1 hown1 hg1 hb1;have HO1:Hid (OwnN 3 .i64 w1 w.heap.size a1 c1 o1):=(by unfold Hid;rw [HO1E.out];exact hown1);have HB1:=Zh (HBX.out.trans hb1);clear hown1 hg1 hb1) | (at_builtin;refine appAnyN Zax rfl (.tmp 16) (.tmp 20) rfl (show _ = Value.slice a1 o1.length c1 by rw [HL1.out];rfl) HO1.out HDL0.out rfl (HDN.out _ _ _ (by omega) (by simp)) (by rw [HL1.out];omega) (by rw [HL1.out];omega) HB1.out.size ?_;intro a2 c2 w2 hown2 hg2 hb2;have HO2:=Zh hown2;have HB2:=Zh (HB1.out.trans hb2);clear hown2 hg2 hb2))
  go_ret
  have hd:toFront l k = o1 ++ dk:=by rw [HTF.out,HO1E.out];rfl
  exact ⟨a2,c2,by have h1:=HL1.out;have h2:=HNM.out;refine congrArg Ending.returned ?_;simp;omega,by rw [hd];exact HO2.out,HB2.out⟩
 ·have hlt:j < cap:=by omega
  have HD2:=Zh (HD.out hlt)
  clear HD
  go_enter Tryz.func149,Tryz.ntmps149
  go_wp2_with (first | (at_builtin;refine appAnyN Zax rfl (.tmp 11) (.tmp 14) rfl rfl HLIT.out HTL.out rfl (HT.out.below HBX.out) (by simp;omega) (by simp;omega) (by simp) ?_;intro a1 c1 w1 hown1 hg1 hb1;have HO1:Hid (OwnN 3 .i64 w1 w.heap.size a1 c1 o1):=(by unfold Hid;rw [HO1E.out];exact hown1);have HB1:=Zh (HBX.out.trans hb1);clear hown1 hg1 hb1) | (at_builtin;refine appAnyN Zax rfl (.tmp 16) (.tmp 20) rfl (show _ = Value.slice a1 o1.length c1 by rw [HL1.out];rfl) HO1.out HDL.out rfl (HD2.out.below HB1.out) (by rw [HL1.out];omega) (by rw [HL1.out];omega) HB1.out.size ?_;intro a2 c2 w2 hown2 hg2 hb2;have HO2:=Zh hown2;have HB2:=Zh (HB1.out.trans hb2);clear hown2 hg2 hb2))
  go_ret
  have hd:toFront l k = o1 ++ dk:=by rw [HTF.out,HO1E.out];rfl
  exact ⟨a2,c2,by have h1:=HL1.out;have h2:=HNM.out;refine congrArg Ending.returned ?_;simp;omega,by rw [hd];exact HO2.out,HB2.out⟩
set_option maxRecDepth 100000 in
set_option maxHeartbeats 1600000 in
theorem Zir (a:Option Addr) (cap:Nat) (l:List Nat) (k:Nat) (w:World) (hr:RowN .u8 w a cap l) (hk:k < l.length) (hl:l.length <= 1000) :
  Calls Tryz.prog 140 #[.slice a l.length cap,.int .i64 (k:Nat)] w fun e w'=>∃ g c,e = .returned (.slice g l.length c) /\ OwnN 5 .u8 w' w.heap.size g c (toFront l k) /\ Below w.heap.size w w':=by
 obtain ⟨b,off,rfl,hb,hc⟩:=hr.at hk
 have hcap:=hr.1
 have hcap2:=hr.2.1.1
 have hgd:l.getD k 0 = l[k]:=by rw [List.getD_eq_getElem?_getD,List.getElem?_eq_getElem hk];rfl
 rw [<- hgd] at hc
 have HT:=Zh (Zcu hr k)
 have HD:=Zh (fun (hlt:k + 1 < cap)=>Zcq hr (k + 1) (by omega) hlt)
 have htl:(l.take k).length = k:=by simp;omega
 have hdl:(l.drop (k + 1)).length = l.length - (k + 1):=by simp
 have HTF:Hid (toFront l k = l.getD k 0 :: (l.take k ++ l.drop (k + 1))):=rfl
 generalize l.getD k 0 = v at *
 obtain ⟨tk,htk⟩:∃ tk,tk = l.take k:=⟨_,rfl⟩
 obtain ⟨dk,hdk⟩:∃ dk,dk = l.drop (k + 1):=⟨_,rfl⟩
 rw [<- htk] at HT HTF htl
 rw [<- hdk] at HD HTF hdl
 obtain ⟨j,hj⟩:∃ j,k + 1 = j:=⟨_,rfl⟩
 rw [hj] at HD hdl
 obtain ⟨n,hn⟩:∃ n,l.length = n:=⟨_,rfl⟩
 rw [hn] at hdl hk hl hcap ⊢
 have hkc:k <= cap:=by omega
 have hki:(k:Int) < (n:Int):=by omega
 have hkn:j <= n:=by omega
 have HJ:=Zh hj
 have hLIT:=OwnN.lit (k:=.u8) 5 w w.heap.size [v] #[.int .u8 (v:Nat)] w.heap.size rfl rfl (Nat.le_refl _) (by simp [maxLen])
 have HLIT:=Zh hLIT
 have HBX:=Zh (Zai w (.cells #[.int .u8 (v:Nat)] 5))
 have HTL:=Zh htl.symm
 have HDL:=Zh hdl.symm
 have HNM:=Zh (show 1 + k + (n - j) = n by omega)
 obtain ⟨o1,ho1⟩:∃ o1,o1 = [v] ++ tk:=⟨_,rfl⟩
 have HL1:Hid (o1.length = 1 + k):=by unfold Hid;rw [ho1,List.length_append,<- HTL.out];rfl
 have HO1E:=Zh ho1
 clear ho1
 have hk1:IntKind.i64.wrap ((k:Int) + 1) = (j:Int):=by rw [IntWalk.i64_in _ (by omega)];omega
 have hk2:(k:Int) + 1 = (j:Int):=by omega
 have hkm:k + (n - j) <= 1000:=by omega
 clear hr hgd htk hdk hn htl hdl hLIT
 clear hj
 by_cases hcc:j = cap
 ·have HDL0:Hid (0 = dk.length):=by unfold Hid;have:=HDL.out;omega
  have HDN:Hid (∀ A (p:Option Addr) c',c' <= 9223372036854775807 -> (p = none -> c' = 0) -> RowN .u8 A p c' dk):=by
   unfold Hid
   intro A p c' h1 h2
   have:dk = []:=List.eq_nil_of_length_eq_zero HDL0.out.symm
   rw [this]
   exact ⟨by simp,⟨h1,h2⟩,.inl rfl⟩
  go_enter Tryz.func140,Tryz.ntmps140
  go_wp2_with (first | (at_builtin;refine appAnyN Zaz rfl (.tmp 11) (.tmp 14) rfl rfl HLIT.out HTL.out rfl (HT.out.below HBX.out) (by simp;omega) (by simp;omega) (by simp) ?_;intro a1 c1 w1 hown1 hg1 hb1;have HO1:Hid (OwnN 5 .u8 w1 w.heap.size a1 c1 o1):=(by unfold Hid;rw [HO1E.out];exact hown1);have HB1:=Zh (HBX.out.trans hb1);clear hown1 hg1 hb1) | (at_builtin;refine appAnyN Zaz rfl (.tmp 16) (.tmp 20) rfl (show _ = Value.slice a1 o1.length c1 by rw [HL1.out];rfl) HO1.out HDL0.out rfl (HDN.out _ _ _ (by omega) (by simp)) (by rw [HL1.out];omega) (by rw [HL1.out];omega) HB1.out.size ?_;intro a2 c2 w2 hown2 hg2 hb2;have HO2:=Zh hown2;have HB2:=Zh (HB1.out.trans hb2);clear hown2 hg2 hb2))
  go_ret
  have hd:toFront l k = o1 ++ dk:=by rw [HTF.out,HO1E.out];rfl
  exact ⟨a2,c2,by have h1:=HL1.out;have h2:=HNM.out;refine congrArg Ending.returned ?_;simp;omega,by rw [hd];exact HO2.out,HB2.out⟩
 ·have hlt:j < cap:=by omega
  have HD2:=Zh (HD.out hlt)
  clear HD
  go_enter Tryz.func140,Tryz.ntmps140
  go_wp2_with (first | (at_builtin;refine appAnyN Zaz rfl (.tmp 11) (.tmp 14) rfl rfl HLIT.out HTL.out rfl (HT.out.below HBX.out) (by simp;omega) (by simp;omega) (by simp) ?_;intro a1 c1 w1 hown1 hg1 hb1;have HO1:Hid (OwnN 5 .u8 w1 w.heap.size a1 c1 o1):=(by unfold Hid;rw [HO1E.out];exact hown1);have HB1:=Zh (HBX.out.trans hb1);clear hown1 hg1 hb1) | (at_builtin;refine appAnyN Zaz rfl (.tmp 16) (.tmp 20) rfl (show _ = Value.slice a1 o1.length c1 by rw [HL1.out];rfl) HO1.out HDL.out rfl (HD2.out.below HB1.out) (by rw [HL1.out];omega) (by rw [HL1.out];omega) HB1.out.size ?_;intro a2 c2 w2 hown2 hg2 hb2;have HO2:=Zh hown2;have HB2:=Zh (HB1.out.trans hb2);clear hown2 hg2 hb2))
  go_ret
  have hd:toFront l k = o1 ++ dk:=by rw [HTF.out,HO1E.out];rfl
  exact ⟨a2,c2,by have h1:=HL1.out;have h2:=HNM.out;refine congrArg Ending.returned ?_;simp;omega,by rw [hd];exact HO2.out,HB2.out⟩
end Go.Proofs.YtnkpnjnfddjfpaaGreat

namespace Go.Proofs.YtnkpnjnfddjfpaaGreat.M27
def nums:List Nat :=
 [619,720,127,481,931,816,813,233,566,247,985,724,205,454,863,491,741,242,949,214,733,859,335,708,621,574,73,654,730,472,419,436] ++
 [278,496,867,210,399,680,480,51,878,465,811,169,869,675,611,697,867,561,862,687,507,283,482,129,807,591,733,623,150,238,59,379] ++
 [684,877,625,169,643,105,170,607,520,932,727,476,693,425,174,647,73,122,335,530,442,853,695,249,445,515,909,545,703,919,874,474] ++
 [882,500,594,612,641,801,220,162,819,984,589,513,495,799,161,604,958,533,221,400,386,867,600,782,382,596,414,171,516,375,682,485] ++
 [911,276,98,553,163,354,666,933,424,341,533,870,227,730,475,186,263,647,537,686,600,224,469,68,770,919,190,373,294,822,808,206] ++
 [184,943,795,384,383,461,404,758,839,887,715,67,618,276,204,918,873,777,604,560,951,160,578,722,79,804,96,409,713,940,652,934] ++
 [970,447,318,353,859,672,112,785,645,863,803,350,139,93,354,99,820,908,609,772,154,274,580,184,79,626,630,742,653,282,762,623] ++
 [680,81,927,626,789,125,411,521,938,300,821,78,343,175,128,250,170,774,972,275,999,639,495,78,352,126,857,956,358,619,580,124] ++
 [737,594,701,612,669,112,134,694,363,992,809,743,168,974,944,375,748,52,600,747,642,182,862,81,344,805,988,739,511,655,814,334] ++
 [249,515,897,955,664,981,649,113,974,459,893,228,433,837,553,268,926,240,102,654,459,51,686,754,806,760,493,403,415,394,687,700] ++
 [946,670,656,610,738,392,760,799,887,653,978,321,576,617,626,502,894,679,243,440,680,879,194,572,640,724,926,56,204,700,707,151] ++
 [457,449,797,195,791,558,945,679,297,59,87,824,713,663,412,693,342,606,134,108,571,364,631,212,174,643,304,329,343,97,430,751] ++
 [497,314,983,374,822,928,140,206,73,263,980,736,876,478,430,305,170,514,364,692,829,82,855,953,676,246,369,970,294,750,807,827] ++
 [150,790,288,923,804,378,215,828,592,281,565,555,710,82,896,831,547,261,524,462,293,465,502,56,661,821,976,991,658,869,905,758] ++
 [745,193,768,550,608,933,378,286,215,979,792,961,61,688,793,644,986,403,106,366,905,644,372,567,466,434,645,210,389,550,919,135] ++
 [780,773,635,389,707,100,626,958,165,504,920,176,193,713,857,265,203,50,668,108,645,990,626,197,510,357,358,850,858,364,936,638]
set_option maxRecDepth 100000 in
theorem Zfv:nums.length = 512:=by decide +kernel
set_option maxRecDepth 100000 in
theorem Zaae:(nums.all fun k=>decide (2 <= k) && decide (k < 1000)) = true:=by decide +kernel
theorem Zwj (L:List Nat) (p:Nat -> Bool) (h:L.all p = true) (i:Nat) (hi:i < L.length):p (L.getD i 0) = true:=by
 rw [List.getD_eq_getElem?_getD,List.getElem?_eq_getElem hi]
 exact List.all_eq_true.1 h _ (List.getElem_mem hi)
theorem Zty (i:Nat) (hi:i < 512):2 <= nums.getD i 0 /\ nums.getD i 0 < 1000:=by
 have h:=Zwj nums _ Zaae i (by rw [Zfv];exact hi)
 generalize nums.getD i 0 = x at *
 simp only [Bool.and_eq_true,decide_eq_true_eq] at h
 exact h
def maskSum:Nat -> Nat
 | 0=>0
 | i + 1=>maskSum i + nums.getD (i % 512) 0
theorem Zbx (i:Nat):maskSum i + 2 <= maskSum (i + 1) /\ maskSum (i + 1) < maskSum i + 1000:=by
 have h:=Zty (i % 512) (by omega)
 have e:maskSum (i + 1) = maskSum i + nums.getD (i % 512) 0:=rfl
 rw [e]
 generalize nums.getD (i % 512) 0 = x at *
 omega
theorem Zgr:∀ i,2 * i <= maskSum i
 | 0=>Nat.zero_le _
 | i + 1=>by have:=Zgr i;have:=Zbx i;omega
theorem Zhf {i j : Nat} (h : i ≤ j) : maskSum i ≤ maskSum j := by
  induction j with
  | zero => obtain rfl : i = 0 := by omega
            exact Nat.le_refl _
  | succ j ih =>
    rcases Nat.lt_or_ge j i with h1 | h1
    · obtain rfl : i = j + 1 := by omega
      exact Nat.le_refl _
    · have := ih h1; have := Zbx j; omega
def maskAt (i:Nat):Nat:=maskSum (i + 1) - 2
def maskN (n:Nat):Nat -> Nat -> Nat
 | 0,i=>i
 | f + 1,i=>if maskAt i < n then maskN n f (i + 1) else i
def maskCnt (n:Nat):Nat:=maskN n n 0
theorem Zgq (n:Nat):∀ f i,n <= f + i -> (∀ j,j < i -> maskAt j < n) -> (∀ j,j < maskN n f i -> maskAt j < n) /\ n <= maskAt (maskN n f i)
 | 0,i,h,hj=>by
  refine ⟨hj,?_⟩
  show n <= maskAt i
  have:=Zgr (i + 1)
  unfold maskAt
  omega
 | f + 1,i,h,hj=>by
  unfold maskN
  by_cases h1:maskAt i < n
  ·rw [if_pos h1]
   exact Zgq n f (i + 1) (by omega) (fun j hj'=>by
    rcases Nat.lt_or_ge j i with h2 | h2
    ·exact hj j h2
    ·obtain rfl:j = i:=by omega
     exact h1)
  ·rw [if_neg h1]
   exact ⟨hj,by omega⟩
theorem Zjv (n j:Nat) (h:j < maskCnt n):maskAt j < n:=(Zgq n n 0 (by omega) (fun j hj=>by omega)).1 j h
theorem Zju (n:Nat):n <= maskAt (maskCnt n):=(Zgq n n 0 (by omega) (fun j hj=>by omega)).2
theorem Zjw {n i:Nat} (h1:∀ j,j < i -> maskAt j < n) (h2:n <= maskAt i):i = maskCnt n:=by
 rcases Nat.lt_trichotomy i (maskCnt n) with h | h | h
 ·have:=Zjv n i h;omega
 ·exact h
 ·have:=h1 _ h;have:=Zju n;omega
def turnAt (l:List Nat):Nat -> List Nat
 | 0=>l
 | i + 1=>(turnAt l i).set (maskAt i) ((turnAt l i).getD (maskAt i) 0 ^^^ 1)
def masked (l:List Nat):List Nat:=turnAt l (maskCnt l.length)
theorem Zbc (l:List Nat):∀ i,(turnAt l i).length = l.length
 | 0=>rfl
 | i + 1=>by unfold turnAt;rw [List.length_set,Zbc l i]
theorem Zdl (l:List Nat) (h:∀ x ∈ l,x < 256):∀ i,∀ x ∈ turnAt l i,x < 256
 | 0=>h
 | i + 1=>by
  intro x hx
  unfold turnAt at hx
  rcases List.mem_or_eq_of_mem_set hx with hx | rfl
  ·exact Zdl l h i x hx
  ·have:(turnAt l i).getD (maskAt i) 0 < 2 ^ 8:=by
    rw [List.getD_eq_getElem?_getD]
    cases e:(turnAt l i)[maskAt i]? with
    | none=>decide
    | some y=>exact Zdl l h i y (List.mem_of_getElem? e)
   exact Nat.xor_lt_two_pow (n:=8) this (by decide)
end Go.Proofs.YtnkpnjnfddjfpaaGreat.M27

namespace Go.Proofs.YtnkpnjnfddjfpaaGreat.M27
open M01 M02 M04 M06 M10
def tabsL (B:List Nat) (n:Nat):Nat -> Nat -> List (List Nat) -> Option (List (List Nat) × Nat)
 | 0,at_,out=>some (out,at_)
 | m + 1,at_,out=>(lenG B at_ n).bind fun p=>if (wordsE p.1).2 = 0 then tabsL B n m p.2 (out ++ [p.1]) else none
def nextG (B:List Nat) (tabs:List (List Nat)) (group:List Nat) (k at_:Nat):Option (Nat × Nat) :=
 if k / 50 < group.length then sym (tabs.getD (group.getD (k / 50) 0) []) B at_ else none
def symsG (B:List Nat) (tabs:List (List Nat)) (group:List Nat) (e:Nat):Nat -> Nat -> List Nat -> Option (List Nat × Nat)
 | 0,_,_=>none
 | f + 1,at_,out=>(nextG B tabs group out.length at_).bind fun p=>if p.1 = e then some (out ++ [p.1],p.2) else symsG B tabs group e f p.2 (out ++ [p.1])
def blk8 (B:List Nat) (most s m pl:Nat) (used syms:List Nat) (at_:Nat):Option (List Nat × Nat × Nat) :=
 (frontG used syms most).bind fun f=>(backG f pl).bind fun b=>some (if m = 1 then masked b else b,s,at_)
def blk7 (B:List Nat) (most s m pl:Nat) (used group:List Nat) (tabs:List (List Nat)) (at_:Nat):Option (List Nat × Nat × Nat) :=
 (symsG B tabs group (used.length + 1) (50 * group.length + 1) at_ []).bind fun y=>blk8 B most s m pl used y.1 y.2
def blk6 (B:List Nat) (most s m pl:Nat) (used:List Nat) (mn:Nat) (group:List Nat) (at_:Nat):Option (List Nat × Nat × Nat) :=
 (tabsL B (used.length + 2) mn at_ []).bind fun t=>blk7 B most s m pl used group t.1 t.2
def blk5 (B:List Nat) (most s m pl:Nat) (used:List Nat) (mn at_:Nat):Option (List Nat × Nat × Nat) :=
 if mn < 2 \/ 6 < mn then none else (selG B at_ mn).bind fun g=>blk6 B most s m pl used mn g.1 g.2
def blk4 (B:List Nat) (most s m pl:Nat) (used:List Nat) (at_:Nat):Option (List Nat × Nat × Nat) :=
 (numG B at_ 3).bind fun mn=>blk5 B most s m pl used mn.1 mn.2
def blk3 (B:List Nat) (most s m pl at_:Nat):Option (List Nat × Nat × Nat):=(pickG B at_).bind fun u=>blk4 B most s m pl u.1 u.2
def blk2 (B:List Nat) (most s m at_:Nat):Option (List Nat × Nat × Nat):=(numG B at_ 24).bind fun pl=>blk3 B most s m pl.1 pl.2
def blk1 (B:List Nat) (most s at_:Nat):Option (List Nat × Nat × Nat):=(numG B at_ 1).bind fun m=>blk2 B most s m.1 m.2
def blkG (B:List Nat) (at_ most:Nat):Option (List Nat × Nat × Nat):=(numG B at_ 32).bind fun s=>blk1 B most s.1 s.2
end Go.Proofs.YtnkpnjnfddjfpaaGreat.M27

namespace Go.Proofs.YtnkpnjnfddjfpaaGreat.M27
def cnt (last:List Nat) (c:Nat):Nat -> Nat
 | 0=>0
 | i + 1=>cnt last c i + if last.getD i 0 = c then 1 else 0
def below (last:List Nat) (i:Nat):Nat -> Nat
 | 0=>0
 | c + 1=>below last i c + cnt last c i
def posW (last:List Nat) (i:Nat):Nat:=below last last.length (last.getD i 0) + cnt last (last.getD i 0) i
def eqs (last:List Nat) (c n:Nat):List Nat:=(List.range n).filter fun i=>last.getD i 0 = c
theorem Zkp (last:List Nat) (c n:Nat):eqs last c (n + 1) = eqs last c n ++ if last.getD n 0 = c then [n] else []:=by
 unfold eqs
 rw [List.range_succ,List.filter_append]
 by_cases h:last.getD n 0 = c
 ·rw [if_pos h,List.filter_cons_of_pos (by simpa using h),List.filter_nil]
 ·rw [if_neg h,List.filter_cons_of_neg (by simpa using h),List.filter_nil]
theorem Zih (last:List Nat) (c:Nat):∀ n,(eqs last c n).length = cnt last c n
 | 0=>by simp [eqs,cnt]
 | n + 1=>by
  rw [Zkp,List.length_append,Zih last c n,cnt]
  split <;> simp
theorem Zsm (last:List Nat) (c:Nat):∀ n,cnt last c n <= n
 | 0=>by simp [cnt]
 | n + 1=>by have:=Zsm last c n;unfold cnt;split <;> omega
theorem Zoo (last : List Nat) (c i : Nat) : ∀ n, i ≤ n → cnt last c i ≤ cnt last c n
  | 0, h => by obtain rfl : i = 0 := by omega
               exact Nat.le_refl _
  | n + 1, h => by
    rcases Nat.lt_or_ge n i with h1 | h1
    · obtain rfl : i = n + 1 := by omega
      exact Nat.le_refl _
    · have := Zoo last c i n h1
      have e : cnt last c (n + 1) = cnt last c n + if last.getD n 0 = c then 1 else 0 := rfl
      omega
theorem Zyu (last:List Nat) (c i:Nat) (hc:last.getD i 0 = c):∀ n,i < n -> (eqs last c n)[cnt last c i]? = some i
 | 0,h=>by omega
 | n + 1,h=>by
  rw [Zkp]
  rcases Nat.lt_or_ge i n with h1 | h1
  ·have:=Zyu last c i hc n h1
   rw [List.getElem?_append_left (List.getElem?_eq_some_iff.1 this).1]
   exact this
  ·obtain rfl:i = n:=by omega
   rw [if_pos hc,List.getElem?_append_right (by rw [Zih];exact Nat.le_refl _),Zih]
   simp
theorem Zsy (last:List Nat) (c:Nat):∀ n q,q < cnt last c n -> ∃ j,j < n /\ last.getD j 0 = c /\ q = cnt last c j
 | 0,q,h=>by simp [cnt] at h
 | n + 1,q,h=>by
  rcases Nat.lt_or_ge q (cnt last c n) with h1 | h1
  ·obtain ⟨j,h2,h3,h4⟩:=Zsy last c n q h1
   exact ⟨j,by omega,h3,h4⟩
  ·unfold cnt at h
   split at h
   ·exact ⟨n,by omega,by assumption,by omega⟩
   ·omega
def wayK (last:List Nat) (n K:Nat):List Nat:=(List.range K).flatMap fun c=>eqs last c n
theorem Zix (last:List Nat) (n K:Nat):wayK last n (K + 1) = wayK last n K ++ eqs last K n:=by
 unfold wayK;rw [List.range_succ,List.flatMap_append];simp
theorem Zgk (last:List Nat) (n:Nat):∀ K,(wayK last n K).length = below last n K
 | 0=>by simp [wayK,below]
 | K + 1=>by rw [Zix,List.length_append,Zgk last n K,Zih,below]
theorem Zvx (last:List Nat) (n c i:Nat) (hc:last.getD i 0 = c) (hi:i < n):∀ K,c < K -> (wayK last n K)[below last n c + cnt last c i]? = some i
 | 0,h=>by omega
 | K + 1,h=>by
  rw [Zix]
  rcases Nat.lt_or_ge c K with h1 | h1
  ·have:=Zvx last n c i hc hi K h1
   rw [List.getElem?_append_left (List.getElem?_eq_some_iff.1 this).1]
   exact this
  ·obtain rfl:c = K:=by omega
   rw [List.getElem?_append_right (by rw [Zgk];omega),Zgk,Nat.add_sub_cancel_left]
   exact Zyu last c i hc n hi
theorem Zpn (last:List Nat) (n:Nat):∀ K p,p < below last n K -> ∃ j,j < n /\ last.getD j 0 < K /\ p = below last n (last.getD j 0) + cnt last (last.getD j 0) j
 | 0,p,h=>by simp [below] at h
 | K + 1,p,h=>by
  rcases Nat.lt_or_ge p (below last n K) with h1 | h1
  ·obtain ⟨j,h2,h3,h4⟩:=Zpn last n K p h1
   exact ⟨j,h2,by omega,h4⟩
  ·unfold below at h
   obtain ⟨j,h2,h3,h4⟩:=Zsy last K n (p - below last n K) (by omega)
   exact ⟨j,h2,by omega,by rw [h3];omega⟩
theorem Zgm (last:List Nat) (i:Nat):∀ K,below last (i + 1) K = below last i K + if last.getD i 0 < K then 1 else 0
 | 0=>by simp [below]
 | K + 1=>by
  unfold below
  rw [Zgm last i K,cnt]
  split <;> split <;> split <;> omega
theorem Zfg (last:List Nat) (K:Nat) (h:∀ x ∈ last,x < K):∀ i,i <= last.length -> below last i K = i
 | 0,_=>by
  have:∀ K,below last 0 K = 0:=fun K=>by induction K with
   | zero=>rfl
   | succ K ih=>simp [below,cnt,ih]
  exact this K
 | i + 1,hi=>by
  rw [Zgm,Zfg last K h i (by omega),if_pos]
  rw [List.getD_eq_getElem?_getD,List.getElem?_eq_getElem (by omega)]
  exact h _ (List.getElem_mem _)
theorem Zaay (last:List Nat):wayL last = wayK last last.length 256:=rfl
theorem Zdw (last:List Nat) (h:∀ x ∈ last,x < 256):(wayL last).length = last.length:=by
 rw [Zaay,Zgk,Zfg last 256 h _ (Nat.le_refl _)]
theorem Ztf {last:List Nat} (h:∀ x ∈ last,x < 256) {i:Nat} (hi:i < last.length):last.getD i 0 < 256:=by
 rw [List.getD_eq_getElem?_getD,List.getElem?_eq_getElem hi]
 exact h _ (List.getElem_mem _)
theorem Zld (last:List Nat) (h:∀ x ∈ last,x < 256) {i:Nat} (hi:i < last.length):(wayL last)[posW last i]? = some i :=
 Zvx last last.length _ i rfl hi 256 (Ztf h hi)
theorem Zaai (last:List Nat) (h:∀ x ∈ last,x < 256) {i:Nat} (hi:i < last.length):posW last i < last.length:=by
 have:=(List.getElem?_eq_some_iff.1 (Zld last h hi)).1
 rwa [Zdw last h] at this
theorem Zaaj (last:List Nat) (h:∀ x ∈ last,x < 256) {i j:Nat} (hi:i < last.length) (hj:j < last.length) (hn:i ≠ j):posW last i ≠ posW last j:=by
 intro e
 have h1:=Zld last h hi
 have h2:=Zld last h hj
 rw [e,h2] at h1
 exact hn (Option.some.inj h1).symm
theorem Zaba (last out:List Nat) (h:∀ x ∈ last,x < 256) (hl:out.length = last.length) (ho:∀ j,j < last.length -> out[posW last j]? = some j):out = wayL last:=by
 apply List.ext_getElem?
 intro p
 rcases Nat.lt_or_ge p last.length with hp | hp
 ·obtain ⟨j,h1,h2,h3⟩:=Zpn last last.length 256 p (by rw [Zfg last 256 h _ (Nat.le_refl _)];exact hp)
  have e:p = posW last j:=h3
  rw [e,ho j h1,Zld last h h1]
 ·rw [List.getElem?_eq_none (by omega),List.getElem?_eq_none (by rw [Zdw last h];exact hp)]
theorem Zaaz (last:List Nat):∀ x ∈ wayL last,x < last.length:=by
 intro x hx
 unfold wayL at hx
 obtain ⟨c,_,h2⟩:=List.mem_flatMap.1 hx
 exact List.mem_range.1 (List.mem_filter.1 h2).1
def walkAt (w:List Nat) (at_:Nat):Nat -> Nat
 | 0=>at_
 | i + 1=>w.getD (walkAt w at_ i) 0
theorem Zem (last:List Nat) (h:∀ x ∈ last,x < 256) (at_:Nat) (ha:at_ < last.length):∀ i,walkAt (wayL last) at_ i < last.length
 | 0=>ha
 | i + 1=>by
  have:=Zem last h at_ ha i
  unfold walkAt
  rw [List.getD_eq_getElem?_getD,List.getElem?_eq_getElem (by rw [Zdw last h];exact this)]
  exact Zaaz last _ (List.getElem_mem _)
def walked (last:List Nat) (at_ i:Nat):List Nat:=(List.range i).map fun k=>last.getD (walkAt (wayL last) at_ (k + 1)) 0
theorem Ziw (last:List Nat) (at_ i:Nat):walked last at_ (i + 1) = walked last at_ i ++ [last.getD (walkAt (wayL last) at_ (i + 1)) 0]:=by
 unfold walked;rw [List.range_succ,List.map_append];rfl
theorem Zgz (last:List Nat) (at_ i:Nat):(walked last at_ i).length = i:=by simp [walked]
theorem Zen (w:List Nat) (at_:Nat):∀ i,walkAt w (w.getD at_ 0) i = walkAt w at_ (i + 1)
 | 0=>rfl
 | i + 1=>by show w.getD (walkAt w (w.getD at_ 0) i) 0 = _;rw [Zen w at_ i];rfl
theorem Zdv (last:List Nat):∀ n at_,walked last at_ n = backL last n at_
 | 0,at_=>rfl
 | n + 1,at_=>by
  unfold backL
  rw [<- Zdv last n]
  unfold walked
  rw [List.range_succ_eq_map,List.map_cons,List.map_map]
  refine congrArg (List.cons _) (List.map_congr_left fun k _=>?_)
  simp only [Function.comp]
  rw [Zen]
end Go.Proofs.YtnkpnjnfddjfpaaGreat.M27
