/- Cuts of a slice of bytes: where they stand, what they hold (EmSto holds the same words for the seat of layer 18); rle.pieces: the iterator of pieces. Layer 2: laying bits, the greatest first: plain mathematics, and the contracts of msb.Writer (bit, Put, Bytes). prefix.get, GetHigh: contracts. Words that all seats use: lists of what has come up, adding, bits.Mul. front.mover: contracts. rle.Pack: contract. rle.Pack: contract. A range over a function whose iterator keeps memory of its own through all rounds, hands out what is told by a predicate of the world (it may hold addresses of new memory), and may panic. bzip.parts: the iterator of parts, and how each is packed. Plain mathematics of layer 21: counting the bytes gives the way back. Appends of pointers, as equations; the values of block.Get's tables. Plain mathematics: bits of words, what a table of words holds. -/
import Derived.Test.YtnkpnjnfddjfpaaGreatZ01
import Derived.Maps.AppendAt
import Derived.StillTailTactics
import Derived.Lib.Hide
import Derived.Test.YtnkpnjnfddjfpaaGreatChecked
import Derived.Maps.Own
import Derived.Maps.OwnOps
import Derived.Maps.OwnSet
import Derived.Maps.Views
import Derived.DeepKeys4
import Derived.WalkArith
import Derived.Laws.Bits64b
import Derived.Laws.EntriesVeiled
import Derived.Laws.CopyRow
import Derived.Laws.IdiomCopy
import Derived.Defers
import Derived.Recover
import Derived.Laws.Pointers
import Derived.ArgAppend
import Derived.Laws.Rows
import Derived.Great.BuildSlice
import Derived.Laws.CopyOwn
import Derived.Lib.MakeNoZero
set_option linter.unusedVariables false
set_option linter.unusedSimpArgs false
namespace Go.Proofs.YtnkpnjnfddjfpaaGreat
open Go.RowKit
def cutA (a:Option Addr) (cap k:Nat):Option Addr:=if cap = k then a else a.map (·.add k)
theorem cutHiN (a:Option Addr) (len cap k:Nat) (h:k <= len) (hc:len <= cap) (w:World):(Instr.sliceAt 22 (.slice a len cap) (some (.int .i64 (k:Nat))) none none).run Tryz.prog w = .ok (.slice (cutA a cap k) (len - k) (cap - k)) w:=by
 have hsz:(Tryz.prog.info? 5).map (·.size) = some 1:=by kernel_rfl
 have h3:k <= cap:=by omega
 cases h5:Tryz.prog.info? 5 with
 | none=>rw [h5] at hsz;cases hsz
 | some ie =>
  simp only [h5,Option.map_some,Option.some.injEq] at hsz
  simp [Instr.sliceAt,Instr.slice,Instr.sliceBounds,Instr.sliceBound,run_underlying Tryz.underlying22,asIntOf,sizeOf,typeInfo,h5,hsz,go_sem,h,hc,h3,cutA]
theorem Zdz {k:IntKind} {w:World} {a:Option Addr} {cap:Nat} {l:List Nat} (h:RowN k w a cap l) (n:Nat) (hn:n <= l.length):RowN k w (cutA a cap n) (cap - n) (l.drop n):=by
 obtain ⟨h1,h2,h3⟩:=h
 refine ⟨by rw [List.length_drop];omega,⟨by omega,fun e=>?_⟩,?_⟩
 ·unfold cutA at e
  split at e
  ·omega
  ·have:a = none:=by cases a with
    | none=>rfl
    | some x=>cases e
   have:=h2.2 this
   omega
 ·rcases h3 with h3 | ⟨b,off,ha,hb,hc⟩
  ·left;rw [h3];simp
  ·by_cases hl:n = l.length
   ·left;rw [hl,List.drop_length]
   ·right
    refine ⟨b,off + n,?_,hb,fun i hi=>?_⟩
    ·unfold cutA
     rw [if_neg (by omega),ha]
     simp [Addr.add]
    ·rw [List.length_drop] at hi
     have:=hc (n + i) (by omega)
     rw [List.getElem_drop]
     rw [<- Nat.add_assoc] at this
     exact this
theorem Zeb {a:Option Addr} {cap n:Nat} {x:Addr} (h:cutA a cap n = some x):∃ y,a = some y /\ x.block = y.block:=by
 unfold cutA at h
 split at h
 ·exact ⟨x,h,rfl⟩
 ·cases a with
  | none=>cases h
  | some y =>
   simp only [Option.map_some,Option.some.injEq] at h
   refine ⟨y,rfl,?_⟩
   rw [<- h]
   obtain ⟨yb,yo,yr⟩:=y
   cases yr with
   | none=>simp [Addr.add];split <;> rfl
   | some v =>
    simp [Addr.add]
    split <;> rfl
theorem cut3N (a:Option Addr) (len cap k:Nat) (h:k <= cap) (w:World):(Instr.sliceAt 22 (.slice a len cap) none (some (.int .i64 (k:Nat))) (some (.int .i64 (k:Nat)))).run Tryz.prog w = .ok (.slice a k k) w:=by
 have hsz:(Tryz.prog.info? 5).map (·.size) = some 1:=by kernel_rfl
 cases h5:Tryz.prog.info? 5 with
 | none=>rw [h5] at hsz;cases hsz
 | some ie =>
  simp only [h5,Option.map_some,Option.some.injEq] at hsz
  simp [Instr.sliceAt,Instr.slice,Instr.sliceBounds,Instr.sliceBound,run_underlying Tryz.underlying22,asIntOf,sizeOf,typeInfo,h5,hsz,go_sem,h,Addr.add]
structure Cst where
 a:Option Addr
 cap:Nat
 l:List Nat
def Cst.ath (f:List Nat -> Nat) (s:Cst):Nat -> Cst
 | 0=>s
 | i + 1=>⟨cutA (s.ath f i).a (s.ath f i).cap (f (s.ath f i).l),(s.ath f i).cap - f (s.ath f i).l,(s.ath f i).l.drop (f (s.ath f i).l)⟩
def Cst.row (f:List Nat -> Nat) (s:Cst) (i:Nat):Array Value:=#[.slice (s.ath f i).a (f (s.ath f i).l) (f (s.ath f i).l)]
def Cst.D (s:Cst) (b:Nat):Prop:=0 < s.l.length /\ ∃ x,s.a = some x /\ b = x.block
theorem Cst.ath_row {w:World} {f:List Nat -> Nat} (hf:∀ l,f l <= l.length) {s:Cst} (h:RowN .u8 w s.a s.cap s.l):∀ i,RowN .u8 w (s.ath f i).a (s.ath f i).cap (s.ath f i).l
 | 0=>h
 | i + 1=>Zdz (Cst.ath_row hf h i) _ (hf _)
theorem Cst.ath_block {f:List Nat -> Nat} {s:Cst}:∀ i x,(s.ath f i).a = some x -> ∃ y,s.a = some y /\ x.block = y.block
 | 0,x=>fun h=>⟨x,h,rfl⟩
 | i + 1,x=>fun h=>by
   obtain ⟨y,h1,h2⟩:=Zeb h
   obtain ⟨z,h3,h4⟩:=Cst.ath_block i y h1
   exact ⟨z,h3,h2.trans h4⟩
theorem Cst.ath_len {f:List Nat -> Nat} (s:Cst):∀ i,(s.ath f i).l.length <= s.l.length
 | 0=>Nat.le_refl _
 | i + 1=>by
  show ((s.ath f i).l.drop _).length <= _
  have:=Cst.ath_len (f:=f) s i
  rw [List.length_drop];omega
theorem Cst.ath_piece (s:Cst):∀ i,(s.ath M20.pieceN i).l = M20.leftP s.l i
 | 0=>rfl
 | i + 1=>by
  show (s.ath M20.pieceN i).l.drop _ = _
  rw [Cst.ath_piece s i];rfl
theorem Cst.ath_part (room:Nat) (s:Cst):∀ i,(s.ath (fun l=>(M20.packG room l).2) i).l = M20.leftE room s.l i
 | 0=>rfl
 | i + 1=>by
  show (s.ath _ i).l.drop _ = _
  rw [Cst.ath_part room s i];rfl
theorem Cst.D_lt {w:World} {s:Cst} (h:RowN .u8 w s.a s.cap s.l) {b:Nat} (hb:s.D b):b < w.heap.size:=by
 obtain ⟨h0,x,hx,rfl⟩:=hb
 obtain ⟨b',off,he,hlt,_⟩:=h.at h0
 rw [hx] at he
 cases he
 exact hlt
theorem Cst.ath_D {f:List Nat -> Nat} {s:Cst} {i b:Nat} (h:(s.ath f i).D b):s.D b:=by
 obtain ⟨h0,x,hx,rfl⟩:=h
 obtain ⟨y,hy,hb⟩:=Cst.ath_block i x hx
 exact ⟨by have:=Cst.ath_len (f:=f) s i;omega,y,hy,hb⟩
theorem RowN.sameC {k:IntKind} {w A:World} {s:Cst} (h:RowN k w s.a s.cap s.l) {S:Nat -> Prop} (hs:SameOn S w A) (hS:∀ b,s.D b -> S b):RowN k A s.a s.cap s.l:=by
 refine RowN.same h hs.size (fun x h0 hx=>hs.same _ (hS _ ⟨h0,x,hx,rfl⟩))
theorem Zeg (w:World) (a:Option Addr) (n c:Nat) :
  Calls Tryz.prog 101 #[.slice a n c] w fun e w' =>
   e = .returned (.func (.func 150) #[] #[.pointer (some ⟨w.heap.size,0,none⟩)]) /\ w' = w.alloc (.cells #[.slice a n c] 22):=by
 have hmf:∀ (fn:Fn) (first cap:Array Value) (w:World),(Instr.makeFunc fn first cap).run Tryz.prog w = .ok (.func fn first cap) w:=fun _ _ _ _=>rfl
 go_enter Tryz.func101,Tryz.ntmps101
 go_wp2
 go_ret
 exact ⟨rfl,rfl⟩
theorem Zcz (l:List Nat):M20.pieceN l <= l.length:=by
 by_cases h:l = []
 ·subst h;exact Nat.le_refl _
 ·exact (M20.Zai h).2.2
set_option maxRecDepth 100000 in
set_option maxHeartbeats 3200000 in
theorem Zcj (s0:Cst) (w:World) (B:Nat) (h:RowN .u8 w s0.a s0.cap s0.l) (hl:s0.l.length <= 1000000)
  (hB:w.heap[B]? = some (.cells #[.slice s0.a s0.l.length s0.cap] 22 (0,0))) (hD:∀ b,s0.D b -> b ≠ B) :
  Yields Tryz.prog 150 #[.pointer (some ⟨B,0,none⟩)] (M20.pcs s0.l).length (s0.row M20.pieceN) (fun b=>b = B \/ s0.D b) (fun b=>b = B) w:=by
 intro y J Jx W hsame hJ hJx hY h0
 have HY:=Zh hY
 have HJ:=Zh hJ
 have h1:=(hsame.same B (.inl rfl)).trans hB
 have HD:=Zh hD
 have HR:=Zh h
 clear hJ hJx hY hD h
 refine callsIn_of_wp Tryz.func150 rfl trivial ?_ rfl
 simp only [Tryz.ntmps150,List.size_toArray,List.length_cons,List.length_nil,Nat.reduceAdd,Nat.reduceSub,Array.replicate_succ,Array.replicate_zero,List.push_toArray,List.append_toArray,List.nil_append,List.cons_append]
 gi_wp2
 gi_loopw [] (fun A=>∃ i:Nat,i <= (M20.pcs s0.l).length /\ A.heap[B]? = some (.cells #[.slice (s0.ath M20.pieceN i).a (s0.ath M20.pieceN i).l.length (s0.ath M20.pieceN i).cap] 22 (0,0)) /\ SameOn s0.D w A /\ J i A) (fun A=>match A.cell? ⟨B,0,none⟩ with | some (.slice _ n _)=>n | _=>0)
 case atStart=>exact ⟨0,Nat.zero_le _,h1,⟨hsame.size,fun b hb=>hsame.same b (.inr hb)⟩,h0⟩
 case round =>
  clear hsame h1 h0
  obtain ⟨i,hi,h1,hsa,hJA⟩:=hrel
  have HRW:Hid (RowN .u8 wr (s0.ath M20.pieceN i).a (s0.ath M20.pieceN i).cap (s0.ath M20.pieceN i).l):=(Cst.ath_row Zcz HR.out i).sameC hsa (fun b hb=>Cst.ath_D hb)
  have HDW:Hid (∀ b,(s0.ath M20.pieceN i).D b -> s0.D b):=fun b hb=>Cst.ath_D hb
  have hlen:=Cst.ath_len (f:=M20.pieceN) s0 i
  have HLF:=Zh (Cst.ath_piece s0 i)
  have HNX:Hid (s0.ath M20.pieceN (i + 1) = ⟨cutA (s0.ath M20.pieceN i).a (s0.ath M20.pieceN i).cap (M20.pieceN (s0.ath M20.pieceN i).l),(s0.ath M20.pieceN i).cap - M20.pieceN (s0.ath M20.pieceN i).l,(s0.ath M20.pieceN i).l.drop (M20.pieceN (s0.ath M20.pieceN i).l)⟩):=rfl
  have HYI:Hid (∀ A,i < (M20.pcs s0.l).length -> J i A -> YieldAt Fence.wide 9 Tryz.prog y #[.slice (s0.ath M20.pieceN i).a (M20.pieceN (s0.ath M20.pieceN i).l) (M20.pieceN (s0.ath M20.pieceN i).l)] A fun e B'=>(e = .returned (.bool true) /\ J (i + 1) B' /\ SameOn (fun b=>b = B \/ s0.D b) A B') \/ (e = .returned (.bool false) /\ Jx (i + 1) B')):=fun A h1 h2=>HY.out i A h1 h2
  have HII:=Zh hi
  have HJA:=Zh hJA
  have HSA:=Zh hsa
  have H1:=Zh h1
  clear hi hsa hJA
  generalize s0.ath M20.pieceN i = s at *
  obtain ⟨a,cap,l⟩:=s
  simp only at HRW HDW hlen HLF HNX HYI H1 h1
  have k1:=cell_of_one h1
  have z1:=free_of_one h1
  clear h1
  by_cases hln:l = []
  ·subst hln
   simp only [List.length_nil] at k1
   have HEND:Hid (i = (M20.pcs s0.l).length):=by
    unfold Hid
    rcases Nat.lt_or_ge i (M20.pcs s0.l).length with h | h
    ·exact absurd HLF.out.symm (M20.Zbl h)
    ·exact Nat.le_antisymm HII.out h
   gi_wp2
   go_end0
   exact ⟨⟨_,rfl⟩,.inl (by rw [<- HEND.out];exact HJA.out)⟩
  ·have hpos:=List.length_pos_iff.2 hln
   have HLT:Hid (i < (M20.pcs s0.l).length):=by
    unfold Hid
    rcases Nat.lt_or_ge i (M20.pcs s0.l).length with h | h
    ·exact h
    ·have h2:i = (M20.pcs s0.l).length:=Nat.le_antisymm HII.out h
     have:=HLF.out
     rw [h2,M20.Zdu] at this
     exact absurd this hln
   obtain ⟨n1,n2,n3⟩:=M20.Zai hln
   have HAT:Hid (∀ k,k < M20.pieceN l -> l.getD k 0 = l.getD 0 0):=fun k hk=>M20.Zcy hk
   have HSTOP:=Zh (M20.Zdm hln)
   have hcapl:=HRW.out.1
   obtain ⟨b,off,ha,hb,hc0⟩:=HRW.out.at hpos
   have HC:Hid (∀ k,k < l.length -> wr.cell? ⟨b,off + k,none⟩ = some (.int .u8 (l.getD k 0:Nat))):=fun k hk=>by
    obtain ⟨b',off',ha',hb',hc'⟩:=HRW.out.at hk
    rw [ha] at ha'
    cases ha'
    rw [hc',List.getD_eq_getElem?_getD,List.getElem?_eq_getElem hk]
    rfl
   have h00:=HC.out 0 hpos
   rw [Nat.add_zero] at h00
   clear hc0 hb hln
   subst ha
   obtain ⟨N,hN⟩:∃ N,M20.pieceN l = N:=⟨_,rfl⟩
   rw [hN] at n1 n2 n3 HAT HSTOP HNX HYI
   clear hN
   generalize wr = w0 at *
   have hll:l.length <= 1000000:=by omega
   have tp:decide ((0:Int) < (l.length:Int)) = true:=by simp;omega
   gi_wp2
   gi_loopw [3] (fun c A=>∃ k:Nat,1 <= k /\ k <= N /\ c = .int .i64 (k:Nat) /\ Only (fun _=>False) w0 A) (fun c _=>N - (intOf c).toNat)
   case atStart=>exact ⟨1,Nat.le_refl _,n1,rfl,Only.refl _ _⟩
   case round =>
    obtain ⟨k,hk1,hk,rfl,ho⟩:=hrel
    have HO:=Zh ho
    have H1':=Zaa H1.out ho id
    have k2:=cell_of_one H1'
    have hcell:∀ {p:Addr} {v:Value},p.block < w0.heap.size -> w0.cell? p = some v -> wr.cell? p = some v:=fun hp hv=>by
     unfold World.cell? at hv ⊢
     rw [ho.block _ hp id];exact hv
    have hbs:b < w0.heap.size:=by
     obtain ⟨b',off',ha',hb',_⟩:=HRW.out.at hpos
     cases ha';exact hb'
    have h00':=hcell (p:=⟨b,off,none⟩) hbs h00
    have HKK:Hid (∀ j,j < l.length -> wr.cell? ⟨b,off + j,none⟩ = some (.int .u8 (l.getD j 0:Nat))):=fun j hj=>hcell (p:=⟨b,off + j,none⟩) hbs (HC.out j hj)
    obtain ⟨c0,hc0⟩:∃ c0,l.getD 0 0 = c0:=⟨_,rfl⟩
    rw [hc0] at HAT HSTOP h00'
    clear ho H1' hcell hbs
    by_cases hlt:k < N
    ·have hkl:k < l.length:=by omega
     have hkl2:(k:Int) < (l.length:Int):=by omega
     have hkk:=HKK.out k hkl
     rw [HAT.out k hlt] at hkk
     have t1:decide ((k:Int) < (l.length:Int)) = true:=by simp;omega
     have t1':decide (k < l.length) = true:=by simp;omega
     have t2:decide ((k:Int) < 255) = true:=by simp;omega
     have t2':decide (k < 255) = true:=by simp;omega
     have t3:((c0:Int) == (c0:Int)) = true:=by simp
     have hk3:IntKind.i64.wrap ((k:Int) + 1) = ((k + 1:Nat):Int):=by rw [IntWalk.i64_in _ (by omega)];omega
     gi_wp2
     refine Code.wpIn_mono (Q:=fun e a' w'=>e = .normal /\ (∃ nq,w' = wr.drewN nq) /\ ∃ v7 v8 v9 v10 v11 v12 v13 v14 v15 v16 v17 v18 v19 v20 v21 v22 v23,a' = ⟨#[Value.func (Fn.yield y) #[] #[],Value.pointer (some ⟨B,0,none⟩),undef,Value.int .i64 (k:Nat),Value.slice (some ⟨b,off,none⟩) l.length cap,Value.int .i64 (l.length:Nat),Value.bool true,v7,v8,v9,v10,v11,v12,v13,v14,v15,v16,v17,v18,v19,v20,v21,v22,v23,Value.bool true,u25,u26,u27,u28,u29,u30,u31,u32,u33,u34,u35,u36],[]⟩) ?_ ?_
     rotate_left
     ·refine Zac (by rintro ⟨_,_,h,_⟩;cases h) (by kernel_rfl) (by kernel_rfl) (by kernel_rfl) ?_
      repeat (go_big_quiet_step (fail))
      refine wpQuiet_nil ?_
      intro _ hw'
      obtain ⟨nq,hw''⟩:=hw'
      subst hw''
      exact ⟨rfl,⟨nq,rfl⟩,_,_,_,_,_,_,_,_,_,_,_,_,_,_,_,_,_,rfl⟩
     rintro e a' w' ⟨rfl,⟨nq,rfl⟩,v7,v8,v9,v10,v11,v12,v13,v14,v15,v16,v17,v18,v19,v20,v21,v22,v23,rfl⟩
     gi_wp2
     go_roundw
     case rel=>exact ⟨k + 1,by omega,by omega,by go_num,HO.out.trans (Zap _ _ _)⟩
     case measure=>simp [intOf];omega
    ·obtain rfl:N = k:=by omega
     gi_wp2
     refine Code.wpIn_mono (Q:=fun e a' w'=>e = .normal /\ (∃ nq,w' = wr.drewN nq) /\ ∃ v7 v8 v9 v10 v11 v12 v13 v14 v15 v16 v17 v18 v19 v20 v21 v22 v23,a' = ⟨#[Value.func (Fn.yield y) #[] #[],Value.pointer (some ⟨B,0,none⟩),undef,Value.int .i64 (N:Nat),Value.slice (some ⟨b,off,none⟩) l.length cap,Value.int .i64 (l.length:Nat),Value.bool true,v7,v8,v9,v10,v11,v12,v13,v14,v15,v16,v17,v18,v19,v20,v21,v22,v23,Value.bool false,u25,u26,u27,u28,u29,u30,u31,u32,u33,u34,u35,u36],[]⟩) ?_ ?_
     rotate_left
     ·by_cases e1:N = l.length
      ·have t1:decide ((N:Int) < (l.length:Int)) = false:=by simp;omega
       have t1':decide (N < l.length) = false:=by simp;omega
       clear e1
       refine Zac (by rintro ⟨_,_,h,_⟩;cases h) (by kernel_rfl) (by kernel_rfl) (by kernel_rfl) ?_
       repeat (go_big_quiet_step (fail))
       refine wpQuiet_nil ?_
       intro _ hw'
       obtain ⟨nq,hw''⟩:=hw'
       subst hw''
       exact ⟨rfl,⟨nq,rfl⟩,_,_,_,_,_,_,_,_,_,_,_,_,_,_,_,_,_,rfl⟩
      ·have t1:decide ((N:Int) < (l.length:Int)) = true:=by simp;omega
       have t1':decide (N < l.length) = true:=by simp;omega
       by_cases e2:N = 255
       ·have t2:decide ((N:Int) < 255) = false:=by simp;omega
        have t2':decide (N < 255) = false:=by simp;omega
        clear e2 e1
        refine Zac (by rintro ⟨_,_,h,_⟩;cases h) (by kernel_rfl) (by kernel_rfl) (by kernel_rfl) ?_
        repeat (go_big_quiet_step (fail))
        refine wpQuiet_nil ?_
        intro _ hw'
        obtain ⟨nq,hw''⟩:=hw'
        subst hw''
        exact ⟨rfl,⟨nq,rfl⟩,_,_,_,_,_,_,_,_,_,_,_,_,_,_,_,_,_,rfl⟩
       ·have t2:decide ((N:Int) < 255) = true:=by simp;omega
        have t2':decide (N < 255) = true:=by simp;omega
        have hkl:N < l.length:=by omega
        have hkl2:(N:Int) < (l.length:Int):=by omega
        have hkk:=HKK.out N hkl
        have hne:l.getD N 0 ≠ c0:=by
         rcases HSTOP.out with h | h | h
         ·exact absurd h e2
         ·exact absurd h e1
         ·exact h
        generalize l.getD N 0 = c1 at *
        have t3:((c1:Int) == (c0:Int)) = false:=by simp;omega
        have t3':(c1 == c0) = false:=by simp;omega
        clear e2 e1
        refine Zac (by rintro ⟨_,_,h,_⟩;cases h) (by kernel_rfl) (by kernel_rfl) (by kernel_rfl) ?_
        repeat (go_big_quiet_step (fail))
        refine wpQuiet_nil ?_
        intro _ hw'
        obtain ⟨nq,hw''⟩:=hw'
        subst hw''
        exact ⟨rfl,⟨nq,rfl⟩,_,_,_,_,_,_,_,_,_,_,_,_,_,_,_,_,_,rfl⟩
     rintro e a' w' ⟨rfl,⟨nq,rfl⟩,v7,v8,v9,v10,v11,v12,v13,v14,v15,v16,v17,v18,v19,v20,v21,v22,v23,rfl⟩
     have HO3:=Zh (HO.out.trans (Zap (fun _=>False) wr nq))
     clear k2 h00' HKK HO
     generalize wr.drewN nq = w3 at *
     replace HO:=HO3
     obtain ⟨fn,tmps,assign,body,hy,hR⟩:=HYI.out w3 HLT.out (HJ.out _ _ _ HJA.out (HO.out.mono (fun _ _ h=>h.elim)))
     have HRR:=Zh hR
     have hcut:∀ A,(Instr.sliceAt 22 (.slice (some ⟨b,off,none⟩) l.length cap) none (some (.int .i64 (N:Nat))) (some (.int .i64 (N:Nat)))).run Tryz.prog A = .ok (.slice (some ⟨b,off,none⟩) N N) A:=fun A=>cut3N _ _ _ _ (by omega) A
     have HH1:Hid (w3.heap[B]? = some (.cells #[.slice (some ⟨b,off,none⟩) l.length cap] 22 (0,0))):=Zaa (T:=fun _=>False) H1.out HO.out (fun h=>h)
     have HSA3:Hid (SameOn s0.D w w3):=HSA.out.trans (Only.sameOn (T:=fun _=>False) HO.out (fun b hb=>⟨by have:=Cst.D_lt HR.out hb;have:=HSA.out.size;omega,id⟩))
     have k3:=cell_of_one HH1.out
     clear hR
     gi_wp2_with fail
     refine (Zce HRR.out).mono ?_
     rintro e W' (⟨rfl,hJ',hk'⟩ | ⟨rfl,hJx'⟩)
     ·have HH2:Hid (W'.heap[B]? = _):=Zh ((hk'.same B (.inl rfl)).trans HH1.out)
      have HJ5:=Zh hJ'
      have HSA4:=Zh (HSA3.out.trans ⟨hk'.size,fun b hb=>hk'.same b (.inr hb)⟩)
      have k5:=cell_of_one HH2.out
      have z5:=free_of_one HH2.out
      have hcutH:∀ A,(Instr.sliceAt 22 (.slice (some ⟨b,off,none⟩) l.length cap) (some (.int .i64 (N:Nat))) none none).run Tryz.prog A = .ok (.slice (cutA (some ⟨b,off,none⟩) cap N) (l.length - N) (cap - N)) A:=fun A=>cutHiN _ _ _ _ (by omega) (by omega) A
      have hms:Hid ((match W'.cell? ⟨B,0,none⟩ with | some (.slice _ n _)=>n | _=>0) = l.length):=by unfold Hid;rw [k5]
      clear hJ' hk' hy
      gi_wp2_with fail
      have q1:=one_setCell (u:=.slice (cutA (some ⟨b,off,none⟩) cap N) (l.length - N) (cap - N)) HH2.out
      go_roundw
      case rel =>
       refine ⟨i + 1,HLT.out,?_,?_,?_⟩
       ·rw [HNX.out];simp only [List.length_drop];exact q1
       ·exact HSA4.out.trans (Only.sameOn (T:=fun b=>b = B) (Only.setCell (T:=fun b=>b = B) (p:=⟨B,0,none⟩) (Only.refl _ _) (.inl rfl) _) (fun b hb=>⟨by have:=Cst.D_lt HR.out hb;have:=HSA4.out.size;omega,HD.out b hb⟩))
       ·exact HJ.out _ _ _ HJ5.out (Only.setCell (T:=fun b=>b = B) (p:=⟨B,0,none⟩) (Only.refl _ _) (.inl rfl) _)
      case measure=>rw [k1,cell_of_one q1];show l.length - N < l.length;omega
     ·gi_wp2_with fail
      refine bodyPost_ret (results_none rfl _ _ _) rfl ?_
      exact ⟨⟨_,rfl⟩,.inr ⟨_,HLT.out,hJx'⟩⟩
end Go.Proofs.YtnkpnjnfddjfpaaGreat

namespace Go.Proofs.YtnkpnjnfddjfpaaGreat.M02w
abbrev Wst:=List Nat × Nat
def roomy (s:Wst):List Nat:=if s.2 % 8 = 0 then s.1 ++ [0] else s.1
def addBit (s:Wst) (b:Nat):Wst:=((roomy s).set (s.2 / 8) ((roomy s).getD (s.2 / 8) 0 ||| b * 2 ^ (7 - s.2 % 8)),s.2 + 1)
def WOk (s:Wst):Prop:=s.1.length = (s.2 + 7) / 8 /\ ∀ x ∈ s.1,x < 256
theorem Zbx {s:Wst} (h:WOk s):(roomy s).length = s.2 / 8 + 1:=by
 obtain ⟨h1,_⟩:=h
 unfold roomy
 split
 ·simp;omega
 ·omega
theorem Zcd {s:Wst} (h:WOk s):∀ x ∈ roomy s,x < 256:=by
 intro x hx
 unfold roomy at hx
 split at hx
 ·rcases List.mem_append.1 hx with h1 | h1
  ·exact h.2 x h1
  ·simp at h1;omega
 ·exact h.2 x hx
theorem Zfo {s:Wst} (h:WOk s):(roomy s).getD (s.2 / 8) 0 < 256:=by
 have hl:=Zbx h
 simp only [List.getD,List.getElem?_eq_getElem (show s.2 / 8 < (roomy s).length by omega),Option.getD_some]
 exact Zcd h _ (List.getElem_mem _)
theorem Zco (b n:Nat) (hb:b < 2):b * 2 ^ (7 - n % 8) < 256:=by
 have h1:2 ^ (7 - n % 8) <= 2 ^ 7:=Nat.pow_le_pow_right (by decide) (by omega)
 have h2:b * 2 ^ (7 - n % 8) <= 1 * 2 ^ (7 - n % 8):=Nat.mul_le_mul_right _ (by omega)
 omega
theorem Zcl {s:Wst} (h:WOk s) {b:Nat} (hb:b < 2):WOk (addBit s b):=by
 have hl:=Zbx h
 refine ⟨?_,fun x hx=>?_⟩
 ·unfold addBit
  simp only [List.length_set,hl]
  omega
 ·unfold addBit at hx
  rcases List.mem_or_eq_of_mem_set hx with h1 | rfl
  ·exact Zcd h x h1
  ·exact Nat.or_lt_two_pow (n:=8) (Zfo h) (Zco b s.2 hb)
def addTo (s:Wst) (v n:Nat):Nat -> Wst
 | 0=>s
 | k + 1=>addBit (addTo s v n k) (v / 2 ^ (n - 1 - k) % 2)
def addNum (s:Wst) (v n:Nat):Wst:=addTo s v n n
theorem Zfg {s:Wst} (h:WOk s) (v n k:Nat):WOk (addTo s v n k):=by
 induction k with
 | zero=>exact h
 | succ k ih=>exact Zcl ih (Nat.mod_lt _ (by decide))
theorem Zcn (s:Wst) (v n k:Nat):(addTo s v n k).2 = s.2 + k:=by
 induction k with
 | zero=>rfl
 | succ k ih=>show (addTo s v n k).2 + 1 = _;omega
end Go.Proofs.YtnkpnjnfddjfpaaGreat.M02w
namespace Go.Proofs.YtnkpnjnfddjfpaaGreat
open Go.RowKit Go.Shelf M02w
def Wr0 (P:Nat -> Prop) (w:World) (p:Nat) (l:List Nat) (n:Nat):Prop :=
 ∃ a c,w.heap[p]? = some (.cells #[.slice a l.length c,.int .i64 (n:Nat)] 72 (0,0)) /\ OwnN 5 .u8 w 0 a c l /\ P p /\ (∀ g,a = some ⟨g,0,none⟩ -> P g /\ p < g) /\ (∀ b,w.heap.size <= b -> P b)
def Wr (P:Nat -> Prop) (w:World) (p:Nat) (s:Wst):Prop:=Wr0 P w p s.1 s.2 /\ WOk s /\ s.2 <= 100000000
theorem Wr0.lt {P:Nat -> Prop} {w:World} {p n:Nat} {l:List Nat} (h:Wr0 P w p l n):p < w.heap.size:=by
 obtain ⟨a,c,h1,_⟩:=h
 exact (Array.getElem?_eq_some_iff.1 h1).1
theorem Wr0.grow {P:Nat -> Prop} {w w2:World} {p n:Nat} {l:List Nat} {a a':Option Addr} {c c' y:Nat}
  (h1:w.heap[p]? = some (.cells #[.slice a l.length c,.int .i64 (n:Nat)] 72 (0,0))) (h2:OwnN 5 .u8 w 0 a c l) (h3:P p) (h4:∀ g,a = some ⟨g,0,none⟩ -> P g /\ p < g) (h5:∀ b,w.heap.size <= b -> P b)
  (hown:OwnN 5 .u8 w2 0 a' c' (l ++ [y])) (hg:w.grownBy w2 (Value.slice a l.length c).ownBlock) (hnew:∀ g,a' = some ⟨g,0,none⟩ -> a = some ⟨g,0,none⟩ \/ w.heap.size <= g) :
  Only P w (w2.setCell ⟨p,0,none⟩ (.slice a' (l.length + 1) c')) /\ Wr0 P (w2.setCell ⟨p,0,none⟩ (.slice a' (l.length + 1) c')) p (l ++ [y]) n:=by
 have hlt:p < w.heap.size:=(Array.getElem?_eq_some_iff.1 h1).1
 have hX:w2.heap[p]? = _:=(hg.block p hlt (Zfp h2 (fun g e=>(h4 g e).2) p (Nat.le_refl _))).trans h1
 have ho2:Only P w w2:=(Only.refl P w).grown hg (fun r hr=>by
  rcases h2.form with ⟨rfl,_,_⟩ | ⟨g,rfl,_⟩
  ·simp [Value.ownBlock] at hr
  ·simp [Value.ownBlock] at hr
   subst hr
   exact .inl (h4 _ rfl).1)
 have hO:=ho2.setCell (p:=⟨p,0,none⟩) (.inl h3) (.slice a' (l.length + 1) c')
 have hps:∀ g,a' = some ⟨g,0,none⟩ -> P g /\ p < g:=fun g e=>by
  rcases hnew g e with h | h
  ·exact h4 g h
  ·exact ⟨h5 g h,by omega⟩
 exact ⟨hO,a',c',by rw [(Zfc hX).1];simp,hown.other (fun g e=>by have:=(hps g e).2;show p ≠ g;omega) _,h3,hps,fun b hb=>h5 b (Nat.le_trans hO.size hb)⟩
theorem Wr0.store {P:Nat -> Prop} {w:World} {p n g c:Nat} {l:List Nat} (h1:w.heap[p]? = some (.cells #[.slice (some ⟨g,0,none⟩) l.length c,.int .i64 (n:Nat)] 72 (0,0)))
  (h2:OwnN 5 .u8 w 0 (some ⟨g,0,none⟩) c l) (h3:P p) (h4:P g /\ p < g) (h5:∀ b,w.heap.size <= b -> P b) (i x:Nat) (m:Nat) :
  Only P w ((w.setCell ⟨g,i,none⟩ (.int .u8 (x:Nat))).setCell ⟨p,1,none⟩ (.int .i64 (m:Nat))) /\ Wr0 P ((w.setCell ⟨g,i,none⟩ (.int .u8 (x:Nat))).setCell ⟨p,1,none⟩ (.int .i64 (m:Nat))) p (l.set i x) m:=by
 have hO:=((Only.refl P w).setCell (p:=⟨g,i,none⟩) (.inl h4.1) (.int .u8 (x:Nat))).setCell (p:=⟨p,1,none⟩) (.inl h3) (.int .i64 (m:Nat))
 have hX:(w.setCell ⟨g,i,none⟩ (.int .u8 (x:Nat))).heap[p]? = _:=(Below.heap_setCell _ _ _ _ (by show p ≠ g;omega)).trans h1
 refine ⟨hO,some ⟨g,0,none⟩,c,?_,?_,h3,fun g' e=>by cases e;exact h4,fun b hb=>h5 b (Nat.le_trans hO.size hb)⟩
 ·rw [(Zfc hX).2,List.length_set]
 ·exact ((h2.stored i x).1).other (fun g' e=>by cases e;show p ≠ g;omega) _
theorem wrap8 (n:Int):IntKind.u8.wrap n = n % 256:=by simp [IntKind.wrap,IntKind.bits,IntKind.signed]
theorem or8 (a b:Nat) (ha:a < 256) (hb:b < 256):bits .or .u8 (a:Int) (b:Int) = ((a ||| b:Nat):Int):=by
 have h1:(BitVec.ofInt 8 (a:Int)).toNat = a:=by
  rw [BitVec.ofInt_natCast,BitVec.toNat_ofNat];exact Nat.mod_eq_of_lt (by omega)
 have h2:(BitVec.ofInt 8 (b:Int)).toNat = b:=by
  rw [BitVec.ofInt_natCast,BitVec.toNat_ofNat];exact Nat.mod_eq_of_lt (by omega)
 have h3:a ||| b < 256:=Nat.or_lt_two_pow (n:=8) ha hb
 show IntKind.u8.wrap ((BitVec.ofInt 8 (a:Int) ||| BitVec.ofInt 8 (b:Int)).toNat:Int) = _
 rw [BitVec.toNat_or,h1,h2,wrap8]
 omega
theorem and1 (v:Nat) (hv:v < 4294967296):bits .and .u32 (v:Int) 1 = ((v % 2:Nat):Int):=by
 have h1:(BitVec.ofInt 32 (v:Int)).toNat = v:=by
  rw [BitVec.ofInt_natCast,BitVec.toNat_ofNat];exact Nat.mod_eq_of_lt (by omega)
 have h2:(BitVec.ofInt 32 (1:Int)).toNat = 1:=by decide
 show IntKind.u32.wrap ((BitVec.ofInt 32 (v:Int) &&& BitVec.ofInt 32 (1:Int)).toNat:Int) = _
 rw [BitVec.toNat_and,h1,h2,Nat.and_one_is_mod]
 have:IntKind.u32.wrap ((v % 2:Nat):Int) = ((v % 2:Nat):Int) % 4294967296:=by simp [IntKind.wrap,IntKind.bits,IntKind.signed]
 rw [this]
 omega
set_option maxRecDepth 100000 in
set_option maxHeartbeats 1600000 in
theorem Zfl {P:Nat -> Prop} {w:World} {p:Nat} {s:Wst} (h:Wr P w p s) (v:Nat) (hv:v < 4294967296) (hn:s.2 < 100000000) :
  Calls Tryz.prog 63 #[.pointer (some ⟨p,0,none⟩),.int .u32 (v:Nat)] w fun e w'=>e = .returned (.tuple #[]) /\ Only P w w' /\ Wr P w' p (addBit s (v % 2)):=by
 obtain ⟨h0,hok,hbd⟩:=h
 have hok2:=Zcl hok (b:=v % 2) (Nat.mod_lt _ (by decide))
 have hrl:=Zbx hok
 have hol:=Zfo hok
 have hsl:=hok.1
 have HOK2:=Zh hok2
 have HAD:Hid (addBit s (v % 2) = ((roomy s).set (s.2 / 8) ((roomy s).getD (s.2 / 8) 0 ||| v % 2 * 2 ^ (7 - s.2 % 8)),s.2 + 1)):=rfl
 obtain ⟨l,n⟩:=s
 simp only at *
 obtain ⟨b,hb⟩:∃ b,v % 2 = b:=⟨_,rfl⟩
 have hb2:b < 2:=by omega
 obtain ⟨i,hi⟩:∃ i,n / 8 = i:=⟨_,rfl⟩
 obtain ⟨j,hj⟩:∃ j,n % 8 = j:=⟨_,rfl⟩
 obtain ⟨j7,hj7⟩:∃ j7,7 - j = j7:=⟨_,rfl⟩
 obtain ⟨sh,hsh⟩:∃ sh,b * 2 ^ j7 = sh:=⟨_,rfl⟩
 have hsh2:sh < 256:=by rw [<- hsh,<- hj7,<- hj];exact Zco b n hb2
 rw [hi] at hol hrl
 have hj8:j < 8:=by omega
 have hin:i <= n:=by omega
 have f1:(n:Int) / 8 = (i:Int):=by omega
 have f1':Int.tdiv (n:Int) 8 = (i:Int):=by rw [<- hi];rfl
 have f2:(n:Int) % 8 = (j:Int):=by omega
 have f2':Int.tmod (n:Int) 8 = (j:Int):=by rw [<- hj];rfl
 have f3:bits .and .u32 (v:Int) 1 = (b:Int):=by rw [and1 v hv,hb]
 have f4:IntKind.u8.wrap (b:Int) = (b:Int):=by rw [wrap8];omega
 have f10:IntKind.i64.wrap ((7:Int) - (j:Int)) = (j7:Int):=by rw [show (7:Int) - (j:Int) = (j7:Int) by omega];exact IntWalk.i64_in _ (by omega)
 have f5:IntKind.u8.wrap ((b:Int) * 2 ^ j7) = (sh:Int):=by
  have:(b:Int) * 2 ^ j7 = (sh:Int):=by rw [<- hsh];simp
  rw [this,wrap8];omega
 have f7:IntKind.i64.wrap (i:Int) = (i:Int):=IntWalk.i64_in _ (by omega)
 have f8:IntKind.i64.wrap (j:Int) = (j:Int):=IntWalk.i64_in _ (by omega)
 rw [hi,hj,hb,hj7,hsh] at HAD
 obtain ⟨n1,hn1e⟩:∃ n1,n + 1 = n1:=⟨_,rfl⟩
 have f9:(n:Int) + 1 = (n1:Int):=by omega
 have hn1:n1 <= 100000000:=by omega
 rw [hn1e] at HAD
 clear hn1e
 rw [hb] at HOK2
 rw [hb]
 obtain ⟨old,hold⟩:∃ old,(roomy (l,n)).getD i 0 = old:=⟨_,rfl⟩
 rw [hold] at HAD hol
 obtain ⟨nw,hnw⟩:∃ nw,old ||| sh = nw:=⟨_,rfl⟩
 have f6:bits .or .u8 (old:Int) (sh:Int) = (nw:Int):=by rw [or8 old sh hol hsh2,hnw]
 rw [hnw] at HAD
 obtain ⟨a,c,h1,h2,h3,h4,h5⟩:=h0
 have hlt:p < w.heap.size:=(Array.getElem?_eq_some_iff.1 h1).1
 have hll:l.length <= 100000000:=by omega
 clear hsh hnw hok hok2 hi hb hsl
 by_cases hj0:n % 8 = 0
 ·have hRM:Hid (roomy (l,n) = l ++ [0]):=by unfold Hid roomy;rw [if_pos hj0]
  have hjz:j = 0:=by omega
  have t0:((j:Int) == 0) = true:=beq_iff_eq.2 (by omega)
  have H1:=Zh h1
  have H2:=Zh h2
  have H3:=Zh h3
  have H4:=Zh h4
  have H5:=Zh h5
  obtain ⟨x0,x1,y0,y1⟩:=Zay h1
  clear h1 h2 h3 h4 h5 hj0 hj hjz
  go_enter Tryz.func63,Tryz.ntmps63
  go_wp2_with (at_builtin;refine app1AtN Zcr rfl (.tmp 14) (.tmp 15) rfl (base:=0) (y:=0) rfl H2.out rfl (Nat.le_refl _) (by omega) (by omega) (by omega) (Nat.zero_le _) ?_;intro a' c' w2 hown hg hnew;have hX:=Zay ((hg.block p hlt (Zfp H2.out (fun g e=>(H4.out g e).2) p (Nat.le_refl _))).trans H1.out);obtain ⟨z0,z1,k0,k1⟩:=hX;replace hown:=Zh hown;replace hg:=Zh hg;replace hnew:=Zh hnew)
  have HG:=Wr0.grow H1.out H2.out H3.out H4.out H5.out hown.out hg.out hnew.out
  have HO:=Zh HG.1
  have HW:=Zh HG.2
  clear HG x0 x1 y0 y1 z0 z1 k0 k1 hown hg hnew H1 H2 H3 H4 H5
  generalize w2.setCell ⟨p,0,none⟩ (.slice a' (l.length + 1) c') = WA at *
  obtain ⟨a2,c2,g1,g2,g3,g4,g5⟩:=HW.out
  obtain ⟨g,rfl,hcl,hfr⟩:∃ g,a2 = some ⟨g,0,none⟩ /\ WA.cell? ⟨g,i,none⟩ = some (.int .u8 (old:Nat)) /\ WA.frozen? ⟨g,i,none⟩ = false:=by
   obtain ⟨g,he,_,_,hc,hf⟩:=g2.at (i:=i) (by rw [hRM.out] at hrl;omega)
   refine ⟨g,he,?_,hf⟩
   have h9:(l ++ [0]).getD i 0 = old:=by rw [<- hold,hRM.out]
   rw [hc,<- h9]
   simp [List.getD,List.getElem?_eq_getElem (show i < (l ++ [0]).length by rw [hRM.out] at hrl;omega)]
  have hi1:i < l.length + 1:=by rw [hRM.out] at hrl;first | omega | (simp at hrl;omega)
  have hi2:(i:Int) < ((l.length + 1:Nat):Int):=by omega
  have hi3:(0:Int) <= (i:Int):=by omega
  have hi5:i <= l.length:=by omega
  have hi6:(i:Int) < (l.length:Int) + 1:=by omega
  have hi7:(i:Int) <= (l.length:Int):=by omega
  have hi8:i < l.length + 1:=by omega
  have G1:=Zh g1
  have G2:=Zh g2
  have G3:=Zh g3
  have G4:=Zh (g4 g rfl)
  have G5:=Zh g5
  obtain ⟨e0,e1,d0,d1⟩:=Zay g1
  try simp only [List.length_append,List.length_singleton] at e0
  clear HW g1 g2 g3 g4 g5 hrl hol hold
  go_wp2_with fail
  go_still_tail 23,(by kernel_rfl)
  change wpList _ _ _ _ _ WA.drew
  replace G1:=Zh (show WA.drew.heap[p]? = _ from G1.out)
  replace G2:=Zh (show OwnN 5 .u8 WA.drew 0 _ _ _ from G2.out)
  replace G5:=Zh (show ∀ b,WA.drew.heap.size <= b -> P b from G5.out)
  replace hcl:WA.drew.cell? ⟨g,i,none⟩ = _:=hcl
  replace hfr:WA.drew.frozen? ⟨g,i,none⟩ = false:=hfr
  replace e0:WA.drew.cell? ⟨p,0,none⟩ = _:=e0
  replace e1:WA.drew.cell? ⟨p,1,none⟩ = _:=e1
  replace d0:WA.drew.frozen? ⟨p,0,none⟩ = false:=d0
  replace d1:WA.drew.frozen? ⟨p,1,none⟩ = false:=d1
  have HO2:=Zh (show Only P w WA.drew from (HO.out).trans (Zap P WA 1))
  generalize WA.drew = W3 at *
  have hpg:¬ (p = g):=fun e=>by have:=G4.out.2;omega
  have hpg2:¬ (g = p):=fun e=>by have:=G4.out.2;omega
  go_wp2_with fail
  go_end0
  obtain ⟨k1,k2⟩:=Wr0.store G1.out G2.out G3.out G4.out G5.out i nw n1
  refine ⟨rfl,HO2.out.trans k1,?_,HOK2.out,?_⟩
  ·rw [HAD.out,hRM.out]
   exact k2
  ·rw [HAD.out]
   exact hn1
 ·have hRM:Hid (roomy (l,n) = l):=by unfold Hid roomy;rw [if_neg hj0]
  have t0:((j:Int) == 0) = false:=beq_eq_false_iff_ne.2 (by omega)
  have HW:Hid (Wr0 P w p l n):=⟨a,c,h1,h2,h3,h4,h5⟩
  obtain ⟨x0,x1,y0,y1⟩:=Zay h1
  clear h1 h2 h3 h4 h5 hj0 hj
  go_enter Tryz.func63,Tryz.ntmps63
  go_wp2_with fail
  clear x0 x1 y0 y1
  obtain ⟨a2,c2,g1,g2,g3,g4,g5⟩:=HW.out
  obtain ⟨g,rfl,hcl,hfr⟩:∃ g,a2 = some ⟨g,0,none⟩ /\ w.cell? ⟨g,i,none⟩ = some (.int .u8 (old:Nat)) /\ w.frozen? ⟨g,i,none⟩ = false:=by
   obtain ⟨g,he,_,_,hc,hf⟩:=g2.at (i:=i) (by rw [hRM.out] at hrl;omega)
   refine ⟨g,he,?_,hf⟩
   have h9:(l).getD i 0 = old:=by rw [<- hold,hRM.out]
   rw [hc,<- h9]
   simp [List.getD,List.getElem?_eq_getElem (show i < (l).length by rw [hRM.out] at hrl;omega)]
  have hi1:i < l.length:=by rw [hRM.out] at hrl;first | omega | (simp at hrl;omega)
  have hi2:(i:Int) < ((l.length:Nat):Int):=by omega
  have hi3:(0:Int) <= (i:Int):=by omega
  have hi5:i <= l.length:=by omega
  have hi6:(i:Int) < (l.length:Int) + 1:=by omega
  have hi7:(i:Int) <= (l.length:Int):=by omega
  have hi8:i < l.length + 1:=by omega
  have G1:=Zh g1
  have G2:=Zh g2
  have G3:=Zh g3
  have G4:=Zh (g4 g rfl)
  have G5:=Zh g5
  obtain ⟨e0,e1,d0,d1⟩:=Zay g1
  try simp only [List.length_append,List.length_singleton] at e0
  clear HW g1 g2 g3 g4 g5 hrl hol hold
  go_wp2_with fail
  go_still_tail 23,(by kernel_rfl)
  change wpList _ _ _ _ _ w.drew
  replace G1:=Zh (show w.drew.heap[p]? = _ from G1.out)
  replace G2:=Zh (show OwnN 5 .u8 w.drew 0 _ _ _ from G2.out)
  replace G5:=Zh (show ∀ b,w.drew.heap.size <= b -> P b from G5.out)
  replace hcl:w.drew.cell? ⟨g,i,none⟩ = _:=hcl
  replace hfr:w.drew.frozen? ⟨g,i,none⟩ = false:=hfr
  replace e0:w.drew.cell? ⟨p,0,none⟩ = _:=e0
  replace e1:w.drew.cell? ⟨p,1,none⟩ = _:=e1
  replace d0:w.drew.frozen? ⟨p,0,none⟩ = false:=d0
  replace d1:w.drew.frozen? ⟨p,1,none⟩ = false:=d1
  have HO2:=Zh (show Only P w w.drew from (Only.refl P w).trans (Zap P w 1))
  generalize w.drew = W3 at *
  have hpg:¬ (p = g):=fun e=>by have:=G4.out.2;omega
  have hpg2:¬ (g = p):=fun e=>by have:=G4.out.2;omega
  go_wp2_with fail
  go_end0
  obtain ⟨k1,k2⟩:=Wr0.store G1.out G2.out G3.out G4.out G5.out i nw n1
  refine ⟨rfl,HO2.out.trans k1,?_,HOK2.out,?_⟩
  ·rw [HAD.out,hRM.out]
   exact k2
  ·rw [HAD.out]
   exact hn1
end Go.Proofs.YtnkpnjnfddjfpaaGreat
namespace Go.Proofs.YtnkpnjnfddjfpaaGreat
open Go.RowKit Go.Shelf M02w
theorem Wr.lt {P:Nat -> Prop} {w:World} {p:Nat} {s:Wst} (h:Wr P w p s):p < w.heap.size:=h.1.lt
set_option maxRecDepth 100000 in
set_option maxHeartbeats 1600000 in
theorem Zci {P:Nat -> Prop} {w:World} {p:Nat} {s:Wst} (h:Wr P w p s) (v n:Nat) (hn:n <= 32) (hv:v < 2 ^ n) (hs:s.2 + n <= 100000000) :
  Calls Tryz.prog 35 #[.pointer (some ⟨p,0,none⟩),.int .u32 (v:Nat),.int .i64 (n:Nat)] w fun e w'=>e = .returned (.int .i64 0) /\ Only P w w' /\ Wr P w' p (addNum s v n):=by
 have H:=Zh h
 have hmf:∀ (fn:Fn) (first cap:Array Value) (w:World),(Instr.makeFunc fn first cap).run Tryz.prog w = .ok (.func fn first cap) w:=fun _ _ _ _=>rfl
 have hp32:2 ^ n <= 2 ^ 32:=Nat.pow_le_pow_right (by decide) hn
 have hv32:v < 4294967296:=by omega
 have t1:decide ((n:Int) < 0) = false:=by simp
 have t2:decide ((32:Int) < (n:Int)) = false:=by simp;omega
 have t3:(v:Int) / 2 ^ n = 0:=by
  have:(v:Int) / ((2 ^ n:Nat):Int) = 0:=by rw [<- Int.natCast_ediv,Nat.div_eq_of_lt hv];rfl
  simpa using this
 have HV:=Zh hv
 have HP:=Zh hp32
 clear h hv hp32
 go_enter Tryz.func35,Tryz.ntmps35
 go_wp2_with fail
 go_loopw [29] (fun c A=>∃ k:Nat,k <= n /\ c = .int .i64 (k:Nat) /\ Only P w A /\ Wr P A p (addTo s v n k)) (fun c _=>n - (intOf c).toNat)
 case atStart=>exact ⟨0,by omega,rfl,Only.refl _ _,H.out⟩
 case round =>
  clear H hmf
  obtain ⟨k,hk,rfl,ho,hw⟩:=hrel
  have HO:=Zh ho
  have HW:=Zh hw
  clear ho hw
  by_cases hlt:k < n
  ·obtain ⟨m,hm⟩:∃ m,n - 1 - k = m:=⟨_,rfl⟩
   obtain ⟨x,hx⟩:∃ x,v / 2 ^ m = x:=⟨_,rfl⟩
   have hx2:x < 4294967296:=by rw [<- hx];exact Nat.lt_of_le_of_lt (Nat.div_le_self _ _) hv32
   have q1:(v:Int) / 2 ^ m = (x:Int):=by rw [<- hx];simp
   have q2:IntKind.i64.wrap ((n:Int) - 1) = ((n - 1:Nat):Int):=by rw [IntWalk.i64_in _ (by omega)];omega
   have q3:IntKind.i64.wrap (((n - 1:Nat):Int) - (k:Int)) = (m:Int):=by rw [IntWalk.i64_in _ (by omega)];omega
   have q4:(n:Int) - 1 - (k:Int) = (m:Int):=by omega
   have hm32:m <= 32:=by omega
   have hk32:k <= 32:=by omega
   have HL:=Zcn s v n k
   have HB:=Zh (Zfl HW.out x hx2 (by omega))
   have HA:Hid (addBit (addTo s v n k) (x % 2) = addTo s v n (k + 1)):=by unfold Hid;rw [<- hx,<- hm];rfl
   rw [HA.out] at HB
   clear HL HW hx
   go_wp2_with (go_at_call 63;refine HB.out.mono ?_;rintro e w2 ⟨rfl,ho2,hw2⟩;replace ho2:=Zh ho2;replace hw2:=Zh hw2)
   go_roundw
   case rel=>exact ⟨k + 1,by omega,by go_num,HO.out.trans ho2.out,hw2.out⟩
   case measure=>simp [intOf];omega
  ·obtain rfl:k = n:=by omega
   go_wp2
   go_ret
   exact ⟨rfl,HO.out,HW.out⟩
theorem Zbz {P:Nat -> Prop} {w:World} {p:Nat} {s:Wst} (h:Wr P w p s) :
  Calls Tryz.prog 38 #[.pointer (some ⟨p,0,none⟩)] w fun e w'=>∃ a c,e = .returned (.slice a s.1.length c) /\ OwnN 5 .u8 w' w.heap.size a c s.1 /\ Below w.heap.size w w':=by
 obtain ⟨⟨a,c,h1,h2,_⟩,hok,hb⟩:=h
 obtain ⟨c0,c1,_,_⟩:=Zay h1
 have HC:=Zh (Zbn w a c s.1 h2.row (by rw [hok.1];omega))
 clear h1 h2 hok hb
 go_enter Tryz.func38,Tryz.ntmps38
 go_wp2_with fail
 refine HC.out.mono ?_
 rintro e w2 ⟨a2,c2,rfl,ho,hb⟩
 have HO:=Zh ho
 have HB:=Zh hb
 clear ho hb HC
 go_wp2
 go_ret
 exact ⟨a2,c2,rfl,HO.out,HB.out⟩
end Go.Proofs.YtnkpnjnfddjfpaaGreat

namespace Go.Proofs.YtnkpnjnfddjfpaaGreat
open Go.RowKit Go.Shelf M01 M02 M04 M06 M10
theorem World.cell?_ltH {w:World} {a:Addr} {v:Value} (h:w.cell? a = some v):a.block < w.heap.size:=by
 unfold World.cell? at h
 rcases Nat.lt_or_ge a.block w.heap.size with h1 | h1
 ·exact h1
 ·rw [Array.getElem?_eq_none h1] at h
  simp at h
end Go.Proofs.YtnkpnjnfddjfpaaGreat

namespace Go.Proofs.YtnkpnjnfddjfpaaGreat
open Go.RowKit Go.Shelf
theorem Zbj {listed:Array Bool} {i:Nat} (hi:i < listed.size):(listed.setIfInBounds i true).getD i false = true:=by simp [hi]
theorem Zad {l:Array Bool} {i k:Nat} (h:i ≠ k):(l.setIfInBounds i true).getD k false = l.getD k false:=by
 simp [Array.getElem?_setIfInBounds_ne h]
end Go.Proofs.YtnkpnjnfddjfpaaGreat

namespace Go.Proofs.YtnkpnjnfddjfpaaGreat
open Go.RowKit Go.Shelf M01 M02 M27
set_option maxRecDepth 100000 in
theorem Zde (w:World) (a:Option Addr) (cap:Nat) (l:List Nat) (hr:RowN .u8 w a cap l) (hl:l.length <= 100000000) (h0:l ≠ []) :
  Calls Tryz.prog 102 #[.slice a l.length cap] w fun e w'=>∃ g c',e = .returned (.slice (some ⟨g,0,none⟩) l.length c') /\ OwnN 5 .u8 w' w.heap.size (some ⟨g,0,none⟩) c' l /\ Below w.heap.size w w':=by
 have hx:∃ x,a = some x:=by
  rcases hr.2.2 with h | ⟨b,off,h,_⟩
  ·exact absurd h h0
  ·exact ⟨_,h⟩
 obtain ⟨x,rfl⟩:=hx
 have H0:=Zh h0
 clear h0
 go_enter Tryz.func102,Tryz.ntmps102
 go_wp2_with fail
 rw [eqNilF]
 go_wp2_with (at_builtin;refine appAnyN Zcr rfl (.tmp 5) (.tmp 6) rfl (a:=some ⟨w.heap.size,0,none⟩) (cap:=0) (l:=[]) (ys:=l) (base:=w.heap.size) rfl (OwnN.lit0 _ _ _ _ (Nat.le_refl _)) rfl rfl (hr.below ((Below.refl _ _).alloc (Nat.le_refl _) _)) (by simp;omega) (by simp;omega) (by simp) ?_;intro a1 cap1 w1 hown1 hg1 hb1;simp only [List.nil_append] at hown1;simp only [List.length_nil,Nat.zero_add])
 go_ret
 rcases hown1.form with ⟨_,_,h⟩ | ⟨g,rfl,_⟩
 ·exact absurd h H0.out
 ·exact ⟨g,cap1,rfl,hown1,(Zar w _).trans hb1⟩
end Go.Proofs.YtnkpnjnfddjfpaaGreat

namespace Go.Proofs.YtnkpnjnfddjfpaaGreat
open Go.RowKit
attribute [local go_sem] Oper.semAt_some
theorem keepsOnlyP {T:Nat -> Prop} {N:Nat} {A B:World} (h:Only T A B) (hc:∀ b o,T b -> A.heap[b]? = some o -> o.isCells = true):KeepsFrom N A B :=
 ⟨h.size,fun k o _ hk ho=>by
  have hlt:k < A.heap.size:=(Array.getElem?_eq_some_iff.1 hk).1
  rw [h.block k hlt (fun t=>by have:=hc k o t hk;rw [this] at ho;cases ho)]
  exact hk⟩
theorem appGrow {P:Program} {T E:TypeId} {k:IntKind} {bytes:Nat} (et:ElemTy P T E k bytes) {w:World} {ad:Addr} {b:Option Addr} {cap m c:Nat} {l ys:List Nat} (ty:TypeId) (hx:RowN k w (some ad) cap l) (hm:m = ys.length) (hy:RowN k w b c ys) (hy0:0 < ys.length) (h0:l ≠ [])
  (hg:cap < l.length + m) (hn:l.length + m <= 9223372036854775807) (hbytes:(l.length + m) * bytes <= 140737488355328) :
  ∃ a' cap' w',OwnN E k w' w.heap.size a' cap' (l ++ ys) /\ Below w.heap.size w w' /\ (Builtin.append_ #[T,T] ty #[.slice (some ad) l.length cap,.slice b m c]).run P w = .ok (.slice a' (l.length + m) cap') w':=by
 subst hm
 obtain ⟨i,h2,h3,h4,h5⟩:=info_parts et.info
 obtain ⟨bb,off,rfl,_⟩:=hy.at hy0
 obtain ⟨v',w',hr,h6,h7⟩:=run_append_arg_grows (P:=P) w T ty E i (.int k 0) 1 bytes et.und h2 h3 h4 h5 rfl (by decide) ad l.length cap (l.map fun (n:Nat)=>Value.int k n) (by simp) (Zaf hx _ rfl) ⟨bb,off,none⟩ ys.length c (ys.map fun (n:Nat)=>Value.int k n) (by simp)
  (Zaf hy _ rfl) hg (by simpa [maxLen] using hn) hbytes
 have hv:∃ a' cap',v' = .slice a' (l.length + ys.length) cap':=by
  rcases h6.2 with ⟨h9,h10⟩ | ⟨g,c',cur,h9,_⟩
  ·exact ⟨none,0,by rw [h9,h10]⟩
  ·exact ⟨_,_,h9⟩
 obtain ⟨a',cap',rfl⟩:=hv
 have hown':OwnN E k w' w.heap.size a' cap' (l ++ ys):=by
  unfold OwnN;rw [List.length_append,List.map_append];exact h6
 exact ⟨a',cap',w',hown',Below.of_grown h7 (Nat.le_refl _) (fun k e=>by cases e),hr⟩
theorem appRunIn {F:Fence} {dep:Nat} {P:Program} {T:TypeId} {w w':World} {ops:Array Oper} {rest:List Oper} {o:Oper} {ac:Act} {Q:Exit -> Act -> World -> Prop} (hgd:o.guard = none) (s x:Operand)
  (ho:o.op = .call { callee:=.builtin .append,args:=#[s,x],argTypes:=#[T,T] }) {vs vx v':Value} (hs:ac.eval s = vs) (hx:ac.eval x = vx)
  (hr:(Builtin.append_ #[T,T] o.type #[vs,vx]).run P w = .ok v' w') (h:wpListIn F dep P ops Q rest (ac.put o.dst v') w'):wpListIn F dep P ops Q (o :: rest) ac w:=by
 refine wpListIn_plain (by assumption) fun K hK'=>?_
 unfold Oper.wpIn
 refine ⟨by simp [Oper.about,ho,resolve,Target.leads,Sem.run_pure],?_⟩
 rw [Oper.semAt_plain F _ _ (by rw [ho];intro c hc';cases hc')]
 simp [execOp,ho,resolve,invoke,builtin,hs,hx,hr,Result.andThen]
 exact hK' _ _ h
theorem Zck {k:IntKind} {w:World} {a:Option Addr} {cap n:Nat} {l:List Nat} (h:RowN k w a cap l) (h0:l ≠ []) (hn:l.length <= n) (hc:n <= 1000000):RowN k w a n l:=by
 refine ⟨hn,⟨by omega,fun e=>?_⟩,h.2.2⟩
 rcases h.2.2 with h1 | ⟨b,off,h1,_⟩
 ·exact absurd h1 h0
 ·rw [h1] at e;cases e
structure PackI (w:World) (p room:Nat) (l:List Nat) (i:Nat) (A:World):Prop where
 c0:A.heap[p]? = some (.cells #[.int .i64 (room:Nat)] 3 (0,0))
 c1:∃ a c,A.heap[p + 1]? = some (.cells #[.slice a (M20.outP (M20.pcs l) i).length c] 22 (0,0)) /\ OwnN 5 .u8 A (p + 4) a c (M20.outP (M20.pcs l) i)
 c2:A.heap[p + 2]? = some (.cells #[.int .i64 (M20.usedL l i:Nat)] 3 (0,0))
 fit:i <= M20.fitN room (M20.pcs l) 0
 bel:Below w.heap.size w A
theorem PackI.only {w A B:World} {p room i:Nat} {l:List Nat} (h:PackI w p room l i A) (hp:w.heap.size = p) (ho:Only (fun b=>b = p + 3) A B):PackI w p room l i B:=by
 obtain ⟨a,c,h1,h2⟩:=h.c1
 exact ⟨Zaa h.c0 ho (by omega),⟨a,c,Zaa h1 ho (by omega),h2.only ho (fun b hb t=>by omega)⟩,Zaa h.c2 ho (by omega),h.fit,Below.only h.bel ho (Nat.le_refl _) (fun b t=>by omega)⟩
theorem PackI.put {w A:World} {p room i r:Nat} {l:List Nat} {o:Obj} (h:PackI w p room l i A) (hp:w.heap.size = p) (hr0:p + 4 <= r) (hr:A.heap[r]? = some o) (ho:o.isCells = false) (o':Obj):PackI w p room l i (A.putObj r o'):=by
 obtain ⟨a,c,h1,h2⟩:=h.c1
 exact ⟨Zbk h.c0 hr ho,⟨a,c,Zbk h1 hr ho,h2.put hr ho o'⟩,Zbk h.c2 hr ho,h.fit,Below.put h.bel (Nat.le_refl _) hr (by omega) o'⟩
theorem Zcb {w A w5 w6:World} {p room i:Nat} {l pk:List Nat} {a a6:Option Addr} {c c6:Nat} (hp:w.heap.size = p) (h:PackI w p room l i A) (h1:A.heap[p + 1]? = some (.cells #[.slice a (M20.outP (M20.pcs l) i).length c] 22 (0,0)))
  (hown:OwnN 5 .u8 A (p + 4) a c (M20.outP (M20.pcs l) i)) (hb5:Below A.heap.size A w5) (ho6:OwnN 5 .u8 w6 (p + 4) a6 c6 (M20.outP (M20.pcs l) i ++ pk)) (hg6:w5.grownBy w6 (Value.slice a (M20.outP (M20.pcs l) i).length c).ownBlock)
  (hN:p + 4 <= A.heap.size) (hi:i < (M20.pcs l).length) (hpk:M20.pkd (M20.pcs l)[i] = pk) (hft:i < M20.fitN room (M20.pcs l) 0) (s:Nat -> Prop) (hs:∀ b,s b -> b < A.heap.size /\ b ≠ p + 1 /\ b ≠ p + 2 /\ b < p + 4) (n:Nat) (hn:M20.pieceN (M20.leftP l i) = n) :
  KeepsFrom (p + 4) A ((w6.setCell ⟨p + 1,0,none⟩ (.slice a6 ((M20.outP (M20.pcs l) i).length + pk.length) c6)).setCell ⟨p + 2,0,none⟩ (.int .i64 ((M20.usedL l i + n:Nat):Int))) ∧
  SameOn s A ((w6.setCell ⟨p + 1,0,none⟩ (.slice a6 ((M20.outP (M20.pcs l) i).length + pk.length) c6)).setCell ⟨p + 2,0,none⟩ (.int .i64 ((M20.usedL l i + n:Nat):Int))) ∧
  PackI w p room l (i + 1) ((w6.setCell ⟨p + 1,0,none⟩ (.slice a6 ((M20.outP (M20.pcs l) i).length + pk.length) c6)).setCell ⟨p + 2,0,none⟩ (.int .i64 ((M20.usedL l i + n:Nat):Int))):=by
 have ho5:Only (fun b=>b = p + 1 \/ b = p + 2 \/ a = some ⟨b,0,none⟩) A w5:=(Only.refl _ _).below hb5
 have how6:Only (fun b=>b = p + 1 \/ b = p + 2 \/ a = some ⟨b,0,none⟩) A w6:=ho5.grown hg6 (fun r hr=>by
  rcases hown.form with ⟨rfl,_,_⟩ | ⟨g,rfl,_⟩
  ·simp [Value.ownBlock] at hr
  ·simp [Value.ownBlock] at hr
   subst hr
   exact .inl (.inr (.inr rfl)))
 have hO:=(how6.setCell (p:=⟨p + 1,0,none⟩) (.inl (.inl rfl)) (.slice a6 ((M20.outP (M20.pcs l) i).length + pk.length) c6)).setCell (p:=⟨p + 2,0,none⟩) (.inl (.inr (.inl rfl))) (.int .i64 ((M20.usedL l i + n:Nat):Int))
 have hab:∀ g,a = some ⟨g,0,none⟩ -> p + 4 <= g:=fun g e=>by
  rcases hown.form with ⟨rfl,_,_⟩ | ⟨g',rfl,h3,_⟩
  ·cases e
  ·cases e;exact h3
 have h1w:w6.heap[p + 1]? = some (.cells #[.slice a (M20.outP (M20.pcs l) i).length c] 22 (0,0)):=by
  have h5:=(hb5.block _ (lt_of_block h1)).trans h1
  refine (hg6.block _ (lt_of_block h5) ?_).trans h5
  rcases hown.form with ⟨rfl,_,_⟩ | ⟨g',rfl,h3,_⟩
  ·simp [Value.ownBlock]
  ·simp [Value.ownBlock];omega
 have h2w:w6.heap[p + 2]? = some (.cells #[.int .i64 (M20.usedL l i:Nat)] 3 (0,0)):=by
  have h5:=(hb5.block _ (lt_of_block h.c2)).trans h.c2
  refine (hg6.block _ (lt_of_block h5) ?_).trans h5
  rcases hown.form with ⟨rfl,_,_⟩ | ⟨g',rfl,h3,_⟩
  ·simp [Value.ownBlock]
  ·simp [Value.ownBlock];omega
 have hout:M20.outP (M20.pcs l) (i + 1) = M20.outP (M20.pcs l) i ++ pk:=by rw [M20.Zbw hi,hpk]
 have husd:M20.usedL l (i + 1) = M20.usedL l i + n:=by rw [M20.Zaz hi,hn]
 have ha6:∀ g,a6 = some ⟨g,0,none⟩ -> p + 4 <= g:=fun g e=>by
  rcases ho6.form with ⟨rfl,_,_⟩ | ⟨g',rfl,h3,_⟩
  ·cases e
  ·cases e;exact h3
 refine ⟨keepsOnlyP hO (fun b o t hb=>?_),hO.sameOn (fun b hb=>⟨(hs b hb).1,fun t=>?_⟩),⟨?_,⟨a6,c6,?_,?_⟩,?_,hft,?_⟩⟩
 ·rcases t with rfl | rfl | t
  ·rw [h1] at hb;cases hb;rfl
  ·rw [h.c2] at hb;cases hb;rfl
  ·rcases hown.2 with ⟨h3,_⟩ | ⟨g,c',cur,h3,_,h4,_⟩
   ·simp only [Value.slice.injEq] at h3
    rw [h3.1] at t;cases t
   ·simp only [Value.slice.injEq] at h3
    rw [h3.1] at t
    cases t
    rw [h4] at hb;cases hb;rfl
 ·have:=hs b hb
  rcases t with t | t | t
  ·omega
  ·omega
  ·have:=hab b t;omega
 ·exact Zaa h.c0 hO (fun t=>by
   rcases t with t | t | t
   ·omega
   ·omega
   ·have:=hab p t;omega)
 ·rw [hout,List.length_append]
  refine (Below.heap_setCell _ _ _ _ (by show p + 1 ≠ p + 2;omega)).trans ?_
  exact one_setCell h1w
 ·rw [hout]
  refine (ho6.other (fun g e=>?_) _).other (fun g e=>?_) _
  ·have:=ha6 g e;show p + 1 ≠ g;omega
  ·have:=ha6 g e;show p + 2 ≠ g;omega
 ·rw [husd]
  exact one_setCell ((Below.heap_setCell _ _ _ _ (by show p + 2 ≠ p + 1;omega)).trans h2w)
 ·refine Below.only h.bel hO (Nat.le_refl _) (fun b t=>?_)
  rcases t with t | t | t
  ·omega
  ·omega
  ·have:=hab b t;omega
theorem Zcx {w A:World} {p room i:Nat} {l:List Nat} {a:Option Addr} {c r:Nat} {o:Obj} (h:PackI w p room l i A) (hp:w.heap.size = p) (hf:M20.fitN room (M20.pcs l) 0 = i) (hown:OwnN 5 .u8 A (p + 4) a c (M20.outP (M20.pcs l) i)) (hr0:p + 4 <= r) (hr:A.heap[r]? = some o) (ho:o.isCells = false) (o':Obj) :
  ∃ g c2,Ending.returned (.tuple #[.slice a (M20.outP (M20.pcs l) i).length c,.int .i64 (M20.usedL l i:Nat),.int .i64 0]) = .returned (.tuple #[.slice g (M20.packG room l).1.length c2,.int .i64 ((M20.packG room l).2:Nat),.int .i64 0]) /\ OwnN 5 .u8 (A.putObj r o') w.heap.size g c2 (M20.packG room l).1 /\ Below w.heap.size w (A.putObj r o'):=by
 refine ⟨a,c,?_,?_,Below.put h.bel (Nat.le_refl _) hr (by omega) o'⟩
 ·unfold M20.packG;rw [hf]
 ·unfold M20.packG;rw [hf];exact (hown.put hr ho o').mono (by omega)
theorem Zdw {A w5 w6:World} {p n c:Nat} {l:List Nat} {a:Option Addr} (h1:A.heap[p + 1]? = some (.cells #[.slice a n c] 22 (0,0))) (hown:OwnN 5 .u8 A (p + 4) a c l) (hb5:Below A.heap.size A w5) (hg6:w5.grownBy w6 (Value.slice a l.length c).ownBlock):w6.heap[p + 1]? = some (.cells #[.slice a n c] 22 (0,0)):=by
 have h5:=(hb5.block _ (lt_of_block h1)).trans h1
 refine (hg6.block _ (lt_of_block h5) ?_).trans h5
 rcases hown.form with ⟨rfl,_,_⟩ | ⟨g',rfl,h3,_⟩
 ·simp [Value.ownBlock]
 ·simp [Value.ownBlock];omega
theorem Zdx {A w5 w6:World} {p c:Nat} {l:List Nat} {a:Option Addr} {v:Value} (h2:A.heap[p + 2]? = some (.cells #[v] 3 (0,0))) (hown:OwnN 5 .u8 A (p + 4) a c l) (hb5:Below A.heap.size A w5) (hg6:w5.grownBy w6 (Value.slice a l.length c).ownBlock):w6.heap[p + 2]? = some (.cells #[v] 3 (0,0)):=by
 have h5:=(hb5.block _ (lt_of_block h2)).trans h2
 refine (hg6.block _ (lt_of_block h5) ?_).trans h5
 rcases hown.form with ⟨rfl,_,_⟩ | ⟨g',rfl,h3,_⟩
 ·simp [Value.ownBlock]
 ·simp [Value.ownBlock];omega
theorem PackI.below5 {w A B:World} {p room i:Nat} {l:List Nat} (h:PackI w p room l i A) (hb:Below A.heap.size A B) (hN:w.heap.size <= A.heap.size):PackI w p room l i B:=by
 obtain ⟨a,c,h1,h2⟩:=h.c1
 exact ⟨(hb.block _ (lt_of_block h.c0)).trans h.c0,⟨a,c,(hb.block _ (lt_of_block h1)).trans h1,h2.below hb⟩,(hb.block _ (lt_of_block h.c2)).trans h.c2,h.fit,h.bel.trans (hb.mono h.bel.size)⟩
end Go.Proofs.YtnkpnjnfddjfpaaGreat

namespace Go.Proofs.YtnkpnjnfddjfpaaGreat
open Go.RowKit
attribute [local go_sem] Oper.semAt_some
set_option maxRecDepth 100000 in
set_option maxHeartbeats 6400000 in
theorem Zfn (w:World) (a:Option Addr) (cap:Nat) (l:List Nat) (room:Nat) (hr:RowN .u8 w a cap l) (h256:∀ x ∈ l,x < 256) (hl:l.length <= 1000000) (h5:5 <= room) (hrm:room <= 1000000) :
  Calls Tryz.prog 60 #[.slice a l.length cap,.int .i64 (room:Nat)] w fun e w'=>∃ g c,e = .returned (.tuple #[.slice g (M20.packG room l).1.length c,.int .i64 ((M20.packG room l).2:Nat),.int .i64 0]) /\ OwnN 5 .u8 w' w.heap.size g c (M20.packG room l).1 /\ Below w.heap.size w w':=by
 have HR:=Zh hr
 have HL:=Zh h256
 have t1:decide ((room:Int) < 5) = false:=by simp;omega
 have t1':decide (room < 5) = false:=by simp;omega
 clear hr h256
 refine (callsIn_wide (n:=9)).1 ?_
 refine callsIn_of_wp_marks Tryz.func60 rfl trivial ?_ rfl
 simp only [Tryz.ntmps60,List.size_toArray,List.length_cons,List.length_nil,Nat.reduceAdd,Nat.reduceSub,Array.replicate_succ,Array.replicate_zero,List.push_toArray,List.append_toArray,List.nil_append,List.cons_append]
 gi_wp2_with (refine ⟨trivial,?_⟩;gi_at_call 101;refine (callsIn_wide.2 (Zeg _ _ _ _)).mono ?_;rintro e w' ⟨rfl,rfl⟩)
 obtain ⟨hz,hb0,hb1,hb2,hb3,hbel⟩:=four w (.cells #[.int .i64 (room:Nat)] 3) (.cells #[.slice none 0 0] 22) (.cells #[.int .i64 0] 3) (.cells #[.slice a l.length cap] 22)
 obtain ⟨p,hp⟩:∃ p,w.heap.size = p:=⟨_,rfl⟩
 rw [hp] at hz hb0 hb1 hb2 hb3
 simp only [hp,Nat.add_assoc,Nat.reduceAdd]
 have hpf:=hp
 replace hp:=Zh hp
 generalize (((w.alloc (Obj.cells #[Value.int .i64 (room:Nat)] 3)).alloc (.cells #[.slice none 0 0] 22)).alloc (.cells #[.int .i64 0] 3)).alloc (.cells #[.slice a l.length cap] 22) = W0 at *
 have hr4:RowN .u8 W0 a cap l:=HR.out.below (by rw [hp.out];rw [hp.out] at hbel;exact hbel)
 obtain ⟨s0,hs0⟩:∃ s0,s0 = Cst.mk a cap l:=⟨_,rfl⟩
 have hDlt:∀ b,s0.D b -> b < p:=fun b hb=>by
  have:=Cst.D_lt (s:=s0) (w:=w) (by rw [hs0];exact HR.out) hb
  omega
 have hpy:=Zcj s0 W0 (p + 3) (by rw [hs0];exact hr4) (by rw [hs0];exact hl) (by rw [hs0];exact hb3) (fun b hb=>by have:=hDlt b hb;omega)
 have hs0l:s0.l = l:=by rw [hs0]
 rw [hs0l] at hpy
 have HDL:=Zh hDlt
 have HS0:=Zh hs0
 have HS0L:=Zh hs0l
 clear hDlt hs0 hs0l
 have HROW:Hid (∀ A i,PackI w p room l i A -> RowN .u8 A (s0.ath M20.pieceN i).a (s0.ath M20.pieceN i).cap (s0.ath M20.pieceN i).l):=fun A i h=>by
  have h1:RowN .u8 A s0.a s0.cap s0.l:=by rw [HS0.out];exact HR.out.below h.bel
  exact Cst.ath_row Zcz h1 i
 refine Zeu (g:=.tmp 14) (gf:=150) (lb:=#[.pointer (some ⟨p + 3,0,none⟩)]) rfl (enters_of Tryz.func150 (by kernel_rfl) rfl)
  hpy (SameOn.refl _ _) ?hS ?hT (fun _=>rfl)
  (PackI w p room l) (fun c j A=>c = .exit 0 /\ ∃ i,j = i + 1 /\ M20.fitN room (M20.pcs l) 0 = i /\ PackI w p room l i A) (fun _ _ _ h ho=>h.only hpf ho) (fun _ _ _ _ o' h h0 h1 h2=>h.put hpf (by omega) h1 h2 o')
  (fun _ _ _ _ h ho=>by obtain ⟨h1,i,h2,h3,h4⟩:=h;exact ⟨h1,i,h2,h3,h4.only hpf ho⟩) (fun _ _ _ _ _ o' h h0 h1 h2=>by obtain ⟨g1,i,g2,g3,g4⟩:=h;exact ⟨g1,i,g2,g3,g4.put hpf (by omega) h1 h2 o'⟩) ?h0
  (fun i=>⟨#[Value.slice a l.length cap,Value.int .i64 (room:Nat),undef,Value.pointer (some ⟨p,0,none⟩),Value.slice none 0 0,Value.int .i64 0,Value.int .i64 0,Value.pointer (some ⟨p + 1,0,none⟩),Value.pointer (some ⟨p + 2,0,none⟩),Value.slice (s0.ath M20.pieceN i).a (M20.pieceN (s0.ath M20.pieceN i).l) (M20.pieceN (s0.ath M20.pieceN i).l),undef,Value.int .i64 (room:Nat),Value.bool false,Value.slice a l.length cap,Value.func (.func 150) #[] #[Value.pointer (some ⟨p + 3,0,none⟩)],Value.slice (s0.ath M20.pieceN i).a (M20.pieceN (s0.ath M20.pieceN i).l) (M20.pieceN (s0.ath M20.pieceN i).l),undef,undef,undef,undef,undef,undef,undef,undef,undef,undef,undef,undef,undef,undef,undef,undef,undef,undef,undef,undef,undef,undef,undef,undef,undef,undef,undef,undef,undef],[]⟩) ?assign ?body ?done ?stop
 case hS =>
  rintro b (rfl | hb)
  ·omega
  ·have:=HDL.out b hb;omega
 case hT=>rintro b rfl;omega
 case h0=>exact ⟨hb0,⟨none,0,hb1,OwnN.nil _ _ _ _⟩,hb2,Nat.zero_le _,hbel⟩
 case assign =>
  intro y i W K hK
  simp only [Cst.row]
  gi_wp2
  exact hK
 case body =>
  rintro y i hi A hz2 hI
  have hrow:=HROW.out A i hI
  have hlf:=Cst.ath_piece s0 i
  rw [HS0L.out] at hlf
  have hne:=M20.Zbl hi
  have HPK:=Zh (M20.Zet hi)
  have HREP:=Zh (M20.Zfk hi)
  obtain ⟨n1,n2,n3⟩:=M20.Zai hne
  rw [hlf] at hrow
  simp only [hlf]
  have HLB:Hid ((M20.leftP l i).getD 0 0 < 256):=by
   have h1:=(M20.Zal l i (Nat.le_of_lt hi)).1
   have h2:=List.length_pos_iff.2 hne
   unfold Hid
   rw [List.getD_eq_getElem?_getD,List.getElem?_eq_getElem h2]
   have h4:∀ x ∈ M20.leftP l i,x ∈ l:=fun x hx=>by rw [h1] at hx;exact List.mem_of_mem_drop hx
   exact HL.out _ (h4 _ (List.getElem_mem h2))
  obtain ⟨n,hn⟩:∃ n,M20.pieceN (M20.leftP l i) = n:=⟨_,rfl⟩
  obtain ⟨cc,hcc⟩:∃ cc,(M20.leftP l i).getD 0 0 = cc:=⟨_,rfl⟩
  rw [hn] at n1 n2 n3 HREP HPK
  rw [hcc] at HREP HPK HLB
  rw [hn]
  have hx:=Zck (n:=n) (Zbi hrow n) (by rw [HREP.out];cases n with | zero=>omega | succ n=>simp [List.replicate_succ]) (by rw [HREP.out];simp) (by omega)
  rw [HREP.out] at hx
  obtain ⟨a1,c1,hc1,hown⟩:=hI.c1
  have k0:=cell_of_one hI.c0
  have k1:=cell_of_one hc1
  have z1:=free_of_one hc1
  have k2:=cell_of_one hI.c2
  have z2:=free_of_one hI.c2
  have HX:=Zh hx
  have HI:=Zh hI
  have HC1:=Zh hc1
  have HOWN:=Zh hown
  have HN:=Zh hn
  have hfit:=hI.fit
  have hol:(M20.outP (M20.pcs l) i).length <= 1250000:=by
   have h1:=M20.Zbg l i (Nat.le_of_lt hi)
   have h2:=(M20.Zal l i (Nat.le_of_lt hi)).2
   omega
  have hul:M20.usedL l i <= 1000000:=by
   have h2:=(M20.Zal l i (Nat.le_of_lt hi)).2
   omega
  have HIL:=Zh hi
  generalize (s0.ath M20.pieceN i).a = sa at *
  clear hrow hlf hne hx hI hc1 hown hn hcc hb0 hb1 hb2 hb3 hpy hr4 hbel n3
  have hxn:List.replicate n cc ≠ []:=by cases n with | zero=>omega | succ n=>simp [List.replicate_succ]
  have HCL:Hid (Calls Tryz.prog 102 #[.slice sa n n] A fun e w'=>∃ g c',e = .returned (.slice (some ⟨g,0,none⟩) n c') /\ OwnN 5 .u8 w' A.heap.size (some ⟨g,0,none⟩) c' (List.replicate n cc) /\ Below A.heap.size A w'):=by
   have h:=Zde A sa n (List.replicate n cc) HX.out (by simp;omega) hxn
   simp only [List.length_replicate] at h
   exact h
  gi_wp2_with fail
  refine ⟨trivial,?_⟩
  gi_at_call 102
  refine (callsIn_wide.2 HCL.out).mono ?_
  rintro e w2 ⟨g,c2,rfl,ho2,hb2⟩
  have HO2:=Zh ho2
  have HB2:=Zh hb2
  clear ho2 hb2 HCL
  by_cases h4:4 <= n
  ·have t4:decide ((4:Int) <= (n:Int)) = true:=by simp;omega
   have t4':decide (4 <= n) = true:=by simp;omega
   have hcw:(n:Int) - 4 = ((n - 4:Nat):Int):=by omega
   have hcw2:IntKind.i64.wrap ((n:Int) - 4) = ((n - 4:Nat):Int):=by rw [hcw];exact IntWalk.i64_in _ (by omega)
   obtain ⟨q,hq⟩:∃ q,n - 4 = q:=⟨_,rfl⟩
   have hq2:q <= 251:=by omega
   rw [hq] at hcw hcw2
   have hq3:(q:Int) % 256 = (q:Int):=by omega
   have hcut:∀ A,(Instr.sliceAt 22 (.slice (some ⟨g,0,none⟩) n c2) none (some (.int .i64 4)) (some (.int .i64 4))).run Tryz.prog A = .ok (.slice (some ⟨g,0,none⟩) 4 4) A:=fun A=>cut3N (some ⟨g,0,none⟩) n c2 4 (by have:=HO2.out.caps.1;simp at this;omega) A
   have hb3:=Zar w2 (.cells #[.int .u8 (q:Nat)] 5)
   have hr3:RowN .u8 (w2.alloc (.cells #[.int .u8 (q:Nat)] 5)) (some ⟨g,0,none⟩) 4 (List.replicate 4 cc):=by
    have h:=Zbi (HO2.out.row.below hb3) 4
    rw [List.take_replicate,Nat.min_eq_left h4] at h
    exact Zck h (by simp) (by simp) (by omega)
   have hr4:RowN .u8 (w2.alloc (.cells #[.int .u8 (q:Nat)] 5)) (some ⟨w2.heap.size,0,none⟩) 1 [q]:=(OwnN.lit (k:=.u8) 5 w2 0 [q] #[.int .u8 (q:Nat)] w2.heap.size rfl rfl (Nat.zero_le _) (by simp [maxLen])).row
   obtain ⟨pa,pc,w5,ho5,hb5,happ⟩:=appGrow Zcr 22 hr3 (m:=1) rfl hr4 (by simp) (by simp) (by simp) (by simp) (by simp)
   simp only [List.length_replicate,Nat.reduceAdd] at happ
   have HB5:=Zh ((HB2.out.trans (hb3.mono HB2.out.size)).trans (hb5.mono (HB2.out.trans (hb3.mono HB2.out.size)).size))
   have HPW:=Zh ho5.row
   clear hb3 hr3 hr4 ho5 hb5
   have HPKD:Hid (M20.pkd ((M20.pcs l)[i]'HIL.out) = List.replicate 4 cc ++ [q]):=by unfold Hid;rw [HPK.out];unfold M20.pkd;rw [if_pos h4,hq]
   have hpkl:(List.replicate 4 cc ++ [q]:List Nat).length = 5:=by simp
   have K1:=cell_of_one ((HB5.out.block _ (lt_of_block HC1.out)).trans HC1.out)
   have Z1:=free_of_one ((HB5.out.block _ (lt_of_block HC1.out)).trans HC1.out)
   have K0:=cell_of_one ((HB5.out.block _ (lt_of_block HI.out.c0)).trans HI.out.c0)
   have K2:=cell_of_one ((HB5.out.block _ (lt_of_block HI.out.c2)).trans HI.out.c2)
   have Z2:=free_of_one ((HB5.out.block _ (lt_of_block HI.out.c2)).trans HI.out.c2)
   have HO5:=HOWN.out.below HB5.out
   have HFN:Hid (M20.outP (M20.pcs l) i = M20.outP (M20.pcs l) i):=rfl
   have hsum:IntKind.i64.wrap (((M20.outP (M20.pcs l) i).length:Int) + 5) = (((M20.outP (M20.pcs l) i).length + 5:Nat):Int):=by rw [IntWalk.i64_in _ (by omega)];omega
   have hsum2:((M20.outP (M20.pcs l) i).length:Int) + 5 = (((M20.outP (M20.pcs l) i).length + 5:Nat):Int):=by omega
   clear k0 k1 k2 z1 z2
   by_cases hf:room < (M20.outP (M20.pcs l) i).length + 5
   ·have HST:Hid (M20.fitN room (M20.pcs l) 0 = i):=by
     unfold Hid
     rcases Nat.lt_or_ge i (M20.fitN room (M20.pcs l) 0) with h | h
     ·have:=M20.Zdf room (M20.pcs l) 0 i HIL.out h
      rw [HPKD.out,hpkl] at this
      omega
     ·omega
    have HI5:Hid (PackI w p room l i w5):=HI.out.below5 HB5.out (by have:=HB5.out.size;omega)
    obtain ⟨ol,hol2⟩:∃ ol,(M20.outP (M20.pcs l) i).length = ol:=⟨_,rfl⟩
    rw [hol2] at K1 hsum hsum2 hf
    obtain ⟨sm,hsm⟩:∃ sm,ol + 5 = sm:=⟨_,rfl⟩
    rw [hsm] at hsum hsum2 hf
    have tf:decide ((room:Int) < (sm:Int)) = true:=by simp;omega
    have tf':decide (room < sm) = true:=by simp;omega
    clear hsm hfit
    gi_wp2_with (gi_at_builtin;refine appRunIn rfl (.tmp 22) (.tmp 27) rfl rfl rfl happ ?_;clear happ)
    exact ⟨keepsOnlyP (T:=fun _=>False) ((Only.refl _ _).below HB5.out) (fun _ _ h _=>h.elim),rfl,i,rfl,HST.out,HI5.out⟩
   ·have HFT:Hid (i < M20.fitN room (M20.pcs l) 0):=by
     unfold Hid
     rcases Nat.lt_or_ge i (M20.fitN room (M20.pcs l) 0) with h | h
     ·exact h
     ·have he:M20.fitN room (M20.pcs l) 0 = i:=Nat.le_antisymm h hfit
      have h2:=M20.Zbt room (M20.pcs l) 0 (by rw [he];exact HIL.out)
      simp only [he,HPKD.out,hpkl] at h2
      omega
    obtain ⟨a6,c6,w6,ho6,hb6,hg6,happ6⟩:=appEq Zcr 22 HO5 rfl (m:=5) (c:=pc) hpkl.symm HPW.out (by omega) (by omega) (by have:=HB5.out.size;omega)
    have HNX:=Zh (Zcb hp.out HI.out HC1.out HOWN.out HB5.out ho6 hg6 (by omega) HIL.out HPKD.out HFT.out (fun b=>b = p + 3 \/ s0.D b) (fun b hb=>by
     rcases hb with rfl | hb
     ·omega
     ·have:=HDL.out b hb;omega) n HN.out)
    rw [hpkl] at HNX
    have h1w:w6.heap[p + 1]? = some (.cells #[.slice a1 (M20.outP (M20.pcs l) i).length c1] 22 (0,0)):=Zdw HC1.out HOWN.out HB5.out hg6
    have h2w:w6.heap[p + 2]? = some (.cells #[.int .i64 (M20.usedL l i:Nat)] 3 (0,0)):=Zdx HI.out.c2 HOWN.out HB5.out hg6
    have hz2':=free_of_one h1w
    have hk2':=cell_of_one h1w
    have hkk:=cell_of_one h2w
    have hzz:=free_of_one h2w
    obtain ⟨ol,hol2⟩:∃ ol,(M20.outP (M20.pcs l) i).length = ol:=⟨_,rfl⟩
    rw [hol2] at K1 hsum hsum2 hf happ6 hk2' HNX
    obtain ⟨sm,hsm⟩:∃ sm,ol + 5 = sm:=⟨_,rfl⟩
    rw [hsm] at hsum hsum2 hf happ6 HNX
    obtain ⟨ul,hul2⟩:∃ ul,M20.usedL l i = ul:=⟨_,rfl⟩
    rw [hul2] at K2 hkk HNX hul
    have hus:IntKind.i64.wrap ((ul:Int) + (n:Int)) = ((ul + n:Nat):Int):=by rw [IntWalk.i64_in _ (by omega)];omega
    have tf:decide ((room:Int) < (sm:Int)) = false:=by simp;omega
    have tf':decide (room < sm) = false:=by simp;omega
    clear hsm hfit ho6 hb6 hg6 h1w h2w hul2 K2 Z2 Z1
    gi_wp2_with (first | (gi_at_builtin;refine appRunIn rfl (.tmp 22) (.tmp 27) rfl rfl rfl happ ?_;clear happ) | (gi_at_builtin;refine appRunIn rfl (.tmp 36) (.tmp 37) rfl rfl rfl happ6 ?_;clear happ6))
    rw [show ((ul + n:Nat):Int) = (ul:Int) + (n:Int) by omega] at HNX
    rw [hz]
    exact HNX.out
  ·have t4:decide ((4:Int) <= (n:Int)) = false:=by simp;omega
   have t4':decide (4 <= n) = false:=by simp;omega
   obtain ⟨w5,hw5⟩:∃ w5,w5 = w2:=⟨_,rfl⟩
   subst hw5
   obtain ⟨pa,hpa⟩:∃ pa,pa = some (⟨g,0,none⟩:Addr):=⟨_,rfl⟩
   obtain ⟨pc,hpc⟩:∃ pc,pc = c2:=⟨_,rfl⟩
   subst hpc
   have HPW:=Zh HO2.out.row
   have HB5:=HB2
   have HPKD:Hid (M20.pkd ((M20.pcs l)[i]'HIL.out) = List.replicate n cc):=by unfold Hid;rw [HPK.out];unfold M20.pkd;rw [if_neg h4]
   have hpkl:(List.replicate n cc:List Nat).length = n:=by simp
   have K1:=cell_of_one ((HB5.out.block _ (lt_of_block HC1.out)).trans HC1.out)
   have Z1:=free_of_one ((HB5.out.block _ (lt_of_block HC1.out)).trans HC1.out)
   have K0:=cell_of_one ((HB5.out.block _ (lt_of_block HI.out.c0)).trans HI.out.c0)
   have K2:=cell_of_one ((HB5.out.block _ (lt_of_block HI.out.c2)).trans HI.out.c2)
   have Z2:=free_of_one ((HB5.out.block _ (lt_of_block HI.out.c2)).trans HI.out.c2)
   have HO5:=HOWN.out.below HB5.out
   have HFN:Hid (M20.outP (M20.pcs l) i = M20.outP (M20.pcs l) i):=rfl
   have hsum:IntKind.i64.wrap (((M20.outP (M20.pcs l) i).length:Int) + (n:Int)) = (((M20.outP (M20.pcs l) i).length + n:Nat):Int):=by rw [IntWalk.i64_in _ (by omega)];omega
   have hsum2:((M20.outP (M20.pcs l) i).length:Int) + (n:Int) = (((M20.outP (M20.pcs l) i).length + n:Nat):Int):=by omega
   clear k0 k1 k2 z1 z2
   by_cases hf:room < (M20.outP (M20.pcs l) i).length + n
   ·have HST:Hid (M20.fitN room (M20.pcs l) 0 = i):=by
     unfold Hid
     rcases Nat.lt_or_ge i (M20.fitN room (M20.pcs l) 0) with h | h
     ·have:=M20.Zdf room (M20.pcs l) 0 i HIL.out h
      rw [HPKD.out,hpkl] at this
      omega
     ·omega
    have HI5:Hid (PackI w p room l i w5):=HI.out.below5 HB5.out (by have:=HB5.out.size;omega)
    obtain ⟨ol,hol2⟩:∃ ol,(M20.outP (M20.pcs l) i).length = ol:=⟨_,rfl⟩
    rw [hol2] at K1 hsum hsum2 hf
    obtain ⟨sm,hsm⟩:∃ sm,ol + n = sm:=⟨_,rfl⟩
    rw [hsm] at hsum hsum2 hf
    have tf:decide ((room:Int) < (sm:Int)) = true:=by simp;omega
    have tf':decide (room < sm) = true:=by simp;omega
    clear hsm hfit
    gi_wp2_with fail
    exact ⟨keepsOnlyP (T:=fun _=>False) ((Only.refl _ _).below HB5.out) (fun _ _ h _=>h.elim),rfl,i,rfl,HST.out,HI5.out⟩
   ·have HFT:Hid (i < M20.fitN room (M20.pcs l) 0):=by
     unfold Hid
     rcases Nat.lt_or_ge i (M20.fitN room (M20.pcs l) 0) with h | h
     ·exact h
     ·have he:M20.fitN room (M20.pcs l) 0 = i:=Nat.le_antisymm h hfit
      have h2:=M20.Zbt room (M20.pcs l) 0 (by rw [he];exact HIL.out)
      simp only [he,HPKD.out,hpkl] at h2
      omega
    obtain ⟨a6,c6,w6,ho6,hb6,hg6,happ6⟩:=appEq Zcr 22 HO5 rfl (m:=n) (c:=pc) hpkl.symm HPW.out (by omega) (by omega) (by have:=HB5.out.size;omega)
    have HNX:=Zh (Zcb hp.out HI.out HC1.out HOWN.out HB5.out ho6 hg6 (by omega) HIL.out HPKD.out HFT.out (fun b=>b = p + 3 \/ s0.D b) (fun b hb=>by
     rcases hb with rfl | hb
     ·omega
     ·have:=HDL.out b hb;omega) n HN.out)
    rw [hpkl] at HNX
    have h1w:w6.heap[p + 1]? = some (.cells #[.slice a1 (M20.outP (M20.pcs l) i).length c1] 22 (0,0)):=Zdw HC1.out HOWN.out HB5.out hg6
    have h2w:w6.heap[p + 2]? = some (.cells #[.int .i64 (M20.usedL l i:Nat)] 3 (0,0)):=Zdx HI.out.c2 HOWN.out HB5.out hg6
    have hz2':=free_of_one h1w
    have hk2':=cell_of_one h1w
    have hkk:=cell_of_one h2w
    have hzz:=free_of_one h2w
    obtain ⟨ol,hol2⟩:∃ ol,(M20.outP (M20.pcs l) i).length = ol:=⟨_,rfl⟩
    rw [hol2] at K1 hsum hsum2 hf happ6 hk2' HNX
    obtain ⟨sm,hsm⟩:∃ sm,ol + n = sm:=⟨_,rfl⟩
    rw [hsm] at hsum hsum2 hf happ6 HNX
    obtain ⟨ul,hul2⟩:∃ ul,M20.usedL l i = ul:=⟨_,rfl⟩
    rw [hul2] at K2 hkk HNX hul
    have hus:IntKind.i64.wrap ((ul:Int) + (n:Int)) = ((ul + n:Nat):Int):=by rw [IntWalk.i64_in _ (by omega)];omega
    have tf:decide ((room:Int) < (sm:Int)) = false:=by simp;omega
    have tf':decide (room < sm) = false:=by simp;omega
    clear hsm hfit ho6 hb6 hg6 h1w h2w hul2 K2 Z2 Z1
    gi_wp2_with (gi_at_builtin;refine appRunIn rfl (.tmp 36) (.tmp 37) rfl rfl rfl happ6 ?_;clear happ6)
    rw [show ((ul + n:Nat):Int) = (ul:Int) + (n:Int) by omega] at HNX
    rw [hz]
    exact HNX.out
 case done =>
  rintro A hI hD
  have HFN:Hid (M20.fitN room (M20.pcs l) 0 = (M20.pcs l).length):=Nat.le_antisymm (M20.Zba _ _ _) hI.fit
  obtain ⟨a1,c1,hc1,hown⟩:=hI.c1
  have k1:=cell_of_one hc1
  have k2:=cell_of_one hI.c2
  have HI:=Zh hI
  have HOWN:=Zh hown
  clear hI hc1 hown hb0 hb1 hb2 hb3 hpy hr4 hbel
  gi_wp2
  gi_region
  gi_wp2
  refine ⟨by simp,.inl ⟨_,_,rfl,run_takeDeferred (w:=A.drew) hD,?_⟩⟩
  refine ⟨_,Zbh rfl _ _ _,?_⟩
  exact Zcx (A:=A.drew) (⟨HI.out.c0,HI.out.c1,HI.out.c2,HI.out.fit,HI.out.bel.trans (⟨rfl,rfl,rfl,Nat.le_refl _,fun _ _=>rfl⟩)⟩) hp.out HFN.out (show OwnN 5 .u8 A.drew (p + 4) a1 c1 _ from HOWN.out) (by rw [hz];exact Nat.le_refl _) hD rfl _
 case stop =>
  rintro c i A hi ⟨rfl,j,hj,hfit,hI⟩ hD
  obtain rfl:i = j:=by omega
  rw [hz] at hD
  have HFN:=Zh hfit
  obtain ⟨a1,c1,hc1,hown⟩:=hI.c1
  have k1:=cell_of_one hc1
  have k2:=cell_of_one hI.c2
  have HI:=Zh hI
  have HOWN:=Zh hown
  clear hI hc1 hown hb0 hb1 hb2 hb3 hpy hr4 hbel hfit
  gi_wp2
  gi_region
  gi_wp2
  refine ⟨by simp,.inl ⟨_,_,rfl,run_takeDeferred (w:=A.drew) hD,?_⟩⟩
  refine ⟨_,Zbh rfl _ _ _,?_⟩
  exact Zcx (A:=A.drew) (⟨HI.out.c0,HI.out.c1,HI.out.c2,HI.out.fit,HI.out.bel.trans (⟨rfl,rfl,rfl,Nat.le_refl _,fun _ _=>rfl⟩)⟩) hp.out HFN.out (show OwnN 5 .u8 A.drew (p + 4) a1 c1 _ from HOWN.out) (Nat.le_refl _) hD rfl _
end Go.Proofs.YtnkpnjnfddjfpaaGreat

namespace Go.Proofs.YtnkpnjnfddjfpaaGreat
open Go.RowKit
def Yields5 (P:Program) (gf:Nat) (lb:Array Value) (n:Nat) (V:Nat -> World -> Array Value -> Prop) (S T:Nat -> Prop) (Fin:Ending -> World -> Prop) (w:World):Prop :=
 ∀ (l:Nat) (J Jx:Nat -> World -> Prop) (W:World),SameOn S w W →
  (∀ i A B,J i A -> Only T A B -> J i B) -> (∀ i A B,Jx i A -> Only T A B -> Jx i B) →
  (∀ i A r,i < n -> J i A -> W.heap.size <= A.heap.size -> V i A r -> YieldAt Fence.wide 9 P l r A fun e B =>
   (e = .returned (.bool true) /\ J (i + 1) B /\ SameOn S A B) \/ (e = .returned (.bool false) /\ Jx (i + 1) B)) →
  J 0 W →
  CallsIn Fence.wide 9 P gf (#[.func (.yield l) #[] #[]] ++ lb) W fun e B=>(J n B /\ Fin e B) \/ (∃ i,i < n /\ Jx (i + 1) B /\ ∃ v,e = .returned v)
theorem Zbm {P:Program} {g:Operand} {ps:Array Tmp} {assign body:Code} {Q:Exit -> Act -> World -> Prop} {a:Act} {w:World}
  {gf:Nat} {lb:Array Value} (hg:a.eval g = .func (.func gf) #[] lb) (eg:∀ args w,(callFunc gf args).run P w = .ok (.enter gf args) w)
  {n:Nat} {V:Nat -> World -> Array Value -> Prop} {S T:Nat -> Prop} {Fin:Ending -> World -> Prop} {w0:World} (hy:Yields5 P gf lb n V S T Fin w0) (hsame:SameOn S w0 w) (hS:∀ b,S b -> b < w.heap.size) (hT:∀ b,T b -> b < w.heap.size)
  (hps:∀ i A r,V i A r -> r.size = ps.size)
  (I:Nat -> World -> Prop) (Ix:Code -> Nat -> World -> Prop)
  (hI:∀ i A B,I i A -> Only T A B -> I i B) (hIp:∀ i A l o o',I i A -> w.heap.size <= l -> A.heap[l]? = some o -> o.isCells = false -> I i (A.putObj l o'))
  (hX:∀ c i A B,Ix c i A -> Only T A B -> Ix c i B) (hXp:∀ c i A l o o',Ix c i A -> w.heap.size <= l -> A.heap[l]? = some o -> o.isCells = false -> Ix c i (A.putObj l o'))
  (hFp:∀ e A l o o',Fin e A -> w.heap.size <= l -> A.heap[l]? = some o -> o.isCells = false -> Fin e (A.putObj l o')) (hFo:∀ A,¬ Fin .outgrown A)
  (h0:I 0 w) (Ax:Nat -> Act -> World -> Prop)
  (hAp:∀ i a' A l o o',Ax i a' A -> w.heap.size <= l -> A.heap[l]? = some o -> o.isCells = false -> Ax i a' (A.putObj l o'))
  (hassign:∀ (l i:Nat) (W:World) (r:Array Value) (K:Act -> World -> Prop),i < n -> w.heap.size + 2 <= W.heap.size -> I i W -> V i W r -> (∀ a' W',KeepsFrom w.heap.size W W' -> SameOn S W W' -> Ax i a' W' -> K a' W') →
   assign.wpIn (Fence.wide.inRound l) 9 P (Exit.then K (fun _ _ _=>False)) { tmps:=(ps.zip r).foldl (fun t (p,v)=>t.setIfInBounds p v) a.tmps,defers:=[] } W)
  (hbody:∀ (l i:Nat) (hi:i < n) (a':Act) (A:World),w.heap.size + 2 <= A.heap.size -> Ax i a' A -> body.wpIn (Fence.wide.inRound l) 9 P (roundEnds w.heap.size S I Ix i A) a' A)
  (hdone:∀ (v:Value) (A:World),I n A -> Fin (.returned v) A -> A.heap[w.heap.size]? = some (.deferred (some [])) -> Q .normal { a with defers:={ target:=.collected w.heap.size,args:=#[] } :: a.defers } A)
  (hpanic:∀ (c:List PanicEntry) (A:World),I n A -> Fin (.panicked c) A -> A.heap[w.heap.size]? = some (.deferred (some [])) -> Q (.panic c) { a with defers:={ target:=.collected w.heap.size,args:=#[] } :: a.defers } A)
  (hstop:∀ (c:Code) (i:Nat) (A:World),i < n -> Ix c (i + 1) A -> A.heap[w.heap.size]? = some (.deferred (some [])) -> c.wpIn Fence.wide 9 P Q { a with defers:={ target:=.collected w.heap.size,args:=#[] } :: a.defers } A) :
  (Code.rangeFunc g ps assign body).wpIn Fence.wide 9 P Q a w:=by
 refine wpIn_rangeFunc ?_
 intro fn hfn
 obtain ⟨rec,hrec⟩:∃ rec:LoopState -> Option Code -> Loop,rec = fun st pe=>{ state:=st,pending:=pe,fn,tmps:=a.tmps,params:=ps,assign,body,defers:=w.heap.size }:=⟨_,rfl⟩
 obtain ⟨W1,hW1⟩:∃ W1,(w.alloc (.deferred (some []))).alloc (.loop (rec .ready none)) = W1:=⟨_,rfl⟩
 have hs1:W1.heap.size = w.heap.size + 2:=by rw [<- hW1];simp
 have hL1:W1.heap[w.heap.size + 1]? = some (.loop (rec .ready none)):=by
  rw [<- hW1];have:=World.alloc_heap_new (w.alloc (.deferred (some []))) (.loop (rec .ready none));rwa [World.size_alloc] at this
 have hK1:W1.heap[w.heap.size]? = some (.deferred (some [])):=by
  rw [<- hW1];exact (Below.heap_alloc _ _ _ (by simp)).trans (World.alloc_heap_new w _)
 have hI1:I 0 W1:=hI 0 w W1 h0 (by rw [<- hW1];exact ((Only.refl T w).alloc _).alloc _)
 have hsame1:SameOn S w0 W1:=⟨by have:=hsame.size;omega,fun b hb=>by
  rw [<- hW1,Below.heap_alloc _ _ _ (by have:=hS b hb;simp;omega),Below.heap_alloc _ _ _ (hS b hb)]
  exact hsame.same b hb⟩
 refine ⟨w.heap.size + 1,[{ target:=.collected w.heap.size,args:=#[] }],W1,{ target:=.fn (.func gf) lb,args:=#[.func (.yield (w.heap.size + 1)) #[] #[]] },W1,gf,
  #[.func (.yield (w.heap.size + 1)) #[] #[]] ++ lb,W1,?_,?_,?_,?_,fun h=>by simp [Fence.wide] at h,?_⟩
 ·rw [<- hW1,hrec];exact run_enterLoop_outer _ _ _ _ _
 ·simp only [resolve,hg]
  simp [go_sem]
 ·intro f' hf';trivial
 ·simp [invoke,go_sem,eg]
 ·have hyy:=hy (w.heap.size + 1)
   (fun i A=>I i A /\ w.heap.size + 2 <= A.heap.size /\ A.heap[w.heap.size + 1]? = some (.loop (rec .ready none)) /\ A.heap[w.heap.size]? = some (.deferred (some [])))
   (fun i A=>∃ c,Ix c i A /\ A.heap[w.heap.size + 1]? = some (.loop (rec .done (some c))) /\ A.heap[w.heap.size]? = some (.deferred (some [])))
   W1 hsame1
   (fun i A B h ho=>⟨hI i A B h.1 ho,Nat.le_trans h.2.1 ho.size,Zaa h.2.2.1 ho (fun t=>by have:=hT _ t;omega),Zaa h.2.2.2 ho (fun t=>by have:=hT _ t;omega)⟩)
   (fun i A B h ho=>by
    obtain ⟨c,hc,hl,hk⟩:=h
    exact ⟨c,hX c i A B hc ho,Zaa hl ho (fun t=>by have:=hT _ t;omega),Zaa hk ho (fun t=>by have:=hT _ t;omega)⟩)
   ?_ ⟨hI1,by omega,hL1,hK1⟩
  ·refine (callsIn_wide.2 (callsIn_wide.1 hyy)).mono ?_
   rintro e W2 (⟨⟨hi,_,hl,hk⟩,hfin⟩ | ⟨i,hlt,⟨c,hi,hl,hk⟩,v,rfl⟩)
   ·cases e with
    | returned v=>exact ⟨none,_,by have:=run_endLoop (P:=P) hl (by rw [hrec];simp);rw [hrec] at this;exact this,hdone v _ (hIp _ _ _ _ _ hi (by omega) hl rfl) (hFp _ _ _ _ _ hfin (by omega) hl rfl) ((World.putObj_heap_other (by omega)).trans hk)⟩
    | panicked ch=>exact hpanic ch W2 hi hfin hk
    | outgrown=>exact absurd hfin (hFo W2)
   ·exact ⟨some c,_,by have:=run_endLoop (P:=P) hl (by rw [hrec];simp);rw [hrec] at this;exact this,hstop c i _ hlt (hXp _ _ _ _ _ _ hi (by omega) hl rfl) ((World.putObj_heap_other (by omega)).trans hk)⟩
  ·rintro i W r hi ⟨hii,hsz,hl,hk⟩ _ hv
   have hy':=run_yield (P:=P) (args:=r) hl (by rw [hrec];exact hps _ _ _ hv)
   rw [hrec] at hy'
   refine Zcf (n:=9) ⟨fn,_,assign,body,hy',roundIn_of_wpIn hfn (hassign _ i W r _ hi hsz hii hv fun a' W' hk0 hs0 hax=>⟨_,run_beginRound (hk0.same _ _ (by omega) hl rfl) (by rw [hrec]),?_⟩)⟩
   replace hl:=hk0.same _ _ (by omega) hl rfl
   replace hk:=hk0.same _ _ (by omega) hk rfl
   have hlt:w.heap.size + 1 < W'.heap.size:=by have:=hk0.size;omega
   have hl2:(W'.putObj (w.heap.size + 1) (.loop { rec .ready none with state:=.busy })).heap[w.heap.size + 1]? = some (.loop { rec .ready none with state:=.busy }):=World.putObj_heap_same hlt
   have hk2:(W'.putObj (w.heap.size + 1) (.loop { rec .ready none with state:=.busy })).heap[w.heap.size]? = some (.deferred (some [])):=(World.putObj_heap_other (by omega)).trans hk
   have hS2:∀ (A:World) (o:Obj),SameOn S A (A.putObj (w.heap.size + 1) o):=fun A o=>⟨by rw [World.putObj_size];exact Nat.le_refl _,fun b hb=>World.putObj_heap_other (by have:=hS b hb;omega)⟩
   refine wpIn_mono (hbody _ i hi _ _ (by rw [World.putObj_size];omega) (hAp _ _ _ _ _ _ hax (by omega) hl rfl)) ?_
   have fin:∀ (jump:Option Code) (W3:World),KeepsFrom w.heap.size (W'.putObj (w.heap.size + 1) (.loop { rec .ready none with state:=.busy })) W3 →
     (Instr.endRound (w.heap.size + 1) jump).run P W3 = .ok (.bool jump.isNone) (W3.putObj (w.heap.size + 1) (.loop (rec (if jump.isNone then .ready else .done) jump))) ∧
     W3.heap[w.heap.size + 1]? = some (.loop { rec .ready none with state:=.busy }) ∧
     (W3.putObj (w.heap.size + 1) (.loop (rec (if jump.isNone then .ready else .done) jump))).heap[w.heap.size + 1]? = some (.loop (rec (if jump.isNone then .ready else .done) jump)) ∧
     (W3.putObj (w.heap.size + 1) (.loop (rec (if jump.isNone then .ready else .done) jump))).heap[w.heap.size]? = some (.deferred (some [])) /\ w.heap.size + 2 <= (W3.putObj (w.heap.size + 1) (.loop (rec (if jump.isNone then .ready else .done) jump))).heap.size:=fun jump W3 hk3=>by
    have hl3:=hk3.same _ _ (by omega) hl2 rfl
    have:=run_endRound (P:=P) jump hl3
    rw [hrec] at this ⊢
    exact ⟨this,by rw [hrec] at hl3;exact hl3,World.putObj_heap_same (Array.getElem?_eq_some_iff.1 hl3).1,(World.putObj_heap_other (by omega)).trans (hk3.same _ _ (by omega) hk2 rfl),by rw [World.putObj_size];have:=(Array.getElem?_eq_some_iff.1 hl3).1;omega⟩
   rintro e a3 W3 hp
   cases e with
   | normal =>
    obtain ⟨hk3,hkp3,hi3⟩:=hp
    obtain ⟨hr,hl3,hl4,hk4,hz4⟩:=fin none W3 hk3
    exact ⟨_,_,hr,.inl ⟨rfl,⟨hIp _ _ _ _ _ hi3 (by omega) hl3 rfl,hz4,hl4,hk4⟩,((hs0.trans (hS2 _ _)).trans hkp3).trans (hS2 _ _)⟩⟩
   | ret =>
    obtain ⟨hk3,hi3⟩:=hp
    obtain ⟨hr,hl3,hl4,hk4,_⟩:=fin (some .ret) W3 hk3
    exact ⟨_,_,hr,.inr ⟨rfl,.ret,hXp _ _ _ _ _ _ hi3 (by omega) hl3 rfl,hl4,hk4⟩⟩
   | exit id =>
    obtain ⟨hk3,hi3⟩:=hp
    obtain ⟨hr,hl3,hl4,hk4,_⟩:=fin (some (.exit id)) W3 hk3
    exact ⟨_,_,hr,.inr ⟨rfl,.exit id,hXp _ _ _ _ _ _ hi3 (by omega) hl3 rfl,hl4,hk4⟩⟩
   | goto t =>
    obtain ⟨hk3,hi3⟩:=hp
    obtain ⟨hr,hl3,hl4,hk4,_⟩:=fin (some (.goto t)) W3 hk3
    exact ⟨_,_,hr,.inr ⟨rfl,.goto t,hXp _ _ _ _ _ _ hi3 (by omega) hl3 rfl,hl4,hk4⟩⟩
   | panic ch=>exact hp.elim
   | outgrown=>exact hp.elim
end Go.Proofs.YtnkpnjnfddjfpaaGreat

namespace Go.Proofs.YtnkpnjnfddjfpaaGreat
open Go.RowKit
theorem Zcg (w:World) (a:Option Addr) (n c:Nat) (lv:Int) :
  Calls Tryz.prog 31 #[.slice a n c,.int .i64 lv] w fun e w' =>
   e = .returned (.func (.func 59) #[] #[.pointer (some ⟨w.heap.size,0,none⟩),.pointer (some ⟨w.heap.size + 1,0,none⟩)]) /\ w' = (w.alloc (.cells #[.slice a n c] 22)).alloc (.cells #[.int .i64 lv] 3):=by
 have hmf:∀ (fn:Fn) (first cap:Array Value) (w:World),(Instr.makeFunc fn first cap).run Tryz.prog w = .ok (.func fn first cap) w:=fun _ _ _ _=>rfl
 go_enter Tryz.func31,Tryz.ntmps31
 go_wp2
 go_ret
 exact ⟨by simp,rfl⟩
def partF28 (room:Nat) (l:List Nat):Nat:=(M20.packG room l).2
theorem Zak (room:Nat) (l:List Nat):partF28 room l <= l.length:=M20.Zdv room l
def bzV (s0:Cst) (room:Nat) (i:Nat) (A:World) (r:Array Value):Prop :=
 ∃ g c,r = #[.slice (s0.ath (partF28 room) i).a (partF28 room (s0.ath (partF28 room) i).l) (partF28 room (s0.ath (partF28 room) i).l),.slice g (M20.packG room (s0.ath (partF28 room) i).l).1.length c] /\ RowN .u8 A g c (M20.packG room (s0.ath (partF28 room) i).l).1
theorem Cst.ath_mem {f:List Nat -> Nat} {s:Cst}:∀ i x,x ∈ (s.ath f i).l -> x ∈ s.l
 | 0,x=>fun h=>h
 | i + 1,x=>fun h=>Cst.ath_mem i x (List.mem_of_mem_drop h)
set_option maxRecDepth 100000 in
set_option maxHeartbeats 3200000 in
theorem Zas (s0:Cst) (w:World) (B B2 lv:Nat) (h:RowN .u8 w s0.a s0.cap s0.l) (h256:∀ x ∈ s0.l,x < 256) (hl:s0.l.length <= 1000000) (hlv1:1 <= lv) (hlv9:lv <= 9) (hne:B ≠ B2)
  (hB:w.heap[B]? = some (.cells #[.slice s0.a s0.l.length s0.cap] 22 (0,0))) (hB2:w.heap[B2]? = some (.cells #[.int .i64 (lv:Nat)] 3 (0,0))) (hD:∀ b,s0.D b -> b ≠ B) :
  Yields5 Tryz.prog 59 #[.pointer (some ⟨B,0,none⟩),.pointer (some ⟨B2,0,none⟩)] (M20.ends (lv * 100000 - 19) s0.l).length (bzV s0 (lv * 100000 - 19)) (fun b=>b = B \/ b = B2 \/ s0.D b) (fun b=>b = B) (fun e _=>∃ v,e = .returned v) w:=by
 intro y J Jx W hsame hJ hJx hY h0
 obtain ⟨room,hroom⟩:∃ room,lv * 100000 - 19 = room:=⟨_,rfl⟩
 rw [hroom] at hY ⊢
 have h5:5 <= room:=by omega
 have hrm:room <= 1000000:=by omega
 obtain ⟨rm,hrm1⟩:∃ rm,lv * 100000 = rm:=⟨_,rfl⟩
 have hr1:IntKind.i64.wrap ((lv:Int) * 100000) = (rm:Int):=by rw [show (lv:Int) * 100000 = (rm:Int) by omega];exact IntWalk.i64_in _ (by omega)
 have hr2:IntKind.i64.wrap ((rm:Int) - 19) = (room:Int):=by rw [show (rm:Int) - 19 = (room:Int) by omega];exact IntWalk.i64_in _ (by omega)
 have HY:=Zh hY
 have HJ:=Zh hJ
 have h1:=(hsame.same B (.inl rfl)).trans hB
 have h2:=(hsame.same B2 (.inr (.inl rfl))).trans hB2
 have HD:=Zh hD
 have HR:=Zh h
 have HL:=Zh h256
 have HNE:=Zh hne
 clear hJ hJx hY hD h hroom hrm1 h256 hne
 refine callsIn_of_wp Tryz.func59 rfl trivial ?_ rfl
 simp only [Tryz.ntmps59,List.size_toArray,List.length_cons,List.length_nil,Nat.reduceAdd,Nat.reduceSub,Array.replicate_succ,Array.replicate_zero,List.push_toArray,List.append_toArray,List.nil_append,List.cons_append]
 gi_wp2
 gi_loopw [] (fun A=>∃ i:Nat,i <= (M20.ends room s0.l).length /\ A.heap[B]? = some (.cells #[.slice (s0.ath (partF28 room) i).a (s0.ath (partF28 room) i).l.length (s0.ath (partF28 room) i).cap] 22 (0,0)) /\ A.heap[B2]? = some (.cells #[.int .i64 (lv:Nat)] 3 (0,0)) /\ SameOn s0.D w A /\ Hid (W.heap.size <= A.heap.size) /\ J i A) (fun A=>match A.cell? ⟨B,0,none⟩ with | some (.slice _ n _)=>n | _=>0)
 case atStart=>exact ⟨0,Nat.zero_le _,h1,h2,⟨hsame.size,fun b hb=>hsame.same b (.inr (.inr hb))⟩,Zh (Nat.le_refl _),h0⟩
 case round =>
  clear hsame h1 h2 h0
  obtain ⟨i,hi,h1,h2,hsa,HSZ,hJA⟩:=hrel
  have HRW:Hid (RowN .u8 wr (s0.ath (partF28 room) i).a (s0.ath (partF28 room) i).cap (s0.ath (partF28 room) i).l):=(Cst.ath_row (Zak room) HR.out i).sameC hsa (fun b hb=>Cst.ath_D hb)
  have hlen:=Cst.ath_len (f:=partF28 room) s0 i
  have HLF:=Zh (Cst.ath_part room s0 i)
  have HMEM:Hid (∀ x ∈ (s0.ath (partF28 room) i).l,x < 256):=fun x hx=>HL.out x (Cst.ath_mem i x hx)
  have HNX:Hid (s0.ath (partF28 room) (i + 1) = ⟨cutA (s0.ath (partF28 room) i).a (s0.ath (partF28 room) i).cap (partF28 room (s0.ath (partF28 room) i).l),(s0.ath (partF28 room) i).cap - partF28 room (s0.ath (partF28 room) i).l,(s0.ath (partF28 room) i).l.drop (partF28 room (s0.ath (partF28 room) i).l)⟩):=rfl
  have HYI:Hid (∀ A g c,i < (M20.ends room s0.l).length -> J i A -> W.heap.size <= A.heap.size -> RowN .u8 A g c (M20.packG room (s0.ath (partF28 room) i).l).1 -> YieldAt Fence.wide 9 Tryz.prog y #[.slice (s0.ath (partF28 room) i).a (partF28 room (s0.ath (partF28 room) i).l) (partF28 room (s0.ath (partF28 room) i).l),.slice g (M20.packG room (s0.ath (partF28 room) i).l).1.length c] A fun e B'=>(e = .returned (.bool true) /\ J (i + 1) B' /\ SameOn (fun b=>b = B \/ b = B2 \/ s0.D b) A B') \/ (e = .returned (.bool false) /\ Jx (i + 1) B')):=fun A g c h1 h2 h3 h4=>HY.out i A _ h1 h2 h3 ⟨g,c,rfl,h4⟩
  have HII:=Zh hi
  have HJA:=Zh hJA
  have HSA:=Zh hsa
  have H1:=Zh h1
  have H2:=Zh h2
  replace HLF:Hid ((s0.ath (partF28 room) i).l = M20.leftE room s0.l i):=HLF
  clear hi hsa hJA
  generalize s0.ath (partF28 room) i = s at *
  obtain ⟨a,cap,l⟩:=s
  simp only at HRW hlen HLF HNX HYI H1 h1 HMEM
  have k1:=cell_of_one h1
  have z1:=free_of_one h1
  have k2:=cell_of_one h2
  clear h1 h2
  by_cases hln:l = []
  ·subst hln
   simp only [List.length_nil] at k1
   have HEND:Hid (i = (M20.ends room s0.l).length):=by
    unfold Hid
    rcases Nat.lt_or_ge i (M20.ends room s0.l).length with h | h
    ·exact absurd HLF.out.symm (M20.Zbf h5 h)
    ·exact Nat.le_antisymm HII.out h
   gi_wp2
   go_end0
   exact .inl ⟨(by rw [<- HEND.out];exact HJA.out),⟨_,rfl⟩⟩
  ·have hpos:=List.length_pos_iff.2 hln
   have HLT:Hid (i < (M20.ends room s0.l).length):=by
    unfold Hid
    rcases Nat.lt_or_ge i (M20.ends room s0.l).length with h | h
    ·exact h
    ·have h2:i = (M20.ends room s0.l).length:=Nat.le_antisymm HII.out h
     have:=HLF.out
     rw [h2,M20.Zcs h5] at this
     exact absurd this hln
   have n1:1 <= partF28 room l:=M20.Zaq h5 hln
   have n3:=Zak room l
   have hcapl:=HRW.out.1
   have hll:l.length <= 1000000:=by omega
   have HPK:=Zh (Zfn wr a cap l room HRW.out HMEM.out hll h5 hrm)
   change Hid (Calls _ _ _ _ fun e w'=>∃ g c,e = .returned (.tuple #[.slice g (M20.packG room l).1.length c,.int .i64 (partF28 room l:Nat),.int .i64 0]) /\ OwnN 5 .u8 w' wr.heap.size g c (M20.packG room l).1 /\ Below wr.heap.size wr w') at HPK
   obtain ⟨N,hN⟩:∃ N,partF28 room l = N:=⟨_,rfl⟩
   rw [hN] at n1 n3 HNX HYI HPK
   obtain ⟨P,hP⟩:∃ P,(M20.packG room l).1 = P:=⟨_,rfl⟩
   rw [hP] at HYI HPK
   have tp:decide ((0:Int) < (l.length:Int)) = true:=by simp;omega
   clear hN hP hln
   gi_wp2_with fail
   refine ⟨trivial,?_⟩
   gi_at_call 60
   refine (callsIn_wide.2 HPK.out).mono ?_
   rintro e w3 ⟨g,c,rfl,ho3,hb3⟩
   have HH1:Hid (w3.heap[B]? = some (.cells #[.slice a l.length cap] 22 (0,0))):=(hb3.block _ (lt_of_block H1.out)).trans H1.out
   have HH2:Hid (w3.heap[B2]? = some (.cells #[.int .i64 (lv:Nat)] 3 (0,0))):=(hb3.block _ (lt_of_block H2.out)).trans H2.out
   have HSZ3:Hid (W.heap.size <= w3.heap.size):=Nat.le_trans HSZ.out hb3.size
   obtain ⟨fn,tmps,assign,body,hy,hR⟩:=HYI.out w3 g c HLT.out (HJ.out _ _ _ HJA.out ((Only.refl _ _).below hb3)) HSZ3.out ho3.row
   have HRR:=Zh hR
   have hcut:∀ A,(Instr.sliceAt 22 (.slice a l.length cap) none (some (.int .i64 (N:Nat))) (some (.int .i64 (N:Nat)))).run Tryz.prog A = .ok (.slice a N N) A:=fun A=>cut3N _ _ _ _ (by omega) A
   have HSA3:Hid (SameOn s0.D w w3):=HSA.out.trans (Only.sameOn (T:=fun _=>False) ((Only.refl _ _).below hb3) (fun b hb=>⟨by have:=Cst.D_lt HR.out hb;have:=HSA.out.size;omega,id⟩))
   have k3:=cell_of_one HH1.out
   clear hR ho3 hb3 k1 z1 k2
   gi_wp2_with fail
   refine (Zce HRR.out).mono ?_
   rintro e W' (⟨rfl,hJ',hk'⟩ | ⟨rfl,hJx'⟩)
   ·have HH3:Hid (W'.heap[B]? = _):=Zh ((hk'.same B (.inl rfl)).trans HH1.out)
    have HH4:Hid (W'.heap[B2]? = _):=Zh ((hk'.same B2 (.inr (.inl rfl))).trans HH2.out)
    have HJ5:=Zh hJ'
    have HSA4:=Zh (HSA3.out.trans ⟨hk'.size,fun b hb=>hk'.same b (.inr (.inr hb))⟩)
    have HSZ5:Hid (W.heap.size <= W'.heap.size):=Nat.le_trans HSZ3.out hk'.size
    have k5:=cell_of_one HH3.out
    have z5:=free_of_one HH3.out
    have hcutH:∀ A,(Instr.sliceAt 22 (.slice a l.length cap) (some (.int .i64 (N:Nat))) none none).run Tryz.prog A = .ok (.slice (cutA a cap N) (l.length - N) (cap - N)) A:=fun A=>cutHiN _ _ _ _ (by omega) (by omega) A
    have k1:=cell_of_one H1.out
    clear hJ' hk' hy
    gi_wp2_with fail
    have q1:=one_setCell (u:=.slice (cutA a cap N) (l.length - N) (cap - N)) HH3.out
    go_roundw
    case rel =>
     refine ⟨i + 1,HLT.out,?_,?_,?_,?_,?_⟩
     ·rw [HNX.out];simp only [List.length_drop];exact q1
     ·exact (Below.heap_setCell _ _ _ _ (by show B2 ≠ B;exact fun h=>HNE.out h.symm)).trans HH4.out
     ·exact HSA4.out.trans (Only.sameOn (T:=fun b=>b = B) (Only.setCell (T:=fun b=>b = B) (p:=⟨B,0,none⟩) (Only.refl _ _) (.inl rfl) _) (fun b hb=>⟨by have:=Cst.D_lt HR.out hb;have:=HSA4.out.size;omega,HD.out b hb⟩))
     ·unfold Hid;rw [World.size_setCell];exact HSZ5.out
     ·exact HJ.out _ _ _ HJ5.out (Only.setCell (T:=fun b=>b = B) (p:=⟨B,0,none⟩) (Only.refl _ _) (.inl rfl) _)
    case measure=>rw [k1,cell_of_one q1];show l.length - N < l.length;omega
   ·gi_wp2_with fail
    refine bodyPost_ret (results_none rfl _ _ _) rfl ?_
    exact .inr ⟨_,HLT.out,hJx',_,rfl⟩
end Go.Proofs.YtnkpnjnfddjfpaaGreat

namespace Go.Proofs.YtnkpnjnfddjfpaaGreat.M27
def cnt (last:List Nat) (c:Nat):Nat -> Nat
 | 0=>0
 | i + 1=>cnt last c i + if last.getD i 0 = c then 1 else 0
def below (last:List Nat) (i:Nat):Nat -> Nat
 | 0=>0
 | c + 1=>below last i c + cnt last c i
end Go.Proofs.YtnkpnjnfddjfpaaGreat.M27

namespace Go.Proofs.YtnkpnjnfddjfpaaGreat
open Go.RowKit Go.Shelf M01 M02 M27 M10
theorem appSEq {P:Program} {T E:TypeId} {α:Type} {cc:Enc α} {z:Value} {bytes:Nat} (et:ElemS P T E cc z bytes) {w:World} {base:Nat} {a:Option Addr} {cap n m c lb:Nat} {l ys:List α} (ty:TypeId)
  (hown:OwnS cc E w base a cap l) (hnl:n = l.length) (hm:m = ys.length) (hy:RowS cc w (some ⟨lb,0,none⟩) c ys) (hn:n + m <= 9223372036854775807) (hbytes:(n + m) * bytes <= 140737488355328) (hbase:base <= w.heap.size) :
  ∃ a' cap' w',OwnS cc E w' base a' cap' (l ++ ys) /\ Only (fun b=>a = some ⟨b,0,none⟩) w w' /\ (∀ g,a' = some ⟨g,0,none⟩ -> a = some ⟨g,0,none⟩ \/ w.heap.size <= g) ∧
   (Builtin.append_ #[T,T] ty #[.slice a n cap,.slice (some ⟨lb,0,none⟩) m c]).run P w = .ok (.slice a' (n + m) cap') w':=by
 subst hnl hm
 obtain ⟨i,h2,h3,h4,h5⟩:=info_parts et.info
 have hcl:∀ j u,(flat cc ys)[j]? = some u -> w.cell? ((⟨lb,0,none⟩:Addr).add j) = some u:=by
  intro j u hu
  obtain ⟨_,_,rfl | ⟨b',off,he,_,hc⟩⟩:=hy
  ·simp [flat] at hu
  ·cases he
   have:=hc j u hu
   unfold Addr.add
   split
   ·simp_all
   ·exact this
 obtain ⟨v',w',hr,h6,h7,h8,h9⟩:=run_append_own_at (P:=P) w base T ty E i z cc.sz bytes et.und h2 h3 h4 h5 et.zs cc.pos _ l.length _ hown ⟨lb,0,none⟩ ys.length c (flat cc ys) (Zbu _)
  hcl (Zfj _) (by simpa [maxLen] using hn) hbytes hbase
 have hv:∃ a' cap',v' = .slice a' (l.length + ys.length) cap':=by
  rcases h6.2 with ⟨h9,h10⟩ | ⟨g,c',cur,h9,_⟩
  ·exact ⟨none,0,by rw [h9,h10]⟩
  ·exact ⟨_,_,h9⟩
 obtain ⟨a',cap',rfl⟩:=hv
 have hown':OwnS cc E w' base a' cap' (l ++ ys):=by
  unfold OwnS;rw [List.length_append,Zdg];exact h6
 refine ⟨a',cap',w',hown',⟨h7.os,h7.tape,h7.output,h7.size,fun b hb hT=>h7.block b hb (fun e=>?_)⟩,fun g hg=>?_,hr⟩
 ·rcases hown.form with ⟨rfl,_⟩ | ⟨g,rfl,_⟩
  ·cases e
  ·simp only [Value.ownBlock,Option.some.injEq] at e
   subst e
   exact hT rfl
 ·subst hg
  rcases h9 with h9 | h9
  ·left
   rcases hown.form with ⟨rfl,_,_⟩ | ⟨g',rfl,_⟩
   ·simp [Value.ownBlock] at h9
   ·simp [Value.ownBlock] at h9
    rw [h9]
  ·right
   simp [Value.ownBlock] at h9
   omega
theorem OwnS.only {α:Type} {c:Enc α} {E:TypeId} {T:Nat -> Prop} {A B:World} {base cap:Nat} {a:Option Addr} {l:List α} (h:OwnS c E A base a cap l) (ho:Only T A B) (hT:∀ b,base <= b -> ¬ T b):OwnS c E B base a cap l:=by
 unfold OwnS at *
 refine ⟨h.1,?_⟩
 rcases h.2 with h2 | ⟨g,cp,cur,h1,h2,h3,h4⟩
 ·exact .inl h2
 ·exact .inr ⟨g,cp,cur,h1,h2,Zaa h3 ho (hT g h2),h4⟩
section
variable {v0 v2 v : Value} {rp ul nn AS B0 n ee j : Nat} {ps lens : List Nat} {ca : Option Addr} {w w' : World}
end
end Go.Proofs.YtnkpnjnfddjfpaaGreat

namespace Go.Proofs.YtnkpnjnfddjfpaaGreat
open Go.RowKit M01 M04 M10
def hitF (l:List Nat) (x n j:Nat):Prop:=0 < l.getD j 0 /\ n <= l.getD j 0 /\ word l j / 2 ^ (l.getD j 0 - n) = x
instance (l:List Nat) (x n j:Nat):Decidable (hitF l x n j):=by unfold hitF;infer_instance
end Go.Proofs.YtnkpnjnfddjfpaaGreat
