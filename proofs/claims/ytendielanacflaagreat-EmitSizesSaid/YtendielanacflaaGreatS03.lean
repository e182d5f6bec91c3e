/- Contracts of the reference of layer 8. Plain mathematics of layer 4: the weight of a code, and its words. Elements of rows; what Words answers. Contracts of package kraft and of its reference: may, weight, Classify, Single. kraft.order hands out the symbols in order; kraft.Words answers the words. Plain mathematics of layer 1: bits of bytes, the least first. Contracts of package lsb: a reader. Plain mathematics of layer 6: what a table of words holds, symbol by symbol. A map from words (bits, how many) to numbers, as a function. Plain mathematics of layer 4: words of a code do not begin with one another; a row of 20 bits begins with one word, where the code is full. prefix.New: contract. -/
import Derived.Test.YtendielanacflaaGreatS02
import Derived.Test.YtendielanacflaaGreatS01
import Derived.Deep.RegionHeld3
import Derived.Lib.Hide
import Derived.Test.YtendielanacflaaGreatChecked
import Derived.BigQuiet
import Derived.Deep.QuietTactic
import Derived.Laws.Bits64b
import Derived.Maps.Own
import Derived.Maps.OwnOps
import Derived.Maps.OwnSet
import Derived.Maps.Views
import Derived.DeepKeys4
import Derived.WalkArith
import Derived.StillTailTactics
set_option linter.unusedVariables false
set_option linter.unusedSimpArgs false
namespace Go.Proofs.YtendielanacflaaGreat
open Go.RowKit Go.Shelf M08 M17
def encT:Enc Tok where
 sz:=3
 cells t:=[.int .i64 t.len,.int .i64 t.dist,.int .u8 (t.byte:Nat)]
 len _:=rfl
 one x u hu:=by
  simp only [List.mem_cons,List.not_mem_nil,or_false] at hu
  rcases hu with rfl | rfl | rfl <;> rfl
 pos:=by decide
def tokV (t:Tok):Value:=.agg #[.int .i64 t.len,.int .i64 t.dist,.int .u8 (t.byte:Nat)]
set_option maxHeartbeats 800000 in
theorem Zjm (w:World) (a:Option Addr) (c:Nat) (L:List Nat) (n:Nat) (h0:0 < L.length) (h100:L.length <= 100) (hup:Up L) (hn:L.getD 0 0 <= n) (hr:RowN .i64 w a c L) :
  Calls Tryz.prog 142 #[.slice a L.length c,.int .i64 n] w fun e w'=>e = .returned (.int .i64 (lastLe L n:Nat)) /\ w = w':=by
 have HU:=Zh hup
 have HN:=Zh hn
 clear hup hn
 go_enter Tryz.func142,Tryz.ntmps142
 go_wp2
 go_loop [5] (fun i=>∃ k:Nat,k < L.length /\ i = .int .i64 k /\ L.getD k 0 <= n) (fun i=>L.length - (intOf i).toNat)
 case atStart=>exact ⟨0,h0,rfl,HN.out⟩
 case round =>
  obtain ⟨k,hk,rfl,hkn⟩:=hrel
  by_cases hlt:k + 1 < L.length
  ·obtain ⟨b,off,rfl,_,hck⟩:=hr.at hlt
   have hg:L.getD (k + 1) 0 = L[k + 1]:=by simp [hlt]
   by_cases hx:L[k + 1] <= n
   ·have HX:Hid (L.getD (k + 1) 0 <= n):=by rw [Hid,hg];exact hx
    have bx:decide ((L[k + 1]:Int) <= (n:Int)) = true:=by simp;omega
    have bx2:decide (L[k + 1] <= n) = true:=by simp;omega
    clear hg hkn
    generalize L[k + 1] = x at *
    go_wp2
    go_round
    case rel=>exact ⟨k + 1,hlt,by go_num,HX.out⟩
    case measure=>simp [intOf];omega
   ·have hl:=Zdq HU.out n k hk hkn (fun _=>by rw [hg];omega)
    have HL:=Zh hl
    have bx:decide ((L[k + 1]:Int) <= (n:Int)) = false:=by simp;omega
    have bx2:decide (L[k + 1] <= n) = false:=by simp;omega
    clear hg hkn hl
    generalize L[k + 1] = x at *
    go_wp2
    go_ret
    exact ⟨Zav (by rw [HL.out]),rfl⟩
  ·have HL:=Zh (Zdq HU.out n k hk hkn (fun h=>absurd h hlt))
   clear hkn
   go_wp2
   go_ret
   exact ⟨Zav (by rw [HL.out]),rfl⟩
def lensI:List Int:=lensL.map fun (n:Nat)=>(n:Int)
def distI:List Int:=distL.map fun (n:Nat)=>(n:Int)
theorem Zqt (w:World) (B:Nat) (hB:B = w.heap.size):RowN .i64 (w.alloc (.cells (lensI.map (Value.int .i64)).toArray 3)) (some ⟨B,0,none⟩) 29 lensL:=Zey .i64 w lensL _ _ _ hB (by simp [lensI]) (by decide)
theorem Zqj (w:World) (B:Nat) (hB:B = w.heap.size):RowN .i64 (w.alloc (.cells (distI.map (Value.int .i64)).toArray 3)) (some ⟨B,0,none⟩) 30 distL:=Zey .i64 w distL _ _ _ hB (by simp [distI]) (by decide)
theorem Zew (w:World) :
  Calls Tryz.prog 143 #[] w fun e w'=>e = .returned (.slice (some ⟨w.heap.size,0,none⟩) 29 29) /\ w' = w.alloc (.cells (lensI.map (Value.int .i64)).toArray 3):=by
 go_enter Tryz.func143,Tryz.ntmps143
 go_wp2_with (refine wpList_buildFlat rfl 88 3 29 _ rfl .i64 lensI Tryz.underlying88 (by kernel_rfl) (by kernel_rfl) rfl (by decide) (by decide) rfl ?_)
 go_ret
 exact ⟨rfl,rfl⟩
theorem Zdr (w:World) :
  Calls Tryz.prog 144 #[] w fun e w'=>e = .returned (.slice (some ⟨w.heap.size,0,none⟩) 30 30) /\ w' = w.alloc (.cells (distI.map (Value.int .i64)).toArray 3):=by
 go_enter Tryz.func144,Tryz.ntmps144
 go_wp2_with (refine wpList_buildFlat rfl 88 3 30 _ rfl .i64 distI Tryz.underlying88 (by kernel_rfl) (by kernel_rfl) rfl (by decide) (by decide) rfl ?_)
 go_ret
 exact ⟨rfl,rfl⟩
theorem Zhu (s:Nat) (w:World) (h:s <= 1000) :
  Calls Tryz.prog 75 #[.int .i64 s] w fun e w'=>e = .returned (.int .i64 (lbits s:Nat)) /\ w = w':=by
 by_cases h1:s < 265
 ·have H:Hid (lbits s = 0):=by unfold Hid lbits;rw [if_pos (.inl h1)]
  have b1:decide ((s:Int) < 265) = true:=by simp;omega
  go_enter Tryz.func75,Tryz.ntmps75
  go_wp2
  go_ret
  exact ⟨Zav (by rw [H.out];rfl),rfl⟩
 ·by_cases h2:s = 285
  ·subst h2
   go_enter Tryz.func75,Tryz.ntmps75
   go_wp2
   go_ret
   exact ⟨rfl,rfl⟩
  ·have H:Hid (lbits s = (s - 261) / 4):=by unfold Hid lbits;rw [if_neg (by omega)]
   have b1:decide ((s:Int) < 265) = false:=by simp;omega
   have b2:((s:Int) == 285) = false:=by simp;omega
   go_enter Tryz.func75,Tryz.ntmps75
   go_wp2
   go_ret
   exact ⟨Zav (by rw [H.out];omega),rfl⟩
theorem Zht (s:Nat) (w:World) (h:s <= 1000) :
  Calls Tryz.prog 76 #[.int .i64 s] w fun e w'=>e = .returned (.int .i64 (dbits s:Nat)) /\ w = w':=by
 by_cases h1:s < 4
 ·have H:Hid (dbits s = 0):=by unfold Hid dbits;rw [if_pos h1]
  have b1:decide ((s:Int) < 4) = true:=by simp;omega
  go_enter Tryz.func76,Tryz.ntmps76
  go_wp2
  go_ret
  exact ⟨Zav (by rw [H.out];rfl),rfl⟩
 ·have H:Hid (dbits s = (s - 2) / 2):=by unfold Hid dbits;rw [if_neg h1]
  have b1:decide ((s:Int) < 4) = false:=by simp;omega
  go_enter Tryz.func76,Tryz.ntmps76
  go_wp2
  go_ret
  exact ⟨Zav (by rw [H.out];omega),rfl⟩
theorem Zle (k:Nat) (w:World) (h:k <= 100) :
  Calls Tryz.prog 75 #[.int .i64 (257 + (k:Int))] w fun e w'=>e = .returned (.int .i64 (lbits (257 + k):Nat)) /\ w = w':=by
 have:=Zhu (257 + k) w (by omega)
 rwa [show ((257 + k:Nat):Int) = 257 + (k:Int) from by simp] at this
theorem Zvu (w:World) (k:Nat) (hk:k < 29) :
  Calls Tryz.prog 143 #[] w fun e w'=>∃ b,e = .returned (.slice (some ⟨b,0,none⟩) 29 29) /\ w'.cell? ⟨b,k,none⟩ = some (.int .i64 (lensL.getD k 0:Nat)) /\ Below w.heap.size w w' :=
 (Zew w).mono fun e w' ⟨h1,h2⟩=>by
  subst h2
  refine ⟨_,h1,?_,(Below.refl _ _).alloc (Nat.le_refl _) _⟩
  obtain ⟨b,off,he,_,hc⟩:=(Zqt w _ rfl).at (i:=k) hk
  cases he
  rw [Nat.zero_add] at hc
  rw [hc]
  simp [show k < lensL.length from hk] <;> rfl
theorem Zuw (w:World) (k:Nat) (hk:k < 30) :
  Calls Tryz.prog 144 #[] w fun e w'=>∃ b,e = .returned (.slice (some ⟨b,0,none⟩) 30 30) /\ w'.cell? ⟨b,k,none⟩ = some (.int .i64 (distL.getD k 0:Nat)) /\ Below w.heap.size w w' :=
 (Zdr w).mono fun e w' ⟨h1,h2⟩=>by
  subst h2
  refine ⟨_,h1,?_,(Below.refl _ _).alloc (Nat.le_refl _) _⟩
  obtain ⟨b,off,he,_,hc⟩:=(Zqj w _ rfl).at (i:=k) hk
  cases he
  rw [Nat.zero_add] at hc
  rw [hc]
  simp [show k < distL.length from hk] <;> rfl
theorem evalC (a:Act) (v:Value):a.eval (.const v) = v:=rfl
theorem eqgA (t:TypeId) (x y:Operand) (u v:Value) (w:World):(eqGuard .add t x y u v).run Tryz.prog w = .ok () w:=by simp [eqGuard,go_sem]
theorem eqgS (t:TypeId) (x y:Operand) (u v:Value) (w:World):(eqGuard .sub t x y u v).run Tryz.prog w = .ok () w:=by simp [eqGuard,go_sem]
theorem addI (t:TypeId) (x y:Int) (w:World):(binOp .add t (.int .i64 x) (.int .i64 y):Sem Value).run Tryz.prog w = .ok (.int .i64 (IntKind.i64.wrap (x + y))) w:=by
 simp [binOp,Op.intArith,go_sem]
theorem subI (t:TypeId) (x y:Int) (w:World):(binOp .sub t (.int .i64 x) (.int .i64 y):Sem Value).run Tryz.prog w = .ok (.int .i64 (IntKind.i64.wrap (x - y))) w:=by
 simp [binOp,Op.intArith,go_sem]
theorem ixI (b k N c:Nat) (h:k < N) (w:World):(Instr.indexAt 88 (.slice (some ⟨b,0,none⟩) N c) (.int .i64 (k:Nat))).run Tryz.prog w = .ok (.pointer (some ⟨b,k,none⟩)) w:=by
 have h1:¬ N <= k:=by omega
 simp [Instr.indexAt,asIntOf,run_underlying Tryz.underlying88,h,go_sem]
theorem ldInt (p:Addr) (v:Value) (w:World) (h:w.cell? p = some v):(Instr.loadAt 3 (.pointer (some p))).run Tryz.prog w = .ok v w:=by
 simp [Instr.loadAt,Instr.sureAddr,loadVar,isAgg,run_underlying Tryz.underlying3,h,go_sem]
theorem Zgz {w:World} {b o:Nat} {v:Value} (h:w.cell? ⟨b,o,none⟩ = some v):b < w.heap.size:=by
 rcases Nat.lt_or_ge b w.heap.size with h' | h'
 ·exact h'
 ·simp [World.cell?,Array.getElem?_eq_none h'] at h
def rlV (n k bb xx:Nat) (j:Nat) (v:Value) (w:World):Prop :=
 match j with
 | 0=>v = .int .i64 (k:Nat)
 | 1=>v = .int .i64 (257 + (k:Int))
 | 2=>v = .int .i64 (k:Nat)
 | 3=>v = .int .i64 (257 + (k:Int))
 | 4=>v = .int .i64 (bb:Nat)
 | 5=>v = .int .i64 (n:Nat)
 | 6=>∃ b,v = .slice (some ⟨b,0,none⟩) 29 29 /\ w.cell? ⟨b,k,none⟩ = some (.int .i64 (xx:Nat)) /\ b < w.heap.size
 | 7=>v = .int .i64 (k:Nat)
 | 8=>∃ b,v = .pointer (some ⟨b,k,none⟩) /\ w.cell? ⟨b,k,none⟩ = some (.int .i64 (xx:Nat)) /\ b < w.heap.size
 | 9=>v = .int .i64 (xx:Nat)
 | 10=>v = .int .i64 ((n:Int) - (xx:Nat))
 | 11=>v = .int .i64 (257 + (k:Int))
 | 12=>v = .int .i64 (bb:Nat)
 | 13=>v = .int .i64 ((n:Int) - (xx:Nat))
 | 14=>v = .int .i64 0
 | _=>True
theorem Zwv {n k bb xx:Nat} {w w':World} (j:Nat) (u:Value) (hb:Below w.heap.size w w') (h:rlV n k bb xx j u w):rlV n k bb xx j u w':=by
 unfold rlV at *
 split at h
 all_goals try exact h
 all_goals
  obtain ⟨b,h1,h2,h3⟩:=h
  exact ⟨b,h1,(hb.cell (p:=⟨b,k,none⟩) h3).trans h2,Nat.lt_of_lt_of_le h3 hb.size⟩
def rdV (n k bb xx:Nat) (j:Nat) (v:Value) (w:World):Prop :=
 match j with
 | 0=>v = .int .i64 (k:Nat)
 | 1=>v = .int .i64 (k:Nat)
 | 2=>v = .int .i64 (bb:Nat)
 | 3=>v = .int .i64 (n:Nat)
 | 4=>∃ b,v = .slice (some ⟨b,0,none⟩) 30 30 /\ w.cell? ⟨b,k,none⟩ = some (.int .i64 (xx:Nat)) /\ b < w.heap.size
 | 5=>v = .int .i64 (k:Nat)
 | 6=>∃ b,v = .pointer (some ⟨b,k,none⟩) /\ w.cell? ⟨b,k,none⟩ = some (.int .i64 (xx:Nat)) /\ b < w.heap.size
 | 7=>v = .int .i64 (xx:Nat)
 | 8=>v = .int .i64 ((n:Int) - (xx:Nat))
 | 9=>v = .int .i64 (k:Nat)
 | 10=>v = .int .i64 (bb:Nat)
 | 11=>v = .int .i64 ((n:Int) - (xx:Nat))
 | 12=>v = .int .i64 0
 | _=>True
theorem Zwr {n k bb xx:Nat} {w w':World} (j:Nat) (u:Value) (hb:Below w.heap.size w w') (h:rdV n k bb xx j u w):rdV n k bb xx j u w':=by
 unfold rdV at *
 split at h
 all_goals try exact h
 all_goals
  obtain ⟨b,h1,h2,h3⟩:=h
  exact ⟨b,h1,(hb.cell (p:=⟨b,k,none⟩) h3).trans h2,Nat.lt_of_lt_of_le h3 hb.size⟩
set_option maxHeartbeats 1600000 in
theorem Znp (n:Nat) (w:World) (h3:3 <= n) (h258:n <= 258) :
  Calls Tryz.prog 111 #[.int .i64 n] w fun e w' =>
   e = .returned (.tuple #[.int .i64 (257 + lk n:Nat),.int .i64 (lbits (257 + lk n):Nat),.int .i64 ((n - lensL.getD (lk n) 0:Nat):Int),.int .i64 0]) /\ Below w.heap.size w w':=by
 have hk:lk n < 29:=Zci n (by decide)
 have hle:lensL.getD (lk n) 0 <= n:=(Zdd Zpa n (by decide) h3).1
 have HL:=Zh (show lastLe lensL n = lk n from rfl)
 have HP:((257 + lk n:Nat):Int) = 257 + ((lk n:Nat):Int):=by simp
 have HD:((n - lensL.getD (lk n) 0:Nat):Int) = (n:Int) - (lensL.getD (lk n) 0:Nat):=by omega
 rw [HP,HD]
 clear HP HD
 generalize lk n = k at *
 have HM:=Zh (fun (w:World)=>Zvu w k hk)
 have HBB:=Zh (fun (w:World)=>Zle k w (by omega))
 generalize lensL.getD k 0 = xx at *
 generalize lbits (257 + k) = bb at *
 have hB0:Below w.heap.size w (w.alloc (.cells (lensI.map (Value.int .i64)).toArray 3)):=(Below.refl _ _).alloc (Nat.le_refl _) _
 have HB:=Zh hB0
 clear hB0
 go_enter Tryz.func111,Tryz.ntmps111
 go_wp2_with (first | (go_at_call 143;refine (Zew _).mono ?_;rintro e w' ⟨rfl,rfl⟩) | (go_at_call 142;refine (Zjm _ _ _ lensL n (by decide) (by decide) Zpa h3 (Zqt w _ rfl)).mono ?_;rintro e w' ⟨rfl,rfl⟩;rw [HL.out]))
 clear HL
 generalize w.alloc (.cells (lensI.map (Value.int .i64)).toArray 3) = w1 at *
 have hw1:IntKind.i64.wrap (257 + (k:Int)) = 257 + (k:Int):=IntWalk.i64_in _ (by omega)
 have hw2:IntKind.i64.wrap ((n:Int) - (xx:Int)) = (n:Int) - (xx:Int):=IntWalk.i64_in _ (by omega)
 refine Zec [16,17,18,19,20,21,22,23,24,25,26,2,3,4,5] (fun j=>j == 11 || j == 12 || j == 13 || j == 14) (fun w=>Below w1.heap.size w1 w) (rlV n k bb xx) (fun _ _ _ _=>True) (by kernel_rfl) (by kernel_rfl) (OneEach.mk' (by kernel_rfl) (by kernel_rfl)) (by kernel_rfl) (by kernel_rfl) ?_ ?_ ?_
 ·exact ⟨rfl,rfl,rfl,Nat.le_refl _,fun _ _=>rfl⟩
 ·intro i0 o hi0 a1 W hR hout hdep
  have hsz:i0 < 15:=(Array.getElem?_eq_some_iff.1 hi0).1
  have hall:i0 = 0 \/ i0 = 1 \/ i0 = 2 \/ i0 = 3 \/ i0 = 4 \/ i0 = 5 \/ i0 = 6 \/ i0 = 7 \/ i0 = 8 \/ i0 = 9 \/ i0 = 10 \/ i0 = 11 \/ i0 = 12 \/ i0 = 13 \/ i0 = 14:=by omega
  clear hsz
  rcases hall with rfl | rfl | rfl | rfl | rfl | rfl | rfl | rfl | rfl | rfl | rfl | rfl | rfl | rfl | rfl <;> simp only [List.getElem?_toArray,List.getElem?_cons_zero,List.getElem?_cons_succ,Option.some.injEq] at hi0 <;> subst hi0
  ·have f6:a1.eval (.tmp 6) = .int .i64 (k:Nat):=hout 6 (by decide)
   refine Zab (v:=.int .i64 (k:Nat)) (w':=W) (by simp [execOp,f6]) ⟨_,rfl,hR,fun j u hu hV _=>⟨hV,trivial,trivial⟩,rfl⟩
  ·have e16:a1.eval (.tmp 16) = .int .i64 (k:Nat):=hdep ⟨0,.data⟩ (by simp) rfl _ rfl
   refine Zab (v:=.int .i64 (257 + (k:Int))) (w':=W) (by simp [execOp,e16,evalC,eqgA,addI,hw1]) ⟨_,rfl,hR,fun j u hu hV _=>⟨hV,trivial,trivial⟩,rfl⟩
  ·have f6:a1.eval (.tmp 6) = .int .i64 (k:Nat):=hout 6 (by decide)
   refine Zab (v:=.int .i64 (k:Nat)) (w':=W) (by simp [execOp,f6]) ⟨_,rfl,hR,fun j u hu hV _=>⟨hV,trivial,trivial⟩,rfl⟩
  ·have e18:a1.eval (.tmp 18) = .int .i64 (k:Nat):=hdep ⟨2,.data⟩ (by simp) rfl _ rfl
   refine Zab (v:=.int .i64 (257 + (k:Int))) (w':=W) (by simp [execOp,e18,evalC,eqgA,addI,hw1]) ⟨_,rfl,hR,fun j u hu hV _=>⟨hV,trivial,trivial⟩,rfl⟩
  ·have e19:a1.tmps[19]?.getD undef = .int .i64 (257 + (k:Int)):=by simpa [leftBy] using (show leftBy a1 _ = .int .i64 (257 + (k:Int)) from hdep ⟨3,.data⟩ (by simp) rfl _ rfl)
   refine Zaj (f:=75) (args:=#[.int .i64 (257 + (k:Int))]) (by simp [e19,go_sem]) ((HBB.out W).mono ?_)
   rintro e w' ⟨rfl,rfl⟩
   exact ⟨_,rfl,_,rfl,hR,fun j u hu hV _=>⟨hV,trivial,trivial⟩,rfl⟩
  ·have f0:a1.eval (.tmp 0) = .int .i64 (n:Nat):=hout 0 (by decide)
   refine Zab (v:=.int .i64 (n:Nat)) (w':=W) (by simp [execOp,f0]) ⟨_,rfl,hR,fun j u hu hV _=>⟨hV,trivial,trivial⟩,rfl⟩
  ·refine Zaj (f:=143) (args:=#[]) (by simp [go_sem]) ((HM.out W).mono ?_)
   rintro e w' ⟨b,rfl,hc,hb⟩
   exact ⟨_,rfl,_,rfl,hR.trans (hb.mono hR.size),fun j u hu hV _=>⟨Zwv j u hb hV,trivial,trivial⟩,b,rfl,hc,Zgz hc⟩
  ·have f6:a1.eval (.tmp 6) = .int .i64 (k:Nat):=hout 6 (by decide)
   refine Zab (v:=.int .i64 (k:Nat)) (w':=W) (by simp [execOp,f6]) ⟨_,rfl,hR,fun j u hu hV _=>⟨hV,trivial,trivial⟩,rfl⟩
  ·obtain ⟨b,e22',hcell,hblt⟩:=hdep ⟨6,.data⟩ (by simp) rfl _ rfl
   have e22:a1.eval (.tmp 22) = .slice (some ⟨b,0,none⟩) 29 29:=e22'
   have e23:a1.eval (.tmp 23) = .int .i64 (k:Nat):=hdep ⟨7,.data⟩ (by simp) rfl _ rfl
   refine Zab (v:=.pointer (some ⟨b,k,none⟩)) (w':=W) (by simp [execOp,e22,e23,ixI b k 29 29 hk]) ⟨_,rfl,hR,fun j u hu hV _=>⟨hV,trivial,trivial⟩,b,rfl,hcell,hblt⟩
  ·obtain ⟨b,e24',hcell,hblt⟩:=hdep ⟨8,.data⟩ (by simp) rfl _ rfl
   have e24:a1.eval (.tmp 24) = .pointer (some ⟨b,k,none⟩):=e24'
   refine Zab (v:=.int .i64 (xx:Nat)) (w':=W) (by simp [execOp,e24,ldInt _ _ _ hcell]) ⟨_,rfl,hR,fun j u hu hV _=>⟨hV,trivial,trivial⟩,rfl⟩
  ·have e21:a1.eval (.tmp 21) = .int .i64 (n:Nat):=hdep ⟨5,.data⟩ (by simp) rfl _ rfl
   have e25:a1.eval (.tmp 25) = .int .i64 (xx:Nat):=hdep ⟨9,.data⟩ (by simp) rfl _ rfl
   refine Zab (v:=.int .i64 ((n:Int) - (xx:Nat))) (w':=W) (by simp [execOp,e21,e25,eqgS,subI,hw2]) ⟨_,rfl,hR,fun j u hu hV _=>⟨hV,trivial,trivial⟩,rfl⟩
  ·have e17:a1.eval (.tmp 17) = .int .i64 (257 + (k:Int)):=hdep ⟨1,.data⟩ (by simp) rfl _ rfl
   refine Zab (v:=.int .i64 (257 + (k:Int))) (w':=W) (by simp [execOp,e17]) ⟨_,rfl,hR,fun j u hu hV _=>⟨hV,trivial,trivial⟩,rfl⟩
  ·have e20:a1.eval (.tmp 20) = .int .i64 (bb:Nat):=hdep ⟨4,.data⟩ (by simp) rfl _ rfl
   refine Zab (v:=.int .i64 (bb:Nat)) (w':=W) (by simp [execOp,e20]) ⟨_,rfl,hR,fun j u hu hV _=>⟨hV,trivial,trivial⟩,rfl⟩
  ·have e26:a1.eval (.tmp 26) = .int .i64 ((n:Int) - (xx:Nat)):=hdep ⟨10,.data⟩ (by simp) rfl _ rfl
   refine Zab (v:=.int .i64 ((n:Int) - (xx:Nat))) (w':=W) (by simp [execOp,e26]) ⟨_,rfl,hR,fun j u hu hV _=>⟨hV,trivial,trivial⟩,rfl⟩
  ·refine Zab (v:=.int .i64 0) (w':=W) (by simp [execOp,evalC]) ⟨_,rfl,hR,fun j u hu hV _=>⟨hV,trivial,trivial⟩,rfl⟩
 ·intro f W hR hV
  have v1:f 2 = .int .i64 (257 + (k:Int)):=hV 11 _ rfl rfl
  have v2:f 3 = .int .i64 (bb:Nat):=hV 12 _ rfl rfl
  have v3:f 4 = .int .i64 ((n:Int) - (xx:Nat)):=hV 13 _ rfl rfl
  have v4:f 5 = .int .i64 0:=hV 14 _ rfl rfl
  simp only [spread,List.contains_cons,List.contains_nil,Nat.reduceBEq,Bool.or_false,Bool.or_true,cond_true,cond_false,Nat.reduceAdd,Nat.zero_add,v1,v2,v3,v4]
  go_wp2_with fail
  refine bodyPost_ret (Zax rfl _ _ _) rfl ?_
  exact ⟨rfl,HB.out.trans (hR.mono HB.out.size)⟩
set_option maxHeartbeats 1600000 in
theorem Zip (n:Nat) (w:World) (h1:1 <= n) (h2:n <= 32768) :
  Calls Tryz.prog 112 #[.int .i64 n] w fun e w' =>
   e = .returned (.tuple #[.int .i64 (dk n:Nat),.int .i64 (dbits (dk n):Nat),.int .i64 ((n - distL.getD (dk n) 0:Nat):Int),.int .i64 0]) /\ Below w.heap.size w w':=by
 have hk:dk n < 30:=Zci n (by decide)
 have hle:distL.getD (dk n) 0 <= n:=(Zdd Zop n (by decide) h1).1
 have HL:=Zh (show lastLe distL n = dk n from rfl)
 have HD:((n - distL.getD (dk n) 0:Nat):Int) = (n:Int) - (distL.getD (dk n) 0:Nat):=by omega
 rw [HD]
 clear HD
 generalize dk n = k at *
 have HM:=Zh (fun (w:World)=>Zuw w k hk)
 have HBB:=Zh (fun (w:World)=>Zht k w (by omega))
 generalize distL.getD k 0 = xx at *
 generalize dbits k = bb at *
 have hB0:Below w.heap.size w (w.alloc (.cells (distI.map (Value.int .i64)).toArray 3)):=(Below.refl _ _).alloc (Nat.le_refl _) _
 have HB:=Zh hB0
 clear hB0
 go_enter Tryz.func112,Tryz.ntmps112
 go_wp2_with (first | (go_at_call 144;refine (Zdr _).mono ?_;rintro e w' ⟨rfl,rfl⟩) | (go_at_call 142;refine (Zjm _ _ _ distL n (by decide) (by decide) Zop h1 (Zqj w _ rfl)).mono ?_;rintro e w' ⟨rfl,rfl⟩;rw [HL.out]))
 clear HL
 generalize w.alloc (.cells (distI.map (Value.int .i64)).toArray 3) = w1 at *
 have hw2:IntKind.i64.wrap ((n:Int) - (xx:Int)) = (n:Int) - (xx:Int):=IntWalk.i64_in _ (by omega)
 refine Zec [16,17,18,19,20,21,22,23,24,2,3,4,5] (fun j=>j == 9 || j == 10 || j == 11 || j == 12) (fun w=>Below w1.heap.size w1 w) (rdV n k bb xx) (fun _ _ _ _=>True) (by kernel_rfl) (by kernel_rfl) (OneEach.mk' (by kernel_rfl) (by kernel_rfl)) (by kernel_rfl) (by kernel_rfl) ?_ ?_ ?_
 ·exact ⟨rfl,rfl,rfl,Nat.le_refl _,fun _ _=>rfl⟩
 ·intro i0 o hi0 a1 W hR hout hdep
  have hsz:i0 < 13:=(Array.getElem?_eq_some_iff.1 hi0).1
  have hall:i0 = 0 \/ i0 = 1 \/ i0 = 2 \/ i0 = 3 \/ i0 = 4 \/ i0 = 5 \/ i0 = 6 \/ i0 = 7 \/ i0 = 8 \/ i0 = 9 \/ i0 = 10 \/ i0 = 11 \/ i0 = 12:=by omega
  clear hsz
  rcases hall with rfl | rfl | rfl | rfl | rfl | rfl | rfl | rfl | rfl | rfl | rfl | rfl | rfl <;> simp only [List.getElem?_toArray,List.getElem?_cons_zero,List.getElem?_cons_succ,Option.some.injEq] at hi0 <;> subst hi0
  ·have f6:a1.eval (.tmp 6) = .int .i64 (k:Nat):=hout 6 (by decide)
   refine Zab (v:=.int .i64 (k:Nat)) (w':=W) (by simp [execOp,f6]) ⟨_,rfl,hR,fun j u hu hV _=>⟨hV,trivial,trivial⟩,rfl⟩
  ·have f6:a1.eval (.tmp 6) = .int .i64 (k:Nat):=hout 6 (by decide)
   refine Zab (v:=.int .i64 (k:Nat)) (w':=W) (by simp [execOp,f6]) ⟨_,rfl,hR,fun j u hu hV _=>⟨hV,trivial,trivial⟩,rfl⟩
  ·have e17:a1.tmps[17]?.getD undef = .int .i64 (k:Nat):=by simpa [leftBy] using (show leftBy a1 _ = .int .i64 (k:Nat) from hdep ⟨1,.data⟩ (by simp) rfl _ rfl)
   refine Zaj (f:=76) (args:=#[.int .i64 (k:Nat)]) (by simp [e17,go_sem]) ((HBB.out W).mono ?_)
   rintro e w' ⟨rfl,rfl⟩
   exact ⟨_,rfl,_,rfl,hR,fun j u hu hV _=>⟨hV,trivial,trivial⟩,rfl⟩
  ·have f0:a1.eval (.tmp 0) = .int .i64 (n:Nat):=hout 0 (by decide)
   refine Zab (v:=.int .i64 (n:Nat)) (w':=W) (by simp [execOp,f0]) ⟨_,rfl,hR,fun j u hu hV _=>⟨hV,trivial,trivial⟩,rfl⟩
  ·refine Zaj (f:=144) (args:=#[]) (by simp [go_sem]) ((HM.out W).mono ?_)
   rintro e w' ⟨b,rfl,hc,hb⟩
   exact ⟨_,rfl,_,rfl,hR.trans (hb.mono hR.size),fun j u hu hV _=>⟨Zwr j u hb hV,trivial,trivial⟩,b,rfl,hc,Zgz hc⟩
  ·have f6:a1.eval (.tmp 6) = .int .i64 (k:Nat):=hout 6 (by decide)
   refine Zab (v:=.int .i64 (k:Nat)) (w':=W) (by simp [execOp,f6]) ⟨_,rfl,hR,fun j u hu hV _=>⟨hV,trivial,trivial⟩,rfl⟩
  ·obtain ⟨b,e20',hcell,hblt⟩:=hdep ⟨4,.data⟩ (by simp) rfl _ rfl
   have e20:a1.eval (.tmp 20) = .slice (some ⟨b,0,none⟩) 30 30:=e20'
   have e21:a1.eval (.tmp 21) = .int .i64 (k:Nat):=hdep ⟨5,.data⟩ (by simp) rfl _ rfl
   refine Zab (v:=.pointer (some ⟨b,k,none⟩)) (w':=W) (by simp [execOp,e20,e21,ixI b k 30 30 hk]) ⟨_,rfl,hR,fun j u hu hV _=>⟨hV,trivial,trivial⟩,b,rfl,hcell,hblt⟩
  ·obtain ⟨b,e22',hcell,hblt⟩:=hdep ⟨6,.data⟩ (by simp) rfl _ rfl
   have e22:a1.eval (.tmp 22) = .pointer (some ⟨b,k,none⟩):=e22'
   refine Zab (v:=.int .i64 (xx:Nat)) (w':=W) (by simp [execOp,e22,ldInt _ _ _ hcell]) ⟨_,rfl,hR,fun j u hu hV _=>⟨hV,trivial,trivial⟩,rfl⟩
  ·have e19:a1.eval (.tmp 19) = .int .i64 (n:Nat):=hdep ⟨3,.data⟩ (by simp) rfl _ rfl
   have e23:a1.eval (.tmp 23) = .int .i64 (xx:Nat):=hdep ⟨7,.data⟩ (by simp) rfl _ rfl
   refine Zab (v:=.int .i64 ((n:Int) - (xx:Nat))) (w':=W) (by simp [execOp,e19,e23,eqgS,subI,hw2]) ⟨_,rfl,hR,fun j u hu hV _=>⟨hV,trivial,trivial⟩,rfl⟩
  ·have e16:a1.eval (.tmp 16) = .int .i64 (k:Nat):=hdep ⟨0,.data⟩ (by simp) rfl _ rfl
   refine Zab (v:=.int .i64 (k:Nat)) (w':=W) (by simp [execOp,e16]) ⟨_,rfl,hR,fun j u hu hV _=>⟨hV,trivial,trivial⟩,rfl⟩
  ·have e18:a1.eval (.tmp 18) = .int .i64 (bb:Nat):=hdep ⟨2,.data⟩ (by simp) rfl _ rfl
   refine Zab (v:=.int .i64 (bb:Nat)) (w':=W) (by simp [execOp,e18]) ⟨_,rfl,hR,fun j u hu hV _=>⟨hV,trivial,trivial⟩,rfl⟩
  ·have e24:a1.eval (.tmp 24) = .int .i64 ((n:Int) - (xx:Nat)):=hdep ⟨8,.data⟩ (by simp) rfl _ rfl
   refine Zab (v:=.int .i64 ((n:Int) - (xx:Nat))) (w':=W) (by simp [execOp,e24]) ⟨_,rfl,hR,fun j u hu hV _=>⟨hV,trivial,trivial⟩,rfl⟩
  ·refine Zab (v:=.int .i64 0) (w':=W) (by simp [execOp,evalC]) ⟨_,rfl,hR,fun j u hu hV _=>⟨hV,trivial,trivial⟩,rfl⟩
 ·intro f W hR hV
  have v1:f 2 = .int .i64 (k:Nat):=hV 9 _ rfl rfl
  have v2:f 3 = .int .i64 (bb:Nat):=hV 10 _ rfl rfl
  have v3:f 4 = .int .i64 ((n:Int) - (xx:Nat)):=hV 11 _ rfl rfl
  have v4:f 5 = .int .i64 0:=hV 12 _ rfl rfl
  simp only [spread,List.contains_cons,List.contains_nil,Nat.reduceBEq,Bool.or_false,Bool.or_true,cond_true,cond_false,Nat.reduceAdd,Nat.zero_add,v1,v2,v3,v4]
  go_wp2_with fail
  refine bodyPost_ret (Zax rfl _ _ _) rfl ?_
  exact ⟨rfl,HB.out.trans (hR.mono HB.out.size)⟩
end Go.Proofs.YtendielanacflaaGreat

namespace Go.Proofs.YtendielanacflaaGreat.M04
def wt (n:Nat):Nat:=if n = 0 then 0 else 2 ^ (20 - n)
def weight (l:List Nat):Nat:=(l.map wt).sum
theorem Zaft (n:Nat):wt n <= 2 ^ 20:=by
 unfold wt;split
 ·simp
 ·exact Nat.pow_le_pow_right (by simp) (by omega)
theorem Zyf (l:List Nat):weight l <= l.length * 2 ^ 20:=by
 induction l with
 | nil=>simp [weight]
 | cons a l ih=>have:=Zaft a;simp only [weight,List.map_cons,List.sum_cons,List.length_cons] at *;omega
theorem Zas {α:Type} (l:List α) (k:Nat) (h:k < l.length):l.take (k + 1) = l.take k ++ [l[k]]:=List.take_succ_eq_append_getElem h
theorem Zqa (l:List Nat) (k:Nat) (h:k < l.length):weight (l.take (k + 1)) = weight (l.take k) + wt l[k]:=by
 rw [Zas l k h];simp only [weight,List.map_append,List.map_cons,List.map_nil,List.sum_append,List.sum_cons,List.sum_nil];omega
theorem Zeb (l:List Nat) (k:Nat) (h:l.length <= 512):weight (l.take k) <= 512 * 2 ^ 20 :=
 Nat.le_trans (Zyf _) (by simp;omega)
def May (l:List Nat):Prop:=(∀ x ∈ l,x <= 20) /\ l.length <= 512
instance (l:List Nat):Decidable (May l):=by unfold May;infer_instance
def top (l:List Nat):Nat:=l.foldl max 0
theorem Zrs (l:List Nat) (k:Nat) (h:k < l.length):top (l.take (k + 1)) = max (top (l.take k)) l[k]:=by
 rw [Zas l k h];simp only [top,List.foldl_append,List.foldl_cons,List.foldl_nil]
theorem Zmr (l:List Nat) (a n:Nat):l.foldl max a <= n ↔ a <= n /\ ∀ x ∈ l,x <= n:=by
 induction l generalizing a with
 | nil=>simp
 | cons b l ih =>
  simp only [List.foldl_cons,ih,List.mem_cons,forall_eq_or_imp,<- and_assoc]
  refine and_congr_left fun _=>?_
  omega
theorem Zafn (l:List Nat) (n:Nat):top l <= n ↔ ∀ x ∈ l,x <= n:=by
 unfold top;rw [Zmr];simp
def mayB (l:List Nat):Bool:=decide (May l)
def cls (l:List Nat):Nat:=if weight l = 0 then 0 else if weight l < 2 ^ 20 then 1 else if weight l = 2 ^ 20 then 2 else 3
def clsE (l:List Nat):Nat × Nat:=if May l then (cls l,0) else (0,5)
def S (f:Nat -> Nat):Nat -> Nat
 | 0=>0
 | m + 1=>S f m + f m
theorem Zdl {f g:Nat -> Nat} {m:Nat} (h:∀ j,j < m -> f j = g j):S f m = S g m:=by
 induction m with
 | zero=>rfl
 | succ m ih=>simp only [S];rw [ih fun j hj=>h j (by omega),h m (by omega)]
theorem S_le {f g:Nat -> Nat} {m:Nat} (h:∀ j,j < m -> f j <= g j):S f m <= S g m:=by
 induction m with
 | zero=>simp [S]
 | succ m ih=>simp only [S];have:=ih fun j hj=>h j (by omega);have:=h m (by omega);omega
theorem Zaeq {f:Nat -> Nat} {m:Nat} (h:∀ j,j < m -> f j = 0):S f m = 0:=by
 induction m with
 | zero=>rfl
 | succ m ih=>simp only [S];rw [ih fun j hj=>h j (by omega),h m (by omega)]
theorem Zacj {f g:Nat -> Nat} {m k:Nat} (hk:k < m) (h:∀ j,j < m -> j ≠ k -> f j = g j):S f m + g k = S g m + f k:=by
 induction m with
 | zero=>omega
 | succ m ih =>
  simp only [S]
  by_cases e:k = m
  ·subst e
   rw [Zdl (fun j hj=>h j (by omega) (by omega))];omega
  ·have:=ih (by omega) (fun j hj hne=>h j (by omega) hne)
   have:=h m (by omega) (by omega)
   omega
theorem Zafo {f:Nat -> Nat} {m d:Nat} (h:∀ j,j < m -> d ∣ f j):d ∣ S f m:=by
 induction m with
 | zero=>exact ⟨0,rfl⟩
 | succ m ih=>exact Nat.dvd_add (ih fun j hj=>h j (by omega)) (h m (by omega))
theorem Zaeo (f:Nat -> Nat) (m:Nat):S f (m + 1) = f 0 + S (fun j=>f (j + 1)) m:=by
 induction m with
 | zero=>simp [S]
 | succ m ih=>rw [S,ih,S];omega
theorem Zabo (l:List Nat):weight l = S (fun j=>wt (l.getD j 0)) l.length:=by
 induction l with
 | nil=>rfl
 | cons a l ih =>
  rw [List.length_cons,Zaeo]
  simp only [weight,List.map_cons,List.sum_cons] at *
  rw [ih];simp
def pre (l:List Nat) (n k j:Nat):Prop:=l.getD j 0 ≠ 0 /\ (l.getD j 0 < n \/ l.getD j 0 = n /\ j < k)
instance (l:List Nat) (n k j:Nat):Decidable (pre l n k j):=by unfold pre;infer_instance
def acc (l:List Nat) (n k:Nat):Nat:=S (fun j=>if pre l n k j then wt (l.getD j 0) else 0) l.length
def word (l:List Nat) (i:Nat):Nat:=if l.getD i 0 = 0 then 0 else acc l (l.getD i 0) i / 2 ^ (20 - l.getD i 0)
def words (l:List Nat):List Nat:=(List.range l.length).map (word l)
def outs (l:List Nat) (n k:Nat):List Nat:=(List.range l.length).map fun i=>if pre l n k i then word l i else 0
theorem Zbl (l:List Nat):(words l).length = l.length:=by simp [words]
theorem Zacm (l:List Nat):acc l 1 0 = 0:=Zaeq fun j _=>by
 rw [if_neg];unfold pre;omega
theorem Zacn (l:List Nat) (n:Nat):acc l n l.length = acc l (n + 1) 0:=Zdl fun j hj=>by
 have:pre l n l.length j ↔ pre l (n + 1) 0 j:=by unfold pre;omega
 simp only [this]
theorem Zabr (l:List Nat) (n k:Nat):acc l n k <= weight l:=by
 rw [Zabo]
 exact S_le fun j _=>by split <;> omega
theorem Zty (l:List Nat) (n k:Nat) (hn:n ≠ 0) (hk:k < l.length) (h:l[k] = n):acc l n (k + 1) = acc l n k + 2 ^ (20 - n):=by
 have hg:l.getD k 0 = n:=by simp [hk,h]
 have:=Zacj (f:=fun j=>if pre l n (k + 1) j then wt (l.getD j 0) else 0) (g:=fun j=>if pre l n k j then wt (l.getD j 0) else 0) hk (fun j hj hne=>by
  have:pre l n (k + 1) j ↔ pre l n k j:=by unfold pre;omega
  simp only [this])
 rw [if_neg (by unfold pre;omega),if_pos (by unfold pre;omega),hg,wt,if_neg hn] at this
 unfold acc
 omega
theorem Zyj (l:List Nat) (n k:Nat) (hk:k < l.length) (h:l[k] ≠ n):acc l n (k + 1) = acc l n k:=Zdl fun j hj=>by
 have hg:l.getD k 0 = l[k]:=by simp [hk]
 have:pre l n (k + 1) j ↔ pre l n k j:=by
  unfold pre
  constructor
  ·rintro ⟨h1,h2 | ⟨h2,h3⟩⟩
   ·exact ⟨h1,.inl h2⟩
   ·refine ⟨h1,.inr ⟨h2,?_⟩⟩
    by_cases e:j = k
    ·subst e;omega
    ·omega
  ·rintro ⟨h1,h2⟩;exact ⟨h1,by omega⟩
 simp only [this]
theorem Zacl (l:List Nat) (n k:Nat):2 ^ (20 - n) ∣ acc l n k:=Zafo fun j _=>by
 split
 ·rename_i h
  have h0:l.getD j 0 ≠ 0:=h.1
  have hle:l.getD j 0 <= n:=by have:=h.2;omega
  rw [wt,if_neg h0]
  exact Nat.pow_dvd_pow 2 (by omega)
 ·exact Nat.dvd_zero _
theorem Zaaj (l:List Nat):outs l 1 0 = List.replicate l.length 0:=by
 apply List.ext_getElem (by simp [outs])
 intro i h1 h2
 simp only [outs,List.getElem_map,List.getElem_range,List.getElem_replicate]
 rw [if_neg];unfold pre;omega
theorem Zqz (l:List Nat) (n:Nat):outs l n l.length = outs l (n + 1) 0:=by
 apply List.ext_getElem (by simp [outs])
 intro i h1 h2
 simp only [outs,List.length_map,List.length_range] at h1
 simp only [outs,List.getElem_map,List.getElem_range]
 have:pre l n l.length i ↔ pre l (n + 1) 0 i:=by unfold pre;omega
 simp only [this]
theorem Zaai (l:List Nat) (n k:Nat) (hn:n ≠ 0) (hk:k < l.length) (h:l[k] = n):outs l n (k + 1) = (outs l n k).set k (acc l n k / 2 ^ (20 - n)):=by
 have hg:l.getD k 0 = n:=by simp [hk,h]
 apply List.ext_getElem (by simp [outs])
 intro i h1 h2
 simp only [outs,List.length_map,List.length_range] at h1
 rw [List.getElem_set]
 simp only [outs,List.getElem_map,List.getElem_range]
 by_cases e:k = i
 ·subst e
  rw [if_pos (by unfold pre;omega),if_pos rfl,word,if_neg (by omega),hg]
 ·rw [if_neg e]
  have:pre l n (k + 1) i ↔ pre l n k i:=by unfold pre;omega
  simp only [this]
theorem Zwk (l:List Nat) (n k:Nat) (hk:k < l.length) (h:l[k] ≠ n):outs l n (k + 1) = outs l n k:=by
 apply List.ext_getElem (by simp [outs])
 intro i h1 h2
 simp only [outs,List.getElem_map,List.getElem_range]
 have hg:l.getD k 0 = l[k]:=by simp [hk]
 have:pre l n (k + 1) i ↔ pre l n k i:=by
  unfold pre
  constructor
  ·rintro ⟨h1,h2 | ⟨h2,h3⟩⟩
   ·exact ⟨h1,.inl h2⟩
   ·refine ⟨h1,.inr ⟨h2,?_⟩⟩
    by_cases e:i = k
    ·subst e;omega
    ·omega
  ·rintro ⟨h1,h2⟩;exact ⟨h1,by omega⟩
 simp only [this]
theorem Zaw {l:List Nat} {n:Nat} (h:∀ x ∈ l,x <= n) (i:Nat):l.getD i 0 <= n:=by
 by_cases hi:i < l.length
 ·simp only [List.getD_eq_getElem?_getD,List.getElem?_eq_getElem hi,Option.getD_some];exact h _ (List.getElem_mem hi)
 ·simp only [List.getD_eq_getElem?_getD,List.getElem?_eq_none (by omega:l.length <= i),Option.getD_none];omega
theorem Zaah (l:List Nat) (h:∀ x ∈ l,x <= 20):outs l 21 0 = words l:=by
 apply List.ext_getElem (by simp [outs,words])
 intro i h1 h2
 simp only [outs,words,List.getElem_map,List.getElem_range]
 have:=Zaw h i
 by_cases e:l.getD i 0 = 0
 ·rw [if_neg (by unfold pre;omega),word,if_pos e]
 ·rw [if_pos (by unfold pre;omega)]
def wordsE (l:List Nat):List Nat × Nat:=if ¬ May l then ([],5) else if 2 ^ 20 < weight l then ([],2) else (words l,0)
def rowOf (l:List Nat) (n k:Nat):List (Nat × Nat):=(List.range k).filterMap fun i=>if l.getD i 0 = n then some (i,n) else none
def ordB (l:List Nat):Nat -> Nat -> List (Nat × Nat)
 | 0,k=>rowOf l 0 k
 | n + 1,k=>(if n = 0 then [] else ordB l n l.length) ++ rowOf l (n + 1) k
def ord (l:List Nat):List (Nat × Nat):=ordB l 20 l.length
theorem Znt (l:List Nat) (n k:Nat) (h:l.getD k 0 = n):rowOf l n (k + 1) = rowOf l n k ++ [(k,n)]:=by
 simp only [rowOf,List.range_succ,List.filterMap_append,List.filterMap_cons,List.filterMap_nil,h,if_true]
theorem Zjq (l:List Nat) (n k:Nat) (h:l.getD k 0 ≠ n):rowOf l n (k + 1) = rowOf l n k:=by
 simp only [rowOf,List.range_succ,List.filterMap_append,List.filterMap_cons,List.filterMap_nil,h,if_false,List.append_nil]
theorem Zes (l:List Nat) (n k:Nat) (h:l.getD k 0 = n):ordB l n (k + 1) = ordB l n k ++ [(k,n)]:=by
 cases n with
 | zero=>exact Znt l 0 k h
 | succ n=>simp only [ordB];rw [Znt l _ k h,List.append_assoc]
theorem Zet (l:List Nat) (n k:Nat) (h:l.getD k 0 ≠ n):ordB l n (k + 1) = ordB l n k:=by
 cases n with
 | zero=>exact Zjq l 0 k h
 | succ n=>simp only [ordB];rw [Zjq l _ k h]
theorem Zgt (l:List Nat) (n:Nat) (hn:n ≠ 0):ordB l (n + 1) 0 = ordB l n l.length:=by
 simp [ordB,rowOf,hn]
theorem Zkw (l:List Nat):ordB l 1 0 = []:=by simp [ordB,rowOf]
theorem Zwe (l:List Nat) (n k m:Nat):ordB l n k <+: ordB l n (k + m):=by
 induction m with
 | zero=>exact List.prefix_refl _
 | succ m ih =>
  by_cases h:l.getD (k + m) 0 = n
  ·rw [<- Nat.add_assoc,Zes l n _ h];exact ih.trans (List.prefix_append _ _)
  ·rw [<- Nat.add_assoc,Zet l n _ h];exact ih
theorem Zwf (l:List Nat) (d n k:Nat) (hn:n + d = 20) (h0:n ≠ 0) (hk:k <= l.length):ordB l n k <+: ord l:=by
 induction d generalizing n k with
 | zero =>
  obtain rfl:n = 20:=by omega
  have:=Zwe l 20 k (l.length - k)
  rwa [show k + (l.length - k) = l.length by omega] at this
 | succ d ih =>
  have h1:=Zwe l n k (l.length - k)
  rw [show k + (l.length - k) = l.length by omega,<- Zgt l n h0] at h1
  exact h1.trans (ih (n + 1) 0 (by omega) (by omega) (by omega))
theorem Zqy (l:List Nat) (n k:Nat) (hn:n <= 20) (h0:n ≠ 0) (hk:k <= l.length):ordB l n k <+: ord l:=Zwf l (20 - n) n k (by omega) h0 hk
theorem Zwg (l:List Nat) (n k:Nat) (hn:n <= 20) (h0:n ≠ 0) (hk:k < l.length) (h:l.getD k 0 = n):(ord l)[(ordB l n k).length]? = some (k,n):=by
 obtain ⟨t,ht⟩:=Zqy l n (k + 1) hn h0 (by omega)
 rw [<- ht,Zes l n k h]
 simp
theorem Zaaf (l:List Nat) (n k:Nat) (hn:n ≠ 0):∀ p ∈ ordB l n k,p.2 <= n:=by
 induction n generalizing k with
 | zero=>omega
 | succ n ih =>
  intro p hp
  simp only [ordB,List.mem_append] at hp
  rcases hp with hp | hp
  ·by_cases h:n = 0
   ·simp [h] at hp
   ·simp only [h,if_false] at hp
    have:=ih l.length h p hp
    omega
  ·simp only [rowOf,List.mem_filterMap,List.mem_range,Option.ite_none_right_eq_some,Option.some.injEq] at hp
   obtain ⟨i,_,_,rfl⟩:=hp
   exact Nat.le_refl _
theorem Zaag (l:List Nat) (n k:Nat) (hn:n <= 20) (h0:n ≠ 0) (hk:k <= l.length) (j:Nat) (hj:j < (ordB l n k).length) :
  ∃ n' k',n' ≠ 0 /\ n' <= 20 /\ k' < l.length /\ l.getD k' 0 = n' /\ (ordB l n' k').length = j:=by
 induction n generalizing k j with
 | zero=>omega
 | succ n ih =>
  induction k generalizing j with
  | zero =>
   by_cases h:n = 0
   ·subst h;rw [Zkw] at hj;simp at hj
   ·rw [Zgt l n h] at hj
    exact ih l.length (by omega) h (Nat.le_refl _) j hj
  | succ k ihk =>
   by_cases h:l.getD k 0 = n + 1
   ·rw [Zes l _ k h,List.length_append] at hj
    simp only [List.length_cons,List.length_nil] at hj
    by_cases e:j < (ordB l (n + 1) k).length
    ·exact ihk (by omega) j e
    ·exact ⟨n + 1,k,by omega,hn,by omega,h,by omega⟩
   ·rw [Zet l _ k h] at hj
    exact ihk (by omega) j hj
theorem Zwi (l:List Nat) (j:Nat) (hj:j < (ord l).length) :
  ∃ n k,n ≠ 0 /\ n <= 20 /\ k < l.length /\ l.getD k 0 = n /\ (ordB l n k).length = j /\ (ord l)[j]? = some (k,n):=by
 obtain ⟨n,k,h1,h2,h3,h4,h5⟩:=Zaag l 20 l.length (by omega) (by omega) (Nat.le_refl _) j hj
 exact ⟨n,k,h1,h2,h3,h4,h5,by rw [<- h5];exact Zwg l n k h2 h1 h3 h4⟩
def accI (l:List Nat) (j:Nat):Nat:=(((ord l).take j).map fun p=>2 ^ (20 - p.2)).sum
def outsI (l:List Nat) (j:Nat):List Nat:=((ord l).take j).foldl (fun o p=>o.set p.1 (word l p.1)) (List.replicate l.length 0)
theorem Zlz (l:List Nat) (j k n:Nat) (h:(ord l)[j]? = some (k,n)):accI l (j + 1) = accI l j + 2 ^ (20 - n):=by
 unfold accI
 rw [List.take_add_one,h]
 simp
theorem Zjf (l:List Nat) (j k n:Nat) (h:(ord l)[j]? = some (k,n)):outsI l (j + 1) = (outsI l j).set k (word l k):=by
 unfold outsI
 rw [List.take_add_one,h]
 simp
theorem Ztx (l:List Nat) (n k:Nat) (hn:n <= 20) (h0:n ≠ 0) (hk:k <= l.length) :
  acc l n k = accI l (ordB l n k).length /\ outs l n k = outsI l (ordB l n k).length:=by
 induction n generalizing k with
 | zero=>omega
 | succ n ih =>
  induction k with
  | zero =>
   by_cases h:n = 0
   ·subst h
    rw [Zkw,Zacm,Zaaj]
    simp [accI,outsI]
   ·rw [Zgt l n h,<- Zacn,<- Zqz]
    exact ih l.length (by omega) h (Nat.le_refl _)
  | succ k ihk =>
   obtain ⟨ih1,ih2⟩:=ihk (by omega)
   have hg:l.getD k 0 = l[k]:=by simp [show k < l.length by omega]
   by_cases h:l.getD k 0 = n + 1
   ·have ha:=Zwg l (n + 1) k hn h0 (by omega) h
    rw [Zes l _ k h,List.length_append]
    simp only [List.length_cons,List.length_nil]
    rw [Zlz l _ k _ ha,Zjf l _ k _ ha,<- ih1,<- ih2,Zty l (n + 1) k (by omega) (by omega) (by omega),Zaai l (n + 1) k (by omega) (by omega) (by omega)]
    refine ⟨rfl,?_⟩
    rw [word,if_neg (by omega),h]
   ·rw [Zet l _ k h,Zyj l (n + 1) k (by omega) (by omega),Zwk l (n + 1) k (by omega) (by omega)]
    exact ⟨ih1,ih2⟩
theorem Zwj (l:List Nat) (h:∀ x ∈ l,x <= 20):outsI l (ord l).length = words l:=by
 rw [<- Zaah l h,<- Zqz]
 exact (Ztx l 20 l.length (by omega) (by omega) (Nat.le_refl _)).2.symm
theorem Zgp (t:List (Nat × Nat)) (f:Nat × Nat -> Nat) (o:List Nat):(t.foldl (fun o p=>o.set p.1 (f p)) o).length = o.length:=by
 induction t generalizing o with
 | nil=>rfl
 | cons a t ih=>simp [ih]
theorem Zne (l:List Nat) (j:Nat):(outsI l j).length = l.length:=by
 unfold outsI;rw [Zgp _ (fun p=>word l p.1)];simp
theorem Zack (l:List Nat) (j:Nat) (h:j < (ord l).length):accI l j <= weight l:=by
 obtain ⟨n,k,h1,h2,h3,h4,h5,h6⟩:=Zwi l j h
 rw [<- h5,<- (Ztx l n k h2 h1 (by omega)).1]
 exact Zabr _ _ _
def bitsI (l:List Nat) (j:Nat):Nat:=if j = 0 then 0 else ((ord l).getD (j - 1) (0,0)).2
theorem Ztv (l:List Nat) (j nx:Nat) (hj:j < (ord l).length) (hw:weight l <= 2 ^ 20) (hx:nx * 2 ^ (20 - bitsI l j) = accI l j) :
  ∃ k n,(ord l)[j]? = some (k,n) /\ k < l.length /\ n ≠ 0 /\ n <= 20 /\ bitsI l j <= n /\ bitsI l (j + 1) = n /\ word l k = nx * 2 ^ (n - bitsI l j) /\ nx * 2 ^ (n - bitsI l j) <= 2 ^ 20 ∧
   (nx * 2 ^ (n - bitsI l j) + 1) * 2 ^ (20 - n) = accI l (j + 1):=by
 obtain ⟨n,k,h1,h2,h3,h4,h5,h6⟩:=Zwi l j hj
 have hb:bitsI l j <= n:=by
  unfold bitsI
  split
  ·omega
  ·rename_i h
   have hp:=Zqy l n k h2 h1 (by omega)
   have hl:j - 1 < (ordB l n k).length:=by omega
   obtain ⟨t,ht⟩:=hp
   have:(ord l).getD (j - 1) (0,0) = (ordB l n k)[j - 1]:=by
    rw [<- ht];simp [List.getD,List.getElem?_append_left hl,List.getElem?_eq_getElem hl]
   rw [this]
   exact Zaaf l n k h1 _ (List.getElem_mem hl)
 have hbn:bitsI l (j + 1) = n:=by simp [bitsI,List.getD,h6]
 have he:20 - bitsI l j = (n - bitsI l j) + (20 - n):=by omega
 have hpow:2 ^ (20 - bitsI l j) = 2 ^ (n - bitsI l j) * 2 ^ (20 - n):=by rw [he,Nat.pow_add]
 have hacc:accI l j = nx * 2 ^ (n - bitsI l j) * 2 ^ (20 - n):=by rw [<- hx,hpow,Nat.mul_assoc]
 have hpos:0 < 2 ^ (20 - n):=Nat.pow_pos (by decide)
 have hal:=Zack l j hj
 rw [hacc] at hal
 have hm:=Nat.le_mul_of_pos_right (nx * 2 ^ (n - bitsI l j)) hpos
 clear he hpow
 refine ⟨k,n,h6,h3,h1,h2,hb,hbn,?_,?_,?_⟩
 ·rw [word,if_neg (by omega),h4,(Ztx l n k h2 h1 (by omega)).1,h5,hacc,Nat.mul_div_cancel _ hpos]
 ·exact Nat.le_trans hm (Nat.le_trans hal hw)
 ·rw [Zlz l j k n h6,hacc,Nat.add_mul,Nat.one_mul]
end Go.Proofs.YtendielanacflaaGreat.M04

namespace Go.Proofs.YtendielanacflaaGreat
open Go.RowKit M04
theorem Zaew:ElemTy Tryz.prog 122 44 .u32 4:=⟨Tryz.underlying122,by kernel_rfl⟩
theorem Zhf:ElemTy Tryz.prog 24 5 .u8 1:=⟨Tryz.underlying24,by kernel_rfl⟩
def WordsOut (w:World) (l:List Nat) (e:Ending) (w':World):Prop :=
 ∃ a cap,e = .returned (.tuple #[.slice a (wordsE l).1.length cap,.int .i64 (wordsE l).2]) /\ OwnN 44 .u32 w' w.heap.size a cap (wordsE l).1 /\ Below w.heap.size w w'
end Go.Proofs.YtendielanacflaaGreat

namespace Go.Proofs.YtendielanacflaaGreat
open Go.RowKit M04
set_option maxHeartbeats 400000 in
theorem Zcm (a:Option Addr) (cap:Nat) (l:List Nat) (w:World) (hr:RowN .u8 w a cap l) (hm:May l) :
  Calls Tryz.prog 124 #[.slice a l.length cap] w fun e w'=>e = .returned (.int .i64 (weight l)) /\ w = w':=by
 have hlen:=hr.len
 obtain ⟨hl,hn⟩:=hm
 go_enter Tryz.func124,Tryz.ntmps124
 go_wp2
 go_loop [3,8] (fun t i=>∃ k:Nat,k <= l.length /\ i = .int .i64 k /\ t = .int .i64 (weight (l.take k))) (fun _ i=>l.length - (intOf i).toNat)
 case atStart=>exact ⟨0,Nat.zero_le _,rfl,rfl⟩
 case round =>
  obtain ⟨k,hk,rfl,rfl⟩:=hrel
  by_cases hlt:k < l.length
  ·obtain ⟨b,off,rfl,hb,hck⟩:=hr.at hlt
   clear hr
   have hx:=hl _ (List.getElem_mem hlt)
   have H:=Zh (Zqa l k hlt)
   have hw:weight (l.take k) <= 512 * 2 ^ 20:=Zeb l k hn
   clear hl
   generalize l[k] = x at *
   generalize weight (l.take k) = s at *
   go_wp2
   ·go_round
    case rel =>
     refine ⟨k + 1,by omega,by go_num,Zep ?_⟩
     have h0:x ≠ 0:=by omega
     have h2:(2:Int) ^ (20 - x) = ((2 ^ (20 - x):Nat):Int):=by simp
     have h3:2 ^ (20 - x) <= 2 ^ 20:=Nat.pow_le_pow_right (by simp) (by omega)
     rw [H.out,h2,wt,if_neg h0]
     generalize 2 ^ (20 - x) = p at *
     rw [IntWalk.wrap64_in p (by omega),IntWalk.wrap64_in _ (by omega)];simp
    case measure=>simp [intOf];omega
   ·go_round
    case rel =>
     refine ⟨k + 1,by omega,by go_num,Zep ?_⟩
     have h0:x = 0:=by omega
     rw [H.out,wt,if_pos h0];simp
    case measure=>simp [intOf];omega
  ·go_wp2
   go_ret
   exact ⟨Zav (by rw [List.take_of_length_le (by omega)]),rfl⟩
set_option maxHeartbeats 400000 in
theorem Ztd (a:Option Addr) (cap:Nat) (l:List Nat) (w:World) (hr:RowN .u8 w a cap l) (h0:0 < l.length) :
  Calls Tryz.prog 148 #[.slice a l.length cap] w fun e w'=>e = .returned (.int .u8 (top l)) /\ w = w':=by
 have hlen:=hr.len
 obtain ⟨b,off,rfl,hb,hc0⟩:=hr.at h0
 simp only [Nat.add_zero] at hc0
 have H0:Hid (top (l.take 1) = l[0]):=by have:=Zrs l 0 h0;simpa [Hid,top] using this
 go_enter Tryz.func148,Tryz.ntmps148
 go_wp2
 go_loop [3,4] (fun t i=>∃ k:Nat,1 <= k /\ k <= l.length /\ i = .int .i64 k /\ t = .int .u8 (top (l.take k))) (fun _ i=>l.length - (intOf i).toNat)
 case atStart=>exact ⟨1,by omega,by omega,rfl,by rw [H0.out]⟩
 case round =>
  obtain ⟨k,hk1,hk,rfl,rfl⟩:=hrel
  by_cases hlt:k < l.length
  ·obtain ⟨b',off',he,hb',hck⟩:=hr.at hlt
   simp only [Option.some.injEq,Addr.mk.injEq,and_true] at he
   obtain ⟨rfl,rfl⟩:=he
   clear hr hc0 H0
   have H:=Zh (Zrs l k hlt)
   generalize l[k] = x at *
   generalize top (l.take k) = s at *
   go_wp2
   go_round
   case rel=>exact ⟨k + 1,by omega,by omega,by go_num,Zep (by rw [H.out];split <;> omega)⟩
   case measure=>simp [intOf];omega
  ·go_wp2
   go_ret
   exact ⟨Zav (by rw [List.take_of_length_le (by omega)]),rfl⟩
set_option maxHeartbeats 400000 in
theorem Zdp (a:Option Addr) (cap:Nat) (l:List Nat) (w:World) (hr:RowN .u8 w a cap l) :
  Calls Tryz.prog 123 #[.slice a l.length cap] w fun e w'=>e = .returned (.bool (mayB l)) /\ w = w':=by
 have hlen:=hr.len
 by_cases h5:l.length <= 512
 ·by_cases h0:l = []
  ·subst h0
   go_enter Tryz.func123,Tryz.ntmps123
   go_wp2
   go_ret
   exact ⟨rfl,rfl⟩
  ·have hp:0 < l.length:=List.length_pos_iff.2 h0
   have hb:((l.length:Int) == 0) = false:=by simp;omega
   have H:Hid (mayB l = decide ((top l:Int) <= 20)):=by
    have:=Zafn l 20
    show decide (May l) = _
    rw [decide_eq_decide,May]
    constructor
    ·intro h;have:=this.2 h.1;omega
    ·intro h;exact ⟨this.1 (by omega),h5⟩
   clear h0
   go_enter Tryz.func123,Tryz.ntmps123
   go_wp2_with (go_at_call 148;refine (Ztd _ _ _ _ hr hp).mono ?_;rintro e w' ⟨rfl,rfl⟩)
   go_ret
   exact ⟨Zat H.out.symm,rfl⟩
 ·have H:Hid (mayB l = false):=by unfold Hid mayB May;simp [h5]
  go_enter Tryz.func123,Tryz.ntmps123
  go_wp2
  go_ret
  exact ⟨Zat H.out.symm,rfl⟩
set_option maxHeartbeats 400000 in
theorem Zbi (a:Option Addr) (cap:Nat) (l:List Nat) (w:World) (hr:RowN .u8 w a cap l) :
  Calls Tryz.prog 89 #[.slice a l.length cap] w fun e w'=>e = .returned (.tuple #[.int .u8 (clsE l).1,.int .i64 (clsE l).2]) /\ w = w':=by
 have hlen:=hr.len
 by_cases hm:May l
 ·have hB:mayB l = true:=by simp [mayB,hm]
  have H:Hid (clsE l = (cls l,0)):=by simp [Hid,clsE,hm]
  have H2:Hid (cls l = if weight l = 0 then 0 else if weight l < 2 ^ 20 then 1 else if weight l = 2 ^ 20 then 2 else 3):=rfl
  have hw:weight l <= 512 * 2 ^ 20:=by have:=Zeb l l.length hm.2;simpa using this
  have HM:=Zh hm
  clear hm
  rcases (by omega:weight l = 0 \/ (weight l ≠ 0 /\ weight l < 2 ^ 20) \/ weight l = 2 ^ 20 \/ 2 ^ 20 < weight l) with c | ⟨c,d⟩ | c | c
  ·have b0:((weight l:Int) == 0) = true:=by simp [c]
   have H3:Hid (cls l = 0):=by rw [Hid,H2.out,if_pos c]
   clear c
   go_enter Tryz.func89,Tryz.ntmps89
   go_wp2_with (first | (go_at_call 123;refine (Zdp _ _ _ _ hr).mono ?_;rintro e w' ⟨rfl,rfl⟩) | (go_at_call 124;refine (Zcm _ _ _ _ hr HM.out).mono ?_;rintro e w' ⟨rfl,rfl⟩))
   go_ret2
   exact ⟨by rw [H.out,H3.out];rfl,rfl⟩
  ·have b0:((weight l:Int) == 0) = false:=by simp [c]
   have b1:decide ((weight l:Int) < 1048576) = true:=by simp;omega
   have H3:Hid (cls l = 1):=by rw [Hid,H2.out,if_neg c,if_pos d]
   clear c
   go_enter Tryz.func89,Tryz.ntmps89
   go_wp2_with (first | (go_at_call 123;refine (Zdp _ _ _ _ hr).mono ?_;rintro e w' ⟨rfl,rfl⟩) | (go_at_call 124;refine (Zcm _ _ _ _ hr HM.out).mono ?_;rintro e w' ⟨rfl,rfl⟩))
   go_ret2
   exact ⟨by rw [H.out,H3.out];rfl,rfl⟩
  ·have b0:((weight l:Int) == 0) = false:=by simp [c]
   have H3:Hid (cls l = 2):=by rw [Hid,H2.out,if_neg (by omega),if_neg (by omega),if_pos c]
   have b1:decide ((weight l:Int) < 1048576) = false:=by simp;omega
   have b2:((weight l:Int) == 1048576) = true:=by simp [c]
   clear c
   go_enter Tryz.func89,Tryz.ntmps89
   go_wp2_with (first | (go_at_call 123;refine (Zdp _ _ _ _ hr).mono ?_;rintro e w' ⟨rfl,rfl⟩) | (go_at_call 124;refine (Zcm _ _ _ _ hr HM.out).mono ?_;rintro e w' ⟨rfl,rfl⟩))
   go_ret2
   exact ⟨by rw [H.out,H3.out];rfl,rfl⟩
  ·have b0:((weight l:Int) == 0) = false:=by simp;omega
   have H3:Hid (cls l = 3):=by rw [Hid,H2.out,if_neg (by omega),if_neg (by omega),if_neg (by omega)]
   have b1:decide ((weight l:Int) < 1048576) = false:=by simp;omega
   have b2:((weight l:Int) == 1048576) = false:=by simp;omega
   clear c
   go_enter Tryz.func89,Tryz.ntmps89
   go_wp2_with (first | (go_at_call 123;refine (Zdp _ _ _ _ hr).mono ?_;rintro e w' ⟨rfl,rfl⟩) | (go_at_call 124;refine (Zcm _ _ _ _ hr HM.out).mono ?_;rintro e w' ⟨rfl,rfl⟩))
   go_ret2
   exact ⟨by rw [H.out,H3.out];rfl,rfl⟩
 ·have hB:mayB l = false:=by simp [mayB,hm]
  have H:Hid (clsE l = (0,5)):=by simp [Hid,clsE,hm]
  clear hm
  go_enter Tryz.func89,Tryz.ntmps89
  go_wp2_with (go_at_call 123;refine (Zdp _ _ _ _ hr).mono ?_;rintro e w' ⟨rfl,rfl⟩)
  go_ret2
  exact ⟨by rw [H.out];rfl,rfl⟩
end Go.Proofs.YtendielanacflaaGreat

namespace Go.Proofs.YtendielanacflaaGreat
open Go.RowKit Go.Shelf M04
attribute [local go_sem] Oper.semAt_some
theorem RowN.same {k:IntKind} {w W:World} {a:Option Addr} {cap:Nat} {l:List Nat} (h:RowN k w a cap l) (hs:w.heap.size <= W.heap.size) (hb:∀ x,0 < l.length -> a = some x -> W.heap[x.block]? = w.heap[x.block]?):RowN k W a cap l:=by
 obtain ⟨h1,h2,h3⟩:=h
 refine ⟨h1,h2,?_⟩
 rcases h3 with h3 | ⟨b,off,rfl,hb',hc⟩
 ·exact .inl h3
 ·exact .inr ⟨b,off,rfl,by omega,fun i hi=>(World.cell?_of_block (a:=⟨b,off + i,none⟩) (hb ⟨b,off,none⟩ (by omega) rfl)).trans (hc i hi)⟩
def orderS (a:Option Addr) (B:Nat) (l:List Nat) (b:Nat):Prop:=b = B \/ (0 < l.length /\ ∃ x,a = some x /\ b = x.block)
def orderRow (l:List Nat) (i:Nat):Array Value:=#[.int .i64 (((ord l).getD i (0,0)).1:Nat),.int .u8 (((ord l).getD i (0,0)).2:Nat)]
theorem Zow (a:Option Addr) (cap:Nat) (l:List Nat) (w:World) :
  Calls Tryz.prog 113 #[.slice a l.length cap] w fun e w'=>e = .returned (.func (.func 145) #[] #[.pointer (some ⟨w.heap.size,0,none⟩)]) /\ w' = w.alloc (.cells #[.slice a l.length cap] 24):=by
 have hmf:∀ (fn:Fn) (first cap:Array Value) (w:World),(Instr.makeFunc fn first cap).run Tryz.prog w = .ok (.func fn first cap) w:=fun _ _ _ _=>rfl
 go_enter Tryz.func113,Tryz.ntmps113
 go_wp2
 go_ret
 exact ⟨rfl,rfl⟩
theorem Zba {n m:Nat} {P:Program} {l:Nat} {f:FuncId} {tmps:Array Value} {assign body:Code} {w:World} {R:Ending -> World -> Prop} (h:RoundIn Fence.wide n P l f tmps assign body w R):RoundIn Fence.wide m P l f tmps assign body w R:=⟨h.1,fun c cs _=>h.2 c cs (room_wide _)⟩
theorem Zpd (l:List Nat) (i k n:Nat) (h:(ord l)[i]? = some (k,n)):i < (ord l).length /\ orderRow l i = #[.int .i64 (k:Nat),.int .u8 (n:Nat)]:=by
 refine ⟨(List.getElem?_eq_some_iff.1 h).1,?_⟩
 simp [orderRow,List.getD,h]
set_option maxHeartbeats 800000 in
theorem Znd (a:Option Addr) (cap:Nat) (l:List Nat) (w:World) (B:Nat) (hr:RowN .u8 w a cap l) (hB:w.heap[B]? = some (.cells #[.slice a l.length cap] 24 (0,0))) :
  Yields Tryz.prog 145 #[.pointer (some ⟨B,0,none⟩)] (ord l).length (orderRow l) (orderS a B l) (fun _=>False) w:=by
 intro y J Jx W hsame hJ hJx hY h0
 have hlen:=hr.len
 have HY:=Zh hY
 clear hJ hJx hY
 refine callsIn_of_wp Tryz.func145 rfl trivial ?_ rfl
 simp only [Tryz.ntmps145,List.size_toArray,List.length_cons,List.length_nil,Nat.reduceAdd,Nat.reduceSub,Array.replicate_succ,Array.replicate_zero,List.push_toArray,List.append_toArray,List.nil_append,List.cons_append]
 gi_wp2
 gi_loopw [3] (fun n A=>∃ k:Nat,1 <= k /\ k <= 21 /\ n = .int .u8 k /\ SameOn (orderS a B l) w A /\ J (if k = 21 then (ord l).length else (ordB l k 0).length) A) (fun n _=>21 - (intOf n).toNat)
 case atStart=>exact ⟨1,by omega,by omega,rfl,hsame,by simpa [Zkw] using h0⟩
 case round =>
  obtain ⟨n,h1,h21,rfl,hsameA,hJA⟩:=hrel
  by_cases hn:n <= 20
  ·rw [if_neg (by omega)] at hJA
   have hbn:decide ((n:Int) <= 20) = true:=by simp;omega
   have hbox:wr.cell? ⟨B,0,none⟩ = some (.slice a l.length cap):=cell_of_one ((hsameA.same B (.inl rfl)).trans hB)
   gi_wp2
   gi_loopw [12] (fun i A=>∃ k:Nat,k <= l.length /\ i = .int .i64 k /\ SameOn (orderS a B l) w A /\ J (ordB l n k).length A) (fun i _=>l.length - (intOf i).toNat)
   case atStart=>exact ⟨0,by omega,rfl,hsameA,hJA⟩
   case round =>
    clear hJA hsameA hbox
    obtain ⟨k,hk,rfl,hsameA,hJA⟩:=hrel
    by_cases hlt:k < l.length
    ·have hrA:=hr.same hsameA.size (fun x h0 hx=>hsameA.same _ (.inr ⟨h0,x,hx,rfl⟩))
     obtain ⟨b,off,rfl,hb,hck⟩:=hrA.at hlt
     have hg:l.getD k 0 = l[k]:=by simp [hlt]
     by_cases hx:l[k] = n
     ·obtain ⟨hi,hrow⟩:=Zpd l _ k n (Zwg l n k hn (by omega) hlt (by omega))
      have hyy:=HY.out _ _ hi hJA
      rw [hrow] at hyy
      obtain ⟨fn,tmps,assign,body,hy,hR⟩:=hyy
      have H:=Zh (Zes l n k (by omega))
      have hbx:((l[k]:Int) == (n:Int)) = true:=by simp;omega
      clear hx hg hrow
      have HJ:=Zh hJA
      have HR:=Zh hR
      have HI:=Zh hi
      clear hJA hR hi
      generalize l[k] = x at *
      gi_wp2
      refine (Zba HR.out).mono ?_
      rintro e W' (⟨rfl,hJ',hk'⟩ | ⟨rfl,hJx'⟩)
      ·gi_wp2
       go_roundw
       case rel=>exact ⟨k + 1,by omega,by go_num,hsameA.trans hk',by rw [H.out];simpa using hJ'⟩
       case measure=>simp [intOf];omega
      ·gi_wp2
       refine bodyPost_ret (results_none rfl _ _ _) rfl ?_
       exact ⟨⟨_,rfl⟩,.inr ⟨_,HI.out,hJx'⟩⟩
     ·have H:=Zh (Zet l n k (by omega))
      have hbx:((l[k]:Int) == (n:Int)) = false:=by simp;omega
      have HJ:=Zh hJA
      clear hx hg hJA
      generalize l[k] = x at *
      gi_wp2
      refine ⟨fun _ h=>(by cases h),?_⟩
      gi_wp2
      go_roundw
      case rel=>exact ⟨k + 1,by omega,by go_num,hsameA,by rw [H.out];exact HJ.out⟩
      case measure=>simp [intOf];omega
    ·obtain rfl:k = l.length:=by omega
     have HJ:=Zh hJA
     have H:Hid (ordB l n l.length = if n + 1 = 21 then ord l else ordB l (n + 1) 0):=by
      unfold Hid;split
      ·obtain rfl:n = 20:=by omega
       rfl
      ·exact (Zgt l n (by omega)).symm
     clear hJA
     gi_wp2
     go_roundw
     case rel =>
      refine ⟨n + 1,by omega,by omega,by go_num,hsameA,?_⟩
      have h3:=HJ.out
      rw [H.out] at h3
      split <;> simp_all
     case measure=>simp [intOf];omega
  ·obtain rfl:n = 21:=by omega
   rw [if_pos rfl] at hJA
   have HJ:=Zh hJA
   clear hJA
   gi_wp2
   go_end0
   exact ⟨⟨_,rfl⟩,.inl HJ.out⟩
theorem four (w:World) (o1 o2 o3 o4:Obj):((((w.alloc o1).alloc o2).alloc o3).alloc o4).heap.size = w.heap.size + 4 /\ ((((w.alloc o1).alloc o2).alloc o3).alloc o4).heap[w.heap.size]? = some o1 /\ ((((w.alloc o1).alloc o2).alloc o3).alloc o4).heap[w.heap.size + 1]? = some o2 ∧
  ((((w.alloc o1).alloc o2).alloc o3).alloc o4).heap[w.heap.size + 2]? = some o3 /\ ((((w.alloc o1).alloc o2).alloc o3).alloc o4).heap[w.heap.size + 3]? = some o4 /\ Below w.heap.size w ((((w.alloc o1).alloc o2).alloc o3).alloc o4):=by
 have h1:=World.alloc_heap_new w o1
 have h2:=World.alloc_heap_new (w.alloc o1) o2
 have h3:=World.alloc_heap_new ((w.alloc o1).alloc o2) o3
 have h4:=World.alloc_heap_new (((w.alloc o1).alloc o2).alloc o3) o4
 simp only [World.size_alloc] at h2 h3 h4
 refine ⟨by simp,?_,?_,?_,h4,(((((Below.refl _ w).alloc (Nat.le_refl _) _).alloc (by simp) _).alloc (by simp;omega) _).alloc (by simp;omega) _)⟩
 ·rw [Below.heap_alloc _ _ _ (by simp only [World.size_alloc];omega),Below.heap_alloc _ _ _ (by simp only [World.size_alloc];omega),Below.heap_alloc _ _ _ (by simp)];exact h1
 ·rw [Below.heap_alloc _ _ _ (by simp only [World.size_alloc];omega),Below.heap_alloc _ _ _ (by simp)];exact h2
 ·rw [Below.heap_alloc _ _ _ (by simp)];exact h3
theorem Zqb (l:List Nat) (w:World) (B1:Nat) (a:Option Addr) (N k n m:Nat) (o:List Nat) (A:World) {v1 v2 v3:Value}
  (h1:A.heap[B1 + 1]? = some (.cells #[v1] 44)) (h3:A.heap[B1 + 2]? = some (.cells #[v2] 5)) (h4:A.heap[B1]? = some (.cells #[v3] 122))
  (h5:OwnN 44 .u32 A w.heap.size (some ⟨w.heap.size,0,none⟩) l.length o) (h6:Below w.heap.size w A) (hbl:∀ x,0 < l.length -> a = some x -> x.block < w.heap.size) (hlt:w.heap.size < B1) (hA:B1 + 4 <= A.heap.size) :
  let B:=(((A.setCell ⟨B1 + 1,0,none⟩ (.int .u32 m)).setCell ⟨w.heap.size,k,none⟩ (.int .u32 m)).setCell ⟨B1 + 1,0,none⟩ (.int .u32 ((m + 1:Nat):Int))).setCell ⟨B1 + 1 + 1,0,none⟩ (.int .u8 n)
  KeepsFrom N A B /\ SameOn (orderS a (B1 + 3) l) A B /\ B.heap[B1 + 1]? = some (.cells #[.int .u32 ((m + 1:Nat):Int)] 44) /\ B.heap[B1 + 2]? = some (.cells #[.int .u8 n] 5) /\ B.heap[B1]? = some (.cells #[v3] 122) ∧
   OwnN 44 .u32 B w.heap.size (some ⟨w.heap.size,0,none⟩) l.length (o.set k m) /\ Below w.heap.size w B:=by
 intro B
 have s1:=one_setCell (u:=.int .u32 m) h1
 have s2:=(Below.heap_setCell (A.setCell ⟨B1 + 1,0,none⟩ (.int .u32 m)) ⟨w.heap.size,k,none⟩ (.int .u32 m) (B1 + 1) (by show B1 + 1 ≠ w.heap.size;omega)).trans s1
 have s3:=one_setCell (u:=.int .u32 ((m + 1:Nat):Int)) s2
 have t1:=(Below.heap_setCell A ⟨B1 + 1,0,none⟩ (.int .u32 m) (B1 + 2) (by show B1 + 2 ≠ B1 + 1;omega)).trans h3
 have t2:=(Below.heap_setCell (A.setCell ⟨B1 + 1,0,none⟩ (.int .u32 m)) ⟨w.heap.size,k,none⟩ (.int .u32 m) (B1 + 2) (by show B1 + 2 ≠ w.heap.size;omega)).trans t1
 have t3:=(Below.heap_setCell ((A.setCell ⟨B1 + 1,0,none⟩ (.int .u32 m)).setCell ⟨w.heap.size,k,none⟩ (.int .u32 m)) ⟨B1 + 1,0,none⟩ (.int .u32 ((m + 1:Nat):Int)) (B1 + 2) (by show B1 + 2 ≠ B1 + 1;omega)).trans t2
 have u1:=(Below.heap_setCell A ⟨B1 + 1,0,none⟩ (.int .u32 m) B1 (by show B1 ≠ B1 + 1;omega)).trans h4
 have u2:=(Below.heap_setCell (A.setCell ⟨B1 + 1,0,none⟩ (.int .u32 m)) ⟨w.heap.size,k,none⟩ (.int .u32 m) B1 (by show B1 ≠ w.heap.size;omega)).trans u1
 have u3:=(Below.heap_setCell ((A.setCell ⟨B1 + 1,0,none⟩ (.int .u32 m)).setCell ⟨w.heap.size,k,none⟩ (.int .u32 m)) ⟨B1 + 1,0,none⟩ (.int .u32 ((m + 1:Nat):Int)) B1 (by show B1 ≠ B1 + 1;omega)).trans u2
 have ne:∀ p:Addr,p.block ≠ w.heap.size -> ∀ g,some (⟨w.heap.size,0,none⟩:Addr) = some ⟨g,0,none⟩ -> p.block ≠ g:=fun p hp g hg=>by
  simp only [Option.some.injEq,Addr.mk.injEq,and_true] at hg;rw [<- hg];exact hp
 refine ⟨((((KeepsOthers.setCell _ _ _).trans (KeepsOthers.setCell _ _ _)).trans (KeepsOthers.setCell _ _ _)).trans (KeepsOthers.setCell _ _ _)).from _,?_,?_,one_setCell t3,?_,?_,?_⟩
 ·refine (((((Only.refl (fun b=>b = w.heap.size \/ b = B1 + 1 \/ b = B1 + 2) A).setCell (.inl (.inr (.inl rfl))) _).setCell (.inl (.inl rfl)) _).setCell (.inl (.inr (.inl rfl))) _).setCell (.inl (.inr (.inr rfl))) _).sameOn ?_
  rintro b (rfl | ⟨h0,x,hx,rfl⟩)
  ·exact ⟨by omega,by omega⟩
  ·have:=hbl x h0 hx
   exact ⟨by omega,by omega⟩
 ·exact (Below.heap_setCell _ _ _ _ (by show B1 + 1 ≠ B1 + 1 + 1;omega)).trans s3
 ·exact (Below.heap_setCell _ _ _ _ (by show B1 ≠ B1 + 1 + 1;omega)).trans u3
 ·exact OwnN.other (OwnN.other (OwnN.stored (OwnN.other h5 (ne _ (by show B1 + 1 ≠ _;omega)) _) k m).1 (ne _ (by show B1 + 1 ≠ _;omega)) _) (ne _ (by show B1 + 1 + 1 ≠ _;omega)) _
 ·exact (((h6.setCell (by show w.heap.size <= B1 + 1;omega) _).setCell (Nat.le_refl _) _).setCell (by show w.heap.size <= B1 + 1;omega) _).setCell (by show w.heap.size <= B1 + 1 + 1;omega) _
theorem Zqd (l:List Nat):cls l = 3 ↔ 2 ^ 20 < weight l:=by
 unfold cls
 split
 ·omega
 ·split
  ·omega
  ·split <;> omega
set_option maxHeartbeats 800000 in
theorem Zhk (a:Option Addr) (cap:Nat) (l:List Nat) (w:World) (hr:RowN .u8 w a cap l) :
  Calls Tryz.prog 77 #[.slice a l.length cap] w (WordsOut w l):=by
 have hlen:=hr.len
 by_cases hm:May l
 case neg =>
  have H:Hid (wordsE l = ([],5)):=by simp [Hid,wordsE,hm]
  have HC:clsE l = (0,5):=by simp [clsE,hm]
  clear hm
  go_enter Tryz.func77,Tryz.ntmps77
  go_wp2_with (go_at_call 89;refine (Zbi _ _ _ _ hr).mono ?_;rintro e w' ⟨rfl,rfl⟩;rw [HC])
  go_ret2
  unfold WordsOut
  rw [H.out]
  exact ⟨none,0,rfl,OwnN.nil _ _ _ _,Below.refl _ _⟩
 have HC:clsE l = (cls l,0):=by simp [clsE,hm]
 by_cases ho:2 ^ 20 < weight l
 ·have H:Hid (wordsE l = ([],2)):=by simp only [Hid,wordsE,hm,ho,not_true,if_false,if_true]
  have H3:=(Zqd l).2 ho
  rw [H3] at HC
  clear hm ho H3
  go_enter Tryz.func77,Tryz.ntmps77
  go_wp2_with (go_at_call 89;refine (Zbi _ _ _ _ hr).mono ?_;rintro e w' ⟨rfl,rfl⟩;rw [HC])
  go_ret2
  unfold WordsOut
  rw [H.out]
  exact ⟨none,0,rfl,OwnN.nil _ _ _ _,Below.refl _ _⟩
 have H:Hid (wordsE l = (words l,0)):=by simp only [Hid,wordsE,hm,ho,not_true,if_false]
 have h3:((cls l:Int) == 3) = false:=by have:=Zqd l;simp;omega
 have h512:l.length <= 512:=hm.2
 have HM:=Zh hm
 have HO:weight l <= 2 ^ 20:=by omega
 have HCC:=Zh HC
 clear hm ho HC
 refine (callsIn_wide (n:=9)).1 ?_
 refine callsIn_of_wp_marks Tryz.func77 rfl trivial ?_ rfl
 simp only [Tryz.ntmps77,List.size_toArray,List.length_cons,List.length_nil,Nat.reduceAdd,Nat.reduceSub,Array.replicate_succ,Array.replicate_zero,List.push_toArray,List.append_toArray,List.nil_append,List.cons_append]
 gi_wp2_with (first | (refine ⟨trivial,?_⟩;gi_at_call 89;refine (callsIn_wide.2 (Zbi _ _ _ _ hr)).mono ?_;rintro e w' ⟨rfl,rfl⟩;rw [HCC.out]) | (gi_at_make;refine makeNIn Zaew rfl _ _ rfl w.heap.size rfl rfl (by omega) (by omega) (Nat.le_refl _) ?_;intro w1 hown hg) | (refine ⟨trivial,?_⟩;gi_at_call 113;refine (callsIn_wide.2 (Zow _ _ _ _)).mono ?_;rintro e w' ⟨rfl,rfl⟩))
 obtain ⟨hz,hb0,hb1,hb2,hb3,hbel⟩:=four w1 (.cells #[.slice (some ⟨w.heap.size,0,none⟩) l.length l.length] 122) (.cells #[.int .u32 0] 44) (.cells #[.int .u8 0] 5) (.cells #[.slice a l.length cap] 24)
 have h01:w.heap.size < w1.heap.size:=by
  obtain ⟨g,he,_,hlt⟩:=(hown.form).resolve_left (by simp)
  simp only [Option.some.injEq,Addr.mk.injEq,and_true] at he
  omega
 have hB1:Below w.heap.size w w1:=Below.of_grown hg (Nat.le_refl _) (fun k e=>by cases e)
 have hB4:=hB1.trans (hbel.mono hB1.size)
 have hown4:=hown.below hbel
 clear hbel hown hg
 generalize (((w1.alloc (Obj.cells #[Value.slice (some ⟨w.heap.size,0,none⟩) l.length l.length] 122)).alloc (Obj.cells #[Value.int .u32 0] 44)).alloc (Obj.cells #[Value.int .u8 0] 5)).alloc (Obj.cells #[Value.slice a l.length cap] 24) = W0 at *
 have hr4:RowN .u8 W0 a cap l:=hr.below hB4
 refine Zhs (g:=.tmp 27) (gf:=145) (lb:=#[.pointer (some ⟨w1.heap.size + 3,0,none⟩)]) rfl (enters_of Tryz.func145 (by kernel_rfl) rfl)
  (Znd a cap l W0 (w1.heap.size + 3) hr4 hb3) (SameOn.refl _ _) ?hS (fun _ h=>h.elim) (fun _=>rfl)
  (fun i A=>(∃ nx:Nat,A.heap[w1.heap.size + 1]? = some (.cells #[.int .u32 nx] 44) /\ nx * 2 ^ (20 - bitsI l i) = accI l i) /\ A.heap[w1.heap.size + 2]? = some (.cells #[.int .u8 (bitsI l i:Nat)] 5) ∧
   A.heap[w1.heap.size]? = some (.cells #[.slice (some ⟨w.heap.size,0,none⟩) l.length l.length] 122) /\ OwnN 44 .u32 A w.heap.size (some ⟨w.heap.size,0,none⟩) l.length (outsI l i) /\ Below w.heap.size w A)
  (fun _ _ _=>False) ?hI ?hIp (fun _ _ _ _ h _=>h) (fun _ _ _ _ _ _ h _ _ _=>h) ?h0 ?a1 ?assign ?body ?done (fun _ _ _ _ h _=>h.elim)
 case hS =>
  rintro b (rfl | ⟨h0,x,hx,rfl⟩)
  ·omega
  ·obtain ⟨b',off,he,hlt,_⟩:=hr4.at h0
   rw [hx] at he
   cases he
   exact hlt
 case hI =>
  rintro i A B ⟨⟨nx,h1,h2⟩,h3,h4,h5,h6⟩ ho
  exact ⟨⟨nx,Zah h1 ho id,h2⟩,Zah h3 ho id,Zah h4 ho id,h5.only ho (fun _ _=>id),Below.only h6 ho (Nat.le_refl _) (fun _ h=>h.elim)⟩
 case hIp =>
  rintro i A r o o' ⟨⟨nx,h1,h2⟩,h3,h4,h5,h6⟩ hr0 hro hoc
  exact ⟨⟨nx,Zal h1 hro hoc,h2⟩,Zal h3 hro hoc,Zal h4 hro hoc,h5.put hro hoc _,Below.put h6 (Nat.le_refl _) hro (by omega) _⟩
 case h0=>exact ⟨⟨0,hb1,by simp [accI]⟩,hb2,hb0,by simpa [outsI] using hown4,hB4⟩
 case assign =>
  intro y i W K hK
  simp only [orderRow]
  gi_wp2
  exact hK
 case body =>
  rintro y i hi A hz2 ⟨⟨nx,h1,h2⟩,h3,h4,h5,h6⟩
  obtain ⟨k,n,hrow,hk,hn0,hn20,hbn,hbn1,hwd,hnx,hac⟩:=Ztv l i nx hi HO h2
  have hp:(ord l).getD i (0,0) = (k,n):=by simp [List.getD,hrow]
  have hp':(ord l)[i]?.getD (0,0) = (k,n):=by simp [hrow]
  simp only [hp']
  obtain ⟨g,he,_,hg2,hcell,hfree⟩:=h5.at (i:=k) (by rw [Zne];exact hk)
  simp only [Option.some.injEq,Addr.mk.injEq,and_true] at he
  subst he
  have c1:=cell_of_one h1
  have f1:=free_of_one h1
  have c2:=cell_of_one h3
  have f2:=free_of_one h3
  have c3:=cell_of_one h4
  have HX:=Zh hwd
  have HY:=Zh hac
  have HZ:=Zh hbn1
  have HR:=Zh hrow
  have H1:=Zh h1
  have H3:=Zh h3
  have H4:=Zh h4
  clear hrow hp hp' hwd hac hbn1 hb0 hb1 hb2 hb3 h1 h3 h4 h2
  generalize bitsI l i = bt at *
  have hlt1:w.heap.size < w1.heap.size:=h01
  gi_wp2
  have hm:((nx:Int) * 2 ^ (n - bt)) % 4294967296 = ((nx * 2 ^ (n - bt):Nat):Int):=by
   have h2:(2:Int) ^ (n - bt) = ((2 ^ (n - bt):Nat):Int):=by simp
   rw [h2,<- Int.natCast_mul]
   generalize nx * 2 ^ (n - bt) = m at *
   omega
  have hm1:((nx:Int) * 2 ^ (n - bt) + 1) % 4294967296 = ((nx * 2 ^ (n - bt) + 1:Nat):Int):=by
   have h2:(2:Int) ^ (n - bt) = ((2 ^ (n - bt):Nat):Int):=by simp
   rw [h2,<- Int.natCast_mul]
   generalize nx * 2 ^ (n - bt) = m at *
   omega
  simp only [hm,hm1]
  have hbl:∀ x,0 < l.length -> a = some x -> x.block < w.heap.size:=fun x h0 hx=>by
   obtain ⟨b',off,he,hlt,_⟩:=hr.at h0
   rw [hx] at he
   cases he
   exact hlt
  obtain ⟨q1,q2,q3,q4,q5,q6,q7⟩:=Zqb l w w1.heap.size a W0.heap.size k n (nx * 2 ^ (n - bt)) (outsI l i) A H1.out H3.out H4.out h5 h6 hbl hlt1 (by omega)
  refine ⟨q1,q2,⟨nx * 2 ^ (n - bt) + 1,q3,by rw [HZ.out];exact HY.out⟩,by rw [HZ.out];exact q4,q5,?_,q7⟩
  rw [Zjf l i k n HR.out,HX.out]
  exact q6
 case done =>
  rintro A ⟨⟨nx,h1,h2⟩,h3,h4,h5,h6⟩ hD
  have c3:=cell_of_one h4
  clear h1 h2 h3 h4
  gi_wp2
  refine ⟨by simp,.inl ⟨_,_,rfl,run_takeDeferred hD,?_⟩⟩
  refine ⟨_,results_tmp2 rfl _ _ _,?_⟩
  unfold WordsOut
  rw [H.out]
  rw [Zwj l HM.out.1] at h5
  refine ⟨some ⟨w.heap.size,0,none⟩,l.length,?_,h5.put hD rfl _,Below.put h6 (Nat.le_refl _) hD (by omega) _⟩
  simp [Zbl]
end Go.Proofs.YtendielanacflaaGreat

namespace Go.Proofs.YtendielanacflaaGreat.M01
def bit (bs:List Nat) (i:Nat):Nat:=bs.getD (i / 8) 0 / 2 ^ (i % 8) % 2
def num (bs:List Nat) (at_:Nat):Nat -> Nat
 | 0=>0
 | n + 1=>num bs at_ n + bit bs (at_ + n) * 2 ^ n
end Go.Proofs.YtendielanacflaaGreat.M01

namespace Go.Proofs.YtendielanacflaaGreat
open Go.RowKit Go.Shelf M01
theorem eqNilT (w:World):(binOp .eql 24 (.slice none 0 0) (.slice none 0 0)).run Tryz.prog w = .ok (.bool true) w:=by kernel_rfl
theorem eqNilF (x:Addr) (n c:Nat) (w:World):(binOp .eql 24 (.slice (some x) n c) (.slice none 0 0)).run Tryz.prog w = .ok (.bool false) w:=by kernel_rfl
set_option maxRecDepth 100000 in
theorem Zgm (w:World) (a:Option Addr) (cap:Nat) (l:List Nat) (hr:RowN .u8 w a cap l) (hl:l.length <= 100000000) :
  Calls Tryz.prog 58 #[.slice a l.length cap] w fun e w'=>∃ a' c',e = .returned (.slice a' l.length c') /\ OwnN 5 .u8 w' w.heap.size a' c' l /\ Below w.heap.size w w':=by
 by_cases ha:a = none
 ·subst ha
  have h0:cap = 0:=hr.2.1.2 rfl
  subst h0
  have hl0:l = []:=List.eq_nil_of_length_eq_zero (by have:=hr.1;omega)
  subst hl0
  clear hr
  go_enter Tryz.func58,Tryz.ntmps58
  go_wp2_with fail
  rw [eqNilT]
  go_wp2
  go_ret
  exact ⟨none,0,rfl,OwnN.nil _ _ _ _,Below.refl _ _⟩
 ·obtain ⟨x,rfl⟩:=Option.ne_none_iff_exists'.1 ha
  clear ha
  go_enter Tryz.func58,Tryz.ntmps58
  go_wp2_with fail
  rw [eqNilF]
  go_wp2_with (at_builtin;refine appAnyN Zhf rfl (.tmp 5) (.tmp 6) rfl (a:=some ⟨w.heap.size,0,none⟩) (cap:=0) (l:=[]) (ys:=l) (base:=w.heap.size) rfl (OwnN.lit0 _ _ _ _ (Nat.le_refl _)) rfl rfl (hr.below ((Below.refl _ _).alloc (Nat.le_refl _) _)) (by simp;omega) (by simp;omega) (by simp) ?_;intro a1 cap1 w1 hown1 hg1 hb1;simp only [List.nil_append] at hown1;simp only [List.length_nil,Nat.zero_add])
  go_ret
  exact ⟨a1,cap1,rfl,hown1,((Below.refl w.heap.size w).alloc (Nat.le_refl _) _).trans hb1⟩
end Go.Proofs.YtendielanacflaaGreat

namespace Go.Proofs.YtendielanacflaaGreat.M06
abbrev TF:=Nat -> Nat -> Option Int
def putF (F:TF) (x k:Nat) (v:Int):TF:=fun x' k'=>if x' = x /\ k' = k then some v else F x' k'
def tabK (x n:Nat) (F:TF):Nat -> TF
 | 0=>F
 | k + 1=>putF (tabK x n F k) (x / 2 ^ (n - k)) k (-1)
def tabI (lens ws:List Nat):Nat -> TF
 | 0=>fun _ _=>none
 | i + 1=>if lens.getD i 0 = 0 then tabI lens ws i else tabK (ws.getD i 0) (lens.getD i 0) (putF (tabI lens ws i) (ws.getD i 0) (lens.getD i 0) i) (lens.getD i 0)
end Go.Proofs.YtendielanacflaaGreat.M06

namespace Go.Proofs.YtendielanacflaaGreat
open Go.RowKit Go.Maps M06
theorem Zabg:laidOutB Tryz.prog = true:=by kernel_rfl
theorem Zrv:(129:TypeId) < Tryz.prog.types.size:=of_decide_eq_true (by kernel_rfl)
theorem Zyh:(match Tryz.prog.underlying 129 with | some (.array _ _) | some (.struct _)=>true | _=>false) = true:=by rw [Tryz.underlying129]
set_option maxRecDepth 100000 in
theorem Zgx:Keyed Tryz.prog 129:=Keyed.of_law (deep_law_laid Zabg (m:=2) (by omega) Zrv (by kernel_rfl) Zyh)
theorem Zyg:Tryz.prog.keyType 129 = true:=by kernel_rfl
def wordV (x k:Nat):Value:=.agg #[.int .u32 (x:Nat),.int .u8 (k:Nat)]
theorem Zue {x m:Nat} (h:x < m + 1):(x:Int) <= (m:Int):=Int.ofNat_le.2 (Nat.le_of_lt_succ h)
theorem Zabq (x k:Nat) (hx:x < 4294967296) (hk:k < 256):∃ kl,keyOf Tryz.prog 129 (wordV x k) = some kl:=by
 have c101:Tryz.prog.cellsOf 129 = 2:=by kernel_rfl
 have c36:Tryz.prog.cellsOf 44 = 1:=by kernel_rfl
 have c5:Tryz.prog.cellsOf 5 = 1:=by kernel_rfl
 obtain ⟨m,hm⟩:∃ m,Tryz.prog.types.size = m + 1:=by
  have h:=Zrv
  revert h
  generalize Tryz.prog.types.size = n
  intro h
  cases n with
  | zero=>exact absurd h (Nat.not_lt_zero _)
  | succ n=>exact ⟨n,rfl⟩
 have wx:(Lit.int .u32 (x:Int)).wf = true:=WalkArith.wf_u32 ⟨Int.natCast_nonneg _,Zue (m:=4294967295) hx⟩
 have wk:(Lit.int .u8 (k:Int)).wf = true:=WalkArith.wf_u8 ⟨Int.natCast_nonneg _,Zue (m:=255) hk⟩
 refine ⟨.string (keyBytes [.int .u32 (x:Int),.int .u8 (k:Int)]),?_⟩
 unfold keyOf wordV
 simp only [Tryz.underlying129]
 rw [if_pos (by simp [Zyg,Value.formed,Tryz.underlying129,c101]),hm]
 unfold Program.keyLits
 simp only [Tryz.underlying129,Value.cells]
 rw [if_pos ⟨by rw [c101];rfl,by decide +kernel⟩]
 simp [c36,c5,Program.keyLits,Tryz.underlying44,Tryz.underlying5,wx,wk]
theorem Zabp {x k x' k':Nat} (h:wordV x k = wordV x' k'):x = x' /\ k = k':=by
 unfold wordV at h
 simp only [Value.agg.injEq,Array.mk.injEq,List.cons.injEq,Value.int.injEq,true_and,and_true] at h
 omega
def MapF (w:World) (b n:Nat) (F:Nat -> Nat -> Option Int):Prop :=
 ∃ D:DataW Unit,w.ownsMap Tryz.prog 129 (plainElem Tryz.prog 3) b n D /\ IsMap D ∧
  ∀ x k kl,keyOf Tryz.prog 129 (wordV x k) = some kl -> Maps.has D kl = (F x k).isSome /\ D.atKey kl (.lit (.int .i64 0)) = .lit (.int .i64 ((F x k).getD 0))
theorem Zvx (w:World):MapF (w.alloc (.map #[] 0)) w.heap.size 0 (fun _ _=>none) :=
 ⟨.map [],World.ownsMap_made _ _ _ _,isMap_empty,fun x k kl _=>⟨rfl,rfl⟩⟩
theorem MapF.kept {w w':World} {b n:Nat} {F:Nat -> Nat -> Option Int} {row:Option Nat} (h:MapF w b n F) (hg:w.grownBy w' row) (hne:some b ≠ row):MapF w' b n F:=by
 obtain ⟨D,h1,h2⟩:=h
 exact ⟨D,h1.kept hg hne,h2⟩
theorem MapF.lt {w:World} {b n:Nat} {F:Nat -> Nat -> Option Int} (h:MapF w b n F):b < w.heap.size:=by
 obtain ⟨D,h1,_⟩:=h
 exact h1.lt
theorem MapF.put {w:World} {b n:Nat} {F:Nat -> Nat -> Option Int} (h:MapF w b n F) (hn:n < maxLen) (x k:Nat) (v:Int) (hx:x < 4294967296) (hk:k < 256) (hv:-1000000 <= v /\ v <= 1000000) :
  ∃ w',(Instr.mapUpdate 125 (.map (some b)) (wordV x k) (.int .i64 v)).run Tryz.prog w = .ok () w' /\ MapF w' b (n + 1) (putF F x k v) /\ w.grownBy w' (some b):=by
 obtain ⟨D,h1,hD,h2⟩:=h
 obtain ⟨kl,hkl⟩:=Zabq x k hx hk
 have wv:(Lit.int .i64 v).wf = true:=WalkArith.wf_i64 (by omega)
 obtain ⟨w',hrun,hown,hg⟩:=h1.update Zgx Tryz.underlying125 hn hkl (plainElem_int Tryz.underlying3 wv)
 refine ⟨w',hrun,⟨_,hown,hD.put _ _,fun x' k' kl' hkl'=>?_⟩,hg⟩
 unfold putF
 by_cases he:kl' = kl
 ·subst he
  have:=Zgx.inj hkl' hkl
  obtain ⟨rfl,rfl⟩:=Zabp this
  rw [if_pos ⟨rfl,rfl⟩]
  exact ⟨by rw [has_put_same hD (Zgx.key hkl)];rfl,atKey_put_same hD (Zgx.key hkl) _ _⟩
 ·have hne:¬ (x' = x /\ k' = k):=fun ⟨h3,h4⟩=>by
   subst h3 h4
   rw [hkl] at hkl'
   exact he (Option.some.inj hkl').symm
  rw [if_neg hne]
  obtain ⟨g1,g2⟩:=h2 x' k' kl' hkl'
  exact ⟨by rw [has_put_other he];exact g1,by rw [atKey_put_other he];exact g2⟩
end Go.Proofs.YtendielanacflaaGreat

namespace Go.Proofs.YtendielanacflaaGreat.M04
def start (l:List Nat) (i:Nat):Nat:=acc l (l.getD i 0) i
def size (l:List Nat) (i:Nat):Nat:=2 ^ (20 - l.getD i 0)
theorem Zaan (l:List Nat) {n k n' k' j:Nat} (h:n < n' \/ n = n' /\ k <= k') (hp:pre l n k j):pre l n' k' j:=by
 unfold pre at *;omega
theorem Zyk (l:List Nat) {n k n' k':Nat} (h:n < n' \/ n = n' /\ k <= k'):acc l n k <= acc l n' k':=S_le fun j _=>by
 by_cases hp:pre l n k j
 ·rw [if_pos hp,if_pos (Zaan l h hp)];exact Nat.le_refl _
 ·rw [if_neg hp];exact Nat.zero_le _
theorem Znx (l:List Nat) (i:Nat) (hi:i < l.length) (h0:l.getD i 0 ≠ 0):acc l (l.getD i 0) (i + 1) = start l i + size l i :=
 Zty l _ i h0 hi (by simp [hi])
theorem Zaaz (l:List Nat) (i:Nat) (hi:i < l.length) (h0:l.getD i 0 ≠ 0):start l i + size l i <= weight l:=by
 rw [<- Znx l i hi h0];exact Zabr _ _ _
theorem Zgn (l:List Nat) (i k:Nat) (hi:i < l.length) (h0:l.getD i 0 ≠ 0) (h:l.getD i 0 < l.getD k 0 \/ l.getD i 0 = l.getD k 0 /\ i < k):start l i + size l i <= start l k:=by
 rw [<- Znx l i hi h0];exact Zyk l (by omega)
theorem Zaav (l:List Nat) (i:Nat):0 < size l i:=Nat.pow_pos (by decide)
theorem Ztg (l:List Nat) (i:Nat) (h0:l.getD i 0 ≠ 0):start l i = word l i * size l i:=by
 rw [word,if_neg h0]
 exact (Nat.div_mul_cancel (Zacl l _ i)).symm
def hit (l:List Nat) (row i:Nat):Prop:=l.getD i 0 ≠ 0 /\ row / size l i = word l i
instance (l:List Nat) (row i:Nat):Decidable (hit l row i):=by unfold hit;infer_instance
theorem apart (l:List Nat) (i k:Nat) (hi:i < l.length) (hk:k < l.length) (h0:l.getD i 0 ≠ 0) (h1:l.getD k 0 ≠ 0) (hne:i ≠ k):start l i + size l i <= start l k \/ start l k + size l k <= start l i:=by
 by_cases h:l.getD i 0 < l.getD k 0 \/ l.getD i 0 = l.getD k 0 /\ i < k
 ·exact .inl (Zgn l i k hi h0 h)
 ·exact .inr (Zgn l k i hk h1 (by omega))
theorem Zgc (l:List Nat) (i:Nat) (hi:i < l.length) (h20:∀ x ∈ l,x <= 20) (hw:weight l <= 2 ^ 20):word l i / 2 ^ l.getD i 0 = 0:=by
 by_cases h0:l.getD i 0 = 0
 ·rw [word,if_pos h0];exact Nat.zero_div _
 ·have h1:=Zaaz l i hi h0
  have h2:=Ztg l i h0
  have h3:=Zaav l i
  have h4:=Zaw h20 i
  have h5:size l i * 2 ^ l.getD i 0 = 2 ^ 20:=by unfold size;rw [<- Nat.pow_add];congr 1;omega
  refine Nat.div_eq_of_lt ?_
  rw [h2] at h1
  have h6:word l i * size l i < 2 ^ l.getD i 0 * size l i:=by rw [Nat.mul_comm (2 ^ _),h5];omega
  exact Nat.lt_of_mul_lt_mul_right h6
theorem Zdi (l:List Nat) (i:Nat) (hi:i < (words l).length):(words l)[i] = word l i:=by simp [words]
end Go.Proofs.YtendielanacflaaGreat.M04

namespace Go.Proofs.YtendielanacflaaGreat
open Go.RowKit Go.Shelf M04 M06
theorem RowN.keptR {k:IntKind} {w w':World} {a:Option Addr} {cap:Nat} {l:List Nat} {row:Option Nat} (h:RowN k w a cap l) (hg:w.grownBy w' row) (hr:∀ x,a = some x -> row ≠ some x.block):RowN k w' a cap l:=by
 obtain ⟨h1,h2,h3⟩:=h
 refine ⟨h1,h2,?_⟩
 rcases h3 with h3 | ⟨b,off,rfl,hb',hc⟩
 ·exact .inl h3
 ·exact .inr ⟨b,off,rfl,Nat.lt_of_lt_of_le hb' hg.size,fun i hi=>(World.cell?_of_block (a:=⟨b,off + i,none⟩) (hg.block b hb' (fun e=>hr _ rfl e.symm))).trans (hc i hi)⟩
theorem Zaek (l:List Nat) (i:Nat) (hi:i < l.length) (h20:∀ x ∈ l,x <= 20) (hw:weight l <= 2 ^ 20):word l i < 2 ^ 20:=by
 have h:=Zgc l i hi h20 hw
 have h2:word l i < 2 ^ l.getD i 0:=by
  rcases Nat.lt_or_ge (word l i) (2 ^ l.getD i 0) with h3 | h3
  ·exact h3
  ·have:=Nat.div_pos h3 (Nat.pow_pos (by decide))
   omega
 exact Nat.lt_of_lt_of_le h2 (Nat.pow_le_pow_right (by decide) (Zaw h20 i))
theorem Zog (j m:Nat) (h:j < m) (hm:m <= 20):min (IntKind.u8.wrap (m - j:Int)).toNat 32 = m - j:=by
 have h2:IntKind.u8.wrap (m - j:Int) = ((m - j:Nat):Int):=by
  unfold IntKind.wrap IntKind.signed IntKind.bits
  simp only [Bool.false_and]
  rw [if_neg (by decide)]
  omega
 rw [h2]
 omega
theorem Ziy {w w':World} {row:Option Nat} (h:w.grownBy w' row):w.grownBy w'.drew row:=⟨h.os,h.tape,h.output,h.size,h.block⟩
theorem cells3' {w:World} {b:Nat} {x y z:Value} {t:TypeId} (h:w.heap[b]? = some (.cells #[x,y,z] t (0,0))):w.cell? ⟨b,2,none⟩ = some z:=by
 simp [World.cell?,h]
theorem Zil {ops:Array Oper} {rest:List Oper} {o:Oper} {ac:Act} {w:World} {Q:Exit -> Act -> World -> Prop} {b n X k:Nat} {F:TF} {v:Int} (hgd:o.guard = none) (mo xo vo:Operand) (hop:o.op = Op.mapUpdate 125 mo xo vo)
  (hm:ac.eval mo = .map (some b)) (hx:ac.eval xo = wordV X k) (hv:ac.eval vo = .int .i64 v) (h:MapF w b n F) (hn:n < 1000000) (hX:X < 4294967296) (hk:k < 256) (hb:-1000000 <= v /\ v <= 1000000)
  (hK:∀ w',MapF w' b (n + 1) (putF F X k v) -> w.grownBy w' (some b) -> wpList Tryz.prog ops Q rest (ac.put o.dst undef) w'):wpList Tryz.prog ops Q (o :: rest) ac w:=by
 refine wpList_plain hgd fun K hK'=>?_
 obtain ⟨w',hrun,h1,h2⟩:=h.put (by unfold maxLen;omega) X k v hX hk hb
 unfold Oper.wp
 simp [execOp,hop,hm,hx,hv,hrun,Result.andThen]
 exact hK' _ _ (hK w' h1 h2)
def Tb (lo hi:Nat) (w:World) (p:Nat) (l:List Nat):Prop :=
 ∃ a1 c1 a2 c2 mb n,w.heap[p]? = some (.cells #[.slice a1 l.length c1,.slice a2 l.length c2,.map (some mb)] 127 (0,0)) /\ RowN .u8 w a1 c1 l /\ RowN .u32 w a2 c2 (words l) /\ MapF w mb n (tabI l (words l) l.length) /\ hi <= w.heap.size ∧
  (lo <= p /\ p < hi) /\ (lo <= mb /\ mb < hi) /\ (∀ x,a1 = some x -> lo <= x.block /\ x.block < hi) /\ (∀ x,a2 = some x -> lo <= x.block /\ x.block < hi)
theorem MapF.same {w w':World} {b n:Nat} {F:Nat -> Nat -> Option Int} (h:MapF w b n F) (hs:w'.heap[b]? = w.heap[b]?):MapF w' b n F:=by
 obtain ⟨D,⟨es,clock,hb,h1⟩,h2⟩:=h
 exact ⟨D,⟨es,clock,hs.trans hb,h1⟩,h2⟩
theorem Tb.only {T:Nat -> Prop} {lo hi p:Nat} {w w':World} {l:List Nat} (h:Tb lo hi w p l) (ho:Only T w w') (hT:∀ b,lo <= b -> b < hi -> ¬ T b):Tb lo hi w' p l:=by
 obtain ⟨a1,c1,a2,c2,mb,n,h1,h2,h3,h4,hs,hp,hm,h5,h6⟩:=h
 refine ⟨a1,c1,a2,c2,mb,n,Zah h1 ho (hT p hp.1 hp.2),?_,?_,h4.same (ho.block mb (by omega) (hT mb hm.1 hm.2)),Nat.le_trans hs ho.size,hp,hm,h5,h6⟩
 ·exact h2.same ho.size (fun x h0 hx=>ho.block _ (by have:=(h5 x hx).2;omega) (hT _ (h5 x hx).1 (h5 x hx).2))
 ·exact h3.same ho.size (fun x h0 hx=>ho.block _ (by have:=(h6 x hx).2;omega) (hT _ (h6 x hx).1 (h6 x hx).2))
set_option maxRecDepth 100000 in
set_option maxHeartbeats 1600000 in
theorem Zdw (a:Option Addr) (cap:Nat) (l:List Nat) (w:World) (hr:RowN .u8 w a cap l) :
  Calls Tryz.prog 41 #[.slice a l.length cap] w fun e w'=>Below w.heap.size w w' /\ if (wordsE l).2 = 0 then ∃ p,e = .returned (.tuple #[.pointer (some ⟨p,0,none⟩),.int .i64 0]) /\ Tb w.heap.size w'.heap.size w' p l else e = .returned (.tuple #[.pointer none,.int .i64 (wordsE l).2]):=by
 by_cases hm:May l /\ weight l <= 2 ^ 20
 case neg =>
  have he:(wordsE l).2 = 5 \/ (wordsE l).2 = 2:=by
   unfold wordsE
   by_cases h1:May l
   ·rw [if_neg (by simpa using h1),if_pos (by rw [not_and] at hm;have:=hm h1;omega)];exact .inr rfl
   ·rw [if_pos h1];exact .inl rfl
  have HE:=Zh he
  have H0:Hid ((wordsE l).2 ≠ 0):=by unfold Hid;omega
  have HW:=Zh (Zhk a cap l w hr)
  clear hm he
  generalize hwe:wordsE l = we at *
  obtain ⟨w1l,er⟩:=we
  have HWE:=Zh hwe
  clear hwe
  have hb:(er == 0) = false:=by have:=H0.out;simpa using this
  go_enter Tryz.func41,Tryz.ntmps41
  go_wp2_with fail
  refine HW.out.mono ?_
  rintro e w1 ⟨a1,c1,rfl,_,hb1⟩
  rw [HWE.out]
  rcases HE.out with h5 | h5
  ·obtain rfl:er = 5:=h5
   go_wp2
   go_ret2
   exact ⟨hb1,rfl⟩
  ·obtain rfl:er = 2:=h5
   go_wp2
   go_ret2
   exact ⟨hb1,rfl⟩
 obtain ⟨hmay,hwt⟩:=hm
 have hwe:wordsE l = (words l,0):=by
  unfold wordsE
  rw [if_neg (by simpa using hmay),if_neg (by omega)]
 have h512:=hmay.2
 have H20:=Zh hmay.1
 have HWT:=Zh hwt
 have HW:=Zh (Zhk a cap l w hr)
 unfold WordsOut at HW
 rw [hwe,Zbl] at HW
 rw [hwe]
 simp only [if_true]
 clear hwe hmay hwt
 go_enter Tryz.func41,Tryz.ntmps41
 go_wp2_with fail
 refine HW.out.mono ?_
 rintro e w1 ⟨a1,c1,rfl,ho1,hb1⟩
 clear HW
 have HO1:=Zh ho1
 have HB1:=Zh hb1
 clear ho1 hb1
 go_wp2_with fail
 refine (Zgm w1 a cap l (hr.below HB1.out) (by omega)).mono ?_
 rintro e w2 ⟨a2,c2,rfl,ho2,hb2⟩
 have HO2:=Zh ho2
 have HB2:=Zh (HB1.out.trans (hb2.mono HB1.out.size))
 have HOW:=Zh (HO1.out.below hb2)
 clear ho2 hb2 HO1
 have hmm:=@run_makeMap Tryz.prog
 go_wp2_with fail
 obtain ⟨W0,hW0⟩:∃ W0,(w2.alloc (.map #[] 0)).alloc (.cells #[.slice a2 l.length c2,.slice a1 l.length c1,.map (some w2.heap.size)] 127) = W0:=⟨_,rfl⟩
 have hz0:W0.heap.size = w2.heap.size + 2:=by rw [<- hW0];simp
 have hp0:W0.heap[w2.heap.size + 1]? = some (.cells #[.slice a2 l.length c2,.slice a1 l.length c1,.map (some w2.heap.size)] 127 (0,0)):=by
  rw [<- hW0];have:=World.alloc_heap_new (w2.alloc (.map #[] 0)) (.cells #[.slice a2 l.length c2,.slice a1 l.length c1,.map (some w2.heap.size)] 127);rwa [World.size_alloc] at this
 have hb0:Below w2.heap.size w2 W0:=by rw [<- hW0];exact ((Below.refl _ _).alloc (Nat.le_refl _) _).alloc (by simp) _
 have hM0:MapF W0 w2.heap.size 0 (fun _ _=>none):=by rw [<- hW0];exact (Zvx w2).kept (World.grownBy_alloc _ _ none) (by simp)
 simp only [hW0]
 have hO0:=HOW.out.below hb0
 have hL0:=HO2.out.below hb0
 have hB0:Below w.heap.size w W0:=HB2.out.trans (hb0.mono HB2.out.size)
 have hr0:=hr.below hB0
 have hsz:=HB2.out.size
 have hne:∀ {base cap:Nat} {a:Option Addr} {k:IntKind} {E:TypeId} {L:List Nat},OwnN E k w2 base a cap L -> ∀ x,a = some x -> base <= x.block /\ x.block < w2.heap.size:=by
  intro base cap a k E L h x hx
  rcases h.form with ⟨h1,_⟩ | ⟨g,h1,hb,h2⟩
  ·rw [h1] at hx;cases hx
  ·rw [h1] at hx;cases hx;exact ⟨hb,h2⟩
 have hnw:∀ x,a1 = some x -> w.heap.size <= x.block /\ x.block < w2.heap.size:=hne HOW.out
 have hnl:∀ x,a2 = some x -> w.heap.size <= x.block /\ x.block < w2.heap.size:=fun x hx=>⟨Nat.le_trans HB1.out.size (hne HO2.out x hx).1,(hne HO2.out x hx).2⟩
 have hna:∀ x,0 < l.length -> a = some x -> x.block < w.heap.size:=fun x h0 hx=>by
  obtain ⟨b',off,he,hlt,_⟩:=hr.at h0
  rw [hx] at he;cases he;exact hlt
 have HNW:=Zh hnw
 have HNL:=Zh hnl
 have HNA:=Zh hna
 have HP0:=Zh hp0
 have HB0:=Zh hB0
 have HR0:=Zh hr0
 have HRW:=Zh hO0.row
 have HRL:=Zh hL0.row
 have HM0:=Zh hM0
 generalize hmbd:w2.heap.size = mb at *
 clear hW0 hp0 hb0 hM0 hO0 hL0 hB0 hr0 hne hnw hnl hna HO2 HOW hmm HB2
 go_loopw [7,8,9,26,45] (fun _ _ _ i _ A=>∃ k:Nat,k <= l.length /\ i = .int .i64 k /\ W0.grownBy A (some mb) /\ ∃ n,n <= k * 32 /\ MapF A mb n (tabI l (words l) k)) (fun _ _ _ i _ _=>l.length - (intOf i).toNat)
 case atStart=>exact ⟨0,by omega,rfl,⟨rfl,rfl,rfl,Nat.le_refl _,fun _ _ _=>rfl⟩,0,by omega,HM0.out⟩
 case round =>
  obtain ⟨k,hk,rfl,hg,n,hn,hM⟩:=hrel
  have HG:=Zh hg
  have HM:=Zh hM
  clear hg hM
  by_cases hlt:k < l.length
  ·obtain ⟨b,off,rfl,hb,hck⟩:=HR0.out.at hlt
   have hbw:b < w.heap.size:=HNA.out _ (by omega) rfl
   have hck':wr.cell? ⟨b,off + k,none⟩ = some (.int .u8 (l[k]:Nat)):=(World.cell?_of_block (a:=⟨b,off + k,none⟩) (HG.out.block b hb (by intro e;cases e;omega))).trans hck
   have hx20:=H20.out _ (List.getElem_mem hlt)
   have hgl:l.getD k 0 = l[k]:=by simp [hlt]
   have HI:=Zh (show tabI l (words l) (k + 1) = if l.getD k 0 = 0 then tabI l (words l) k else tabK ((words l).getD k 0) (l.getD k 0) (putF (tabI l (words l) k) ((words l).getD k 0) (l.getD k 0) k) (l.getD k 0) from rfl)
   by_cases hx0:l[k] = 0
   ·have HI0:Hid (tabI l (words l) (k + 1) = tabI l (words l) k):=by rw [Hid,HI.out,if_pos (by rw [hgl];exact hx0)]
    rw [hx0] at hck'
    clear hck hx0 hgl hx20 HI
    go_wp2
    go_roundw
    case rel=>exact ⟨k + 1,by omega,by go_num,HG.out,n,by omega,by rw [HI0.out];exact HM.out⟩
    case measure=>simp [intOf];omega
   ·have hwl:=Zaek l k hlt H20.out HWT.out
    have hgw:(words l).getD k 0 = word l k:=by simp [words,hlt]
    have HI1:Hid (tabI l (words l) (k + 1) = tabK (word l k) l[k] (putF (tabI l (words l) k) (word l k) l[k] k) l[k]):=by rw [Hid,HI.out,if_neg (by rw [hgl];exact hx0),hgw,hgl]
    obtain ⟨bw,ow,rfl,hbw2,hcw⟩:=HRW.out.at (i:=k) (by rw [Zbl];exact hlt)
    rw [Zdi] at hcw
    have hbwl:bw < mb:=(HNW.out _ rfl).2
    have HCW:=Zh hcw
    have hcw':wr.cell? ⟨bw,ow + k,none⟩ = some (.int .u32 (word l k:Nat)):=(World.cell?_of_block (a:=⟨bw,ow + k,none⟩) (HG.out.block bw hbw2 (by intro e;cases e;omega))).trans hcw
    have hpt:wr.cell? ⟨mb + 1,2,none⟩ = some (.map (some mb)):=by
     have:=(HG.out.block (mb + 1) (by omega) (by intro e;cases e)).trans HP0.out
     exact (cells3' this)
    have b0:((l[k]:Int) == 0) = false:=by simp;omega
    clear hck hcw hx0 hgl HI hgw
    generalize word l k = x at *
    generalize l[k] = m at *
    go_wp2_with fail
    go_still_tail 11,(by kernel_rfl)
    change wpList _ _ _ _ _ wr.drew
    refine Zil (b:=mb) (n:=n) (X:=x) (k:=m) (v:=(k:Int)) (F:=tabI l (words l) k) rfl (.tmp 36) (.tmp 42) (.tmp 43) rfl rfl rfl rfl HM.out (by omega) (Nat.lt_trans hwl (by decide)) (by omega) (by omega) ?_
    intro w5 hM5 hg5
    have HG5:=Zh (show W0.grownBy w5 (some mb) from (Ziy HG.out).trans hg5)
    have HM5:=Zh hM5
    clear hM5 hg5 HG HM hcw' hpt hck'
    generalize putF (tabI l (words l) k) x m k = F0 at *
    go_wp2_with fail
    go_loopw [9,45] (fun _ i A=>∃ j:Nat,j <= m /\ i = .int .u8 j /\ W0.grownBy A (some mb) /\ MapF A mb (n + 1 + j) (tabK x m F0 j)) (fun _ i _=>m - (intOf i).toNat)
    case atStart=>exact ⟨0,by omega,rfl,HG5.out,HM5.out⟩
    case round =>
     clear HG5 HM5
     obtain ⟨j,hj,rfl,hg,hM⟩:=hrel
     have HG:=Zh hg
     have HM:=Zh hM
     clear hg hM
     by_cases hjl:j < m
     ·have hcw':wr.cell? ⟨bw,ow + k,none⟩ = some (.int .u32 (x:Nat)):=(World.cell?_of_block (a:=⟨bw,ow + k,none⟩) (HG.out.block bw hbw2 (by intro e;cases e;omega))).trans HCW.out
      have hpt:wr.cell? ⟨mb + 1,2,none⟩ = some (.map (some mb)):=by
       have:=(HG.out.block (mb + 1) (by omega) (by intro e;cases e)).trans HP0.out
       exact (cells3' this)
      go_wp2_with fail
      go_still_tail 14,(by kernel_rfl)
      change wpList _ _ _ _ _ wr.drew
      refine Zil (b:=mb) (n:=n + 1 + j) (X:=x / 2 ^ (m - j)) (k:=j) (v:=-1) (F:=tabK x m F0 j) rfl (.tmp 51) (.tmp 61) (.const (.int .i64 (-1))) rfl rfl ?hx rfl HM.out (by omega) (Nat.lt_of_le_of_lt (Nat.div_le_self _ _) (Nat.lt_trans hwl (by decide))) (by omega) (by omega) ?_
      case hx =>
       show _ = wordV _ _
       unfold wordV
       refine congrArg (fun z=>Value.agg #[z,_]) ?_
       rw [Zog j m hjl hx20]
       exact congrArg (Value.int IntKind.u32) (by rw [Int.natCast_ediv,Int.natCast_pow];rfl)
      intro w6 hM6 hg6
      have HG6:=Zh (show W0.grownBy w6 (some mb) from (Ziy HG.out).trans hg6)
      have HM6:=Zh hM6
      clear hM6 hg6 HG HM hcw' hpt
      go_wp2
      go_roundw
      case rel=>exact ⟨j + 1,by omega,by go_num,HG6.out,HM6.out⟩
      case measure=>simp [intOf];omega
     ·obtain rfl:j = m:=by omega
      go_wp2
      go_roundw
      case rel=>exact ⟨k + 1,by omega,by go_num,HG.out,n + 1 + j,by omega,by rw [HI1.out];exact HM.out⟩
      case measure=>simp [intOf];omega
  ·obtain rfl:k = l.length:=by omega
   go_wp2
   go_ret2
   have hwz:=HG.out.size
   refine ⟨HB0.out.trans (Below.of_grown HG.out HB0.out.size (by intro x hx;cases hx;exact hsz)),mb + 1,rfl,⟨a2,c2,a1,c1,mb,n,?_,?_,?_,HM.out,Nat.le_refl _,⟨by omega,by omega⟩,⟨hsz,by omega⟩,?_,?_⟩⟩
   ·exact (HG.out.block (mb + 1) (by omega) (by intro e;cases e)).trans HP0.out
   ·exact HRL.out.keptR HG.out (fun y hy e=>by cases e;have:=HNL.out _ hy;omega)
   ·exact HRW.out.keptR HG.out (fun y hy e=>by cases e;have:=HNW.out _ hy;omega)
   ·exact fun y hy=>by have:=HNL.out _ hy;omega
   ·exact fun y hy=>by have:=HNW.out _ hy;omega
end Go.Proofs.YtendielanacflaaGreat
