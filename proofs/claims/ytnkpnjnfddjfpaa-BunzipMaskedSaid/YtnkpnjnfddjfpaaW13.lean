/- bunzip.Bunzip: what stays from stream to stream. A region that leaves seventeen slots; the rest of the frame stays. A drawn region with guards, inside a round: operations may be passed over. -/
import Derived.Test.YtnkpnjnfddjfpaaW01
import Derived.Test.YtnkpnjnfddjfpaaW06
import Derived.Test.YtnkpnjnfddjfpaaW09
import Derived.Test.YtnkpnjnfddjfpaaW12
set_option linter.unusedVariables false
set_option linter.unusedSimpArgs false
namespace Go.Proofs.Ytnkpnjnfddjfpaa
open Go.RowKit Go.Shelf M01 M02 M27
def BzOut (w:World) (n:Nat) (R:Option BzF) (e:Ending) (w':World):Prop :=
 Below w.heap.size w w' /\ match R with
 | some F=>∃ a c,e = .returned (.tuple #[.agg #[.slice a F.bytes.length c,.int .i64 (F.size:Nat),.int .i64 (n:Nat),.bool F.wrong],.int .i64 0]) /\ RowN .u8 w' a c F.bytes
 | none=>e = .returned (.tuple #[.agg #[.slice none 0 0,.int .i64 0,.int .i64 0,.bool false],.int .i64 2])
def BzK (w:World) (keep rp:Nat) (ns:List Nat) (F:BzF) (A:World):Prop :=
 (∃ a c,ZRes (w.heap.size + 1) A (.slice a F.bytes.length c) (.int .i64 (F.size:Nat)) (.int .i64 0) (.bool F.wrong) (.int .i64 0) /\ OwnN 5 .u8 A (rp + 1) a c F.bytes) ∧
  A.heap[w.heap.size]? = some (.cells #[.int .i64 (keep:Nat)] 3 (0,0)) /\ (∀ r ∈ ns,rp < r /\ A.heap[r]? = some (.deferred (some []))) /\ Below w.heap.size w A /\ w.heap.size + 3 <= rp /\ rp < A.heap.size
theorem BzK.only {w A B:World} {T:Nat -> Prop} {keep rp:Nat} {ns:List Nat} {F:BzF} (h:BzK w keep rp ns F A) (ho:Only T A B) (h0:∀ b,T b -> w.heap.size + 3 <= b) (hn:∀ r ∈ ns,¬ T r) (hu:∀ g cs fr,T g -> A.heap[g]? = some (.cells cs 5 fr) -> g <= rp):BzK w keep rp ns F B:=by
 obtain ⟨⟨a,c,h1,h2⟩,h3,h4,h5,h6,h7⟩:=h
 refine ⟨⟨a,c,h1.only ho (fun t=>by have:=h0 _ t;omega) (fun t=>by have:=h0 _ t;omega),?_⟩,Zac h3 ho (fun t=>by have:=h0 _ t;omega),fun r hr=>⟨(h4 r hr).1,Zac (h4 r hr).2 ho (hn r hr)⟩,Below.only h5 ho (Nat.le_refl _) (fun b t=>by have:=h0 _ t;omega),h6,Nat.lt_of_lt_of_le h7 ho.size⟩
 refine h2.onlyG2 ho (fun g hg t=>?_)
 rcases h2.2 with ⟨e,_⟩ | ⟨g2,c2,cur,e,e1,e2,_⟩
 ·rw [hg] at e;cases e
 ·rw [hg] at e
  simp only [Value.slice.injEq,Option.some.injEq,Addr.mk.injEq,and_true] at e
  obtain ⟨rfl,_⟩:=e
  have:=hu _ _ _ t e2
  omega
theorem three (w:World) (x y z:Obj):((((w.alloc x).alloc y).alloc z).heap.size = w.heap.size + 3 /\ (((w.alloc x).alloc y).alloc z).heap[w.heap.size]? = some x /\ (((w.alloc x).alloc y).alloc z).heap[w.heap.size + 1]? = some y /\ (((w.alloc x).alloc y).alloc z).heap[w.heap.size + 1 + 1]? = some z /\ Below w.heap.size w (((w.alloc x).alloc y).alloc z)):=by
 have e1:=World.alloc_heap_new w x
 have e2:=World.alloc_heap_new (w.alloc x) y
 have e3:=World.alloc_heap_new ((w.alloc x).alloc y) z
 simp only [World.size_alloc] at e2 e3
 refine ⟨by simp,?_,?_,e3,?_⟩
 ·rw [Below.heap_alloc _ _ _ (by simp;omega),Below.heap_alloc _ _ _ (by simp)];exact e1
 ·rw [Below.heap_alloc _ _ _ (by simp)];exact e2
 ·exact (((Below.refl _ _).alloc (Nat.le_refl _) _).alloc (by simp) _).alloc (by simp;omega) _
theorem Zga {P:Program} {fn:Func} {tmps:Array Value} {R:Ending -> World -> Prop} {u:FrameMode} (hu:u ≠ .run) (ds:List Deferred) (N:Nat) (M:World -> Prop) (hM:∀ w r,N <= r -> M w -> w.heap[r]? = some (.deferred (some [])) -> M (w.putObj r (.deferred none))) (h:∀ w,M w -> LeavesC P fn tmps R ds u w) :
  ∀ (ns:List Nat) (w:World),ns.Nodup -> (∀ r ∈ ns,N <= r /\ w.heap[r]? = some (.deferred (some []))) -> M w -> LeavesC P fn tmps R (marksD ns ds) u w
 | [],w,_,_,hw=>h w hw
 | r :: ns,w,hn,hr,hw=>by
  rw [List.nodup_cons] at hn
  refine ⟨hu,.inl ⟨r,_,rfl,run_takeDeferred (hr r (List.mem_cons_self ..)).2,?_⟩⟩
  refine Zga hu ds N M hM h ns _ hn.2 (fun k hk=>⟨(hr k (List.mem_cons_of_mem _ hk)).1,?_⟩) (hM w r (hr r (List.mem_cons_self ..)).1 hw (hr r (List.mem_cons_self ..)).2)
  rw [World.putObj_heap_other (by intro e;exact hn.1 (e ▸ hk))]
  exact (hr k (List.mem_cons_of_mem _ hk)).2
theorem OwnN.putMark {E:TypeId} {k:IntKind} {A:World} {base c r:Nat} {a:Option Addr} {l:List Nat} (h:OwnN E k A base a c l) (hr:A.heap[r]? = some (.deferred (some []))):OwnN E k (A.putObj r (.deferred none)) base a c l:=by
 refine h.onlyG2 ((Only.refl (fun b=>b = r) A).putLoop (r:=r) rfl _) (fun g hg e=>?_)
 have e:g = r:=e
 subst e
 rcases h.2 with ⟨e,_⟩ | ⟨g2,c2,cur,e,e1,e2,_⟩
 ·rw [hg] at e;cases e
 ·rw [hg] at e
  simp only [Value.slice.injEq,Option.some.injEq,Addr.mk.injEq,and_true] at e
  obtain ⟨rfl,_⟩:=e
  rw [hr] at e2
  cases e2
theorem ZRes.putMark {q r:Nat} {A:World} {x0 x1 x2 x3 z:Value} (h:ZRes q A x0 x1 x2 x3 z) (hr:A.heap[r]? = some (.deferred (some []))):ZRes q (A.putObj r (.deferred none)) x0 x1 x2 x3 z:=by
 refine h.only ((Only.refl (fun b=>b = r) A).putLoop (r:=r) rfl _) (fun e=>?_) (fun e=>?_)
 ·have e:q = r:=e
  rw [<- e,h.1] at hr;cases hr
 ·have e:q + 1 = r:=e
  rw [<- e,h.2] at hr;cases hr
theorem Zrj {w A:World} {n base c:Nat} {F:BzF} {R:Option BzF} {tmps:Array Value} {ns:List Nat} {a:Option Addr} (hR:R = some F) (h:ZRes (w.heap.size + 1) A (.slice a F.bytes.length c) (.int .i64 (F.size:Nat)) (.int .i64 (n:Nat)) (.bool F.wrong) (.int .i64 0)) (ho:OwnN 5 .u8 A base a c F.bytes) (hb:Below w.heap.size w A)
  (hns:∀ r ∈ ns,w.heap.size <= r /\ A.heap[r]? = some (.deferred (some []))) (hnd:ns.Nodup) (t4:tmps.getD 4 undef = .pointer (some ⟨w.heap.size + 1,0,none⟩)) (t5:tmps.getD 5 undef = .pointer (some ⟨w.heap.size + 1 + 1,0,none⟩)) :
  LeavesC Try.prog Try.f10 tmps (BzOut w n R) (marksD ns (bzDef (w.heap.size + 1))) .returning A:=by
 subst hR
 refine Zga (by simp) _ w.heap.size (fun A=>ZRes (w.heap.size + 1) A (.slice a F.bytes.length c) (.int .i64 (F.size:Nat)) (.int .i64 (n:Nat)) (.bool F.wrong) (.int .i64 0) /\ OwnN 5 .u8 A base a c F.bytes /\ Below w.heap.size w A) ?_ ?_ ns A hnd hns ⟨h,ho,hb⟩
 ·rintro B r hn ⟨h1,h2,h3⟩ hr
  exact ⟨h1.putMark hr,h2.putMark hr,Below.only h3 ((Only.refl (fun b=>b = r) B).putLoop (r:=r) rfl _) (Nat.le_refl _) (fun b e=>by have e:b = r:=e;omega)⟩
 ·rintro B ⟨h1,h2,h3⟩
  exact Zxy h1 t4 t5 ⟨h3,a,c,rfl,h2.row⟩
theorem Zkz {w A:World} {n:Nat} {x0 x1 x2 x3 z:Value} {R:Option BzF} {tmps:Array Value} {ns:List Nat} (hR:R = none) (h:ZRes (w.heap.size + 1) A x0 x1 x2 x3 z) (hb:Below w.heap.size w A)
  (hns:∀ r ∈ ns,w.heap.size <= r /\ A.heap[r]? = some (.deferred (some []))) (hnd:ns.Nodup) (t4:tmps.getD 4 undef = .pointer (some ⟨w.heap.size + 1,0,none⟩)) (t5:tmps.getD 5 undef = .pointer (some ⟨w.heap.size + 1 + 1,0,none⟩)) :
  LeavesC Try.prog Try.f10 tmps (BzOut w n R) (marksD ns (bzDef (w.heap.size + 1))) (.panicking formP) A:=by
 subst hR
 refine Zga (by simp) _ w.heap.size (fun A=>ZRes (w.heap.size + 1) A x0 x1 x2 x3 z /\ Below w.heap.size w A) ?_ ?_ ns A hnd hns ⟨h,hb⟩
 ·rintro B r hn ⟨h1,h3⟩ hr
  exact ⟨h1.putMark hr,Below.only h3 ((Only.refl (fun b=>b = r) B).putLoop (r:=r) rfl _) (Nat.le_refl _) (fun b e=>by have e:b = r:=e;omega)⟩
 ·rintro B ⟨h1,h3⟩
  refine Zrk h1 t4 t5 ⟨?_,rfl⟩
  unfold setZ
  exact (((((h3.setCell (p:=⟨w.heap.size + 1,0,none⟩) (Nat.le_succ _) _).setCell (p:=⟨w.heap.size + 1,1,none⟩) (Nat.le_succ _) _).setCell (p:=⟨w.heap.size + 1,2,none⟩) (Nat.le_succ _) _).setCell (p:=⟨w.heap.size + 1,3,none⟩) (Nat.le_succ _) _).setCell (p:=⟨w.heap.size + 1 + 1,0,none⟩) (by show w.heap.size <= w.heap.size + 1 + 1;omega) _)
def BzR (w:World) (keep rp fb:Nat) (ns:List Nat) (z m:Nat) (S:BzF × Nat) (A:World):Prop :=
 BzK w keep rp ns S.1 A /\ A.heap[fb]? = some (.cells #[.int .u32 (S.2:Nat)] 54 (0,0)) /\ S.1.bytes.length <= keep /\ S.1.size <= z + 255000000 * m /\ S.2 < 4294967296 /\ A.heap[fb + 1]? = some (.cells #[.pointer (some ⟨rp,0,none⟩)] 52 (0,0))
theorem BzR.only {w A B:World} {T:Nat -> Prop} {keep rp fb z m:Nat} {ns:List Nat} {S:BzF × Nat} (h:BzR w keep rp fb ns z m S A) (ho:Only T A B) (h0:∀ b,T b -> w.heap.size + 3 <= b) (hn:∀ r ∈ ns,¬ T r) (hu:∀ g cs fr,T g -> A.heap[g]? = some (.cells cs 5 fr) -> g <= rp) (hf:¬ T fb) (hf1:¬ T (fb + 1)):BzR w keep rp fb ns z m S B :=
 ⟨h.1.only ho h0 hn hu,Zac h.2.1 ho hf,h.2.2.1,h.2.2.2.1,h.2.2.2.2.1,Zac h.2.2.2.2.2 ho hf1⟩
theorem BzR.put {w A:World} {keep rp fb z m l n:Nat} {ns:List Nat} {S:BzF × Nat} (h:BzR w keep rp fb ns z m S A) {o o':Obj} (hl:A.heap[l]? = some o) (ho:o.isCells = false) (hn:n <= l) (hns:∀ r ∈ ns,r < n) (hw:w.heap.size + 3 <= n) (hf:fb + 1 < n):BzR w keep rp fb ns z m S (A.putObj l o') :=
 h.only ((Only.refl (fun b=>b = l) A).putLoop (r:=l) rfl _) (fun b e=>by have e:b = l:=e;omega) (fun r hr e=>by have e:r = l:=e;have:=hns r hr;omega) (fun g cs fr e hg=>by
  have e:g = l:=e
  subst e
  rw [hl] at hg
  cases hg
  cases ho) (fun e=>by have e:fb = l:=e;omega) (fun e=>by have e:fb + 1 = l:=e;omega)
theorem RowN.putNon {k:IntKind} {A:World} {a:Option Addr} {c l:Nat} {x:List Nat} (h:RowN k A a c x) {o o':Obj} (hl:A.heap[l]? = some o) (ho:o.isCells = false):RowN k (A.putObj l o') a c x:=by
 refine h.same (by rw [World.putObj_size];exact Nat.le_refl _) (fun y h0 hy=>World.putObj_heap_other ?_)
 intro e
 obtain ⟨b,off,hb,_,hc⟩:=h.at h0
 rw [hy] at hb
 cases hb
 have e2:b = l:=e
 subst e2
 unfold World.cell? at hc
 simp only [hl] at hc
 cases o <;> simp_all [Obj.isCells]
theorem BzK.mark {w A:World} {keep rp r:Nat} {ns:List Nat} {F:BzF} (h:BzK w keep rp ns F A) (hr:rp < r) (hd:A.heap[r]? = some (.deferred (some []))):BzK w keep rp (r :: ns) F A:=by
 obtain ⟨h1,h3,h4,h5⟩:=h
 refine ⟨h1,h3,fun k hk=>?_,h5⟩
 rcases List.mem_cons.1 hk with rfl | hk
 ·exact ⟨hr,hd⟩
 ·exact h4 k hk
theorem BzK.wrong {w A:World} {keep rp:Nat} {ns:List Nat} {F:BzF} (h:BzK w keep rp ns F A):BzK w keep rp ns { F with wrong:=true } (A.setCell ⟨w.heap.size + 1,3,none⟩ (.bool true)):=by
 obtain ⟨⟨a,c,⟨h1,h2⟩,h8⟩,h3,h4,h5,h6,h7⟩:=h
 have hO:Only (fun b=>b = w.heap.size + 1) A (A.setCell ⟨w.heap.size + 1,3,none⟩ (.bool true)):=(Only.refl (fun b=>b = w.heap.size + 1) A).setCell (p:=⟨w.heap.size + 1,3,none⟩) (.inl rfl) _
 refine ⟨⟨a,c,⟨?_,Zac h2 hO (by omega)⟩,h8.only hO (fun b hb e=>by omega)⟩,Zac h3 hO (by omega),fun r hr=>⟨(h4 r hr).1,Zac (h4 r hr).2 hO (fun e=>by have:=(h4 r hr).1;omega)⟩,Below.only h5 hO (Nat.le_refl _) (fun b e=>by omega),h6,Nat.lt_of_lt_of_le h7 hO.size⟩
 simpa using Zbc (i:=3) (x:=.bool true) h1
theorem neqU (t:TypeId) (x y:Nat) (w:World):(binOp .neq t (.int .u32 (x:Nat)) (.int .u32 (y:Nat)):Sem Value).run Try.prog w = .ok (.bool (!((x:Int) == (y:Int)))) w:=by
 simp [binOp,go_sem]
 rfl
theorem eqgN (t:TypeId) (x y:Operand) (u v:Nat) (w:World):(eqGuard .neq t x y (.int .u32 (u:Nat)) (.int .u32 (v:Nat))).run Try.prog w = .ok () w:=by simp [eqGuard,go_sem]
theorem ldU32 (p:Addr) (v:Value) (w:World) (h:w.cell? p = some v):(Instr.loadAt 54 (.pointer (some p))).run Try.prog w = .ok v w:=by
 simp [Instr.loadAt,Instr.sureAddr,go_sem,h]
theorem Zaai {keep n lf:Nat} (h:keep <= 1000000) (e:keep - n = lf):lf <= 1000000:=by omega
theorem Zyi {lf:Nat} (h:lf <= 1000000):wrap64 (lf:Int) = (lf:Int):=IntWalk.wrap64_in _ (by omega)
theorem Zaab {keep n lf:Nat} (h:n <= keep) (e:keep - n = lf):(keep:Int) - (n:Int) = (lf:Int):=by omega
theorem Zut {a b c:Nat} (h:a + b = c) (hc:c <= 9000000000000000000):IntKind.i64.wrap ((a:Int) + (b:Int)) = (c:Int) /\ wrap64 ((a:Int) + (b:Int)) = (c:Int) /\ (a:Int) + (b:Int) = (c:Int) /\ wrap64 (c:Int) = (c:Int):=⟨by rw [IntWalk.i64_in _ (by omega)];omega,by rw [IntWalk.wrap64_in _ (by omega)];omega,by omega,IntWalk.wrap64_in _ (by omega)⟩
theorem fa3 (f:Nat) (w:World):(Instr.fieldAt 24 (.pointer (some ⟨f,0,none⟩)) 3).run Try.prog w = .ok (.pointer (some ⟨f,3,none⟩)) w:=by kernel_rfl
theorem fp1 (f:Nat) (w:World):(Instr.fieldAt 59 (.pointer (some ⟨f,0,none⟩)) 1).run Try.prog w = .ok (.pointer (some ⟨f,1,none⟩)) w:=by kernel_rfl
theorem ldB (p:Addr) (v:Value) (w:World) (h:w.cell? p = some v):(Instr.loadAt 4 (.pointer (some p))).run Try.prog w = .ok v w:=by
 simp [Instr.loadAt,Instr.sureAddr,loadVar,isAgg,run_underlying Try.underlying4,h,go_sem]
theorem stB (p:Addr) (b:Bool) (u:Value) (w:World) (h:w.cell? p = some u) (hf:w.frozen? p = false):(Instr.storeAt 4 (.pointer (some p)) (.bool b)).run Try.prog w = .ok () (w.setCell p (.bool b)):=by
 simp [Instr.storeAt,Instr.sureAddr,storeVar,isAgg,run_underlying Try.underlying4,h,hf,go_sem]
theorem eqgL (t:TypeId) (x y:Operand) (u v:Value) (w:World):(eqGuard .leq t x y u v).run Try.prog w = .ok () w:=by simp [eqGuard,go_sem]
theorem leqI (t:TypeId) (x y:Int) (w:World):(binOp .leq t (.int .i64 x) (.int .i64 y):Sem Value).run Try.prog w = .ok (.bool (decide (x <= y))) w:=by
 simp [binOp,go_sem]
theorem Zzp {a b keep:Nat} (h1:a <= keep) (hk:keep <= 1000000) (h2:b <= 1000000):a + b <= 9223372036854775807 /\ (a + b) * 1 <= 140737488355328:=by omega
theorem OwnN.lies {E:TypeId} {k:IntKind} {w:World} {base cap g:Nat} {l:List Nat} (h:OwnN E k w base (some ⟨g,0,none⟩) cap l):base <= g /\ g < w.heap.size /\ ∃ cs,w.heap[g]? = some (.cells cs E (0,0)):=by
 rcases h.2 with ⟨e,_⟩ | ⟨g2,c2,cur,e,e1,e2,_⟩
 ·cases e
 ·simp only [Value.slice.injEq,Option.some.injEq,Addr.mk.injEq,and_true] at e
  obtain ⟨rfl,_⟩:=e
  exact ⟨e1,lt_of_block e2,cur,e2⟩
theorem Zwg {a:Option Addr} {n c g:Nat} (h:(Value.slice a n c).ownBlock = some g) (hf:a = none \/ ∃ g0,a = some ⟨g0,0,none⟩):a = some ⟨g,0,none⟩:=by
 rcases hf with rfl | ⟨g0,rfl⟩
 ·simp [Value.ownBlock] at h
 ·simp [Value.ownBlock] at h
  rw [h]
theorem Ztx {s z i x y:Nat} (h:s <= z + 255000000 * i) (hx:x <= 255 * y) (hy:y <= 1000000):s + x <= z + 255000000 * (i + 1):=by omega
theorem Zuf {n keep lf x:Nat} (h:n <= keep) (e:keep - n = lf) (hx:x <= lf):n + x <= keep:=by omega
theorem Zya {keep lf:Nat} {S:BzF × Nat} {p:List Nat × Nat} {sl gl:List Nat} {nw:Bool} {z2:Nat} (h1:sl = say p.1) (h2:keep - S.1.bytes.length = lf) (h3:gl = sl.take lf) (h4:(S.1.wrong || (decide (sl.length <= lf) && !(crcHigh gl == p.2))) = nw) (h5:S.1.size + sl.length = z2) :
  partF keep S p = ({ bytes:=S.1.bytes ++ gl,size:=z2,wrong:=nw },foldS S.2 p.2):=by
 subst h1 h2 h3 h4 h5
 rfl
theorem KeepsFrom.ofOnlyZ {T:Nat -> Prop} {N:Nat} {A B:World} (h:Only T A B) (hc:∀ b o,T b -> A.heap[b]? = some o -> o.isCells = true):KeepsFrom N A B :=
 ⟨h.size,fun b o _ ho hn=>(h.block b (Array.getElem?_eq_some_iff.1 ho).1 (fun t=>by rw [hc b o t ho] at hn;cases hn)).trans ho⟩
theorem SameOn.ofOnlyZ {S T:Nat -> Prop} {A B:World} (h:Only T A B) (hS:∀ b,S b -> b < A.heap.size /\ ¬ T b):SameOn S A B :=
 ⟨h.size,fun b hb=>h.block b (hS b hb).1 (hS b hb).2⟩
end Go.Proofs.Ytnkpnjnfddjfpaa

namespace Go.Proofs.Ytnkpnjnfddjfpaa
open Go.RowKit
theorem list17 (l:List Value) (h:l.length = 17):∃ m0 m1 m2 m3 m4 m5 m6 m7 m8 m9 m10 m11 m12 m13 m14 m15 m16,l = m0 :: m1 :: m2 :: m3 :: m4 :: m5 :: m6 :: m7 :: m8 :: m9 :: m10 :: m11 :: m12 :: m13 :: m14 :: m15 :: m16 :: []:=by
 match l,h with
 | m0 :: m1 :: m2 :: m3 :: m4 :: m5 :: m6 :: m7 :: m8 :: m9 :: m10 :: m11 :: m12 :: m13 :: m14 :: m15 :: m16 :: [],_=>exact ⟨m0,m1,m2,m3,m4,m5,m6,m7,m8,m9,m10,m11,m12,m13,m14,m15,m16,rfl⟩
def Mid17 (l:List Value) (POST:World -> Prop):Exit -> Act -> World -> Prop:=fun e a' w'=>e = .normal /\ ∃ l',a' = ⟨List.toArray l',[]⟩ /\ l'.length = l.length /\ l'.take 37 = l.take 37 /\ l'.drop 54 = l.drop 54 /\ POST w'
theorem Zgd (l:List Value) (POST:World -> Prop):¬ LetsOut (Mid17 l POST):=by
 rintro ⟨a,w,h,_⟩
 cases h
theorem Zmd {F:Fence} {n id:Nat} {P:Program} {ops:Array Oper} {l:List Value} {w0:World} {Q:Exit -> Act -> World -> Prop} (POST:World -> Prop) (hl:54 <= l.length)
  (h1:(Code.region id ops true).wpIn F n P (Mid17 l POST) ⟨l.toArray,[]⟩ w0) (h2:∀ m0 m1 m2 m3 m4 m5 m6 m7 m8 m9 m10 m11 m12 m13 m14 m15 m16 w',POST w' -> Q .normal ⟨(l.take 37 ++ ((m0 :: m1 :: m2 :: m3 :: m4 :: m5 :: m6 :: m7 :: m8 :: m9 :: m10 :: m11 :: m12 :: m13 :: m14 :: m15 :: m16 :: []) ++ l.drop 54)).toArray,[]⟩ w'):(Code.region id ops true).wpIn F n P Q ⟨l.toArray,[]⟩ w0:=by
 refine wpIn_mono h1 ?_
 rintro e a' w' ⟨rfl,l',rfl,e1,e2,e3,hp⟩
 obtain ⟨m0,m1,m2,m3,m4,m5,m6,m7,m8,m9,m10,m11,m12,m13,m14,m15,m16,hm⟩:=list17 ((l'.drop 37).take 17) (by simp;omega)
 have:l' = l.take 37 ++ ((m0 :: m1 :: m2 :: m3 :: m4 :: m5 :: m6 :: m7 :: m8 :: m9 :: m10 :: m11 :: m12 :: m13 :: m14 :: m15 :: m16 :: []) ++ l.drop 54):=by
  rw [<- hm,<- e2,<- e3,show l'.drop 54 = (l'.drop 37).drop 17 by rw [List.drop_drop],List.take_append_drop,List.take_append_drop]
 rw [this]
 exact h2 m0 m1 m2 m3 m4 m5 m6 m7 m8 m9 m10 m11 m12 m13 m14 m15 m16 w' hp
theorem Zcs {y n:Nat} {P:Program} {ops:Array Oper} {Q:Exit -> Act -> World -> Prop} (hQ:¬ LetsOut Q):∀ (l:List Oper),(l.all fun o=>match o.op with | .defer _=>false | _=>true) = true -> ∀ (a:Act) (w:World),wpList P ops Q l a w -> wpListIn (Fence.wide.inRound y) n P ops Q l a w
 | [],_,a,w,h=>h
 | o :: rest,hd,a,w,h=>by
  rw [List.all_cons,Bool.and_eq_true] at hd
  unfold wpList at h
  unfold wpListIn
  split
  ·rename_i hw
   rw [if_pos hw] at h
   rcases h with h | h
   ·refine Oper.wpIn_mono (fun a w=>Zcs hQ rest hd.2 a w) (Zee (fun c hc=>?_) h)
    have:=hd.1
    rw [hc] at this
    cases this
   ·exact absurd h.2 hQ
  ·rename_i hw
   rw [if_neg hw] at h
   exact ⟨fun f _=>trivial,Zcs hQ rest hd.2 _ _ h⟩
theorem Zit {y n id:Nat} {P:Program} {l:List Oper} {Q:Exit -> Act -> World -> Prop} {a:Act} {w:World} (hQ:¬ LetsOut Q) (hd:(l.all fun o=>match o.op with | .defer _=>false | _=>true) = true) (h:wpList P l.toArray Q l a w):(Code.region id l.toArray false).wpIn (Fence.wide.inRound y) n P Q a w :=
 wpIn_region_lit (Zcs hQ l hd a w h)
end Go.Proofs.Ytnkpnjnfddjfpaa

namespace Go.Proofs.Ytnkpnjnfddjfpaa.FG
open Go
section
variable {P : Program} {ops : Array Oper} {Q : Exit → Act → World → Prop} {md : Region.Mode}
theorem wpIn_round_flowS {y dep:Nat} {id:Nat} {l:List Value} {df:List Deferred} {w0:World} (ds:List Tmp) (fin:Nat -> Bool) (R:Array Bool -> World -> Prop) (V:Nat -> Value -> World -> Prop) (D:Nat -> Nat -> Value -> Value -> Prop)
  (hQ:¬ LetsOut Q) (hdf:noDefer ops = true) (hm:P.follows .mixedOrders = true) (hds:dstsL ops = ds) (h1:OneEach ops l.length) (hb:backB .any ops = true)
  (h0:R (Array.replicate ops.size false) { w0 with drawn:=w0.drawn + 1 })
  (step:∀ (i:Nat) (o:Oper),ops[i]? = some o -> ∀ (listed:Array Bool) (a:Act) (w:World),R listed w -> i < listed.size -> listed.getD i false = false -> (∀ j,anc .any ops i ops.size j = true -> listed.getD j false = false) -> (∀ j,anc .any ops j ops.size i = true -> listed.getD j false = true) -> (∀ t,t ∉ ds -> a.eval (.tmp t) = l.getD t undef) →
   (∀ (j:Nat) (oj:Oper) (d:Tmp),ops[j]? = some oj -> oj.dst = some d -> listed.getD j false = false -> a.eval (.tmp d) = l.getD d undef) →
   (∀ e ∈ o.after,wantE .any e = true -> ∀ oe,ops[e.on]? = some oe -> V e.on (leftBy a oe) w) →
   (Region.wanted o (yielded ops a.tmps) = true /\ StepTo P Q o a w (fun a' w'=>∃ v,a' = a.put o.dst v /\ R (listed.setIfInBounds i true) w' /\ (∀ j u,usedB .any ops fin i j = true -> V j u w -> (∀ e ∈ o.after,wantE .any e = true -> e.on ≠ j -> ∀ oe,ops[e.on]? = some oe -> D e.on j (leftBy a oe) u /\ D j e.on u (leftBy a oe)) →
    V j u w' /\ D i j (match o.dst with | some _=>v | none=>undef) u /\ D j i u (match o.dst with | some _=>v | none=>undef)) /\ V i (match o.dst with | some _=>v | none=>undef) w')) ∨
   (Region.wanted o (yielded ops a.tmps) = false /\ ∃ v,v = undef /\ R (listed.setIfInBounds i true) w /\ (∀ j u,usedB .any ops fin i j = true -> V j u w -> (∀ e ∈ o.after,wantE .any e = true -> e.on ≠ j -> ∀ oe,ops[e.on]? = some oe -> D e.on j (leftBy a oe) u /\ D j e.on u (leftBy a oe)) →
    V j u w /\ D i j (match o.dst with | some _=>v | none=>undef) u /\ D j i u (match o.dst with | some _=>v | none=>undef)) /\ V i (match o.dst with | some _=>v | none=>undef) w))
  (done:∀ (listed:Array Bool) (f:Nat -> Value) (w:World),R listed w -> (∀ i,i < ops.size -> listed.getD i false = true) -> (∀ (i:Nat) (o:Oper),ops[i]? = some o -> fin i = true -> V i (match o.dst with | some d=>f d | none=>undef) w) →
   Q .normal ⟨(spread ds f 0 l).toArray,df⟩ w) :
  (Code.region id ops true).wpIn (Fence.wide.inRound y) dep P Q ⟨l.toArray,df⟩ w0:=by
 subst hds
 have hb':∀ (i:Nat) (o:Oper),ops[i]? = some o -> ∀ e ∈ o.after,Region.binds .any e = true -> e.on < i:=fun i o hi e he hbe=>by
  unfold backB at hb
  rw [List.all_eq_true] at hb
  have h2:=hb i (by simpa using (Array.getElem?_eq_some_iff.1 hi).1)
  rw [hi] at h2
  simp only [Option.map_some,Option.getD_some] at h2
  rw [Array.all_eq_true_iff_forall_mem] at h2
  have h3:=h2 e he
  rw [hbe] at h3
  simpa using h3
 have h1':OneEach ops (Act.mk l.toArray df).tmps.size:=by simpa using h1
 refine wpIn_region_any hm (Zci hQ hdf _ _ _ _ (Zii (FlowAt .any ops fin R V D ⟨l.toArray,df⟩) ?_ ?_ _ _ _ _ (Zcn ops) (FlowAt.start h0)))
 ·intro listed a w i hI hi
  obtain ⟨hun,o,ho,hw⟩:=mem_ready.1 hi
  have hil:i < listed.size:=by rw [hI.len];exact (Array.getElem?_eq_some_iff.1 ho).1
  have hunf:listed.getD i false = false:=by simp [hil] at hun ⊢;exact hun
  have hs:=step i o ho listed a w hI.rel hil hunf (fun j hj=>by
   cases hc:listed.getD j false with
   | false=>rfl
   | true=>have:=hI.shut.anc i _ _ hj hc;rw [hunf] at this;cases this) (fun j hj=>hI.shut.ready ho hw _ hj) (fun t ht=>by have:=hI.out t ht;simpa [Act.eval] using this) (fun j oj d hj hd hl=>by have:=hI.old j oj d hj hd hl;simpa [Act.eval] using this) (fun e he hbe oe hoe=>hI.val e.on oe hoe (hw e he (Zay hbe)) (.inr ⟨i,o,e,ho,hun,he,hbe,rfl⟩))
  rcases hs with hs | ⟨hs,v,hv0,h1s,h2s,h3s⟩
  ·unfold wpOp
   simp only [ho,hs.1,if_true]
   exact hs.2.imp (Oper.wp_mono (fun a' w' h=>by
    obtain ⟨v,rfl,hR,hmono,hv⟩:=h
    exact hI.next h1' ho hun hw hR hmono hv)) (fun h=>h)
  ·unfold wpOp
   simp only [ho,hs,Bool.false_eq_true,if_false]
   have hn:=hI.next h1' ho hun hw h1s h2s h3s
   rw [hv0] at hn
   exact hn
 ·intro listed a w hI hr
  obtain ⟨hR,hall,hV,ha⟩:=hI.end hb' hr
  rw [ha]
  exact done _ _ _ hR hall hV
end
theorem wanted_yes {ops:Array Oper} {tm:Array Value} {o ok:Oper} {k d:Nat} {b:Bool} (hg:o.guard = some (k,b)) (hk:ops[k]? = some ok) (hd:ok.dst = some d) (hv:tm[d]?.getD undef = .bool b):Region.wanted o (yielded ops tm) = true:=by
 unfold Region.wanted
 rw [hg]
 simp only [yielded,hk,Option.bind_some,hd]
 cases h:tm[d]? with
 | none=>rw [h] at hv;cases hv
 | some v=>rw [h] at hv;simp only [Option.getD_some] at hv;subst hv;simp
theorem wanted_no {ops:Array Oper} {tm:Array Value} {o ok:Oper} {k d:Nat} {b:Bool} (hg:o.guard = some (k,b)) (hk:ops[k]? = some ok) (hd:ok.dst = some d) (hv:tm[d]?.getD undef = .bool (!b) \/ tm[d]?.getD undef = undef):Region.wanted o (yielded ops tm) = false:=by
 unfold Region.wanted
 rw [hg]
 simp only [yielded,hk,Option.bind_some,hd]
 cases h:tm[d]? with
 | none=>simp
 | some v =>
  rw [h] at hv
  simp only [Option.getD_some] at hv
  rcases hv with rfl | rfl
  ·cases b <;> simp
  ·rfl
theorem wanted_any {ops:Array Oper} {tm:Array Value} {o:Oper} (hg:o.guard = none):Region.wanted o (yielded ops tm) = true:=by
 unfold Region.wanted;rw [hg]
end Go.Proofs.Ytnkpnjnfddjfpaa.FG
