/- Appends of pointers, as equations; the values of block.Get's tables. -/
import Derived.Test.YtnkpnjnfddjfpaaGreatQ01
import Derived.Test.YtnkpnjnfddjfpaaGreatQ11
set_option linter.unusedVariables false
set_option linter.unusedSimpArgs false
namespace Go.Proofs.YtnkpnjnfddjfpaaGreat
open Go.RowKit Go.Shelf M01 M02 M27 M10
theorem appSEq {P:Program} {T E:TypeId} {α:Type} {cc:Enc α} {z:Value} {bytes:Nat} (et:ElemS P T E cc z bytes) {w:World} {base:Nat} {a:Option Addr} {cap n m c lb:Nat} {l ys:List α} (ty:TypeId)
  (hown:OwnS cc E w base a cap l) (hnl:n = l.length) (hm:m = ys.length) (hy:RowS cc w (some ⟨lb,0,none⟩) c ys) (hn:n + m <= 9223372036854775807) (hbytes:(n + m) * bytes <= 140737488355328) (hbase:base <= w.heap.size) :
  ∃ a' cap' w',OwnS cc E w' base a' cap' (l ++ ys) /\ Only (fun b=>a = some ⟨b,0,none⟩) w w' /\ (∀ g,a' = some ⟨g,0,none⟩ -> a = some ⟨g,0,none⟩ \/ w.heap.size <= g) ∧
   (Builtin.append_ #[T,T] ty #[.slice a n cap,.slice (some ⟨lb,0,none⟩) m c]).run P w = .ok (.slice a' (n + m) cap') w':=by
 subst hnl hm
 obtain ⟨i,h2,h3,h4,h5⟩:=info_parts et.info
 have hcl:∀ j u,(flat cc ys)[j]? = some u -> w.cell? ((⟨lb,0,none⟩:Addr).add j) = some u:=by
  intro j u hu
  obtain ⟨_,_,rfl | ⟨b',off,he,_,hc⟩⟩:=hy
  ·simp [flat] at hu
  ·cases he
   have:=hc j u hu
   unfold Addr.add
   split
   ·simp_all
   ·exact this
 obtain ⟨v',w',hr,h6,h7,h8,h9⟩:=run_append_own_at (P:=P) w base T ty E i z cc.sz bytes et.und h2 h3 h4 h5 et.zs cc.pos _ l.length _ hown ⟨lb,0,none⟩ ys.length c (flat cc ys) (Zcr _)
  hcl (Zhp _) (by simpa [maxLen] using hn) hbytes hbase
 have hv:∃ a' cap',v' = .slice a' (l.length + ys.length) cap':=by
  rcases h6.2 with ⟨h9,h10⟩ | ⟨g,c',cur,h9,_⟩
  ·exact ⟨none,0,by rw [h9,h10]⟩
  ·exact ⟨_,_,h9⟩
 obtain ⟨a',cap',rfl⟩:=hv
 have hown':OwnS cc E w' base a' cap' (l ++ ys):=by
  unfold OwnS;rw [List.length_append,Zdo];exact h6
 refine ⟨a',cap',w',hown',⟨h7.os,h7.tape,h7.output,h7.size,fun b hb hT=>h7.block b hb (fun e=>?_)⟩,fun g hg=>?_,hr⟩
 ·rcases hown.form with ⟨rfl,_⟩ | ⟨g,rfl,_⟩
  ·cases e
  ·simp only [Value.ownBlock,Option.some.injEq] at e
   subst e
   exact hT rfl
 ·subst hg
  rcases h9 with h9 | h9
  ·left
   rcases hown.form with ⟨rfl,_,_⟩ | ⟨g',rfl,_⟩
   ·simp [Value.ownBlock] at h9
   ·simp [Value.ownBlock] at h9
    rw [h9]
  ·right
   simp [Value.ownBlock] at h9
   omega
theorem Zabl:ElemS Tryz.prog 122 123 encP (.pointer none) 8:=⟨Tryz.underlying122,by kernel_rfl,rfl⟩
theorem bsT (p:Nat) (w:World):(Instr.buildSlice 122 1 #[(0,.pointer (some ⟨p,0,none⟩))]).run Tryz.prog w = .ok (.slice (some ⟨w.heap.size,0,none⟩) 1 1) (w.alloc (.cells #[.pointer (some ⟨p,0,none⟩)] 123)):=by
 have hie:(Tryz.prog.info? 123).map (fun i=>(i.zero,i.size)) = some (some (.pointer none),1):=by kernel_rfl
 cases h5:Tryz.prog.info? 123 with
 | none=>rw [h5] at hie;cases hie
 | some ie =>
  simp only [h5,Option.map_some,Option.some.injEq,Prod.mk.injEq] at hie
  exact run_buildSlice w 122 123 1 _ _ ie (.pointer none) Tryz.underlying122 h5 hie.1 (by rw [hie.2];decide) (by rw [hie.2];decide) (by rw [hie.2];exact Great.fill_flat [Value.pointer (some ⟨p,0,none⟩)] _ (fun v hv=>by rw [List.mem_singleton.1 hv];rfl) (by simp))
theorem stTs (p:Addr) (a:Option Addr) (n c:Nat) (u:Value) (w:World) (h:w.cell? p = some u) (hf:w.frozen? p = false):(Instr.storeAt 122 (.pointer (some p)) (.slice a n c)).run Tryz.prog w = .ok () (w.setCell p (.slice a n c)):=by
 simp [Instr.storeAt,Instr.sureAddr,storeVar,isAgg,run_underlying Tryz.underlying122,h,hf,go_sem]
def TbX (w:World) (AS p:Nat) (lens:List Nat):Prop:=∃ lo hi,Tb lo hi w p lens /\ AS <= lo
theorem TbX.below {w w':World} {AS p:Nat} {lens:List Nat} (h:TbX w AS p lens) (hb:Below w.heap.size w w'):TbX w' AS p lens:=by
 obtain ⟨lo,hi,h1,h2⟩:=h;exact ⟨lo,hi,h1.below hb,h2⟩
theorem OwnS.only {α:Type} {c:Enc α} {E:TypeId} {T:Nat -> Prop} {A B:World} {base cap:Nat} {a:Option Addr} {l:List α} (h:OwnS c E A base a cap l) (ho:Only T A B) (hT:∀ b,base <= b -> ¬ T b):OwnS c E B base a cap l:=by
 unfold OwnS at *
 refine ⟨h.1,?_⟩
 rcases h.2 with h2 | ⟨g,cp,cur,h1,h2,h3,h4⟩
 ·exact .inl h2
 ·exact .inr ⟨g,cp,cur,h1,h2,Zad h3 ho (hT g h2),h4⟩
def tabV (v0:Value) (rp:Nat) (v2:Value) (ul nn AS B0 n ee:Nat) (ps lens:List Nat) (ca:Option Addr) (j:Nat) (v:Value) (w:World):Prop :=
 match j with
 | 0=>v = v0
 | 1=>v = .pointer (some ⟨rp,0,none⟩)
 | 2=>v = v2
 | 3=>v = .int .i64 (ul:Nat)
 | 4=>v = .int .i64 (nn:Nat)
 | 5=>∃ a c,v = .tuple #[.slice a lens.length c,.int .i64 0] /\ RowN .u8 w a c lens
 | 6=>∃ a c,v = .slice a lens.length c /\ RowN .u8 w a c lens
 | 7=>v = .int .i64 0
 | 8=>∃ a c,v = .slice a lens.length c /\ RowN .u8 w a c lens
 | 9=>∃ x,v = .tuple #[x,.int .i64 (ee:Nat)] /\ (ee = 0 -> ∃ p,x = .pointer (some ⟨p,0,none⟩) /\ TbX w AS p lens)
 | 10=>ee = 0 -> ∃ p,v = .pointer (some ⟨p,0,none⟩) /\ TbX w AS p lens
 | 11=>v = .int .i64 (ee:Nat)
 | 12=>∃ p,v = .pointer (some ⟨p,0,none⟩) /\ TbX w AS p lens
 | 13=>∃ p b,v = .slice (some ⟨b,0,none⟩) 1 1 /\ RowS encP w (some ⟨b,0,none⟩) 1 [p] /\ TbX w AS p lens
 | 14=>∃ p a7 c7,v = .slice a7 (n + 1) c7 /\ OwnS encP 123 w B0 a7 c7 (ps ++ [p]) /\ ∃ lo hi,Tb lo hi w p lens /\ AS <= lo /\ ∀ g,a7 = some ⟨g,0,none⟩ -> ca = some ⟨g,0,none⟩ \/ hi <= g
 | _=>True
section
variable {v0 v2 v : Value} {rp ul nn AS B0 n ee j : Nat} {ps lens : List Nat} {ca : Option Addr} {w w' : World}
theorem Zgx (hb:Below w.heap.size w w') (h:tabV v0 rp v2 ul nn AS B0 n ee ps lens ca j v w):tabV v0 rp v2 ul nn AS B0 n ee ps lens ca j v w':=by
 unfold tabV at *
 split at h
 all_goals try exact h
 ·obtain ⟨a,c,h1,h2⟩:=h;exact ⟨a,c,h1,h2.below hb⟩
 ·obtain ⟨a,c,h1,h2⟩:=h;exact ⟨a,c,h1,h2.below hb⟩
 ·obtain ⟨a,c,h1,h2⟩:=h;exact ⟨a,c,h1,h2.below hb⟩
 ·obtain ⟨x,h1,h2⟩:=h;exact ⟨x,h1,fun e=>by obtain ⟨p,h3,h4⟩:=h2 e;exact ⟨p,h3,h4.below hb⟩⟩
 ·intro e;obtain ⟨p,h3,h4⟩:=h e;exact ⟨p,h3,h4.below hb⟩
 ·obtain ⟨p,h1,h2⟩:=h;exact ⟨p,h1,h2.below hb⟩
 ·obtain ⟨p,b,h1,h2,h3⟩:=h;exact ⟨p,b,h1,h2.below hb,h3.below hb⟩
 ·obtain ⟨p,a7,c7,h1,h2,lo,hi,h3,h4,h5⟩:=h;exact ⟨p,a7,c7,h1,h2.below hb,lo,hi,h3.below hb,h4,h5⟩
theorem Zib (h1:j < 5) (h:tabV v0 rp v2 ul nn AS B0 n ee ps lens ca j v w):tabV v0 rp v2 ul nn AS B0 n ee ps lens ca j v w':=by
 have hj:j = 0 \/ j = 1 \/ j = 2 \/ j = 3 \/ j = 4:=by omega
 rcases hj with rfl | rfl | rfl | rfl | rfl <;> exact h
end
def tabA (v0:Value) (rp:Nat) (v2:Value) (ul nn:Nat) (j:Nat) (v:Value) (w:World):Prop :=
 match j with
 | 0=>v = v0
 | 1=>v = .pointer (some ⟨rp,0,none⟩)
 | 2=>v = v2
 | 3=>v = .int .i64 (ul:Nat)
 | 4=>v = .int .i64 (nn:Nat)
 | 5=>∃ x,v = .tuple #[x,.int .i64 2]
 | 7=>v = .int .i64 2
 | _=>True
theorem Zyk {v0 v2 v:Value} {rp ul nn j:Nat} {w w':World} (h1:j < 5) (h:tabA v0 rp v2 ul nn j v w):tabA v0 rp v2 ul nn j v w':=by
 have hj:j = 0 \/ j = 1 \/ j = 2 \/ j = 3 \/ j = 4:=by omega
 rcases hj with rfl | rfl | rfl | rfl | rfl <;> exact h
theorem Ziv {md:Region.Mode} {ops:Array Oper} {fin:Nat -> Bool} {i j:Nat} (hb:backB md ops = true) (hf:∀ j,fin j = true -> j < ops.size) (h:usedB md ops fin i j = true):j < ops.size :=
 List.mem_range.1 (List.mem_filter.1 (Zyp hb hf h _ rfl)).1
theorem Tb.hi_le {lo hi p:Nat} {w:World} {l:List Nat} (h:Tb lo hi w p l):hi <= w.heap.size:=by
 obtain ⟨_,_,_,_,_,_,_,_,_,_,h,_⟩:=h
 exact h
theorem Tb.lo_lt {lo hi p:Nat} {w:World} {l:List Nat} (h:Tb lo hi w p l):lo <= p /\ p < hi:=by
 obtain ⟨_,_,_,_,_,_,_,_,_,_,_,h,_⟩:=h
 exact h
def TabsOk (w:World) (W0:Nat) (ca:Option Addr) (ps:List Nat) (tabs:List (List Nat)):Prop :=
 ps.length = tabs.length /\ (∀ l ∈ tabs,∀ x ∈ l,x <= 20) /\ ∀ k (hk:k < ps.length),∃ lo hi,Tb lo hi w ps[k] (tabs.getD k []) /\ W0 <= lo /\ ∀ g,ca = some ⟨g,0,none⟩ -> g < lo \/ hi <= g
theorem TabsOk.nil (w:World) (W0:Nat):TabsOk w W0 none [] []:=⟨rfl,fun l h=>(by cases h),fun k hk=>(by simp at hk)⟩
theorem TabsOk.next {w w':World} {W0 lo hi p cb rp:Nat} {ca a7:Option Addr} {ps lens:List Nat} {tabs:List (List Nat)} (h:TabsOk w W0 ca ps tabs) (ho:Only (fun b=>b = rp \/ b = cb \/ ca = some ⟨b,0,none⟩) w w') (hrp:rp < W0) (hcb:cb < W0)
  (hT:Tb lo hi w' p lens) (hlo:w.heap.size <= lo) (hW:W0 <= w.heap.size) (hg7:∀ g,a7 = some ⟨g,0,none⟩ -> ca = some ⟨g,0,none⟩ \/ hi <= g) (hcl:∀ g,ca = some ⟨g,0,none⟩ -> g < w.heap.size) (h20:∀ x ∈ lens,x <= 20):TabsOk w' W0 a7 (ps ++ [p]) (tabs ++ [lens]):=by
 obtain ⟨h1,h2,h3⟩:=h
 refine ⟨by rw [List.length_append,List.length_append,h1];rfl,fun l hl=>?_,fun k hk=>?_⟩
 ·rcases List.mem_append.1 hl with hl | hl
  ·exact h2 l hl
  ·rw [List.mem_singleton.1 hl];exact h20
 ·rcases Nat.lt_or_ge k ps.length with hk2 | hk2
  ·obtain ⟨lo',hi',q1,q2,q3⟩:=h3 k hk2
   have e1:(ps ++ [p])[k] = ps[k]:=List.getElem_append_left hk2
   have e2:(tabs ++ [lens]).getD k [] = tabs.getD k []:=by
    rw [List.getD_eq_getElem?_getD,List.getD_eq_getElem?_getD,List.getElem?_append_left (by omega)]
   rw [e1,e2]
   refine ⟨lo',hi',q1.only ho (fun b b1 b2 hb=>?_),q2,fun g hg=>?_⟩
   ·rcases hb with hb | hb | hb
    ·omega
    ·omega
    ·have:=q3 b hb;omega
   ·rcases hg7 g hg with h4 | h4
    ·exact q3 g h4
    ·right
     have:=q1.hi_le
     have:=hT.lo_lt
     omega
  ·have hk3:k = ps.length:=by rw [List.length_append] at hk;simp at hk;omega
   subst hk3
   have e1:(ps ++ [p])[ps.length] = p:=by rw [List.getElem_append_right (Nat.le_refl _)];simp
   have e2:(tabs ++ [lens]).getD ps.length [] = lens:=by
    rw [List.getD_eq_getElem?_getD,List.getElem?_append_right (by omega),h1];simp
   rw [e1,e2]
   refine ⟨lo,hi,hT,by omega,fun g hg=>?_⟩
   rcases hg7 g hg with h4 | h4
   ·left
    have:=hcl g h4
    omega
   ·exact .inr h4
end Go.Proofs.YtnkpnjnfddjfpaaGreat
