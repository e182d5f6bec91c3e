/- emit.Deflate: contract. law18.tells: the chapter's examples. law18.many: tokens, so many times. token.LengthOf, DistanceOf: contracts. inflate: a stream; must, bits, put, repeat: contracts. inflate: repeat, stored, none: contracts. inflate: symbols by two codes: contract. inflate: a block by the fixed codes: contract. inflate: a dynamic block, a block of any kind: contracts. -/
import Derived.Test.YtendielanacflaaGreatB01
import Derived.Test.YtendielanacflaaGreatB17
import Derived.Test.YtendielanacflaaGreatB02
import Derived.Test.YtendielanacflaaGreatB03
import Derived.Test.YtendielanacflaaGreatB11
import Derived.Test.YtendielanacflaaGreatB05
import Derived.Test.YtendielanacflaaGreatB06
import Derived.Test.YtendielanacflaaGreatB12
import Derived.Maps.AppendAt
import Derived.WalkLawsBesides
set_option linter.unusedVariables false
set_option linter.unusedSimpArgs false
namespace Go.Proofs.YtendielanacflaaGreat
open Go.RowKit Go.Shelf M01 M09 M10 M17 M18
attribute [local go_sem] Oper.semAt_some
def DefE (w:World) (l:List Tok) (e:Ending) (w':World):Prop :=
 if ∀ t ∈ l,tokOk t then match expL [] l with
  | some x=>∃ a c,e = .returned (.tuple #[.slice a (deflB l x).length c,.int .i64 0]) /\ OwnN 5 .u8 w' w.heap.size a c (deflB l x)
  | none=>e = .returned (.tuple #[.slice none 0 0,.int .i64 2])
 else e = .returned (.tuple #[.slice none 0 0,.int .i64 5])
def DefOut (w:World) (l:List Tok) (e:Ending) (w':World):Prop:=Below w.heap.size w w' /\ DefE w l e w'
abbrev WZ:Obj:=.cells #[.slice none 0 0,.int .i64 0] 42
structure DefI (w:World) (pw pp:Nat) (s:Pst) (i:Nat) (A:World):Prop where
 wr:WrI (pw + 4) A.heap.size A pw (emS s i)
 pl:A.heap[pp]? = some WZ
 ok:s.Ok A
 bel:Below w.heap.size w A
theorem Pst.ath_mem (s:Pst):∀ i c,c ∈ (s.ath i).x -> c ∈ s.x
 | 0,c,h=>h
 | i + 1,c,h=>Pst.ath_mem s i c (List.mem_of_mem_drop h)
theorem four4w (w:World) (o1 o2 o3 o4:Obj):((((w.alloc o1).alloc o2).alloc o3).alloc o4).heap.size = w.heap.size + 4 /\ ((((w.alloc o1).alloc o2).alloc o3).alloc o4).heap[w.heap.size]? = some o1 /\ ((((w.alloc o1).alloc o2).alloc o3).alloc o4).heap[w.heap.size + 1]? = some o2 /\ ((((w.alloc o1).alloc o2).alloc o3).alloc o4).heap[w.heap.size + 1 + 1]? = some o3 /\ ((((w.alloc o1).alloc o2).alloc o3).alloc o4).heap[w.heap.size + 1 + 1 + 1]? = some o4 /\ Below w.heap.size w ((((w.alloc o1).alloc o2).alloc o3).alloc o4):=by
 have h4:=World.alloc_heap_new (((w.alloc o1).alloc o2).alloc o3) o4
 have h3:=World.alloc_heap_new ((w.alloc o1).alloc o2) o3
 have h2:=World.alloc_heap_new (w.alloc o1) o2
 have h1:=World.alloc_heap_new w o1
 simp only [World.size_alloc] at h2 h3 h4
 refine ⟨by simp,?_,?_,?_,h4,(((((Below.refl _ w).alloc (Nat.le_refl _) _).alloc (by simp) _).alloc (by simp <;> omega) _).alloc (by simp <;> omega) _)⟩
 ·rw [Below.heap_alloc _ _ _ (by simp <;> omega),Below.heap_alloc _ _ _ (by simp <;> omega),Below.heap_alloc _ _ _ (by simp)];exact h1
 ·rw [Below.heap_alloc _ _ _ (by simp <;> omega),Below.heap_alloc _ _ _ (by simp)];exact h2
 ·rw [Below.heap_alloc _ _ _ (by simp)];exact h3
theorem Ztz {A:World} {pp:Nat} (n:Nat) (h:A.heap[pp]? = some WZ):WrI n n A pp ([],0) :=
 ⟨none,0,h,World.ownsRow_nil _ _ _ _,fun g hg=>(by cases hg),⟨rfl,by simp⟩,by show 0 <= _;omega⟩
theorem Pst.Ok.put {A:World} {s:Pst} (h:s.Ok A) {r:Nat} (o':Obj) (hr:∀ b,parD s b -> b ≠ r):s.Ok (A.putObj r o') :=
 h.same (S:=parD s) ⟨by rw [World.putObj_size];exact Nat.le_refl _,fun b hb=>World.putObj_heap_other (hr b hb)⟩ (fun _ h=>h)
theorem Pst.Ok.only {A B:World} {s:Pst} {T:Nat -> Prop} (h:s.Ok A) (ho:Only T A B) (hd:∀ b,parD s b -> ¬ T b):s.Ok B :=
 h.same (S:=parD s) (ho.sameOn (fun b hb=>⟨by
  rcases hb with ⟨h0,x,hx,rfl⟩ | ⟨h0,x,hx,rfl⟩
  ·obtain ⟨b',off,he,hlt,_⟩:=h.rl.at h0
   rw [hx] at he
   cases he
   exact hlt
  ·obtain ⟨b',off,he,hlt,_⟩:=h.rx.at h0
   rw [hx] at he
   cases he
   exact hlt,hd b hb⟩)) (fun _ h=>h)
def DefX (w:World) (pw:Nat) (s:Pst) (va vt:Value) (i lo hi:Nat) (a':Act) (A:World):Prop :=
 WrI (pw + 4) lo A pw (emS s i) /\ A.heap[pw + 1]? = some WZ /\ s.Ok A /\ Below w.heap.size w A /\ ∃ (pb:Nat) (rv:Value),A.heap[pb]? = some (.cells #[.slice (s.ath i).a (s.ath i).n (s.ath i).cap,.slice (s.ath i).ta (s.ath i).z (s.ath i).tc,.bool (decide ((s.ath i).l.length <= 1024))] 64) ∧
  a' = ⟨#[va,undef,.slice none 0 0,.int .i64 0,vt,.int .i64 0,.pointer (some ⟨pw,0,none⟩),.pointer (some ⟨pw + 1,0,none⟩),.pointer (some ⟨pb,0,none⟩),undef,undef,.tuple #[vt,.int .i64 0],va,.tuple #[vt,.int .i64 0],vt,.int .i64 0,.int .i64 0,.bool false,undef,va,vt,.func (.func 59) #[] #[.pointer (some ⟨pw + 1 + 1,0,none⟩),.pointer (some ⟨pw + 1 + 1 + 1,0,none⟩)],rv,undef,undef,undef,undef,undef,undef,undef,undef,undef,undef,undef,undef,undef,undef,undef,undef,undef,undef,undef,undef,undef,undef,undef],[]⟩
theorem Zafw (N:Nat) {w A w5 B:World} {pw lo hi i:Nat} {s:Pst} {P:Nat -> Prop} (hd:∀ b,parD s b -> b < pw) (hpw:w.heap.size <= pw) (hlo:pw + 6 <= lo) (hlh:lo <= hi) (hhi:hi <= A.heap.size)
  (hpl:A.heap[pw + 1]? = some WZ) (hok:s.Ok A) (hbel:Below w.heap.size w A) (h5:Below A.heap.size A w5)
  (hP:∀ b,P b -> b = pw \/ (pw + 4 <= b /\ b < lo) \/ w5.heap.size <= b) (hN:∀ k o,w5.heap[k]? = some o -> o.isCells = false -> ¬ P k) (ho:Only P w5 B) (hW:Wr P B pw (emS s (i + 1))) :
  KeepsFrom N A B /\ SameOn (parS s (pw + 1 + 1) (pw + 1 + 1 + 1)) A B /\ NewKept lo hi A B /\ DefI w pw (pw + 1) s (i + 1) B:=by
 have hz:=h5.size
 have hbz:=hbel.size
 have hkeep:∀ k,k < A.heap.size -> k ≠ pw -> (k < pw + 4 \/ lo <= k) -> B.heap[k]? = A.heap[k]?:=fun k hk h1 h2 =>
  (ho.block k (by omega) (fun h=>by rcases hP k h with h | h | h <;> omega)).trans (h5.block k hk)
 refine ⟨⟨Nat.le_trans hz ho.size,fun k o _ hk hc=>?_⟩,⟨Nat.le_trans hz ho.size,fun b hb=>?_⟩,fun k h1 h2=>hkeep k (by omega) (by omega) (.inr h1),⟨hW.backI (fun b hb=>by rcases hP b hb with h | h | h <;> omega),(hkeep _ (by omega) (by omega) (.inl (by omega))).trans hpl,?_,?_⟩⟩
 ·have h6:=(h5.block k (lt_of_block hk)).trans hk
  exact (ho.block k (lt_of_block h6) (hN k o h6 hc)).trans h6
 ·have hbl:b ≠ pw /\ b < pw + 4:=by
   rcases hb with (rfl | rfl) | hb
   ·omega
   ·omega
   ·have:=hd b hb;omega
  exact hkeep b (by omega) hbl.1 (.inl hbl.2)
 ·refine (hok.only (T:=fun _=>False) (Only.ofBelow h5) (fun _ _ h=>h)).only ho (fun b hb h=>?_)
  have:=hd b hb
  rcases hP b h with h | h | h <;> omega
 ·refine Below.only (hbel.trans (h5.mono hbel.size)) ho (Nat.le_refl _) (fun b hb=>?_)
  rcases hP b hb with h | h | h <;> omega
set_option maxRecDepth 100000 in
set_option maxHeartbeats 3200000 in
theorem Zek (a:Option Addr) (cap:Nat) (l:List Tok) (w:World) (hr:RowS encT w a cap l) (hby:∀ t ∈ l,t.byte < 256) (hl:l.length <= 100000) (hx:(∀ t ∈ l,tokOk t) -> ∀ x,expL [] l = some x -> x.length <= 1000000) :
  Calls Tryz.prog 9 #[.slice a l.length cap] w (DefOut w l):=by
 have HE:=Zh (Zhq a cap l w hr hby hl)
 have HX:=Zh hx
 have HBY:=Zh hby
 have HR:=Zh hr
 clear hr hby hx
 refine (callsIn_wide (n:=9)).1 ?_
 refine callsIn_of_wp_marks Tryz.func9 rfl trivial ?_ rfl
 simp only [Tryz.ntmps9,List.size_toArray,List.length_cons,List.length_nil,Nat.reduceAdd,Nat.reduceSub,Array.replicate_succ,Array.replicate_zero,List.push_toArray,List.append_toArray,List.nil_append,List.cons_append]
 gi_wp2_with fail
 refine ⟨trivial,?_⟩
 gi_at_call 10
 refine (callsIn_wide.2 HE.out).mono ?_
 rintro e w1 ⟨hb1,hee⟩
 unfold ExpE at hee
 have HB1:=Zh hb1
 clear hb1 HE
 by_cases hok:∀ t ∈ l,tokOk t
 case neg =>
  rw [if_neg hok] at hee
  subst hee
  have HN:=Zh hok
  clear hok
  gi_wp2
  refine ⟨_,results_tmp2 rfl _ _ _,?_⟩
  refine ⟨HB1.out,?_⟩
  unfold DefE
  rw [if_neg HN.out]
  try rfl
 rw [if_pos hok] at hee
 cases hxx:expL [] l with
 | none =>
  rw [hxx] at hee
  simp only at hee
  subst hee
  have HN:=Zh hok
  have HXX:=Zh hxx
  clear hok hxx
  gi_wp2
  refine ⟨_,results_tmp2 rfl _ _ _,?_⟩
  refine ⟨HB1.out,?_⟩
  unfold DefE
  rw [if_pos HN.out,HXX.out]
  rfl
 | some x =>
  rw [hxx] at hee
  obtain ⟨a1,c1,rfl,ho1⟩:=hee
  have HN:=Zh hok
  have HXX:=Zh hxx
  clear hok hxx
  gi_wp2_with fail
  refine ⟨trivial,?_⟩
  gi_at_call 26
  refine (callsIn_wide.2 (Zuj _ _ _ _ _ _ _)).mono ?_
  rintro e w2 ⟨rfl,rfl⟩
  gi_wp2
  obtain ⟨hz,hb0,hb1,hb2,hb3,hbel⟩:=four4w w1 WZ WZ (.cells #[.slice a l.length cap] 22) (.cells #[.slice a1 x.length c1] 24)
  obtain ⟨pw,hpw⟩:∃ pw,w1.heap.size = pw:=⟨_,rfl⟩
  have hbw:Below w.heap.size w ((((w1.alloc WZ).alloc WZ).alloc (.cells #[.slice a l.length cap] 22)).alloc (.cells #[.slice a1 x.length c1] 24)):=HB1.out.trans (hbel.mono HB1.out.size)
  have hwpw:w.heap.size <= pw:=by rw [<- hpw];exact HB1.out.size
  have hok0:(Pst.mk a cap l a1 c1 x).Ok ((((w1.alloc WZ).alloc WZ).alloc (.cells #[.slice a l.length cap] 22)).alloc (.cells #[.slice a1 x.length c1] 24)) :=
   ⟨HR.out.below hbw,ho1.row.below hbel,⟨HN.out,HBY.out⟩,by have:=(Zfr l HXX.out).2;simpa using this⟩
  have hd:∀ b,parD (Pst.mk a cap l a1 c1 x) b -> b < pw:=by
   rw [<- hpw]
   rintro b (⟨h0,y,hy,rfl⟩ | ⟨h0,y,hy,rfl⟩)
   ·obtain ⟨b',off,he,hlt,_⟩:=HR.out.at h0
    rw [show (Pst.mk a cap l a1 c1 x).a = a from rfl] at hy
    rw [hy] at he
    cases he
    exact Nat.lt_of_lt_of_le hlt HB1.out.size
   ·obtain ⟨b',off,he,hlt,_⟩:=ho1.row.at h0
    rw [show (Pst.mk a cap l a1 c1 x).ta = a1 from rfl] at hy
    rw [hy] at he
    cases he
    exact hlt
  rw [hpw] at hz hb0 hb1 hb2 hb3
  have hxl:=HX.out HN.out x HXX.out
  have HXB:Hid (∀ c ∈ x,c < 256):=Zh (Znx l [] x HBY.out (by simp) HXX.out)
  have HA:Hid (emS (Pst.mk a cap l a1 c1 x) (partN l.length) = emA ([],0) l x):=Zh (Zafz hok0)
  have HG:Hid (∀ i,WG (emS (Pst.mk a cap l a1 c1 x) i) /\ (emS (Pst.mk a cap l a1 c1 x) i).2 <= 8000000 + 300 * i):=Zh (fun i=>by
   have h:=Zaia hok0 i
   refine ⟨h.1,?_⟩
   have h2:=h.2
   simp only at h2
   omega)
  have hpn:=Zadh l.length hl
  rw [hpw]
  generalize (((w1.alloc WZ).alloc WZ).alloc (.cells #[.slice a l.length cap] 22)).alloc (.cells #[.slice a1 x.length c1] 24) = W0 at *
  have HOK:=Zh hok0
  have HD:=Zh hd
  have HBW:=Zh hbw
  have hpy:=Zov (Pst.mk a cap l a1 c1 x) W0 (pw + 1 + 1) (pw + 1 + 1 + 1) (by omega) hok0 hl hb2 hb3 (fun b hb h=>by have:=hd b hb;rcases h with h | h <;> omega)
  clear hd hbel hbw hok0
  obtain ⟨s0,hs0⟩:∃ s0,Pst.mk a cap l a1 c1 x = s0:=⟨_,rfl⟩
  rw [hs0] at hpy HOK HD HG HA
  have HS0:=Zh hs0
  have hs0l:s0.l.length = l.length:=by rw [<- hs0]
  have HS0X:Hid (∀ i c,c ∈ (s0.ath i).x -> c < 256):=Zh (fun i c hc=>HXB.out c (by have:=Pst.ath_mem s0 i c hc;rw [<- hs0] at this;exact this))
  rw [hs0l] at hpy
  clear hs0
  refine Zvh (g:=.tmp 21) (gf:=59) (lb:=#[.pointer (some ⟨pw + 1 + 1,0,none⟩),.pointer (some ⟨pw + 1 + 1 + 1,0,none⟩)]) rfl (enters_of Tryz.func59 (by kernel_rfl) rfl)
   hpy (SameOn.refl _ _) ?hS ?hT (fun _=>rfl)
   (DefI w pw (pw + 1) s0) (fun _ _ _=>False) ?hI ?hIp (fun _ _ _ _ h _=>h) (fun _ _ _ _ _ _ h _ _ _=>h) ?h0
   (DefX w pw s0 (.slice a l.length cap) (.slice a1 x.length c1)) ?hAp ?assign ?body ?done (fun _ _ _ _ h _=>h.elim)
  case hS =>
   rintro b ((rfl | rfl) | hb)
   ·omega
   ·omega
   ·have:=HD.out b hb;omega
  case hT=>rintro b (rfl | rfl) <;> omega
  case hI =>
   rintro i A B h ho
   exact ⟨((h.wr.only ho (fun t=>by rcases t with t | t <;> omega) (fun b t=>by rcases t with t | t <;> omega))).up,(ho.block _ (lt_of_block h.pl) (fun t=>by rcases t with t | t <;> omega)).trans h.pl,h.ok.only ho (fun b hb t=>by have:=HD.out b hb;rcases t with t | t <;> omega),Below.only h.bel ho (Nat.le_refl _) (fun b t=>by rcases t with t | t <;> omega)⟩
  case hIp =>
   rintro i A r ob o' h h0 h1 h2
   exact ⟨by rw [World.putObj_size];exact h.wr.put h1 h2 o',Zap h.pl h1 h2,h.ok.put o' (fun b hb=>by have:=HD.out b hb;omega),Below.put h.bel (Nat.le_refl _) h1 (by omega) o'⟩
  case h0=>exact ⟨(Ztz _ hb0).mono (by omega),hb1,HOK.out,HBW.out⟩
  case hAp =>
   rintro i lo hi a' A r ob o' ⟨h1,h2,h3,h4,pb,rv,h5,h6⟩ h7 h8 h9
   exact ⟨h1.put h8 h9 o',Zap h2 h8 h9,h3.put o' (fun b hb=>by have:=HD.out b hb;omega),Below.put h4 (Nat.le_refl _) h8 (by omega) o',pb,rv,Zap h5 h8 h9,h6⟩
  case assign =>
   rintro y i A0 W K hi hsz hI hoT hK
   simp only [Pst.row]
   have HK:=Zh hK
   have HI:=Zh hI
   have HO:=Zh hoT
   have hsz2:=hoT.size
   clear hK hI hoT
   gi_wp2
   have hb:Below W.heap.size W (W.alloc (.cells #[.slice (s0.ath i).a (s0.ath i).n (s0.ath i).cap,.slice (s0.ath i).ta (s0.ath i).z (s0.ath i).tc,.bool (decide ((s0.ath i).l.length <= 1024))] 64)):=Zai _ _
   refine HK.out _ _ (KeepsFrom.of_grownBy (row:=none) ⟨hb.os,hb.tape,hb.output,hb.size,fun k hk _=>hb.block k hk⟩ (fun j e=>by cases e)) (((Only.refl (fun _=>False) _).alloc _).sameOn ?_) (fun k h1 h2=>hb.block k h2) ⟨?_,?_,?_,?_,W.heap.size,_,World.alloc_heap_new _ _,rfl⟩
   ·rintro b ((rfl | rfl) | hb)
    ·exact ⟨by omega,id⟩
    ·exact ⟨by omega,id⟩
    ·have:=HD.out b hb;exact ⟨by omega,id⟩
   ·exact (HI.out.wr.only HO.out (fun t=>by rcases t with t | t <;> omega) (fun b t=>by rcases t with t | t <;> omega)).below hb
   ·exact (hb.block _ (by omega)).trans ((HO.out.block _ (lt_of_block HI.out.pl) (fun t=>by rcases t with t | t <;> omega)).trans HI.out.pl)
   ·exact (HI.out.ok.only HO.out (fun b hb t=>by have:=HD.out b hb;rcases t with t | t <;> omega)).only (T:=fun _=>False) (Only.ofBelow hb) (fun _ _ h=>h)
   ·have h1:=Below.only HI.out.bel HO.out (Nat.le_refl _) (fun b t=>by rcases t with t | t <;> omega)
    exact h1.trans (hb.mono h1.size)
  case body =>
   rintro y i hi lo hi' a' A hlo hlh hhi ⟨hwr,hpl,hok,hbelA,pb,rv,hpb,rfl⟩
   obtain ⟨hg,hs⟩:=HG.out i
   have hs9:(emS s0 i).2 <= 9000000:=by have:=hpn.2;omega
   have hat:=hok.at i
   obtain ⟨P0,hW0,_,_⟩:=hwr.wr (by omega)
   have hn2:(s0.ath i).n <= 1024:=by unfold Pst.n;omega
   have hzz:=(Pst.z_le hat).1
   have hLl:((s0.ath i).l.take (s0.ath i).n).length = (s0.ath i).n:=by rw [List.length_take];unfold Pst.n;omega
   have hXl:((s0.ath i).x.take (s0.ath i).z).length = (s0.ath i).z:=by rw [List.length_take];omega
   have hrL:=Zzh hat.rl (s0.ath i).n
   have hrX:=Zgc hat.rx (s0.ath i).z
   have hokL:=hat.ok.take (s0.ath i).n
   have hXb:∀ c ∈ (s0.ath i).x.take (s0.ath i).z,c < 256:=fun c hc=>HS0X.out i c (List.mem_of_mem_take hc)
   have hXx:=Pst.ath_x s0 i
   have hX1:((s0.ath i).x.take (s0.ath i).z).length <= 1000000:=by
    rw [List.length_take]
    have:s0.x.length = x.length:=by rw [<- HS0.out]
    omega
   have hS1:emS s0 (i + 1) = partW (emS s0 i) (decide ((s0.ath i).l.length <= 1024)) ((s0.ath i).l.take (s0.ath i).n) ((s0.ath i).x.take (s0.ath i).z):=rfl
   have hDa:∀ z,0 < ((s0.ath i).l.take (s0.ath i).n).length -> (s0.ath i).a = some z -> z.block < pw:=fun z h0 hz=>by
    obtain ⟨u,hu,hub⟩:=(Pst.ath_block i z).1 hz
    rw [hub]
    exact HD.out u.block (.inl ⟨by rw [List.length_take,Pst.ath_l,List.length_drop] at h0;omega,u,hu,rfl⟩)
   have hDt:∀ z,0 < ((s0.ath i).x.take (s0.ath i).z).length -> (s0.ath i).ta = some z -> z.block < pw:=fun z h0 hz=>by
    obtain ⟨u,hu,hub⟩:=(Pst.ath_block i z).2 hz
    rw [hub]
    exact HD.out u.block (.inr ⟨by rw [List.length_take] at h0;omega,u,hu,rfl⟩)
   have HEND:Hid (∀ {w5 B:World} {P:Nat -> Prop},Below A.heap.size A w5 -> (∀ b,P b -> b = pw \/ (pw + 4 <= b /\ b < lo) \/ w5.heap.size <= b) -> (∀ k o,w5.heap[k]? = some o -> o.isCells = false -> ¬ P k) -> Only P w5 B -> Wr P B pw (emS s0 (i + 1)) →
     KeepsFrom W0.heap.size A B /\ SameOn (parS s0 (pw + 1 + 1) (pw + 1 + 1 + 1)) A B /\ NewKept lo hi' A B /\ DefI w pw (pw + 1) s0 (i + 1) B):=Zh (fun h5 hP hN ho hW=>Zafw W0.heap.size (i:=i) HD.out hwpw (by omega) hlh hhi hpl hok hbelA h5 hP hN ho hW)
   have HWR:=Zh hwr
   rw [hS1] at HEND
   have hL11:((s0.ath i).l.take (s0.ath i).n).length <= 1100:=by rw [List.length_take];omega
   rw [<- hLl,<- hXl] at hpb
   clear hat hzz hXx hS1 hLl hXl hok hpl hbelA hwr
   generalize emS s0 i = S at *
   generalize (s0.ath i).l.take (s0.ath i).n = L at *
   generalize (s0.ath i).x.take (s0.ath i).z = X at *
   generalize decide ((s0.ath i).l.length <= 1024) = last at *
   generalize (s0.ath i).a = sa at *
   generalize (s0.ath i).cap = sc at *
   generalize (s0.ath i).ta = sta at *
   generalize (s0.ath i).tc = stc at *
   have HRL:=Zh hrL
   have HRX:=Zh hrX
   have HOKL:=Zh hokL
   have HXBB:=Zh hXb
   have HDA:=Zh hDa
   have HDT:=Zh hDt
   have HPB:=Zh hpb
   have HGS:=Zh hg
   clear hrL hrX hokL hXb hDa hDt hpb hg
   have hmf:∀ (fn:Fn) (first cap:Array Value) (w:World),(Instr.makeFunc fn first cap).run Tryz.prog w = .ok (.func fn first cap) w:=fun _ _ _ _=>rfl
   gi_wp2_with fail
   refine ⟨trivial,?_⟩
   gi_at_call 27
   refine (callsIn_wide.2 (Zje hW0)).mono ?_
   rintro e w2 ⟨rfl,h2⟩
   rw [h2]
   clear h2
   gi_wp2_with fail
   refine ⟨trivial,?_⟩
   gi_at_call 29
   refine (callsIn_wide.2 (Zui _)).mono ?_
   rintro e w3 ⟨rfl,h3⟩
   rw [h3]
   clear h3
   have hb3:Below A.heap.size A ((A.alloc (.cells #[.int .i64 (S.2:Nat)] 3)).alloc (kndO kF kG)):=((Below.refl _ _).alloc (Nat.le_refl _) _).alloc (by simp) _
   have h3a:((A.alloc (.cells #[.int .i64 (S.2:Nat)] 3)).alloc (kndO kF kG)).heap[A.heap.size]? = some (.cells #[.int .i64 (S.2:Nat)] 3):=(Below.heap_alloc _ _ _ (by simp)).trans (World.alloc_heap_new A _)
   have h3g:=World.alloc_heap_new (A.alloc (.cells #[.int .i64 (S.2:Nat)] 3)) (kndO kF kG)
   rw [World.size_alloc] at h3g
   have hsz3:(A.alloc (.cells #[.int .i64 (S.2:Nat)] 3)).heap.size = A.heap.size + 1:=World.size_alloc _ _
   rw [hsz3]
   generalize (A.alloc (.cells #[.int .i64 (S.2:Nat)] 3)).alloc (kndO kF kG) = W3 at *
   have HBK:=Zwg sa sc L sta X.length stc last S.2 hL11 HOKL.out.2 (by omega) (by omega) (A.heap.size + 1) pb A.heap.size W3 (HRL.out.below hb3) ((hb3.block _ (lt_of_block HPB.out)).trans HPB.out) h3a h3g
   have HB3:=Zh hb3
   clear h3a h3g hb3 hsz3 hW0
   rcases Zagk L X.length S.2 with hk | hk | hk
   ·rw [hk] at HBK
    have HBK1:Hid (Calls Tryz.prog 28 #[.slice (some ⟨A.heap.size + 1,0,none⟩) 3 3,.func (.func 30) #[] #[.pointer (some ⟨pb,0,none⟩),.pointer (some ⟨A.heap.size,0,none⟩)]] W3 fun e w'=>e = .returned (.agg #[.func (.func 60) #[] #[],.func (.func 31) #[] #[]]) /\ Below W3.heap.size W3 w'):=HBK
    clear HBK
    gi_wp2_with fail
    refine ⟨trivial,?_⟩
    gi_at_call 28
    refine (callsIn_wide.2 HBK1.out).mono ?_
    rintro e w4 ⟨rfl,hb4⟩
    have hb5:Below A.heap.size A (w4.alloc (.cells #[.func (.func 60) #[] #[],.func (.func 31) #[] #[]] 69)):=(HB3.out.trans (hb4.mono HB3.out.size)).trans ((Zai w4 _).mono (Nat.le_trans HB3.out.size hb4.size))
    have h5p:=(hb5.block _ (lt_of_block HPB.out)).trans HPB.out
    obtain ⟨b0,b1,b2⟩:=cells3 h5p
    obtain ⟨P,hW5,hP,hN⟩:=(HWR.out.below hb5).wr (by omega)
    have HLY:=Zh (lay0 hW5 HGS.out sa sc L sta stc X last (HRX.out.below hb5) HXBB.out (fun z h0 hz h=>by have h1:=HDT.out z h0 hz;have h2:=hb5.size;rcases hP _ h with h | h | h <;> omega) hX1 hs9 hk)
    have HP:=Zh (And.intro hb5 (And.intro hP hN))
    clear hb4 h5p hP hN hW5 hb5 HBK1
    gi_wp2_with fail
    refine ⟨trivial,?_⟩
    gi_at_call 31
    refine (callsIn_wide.2 HLY.out).mono ?_
    rintro e B ⟨rfl,ho,hw⟩
    have HO:=Zh (And.intro ho hw)
    clear ho hw HLY b0 b1 b2
    gi_wp2
    exact HEND.out HP.out.1 HP.out.2.1 HP.out.2.2 HO.out.1 HO.out.2
   ·rw [hk] at HBK
    have HBK1:Hid (Calls Tryz.prog 28 #[.slice (some ⟨A.heap.size + 1,0,none⟩) 3 3,.func (.func 30) #[] #[.pointer (some ⟨pb,0,none⟩),.pointer (some ⟨A.heap.size,0,none⟩)]] W3 fun e w'=>e = .returned (.agg #[.func (.func 62) #[] #[],.func (.func 65) #[] #[]]) /\ Below W3.heap.size W3 w'):=HBK
    clear HBK
    gi_wp2_with fail
    refine ⟨trivial,?_⟩
    gi_at_call 28
    refine (callsIn_wide.2 HBK1.out).mono ?_
    rintro e w4 ⟨rfl,hb4⟩
    have hb5:Below A.heap.size A (w4.alloc (.cells #[.func (.func 62) #[] #[],.func (.func 65) #[] #[]] 69)):=(HB3.out.trans (hb4.mono HB3.out.size)).trans ((Zai w4 _).mono (Nat.le_trans HB3.out.size hb4.size))
    have h5p:=(hb5.block _ (lt_of_block HPB.out)).trans HPB.out
    obtain ⟨b0,b1,b2⟩:=cells3 h5p
    obtain ⟨P,hW5,hP,hN⟩:=(HWR.out.below hb5).wr (by omega)
    have HLY:=Zh (lay1 hW5 HGS.out sa sc L sta stc X last (HRL.out.below hb5) HOKL.out (fun z h0 hz h=>by have h1:=HDA.out z h0 hz;have h2:=hb5.size;rcases hP _ h with h | h | h <;> omega) hL11 hs9 hk)
    have HP:=Zh (And.intro hb5 (And.intro hP hN))
    clear hb4 h5p hP hN hW5 hb5 HBK1
    gi_wp2_with fail
    refine ⟨trivial,?_⟩
    gi_at_call 65
    refine (callsIn_wide.2 HLY.out).mono ?_
    rintro e B ⟨rfl,ho,hw⟩
    have HO:=Zh (And.intro ho hw)
    clear ho hw HLY b0 b1 b2
    gi_wp2
    exact HEND.out HP.out.1 HP.out.2.1 HP.out.2.2 HO.out.1 HO.out.2
   ·rw [hk] at HBK
    have HBK1:Hid (Calls Tryz.prog 28 #[.slice (some ⟨A.heap.size + 1,0,none⟩) 3 3,.func (.func 30) #[] #[.pointer (some ⟨pb,0,none⟩),.pointer (some ⟨A.heap.size,0,none⟩)]] W3 fun e w'=>e = .returned (.agg #[.func (.func 66) #[] #[],.func (.func 67) #[] #[]]) /\ Below W3.heap.size W3 w'):=HBK
    clear HBK
    gi_wp2_with fail
    refine ⟨trivial,?_⟩
    gi_at_call 28
    refine (callsIn_wide.2 HBK1.out).mono ?_
    rintro e w4 ⟨rfl,hb4⟩
    have hb5:Below A.heap.size A (w4.alloc (.cells #[.func (.func 66) #[] #[],.func (.func 67) #[] #[]] 69)):=(HB3.out.trans (hb4.mono HB3.out.size)).trans ((Zai w4 _).mono (Nat.le_trans HB3.out.size hb4.size))
    have h5p:=(hb5.block _ (lt_of_block HPB.out)).trans HPB.out
    obtain ⟨b0,b1,b2⟩:=cells3 h5p
    obtain ⟨P,hW5,hP,hN⟩:=(HWR.out.below hb5).wr (by omega)
    have HLY:=Zh (lay2 hW5 HGS.out sa sc L sta stc X last (HRL.out.below hb5) HOKL.out (fun z h0 hz h=>by have h1:=HDA.out z h0 hz;have h2:=hb5.size;rcases hP _ h with h | h | h <;> omega) hL11 hs9 hk)
    have HP:=Zh (And.intro hb5 (And.intro hP hN))
    clear hb4 h5p hP hN hW5 hb5 HBK1
    gi_wp2_with fail
    refine ⟨trivial,?_⟩
    gi_at_call 67
    refine (callsIn_wide.2 HLY.out).mono ?_
    rintro e B ⟨rfl,ho,hw⟩
    have HO:=Zh (And.intro ho hw)
    clear ho hw HLY b0 b1 b2
    gi_wp2
    exact HEND.out HP.out.1 HP.out.2.1 HP.out.2.2 HO.out.1 HO.out.2
  case done =>
   rintro A hI hD
   rw [hz] at hD
   have hAs:pw + 4 < A.heap.size:=lt_of_block hD
   obtain ⟨P2,hW2,hP2,_⟩:=(Ztz (pw + 4) hI.pl).wr (by omega)
   have hrx:=hI.ok.rx
   rw [<- HS0.out] at hrx
   have hnP:∀ y,0 < x.length -> a1 = some y -> ¬ P2 y.block:=fun y h0 hy h=>by
    have:=HD.out y.block (by rw [<- HS0.out];exact .inr ⟨h0,y,hy,rfl⟩)
    rcases hP2 _ h with h | h | h <;> omega
   have hstb:(stoW ([],0) true x).2 <= 100000000:=by
    have h1:=(Zgd x.length x ([],0) true (Nat.le_refl _) Zbv).2.2
    have h2:=(M17.Zkc x.length 0).2.1
    simp only at h1
    omega
   have HST:=Zh (Zip hW2 Zbv none 0 0 a1 c1 x true hrx HXB.out hnP hstb)
   rw [show stoW ([],0) true x = plainW x from rfl] at HST hstb
   have HI:=Zh hI
   have HDD:=Zh hD
   have HP2:=Zh hP2
   have HDF:Hid (∀ T,emA ([],0) l x = T -> deflB l x = if (plainW x).2 < T.2 /\ (plainW x).1.length < T.1.length then (plainW x).1 else T.1):=Zh (fun T h=>by rw [<- h];rfl)
   have HTT:Hid (emS s0 (partN s0.l.length) = emA ([],0) l x):=Zh (by rw [hs0l];exact HA.out)
   obtain ⟨T,hT⟩:∃ T,emA ([],0) l x = T:=⟨_,rfl⟩
   have HDT:=Zh (HDF.out T hT)
   rw [hT] at HTT HA
   generalize plainW x = U at *
   clear hI hD hP2 hW2 hrx hnP HDF
   gi_wp2_with fail
   refine ⟨trivial,?_⟩
   gi_at_call 31
   refine (callsIn_wide.2 HST.out).mono ?_
   rintro e A2 ⟨rfl,ho2,hw2⟩
   have hwI:WrI (pw + 4) A.heap.size A2 pw T:=by
    have h:=HI.out.wr
    rw [show emS s0 (partN l.length) = T from HA.out] at h
    exact h.keep (fun k o hk ho _=>(ho2.block k (lt_of_block ho) (fun h=>by rcases HP2.out k h with h | h | h <;> have:=lt_of_block ho <;> omega)).trans ho)
   obtain ⟨P3,hW3,_,_⟩:=hwI.wr (by omega)
   have HD2:=Zh ((ho2.block _ (lt_of_block HDD.out) (fun h=>by have:=lt_of_block HDD.out;rcases HP2.out _ h with h | h | h <;> omega)).trans HDD.out)
   have HB2:Hid (Below w.heap.size w A2):=Zh (Below.only HI.out.bel ho2 (Nat.le_refl _) (fun b h=>by rcases HP2.out b h with h | h | h <;> omega))
   have HL1:=Zh (Zje hw2)
   have HL2:=Zh (Zje hW3)
   have HY1:=Zh (fun W (h:Below A2.heap.size A2 W)=>Zon (hw2.narrow h).widen)
   have HY2:=Zh (fun W (h:Below A2.heap.size A2 W)=>Zon (hW3.narrow h).widen)
   have hsA:=ho2.size
   obtain ⟨U1,U2⟩:=U
   obtain ⟨T1,T2⟩:=T
   simp only at HL1 HL2 HY1 HY2 HDT
   clear ho2 hw2 hwI hW3 HST HI HP2 hT
   gi_wp2_with fail
   refine ⟨trivial,?_⟩
   gi_at_call 27
   refine (callsIn_wide.2 HL1.out).mono ?_
   rintro e w2 ⟨rfl,h2⟩
   rw [h2]
   clear h2 HL1
   gi_wp2_with fail
   refine ⟨trivial,?_⟩
   gi_at_call 27
   refine (callsIn_wide.2 HL2.out).mono ?_
   rintro e w2 ⟨rfl,h2⟩
   rw [h2]
   clear h2 HL2
   by_cases hlt:U2 < T2
   ·have hlb:decide (U2 < T2) = true:=by simp [hlt]
    gi_wp2_with fail
    refine ⟨trivial,?_⟩
    gi_at_call 25
    refine (callsIn_wide.2 (HY1.out _ (Below.refl A2.heap.size A2))).mono ?_
    rintro e w5 ⟨y5,d5,rfl,_,hb5⟩
    have HBN5:Hid (Below A2.heap.size A2 w5):=Zh ((Below.refl A2.heap.size A2).trans (hb5.mono (Below.refl A2.heap.size A2).size))
    clear hb5
    gi_wp2_with fail
    refine ⟨trivial,?_⟩
    gi_at_call 25
    refine (callsIn_wide.2 (HY2.out _ HBN5.out)).mono ?_
    rintro e w6 ⟨y6,d6,rfl,_,hb6⟩
    have HBN6:Hid (Below A2.heap.size A2 w6):=Zh ((HBN5.out).trans (hb6.mono (HBN5.out).size))
    clear hb6
    by_cases hll:U1.length < T1.length
    ·have hld:decide (U1.length < T1.length) = true:=by simp [hll]
     have HDV:Hid (deflB l x = U1):=Zh (by rw [HDT.out,if_pos ⟨hlt,hll⟩])
     gi_wp2_with fail
     refine ⟨trivial,?_⟩
     gi_at_call 25
     refine (callsIn_wide.2 (HY1.out _ HBN6.out)).mono ?_
     rintro e w9 ⟨ay,cy,rfl,hoy,hby9⟩
     have hbb:Below A2.heap.size A2 w9:=(HBN6.out).trans (hby9.mono (HBN6.out).size)
     have hD9:=(hbb.block _ (lt_of_block HD2.out)).trans HD2.out
     have hB9:=HB2.out.trans (hbb.mono HB2.out.size)
     have HOY:=Zh hoy
     have HD9:=Zh hD9
     have HB9:=Zh hB9
     have hs9:w.heap.size <= (w6).heap.size:=Nat.le_trans HB2.out.size (HBN6.out).size
     clear hoy hby9 hbb hD9 hB9
     gi_wp2
     refine ⟨by simp,.inl ⟨_,_,rfl,run_takeDeferred HD9.out,?_⟩⟩
     refine ⟨_,results_tmp2 rfl _ _ _,?_⟩
     refine ⟨Below.put HB9.out (Nat.le_refl _) HD9.out (by omega) _,?_⟩
     unfold DefE
     rw [if_pos HN.out,HXX.out]
     exact ⟨ay,cy,by rw [HDV.out];rfl,by rw [HDV.out];exact (HOY.out.put HD9.out rfl _).mono hs9⟩
    ·have hld:decide (U1.length < T1.length) = false:=by simp [hll]
     have HDV:Hid (deflB l x = T1):=Zh (by rw [HDT.out,if_neg (fun h=>hll h.2)])
     gi_wp2_with fail
     refine ⟨trivial,?_⟩
     gi_at_call 25
     refine (callsIn_wide.2 (HY2.out _ HBN6.out)).mono ?_
     rintro e w9 ⟨ay,cy,rfl,hoy,hby9⟩
     have hbb:Below A2.heap.size A2 w9:=(HBN6.out).trans (hby9.mono (HBN6.out).size)
     have hD9:=(hbb.block _ (lt_of_block HD2.out)).trans HD2.out
     have hB9:=HB2.out.trans (hbb.mono HB2.out.size)
     have HOY:=Zh hoy
     have HD9:=Zh hD9
     have HB9:=Zh hB9
     have hs9:w.heap.size <= (w6).heap.size:=Nat.le_trans HB2.out.size (HBN6.out).size
     clear hoy hby9 hbb hD9 hB9
     gi_wp2
     refine ⟨by simp,.inl ⟨_,_,rfl,run_takeDeferred HD9.out,?_⟩⟩
     refine ⟨_,results_tmp2 rfl _ _ _,?_⟩
     refine ⟨Below.put HB9.out (Nat.le_refl _) HD9.out (by omega) _,?_⟩
     unfold DefE
     rw [if_pos HN.out,HXX.out]
     exact ⟨ay,cy,by rw [HDV.out];rfl,by rw [HDV.out];exact (HOY.out.put HD9.out rfl _).mono hs9⟩
   ·have hlb:decide (U2 < T2) = false:=by simp [hlt]
    have HDV:Hid (deflB l x = T1):=Zh (by rw [HDT.out,if_neg (fun h=>hlt h.1)])
    gi_wp2_with fail
    refine ⟨trivial,?_⟩
    gi_wp2_with fail
    refine ⟨trivial,?_⟩
    gi_wp2_with fail
    refine ⟨trivial,?_⟩
    gi_at_call 25
    refine (callsIn_wide.2 (HY2.out _ (Below.refl A2.heap.size A2))).mono ?_
    rintro e w9 ⟨ay,cy,rfl,hoy,hby9⟩
    have hbb:Below A2.heap.size A2 w9:=(Below.refl A2.heap.size A2).trans (hby9.mono (Below.refl A2.heap.size A2).size)
    have hD9:=(hbb.block _ (lt_of_block HD2.out)).trans HD2.out
    have hB9:=HB2.out.trans (hbb.mono HB2.out.size)
    have HOY:=Zh hoy
    have HD9:=Zh hD9
    have HB9:=Zh hB9
    have hs9:w.heap.size <= (A2).heap.size:=Nat.le_trans HB2.out.size (Below.refl A2.heap.size A2).size
    clear hoy hby9 hbb hD9 hB9
    gi_wp2
    refine ⟨by simp,.inl ⟨_,_,rfl,run_takeDeferred HD9.out,?_⟩⟩
    refine ⟨_,results_tmp2 rfl _ _ _,?_⟩
    refine ⟨Below.put HB9.out (Nat.le_refl _) HD9.out (by omega) _,?_⟩
    unfold DefE
    rw [if_pos HN.out,HXX.out]
    exact ⟨ay,cy,by rw [HDV.out];rfl,by rw [HDV.out];exact (HOY.out.put HD9.out rfl _).mono hs9⟩
end Go.Proofs.YtendielanacflaaGreat

namespace Go.Proofs.YtendielanacflaaGreat
open Go.RowKit Go.Shelf M01 M09 M10 M17 M18
theorem Zaev {l:List Tok} (h:Oks l):29 <= (dynOut l).1:=by
 rw [Zqk h]
 have h1:26 <= headN l:=by
  unfold headN hputW hputL
  rw [Zjj,Zmk]
  unfold put14
  rw [Zac,Zac,Zac]
  have:=Zqh (sgLens (M07.pack (codF l ++ codO l))) 19 (by decide)
  simp only
  omega
 show 29 <= 3 + headN l + _
 omega
theorem Zym:Oks []:=⟨by simp,by simp⟩
theorem Zail:Oks [⟨0,0,97⟩]:=⟨by simp [tokOk],by simp⟩
theorem Zsl:(fixOut []).1 = 10:=by decide +kernel
theorem Zaey:(fixOut [⟨0,0,97⟩]).1 = 18:=by decide +kernel
theorem Zabz:fixW ([],0) true [] = ([3,0],10):=by decide +kernel
theorem Zaid:fixW ([],0) true [⟨0,0,97⟩] = ([75,4,0],18):=by decide +kernel
theorem Ztc (s:Wst) (last:Bool) (l:List Tok) (x:List Nat) (h1:(fixOut l).1 < stoN x.length s.2) (h2:(fixOut l).1 <= (dynOut l).1):partW s last l x = fixW s last l:=by
 have hk:kindK l x.length s.2 = 1:=by
  unfold kindK bestK
  rw [if_pos h1,if_neg (by omega)]
 unfold partW
 rw [hk,if_neg (by decide),if_pos rfl]
theorem Zabk:deflB [] [] = [3,0]:=by
 have e:emA ([],0) [] [] = ([3,0],10):=by
  rw [Zgq _ _ _ (by decide),Ztc _ _ _ _ (by rw [Zsl];have:=(M17.Zkc 0 0).1;show 10 < st 0 0 - 0;omega) (by rw [Zsl];have:=Zaev Zym;omega),Zabz]
 unfold deflB
 rw [e,if_neg]
 rintro ⟨h,_⟩
 rw [(Zgw []).1] at h
 revert h
 decide +kernel
theorem Zahx:deflB [⟨0,0,97⟩] [97] = [75,4,0]:=by
 have e:emA ([],0) [⟨0,0,97⟩] [97] = ([75,4,0],18):=by
  rw [Zgq _ _ _ (by decide),Ztc _ _ _ _ (by rw [Zaey];have:=(M17.Zkc 1 0).1;show 18 < st 1 0 - 0;omega) (by rw [Zaey];have:=Zaev Zail;omega),Zaid]
 unfold deflB
 rw [e,if_neg]
 rintro ⟨h,_⟩
 rw [(Zgw [97]).1] at h
 revert h
 decide +kernel
theorem Zio {w:World} {a:Option Addr} {cap:Nat} {l:List Tok} (hr:RowS encT w a cap l) (hok:Oks l) (hl:l.length <= 100000) (x B:List Nat) (hx:expL [] l = some x) (hxl:x.length <= 1000000) (hB:deflB l x = B) (n:Nat) (hn:n = l.length) :
  Calls Tryz.prog 9 #[.slice a n cap] w fun e w'=>Below w.heap.size w w' /\ ∃ a c,e = .returned (.tuple #[.slice a B.length c,.int .i64 0]) /\ OwnN 5 .u8 w' w.heap.size a c B:=by
 subst hn
 refine (Zek a cap l w hr hok.2 hl (fun _ y hy=>by rw [hx] at hy;cases hy;exact hxl)).mono ?_
 rintro e w' ⟨h1,h2⟩
 unfold DefE at h2
 rw [if_pos hok.1,hx] at h2
 simp only [hB] at h2
 exact ⟨h1,h2⟩
theorem Znt {w:World} {a:Option Addr} {cap:Nat} {l:List Tok} (hr:RowS encT w a cap l) (hok:Oks l) (hl:l.length <= 100000) (hx:expL [] l = none) (n:Nat) (hn:n = l.length) :
  Calls Tryz.prog 9 #[.slice a n cap] w fun e w'=>Below w.heap.size w w' /\ e = .returned (.tuple #[.slice none 0 0,.int .i64 2]):=by
 subst hn
 refine (Zek a cap l w hr hok.2 hl (fun _ y hy=>by rw [hx] at hy;cases hy)).mono ?_
 rintro e w' ⟨h1,h2⟩
 unfold DefE at h2
 rw [if_pos hok.1,hx] at h2
 exact ⟨h1,h2⟩
theorem Zait:Oks [⟨3,1,0⟩]:=⟨by simp [tokOk],by simp⟩
theorem Zyn (w:World) (t:Tok) (cs:Array Value) (h:cs = #[.int .i64 t.len,.int .i64 t.dist,.int .u8 (t.byte:Nat)]) (B:Nat) (hB:B = w.heap.size):RowS encT (w.alloc (.cells cs 40)) (some ⟨B,0,none⟩) 1 [t] :=
 RowS.lit encT w [t] 40 cs B hB h (by simp)
set_option maxRecDepth 100000 in
set_option maxHeartbeats 1600000 in
theorem Zja (w:World):Calls Tryz.prog 11 #[] w fun e w'=>e = .returned (.bool true) /\ Below w.heap.size w w':=by
 go_enter Tryz.func11,Tryz.ntmps11
 go_wp2_with fail
 refine (Zio (RowS.nil _ _) Zym (by decide) [] [3,0] rfl (by decide) Zabk 0 rfl).mono ?_
 rintro e w1 ⟨hb1,a1,c1,he,o1⟩
 obtain rfl:e = .returned (.tuple #[.slice a1 2 c1,.int .i64 0]):=he
 have R1:=Zh o1.row
 have HB1:=Zh hb1
 clear hb1 o1
 go_wp2_with fail
 refine (Zio (Zyn w1 ⟨0,0,97⟩ _ rfl _ rfl) Zail (by decide) [97] [75,4,0] rfl (by decide) Zahx 1 rfl).mono ?_
 rintro e w2 ⟨hb2,a2,c2,he,o2⟩
 obtain rfl:e = .returned (.tuple #[.slice a2 3 c2,.int .i64 0]):=he
 have hb2':Below w1.heap.size w1 w2:=(Zai w1 _).trans (hb2.mono (by simp))
 have R2:=Zh o2.row
 have R1':=Zh (R1.out.below hb2')
 have HB2:=Zh (HB1.out.trans (hb2'.mono HB1.out.size))
 clear hb2 o2 hb2' R1 HB1
 go_wp2_with fail
 refine (Znt (Zyn w2 ⟨3,1,0⟩ _ rfl _ rfl) Zait (by decide) rfl 1 rfl).mono ?_
 rintro e w3 ⟨hb3,rfl⟩
 have hb3':Below w2.heap.size w2 w3:=(Zai w2 _).trans (hb3.mono (by simp))
 have hcv1:=Zhw (n:=2) Tryz.underlying24 Tryz.underlying5 Tryz.underlying9 rfl (R1'.out.below hb3')
 have hcv2:=Zhw (n:=3) Tryz.underlying24 Tryz.underlying5 Tryz.underlying9 rfl (R2.out.below hb3')
 rw [show strOf [3,0] = ByteArray.mk #[3,0] from rfl] at hcv1
 rw [show strOf [75,4,0] = ByteArray.mk #[75,4,0] from rfl] at hcv2
 have HB3:=Zh (HB2.out.trans (hb3'.mono HB2.out.size))
 clear hb3 hb3' R1' R2 HB2
 go_wp2
 go_ret
 exact ⟨rfl,HB3.out⟩
end Go.Proofs.YtendielanacflaaGreat

namespace Go.Proofs.YtendielanacflaaGreat
open Go.RowKit Go.Shelf M01 M09 M10 M17 M18
def repT (l:List Tok):Nat -> List Tok
 | 0=>[]
 | k + 1=>repT l k ++ l
theorem Zmn (l:List Tok):∀ k,(repT l k).length = k * l.length
 | 0=>by simp [repT]
 | k + 1=>by rw [repT,List.length_append,Zmn l k,Nat.add_mul,Nat.one_mul]
theorem Ztg (l:List Tok):∀ k t,t ∈ repT l k -> t ∈ l
 | 0,t,h=>by simp [repT] at h
 | k + 1,t,h=>by
  rw [repT] at h
  rcases List.mem_append.1 h with h | h
  ·exact Ztg l k t h
  ·exact h
theorem Zlh:ElemS Tryz.prog 22 40 encT (.agg #[.int .i64 0,.int .i64 0,.int .u8 0]) 24:=⟨Tryz.underlying22,by kernel_rfl,by kernel_rfl⟩
set_option maxRecDepth 100000 in
set_option maxHeartbeats 1600000 in
theorem Zut (a:Option Addr) (cap:Nat) (l:List Tok) (times:Nat) (w:World) (hr:RowS encT w a cap l) (hl:l.length <= 400) (ht:times < 256) :
  Calls Tryz.prog 8 #[.slice a l.length cap,.int .u8 (times:Nat)] w fun e w'=>∃ a' c',e = .returned (.slice a' (repT l (times % 8 + 1)).length c') /\ OwnS encT 40 w' w.heap.size a' c' (repT l (times % 8 + 1)) /\ Below w.heap.size w w':=by
 obtain ⟨m,hm⟩:∃ m,times % 8 = m:=⟨_,rfl⟩
 have hm8:m < 8:=by omega
 have hmo:Int.tmod (times:Int) 8 = (m:Int):=by rw [Int.tmod_eq_emod_of_nonneg (by omega)];omega
 have HR:=Zh hr
 rw [hm]
 clear hr hm
 go_enter Tryz.func8,Tryz.ntmps8
 go_wp2
 go_loopw [5,6] (fun ov iv A=>∃ (k:Nat) (a':Option Addr) (c':Nat),k <= m + 1 /\ iv = .int .i64 (k:Nat) /\ ov = .slice a' (repT l k).length c' /\ OwnS encT 40 A w.heap.size a' c' (repT l k) /\ Below w.heap.size w A) (fun _ iv _=>m + 1 - (intOf iv).toNat)
 case atStart=>exact ⟨0,none,0,by omega,rfl,rfl,OwnS.nil _ _ _ _,Below.refl _ _⟩
 case round =>
  obtain ⟨k,a',c',hk,rfl,rfl,hown,hb⟩:=hrel
  by_cases hlt:k <= m
  ·have hlt':decide (k <= m) = true:=by simp [hlt]
   have hln:=Zmn l k
   have hl2:(repT l k).length + l.length <= 10000:=by
    rw [hln]
    have:k * l.length <= 8 * 400:=Nat.mul_le_mul (by omega) hl
    omega
   have HSN:Hid (repT l (k + 1) = repT l k ++ l):=Zh rfl
   have HB:=Zh hb
   have hrl:=HR.out.below hb
   have hwi:IntKind.i64.wrap ((k:Int) + 1) = ((k + 1:Nat):Int):=by rw [IntWalk.i64_in _ (by omega)];omega
   clear hb hln
   generalize repT l k = r at *
   go_wp2_with (at_builtin;refine appAnyS Zlh rfl (.tmp 14) (.tmp 15) rfl rfl hown rfl rfl hrl (by omega) (by omega) HB.out.size ?_;intro a3 cap3 w9 hown9 hg9 hb9)
   go_roundw
   case rel=>exact ⟨k + 1,a3,cap3,by omega,by go_num,by rw [HSN.out,List.length_append],by rw [HSN.out];exact hown9,HB.out.trans hb9⟩
   case measure=>simp [intOf];omega
  ·obtain rfl:k = m + 1:=by omega
   have hlt':decide (m + 1 <= m) = false:=by simp
   have HO:=Zh hown
   have HB:=Zh hb
   clear hown hb hlt
   go_wp2
   go_ret
   exact ⟨a',c',rfl,HO.out,HB.out⟩
end Go.Proofs.YtendielanacflaaGreat

namespace Go.Proofs.YtendielanacflaaGreat
open Go.RowKit Go.Shelf M08
set_option maxRecDepth 100000 in
set_option maxHeartbeats 1600000 in
theorem Zkg (s:Int) (w:World) :
  Calls Tryz.prog 132 #[.int .i64 s] w fun e w'=>e = .returned (.tuple #[.int .i64 ((loS s).1:Nat),.int .i64 ((loS s).2.1:Nat),.int .i64 ((loS s).2.2:Nat)]) /\ Below w.heap.size w w':=by
 by_cases h1:257 <= s
 case neg =>
  have H:Hid (loS s = (0,0,5)):=by unfold Hid loS;rw [if_neg (by omega)]
  have t1:decide (s < 257) = true:=by simp;omega
  clear h1
  go_enter Tryz.func132,Tryz.ntmps132
  go_wp2
  refine bodyPost_ret (Zbe rfl _ _ _) rfl ?_
  exact ⟨by rw [H.out];rfl,Below.refl _ _⟩
 by_cases h2:s <= 285
 case neg =>
  have H:Hid (loS s = (0,0,5)):=by unfold Hid loS;rw [if_neg (by omega)]
  have t1:decide (s < 257) = false:=by simp;omega
  have t2:decide (285 < s) = true:=by simp;omega
  clear h1 h2
  go_enter Tryz.func132,Tryz.ntmps132
  go_wp2
  refine bodyPost_ret (Zbe rfl _ _ _) rfl ?_
  exact ⟨by rw [H.out];rfl,Below.refl _ _⟩
 by_cases h3:s = 285
 ·subst h3
  go_enter Tryz.func132,Tryz.ntmps132
  go_wp2_with fail
  refine bodyPost_ret (Zbe rfl _ _ _) rfl ?_
  have H:loS 285 = (258,0,0):=by decide +kernel
  exact ⟨by rw [H];rfl,Below.refl _ _⟩
 obtain ⟨k,hk,rfl⟩:∃ k:Nat,k < 28 /\ s = 257 + (k:Int):=⟨(s - 257).toNat,by omega,by omega⟩
 obtain ⟨g1,g2⟩:=bits28 k hk
 have H:Hid (loS (257 + (k:Int)) = ((leasts 28 8 4 3).getD k 0,(bitss 28 8 4).getD k 0,0)):=by
  unfold Hid loS
  have e:((257:Int) + (k:Int)).toNat = 257 + k:=by omega
  rw [if_pos (by omega),e,g1,g2,Nat.add_sub_cancel_left]
 have t1:decide ((257:Int) + (k:Int) < 257) = false:=by simp;omega
 have t2:decide (285 < (257:Int) + (k:Int)) = false:=by simp;omega
 have t3:(((257:Int) + (k:Int)) == 285) = false:=by simp;omega
 have hS:=Zh (Zcq 28 8 4 3 w Zafc)
 clear h1 h2 h3 g1 g2
 go_enter Tryz.func132,Tryz.ntmps132
 go_wp2_with (first | (go_at_call 80;refine (Zei 28 8 4 3 _).mono ?_;rintro e w' ⟨rfl,rfl⟩) | (go_at_call 79;refine hS.out.mono ?_;rintro e w1 ⟨a1,c1,a2,c2,rfl,r1,r2,hbw⟩))
 obtain ⟨b1,b2⟩:=Zbo w1 (.slice a1 28 c1) (.slice a2 28 c2) 133
 have hbw2:Below w.heap.size w (w1.alloc (.cells #[.slice a1 28 c1,.slice a2 28 c2] 133)):=hbw.alloc hbw.size _
 have r1':=r1.below (Zav w1 (.cells #[.slice a1 28 c1,.slice a2 28 c2] 133))
 have r2':=r2.below (Zav w1 (.cells #[.slice a1 28 c1,.slice a2 28 c2] 133))
 generalize hB:w1.heap.size = B at *
 generalize w1.alloc (.cells #[.slice a1 28 c1,.slice a2 28 c2] 133) = W at *
 obtain ⟨x1,o1,rfl,_,d1⟩:=r1'.at (i:=k) (by rw [Zcx];exact hk)
 obtain ⟨x2,o2,rfl,_,d2⟩:=r2'.at (i:=k) (by simpa [bitss] using hk)
 have e1:(leasts 28 8 4 3)[k]'(by rw [Zcx];exact hk) = (leasts 28 8 4 3).getD k 0:=by rw [List.getD_eq_getElem?_getD,List.getElem?_eq_getElem (by rw [Zcx];exact hk)];rfl
 have e2:(bitss 28 8 4)[k]'(by simpa [bitss] using hk) = (bitss 28 8 4).getD k 0:=by rw [List.getD_eq_getElem?_getD,List.getElem?_eq_getElem (by simpa [bitss] using hk)];rfl
 rw [e1] at d1
 rw [e2] at d2
 have HBW:=Zh hbw2
 clear hS r1 r2 r1' r2' e1 e2 hbw hbw2 hB
 generalize (leasts 28 8 4 3).getD k 0 = x at *
 generalize (bitss 28 8 4).getD k 0 = y at *
 have q1:(257:Int) + (k:Int) - 257 = (k:Int):=by omega
 have q2:(k:Int) < 28:=by omega
 go_wp2_with fail
 go_quiet (fail)
 go_wp2
 refine bodyPost_ret (Zbe rfl _ _ _) rfl ?_
 exact ⟨by rw [H.out];rfl,belDN HBW.out _⟩
set_option maxRecDepth 100000 in
set_option maxHeartbeats 1600000 in
theorem Zhs (s:Int) (w:World) :
  Calls Tryz.prog 133 #[.int .i64 s] w fun e w'=>e = .returned (.tuple #[.int .i64 ((doS s).1:Nat),.int .i64 ((doS s).2.1:Nat),.int .i64 ((doS s).2.2:Nat)]) /\ Below w.heap.size w w':=by
 by_cases h1:0 <= s
 case neg =>
  have H:Hid (doS s = (0,0,5)):=by unfold Hid doS;rw [if_neg (by omega)]
  have t1:decide (s < 0) = true:=by simp;omega
  clear h1
  go_enter Tryz.func133,Tryz.ntmps133
  go_wp2
  refine bodyPost_ret (Zbe rfl _ _ _) rfl ?_
  exact ⟨by rw [H.out];rfl,Below.refl _ _⟩
 by_cases h2:s < 30
 case neg =>
  have H:Hid (doS s = (0,0,5)):=by unfold Hid doS;rw [if_neg (by omega)]
  have t1:decide (s < 0) = false:=by simp;omega
  have t2:decide (30 <= s) = true:=by simp;omega
  clear h1 h2
  go_enter Tryz.func133,Tryz.ntmps133
  go_wp2
  refine bodyPost_ret (Zbe rfl _ _ _) rfl ?_
  exact ⟨by rw [H.out];rfl,Below.refl _ _⟩
 obtain ⟨k,rfl⟩:=Int.eq_ofNat_of_zero_le h1
 have hk:k < 30:=by omega
 obtain ⟨g1,g2⟩:=bits30 k hk
 have H:Hid (doS (k:Int) = ((leasts 30 4 2 1).getD k 0,(bitss 30 4 2).getD k 0,0)):=by
  unfold Hid doS
  rw [if_pos ⟨h1,h2⟩,Int.toNat_natCast,g1,g2]
 have t1:decide ((k:Int) < 0) = false:=by simp
 have t2:decide (30 <= (k:Int)) = false:=by simp;omega
 have hS:=Zh (Zcq 30 4 2 1 w Zyl)
 clear h1 h2 g1 g2
 go_enter Tryz.func133,Tryz.ntmps133
 go_wp2_with (first | (go_at_call 80;refine (Zei 30 4 2 1 _).mono ?_;rintro e w' ⟨rfl,rfl⟩) | (go_at_call 79;refine hS.out.mono ?_;rintro e w1 ⟨a1,c1,a2,c2,rfl,r1,r2,hbw⟩))
 obtain ⟨b1,b2⟩:=Zbo w1 (.slice a1 30 c1) (.slice a2 30 c2) 133
 have hbw2:Below w.heap.size w (w1.alloc (.cells #[.slice a1 30 c1,.slice a2 30 c2] 133)):=hbw.alloc hbw.size _
 have r1':=r1.below (Zav w1 (.cells #[.slice a1 30 c1,.slice a2 30 c2] 133))
 have r2':=r2.below (Zav w1 (.cells #[.slice a1 30 c1,.slice a2 30 c2] 133))
 generalize hB:w1.heap.size = B at *
 generalize w1.alloc (.cells #[.slice a1 30 c1,.slice a2 30 c2] 133) = W at *
 obtain ⟨x1,o1,rfl,_,d1⟩:=r1'.at (i:=k) (by rw [Zcx];exact hk)
 obtain ⟨x2,o2,rfl,_,d2⟩:=r2'.at (i:=k) (by simpa [bitss] using hk)
 have e1:(leasts 30 4 2 1)[k]'(by rw [Zcx];exact hk) = (leasts 30 4 2 1).getD k 0:=by rw [List.getD_eq_getElem?_getD,List.getElem?_eq_getElem (by rw [Zcx];exact hk)];rfl
 have e2:(bitss 30 4 2)[k]'(by simpa [bitss] using hk) = (bitss 30 4 2).getD k 0:=by rw [List.getD_eq_getElem?_getD,List.getElem?_eq_getElem (by simpa [bitss] using hk)];rfl
 rw [e1] at d1
 rw [e2] at d2
 have HBW:=Zh hbw2
 clear hS r1 r2 r1' r2' e1 e2 hbw hbw2 hB
 generalize (leasts 30 4 2 1).getD k 0 = x at *
 generalize (bitss 30 4 2).getD k 0 = y at *
 have q2:(k:Int) < 30:=by omega
 go_wp2_with fail
 go_quiet (fail)
 go_wp2
 refine bodyPost_ret (Zbe rfl _ _ _) rfl ?_
 exact ⟨by rw [H.out];rfl,belDN HBW.out _⟩
end Go.Proofs.YtendielanacflaaGreat

namespace Go.Proofs.YtendielanacflaaGreat
open Go.RowKit Go.Shelf M01 M10
def Strm (P:Nat -> Prop) (w:World) (sp rp:Nat) (bs:List Nat) (keep at_:Nat) (out:List Nat):Prop :=
 ∃ oa oc,w.heap[sp]? = some (.cells #[.pointer (some ⟨rp,0,none⟩),.slice oa (out.take keep).length oc,.int .i64 (keep:Nat),.int .i64 (out.length:Nat)] 101 (0,0)) ∧
  OwnN 5 .u8 w 0 oa oc (out.take keep) /\ Rd w rp bs at_ /\ P sp /\ P rp /\ rp < sp /\ (∀ g,oa = some ⟨g,0,none⟩ -> P g /\ sp < g) /\ (∀ b,w.heap.size <= b -> P b) /\ out.length <= 258 * at_ /\ keep <= 1000000000
theorem Zdc (v:Value) (w:World):Calls Tryz.prog 102 #[v,.int .i64 0] w fun e w'=>e = .returned v /\ w' = w:=by
 go_enter Tryz.func102,Tryz.ntmps102
 go_wp2
 go_ret
 exact ⟨rfl,rfl⟩
theorem Zdb (v:Value) (c:Nat) (hc:0 < c) (w:World):Calls Tryz.prog 102 #[v,.int .i64 (c:Nat)] w fun e w'=>e = .panicked formP /\ w' = w:=by
 have t1:((c:Int) == 0) = false:=by simp;omega
 go_enter Tryz.func102,Tryz.ntmps102
 go_wp2
 exact ⟨rfl,rfl,rfl⟩
theorem Zrb (v:Value) (w:World):Calls Tryz.prog 103 #[v,.int .i64 0] w fun e w'=>e = .returned v /\ w' = w:=by
 go_enter Tryz.func103,Tryz.ntmps103
 go_wp2
 go_ret
 exact ⟨rfl,rfl⟩
theorem Zra (v:Value) (c:Nat) (hc:0 < c) (w:World):Calls Tryz.prog 103 #[v,.int .i64 (c:Nat)] w fun e w'=>e = .panicked formP /\ w' = w:=by
 have t1:((c:Int) == 0) = false:=by simp;omega
 go_enter Tryz.func103,Tryz.ntmps103
 go_wp2
 exact ⟨rfl,rfl,rfl⟩
theorem Zfm (v:Value) (w:World):Calls Tryz.prog 130 #[v,.int .i64 0] w fun e w'=>e = .returned v /\ w' = w:=by
 go_enter Tryz.func130,Tryz.ntmps130
 go_wp2
 go_ret
 exact ⟨rfl,rfl⟩
theorem Zjf (v:Value) (c:Nat) (hc:0 < c) (w:World):Calls Tryz.prog 130 #[v,.int .i64 (c:Nat)] w fun e w'=>e = .panicked formP /\ w' = w:=by
 have t1:((c:Int) == 0) = false:=by simp;omega
 go_enter Tryz.func130,Tryz.ntmps130
 go_wp2
 exact ⟨rfl,rfl,rfl⟩
theorem Strm.lt {P:Nat -> Prop} {w:World} {sp rp keep at_:Nat} {bs out:List Nat} (h:Strm P w sp rp bs keep at_ out):sp < w.heap.size:=by
 obtain ⟨oa,oc,h1,_⟩:=h
 exact (Array.getElem?_eq_some_iff.1 h1).1
theorem Strm.moved {P:Nat -> Prop} {w w':World} {sp rp keep at_ at2:Nat} {bs out:List Nat} (h:Strm P w sp rp bs keep at_ out) (ho:Only (fun b=>b = rp) w w') (hr:Rd w' rp bs at2) (ha:at_ <= at2):Only P w w' /\ Strm P w' sp rp bs keep at2 out:=by
 obtain ⟨oa,oc,h1,h2,h3,h4,h5,h6,h7,h8,h9,h10⟩:=h
 exact ⟨ho.mono (fun k _ e=>by subst e;exact h5),oa,oc,Zah h1 ho (by show sp ≠ rp;omega),h2.kept (row:=some rp) ⟨ho.os,ho.tape,ho.output,ho.size,fun k hk he=>ho.block k hk (fun e=>he (by rw [e]))⟩ (fun g hg e=>by cases e;have:=(h7 _ hg).2;omega),hr,h4,h5,h6,h7,fun b hb=>h8 b (Nat.le_trans ho.size hb),by omega,h10⟩
theorem Strm.rd {P:Nat -> Prop} {w:World} {sp rp keep at_:Nat} {bs out:List Nat} (h:Strm P w sp rp bs keep at_ out):Rd w rp bs at_:=by
 obtain ⟨oa,oc,h1,h2,h3,_⟩:=h
 exact h3
theorem Strm.cells {P:Nat -> Prop} {w:World} {sp rp keep at_:Nat} {bs out:List Nat} (h:Strm P w sp rp bs keep at_ out):w.cell? ⟨sp,0,none⟩ = some (.pointer (some ⟨rp,0,none⟩)) /\ w.cell? ⟨sp,2,none⟩ = some (.int .i64 (keep:Nat)) /\ w.cell? ⟨sp,3,none⟩ = some (.int .i64 (out.length:Nat)):=by
 obtain ⟨oa,oc,h1,_⟩:=h
 obtain ⟨c0,c1,c2,c3,_,_⟩:=Zba h1
 exact ⟨c0,c2,c3⟩
set_option maxRecDepth 100000 in
theorem Zbm {P:Nat -> Prop} {w:World} {sp rp keep at_:Nat} {bs out:List Nat} (h:Strm P w sp rp bs keep at_ out) (n:Nat) (hn:n <= 32) (hle:at_ + n <= 8 * bs.length) :
  Calls Tryz.prog 56 #[.pointer (some ⟨sp,0,none⟩),.int .i64 (n:Nat)] w fun e w'=>e = .returned (.int .i64 (num bs at_ n:Nat)) /\ Only P w w' /\ Strm P w' sp rp bs keep (at_ + n) out:=by
 obtain ⟨c0,c2,c3⟩:=h.cells
 have HG:=Zh (Zfl w rp bs at_ n hn h.rd hle)
 have H:=Zh h
 have hnl:=Zdj bs at_ n
 have hnl2:num bs at_ n < 4294967296:=Nat.lt_of_lt_of_le hnl (Nat.le_trans (Nat.pow_le_pow_right (by decide) hn) (by decide))
 clear h hle hnl
 generalize num bs at_ n = v at *
 go_enter Tryz.func56,Tryz.ntmps56
 go_wp2_with fail
 refine HG.out.mono ?_
 rintro e w1 ⟨rfl,hr,ho⟩
 have K:=Zh (H.out.moved ho hr (by omega))
 clear H HG hr ho
 go_wp2_with fail
 refine (Zrb (.int .u32 (v:Nat)) w1).mono ?_
 rintro e w2 ⟨rfl,rfl⟩
 go_wp2
 go_ret
 exact ⟨rfl,K.out⟩
set_option maxRecDepth 100000 in
theorem Zbl {P:Nat -> Prop} {w:World} {sp rp keep at_:Nat} {bs out:List Nat} (h:Strm P w sp rp bs keep at_ out) (n:Nat) (hn:n <= 32) (hle:8 * bs.length < at_ + n) :
  Calls Tryz.prog 56 #[.pointer (some ⟨sp,0,none⟩),.int .i64 (n:Nat)] w fun e w'=>e = .panicked formP /\ Only P w w':=by
 obtain ⟨c0,c2,c3⟩:=h.cells
 have HG:=Zh (Zca w rp bs at_ n hn h.rd hle)
 clear h hle
 go_enter Tryz.func56,Tryz.ntmps56
 go_wp2_with fail
 refine HG.out.mono ?_
 rintro e w1 ⟨rfl,q,rfl⟩
 clear HG
 go_wp2_with fail
 refine (Zra (.int .u32 0) 2 (by decide) _).mono ?_
 rintro e w2 ⟨rfl,rfl⟩
 exact ⟨rfl,rfl,Zak _ _ _⟩
theorem Zagv {P:Nat -> Prop} {w w2:World} {sp rp keep at_:Nat} {bs out:List Nat} {oa a':Option Addr} {oc c':Nat} (c:Nat)
  (h1:w.heap[sp]? = some (.cells #[.pointer (some ⟨rp,0,none⟩),.slice oa out.length oc,.int .i64 (keep:Nat),.int .i64 (out.length:Nat)] 101 (0,0)))
  (h2:OwnN 5 .u8 w 0 oa oc out) (h3:Rd w rp bs at_) (h4:P sp /\ P rp /\ rp < sp) (h7:∀ g,oa = some ⟨g,0,none⟩ -> P g /\ sp < g) (h8:∀ b,w.heap.size <= b -> P b)
  (hk:out.length < keep) (hl:out.length + 1 <= 258 * at_) (h10:keep <= 1000000000) (hown:OwnN 5 .u8 w2 0 a' c' (out ++ [c])) (hg:w.grownBy w2 (Value.slice oa out.length oc).ownBlock)
  (hnew:∀ g,a' = some ⟨g,0,none⟩ -> oa = some ⟨g,0,none⟩ \/ w.heap.size <= g) :
  Only P w ((w2.setCell ⟨sp,1,none⟩ (.slice a' (out.length + 1) c')).setCell ⟨sp,3,none⟩ (.int .i64 ((out.length:Int) + 1))) /\ Strm P ((w2.setCell ⟨sp,1,none⟩ (.slice a' (out.length + 1) c')).setCell ⟨sp,3,none⟩ (.int .i64 ((out.length:Int) + 1))) sp rp bs keep at_ (out ++ [c]):=by
 have hlt:sp < w.heap.size:=(Array.getElem?_eq_some_iff.1 h1).1
 have hX:w2.heap[sp]? = _:=(hg.block sp hlt (Zot h2 (fun g e=>(h7 g e).2) sp (Nat.le_refl _))).trans h1
 have ho2:Only P w w2:=(Only.refl P w).grown hg (fun r hr=>by
  rcases h2.form with ⟨rfl,_,_⟩ | ⟨g,rfl,_⟩
  ·simp [Value.ownBlock] at hr
  ·simp [Value.ownBlock] at hr
   subst hr
   exact .inl (h7 _ rfl).1)
 have hO:Only P w ((w2.setCell ⟨sp,1,none⟩ (.slice a' (out.length + 1) c')).setCell ⟨sp,3,none⟩ (.int .i64 ((out.length:Int) + 1))):=(ho2.setCell (.inl h4.1) _).setCell (.inl h4.1) _
 refine ⟨hO,a',c',?_,?_,?_,h4.1,h4.2.1,h4.2.2,fun g e=>?_,fun b hb=>h8 b (Nat.le_trans hO.size hb),by simpa using hl,h10⟩
 ·rw [(Zly (Zly hX).1).2,List.take_of_length_le (by simp;omega)]
  simp
 ·rw [List.take_of_length_le (by simp;omega)]
  have hne:∀ g,a' = some ⟨g,0,none⟩ -> sp ≠ g:=fun g e=>by
   rcases hnew g e with h | h
   ·have:=(h7 g h).2;omega
   ·omega
  exact (hown.other hne _).other hne _
 ·have hrd2:Rd w2 rp bs at_:=by
   obtain ⟨a,cap,g1,g2,g3,g4,g5,g6⟩:=h3
   have hb:∀ b,b < w.heap.size -> b <= sp -> w2.heap[b]? = w.heap[b]?:=fun b hb hs=>hg.block b hb (Zot h2 (fun g e=>(h7 g e).2) b hs)
   exact ⟨a,cap,(hb rp (by omega) (by omega)).trans g1,g2.same hg.size (fun x _ hx=>hb _ (by have:=g6 x hx;omega) (by have:=g6 x hx;omega)),g3,g4,g5,g6⟩
  exact hrd2.only (((Only.refl (fun b=>b = sp) w2).setCell (p:=⟨sp,1,none⟩) (.inl rfl) _).setCell (p:=⟨sp,3,none⟩) (.inl rfl) _) (fun b hb e=>by omega)
 ·rcases hnew g e with h | h
  ·exact h7 g h
  ·exact ⟨h8 g h,by omega⟩
theorem Zadl {P:Nat -> Prop} {w:World} {sp rp keep at_:Nat} {bs out:List Nat} (c:Nat) (h:Strm P w sp rp bs keep at_ out) (hk:¬ out.length < keep) (hl:out.length + 1 <= 258 * at_) :
  Only P w (w.setCell ⟨sp,3,none⟩ (.int .i64 ((out.length:Int) + 1))) /\ Strm P (w.setCell ⟨sp,3,none⟩ (.int .i64 ((out.length:Int) + 1))) sp rp bs keep at_ (out ++ [c]):=by
 have hlt:=h.lt
 obtain ⟨oa,oc,h1,h2,h3,h4,h5,h6,h7,h8,h9,h10⟩:=h
 have hO:Only P w (w.setCell ⟨sp,3,none⟩ (.int .i64 ((out.length:Int) + 1))):=(Only.refl P w).setCell (.inl h4) _
 have htk:(out ++ [c]).take keep = out.take keep:=List.take_append_of_le_length (by omega)
 refine ⟨hO,oa,oc,?_,?_,?_,h4,h5,h6,h7,fun b hb=>h8 b (Nat.le_trans hO.size hb),by simpa using hl,h10⟩
 ·rw [(Zly h1).2,htk]
  simp
 ·rw [htk]
  exact h2.other (fun g e=>by have:=(h7 g e).2;show sp ≠ g;omega) _
 ·exact h3.only ((Only.refl (fun b=>b = sp) w).setCell (p:=⟨sp,3,none⟩) (.inl rfl) _) (fun b hb e=>by omega)
set_option maxRecDepth 100000 in
theorem Zgf {P:Nat -> Prop} {w:World} {sp rp keep at_:Nat} {bs out:List Nat} (h:Strm P w sp rp bs keep at_ out) (c:Nat) (hl:out.length + 1 <= 258 * at_) :
  Calls Tryz.prog 97 #[.pointer (some ⟨sp,0,none⟩),.int .u8 (c:Nat)] w fun e w'=>e = .returned (.tuple #[]) /\ Only P w w' /\ Strm P w' sp rp bs keep at_ (out ++ [c]):=by
 obtain ⟨oa,oc,h1,h2,h3,h4,h5,h6,h7,h8,h9,h10⟩:=h
 obtain ⟨c0,c1,c2,c3,d1,d3⟩:=Zba h1
 have hat:at_ <= 800000000:=by obtain ⟨_,_,_,_,_,hl,ha,_⟩:=h3;omega
 have hsz:out.length <= 300000000000:=by omega
 by_cases hk:out.length < keep
 ·have t1:decide ((out.length:Int) < (keep:Int)) = true:=by simp;omega
  have htk:out.take keep = out:=List.take_of_length_le (by omega)
  rw [htk] at h1 h2 c1
  have hb2:out.length < (8:Nat) * 100000000000:=by omega
  have H1:=Zh h1
  have H2:=Zh h2
  have H3:=Zh h3
  have H4:=Zh (show P sp /\ P rp /\ rp < sp from ⟨h4,h5,h6⟩)
  have H7:=Zh h7
  have H8:=Zh h8
  have hlt:sp < w.heap.size:=(Array.getElem?_eq_some_iff.1 h1).1
  clear h1 h2 h3 h4 h5 h6 h7 h8 h9
  go_enter Tryz.func97,Tryz.ntmps97
  go_wp2_with fail
  go_quiet (fail)
  go_wp2_with (at_builtin;refine app1AtN Zfb rfl (.tmp 17) (.tmp 19) rfl (base:=0) rfl (show OwnN _ _ (w.drewN nq) 0 oa oc out from H2.out) rfl (Nat.le_refl _) (by omega) (by omega) (by omega) (Nat.zero_le _) ?_;intro a' c' w2 hown hg hnew;have hX:=Zba ((hg.block sp hlt (Zot H2.out (fun g e=>(H7.out g e).2) sp (Nat.le_refl _))).trans H1.out);obtain ⟨_,_,_,e3,k1,k3⟩:=hX;replace hown:=Zh hown;replace hg:=Zh hg;replace hnew:=Zh hnew)
  go_end0
  exact ⟨rfl,Zagv c H1.out H2.out H3.out H4.out H7.out H8.out hk hl h10 hown.out ⟨hg.out.os,hg.out.tape,hg.out.output,hg.out.size,hg.out.block⟩ hnew.out⟩
 ·have t1:decide ((out.length:Int) < (keep:Int)) = false:=by simp;omega
  have H:=Zh (fun q=>Zadl c (show Strm P (w.drewN q) sp rp bs keep at_ out from ⟨oa,oc,h1,h2,h3,h4,h5,h6,h7,h8,h9,h10⟩) hk hl)
  clear h1 h2 h3 h4 h5 h6 h7 h8 h9
  go_enter Tryz.func97,Tryz.ntmps97
  go_wp2_with fail
  go_quiet (fail)
  go_wp2_with fail
  go_end0
  exact ⟨rfl,(Zak _ _ _).trans (H.out _).1,(H.out _).2⟩
end Go.Proofs.YtendielanacflaaGreat

namespace Go.Proofs.YtendielanacflaaGreat
open Go.RowKit Go.Shelf M01 M10
theorem Zyg (w:World) (p:Nat) (bs:List Nat) (at_:Nat) (h:Rd w p bs at_) :
  Calls Tryz.prog 96 #[.pointer (some ⟨p,0,none⟩)] w fun e w'=>(∃ v,e = .returned v) /\ Rd w' p bs ((at_ + 7) / 8 * 8) /\ Only (fun b=>b = p) w w':=by
 obtain ⟨a,cap,hc,hr,hb,hl,ha,hne⟩:=h
 obtain ⟨c0,c1,d0,d1⟩:=Zae hc
 have K:=Zza hc hr hb hl hne ((at_ + 7) / 8 * 8) (by omega) 0
 have hk:Hid ((((at_:Int) + 7) / 8 * 8) = (((at_ + 7) / 8 * 8:Nat):Int)):=by unfold Hid;omega
 have HK:=Zh K
 clear K hc hr hb hne
 go_enter Tryz.func96,Tryz.ntmps96
 go_wp2
 go_end0
 rw [hk.out]
 exact ⟨⟨_,rfl⟩,HK.out⟩
def StepOut (P:Nat -> Prop) (sp rp:Nat) (bs:List Nat) (keep:Nat) (R:Option (Nat × List Nat)) (w:World) (e:Ending) (w':World):Prop :=
 Only P w w' /\ match R with
 | some (at2,out2)=>e = .returned (.tuple #[]) /\ Strm P w' sp rp bs keep at2 out2
 | none=>e = .panicked formP
theorem Strm.swap {P:Nat -> Prop} {w:World} {sp rp keep at_:Nat} {bs out:List Nat} {x:Nat} (y:Nat) (h:Strm P w sp rp bs keep at_ (out ++ [x])) (hk:keep <= out.length):Strm P w sp rp bs keep at_ (out ++ [y]):=by
 obtain ⟨oa,oc,h1,h2,h3,h4,h5,h6,h7,h8,h9,h10⟩:=h
 have e1:(out ++ [x]).take keep = out.take keep:=List.take_append_of_le_length hk
 have e2:(out ++ [y]).take keep = out.take keep:=List.take_append_of_le_length hk
 have e3:(out ++ [y]).length = (out ++ [x]).length:=by simp
 exact ⟨oa,oc,by rw [e2,e3,<- e1];exact h1,by rw [e2,<- e1];exact h2,h3,h4,h5,h6,h7,h8,by rw [e3];exact h9,h10⟩
theorem Strm.bound {P:Nat -> Prop} {w:World} {sp rp keep at_:Nat} {bs out:List Nat} (h:Strm P w sp rp bs keep at_ out):out.length <= 258 * at_ /\ at_ <= 8 * bs.length /\ bs.length <= 100000000:=by
 obtain ⟨_,_,_,_,_,hl,ha,_⟩:=h.rd
 obtain ⟨oa,oc,h1,h2,h3,h4,h5,h6,h7,h8,h9,h10⟩:=h
 exact ⟨h9,ha,hl⟩
theorem Zzv (v:Value) (w:World):Calls Tryz.prog 55 #[v] w fun e w'=>e = .panicked formP /\ w' = w:=by
 go_enter Tryz.func55,Tryz.ntmps55
 go_wp2
 exact ⟨rfl,rfl,rfl⟩
theorem Zkd {P:Nat -> Prop} {w:World} {sp rp keep at_:Nat} {bs out:List Nat} (h:Strm P w sp rp bs keep at_ out) (n d:Nat) (hd:out.length < d) :
  Calls Tryz.prog 134 #[.pointer (some ⟨sp,0,none⟩),.int .i64 (n:Nat),.int .i64 (d:Nat)] w fun e w'=>e = .panicked formP /\ w' = w:=by
 obtain ⟨c0,c2,c3⟩:=h.cells
 have t1:decide (out.length < d) = true:=by simp;omega
 clear h
 go_enter Tryz.func134,Tryz.ntmps134
 go_wp2
 exact ⟨rfl,rfl,rfl⟩
set_option maxRecDepth 100000 in
set_option maxHeartbeats 1600000 in
theorem Zrt {P:Nat -> Prop} {w:World} {sp rp keep at_:Nat} {bs out:List Nat} (h:Strm P w sp rp bs keep at_ out) (n d:Nat) (hd:d <= out.length) (hd0:1 <= d) (hn:n <= 258) (hl:out.length + n <= 258 * at_) :
  Calls Tryz.prog 134 #[.pointer (some ⟨sp,0,none⟩),.int .i64 (n:Nat),.int .i64 (d:Nat)] w fun e w'=>e = .returned (.tuple #[]) /\ Only P w w' /\ Strm P w' sp rp bs keep at_ (repOut d out n):=by
 obtain ⟨c0,c2,c3⟩:=h.cells
 have hat:at_ <= 800000000:=by obtain ⟨_,_,_,_,_,hl,ha,_⟩:=h.rd;omega
 have t1:decide (out.length < d) = false:=by simp;omega
 have H:=Zh h
 clear h
 go_enter Tryz.func134,Tryz.ntmps134
 go_wp2_with fail
 clear c0 c2 c3 t1
 go_loopw [6,15] (fun _ i A=>∃ j:Nat,j <= n /\ i = .int .i64 j /\ Only P w A /\ Strm P A sp rp bs keep at_ (repOut d out j)) (fun _ i _=>n - (intOf i).toNat)
 case atStart=>exact ⟨0,by omega,rfl,Only.refl _ _,H.out⟩
 case round =>
  clear H
  obtain ⟨j,hj,rfl,ho,hs⟩:=hrel
  have HO:=Zh ho
  clear ho
  by_cases hlt:j < n
  ·have hlen:=Zdu d out j
   have HR:=Zh (show repOut d out (j + 1) = repOut d out j ++ [(repOut d out j).getD ((repOut d out j).length - d) 0] from rfl)
   generalize repOut d out j = o at *
   obtain ⟨c0,c2,c3⟩:=hs.cells
   by_cases hk:o.length < keep
   ·have t1:decide (o.length < keep) = true:=by simp;omega
    have htk:o.take keep = o:=List.take_of_length_le (by omega)
    obtain ⟨oa,oc,c1,hrow⟩:∃ oa oc,wr.cell? ⟨sp,1,none⟩ = some (.slice oa o.length oc) /\ RowN .u8 wr oa oc o:=by
     obtain ⟨oa,oc,h1,h2,_⟩:=hs
     rw [htk] at h1 h2
     exact ⟨oa,oc,(Zba h1).2.1,h2.row⟩
    have hil:o.length - d < o.length:=by omega
    obtain ⟨bl,off,rfl,hbl,hck⟩:=hrow.at hil
    have hgd:o.getD (o.length - d) 0 = o[o.length - d]:=by simp [hil]
    have q1:(o.length:Int) - (d:Int) = ((o.length - d:Nat):Int):=by omega
    have HP:=Zh (fun q c=>Zgf (show Strm P (wr.drewN q) sp rp bs keep at_ o from hs) c (by omega))
    have HS2:=Zh hs
    rw [hgd] at HR
    have HLEN:=Zh hlen
    have hol:o.length <= 300000000000:=by omega
    clear hs hgd hrow hlen hk
    generalize o[o.length - d] = c at *
    generalize hidx:o.length - d = ix at *
    go_wp2_with fail
    go_quiet (fail)
    go_wp2_with fail
    have c1':(wr.drewN nq).cell? ⟨sp,1,none⟩ = _:=c1
    have c3':(wr.drewN nq).cell? ⟨sp,3,none⟩ = _:=c3
    have hck':(wr.drewN nq).cell? ⟨bl,off + ix,none⟩ = _:=hck
    have HS3:=Zh (show Strm P (wr.drewN nq) sp rp bs keep at_ o from HS2.out)
    have HO3:=Zh (HO.out.trans (Zak _ _ nq))
    clear HP HS2 HO c0 c1 c2 c3 hck t1
    generalize wr.drewN nq = A at *
    have HP:=Zh (fun q=>Zgf (show Strm P (A.drewN q) sp rp bs keep at_ o from HS3.out) c (by have:=HLEN.out;omega))
    go_quiet (fail)
    go_wp2_with fail
    refine (HP.out _).mono ?_
    rintro e w1 ⟨rfl,ho1,hs1⟩
    have HS1:=Zh hs1
    have HO1:=Zh ((HO3.out.trans (Zak _ _ _)).trans ho1)
    clear HP HO3 HS3 ho1 hs1
    go_wp2
    go_roundw
    case rel=>exact ⟨j + 1,by omega,by go_num,HO1.out,by rw [HR.out];exact HS1.out⟩
    case measure=>simp [intOf];omega
   ·have t1:decide (o.length < keep) = false:=by simp;omega
    have HP:=Zh (fun q=>Zgf (show Strm P (wr.drewN q) sp rp bs keep at_ o from hs) 0 (by omega))
    have HLEN:=Zh hlen
    have HK:=Zh hk
    have hol:o.length <= 300000000000:=by omega
    clear hs hlen hk
    go_wp2_with fail
    go_quiet (fail)
    go_wp2_with fail
    refine (HP.out _).mono ?_
    rintro e w1 ⟨rfl,ho1,hs1⟩
    have HS1:=Zh (hs1.swap (o.getD (o.length - d) 0) (by have:=HK.out;omega))
    have HO1:=Zh ((HO.out.trans (Zak _ _ nq)).trans ho1)
    clear HO HP ho1 hs1
    go_wp2
    go_roundw
    case rel=>exact ⟨j + 1,by omega,by go_num,HO1.out,by rw [HR.out];exact HS1.out⟩
    case measure=>simp [intOf];omega
  ·obtain rfl:j = n:=by omega
   have HS:=Zh hs
   clear hs
   go_wp2
   go_end0
   exact ⟨rfl,HO.out,HS.out⟩
set_option maxRecDepth 100000 in
set_option maxHeartbeats 1600000 in
theorem Zru {P:Nat -> Prop} {w:World} {sp rp keep at_:Nat} {bs out:List Nat} (h:Strm P w sp rp bs keep at_ out) :
  Calls Tryz.prog 52 #[.pointer (some ⟨sp,0,none⟩)] w fun e w'=>StepOut P sp rp bs keep (stoB bs at_ out) w e w':=by
 obtain ⟨c0,c2,c3⟩:=h.cells
 have HA:=Zh (Zyg w rp bs at_ h.rd)
 have H:=Zh h
 unfold stoB
 clear h
 have hat:at_ <= (at_ + 7) / 8 * 8:=by omega
 generalize (at_ + 7) / 8 * 8 = a0 at *
 obtain ⟨R,hR0⟩:∃ R,R = stored0 bs a0 out:=⟨_,rfl⟩
 rw [<- hR0]
 replace hR0:=Zh hR0
 go_enter Tryz.func52,Tryz.ntmps52
 go_wp2_with fail
 refine HA.out.mono ?_
 rintro e w1 ⟨⟨v,rfl⟩,hr1,ho1⟩
 obtain ⟨k1,k2⟩:=H.out.moved ho1 hr1 hat
 have HO1:=Zh k1
 have HS1:=Zh k2
 clear H HA hr1 ho1 k1 k2 c0 c2 c3 hat
 go_wp2_with fail
 by_cases h1:a0 + 16 <= 8 * bs.length
 case neg =>
  have HR:Hid (R = none):=by rw [Hid,hR0.out];unfold stored0;rw [if_neg (by omega)]
  have HB:=Zh (Zbl HS1.out 16 (by decide) (by omega))
  clear h1
  refine HB.out.mono ?_
  rintro e w2 ⟨rfl,ho2⟩
  refine ⟨rfl,?_⟩
  rw [HR.out]
  exact ⟨HO1.out.trans ho2,rfl⟩
 have HB:=Zh (Zbm HS1.out 16 (by decide) h1)
 have hn16:=Zdj bs a0 16
 have hnn:num bs a0 16 < 65536:=hn16
 have HN:=Zh (show R = if a0 + 32 <= 8 * bs.length then if num bs (a0 + 16) 16 = 65535 - num bs a0 16 then stoL bs (num bs a0 16) (a0 + 32) out else none else none from hR0.out)
 clear h1 hn16
 generalize num bs a0 16 = n at *
 refine HB.out.mono ?_
 rintro e w2 ⟨rfl,ho2,hs2⟩
 have HO2:=Zh (HO1.out.trans ho2)
 have HS2:=Zh hs2
 clear HB HO1 HS1 ho2 hs2
 go_wp2_with fail
 by_cases h2:a0 + 32 <= 8 * bs.length
 case neg =>
  have HR:Hid (R = none):=by unfold Hid;rw [HN.out,if_neg h2]
  have HB:=Zh (Zbl HS2.out 16 (by decide) (by omega))
  clear h2
  refine HB.out.mono ?_
  rintro e w3 ⟨rfl,ho3⟩
  refine ⟨rfl,?_⟩
  rw [HR.out]
  exact ⟨HO2.out.trans ho3,rfl⟩
 have HB:=Zh (Zbm HS2.out 16 (by decide) (by omega))
 have hmm:num bs (a0 + 16) 16 < 65536:=Zdj bs (a0 + 16) 16
 have HN2:=Zh (HN.out.trans (if_pos h2))
 clear h2 HN
 generalize num bs (a0 + 16) 16 = m at *
 refine HB.out.mono ?_
 rintro e w3 ⟨rfl,ho3,hs3⟩
 have HO3:=Zh (HO2.out.trans ho3)
 have HS3:=Zh (show Strm P w3 sp rp bs keep (a0 + 32) out from hs3)
 have hxor:=Zaet n hnn
 have hzl:65535 - n <= 65535:=by omega
 clear HB HO2 HS2 ho3 hs3
 by_cases hz:m = 65535 - n
 case neg =>
  have HR:Hid (R = none):=by unfold Hid;rw [HN2.out,if_neg hz]
  have t1:((m:Int) != ((65535 - n:Nat):Int)) = true:=by simp;omega
  clear hz HN2
  generalize 65535 - n = z at *
  go_wp2_with fail
  refine ⟨rfl,?_⟩
  rw [HR.out]
  exact ⟨HO3.out,rfl⟩
 have HR:Hid (R = stoL bs n (a0 + 32) out):=by unfold Hid;rw [HN2.out,if_pos hz]
 have t1:((m:Int) != ((65535 - n:Nat):Int)) = false:=by simp;omega
 clear hz HN2
 generalize 65535 - n = z at *
 go_wp2_with fail
 clear t1 hxor
 go_loopw [17] (fun i A=>∃ j at2 out2,j <= n /\ i = .int .i64 (j:Nat) /\ Only P w A /\ Strm P A sp rp bs keep at2 out2 /\ R = stoL bs (n - j) at2 out2) (fun i _=>n - (intOf i).toNat)
 case atStart=>exact ⟨0,a0 + 32,out,by omega,rfl,HO3.out,HS3.out,HR.out⟩
 case round =>
  clear HO3 HS3 HR
  obtain ⟨j,at2,out2,hj,rfl,ho,hs,hr⟩:=hrel
  have HO:=Zh ho
  have HS:=Zh hs
  clear ho hs
  by_cases hlt:j < n
  ·obtain ⟨k,hk⟩:∃ k,n - j = k + 1:=⟨n - j - 1,by omega⟩
   have hk2:n - (j + 1) = k:=by omega
   rw [hk] at hr
   unfold stoL at hr
   by_cases h8:at2 + 8 <= 8 * bs.length
   ·rw [if_pos h8,<- hk2] at hr
    have HR:=Zh hr
    have HB:=Zh (Zbm HS.out 8 (by decide) h8)
    have hb:=HS.out.bound
    have hv:num bs at2 8 < 256:=Zdj bs at2 8
    have hbd:out2.length + 1 <= 258 * (at2 + 8):=by omega
    clear hr h8 hb hk hk2
    generalize num bs at2 8 = v at *
    go_wp2_with fail
    refine HB.out.mono ?_
    rintro e w4 ⟨rfl,ho4,hs4⟩
    have HO4:=Zh (HO.out.trans ho4)
    have HB2:=Zh (Zgf hs4 v hbd)
    clear HB HO HS ho4 hs4
    go_wp2_with fail
    refine HB2.out.mono ?_
    rintro e w5 ⟨rfl,ho5,hs5⟩
    have HO5:=Zh (HO4.out.trans ho5)
    have HS5:=Zh hs5
    clear HB2 HO4 ho5 hs5
    go_wp2
    go_roundw
    case rel=>exact ⟨j + 1,at2 + 8,out2 ++ [v],by omega,by go_num,HO5.out,HS5.out,HR.out⟩
    case measure=>simp [intOf];omega
   ·rw [if_neg h8] at hr
    have HR:=Zh hr
    have HB:=Zh (Zbl HS.out 8 (by decide) (by omega))
    clear hr h8 hk hk2
    go_wp2_with fail
    refine HB.out.mono ?_
    rintro e w4 ⟨rfl,ho4⟩
    refine ⟨rfl,?_⟩
    rw [HR.out]
    exact ⟨HO.out.trans ho4,rfl⟩
  ·obtain rfl:j = n:=by omega
   rw [Nat.sub_self] at hr
   have HR:=Zh hr
   clear hr
   go_wp2
   go_end0
   rw [HR.out]
   exact ⟨HO.out,rfl,HS.out⟩
end Go.Proofs.YtendielanacflaaGreat

namespace Go.Proofs.YtendielanacflaaGreat
open Go.RowKit Go.Shelf M01 M04 M10
theorem Strm.below {P:Nat -> Prop} {w w':World} {sp rp keep at_:Nat} {bs out:List Nat} (h:Strm P w sp rp bs keep at_ out) (hb:Below w.heap.size w w'):Only P w w' /\ Strm P w' sp rp bs keep at_ out:=by
 have hlt:=h.lt
 obtain ⟨oa,oc,h1,h2,h3,h4,h5,h6,h7,h8,h9,h10⟩:=h
 exact ⟨.ofBelow hb,oa,oc,(hb.block sp hlt).trans h1,h2.below hb,h3.below hb,h4,h5,h6,h7,fun b hb'=>h8 b (Nat.le_trans hb.size hb'),h9,h10⟩
theorem Strm.narrow {P:Nat -> Prop} {w w':World} {sp rp keep at_:Nat} {bs out:List Nat} (h:Strm P w sp rp bs keep at_ out) (hb:Below w.heap.size w w'):Strm (Sub P w.heap.size w'.heap.size) w' sp rp bs keep at_ out:=by
 have hlt:=h.lt
 obtain ⟨oa,oc,h1,h2,h3,h4,h5,h6,h7,h8,h9,h10⟩:=h
 have hz:=hb.size
 refine ⟨oa,oc,(hb.block sp hlt).trans h1,h2.below hb,h3.below hb,⟨h4,by omega⟩,⟨h5,by omega⟩,h6,fun g hg=>⟨⟨(h7 g hg).1,?_⟩,(h7 g hg).2⟩,fun b hb'=>⟨h8 b (by omega),by omega⟩,h9,h10⟩
 rcases h2.form with ⟨rfl,_,_⟩ | ⟨g',rfl,_,hg'⟩
 ·cases hg
 ·cases hg;omega
theorem Strm.widen {P:Nat -> Prop} {lo hi:Nat} {w:World} {sp rp keep at_:Nat} {bs out:List Nat} (h:Strm (Sub P lo hi) w sp rp bs keep at_ out):Strm P w sp rp bs keep at_ out:=by
 obtain ⟨oa,oc,h1,h2,h3,h4,h5,h6,h7,h8,h9,h10⟩:=h
 exact ⟨oa,oc,h1,h2,h3,h4.1,h5.1,h6,fun g hg=>⟨(h7 g hg).1.1,(h7 g hg).2⟩,fun b hb=>(h8 b hb).1,h9,h10⟩
def InS (Q:Nat -> Prop) (w:World) (sp rp:Nat) (bs:List Nat) (keep:Nat) (A:World) (at_:Nat) (out:List Nat):Prop:=Only Q w A /\ Strm Q A sp rp bs keep at_ out
theorem InS.moved {Q:Nat -> Prop} {w A B:World} {sp rp keep at_ at2:Nat} {bs out:List Nat} (h:InS Q w sp rp bs keep A at_ out) (ho:Only (fun b=>b = rp) A B) (hr:Rd B rp bs at2) (ha:at_ <= at2):InS Q w sp rp bs keep B at2 out :=
 ⟨h.1.trans (h.2.moved ho hr ha).1,(h.2.moved ho hr ha).2⟩
theorem InS.rpOnly {Q:Nat -> Prop} {w A B:World} {sp rp keep at_:Nat} {bs out:List Nat} (h:InS Q w sp rp bs keep A at_ out) (ho:Only (fun b=>b = rp) A B):Only Q w B:=by
 obtain ⟨h1,oa,oc,_,_,_,_,h5,_⟩:=h
 exact h1.trans (ho.mono (fun k _ e=>by subst e;exact h5))
theorem InS.below {Q:Nat -> Prop} {w A B:World} {sp rp keep at_:Nat} {bs out:List Nat} (h:InS Q w sp rp bs keep A at_ out) (hb:Below A.heap.size A B):InS Q w sp rp bs keep B at_ out :=
 ⟨h.1.trans (h.2.below hb).1,(h.2.below hb).2⟩
theorem InS.step {Q:Nat -> Prop} {w A B:World} {sp rp keep at_ at2:Nat} {bs out out2:List Nat} (h:InS Q w sp rp bs keep A at_ out) (ho:Only Q A B) (hs:Strm Q B sp rp bs keep at2 out2):InS Q w sp rp bs keep B at2 out2:=⟨h.1.trans ho,hs⟩
theorem StepOut.fail {P:Nat -> Prop} {sp rp keep:Nat} {bs:List Nat} {R:Option (Nat × List Nat)} {w w':World} (hR:R = none) (ho:Only P w w'):StepOut P sp rp bs keep R w (.panicked formP) w':=by
 subst hR;exact ⟨ho,rfl⟩
theorem StepOut.done {P:Nat -> Prop} {sp rp keep at2:Nat} {bs out2:List Nat} {R:Option (Nat × List Nat)} {w w':World} (hR:R = some (at2,out2)) (h:InS P w sp rp bs keep w' at2 out2):StepOut P sp rp bs keep R w (.returned (.tuple #[])) w':=by
 subst hR;exact ⟨h.1,rfl,h.2⟩
set_option maxRecDepth 100000 in
set_option maxHeartbeats 3200000 in
theorem Zhp {P:Nat -> Prop} {w:World} {sp rp keep at_:Nat} {bs out:List Nat} (h:Strm P w sp rp bs keep at_ out) (a b:Option Addr) (ca cb:Nat) (l1 l2:List Nat) (ha:RowN .u8 w a ca l1) (hb:RowN .u8 w b cb l2) :
  Calls Tryz.prog 100 #[.pointer (some ⟨sp,0,none⟩),.slice a l1.length ca,.slice b l2.length cb] w fun e w'=>StepOut P sp rp bs keep (symsB l1 l2 bs at_ out) w e w':=by
 have H:=Zh h
 have HA:=Zh ha
 have HB:=Zh hb
 have HN1:=Zh (Zcd a ca l1 w ha)
 clear h ha hb
 unfold symsB
 by_cases e1:(wordsE l1).2 = 0
 case neg =>
  rw [if_neg e1]
  simp only [if_neg e1] at HN1
  have hp:0 < (wordsE l1).2:=by omega
  clear e1
  generalize (wordsE l1).2 = c at *
  go_enter Tryz.func100,Tryz.ntmps100
  go_wp2_with fail
  refine HN1.out.mono ?_
  rintro e w1 ⟨hb1,rfl⟩
  have HB1:=Zh hb1
  clear HN1 hb1
  go_wp2_with fail
  refine (Zjf (.pointer none) c hp w1).mono ?_
  rintro e w2 ⟨rfl,rfl⟩
  exact ⟨rfl,.ofBelow HB1.out,rfl⟩
 rw [if_pos e1]
 simp only [if_pos e1] at HN1
 have HM1:=Zh (Zdv e1)
 clear e1
 have HN2:=Zh (fun w' (h:RowN .u8 w' b cb l2)=>Zcd b cb l2 w' h)
 by_cases e2:(wordsE l2).2 = 0
 case neg =>
  rw [if_neg e2]
  simp only [if_neg e2] at HN2
  have hp:0 < (wordsE l2).2:=by omega
  clear e2
  generalize (wordsE l2).2 = c at *
  go_enter Tryz.func100,Tryz.ntmps100
  go_wp2_with fail
  refine HN1.out.mono ?_
  rintro e w1 ⟨hb1,p1,rfl,ht1⟩
  have HB1:=Zh hb1
  clear HN1 hb1 ht1
  go_wp2_with fail
  refine (Zfm _ w1).mono ?_
  rintro e w1' ⟨rfl,rfl⟩
  go_wp2_with fail
  refine (HN2.out w1' (HB.out.below HB1.out)).mono ?_
  rintro e w2 ⟨hb2,rfl⟩
  have HB2:=Zh hb2
  clear HN2 hb2
  go_wp2_with fail
  refine (Zjf (.pointer none) c hp w2).mono ?_
  rintro e w3 ⟨rfl,rfl⟩
  exact ⟨rfl,.ofBelow (HB1.out.trans (HB2.out.mono HB1.out.size)),rfl⟩
 rw [if_pos e2]
 simp only [if_pos e2] at HN2
 have HM2:=Zh (Zdv e2)
 clear e2
 obtain ⟨R,hR0⟩:∃ R,R = symsL l1 l2 bs (8 * bs.length + 1) at_ out:=⟨_,rfl⟩
 rw [<- hR0]
 replace hR0:=Zh hR0
 go_enter Tryz.func100,Tryz.ntmps100
 go_wp2_with fail
 refine HN1.out.mono ?_
 rintro e w1 ⟨hb1,p1,rfl,ht1⟩
 have HB1:=Zh hb1
 have HT1:=Zh ht1
 clear HN1 hb1 ht1
 go_wp2_with fail
 refine (Zfm _ w1).mono ?_
 rintro e w1' ⟨rfl,rfl⟩
 go_wp2_with fail
 refine (HN2.out w1' (HB.out.below HB1.out)).mono ?_
 rintro e w2 ⟨hb2,p2,rfl,ht2⟩
 have HB2:=Zh (HB1.out.trans (hb2.mono HB1.out.size))
 have HT1':=Zh ((HT1.out.below hb2).widen (Nat.le_refl _) hb2.size (Nat.le_refl _))
 have HT2:=Zh (ht2.widen HB1.out.size (Nat.le_refl _) (Nat.le_refl _))
 clear HN2 hb2 ht2 HT1 HB1
 go_wp2_with fail
 refine (Zfm _ w2).mono ?_
 rintro e w2' ⟨rfl,rfl⟩
 have HS:=Zh (H.out.narrow HB2.out)
 have HSZ:=Zh (show rp < w.heap.size from H.out.rd.lt)
 have HPN:=Zh (fun (A:World) (e:Ending) (h:StepOut (Sub P w.heap.size w2'.heap.size) sp rp bs keep R w2' e A)=>(show StepOut P sp rp bs keep R w e A from by
  refine ⟨(Only.ofBelow HB2.out).trans h.1.widen,?_⟩
  have h2:=h.2
  cases R with
  | none=>exact h2
  | some r=>exact ⟨h2.1,h2.2.widen⟩))
 clear H HB2 HA HB
 generalize hQ:Sub P w.heap.size w2'.heap.size = Q at *
 have HQ:Hid (∀ b,w.heap.size <= b -> b < w2'.heap.size -> ¬ Q b):=fun b h1 h2 h3=>by rw [<- hQ] at h3;exact h3.2 ⟨h1,h2⟩
 generalize w.heap.size = lo at *
 generalize hhi:w2'.heap.size = hi at *
 clear hQ
 go_wp2_with fail
 go_loopw [8,9,10,11,12] (fun _ _ _ _ _ A=>∃ f at2 out2,InS Q w2' sp rp bs keep A at2 out2 /\ 8 * bs.length + 1 <= f + at2 /\ R = symsL l1 l2 bs f at2 out2) (fun _ _ _ _ _ A=>8 * bs.length - rdAt A rp)
 case atStart=>exact ⟨8 * bs.length + 1,at_,out,⟨Only.refl _ _,HS.out⟩,Nat.le_add_right _ _,hR0.out⟩
 case round =>
  clear HS hR0
  obtain ⟨f,at2,out2,hi2,hf,hr⟩:=hrel
  obtain ⟨c0,_,_⟩:=hi2.2.cells
  have hb2:=hi2.2.bound
  obtain ⟨f,rfl⟩:∃ g,f = g + 1:=⟨f - 1,by omega⟩
  have HRA:=Zh (Zep hi2.2.rd)
  have HG1:=Zh (Zea wr lo hi p1 rp l1 bs at2 HM1.out.1.1 (HT1'.out.only hi2.1 HQ.out) hi2.2.rd (.inl HSZ.out))
  have HI:=Zh hi2
  have HB2:=Zh hb2
  have HF:=Zh hf
  rw [Zce] at hr
  unfold symsStep at hr
  have HSS:=Zh (fun s a h=>Zii (l:=l1) (bs:=bs) (at_:=at2) (s:=s) (at2:=a) HM1.out.1.1 h)
  clear hi2 hb2 hf
  generalize hsy:sym l1 bs at2 = s1 at *
  rcases s1 with _ | ⟨c,a1⟩
  ·have HR:Hid (R = none):=hr
   clear hr hsy HSS
   go_wp2_with fail
   refine HG1.out.mono ?_
   rintro e w3 ⟨ho3,hs3⟩
   obtain rfl:e = _:=hs3
   have HO3:=Zh (HI.out.rpOnly ho3)
   clear ho3 HG1 HI
   go_wp2_with fail
   refine (Zdb (.int .i64 0) 2 (by decide) w3).mono ?_
   rintro e w4 ⟨rfl,rfl⟩
   exact ⟨rfl,HPN.out _ _ (.fail HR.out HO3.out)⟩
  ·have hlt:=(HSS.out c a1 rfl).2.2
   have hbd:out2.length + 258 <= 258 * a1:=by have:=HB2.out;omega
   clear hsy HSS
   replace hr:=Zh hr
   go_wp2_with fail
   refine HG1.out.mono ?_
   rintro e w3 ⟨ho3,hs3⟩
   obtain ⟨rfl,hrd3⟩:e = _ /\ _:=hs3
   have HI3:=Zh (HI.out.moved ho3 hrd3 (by omega))
   clear ho3 hrd3 HG1 HI
   go_wp2_with fail
   refine (Zdc _ w3).mono ?_
   rintro e w3' ⟨rfl,rfl⟩
   have h3:=HI3.out.2.bound
   have h3a:a1 <= 8 * bs.length:=h3.2.1
   have h3b:bs.length <= 100000000:=h3.2.2
   clear h3
   by_cases h256:c < 256
   ·have HR:Hid (R = symsL l1 l2 bs f a1 (out2 ++ [c])):=by
     unfold Hid
     have:=hr.out
     simpa [h256] using this
    have HP:=Zh (Zgf HI3.out.2 c (by omega))
    have t1:decide ((c:Int) < 256) = true:=by simp;omega
    clear hr
    go_wp2_with fail
    refine HP.out.mono ?_
    rintro e w4 ⟨rfl,ho4,hs4⟩
    have HI4:=Zh (HI3.out.step ho4 hs4)
    clear ho4 hs4 HI3
    go_wp2
    go_roundw
    case rel=>exact ⟨f,a1,out2 ++ [c],HI4.out,by have:=HF.out;omega,HR.out⟩
    case measure=>rw [HRA.out,Zep HI4.out.2.rd];omega
   have t1:decide ((c:Int) < 256) = false:=by simp;omega
   by_cases h6:c = 256
   ·have HR:Hid (R = some (a1,out2)):=by
     unfold Hid
     have:=hr.out
     simpa [h256,h6] using this
    have t2:((c:Int) == 256) = true:=by simp;omega
    clear hr h256 h6
    go_wp2
    go_end0
    exact HPN.out _ _ (.done HR.out HI3.out)
   have t2:((c:Int) == 256) = false:=by simp;omega
   have hr2:=hr.out
   simp only [if_neg h256,if_neg h6] at hr2
   have hbl:=Zyf c
   have HL:=Zh (fun A=>Zkg (c:Int) A)
   clear hr h256 h6
   generalize loS (c:Int) = lo3 at *
   obtain ⟨ll,ln,le⟩:=lo3
   simp only [] at hr2 hbl HL
   by_cases hle:le = 0
   case neg =>
    have HR:Hid (R = none):=by unfold Hid;simpa [hle] using hr2
    have hlp:0 < le:=by omega
    clear hr2 hbl hle
    go_wp2_with fail
    refine (HL.out _).mono ?_
    rintro e w4 ⟨rfl,hb4⟩
    have HI4:=Zh (HI3.out.below hb4)
    clear hb4 HI3 HL
    go_wp2_with fail
    refine (Zdb (.int .i64 0) le hlp w4).mono ?_
    rintro e w5 ⟨rfl,rfl⟩
    exact ⟨rfl,HPN.out _ _ (.fail HR.out HI4.out.1)⟩
   subst hle
   obtain ⟨hln,hll⟩:=hbl rfl
   simp only [ne_eq,not_true_eq_false,if_false] at hr2
   clear hbl
   have HR2:=Zh hr2
   clear hr2
   go_wp2_with fail
   refine (HL.out _).mono ?_
   rintro e w4 ⟨rfl,hb4⟩
   have HI4:=Zh (HI3.out.below hb4)
   clear hb4 HI3 HL
   go_wp2_with fail
   refine (Zdc _ w4).mono ?_
   rintro e w4' ⟨rfl,rfl⟩
   go_wp2_with fail
   by_cases h5:a1 + ln <= 8 * bs.length
   case neg =>
    have HR:Hid (R = none):=by
     have:=HR2.out
     unfold rdN at this
     rwa [if_neg h5] at this
    have HBT:=Zh (Zbl HI4.out.2 ln (by omega) (by omega))
    clear HR2 h5
    refine HBT.out.mono ?_
    rintro e w5 ⟨rfl,ho5⟩
    exact ⟨rfl,HPN.out _ _ (.fail HR.out (HI4.out.1.trans ho5))⟩
   have HBT:=Zh (Zbm HI4.out.2 ln (by omega) h5)
   have hr3:=HR2.out
   unfold rdN at hr3
   simp only [if_pos h5] at hr3
   have hx:=Zdj bs a1 ln
   obtain ⟨x,hxe⟩:∃ x,x = num bs a1 ln:=⟨_,rfl⟩
   rw [<- hxe] at hr3 hx HBT
   have hlen:ll + x <= 258:=by omega
   obtain ⟨len,hlene⟩:∃ len,len = ll + x:=⟨_,rfl⟩
   rw [<- hlene] at hr3 hlen
   have q1:(ll:Int) + (x:Int) = (len:Int):=by omega
   have ha2:a1 <= a1 + ln:=by omega
   generalize a1 + ln = a2 at *
   replace hr3:=Zh hr3
   clear HR2 h5 hxe hlene hx hll
   refine HBT.out.mono ?_
   rintro e w5 ⟨rfl,ho5,hs5⟩
   have HI5:=Zh (HI4.out.step ho5 hs5)
   clear ho5 hs5 HBT HI4
   obtain ⟨c0,_,_⟩:=HI5.out.2.cells
   go_wp2_with fail
   have HG2:=Zh (Zea w5 lo hi p2 rp l2 bs a2 HM2.out.1.1 (HT2.out.only HI5.out.1 HQ.out) HI5.out.2.rd (.inl HSZ.out))
   have HSS2:=Zh (fun s a h=>Zii (l:=l2) (bs:=bs) (at_:=a2) (s:=s) (at2:=a) HM2.out.1.1 h)
   have hr4:=hr3.out
   clear hr3
   generalize hsy2:sym l2 bs a2 = s2 at *
   rcases s2 with _ | ⟨d,a3⟩
   ·have HR:Hid (R = none):=hr4
    clear hr4 hsy2 HSS2
    refine HG2.out.mono ?_
    rintro e w6 ⟨ho6,hs6⟩
    obtain rfl:e = _:=hs6
    have HO6:=Zh (HI5.out.rpOnly ho6)
    clear ho6 HG2 HI5
    go_wp2_with fail
    refine (Zdb (.int .i64 0) 2 (by decide) w6).mono ?_
    rintro e w7 ⟨rfl,rfl⟩
    exact ⟨rfl,HPN.out _ _ (.fail HR.out HO6.out)⟩
   have hlt2:=(HSS2.out d a3 rfl).2.2
   clear hsy2 HSS2
   replace hr4:=Zh hr4
   refine HG2.out.mono ?_
   rintro e w6 ⟨ho6,hs6⟩
   obtain ⟨rfl,hrd6⟩:e = _ /\ _:=hs6
   have HI6:=Zh (HI5.out.moved ho6 hrd6 (by omega))
   clear ho6 hrd6 HG2 HI5
   go_wp2_with fail
   refine (Zdc _ w6).mono ?_
   rintro e w6' ⟨rfl,rfl⟩
   have hbl:=Znu d
   have HL:=Zh (fun A=>Zhs (d:Int) A)
   have hr5:=hr4.out
   clear hr4
   generalize doS (d:Int) = do3 at *
   obtain ⟨dl,dn,de⟩:=do3
   simp only [] at hr5 hbl HL
   by_cases hde:de = 0
   case neg =>
    have HR:Hid (R = none):=by unfold Hid;simpa [hde] using hr5
    have hdp:0 < de:=by omega
    clear hr5 hbl hde
    go_wp2_with fail
    refine (HL.out _).mono ?_
    rintro e w7 ⟨rfl,hb7⟩
    have HI7:=Zh (HI6.out.below hb7)
    clear hb7 HI6 HL
    go_wp2_with fail
    refine (Zdb (.int .i64 0) de hdp w7).mono ?_
    rintro e w8 ⟨rfl,rfl⟩
    exact ⟨rfl,HPN.out _ _ (.fail HR.out HI7.out.1)⟩
   subst hde
   obtain ⟨hdn,hdl,hdl2⟩:=hbl rfl
   simp only [not_true_eq_false,if_false] at hr5
   clear hbl
   have HR5:=Zh hr5
   clear hr5
   go_wp2_with fail
   refine (HL.out _).mono ?_
   rintro e w7 ⟨rfl,hb7⟩
   have HI7:=Zh (HI6.out.below hb7)
   clear hb7 HI6 HL
   go_wp2_with fail
   refine (Zdc _ w7).mono ?_
   rintro e w7' ⟨rfl,rfl⟩
   go_wp2_with fail
   by_cases h7:a3 + dn <= 8 * bs.length
   case neg =>
    have HR:Hid (R = none):=by
     have:=HR5.out
     unfold rdN at this
     rwa [if_neg h7] at this
    have HBT:=Zh (Zbl HI7.out.2 dn (by omega) (by omega))
    clear HR5 h7
    refine HBT.out.mono ?_
    rintro e w8 ⟨rfl,ho8⟩
    exact ⟨rfl,HPN.out _ _ (.fail HR.out (HI7.out.1.trans ho8))⟩
   have HBT:=Zh (Zbm HI7.out.2 dn (by omega) h7)
   have hr6:=HR5.out
   unfold rdN at hr6
   simp only [if_pos h7] at hr6
   have hy:=Zdj bs a3 dn
   have hy13:2 ^ dn <= 2 ^ 13:=Nat.pow_le_pow_right (by decide) hdn
   obtain ⟨y,hye⟩:∃ y,y = num bs a3 dn:=⟨_,rfl⟩
   rw [<- hye] at hr6 hy HBT
   have hfar:dl + y <= 50000:=by omega
   have hfar1:1 <= dl + y:=by omega
   obtain ⟨far,hfare⟩:∃ far,far = dl + y:=⟨_,rfl⟩
   rw [<- hfare] at hr6 hfar hfar1
   have q2:(dl:Int) + (y:Int) = (far:Int):=by omega
   have ha4:a3 <= a3 + dn:=by omega
   generalize a3 + dn = a4 at *
   replace hr6:=Zh hr6
   clear HR5 h7 hye hfare hy hy13 hdl hdl2
   refine HBT.out.mono ?_
   rintro e w8 ⟨rfl,ho8,hs8⟩
   have HI8:=Zh (HI7.out.step ho8 hs8)
   clear ho8 hs8 HBT HI7
   go_wp2_with fail
   by_cases hfo:out2.length < far
   ·have HR:Hid (R = none):=by
     have:=hr6.out
     rwa [if_pos hfo] at this
    refine (Zkd HI8.out.2 len far hfo).mono ?_
    rintro e w9 ⟨rfl,rfl⟩
    exact ⟨rfl,HPN.out _ _ (.fail HR.out HI8.out.1)⟩
   ·have HR:Hid (R = symsL l1 l2 bs f a4 (repOut far out2 len)):=by
     have:=hr6.out
     rwa [if_neg hfo] at this
    refine (Zrt HI8.out.2 len far (by omega) hfar1 hlen (by omega)).mono ?_
    rintro e w9 ⟨rfl,ho9,hs9⟩
    have HI9:=Zh (HI8.out.step ho9 hs9)
    clear ho9 hs9 HI8 hr6
    go_wp2
    go_roundw
    case rel=>exact ⟨f,a4,repOut far out2 len,HI9.out,by have:=HF.out;omega,HR.out⟩
    case measure=>rw [HRA.out,Zep HI9.out.2.rd];have:=HI9.out.2.bound;omega
end Go.Proofs.YtendielanacflaaGreat
namespace Go.Proofs.YtendielanacflaaGreat
open Go.RowKit Go.Shelf M01 M04 M10
theorem Zem (n k:Nat) (h1:1 <= n) (h2:n <= 1000) (w:World) :
  Calls Tryz.prog 98 #[.int .i64 n,.int .u8 k] w fun e w'=>∃ g,e = .returned (.slice (some ⟨g,0,none⟩) n n) /\ RowN .u8 w' (some ⟨g,0,none⟩) n (List.replicate n k) /\ Below w.heap.size w w':=by
 go_enter Tryz.func98,Tryz.ntmps98
 go_wp2_with fail
 refine (Zbp n k _ h1 h2 _ ?h1 ?h2).mono ?_
 case h1=>exact cell_of_one (World.alloc_heap_new _ _)
 case h2=>simp
 rintro e w1 ⟨g,rfl,hr,hb⟩
 have HR:=Zh hr
 have HB:=Zh hb
 clear hr hb
 go_wp2
 go_ret
 exact ⟨g,rfl,HR.out,(Zcu _ _).trans (HB.out.mono (by simp))⟩
theorem StepOut.behind {P:Nat -> Prop} {sp rp keep:Nat} {bs:List Nat} {R:Option (Nat × List Nat)} {w w1 w':World} {e:Ending} (hb:Below w.heap.size w w1) (h:StepOut P sp rp bs keep R w1 e w'):StepOut P sp rp bs keep R w e w' :=
 ⟨(Only.ofBelow hb).trans h.1,h.2⟩
theorem StepOut.post {P:Nat -> Prop} {sp rp keep:Nat} {bs:List Nat} {R:Option (Nat × List Nat)} {w w':World} {e:Ending} (h:StepOut P sp rp bs keep R w e w'):(e = .returned (.tuple #[]) \/ e = .panicked formP):=by
 have h2:=h.2
 cases R with
 | none=>exact .inr h2
 | some r=>exact .inl h2.1
set_option maxRecDepth 100000 in
set_option maxHeartbeats 1600000 in
theorem Zvr {P:Nat -> Prop} {w:World} {sp rp keep at_:Nat} {bs out:List Nat} (h:Strm P w sp rp bs keep at_ out) :
  Calls Tryz.prog 53 #[.pointer (some ⟨sp,0,none⟩)] w fun e w'=>StepOut P sp rp bs keep (symsB fixF fixD bs at_ out) w e w':=by
 have H:=Zh h
 clear h
 generalize hR:symsB fixF fixD bs at_ out = R
 have HRR:=Zh hR
 clear hR
 go_enter Tryz.func53,Tryz.ntmps53
 go_wp2_with fail
 refine (Zem 144 8 (by decide) (by decide) _).mono ?_
 rintro e w1 ⟨g1,rfl,r1,b1⟩
 go_wp2_with fail
 refine (Zem 112 9 (by decide) (by decide) _).mono ?_
 rintro e w2 ⟨g2,rfl,r2,b2⟩
 go_wp2_with fail
 refine (Zem 24 7 (by decide) (by decide) _).mono ?_
 rintro e w3 ⟨g3,rfl,r3,b3⟩
 go_wp2_with fail
 refine (Zem 8 8 (by decide) (by decide) _).mono ?_
 rintro e w4 ⟨g4,rfl,r4,b4⟩
 have R1:=((r1.below b2).below b3).below b4
 have R2:=(r2.below b3).below b4
 have R3:=r3.below b4
 have B:=((b1.trans (b2.mono b1.size)).trans (b3.mono (b1.trans (b2.mono b1.size)).size)).trans (b4.mono ((b1.trans (b2.mono b1.size)).trans (b3.mono (b1.trans (b2.mono b1.size)).size)).size)
 have HR1:=Zh R1
 have HR2:=Zh R2
 have HR3:=Zh R3
 have HR4:=Zh r4
 have HB:=Zh B
 clear r1 r2 r3 r4 b1 b2 b3 b4 R1 R2 R3 B
 go_wp2_with fail
 refine (concat4 g1 g2 g3 g4 w4 HR1.out HR2.out HR3.out HR4.out).mono ?_
 rintro e w5 ⟨a5,c5,rfl,r5,b5⟩
 have HR5:=Zh r5
 have HB5:=Zh (HB.out.trans (b5.mono HB.out.size))
 clear r5 b5 HR1 HR2 HR3 HR4 HB
 go_wp2_with fail
 refine (Zem 32 5 (by decide) (by decide) _).mono ?_
 rintro e w6 ⟨g6,rfl,r6,b6⟩
 have HR6:=Zh (show RowN .u8 w6 (some ⟨g6,0,none⟩) 32 fixD from r6)
 have HR56:=Zh (HR5.out.below b6)
 have HB6:=Zh (HB5.out.trans (b6.mono HB5.out.size))
 clear r6 b6 HR5 HB5
 go_wp2_with fail
 refine (Zhp (H.out.below HB6.out).2 a5 (some ⟨g6,0,none⟩) c5 32 fixF fixD HR56.out HR6.out).mono ?_
 rw [HRR.out]
 intro e w7 hs
 have HS:=Zh (hs.behind HB6.out)
 rcases hs.post with rfl | rfl
 ·clear hs
  go_wp2
  go_end0
  exact HS.out
 ·exact ⟨rfl,HS.out⟩
end Go.Proofs.YtendielanacflaaGreat

namespace Go.Proofs.YtendielanacflaaGreat
open Go.RowKit Go.Shelf M01 M04 M09 M10
theorem StepOut.after {P:Nat -> Prop} {sp rp keep:Nat} {bs:List Nat} {R:Option (Nat × List Nat)} {w w1 w':World} {e:Ending} (hb:Only P w w1) (h:StepOut P sp rp bs keep R w1 e w'):StepOut P sp rp bs keep R w e w' :=
 ⟨hb.trans h.1,h.2⟩
theorem Strm.pRp {P:Nat -> Prop} {w w':World} {sp rp keep at_:Nat} {bs out:List Nat} (h:Strm P w sp rp bs keep at_ out) (ho:Only (fun b=>b = rp) w w'):Only P w w':=by
 obtain ⟨oa,oc,h1,h2,h3,h4,h5,h6⟩:=h
 exact ho.mono (fun k _ e=>by subst e;exact h5)
set_option maxRecDepth 100000 in
set_option maxHeartbeats 1600000 in
theorem Zpm {P:Nat -> Prop} {w:World} {sp rp keep at_:Nat} {bs out:List Nat} (h:Strm P w sp rp bs keep at_ out) :
  Calls Tryz.prog 54 #[.pointer (some ⟨sp,0,none⟩)] w fun e w'=>StepOut P sp rp bs keep (dynB bs at_ out) w e w':=by
 obtain ⟨c0,c2,c3⟩:=h.cells
 have HG:=Zh (Zage w rp bs at_ h.rd)
 have H:=Zh h
 have HLE:=Zh (fun fo a2 (hh:hdr bs at_ = some (fo,a2))=>(Zqp (d:=0) (bs':=bs) hh).1)
 have HB:Hid (dynB bs at_ out = match hdr bs at_ with
  | none=>none
  | some (fo,a2)=>symsB fo.1 fo.2 bs a2 out):=rfl
 clear h c2 c3
 generalize dynB bs at_ out = R at *
 generalize hdr bs at_ = U at *
 go_enter Tryz.func54,Tryz.ntmps54
 go_wp2_with fail
 refine HG.out.mono ?_
 rintro e w1 ⟨ho1,h1⟩
 rcases U with _ | ⟨⟨f,o⟩,at2⟩
 ·obtain rfl:e = _:=h1
  have HO:=Zh (H.out.pRp ho1)
  have HR:Hid (R = none):=HB.out
  clear ho1 c0 HG
  go_wp2_with fail
  refine (Zdb (.int .i64 0) 2 (by decide) w1).mono ?_
  rintro e w2 ⟨rfl,rfl⟩
  exact ⟨rfl,StepOut.fail HR.out HO.out⟩
 ·obtain ⟨a1,k1,a2,k2,rfl,r1,r2,hrd⟩:=h1
  have HM:=Zh (H.out.moved ho1 hrd (HLE.out _ _ rfl))
  have HR:Hid (R = symsB f o bs at2 out):=HB.out
  have R1:=Zh r1
  have R2:=Zh r2
  clear ho1 c0 HG hrd r1 r2
  go_wp2_with fail
  refine (Zdc (.int .i64 0) w1).mono ?_
  rintro e w2 ⟨rfl,rfl⟩
  go_wp2_with fail
  refine (Zhp HM.out.2 a1 a2 k1 k2 f o R1.out R2.out).mono ?_
  rw [<- HR.out]
  intro e w7 hs
  have HS:=Zh (hs.after HM.out.1)
  rcases hs.post with rfl | rfl
  ·clear hs
   go_wp2
   go_end0
   exact HS.out
  ·exact ⟨rfl,HS.out⟩
def kindF:Nat -> FuncId
 | 0=>52
 | 1=>53
 | 2=>54
 | _=>55
theorem Zge {P:Nat -> Prop} {w:World} {sp rp keep at_:Nat} {bs out:List Nat} (h:Strm P w sp rp bs keep at_ out) (k:Nat) :
  Calls Tryz.prog (kindF k) #[.pointer (some ⟨sp,0,none⟩)] w fun e w'=>StepOut P sp rp bs keep (blkK k bs at_ out) w e w':=by
 unfold blkK
 match k with
 | 0=>rw [if_pos rfl];exact Zru h
 | 1=>rw [if_neg (by decide),if_pos rfl];exact Zvr h
 | 2=>rw [if_neg (by decide),if_neg (by decide),if_pos rfl];exact Zpm h
 | k + 3 =>
  rw [if_neg (by omega),if_neg (by omega),if_neg (by omega)]
  refine (Zzv _ w).mono ?_
  rintro e w' ⟨rfl,rfl⟩
  exact StepOut.fail rfl (Only.refl _ _)
end Go.Proofs.YtendielanacflaaGreat
