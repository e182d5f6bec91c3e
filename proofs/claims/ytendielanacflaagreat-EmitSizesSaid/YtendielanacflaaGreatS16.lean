/- emit.Deflate: contract. law18.tells: the chapter's examples. law18.many: tokens, so many times. law18.EmitBack: the stream is read as the bytes that the tokens say. Layer 8's reference May: contract. The reference of layer 17: Often, Symbols, Fixed: contracts. The reference of layer 17 (sum): contracts. The reference of layer 17: Symbols, Fixed: contracts. The reference's Stored. -/
import Derived.Test.YtendielanacflaaGreatS15
import Derived.Test.YtendielanacflaaGreatS02
import Derived.Test.YtendielanacflaaGreatS01
import Derived.Test.YtendielanacflaaGreatS03
import Derived.Test.YtendielanacflaaGreatS04
import Derived.Test.YtendielanacflaaGreatS05
import Derived.Test.YtendielanacflaaGreatS10
import Derived.Test.YtendielanacflaaGreatS13
import Derived.BigQuiet
import Derived.Lib.SlicesS
import Derived.Laws.EntriesVeiled
import Derived.Maps.AppendAt
import Derived.WalkLawsBesides
set_option linter.unusedVariables false
set_option linter.unusedSimpArgs false
namespace Go.Proofs.YtendielanacflaaGreat
open Go.RowKit Go.Shelf M01 M09 M10 M17 M18
attribute [local go_sem] Oper.semAt_some
def DefE (w:World) (l:List Tok) (e:Ending) (w':World):Prop :=
 if ∀ t ∈ l,tokOk t then match expL [] l with
  | some x=>∃ a c,e = .returned (.tuple #[.slice a (deflB l x).length c,.int .i64 0]) /\ OwnN 5 .u8 w' w.heap.size a c (deflB l x)
  | none=>e = .returned (.tuple #[.slice none 0 0,.int .i64 2])
 else e = .returned (.tuple #[.slice none 0 0,.int .i64 5])
def DefOut (w:World) (l:List Tok) (e:Ending) (w':World):Prop:=Below w.heap.size w w' /\ DefE w l e w'
abbrev WZ:Obj:=.cells #[.slice none 0 0,.int .i64 0] 42
structure DefI (w:World) (pw pp:Nat) (s:Pst) (i:Nat) (A:World):Prop where
 wr:WrI (pw + 4) A.heap.size A pw (emS s i)
 pl:A.heap[pp]? = some WZ
 ok:s.Ok A
 bel:Below w.heap.size w A
theorem Pst.ath_mem (s:Pst):∀ i c,c ∈ (s.ath i).x -> c ∈ s.x
 | 0,c,h=>h
 | i + 1,c,h=>Pst.ath_mem s i c (List.mem_of_mem_drop h)
theorem four4w (w:World) (o1 o2 o3 o4:Obj):((((w.alloc o1).alloc o2).alloc o3).alloc o4).heap.size = w.heap.size + 4 /\ ((((w.alloc o1).alloc o2).alloc o3).alloc o4).heap[w.heap.size]? = some o1 /\ ((((w.alloc o1).alloc o2).alloc o3).alloc o4).heap[w.heap.size + 1]? = some o2 /\ ((((w.alloc o1).alloc o2).alloc o3).alloc o4).heap[w.heap.size + 1 + 1]? = some o3 /\ ((((w.alloc o1).alloc o2).alloc o3).alloc o4).heap[w.heap.size + 1 + 1 + 1]? = some o4 /\ Below w.heap.size w ((((w.alloc o1).alloc o2).alloc o3).alloc o4):=by
 have h4:=World.alloc_heap_new (((w.alloc o1).alloc o2).alloc o3) o4
 have h3:=World.alloc_heap_new ((w.alloc o1).alloc o2) o3
 have h2:=World.alloc_heap_new (w.alloc o1) o2
 have h1:=World.alloc_heap_new w o1
 simp only [World.size_alloc] at h2 h3 h4
 refine ⟨by simp,?_,?_,?_,h4,(((((Below.refl _ w).alloc (Nat.le_refl _) _).alloc (by simp) _).alloc (by simp <;> omega) _).alloc (by simp <;> omega) _)⟩
 ·rw [Below.heap_alloc _ _ _ (by simp <;> omega),Below.heap_alloc _ _ _ (by simp <;> omega),Below.heap_alloc _ _ _ (by simp)];exact h1
 ·rw [Below.heap_alloc _ _ _ (by simp <;> omega),Below.heap_alloc _ _ _ (by simp)];exact h2
 ·rw [Below.heap_alloc _ _ _ (by simp)];exact h3
theorem Zrx {A:World} {pp:Nat} (n:Nat) (h:A.heap[pp]? = some WZ):WrI n n A pp ([],0) :=
 ⟨none,0,h,World.ownsRow_nil _ _ _ _,fun g hg=>(by cases hg),⟨rfl,by simp⟩,by show 0 <= _;omega⟩
theorem Pst.Ok.put {A:World} {s:Pst} (h:s.Ok A) {r:Nat} (o':Obj) (hr:∀ b,parD s b -> b ≠ r):s.Ok (A.putObj r o') :=
 h.same (S:=parD s) ⟨by rw [World.putObj_size];exact Nat.le_refl _,fun b hb=>World.putObj_heap_other (hr b hb)⟩ (fun _ h=>h)
theorem Pst.Ok.only {A B:World} {s:Pst} {T:Nat -> Prop} (h:s.Ok A) (ho:Only T A B) (hd:∀ b,parD s b -> ¬ T b):s.Ok B :=
 h.same (S:=parD s) (ho.sameOn (fun b hb=>⟨by
  rcases hb with ⟨h0,x,hx,rfl⟩ | ⟨h0,x,hx,rfl⟩
  ·obtain ⟨b',off,he,hlt,_⟩:=h.rl.at h0
   rw [hx] at he
   cases he
   exact hlt
  ·obtain ⟨b',off,he,hlt,_⟩:=h.rx.at h0
   rw [hx] at he
   cases he
   exact hlt,hd b hb⟩)) (fun _ h=>h)
def DefX (w:World) (pw:Nat) (s:Pst) (va vt:Value) (i lo hi:Nat) (a':Act) (A:World):Prop :=
 WrI (pw + 4) lo A pw (emS s i) /\ A.heap[pw + 1]? = some WZ /\ s.Ok A /\ Below w.heap.size w A /\ ∃ (pb:Nat) (rv:Value),A.heap[pb]? = some (.cells #[.slice (s.ath i).a (s.ath i).n (s.ath i).cap,.slice (s.ath i).ta (s.ath i).z (s.ath i).tc,.bool (decide ((s.ath i).l.length <= 1024))] 64) ∧
  a' = ⟨#[va,undef,.slice none 0 0,.int .i64 0,vt,.int .i64 0,.pointer (some ⟨pw,0,none⟩),.pointer (some ⟨pw + 1,0,none⟩),.pointer (some ⟨pb,0,none⟩),undef,undef,.tuple #[vt,.int .i64 0],va,.tuple #[vt,.int .i64 0],vt,.int .i64 0,.int .i64 0,.bool false,undef,va,vt,.func (.func 59) #[] #[.pointer (some ⟨pw + 1 + 1,0,none⟩),.pointer (some ⟨pw + 1 + 1 + 1,0,none⟩)],rv,undef,undef,undef,undef,undef,undef,undef,undef,undef,undef,undef,undef,undef,undef,undef,undef,undef,undef,undef,undef,undef,undef,undef],[]⟩
theorem Zact (N:Nat) {w A w5 B:World} {pw lo hi i:Nat} {s:Pst} {P:Nat -> Prop} (hd:∀ b,parD s b -> b < pw) (hpw:w.heap.size <= pw) (hlo:pw + 6 <= lo) (hlh:lo <= hi) (hhi:hi <= A.heap.size)
  (hpl:A.heap[pw + 1]? = some WZ) (hok:s.Ok A) (hbel:Below w.heap.size w A) (h5:Below A.heap.size A w5)
  (hP:∀ b,P b -> b = pw \/ (pw + 4 <= b /\ b < lo) \/ w5.heap.size <= b) (hN:∀ k o,w5.heap[k]? = some o -> o.isCells = false -> ¬ P k) (ho:Only P w5 B) (hW:Wr P B pw (emS s (i + 1))) :
  KeepsFrom N A B /\ SameOn (parS s (pw + 1 + 1) (pw + 1 + 1 + 1)) A B /\ NewKept lo hi A B /\ DefI w pw (pw + 1) s (i + 1) B:=by
 have hz:=h5.size
 have hbz:=hbel.size
 have hkeep:∀ k,k < A.heap.size -> k ≠ pw -> (k < pw + 4 \/ lo <= k) -> B.heap[k]? = A.heap[k]?:=fun k hk h1 h2 =>
  (ho.block k (by omega) (fun h=>by rcases hP k h with h | h | h <;> omega)).trans (h5.block k hk)
 refine ⟨⟨Nat.le_trans hz ho.size,fun k o _ hk hc=>?_⟩,⟨Nat.le_trans hz ho.size,fun b hb=>?_⟩,fun k h1 h2=>hkeep k (by omega) (by omega) (.inr h1),⟨hW.backI (fun b hb=>by rcases hP b hb with h | h | h <;> omega),(hkeep _ (by omega) (by omega) (.inl (by omega))).trans hpl,?_,?_⟩⟩
 ·have h6:=(h5.block k (lt_of_block hk)).trans hk
  exact (ho.block k (lt_of_block h6) (hN k o h6 hc)).trans h6
 ·have hbl:b ≠ pw /\ b < pw + 4:=by
   rcases hb with (rfl | rfl) | hb
   ·omega
   ·omega
   ·have:=hd b hb;omega
  exact hkeep b (by omega) hbl.1 (.inl hbl.2)
 ·refine (hok.only (T:=fun _=>False) (Only.ofBelow h5) (fun _ _ h=>h)).only ho (fun b hb h=>?_)
  have:=hd b hb
  rcases hP b h with h | h | h <;> omega
 ·refine Below.only (hbel.trans (h5.mono hbel.size)) ho (Nat.le_refl _) (fun b hb=>?_)
  rcases hP b hb with h | h | h <;> omega
set_option maxRecDepth 100000 in
set_option maxHeartbeats 3200000 in
theorem Zdn (a:Option Addr) (cap:Nat) (l:List Tok) (w:World) (hr:RowS encT w a cap l) (hby:∀ t ∈ l,t.byte < 256) (hl:l.length <= 100000) (hx:(∀ t ∈ l,tokOk t) -> ∀ x,expL [] l = some x -> x.length <= 1000000) :
  Calls Tryz.prog 9 #[.slice a l.length cap] w (DefOut w l):=by
 have HE:=Zh (Zgo a cap l w hr hby hl)
 have HX:=Zh hx
 have HBY:=Zh hby
 have HR:=Zh hr
 clear hr hby hx
 refine (callsIn_wide (n:=9)).1 ?_
 refine callsIn_of_wp_marks Tryz.func9 rfl trivial ?_ rfl
 simp only [Tryz.ntmps9,List.size_toArray,List.length_cons,List.length_nil,Nat.reduceAdd,Nat.reduceSub,Array.replicate_succ,Array.replicate_zero,List.push_toArray,List.append_toArray,List.nil_append,List.cons_append]
 gi_wp2_with fail
 refine ⟨trivial,?_⟩
 gi_at_call 10
 refine (callsIn_wide.2 HE.out).mono ?_
 rintro e w1 ⟨hb1,hee⟩
 unfold ExpE at hee
 have HB1:=Zh hb1
 clear hb1 HE
 by_cases hok:∀ t ∈ l,tokOk t
 case neg =>
  rw [if_neg hok] at hee
  subst hee
  have HN:=Zh hok
  clear hok
  gi_wp2
  refine ⟨_,results_tmp2 rfl _ _ _,?_⟩
  refine ⟨HB1.out,?_⟩
  unfold DefE
  rw [if_neg HN.out]
  try rfl
 rw [if_pos hok] at hee
 cases hxx:expL [] l with
 | none =>
  rw [hxx] at hee
  simp only at hee
  subst hee
  have HN:=Zh hok
  have HXX:=Zh hxx
  clear hok hxx
  gi_wp2
  refine ⟨_,results_tmp2 rfl _ _ _,?_⟩
  refine ⟨HB1.out,?_⟩
  unfold DefE
  rw [if_pos HN.out,HXX.out]
  rfl
 | some x =>
  rw [hxx] at hee
  obtain ⟨a1,c1,rfl,ho1⟩:=hee
  have HN:=Zh hok
  have HXX:=Zh hxx
  clear hok hxx
  gi_wp2_with fail
  refine ⟨trivial,?_⟩
  gi_at_call 26
  refine (callsIn_wide.2 (Zsh _ _ _ _ _ _ _)).mono ?_
  rintro e w2 ⟨rfl,rfl⟩
  gi_wp2
  obtain ⟨hz,hb0,hb1,hb2,hb3,hbel⟩:=four4w w1 WZ WZ (.cells #[.slice a l.length cap] 22) (.cells #[.slice a1 x.length c1] 24)
  obtain ⟨pw,hpw⟩:∃ pw,w1.heap.size = pw:=⟨_,rfl⟩
  have hbw:Below w.heap.size w ((((w1.alloc WZ).alloc WZ).alloc (.cells #[.slice a l.length cap] 22)).alloc (.cells #[.slice a1 x.length c1] 24)):=HB1.out.trans (hbel.mono HB1.out.size)
  have hwpw:w.heap.size <= pw:=by rw [<- hpw];exact HB1.out.size
  have hok0:(Pst.mk a cap l a1 c1 x).Ok ((((w1.alloc WZ).alloc WZ).alloc (.cells #[.slice a l.length cap] 22)).alloc (.cells #[.slice a1 x.length c1] 24)) :=
   ⟨HR.out.below hbw,ho1.row.below hbel,⟨HN.out,HBY.out⟩,by have:=(Zkn l HXX.out).2;simpa using this⟩
  have hd:∀ b,parD (Pst.mk a cap l a1 c1 x) b -> b < pw:=by
   rw [<- hpw]
   rintro b (⟨h0,y,hy,rfl⟩ | ⟨h0,y,hy,rfl⟩)
   ·obtain ⟨b',off,he,hlt,_⟩:=HR.out.at h0
    rw [show (Pst.mk a cap l a1 c1 x).a = a from rfl] at hy
    rw [hy] at he
    cases he
    exact Nat.lt_of_lt_of_le hlt HB1.out.size
   ·obtain ⟨b',off,he,hlt,_⟩:=ho1.row.at h0
    rw [show (Pst.mk a cap l a1 c1 x).ta = a1 from rfl] at hy
    rw [hy] at he
    cases he
    exact hlt
  rw [hpw] at hz hb0 hb1 hb2 hb3
  have hxl:=HX.out HN.out x HXX.out
  have HXB:Hid (∀ c ∈ x,c < 256):=Zh (Zuz l [] x HBY.out (by simp) HXX.out)
  have HA:Hid (emS (Pst.mk a cap l a1 c1 x) (partN l.length) = emA ([],0) l x):=Zh (Zacv hok0)
  have HG:Hid (∀ i,WG (emS (Pst.mk a cap l a1 c1 x) i) /\ (emS (Pst.mk a cap l a1 c1 x) i).2 <= 8000000 + 300 * i):=Zh (fun i=>by
   have h:=Zaev hok0 i
   refine ⟨h.1,?_⟩
   have h2:=h.2
   simp only at h2
   omega)
  have hpn:=Zkz l.length hl
  rw [hpw]
  generalize (((w1.alloc WZ).alloc WZ).alloc (.cells #[.slice a l.length cap] 22)).alloc (.cells #[.slice a1 x.length c1] 24) = W0 at *
  have HOK:=Zh hok0
  have HD:=Zh hd
  have HBW:=Zh hbw
  have hpy:=Znh (Pst.mk a cap l a1 c1 x) W0 (pw + 1 + 1) (pw + 1 + 1 + 1) (by omega) hok0 hl hb2 hb3 (fun b hb h=>by have:=hd b hb;rcases h with h | h <;> omega)
  clear hd hbel hbw hok0
  obtain ⟨s0,hs0⟩:∃ s0,Pst.mk a cap l a1 c1 x = s0:=⟨_,rfl⟩
  rw [hs0] at hpy HOK HD HG HA
  have HS0:=Zh hs0
  have hs0l:s0.l.length = l.length:=by rw [<- hs0]
  have HS0X:Hid (∀ i c,c ∈ (s0.ath i).x -> c < 256):=Zh (fun i c hc=>HXB.out c (by have:=Pst.ath_mem s0 i c hc;rw [<- hs0] at this;exact this))
  rw [hs0l] at hpy
  clear hs0
  refine Zsy (g:=.tmp 21) (gf:=59) (lb:=#[.pointer (some ⟨pw + 1 + 1,0,none⟩),.pointer (some ⟨pw + 1 + 1 + 1,0,none⟩)]) rfl (enters_of Tryz.func59 (by kernel_rfl) rfl)
   hpy (SameOn.refl _ _) ?hS ?hT (fun _=>rfl)
   (DefI w pw (pw + 1) s0) (fun _ _ _=>False) ?hI ?hIp (fun _ _ _ _ h _=>h) (fun _ _ _ _ _ _ h _ _ _=>h) ?h0
   (DefX w pw s0 (.slice a l.length cap) (.slice a1 x.length c1)) ?hAp ?assign ?body ?done (fun _ _ _ _ h _=>h.elim)
  case hS =>
   rintro b ((rfl | rfl) | hb)
   ·omega
   ·omega
   ·have:=HD.out b hb;omega
  case hT=>rintro b (rfl | rfl) <;> omega
  case hI =>
   rintro i A B h ho
   exact ⟨((h.wr.only ho (fun t=>by rcases t with t | t <;> omega) (fun b t=>by rcases t with t | t <;> omega))).up,(ho.block _ (lt_of_block h.pl) (fun t=>by rcases t with t | t <;> omega)).trans h.pl,h.ok.only ho (fun b hb t=>by have:=HD.out b hb;rcases t with t | t <;> omega),Below.only h.bel ho (Nat.le_refl _) (fun b t=>by rcases t with t | t <;> omega)⟩
  case hIp =>
   rintro i A r ob o' h h0 h1 h2
   exact ⟨by rw [World.putObj_size];exact h.wr.put h1 h2 o',Zal h.pl h1 h2,h.ok.put o' (fun b hb=>by have:=HD.out b hb;omega),Below.put h.bel (Nat.le_refl _) h1 (by omega) o'⟩
  case h0=>exact ⟨(Zrx _ hb0).mono (by omega),hb1,HOK.out,HBW.out⟩
  case hAp =>
   rintro i lo hi a' A r ob o' ⟨h1,h2,h3,h4,pb,rv,h5,h6⟩ h7 h8 h9
   exact ⟨h1.put h8 h9 o',Zal h2 h8 h9,h3.put o' (fun b hb=>by have:=HD.out b hb;omega),Below.put h4 (Nat.le_refl _) h8 (by omega) o',pb,rv,Zal h5 h8 h9,h6⟩
  case assign =>
   rintro y i A0 W K hi hsz hI hoT hK
   simp only [Pst.row]
   have HK:=Zh hK
   have HI:=Zh hI
   have HO:=Zh hoT
   have hsz2:=hoT.size
   clear hK hI hoT
   gi_wp2
   have hb:Below W.heap.size W (W.alloc (.cells #[.slice (s0.ath i).a (s0.ath i).n (s0.ath i).cap,.slice (s0.ath i).ta (s0.ath i).z (s0.ath i).tc,.bool (decide ((s0.ath i).l.length <= 1024))] 64)):=Zai _ _
   refine HK.out _ _ (KeepsFrom.of_grownBy (row:=none) ⟨hb.os,hb.tape,hb.output,hb.size,fun k hk _=>hb.block k hk⟩ (fun j e=>by cases e)) (((Only.refl (fun _=>False) _).alloc _).sameOn ?_) (fun k h1 h2=>hb.block k h2) ⟨?_,?_,?_,?_,W.heap.size,_,World.alloc_heap_new _ _,rfl⟩
   ·rintro b ((rfl | rfl) | hb)
    ·exact ⟨by omega,id⟩
    ·exact ⟨by omega,id⟩
    ·have:=HD.out b hb;exact ⟨by omega,id⟩
   ·exact (HI.out.wr.only HO.out (fun t=>by rcases t with t | t <;> omega) (fun b t=>by rcases t with t | t <;> omega)).below hb
   ·exact (hb.block _ (by omega)).trans ((HO.out.block _ (lt_of_block HI.out.pl) (fun t=>by rcases t with t | t <;> omega)).trans HI.out.pl)
   ·exact (HI.out.ok.only HO.out (fun b hb t=>by have:=HD.out b hb;rcases t with t | t <;> omega)).only (T:=fun _=>False) (Only.ofBelow hb) (fun _ _ h=>h)
   ·have h1:=Below.only HI.out.bel HO.out (Nat.le_refl _) (fun b t=>by rcases t with t | t <;> omega)
    exact h1.trans (hb.mono h1.size)
  case body =>
   rintro y i hi lo hi' a' A hlo hlh hhi ⟨hwr,hpl,hok,hbelA,pb,rv,hpb,rfl⟩
   obtain ⟨hg,hs⟩:=HG.out i
   have hs9:(emS s0 i).2 <= 9000000:=by have:=hpn.2;omega
   have hat:=hok.at i
   obtain ⟨P0,hW0,_,_⟩:=hwr.wr (by omega)
   have hn2:(s0.ath i).n <= 1024:=by unfold Pst.n;omega
   have hzz:=(Pst.z_le hat).1
   have hLl:((s0.ath i).l.take (s0.ath i).n).length = (s0.ath i).n:=by rw [List.length_take];unfold Pst.n;omega
   have hXl:((s0.ath i).x.take (s0.ath i).z).length = (s0.ath i).z:=by rw [List.length_take];omega
   have hrL:=Znu hat.rl (s0.ath i).n
   have hrX:=Zhy hat.rx (s0.ath i).z
   have hokL:=hat.ok.take (s0.ath i).n
   have hXb:∀ c ∈ (s0.ath i).x.take (s0.ath i).z,c < 256:=fun c hc=>HS0X.out i c (List.mem_of_mem_take hc)
   have hXx:=Pst.ath_x s0 i
   have hX1:((s0.ath i).x.take (s0.ath i).z).length <= 1000000:=by
    rw [List.length_take]
    have:s0.x.length = x.length:=by rw [<- HS0.out]
    omega
   have hS1:emS s0 (i + 1) = partW (emS s0 i) (decide ((s0.ath i).l.length <= 1024)) ((s0.ath i).l.take (s0.ath i).n) ((s0.ath i).x.take (s0.ath i).z):=rfl
   have hDa:∀ z,0 < ((s0.ath i).l.take (s0.ath i).n).length -> (s0.ath i).a = some z -> z.block < pw:=fun z h0 hz=>by
    obtain ⟨u,hu,hub⟩:=(Pst.ath_block i z).1 hz
    rw [hub]
    exact HD.out u.block (.inl ⟨by rw [List.length_take,Pst.ath_l,List.length_drop] at h0;omega,u,hu,rfl⟩)
   have hDt:∀ z,0 < ((s0.ath i).x.take (s0.ath i).z).length -> (s0.ath i).ta = some z -> z.block < pw:=fun z h0 hz=>by
    obtain ⟨u,hu,hub⟩:=(Pst.ath_block i z).2 hz
    rw [hub]
    exact HD.out u.block (.inr ⟨by rw [List.length_take] at h0;omega,u,hu,rfl⟩)
   have HEND:Hid (∀ {w5 B:World} {P:Nat -> Prop},Below A.heap.size A w5 -> (∀ b,P b -> b = pw \/ (pw + 4 <= b /\ b < lo) \/ w5.heap.size <= b) -> (∀ k o,w5.heap[k]? = some o -> o.isCells = false -> ¬ P k) -> Only P w5 B -> Wr P B pw (emS s0 (i + 1)) →
     KeepsFrom W0.heap.size A B /\ SameOn (parS s0 (pw + 1 + 1) (pw + 1 + 1 + 1)) A B /\ NewKept lo hi' A B /\ DefI w pw (pw + 1) s0 (i + 1) B):=Zh (fun h5 hP hN ho hW=>Zact W0.heap.size (i:=i) HD.out hwpw (by omega) hlh hhi hpl hok hbelA h5 hP hN ho hW)
   have HWR:=Zh hwr
   rw [hS1] at HEND
   have hL11:((s0.ath i).l.take (s0.ath i).n).length <= 1100:=by rw [List.length_take];omega
   rw [<- hLl,<- hXl] at hpb
   clear hat hzz hXx hS1 hLl hXl hok hpl hbelA hwr
   generalize emS s0 i = S at *
   generalize (s0.ath i).l.take (s0.ath i).n = L at *
   generalize (s0.ath i).x.take (s0.ath i).z = X at *
   generalize decide ((s0.ath i).l.length <= 1024) = last at *
   generalize (s0.ath i).a = sa at *
   generalize (s0.ath i).cap = sc at *
   generalize (s0.ath i).ta = sta at *
   generalize (s0.ath i).tc = stc at *
   have HRL:=Zh hrL
   have HRX:=Zh hrX
   have HOKL:=Zh hokL
   have HXBB:=Zh hXb
   have HDA:=Zh hDa
   have HDT:=Zh hDt
   have HPB:=Zh hpb
   have HGS:=Zh hg
   clear hrL hrX hokL hXb hDa hDt hpb hg
   have hmf:∀ (fn:Fn) (first cap:Array Value) (w:World),(Instr.makeFunc fn first cap).run Tryz.prog w = .ok (.func fn first cap) w:=fun _ _ _ _=>rfl
   gi_wp2_with fail
   refine ⟨trivial,?_⟩
   gi_at_call 27
   refine (callsIn_wide.2 (Zho hW0)).mono ?_
   rintro e w2 ⟨rfl,h2⟩
   rw [h2]
   clear h2
   gi_wp2_with fail
   refine ⟨trivial,?_⟩
   gi_at_call 29
   refine (callsIn_wide.2 (Zsg _)).mono ?_
   rintro e w3 ⟨rfl,h3⟩
   rw [h3]
   clear h3
   have hb3:Below A.heap.size A ((A.alloc (.cells #[.int .i64 (S.2:Nat)] 3)).alloc (kndO kF kG)):=((Below.refl _ _).alloc (Nat.le_refl _) _).alloc (by simp) _
   have h3a:((A.alloc (.cells #[.int .i64 (S.2:Nat)] 3)).alloc (kndO kF kG)).heap[A.heap.size]? = some (.cells #[.int .i64 (S.2:Nat)] 3):=(Below.heap_alloc _ _ _ (by simp)).trans (World.alloc_heap_new A _)
   have h3g:=World.alloc_heap_new (A.alloc (.cells #[.int .i64 (S.2:Nat)] 3)) (kndO kF kG)
   rw [World.size_alloc] at h3g
   have hsz3:(A.alloc (.cells #[.int .i64 (S.2:Nat)] 3)).heap.size = A.heap.size + 1:=World.size_alloc _ _
   rw [hsz3]
   generalize (A.alloc (.cells #[.int .i64 (S.2:Nat)] 3)).alloc (kndO kF kG) = W3 at *
   have HBK:=Zua sa sc L sta X.length stc last S.2 hL11 HOKL.out.2 (by omega) (by omega) (A.heap.size + 1) pb A.heap.size W3 (HRL.out.below hb3) ((hb3.block _ (lt_of_block HPB.out)).trans HPB.out) h3a h3g
   have HB3:=Zh hb3
   clear h3a h3g hb3 hsz3 hW0
   rcases Zadj L X.length S.2 with hk | hk | hk
   ·rw [hk] at HBK
    have HBK1:Hid (Calls Tryz.prog 28 #[.slice (some ⟨A.heap.size + 1,0,none⟩) 3 3,.func (.func 30) #[] #[.pointer (some ⟨pb,0,none⟩),.pointer (some ⟨A.heap.size,0,none⟩)]] W3 fun e w'=>e = .returned (.agg #[.func (.func 60) #[] #[],.func (.func 31) #[] #[]]) /\ Below W3.heap.size W3 w'):=HBK
    clear HBK
    gi_wp2_with fail
    refine ⟨trivial,?_⟩
    gi_at_call 28
    refine (callsIn_wide.2 HBK1.out).mono ?_
    rintro e w4 ⟨rfl,hb4⟩
    have hb5:Below A.heap.size A (w4.alloc (.cells #[.func (.func 60) #[] #[],.func (.func 31) #[] #[]] 69)):=(HB3.out.trans (hb4.mono HB3.out.size)).trans ((Zai w4 _).mono (Nat.le_trans HB3.out.size hb4.size))
    have h5p:=(hb5.block _ (lt_of_block HPB.out)).trans HPB.out
    obtain ⟨b0,b1,b2⟩:=cells3 h5p
    obtain ⟨P,hW5,hP,hN⟩:=(HWR.out.below hb5).wr (by omega)
    have HLY:=Zh (lay0 hW5 HGS.out sa sc L sta stc X last (HRX.out.below hb5) HXBB.out (fun z h0 hz h=>by have h1:=HDT.out z h0 hz;have h2:=hb5.size;rcases hP _ h with h | h | h <;> omega) hX1 hs9 hk)
    have HP:=Zh (And.intro hb5 (And.intro hP hN))
    clear hb4 h5p hP hN hW5 hb5 HBK1
    gi_wp2_with fail
    refine ⟨trivial,?_⟩
    gi_at_call 31
    refine (callsIn_wide.2 HLY.out).mono ?_
    rintro e B ⟨rfl,ho,hw⟩
    have HO:=Zh (And.intro ho hw)
    clear ho hw HLY b0 b1 b2
    gi_wp2
    exact HEND.out HP.out.1 HP.out.2.1 HP.out.2.2 HO.out.1 HO.out.2
   ·rw [hk] at HBK
    have HBK1:Hid (Calls Tryz.prog 28 #[.slice (some ⟨A.heap.size + 1,0,none⟩) 3 3,.func (.func 30) #[] #[.pointer (some ⟨pb,0,none⟩),.pointer (some ⟨A.heap.size,0,none⟩)]] W3 fun e w'=>e = .returned (.agg #[.func (.func 62) #[] #[],.func (.func 65) #[] #[]]) /\ Below W3.heap.size W3 w'):=HBK
    clear HBK
    gi_wp2_with fail
    refine ⟨trivial,?_⟩
    gi_at_call 28
    refine (callsIn_wide.2 HBK1.out).mono ?_
    rintro e w4 ⟨rfl,hb4⟩
    have hb5:Below A.heap.size A (w4.alloc (.cells #[.func (.func 62) #[] #[],.func (.func 65) #[] #[]] 69)):=(HB3.out.trans (hb4.mono HB3.out.size)).trans ((Zai w4 _).mono (Nat.le_trans HB3.out.size hb4.size))
    have h5p:=(hb5.block _ (lt_of_block HPB.out)).trans HPB.out
    obtain ⟨b0,b1,b2⟩:=cells3 h5p
    obtain ⟨P,hW5,hP,hN⟩:=(HWR.out.below hb5).wr (by omega)
    have HLY:=Zh (lay1 hW5 HGS.out sa sc L sta stc X last (HRL.out.below hb5) HOKL.out (fun z h0 hz h=>by have h1:=HDA.out z h0 hz;have h2:=hb5.size;rcases hP _ h with h | h | h <;> omega) hL11 hs9 hk)
    have HP:=Zh (And.intro hb5 (And.intro hP hN))
    clear hb4 h5p hP hN hW5 hb5 HBK1
    gi_wp2_with fail
    refine ⟨trivial,?_⟩
    gi_at_call 65
    refine (callsIn_wide.2 HLY.out).mono ?_
    rintro e B ⟨rfl,ho,hw⟩
    have HO:=Zh (And.intro ho hw)
    clear ho hw HLY b0 b1 b2
    gi_wp2
    exact HEND.out HP.out.1 HP.out.2.1 HP.out.2.2 HO.out.1 HO.out.2
   ·rw [hk] at HBK
    have HBK1:Hid (Calls Tryz.prog 28 #[.slice (some ⟨A.heap.size + 1,0,none⟩) 3 3,.func (.func 30) #[] #[.pointer (some ⟨pb,0,none⟩),.pointer (some ⟨A.heap.size,0,none⟩)]] W3 fun e w'=>e = .returned (.agg #[.func (.func 66) #[] #[],.func (.func 67) #[] #[]]) /\ Below W3.heap.size W3 w'):=HBK
    clear HBK
    gi_wp2_with fail
    refine ⟨trivial,?_⟩
    gi_at_call 28
    refine (callsIn_wide.2 HBK1.out).mono ?_
    rintro e w4 ⟨rfl,hb4⟩
    have hb5:Below A.heap.size A (w4.alloc (.cells #[.func (.func 66) #[] #[],.func (.func 67) #[] #[]] 69)):=(HB3.out.trans (hb4.mono HB3.out.size)).trans ((Zai w4 _).mono (Nat.le_trans HB3.out.size hb4.size))
    have h5p:=(hb5.block _ (lt_of_block HPB.out)).trans HPB.out
    obtain ⟨b0,b1,b2⟩:=cells3 h5p
    obtain ⟨P,hW5,hP,hN⟩:=(HWR.out.below hb5).wr (by omega)
    have HLY:=Zh (lay2 hW5 HGS.out sa sc L sta stc X last (HRL.out.below hb5) HOKL.out (fun z h0 hz h=>by have h1:=HDA.out z h0 hz;have h2:=hb5.size;rcases hP _ h with h | h | h <;> omega) hL11 hs9 hk)
    have HP:=Zh (And.intro hb5 (And.intro hP hN))
    clear hb4 h5p hP hN hW5 hb5 HBK1
    gi_wp2_with fail
    refine ⟨trivial,?_⟩
    gi_at_call 67
    refine (callsIn_wide.2 HLY.out).mono ?_
    rintro e B ⟨rfl,ho,hw⟩
    have HO:=Zh (And.intro ho hw)
    clear ho hw HLY b0 b1 b2
    gi_wp2
    exact HEND.out HP.out.1 HP.out.2.1 HP.out.2.2 HO.out.1 HO.out.2
  case done =>
   rintro A hI hD
   rw [hz] at hD
   have hAs:pw + 4 < A.heap.size:=lt_of_block hD
   obtain ⟨P2,hW2,hP2,_⟩:=(Zrx (pw + 4) hI.pl).wr (by omega)
   have hrx:=hI.ok.rx
   rw [<- HS0.out] at hrx
   have hnP:∀ y,0 < x.length -> a1 = some y -> ¬ P2 y.block:=fun y h0 hy h=>by
    have:=HD.out y.block (by rw [<- HS0.out];exact .inr ⟨h0,y,hy,rfl⟩)
    rcases hP2 _ h with h | h | h <;> omega
   have hstb:(stoW ([],0) true x).2 <= 100000000:=by
    have h1:=(Zju x.length x ([],0) true (Nat.le_refl _) Zed).2.2
    have h2:=(M17.Ziq x.length 0).2.1
    simp only at h1
    omega
   have HST:=Zh (Zhe hW2 Zed none 0 0 a1 c1 x true hrx HXB.out hnP hstb)
   rw [show stoW ([],0) true x = plainW x from rfl] at HST hstb
   have HI:=Zh hI
   have HDD:=Zh hD
   have HP2:=Zh hP2
   have HDF:Hid (∀ T,emA ([],0) l x = T -> deflB l x = if (plainW x).2 < T.2 /\ (plainW x).1.length < T.1.length then (plainW x).1 else T.1):=Zh (fun T h=>by rw [<- h];rfl)
   have HTT:Hid (emS s0 (partN s0.l.length) = emA ([],0) l x):=Zh (by rw [hs0l];exact HA.out)
   obtain ⟨T,hT⟩:∃ T,emA ([],0) l x = T:=⟨_,rfl⟩
   have HDT:=Zh (HDF.out T hT)
   rw [hT] at HTT HA
   generalize plainW x = U at *
   clear hI hD hP2 hW2 hrx hnP HDF
   gi_wp2_with fail
   refine ⟨trivial,?_⟩
   gi_at_call 31
   refine (callsIn_wide.2 HST.out).mono ?_
   rintro e A2 ⟨rfl,ho2,hw2⟩
   have hwI:WrI (pw + 4) A.heap.size A2 pw T:=by
    have h:=HI.out.wr
    rw [show emS s0 (partN l.length) = T from HA.out] at h
    exact h.keep (fun k o hk ho _=>(ho2.block k (lt_of_block ho) (fun h=>by rcases HP2.out k h with h | h | h <;> have:=lt_of_block ho <;> omega)).trans ho)
   obtain ⟨P3,hW3,_,_⟩:=hwI.wr (by omega)
   have HD2:=Zh ((ho2.block _ (lt_of_block HDD.out) (fun h=>by have:=lt_of_block HDD.out;rcases HP2.out _ h with h | h | h <;> omega)).trans HDD.out)
   have HB2:Hid (Below w.heap.size w A2):=Zh (Below.only HI.out.bel ho2 (Nat.le_refl _) (fun b h=>by rcases HP2.out b h with h | h | h <;> omega))
   have HL1:=Zh (Zho hw2)
   have HL2:=Zh (Zho hW3)
   have HY1:=Zh (fun W (h:Below A2.heap.size A2 W)=>Zmz (hw2.narrow h).widen)
   have HY2:=Zh (fun W (h:Below A2.heap.size A2 W)=>Zmz (hW3.narrow h).widen)
   have hsA:=ho2.size
   obtain ⟨U1,U2⟩:=U
   obtain ⟨T1,T2⟩:=T
   simp only at HL1 HL2 HY1 HY2 HDT
   clear ho2 hw2 hwI hW3 HST HI HP2 hT
   gi_wp2_with fail
   refine ⟨trivial,?_⟩
   gi_at_call 27
   refine (callsIn_wide.2 HL1.out).mono ?_
   rintro e w2 ⟨rfl,h2⟩
   rw [h2]
   clear h2 HL1
   gi_wp2_with fail
   refine ⟨trivial,?_⟩
   gi_at_call 27
   refine (callsIn_wide.2 HL2.out).mono ?_
   rintro e w2 ⟨rfl,h2⟩
   rw [h2]
   clear h2 HL2
   by_cases hlt:U2 < T2
   ·have hlb:decide (U2 < T2) = true:=by simp [hlt]
    gi_wp2_with fail
    refine ⟨trivial,?_⟩
    gi_at_call 25
    refine (callsIn_wide.2 (HY1.out _ (Below.refl A2.heap.size A2))).mono ?_
    rintro e w5 ⟨y5,d5,rfl,_,hb5⟩
    have HBN5:Hid (Below A2.heap.size A2 w5):=Zh ((Below.refl A2.heap.size A2).trans (hb5.mono (Below.refl A2.heap.size A2).size))
    clear hb5
    gi_wp2_with fail
    refine ⟨trivial,?_⟩
    gi_at_call 25
    refine (callsIn_wide.2 (HY2.out _ HBN5.out)).mono ?_
    rintro e w6 ⟨y6,d6,rfl,_,hb6⟩
    have HBN6:Hid (Below A2.heap.size A2 w6):=Zh ((HBN5.out).trans (hb6.mono (HBN5.out).size))
    clear hb6
    by_cases hll:U1.length < T1.length
    ·have hld:decide (U1.length < T1.length) = true:=by simp [hll]
     have HDV:Hid (deflB l x = U1):=Zh (by rw [HDT.out,if_pos ⟨hlt,hll⟩])
     gi_wp2_with fail
     refine ⟨trivial,?_⟩
     gi_at_call 25
     refine (callsIn_wide.2 (HY1.out _ HBN6.out)).mono ?_
     rintro e w9 ⟨ay,cy,rfl,hoy,hby9⟩
     have hbb:Below A2.heap.size A2 w9:=(HBN6.out).trans (hby9.mono (HBN6.out).size)
     have hD9:=(hbb.block _ (lt_of_block HD2.out)).trans HD2.out
     have hB9:=HB2.out.trans (hbb.mono HB2.out.size)
     have HOY:=Zh hoy
     have HD9:=Zh hD9
     have HB9:=Zh hB9
     have hs9:w.heap.size <= (w6).heap.size:=Nat.le_trans HB2.out.size (HBN6.out).size
     clear hoy hby9 hbb hD9 hB9
     gi_wp2
     refine ⟨by simp,.inl ⟨_,_,rfl,run_takeDeferred HD9.out,?_⟩⟩
     refine ⟨_,results_tmp2 rfl _ _ _,?_⟩
     refine ⟨Below.put HB9.out (Nat.le_refl _) HD9.out (by omega) _,?_⟩
     unfold DefE
     rw [if_pos HN.out,HXX.out]
     exact ⟨ay,cy,by rw [HDV.out];rfl,by rw [HDV.out];exact (HOY.out.put HD9.out rfl _).mono hs9⟩
    ·have hld:decide (U1.length < T1.length) = false:=by simp [hll]
     have HDV:Hid (deflB l x = T1):=Zh (by rw [HDT.out,if_neg (fun h=>hll h.2)])
     gi_wp2_with fail
     refine ⟨trivial,?_⟩
     gi_at_call 25
     refine (callsIn_wide.2 (HY2.out _ HBN6.out)).mono ?_
     rintro e w9 ⟨ay,cy,rfl,hoy,hby9⟩
     have hbb:Below A2.heap.size A2 w9:=(HBN6.out).trans (hby9.mono (HBN6.out).size)
     have hD9:=(hbb.block _ (lt_of_block HD2.out)).trans HD2.out
     have hB9:=HB2.out.trans (hbb.mono HB2.out.size)
     have HOY:=Zh hoy
     have HD9:=Zh hD9
     have HB9:=Zh hB9
     have hs9:w.heap.size <= (w6).heap.size:=Nat.le_trans HB2.out.size (HBN6.out).size
     clear hoy hby9 hbb hD9 hB9
     gi_wp2
     refine ⟨by simp,.inl ⟨_,_,rfl,run_takeDeferred HD9.out,?_⟩⟩
     refine ⟨_,results_tmp2 rfl _ _ _,?_⟩
     refine ⟨Below.put HB9.out (Nat.le_refl _) HD9.out (by omega) _,?_⟩
     unfold DefE
     rw [if_pos HN.out,HXX.out]
     exact ⟨ay,cy,by rw [HDV.out];rfl,by rw [HDV.out];exact (HOY.out.put HD9.out rfl _).mono hs9⟩
   ·have hlb:decide (U2 < T2) = false:=by simp [hlt]
    have HDV:Hid (deflB l x = T1):=Zh (by rw [HDT.out,if_neg (fun h=>hlt h.1)])
    gi_wp2_with fail
    refine ⟨trivial,?_⟩
    gi_wp2_with fail
    refine ⟨trivial,?_⟩
    gi_wp2_with fail
    refine ⟨trivial,?_⟩
    gi_at_call 25
    refine (callsIn_wide.2 (HY2.out _ (Below.refl A2.heap.size A2))).mono ?_
    rintro e w9 ⟨ay,cy,rfl,hoy,hby9⟩
    have hbb:Below A2.heap.size A2 w9:=(Below.refl A2.heap.size A2).trans (hby9.mono (Below.refl A2.heap.size A2).size)
    have hD9:=(hbb.block _ (lt_of_block HD2.out)).trans HD2.out
    have hB9:=HB2.out.trans (hbb.mono HB2.out.size)
    have HOY:=Zh hoy
    have HD9:=Zh hD9
    have HB9:=Zh hB9
    have hs9:w.heap.size <= (A2).heap.size:=Nat.le_trans HB2.out.size (Below.refl A2.heap.size A2).size
    clear hoy hby9 hbb hD9 hB9
    gi_wp2
    refine ⟨by simp,.inl ⟨_,_,rfl,run_takeDeferred HD9.out,?_⟩⟩
    refine ⟨_,results_tmp2 rfl _ _ _,?_⟩
    refine ⟨Below.put HB9.out (Nat.le_refl _) HD9.out (by omega) _,?_⟩
    unfold DefE
    rw [if_pos HN.out,HXX.out]
    exact ⟨ay,cy,by rw [HDV.out];rfl,by rw [HDV.out];exact (HOY.out.put HD9.out rfl _).mono hs9⟩
end Go.Proofs.YtendielanacflaaGreat

namespace Go.Proofs.YtendielanacflaaGreat
open Go.RowKit Go.Shelf M01 M09 M10 M17 M18
theorem Zabs {l:List Tok} (h:Oks l):29 <= (dynOut l).1:=by
 rw [Zoq h]
 have h1:26 <= headN l:=by
  unfold headN hputW hputL
  rw [Zhr,Zlc]
  unfold put14
  rw [Zac,Zac,Zac]
  have:=Zus (sgLens (M07.pack (codF l ++ codO l))) 19 (by decide)
  simp only
  omega
 show 29 <= 3 + headN l + _
 omega
theorem Zwc:Oks []:=⟨by simp,by simp⟩
theorem Zafh:Oks [⟨0,0,97⟩]:=⟨by simp [tokOk],by simp⟩
theorem Zql:(fixOut []).1 = 10:=by decide +kernel
theorem Zabv:(fixOut [⟨0,0,97⟩]).1 = 18:=by decide +kernel
theorem Zze:fixW ([],0) true [] = ([3,0],10):=by decide +kernel
theorem Zaez:fixW ([],0) true [⟨0,0,97⟩] = ([75,4,0],18):=by decide +kernel
theorem Zrd (s:Wst) (last:Bool) (l:List Tok) (x:List Nat) (h1:(fixOut l).1 < stoN x.length s.2) (h2:(fixOut l).1 <= (dynOut l).1):partW s last l x = fixW s last l:=by
 have hk:kindK l x.length s.2 = 1:=by
  unfold kindK bestK
  rw [if_pos h1,if_neg (by omega)]
 unfold partW
 rw [hk,if_neg (by decide),if_pos rfl]
theorem Zys:deflB [] [] = [3,0]:=by
 have e:emA ([],0) [] [] = ([3,0],10):=by
  rw [Zhd _ _ _ (by decide),Zrd _ _ _ _ (by rw [Zql];have:=(M17.Ziq 0 0).1;show 10 < st 0 0 - 0;omega) (by rw [Zql];have:=Zabs Zwc;omega),Zze]
 unfold deflB
 rw [e,if_neg]
 rintro ⟨h,_⟩
 rw [(Zft []).1] at h
 revert h
 decide +kernel
theorem Zaer:deflB [⟨0,0,97⟩] [97] = [75,4,0]:=by
 have e:emA ([],0) [⟨0,0,97⟩] [97] = ([75,4,0],18):=by
  rw [Zhd _ _ _ (by decide),Zrd _ _ _ _ (by rw [Zabv];have:=(M17.Ziq 1 0).1;show 18 < st 1 0 - 0;omega) (by rw [Zabv];have:=Zabs Zafh;omega),Zaez]
 unfold deflB
 rw [e,if_neg]
 rintro ⟨h,_⟩
 rw [(Zft [97]).1] at h
 revert h
 decide +kernel
theorem Zhc {w:World} {a:Option Addr} {cap:Nat} {l:List Tok} (hr:RowS encT w a cap l) (hok:Oks l) (hl:l.length <= 100000) (x B:List Nat) (hx:expL [] l = some x) (hxl:x.length <= 1000000) (hB:deflB l x = B) (n:Nat) (hn:n = l.length) :
  Calls Tryz.prog 9 #[.slice a n cap] w fun e w'=>Below w.heap.size w w' /\ ∃ a c,e = .returned (.tuple #[.slice a B.length c,.int .i64 0]) /\ OwnN 5 .u8 w' w.heap.size a c B:=by
 subst hn
 refine (Zdn a cap l w hr hok.2 hl (fun _ y hy=>by rw [hx] at hy;cases hy;exact hxl)).mono ?_
 rintro e w' ⟨h1,h2⟩
 unfold DefE at h2
 rw [if_pos hok.1,hx] at h2
 simp only [hB] at h2
 exact ⟨h1,h2⟩
theorem Zmm {w:World} {a:Option Addr} {cap:Nat} {l:List Tok} (hr:RowS encT w a cap l) (hok:Oks l) (hl:l.length <= 100000) (hx:expL [] l = none) (n:Nat) (hn:n = l.length) :
  Calls Tryz.prog 9 #[.slice a n cap] w fun e w'=>Below w.heap.size w w' /\ e = .returned (.tuple #[.slice none 0 0,.int .i64 2]):=by
 subst hn
 refine (Zdn a cap l w hr hok.2 hl (fun _ y hy=>by rw [hx] at hy;cases hy)).mono ?_
 rintro e w' ⟨h1,h2⟩
 unfold DefE at h2
 rw [if_pos hok.1,hx] at h2
 exact ⟨h1,h2⟩
theorem Zafs:Oks [⟨3,1,0⟩]:=⟨by simp [tokOk],by simp⟩
theorem Zwd (w:World) (t:Tok) (cs:Array Value) (h:cs = #[.int .i64 t.len,.int .i64 t.dist,.int .u8 (t.byte:Nat)]) (B:Nat) (hB:B = w.heap.size):RowS encT (w.alloc (.cells cs 40)) (some ⟨B,0,none⟩) 1 [t] :=
 RowS.lit encT w [t] 40 cs B hB h (by simp)
set_option maxRecDepth 100000 in
set_option maxHeartbeats 1600000 in
theorem Zhl (w:World):Calls Tryz.prog 11 #[] w fun e w'=>e = .returned (.bool true) /\ Below w.heap.size w w':=by
 go_enter Tryz.func11,Tryz.ntmps11
 go_wp2_with fail
 refine (Zhc (RowS.nil _ _) Zwc (by decide) [] [3,0] rfl (by decide) Zys 0 rfl).mono ?_
 rintro e w1 ⟨hb1,a1,c1,he,o1⟩
 obtain rfl:e = .returned (.tuple #[.slice a1 2 c1,.int .i64 0]):=he
 have R1:=Zh o1.row
 have HB1:=Zh hb1
 clear hb1 o1
 go_wp2_with fail
 refine (Zhc (Zwd w1 ⟨0,0,97⟩ _ rfl _ rfl) Zafh (by decide) [97] [75,4,0] rfl (by decide) Zaer 1 rfl).mono ?_
 rintro e w2 ⟨hb2,a2,c2,he,o2⟩
 obtain rfl:e = .returned (.tuple #[.slice a2 3 c2,.int .i64 0]):=he
 have hb2':Below w1.heap.size w1 w2:=(Zai w1 _).trans (hb2.mono (by simp))
 have R2:=Zh o2.row
 have R1':=Zh (R1.out.below hb2')
 have HB2:=Zh (HB1.out.trans (hb2'.mono HB1.out.size))
 clear hb2 o2 hb2' R1 HB1
 go_wp2_with fail
 refine (Zmm (Zwd w2 ⟨3,1,0⟩ _ rfl _ rfl) Zafs (by decide) rfl 1 rfl).mono ?_
 rintro e w3 ⟨hb3,rfl⟩
 have hb3':Below w2.heap.size w2 w3:=(Zai w2 _).trans (hb3.mono (by simp))
 have hcv1:=Zqg (n:=2) Tryz.underlying24 Tryz.underlying5 Tryz.underlying9 rfl (R1'.out.below hb3')
 have hcv2:=Zqg (n:=3) Tryz.underlying24 Tryz.underlying5 Tryz.underlying9 rfl (R2.out.below hb3')
 rw [show strOf [3,0] = ByteArray.mk #[3,0] from rfl] at hcv1
 rw [show strOf [75,4,0] = ByteArray.mk #[75,4,0] from rfl] at hcv2
 have HB3:=Zh (HB2.out.trans (hb3'.mono HB2.out.size))
 clear hb3 hb3' R1' R2 HB2
 go_wp2
 go_ret
 exact ⟨rfl,HB3.out⟩
end Go.Proofs.YtendielanacflaaGreat

namespace Go.Proofs.YtendielanacflaaGreat
open Go.RowKit Go.Shelf M01 M09 M10 M17 M18
def repT (l:List Tok):Nat -> List Tok
 | 0=>[]
 | k + 1=>repT l k ++ l
theorem Zlg (l:List Tok):∀ k,(repT l k).length = k * l.length
 | 0=>by simp [repT]
 | k + 1=>by rw [repT,List.length_append,Zlg l k,Nat.add_mul,Nat.one_mul]
theorem Zrh (l:List Tok):∀ k t,t ∈ repT l k -> t ∈ l
 | 0,t,h=>by simp [repT] at h
 | k + 1,t,h=>by
  rw [repT] at h
  rcases List.mem_append.1 h with h | h
  ·exact Zrh l k t h
  ·exact h
theorem Ztn:ElemS Tryz.prog 22 40 encT (.agg #[.int .i64 0,.int .i64 0,.int .u8 0]) 24:=⟨Tryz.underlying22,by kernel_rfl,by kernel_rfl⟩
set_option maxRecDepth 100000 in
set_option maxHeartbeats 1600000 in
theorem Zso (a:Option Addr) (cap:Nat) (l:List Tok) (times:Nat) (w:World) (hr:RowS encT w a cap l) (hl:l.length <= 400) (ht:times < 256) :
  Calls Tryz.prog 8 #[.slice a l.length cap,.int .u8 (times:Nat)] w fun e w'=>∃ a' c',e = .returned (.slice a' (repT l (times % 8 + 1)).length c') /\ OwnS encT 40 w' w.heap.size a' c' (repT l (times % 8 + 1)) /\ Below w.heap.size w w':=by
 obtain ⟨m,hm⟩:∃ m,times % 8 = m:=⟨_,rfl⟩
 have hm8:m < 8:=by omega
 have hmo:Int.tmod (times:Int) 8 = (m:Int):=by rw [Int.tmod_eq_emod_of_nonneg (by omega)];omega
 have HR:=Zh hr
 rw [hm]
 clear hr hm
 go_enter Tryz.func8,Tryz.ntmps8
 go_wp2
 go_loopw [5,6] (fun ov iv A=>∃ (k:Nat) (a':Option Addr) (c':Nat),k <= m + 1 /\ iv = .int .i64 (k:Nat) /\ ov = .slice a' (repT l k).length c' /\ OwnS encT 40 A w.heap.size a' c' (repT l k) /\ Below w.heap.size w A) (fun _ iv _=>m + 1 - (intOf iv).toNat)
 case atStart=>exact ⟨0,none,0,by omega,rfl,rfl,OwnS.nil _ _ _ _,Below.refl _ _⟩
 case round =>
  obtain ⟨k,a',c',hk,rfl,rfl,hown,hb⟩:=hrel
  by_cases hlt:k <= m
  ·have hlt':decide (k <= m) = true:=by simp [hlt]
   have hln:=Zlg l k
   have hl2:(repT l k).length + l.length <= 10000:=by
    rw [hln]
    have:k * l.length <= 8 * 400:=Nat.mul_le_mul (by omega) hl
    omega
   have HSN:Hid (repT l (k + 1) = repT l k ++ l):=Zh rfl
   have HB:=Zh hb
   have hrl:=HR.out.below hb
   have hwi:IntKind.i64.wrap ((k:Int) + 1) = ((k + 1:Nat):Int):=by rw [IntWalk.i64_in _ (by omega)];omega
   clear hb hln
   generalize repT l k = r at *
   go_wp2_with (at_builtin;refine appAnyS Ztn rfl (.tmp 14) (.tmp 15) rfl rfl hown rfl rfl hrl (by omega) (by omega) HB.out.size ?_;intro a3 cap3 w9 hown9 hg9 hb9)
   go_roundw
   case rel=>exact ⟨k + 1,a3,cap3,by omega,by go_num,by rw [HSN.out,List.length_append],by rw [HSN.out];exact hown9,HB.out.trans hb9⟩
   case measure=>simp [intOf];omega
  ·obtain rfl:k = m + 1:=by omega
   have hlt':decide (m + 1 <= m) = false:=by simp
   have HO:=Zh hown
   have HB:=Zh hb
   clear hown hb hlt
   go_wp2
   go_ret
   exact ⟨a',c',rfl,HO.out,HB.out⟩
end Go.Proofs.YtendielanacflaaGreat

namespace Go.Proofs.YtendielanacflaaGreat
open Go.RowKit Go.Shelf M01 M09 M10 M17 M18
theorem Zadx {f:URow -> Nat} {c:Nat}:∀ (l:List URow),(∀ r ∈ l,f r <= c) -> sumL f l <= l.length * c:=by
 intro l
 induction l with
 | nil=>intro _;simp [sumL]
 | cons r l ih =>
  intro h
  have h1:=h r (by simp)
  have h2:=ih (fun x hx=>h x (by simp [hx]))
  have e:sumL f (r :: l) = f r + sumL f l:=by simp [sumL]
  rw [e,List.length_cons,Nat.add_mul,Nat.one_mul]
  omega
theorem Zabw {l:List Tok} (h:Oks l):(fixOut l).1 <= 3 + 109 * (2 * l.length + 1):=by
 rw [Zou h]
 have hw:∀ r ∈ useU l,r.err = 0 /\ lensOf fixF fixD r ≠ 0:=fun r hr=>⟨(M17.Zbo l h.1 h.2 r hr).1,(fixHas h.1 h.2).2.2 r hr⟩
 have e:symOut fixF fixD l = (sumL (fun r=>lensOf fixF fixD r + r.bits) (useU l),0):=by
  unfold symOut
  rw [Zpt _ _ _ _ (fun r hr=>(hw r hr).1),if_pos (fun r hr=>(hw r hr).2),Nat.zero_add]
 rw [e]
 have h9:∀ x ∈ fixF,x <= 9:=by decide +kernel
 have h5:∀ x ∈ fixD,x <= 9:=by decide +kernel
 have h1:sumL (fun r=>lensOf fixF fixD r + r.bits) (useU l) <= (useU l).length * 109:=Zadx _ (fun r hr=>by
  have h2:=Zfj l r hr
  have h3:lensOf fixF fixD r <= 9:=by
   unfold lensOf
   split
   ·exact M04.Zaw h5 _
   ·exact M04.Zaw h9 _
  omega)
 have h2:=Zco l
 have h3:(useU l).length * 109 <= (2 * l.length + 1) * 109:=Nat.mul_le_mul_right _ h2
 show 3 + _ <= _
 omega
theorem Zaeu:∀ (n:Nat) (l:List Tok) (at_:Nat),l.length <= n -> Oks l -> emN l at_ <= at_ + 218 * l.length + 112 * (l.length / 1024 + 1):=by
 intro n
 induction n using Nat.strongRecOn with
 | _ n ih =>
  intro l at_ hn h
  by_cases hl:l.length <= 1024
  ·rw [Zkm l at_ hl]
   have:=Zabw h
   omega
  ·rw [Zgr l at_ (by omega)]
   have h1:=Zabw (h.take 1024)
   have h2:=ih (n - 1) (by omega) (l.drop 1024) (at_ + min (min (stoN (sizL (l.take 1024)) at_) (fixOut (l.take 1024)).1) (dynOut (l.take 1024)).1) (by rw [List.length_drop];omega) (h.drop 1024)
   rw [List.length_take,Nat.min_eq_left (by omega)] at h1
   rw [List.length_drop] at h2
   omega
theorem Zabu {l:List Tok} {x:List Nat} (hl:l.length <= 3200) (hok:∀ t ∈ l,tokOk t) (h:expL [] l = some x):x.length <= 1000000:=by
 have h1:=(Zkn l h).2
 have h2:=Zds l hok
 simp only [List.length_nil] at h1
 omega
def codeT (l:List Tok):Nat:=if ∀ t ∈ l,tokOk t then (match expL [] l with | some _=>0 | none=>2) else 5
theorem Zsa {l:List Tok} (h:codeT l = 0):(∀ t ∈ l,tokOk t) /\ ∃ x,expL [] l = some x:=by
 unfold codeT at h
 split at h
 ·next hok =>
  refine ⟨hok,?_⟩
  split at h
  ·next x hx=>exact ⟨x,hx⟩
  ·cases h
 ·cases h
theorem Zyp (a:Option Addr) (cap:Nat) (l:List Tok) (w:World) (hr:RowS encT w a cap l) (hby:∀ t ∈ l,t.byte < 256) (hl:l.length <= 3200) :
  Calls Tryz.prog 9 #[.slice a l.length cap] w fun e w'=>Below w.heap.size w w' /\ ∃ ad nd cd,e = .returned (.tuple #[.slice ad nd cd,.int .i64 (codeT l:Nat)]) /\ (codeT l ≠ 0 -> nd = 0) /\ (∀ x,codeT l = 0 -> expL [] l = some x -> nd = (deflB l x).length /\ RowN .u8 w' ad cd (deflB l x)):=by
 by_cases hok:∀ t ∈ l,tokOk t
 ·cases hx:expL [] l with
  | none =>
   have e0:codeT l = 2:=by unfold codeT;rw [if_pos hok,hx]
   rw [e0]
   refine (Zmm hr ⟨hok,hby⟩ (by omega) hx l.length rfl).mono ?_
   rintro e w' ⟨h1,rfl⟩
   exact ⟨h1,none,0,0,rfl,fun _=>rfl,fun x h=>by cases h⟩
  | some x =>
   have e0:codeT l = 0:=by unfold codeT;rw [if_pos hok,hx]
   rw [e0]
   refine (Zhc hr ⟨hok,hby⟩ (by omega) x _ hx (Zabu hl hok hx) rfl l.length rfl).mono ?_
   rintro e w' ⟨h1,ad,cd,rfl,h2⟩
   exact ⟨h1,ad,_,cd,rfl,fun h=>absurd rfl h,fun y _ h=>by cases h;exact ⟨rfl,h2.row⟩⟩
 ·have e0:codeT l = 5:=by unfold codeT;rw [if_neg hok]
  rw [e0]
  refine (Zdn a cap l w hr hby (by omega) (fun hx=>?_)).mono ?_
  ·exact absurd hx hok
  ·rintro e w' ⟨h1,h2⟩
   unfold DefE at h2
   rw [if_neg hok] at h2
   exact ⟨h1,none,0,0,h2,fun _=>rfl,fun x h=>by cases h⟩
theorem Zacy (a:Option Addr) (cap:Nat) (l:List Tok) (w:World) (hr:RowS encT w a cap l) (hby:∀ t ∈ l,t.byte < 256) (hl:l.length <= 100000) :
  Calls Tryz.prog 10 #[.slice a l.length cap] w fun e w'=>Below w.heap.size w w' /\ ∃ ad nd cd,e = .returned (.tuple #[.slice ad nd cd,.int .i64 (codeT l:Nat)]) /\ (∀ x,codeT l = 0 -> expL [] l = some x -> nd = x.length /\ RowN .u8 w' ad cd x):=by
 refine (Zgo a cap l w hr hby hl).mono ?_
 rintro e w' ⟨h1,h2⟩
 refine ⟨h1,?_⟩
 unfold ExpE at h2
 by_cases hok:∀ t ∈ l,tokOk t
 ·rw [if_pos hok] at h2
  cases hx:expL [] l with
  | none =>
   have e0:codeT l = 2:=by unfold codeT;rw [if_pos hok,hx]
   rw [hx] at h2
   exact ⟨none,0,0,by rw [e0];exact h2,fun x _ h=>by cases h⟩
  | some x =>
   have e0:codeT l = 0:=by unfold codeT;rw [if_pos hok,hx]
   rw [hx] at h2
   obtain ⟨ad,cd,h3,h4⟩:=h2
   exact ⟨ad,_,cd,by rw [e0];exact h3,fun y _ h=>by cases h;exact ⟨rfl,h4.row⟩⟩
 ·have e0:codeT l = 5:=by unfold codeT;rw [if_neg hok]
  rw [if_neg hok] at h2
  exact ⟨none,0,0,by rw [e0];exact h2,fun x h=>by rw [e0] at h;cases h⟩
end Go.Proofs.YtendielanacflaaGreat

namespace Go.Proofs.YtendielanacflaaGreat
open Go.RowKit Go.Shelf M08 M17
theorem Zbk (w:World) (o:Obj):Below w.heap.size w (w.alloc o):=(Below.refl _ _).alloc (Nat.le_refl _) _
set_option maxHeartbeats 800000 in
theorem Zhv (t:Tok) (w:World) :
  Calls Tryz.prog 110 #[tokV t] w fun e w'=>e = .returned (.bool (decide (tokOk t))) /\ Below w.heap.size w w':=by
 obtain ⟨L,D,b⟩:=t
 unfold tokV
 by_cases h0:L = 0
 ·by_cases h1:D = 0
  ·have H:Hid (decide (tokOk ⟨L,D,b⟩) = true):=by unfold Hid tokOk;simp [h0,h1]
   have b0:(L == 0) = true:=by simp [h0]
   have b1:(D == 0) = true:=by simp [h1]
   clear h0 h1
   go_enter Tryz.func110,Tryz.ntmps110
   go_wp2
   go_ret
   exact ⟨Zat H.out.symm,Zbk _ _⟩
  ·have H:Hid (decide (tokOk ⟨L,D,b⟩) = false):=by unfold Hid tokOk;simp [h0,h1]
   have b0:(L == 0) = true:=by simp [h0]
   have b1:(D == 0) = false:=by simp [h1]
   have b2:decide (3 <= L) = false:=by simp;omega
   clear h0 h1
   by_cases hb:b = 0
   ·have b3:((b:Int) == 0) = true:=by simp;omega
    clear hb
    go_enter Tryz.func110,Tryz.ntmps110
    go_wp2
    go_ret
    exact ⟨Zat H.out.symm,Zbk _ _⟩
   ·have b3:((b:Int) == 0) = false:=by simp;omega
    clear hb
    go_enter Tryz.func110,Tryz.ntmps110
    go_wp2
    go_ret
    exact ⟨Zat H.out.symm,Zbk _ _⟩
 ·have H:Hid (tokOk ⟨L,D,b⟩ ↔ (b = 0 /\ 3 <= L /\ L <= 258 /\ 1 <= D /\ D <= 32768)):=by unfold Hid tokOk;simp [h0]
  have b0:(L == 0) = false:=by simp [h0]
  clear h0
  by_cases hb:b = 0
  case neg =>
   have b3:((b:Int) == 0) = false:=by simp;omega
   have HH:Hid (decide (tokOk ⟨L,D,b⟩) = false):=by show decide _ = false;rw [decide_eq_false_iff_not,H.out];exact fun h=>hb h.1
   clear hb
   go_enter Tryz.func110,Tryz.ntmps110
   go_wp2
   go_ret
   exact ⟨Zat HH.out.symm,Zbk _ _⟩
  have b3:((b:Int) == 0) = true:=by simp;omega
  by_cases h3:3 <= L
  case neg =>
   have c3:decide (3 <= L) = false:=by simp;omega
   have HH:Hid (decide (tokOk ⟨L,D,b⟩) = false):=by show decide _ = false;rw [decide_eq_false_iff_not,H.out];exact fun h=>h3 h.2.1
   clear hb h3
   go_enter Tryz.func110,Tryz.ntmps110
   go_wp2
   go_ret
   exact ⟨Zat HH.out.symm,Zbk _ _⟩
  have c3:decide (3 <= L) = true:=by simp;omega
  by_cases h4:L <= 258
  case neg =>
   have c4:decide (L <= 258) = false:=by simp;omega
   have HH:Hid (decide (tokOk ⟨L,D,b⟩) = false):=by show decide _ = false;rw [decide_eq_false_iff_not,H.out];exact fun h=>h4 h.2.2.1
   clear hb h3 h4
   go_enter Tryz.func110,Tryz.ntmps110
   go_wp2
   go_ret
   exact ⟨Zat HH.out.symm,Zbk _ _⟩
  have c4:decide (L <= 258) = true:=by simp;omega
  by_cases h5:1 <= D
  case neg =>
   have c5:decide (1 <= D) = false:=by simp;omega
   have HH:Hid (decide (tokOk ⟨L,D,b⟩) = false):=by show decide _ = false;rw [decide_eq_false_iff_not,H.out];exact fun h=>h5 h.2.2.2.1
   clear hb h3 h4 h5
   go_enter Tryz.func110,Tryz.ntmps110
   go_wp2
   go_ret
   exact ⟨Zat HH.out.symm,Zbk _ _⟩
  have c5:decide (1 <= D) = true:=by simp;omega
  have HH:Hid (decide (tokOk ⟨L,D,b⟩) = decide (D <= 32768)):=by
   show decide _ = _
   rw [decide_eq_decide,H.out]
   exact ⟨fun h=>h.2.2.2.2,fun h=>⟨hb,h3,h4,h5,h⟩⟩
  clear hb h3 h4 h5
  go_enter Tryz.func110,Tryz.ntmps110
  go_wp2
  go_ret
  exact ⟨Zat HH.out.symm,Zbk _ _⟩
end Go.Proofs.YtendielanacflaaGreat

namespace Go.Proofs.YtendielanacflaaGreat
open Go.RowKit Go.Shelf M08 M17
def oftOut (w:World) (l:List Tok) (e:Ending) (w':World):Prop :=
 if ∀ t ∈ l,tokOk t then ∃ g1 g2,e = .returned (.tuple #[.slice (some ⟨g1,0,none⟩) 286 286,.slice (some ⟨g2,0,none⟩) 30 30,.bool true]) /\ RowN .i64 w' (some ⟨g1,0,none⟩) 286 (cntL (useU l) false 286) /\ RowN .i64 w' (some ⟨g2,0,none⟩) 30 (cntL (useU l) true 30) /\ Below w.heap.size w w'
 else e = .returned (.tuple #[.slice none 0 0,.slice none 0 0,.bool false]) /\ Below w.heap.size w w'
theorem Zadm {w:World} {l:List Tok} {w':World} {t:Tok} (ht:t ∈ l) (h:¬ tokOk t) (hb:Below w.heap.size w w'):oftOut w l (.returned (.tuple #[.slice none 0 0,.slice none 0 0,.bool false])) w':=by
 unfold oftOut
 rw [if_neg (fun h2=>h (h2 t ht))]
 exact ⟨rfl,hb⟩
theorem Zabh {l:List Tok} {k:Nat} (hk:k < l.length) (h:∀ t ∈ l.take k,tokOk t) (h2:tokOk l[k]):∀ t ∈ l.take (k + 1),tokOk t:=by
 rw [List.take_succ_eq_append_getElem hk]
 intro t ht
 rcases List.mem_append.1 ht with ht | ht
 ·exact h t ht
 ·simp at ht;exact ht ▸ h2
theorem Zui {A:World} {base g n:Nat} {far:Bool} {R:List URow} (h:OwnN 3 .i64 A base (some ⟨g,0,none⟩) n (cntL R far n)) (s:Nat) (hs:s < n):A.cell? ⟨g,s,none⟩ = some (.int .i64 (cnt R far s:Nat)) /\ A.frozen? ⟨g,s,none⟩ = false:=by
 obtain ⟨g',he,_,_,hc,hf⟩:=h.at (i:=s) (by rw [Zay];exact hs)
 simp only [Option.some.injEq,Addr.mk.injEq,and_true] at he
 subst he
 refine ⟨?_,hf⟩
 rw [hc]
 have:=Zha R far n s hs
 rw [List.getD_eq_getElem?_getD,List.getElem?_eq_getElem (by rw [Zay];exact hs),Option.getD_some] at this
 rw [this]
theorem Zkg {A:World} {base g n:Nat} {R:List URow} (r:URow) (h:OwnN 3 .i64 A base (some ⟨g,0,none⟩) n (cntL R r.far n)) (hs:r.sym < n):OwnN 3 .i64 (A.setCell ⟨g,r.sym,none⟩ (.int .i64 ((cnt R r.far r.sym + 1:Nat):Int))) base (some ⟨g,0,none⟩) n (cntL (R ++ [r]) r.far n):=by
 rw [Zem,if_pos ⟨rfl,hs⟩]
 exact (OwnN.stored h _ _).1
theorem Zkf {A:World} {base g g' n s:Nat} {R:List URow} (r:URow) {far:Bool} (h:OwnN 3 .i64 A base (some ⟨g,0,none⟩) n (cntL R far n)) (hf:r.far ≠ far) (hg:g' ≠ g) (v:Value):OwnN 3 .i64 (A.setCell ⟨g',s,none⟩ v) base (some ⟨g,0,none⟩) n (cntL (R ++ [r]) far n):=by
 rw [Zem,if_neg (fun h=>hf h.1)]
 exact OwnN.other h (fun x hx=>by cases hx;exact hg) _
theorem Zwb {w w1 w2:World} (h1:OwnN 3 .i64 w1 w.heap.size (some ⟨w.heap.size,0,none⟩) 286 (List.replicate 286 0)) (g1:w.grownBy w1 none) (h2:OwnN 3 .i64 w2 w1.heap.size (some ⟨w1.heap.size,0,none⟩) 30 (List.replicate 30 0)) (g2:w1.grownBy w2 none) :
  w.heap.size < w1.heap.size /\ w1.heap.size < w2.heap.size /\ w2.cell? ⟨w.heap.size,256,none⟩ = some (.int .i64 0) /\ w2.frozen? ⟨w.heap.size,256,none⟩ = false ∧
  Hid (OwnN 3 .i64 w2 w.heap.size (some ⟨w.heap.size,0,none⟩) 286 (List.replicate 286 0)) /\ Hid (OwnN 3 .i64 w2 w.heap.size (some ⟨w1.heap.size,0,none⟩) 30 (List.replicate 30 0)) /\ Hid (Below w.heap.size w w2):=by
 have hB1:Below w.heap.size w w1:=Below.of_grown g1 (Nat.le_refl _) (fun k e=>by cases e)
 have hB2:Below w1.heap.size w1 w2:=Below.of_grown g2 (Nat.le_refl _) (fun k e=>by cases e)
 have o1:=h1.below hB2
 have hz1:w.heap.size < w1.heap.size:=by
  obtain ⟨g,he,_,hlt⟩:=(h1.form).resolve_left (by intro h;cases h.1)
  simp only [Option.some.injEq,Addr.mk.injEq,and_true] at he
  omega
 have hz2:w1.heap.size < w2.heap.size:=by
  obtain ⟨g,he,_,hlt⟩:=(h2.form).resolve_left (by intro h;cases h.1)
  simp only [Option.some.injEq,Addr.mk.injEq,and_true] at he
  omega
 obtain ⟨g,he,_,_,hc,hf⟩:=o1.at (i:=256) (by rw [List.length_replicate];decide)
 simp only [Option.some.injEq,Addr.mk.injEq,and_true] at he
 subst he
 exact ⟨hz1,hz2,by rw [hc,List.getElem_replicate];rfl,hf,o1,h2.mono (by omega),hB1.trans (hB2.mono hB1.size)⟩
set_option maxRecDepth 100000 in
set_option maxHeartbeats 1600000 in
theorem Zph (a:Option Addr) (cap:Nat) (l:List Tok) (w:World) (hl:l.length <= 1100) (hby:∀ t ∈ l,t.byte < 256) (hr:RowS encT w a cap l) :
  Calls Tryz.prog 73 #[.slice a l.length cap] w (oftOut w l):=by
 have HBY:=Zh hby
 clear hby
 go_enter Tryz.func73,Tryz.ntmps73
 go_wp2_with (first | (at_make;refine makeN (n:=286) Zdk rfl _ _ rfl w.heap.size rfl rfl (by decide) (by decide) (Nat.le_refl _) ?_;intro w1 hown1 hg1) | (at_make;refine makeN (n:=30) Zdk rfl _ _ rfl w1.heap.size rfl rfl (by decide) (by decide) (Nat.le_refl _) ?_;intro w2 hown2 hg2;obtain ⟨hz1,hz2,hc256,hf256,HO1,HO2,HB⟩:=Zwb hown1 hg1 hown2 hg2;clear hown1 hg1 hown2 hg2))
 obtain ⟨z1,z2⟩:=Zwa l
 have S1:Hid (OwnN 3 .i64 (w2.setCell ⟨w.heap.size,256,none⟩ (.int .i64 1)) w.heap.size (some ⟨w.heap.size,0,none⟩) 286 (cntL (oftR l 0) false 286)):=by
  rw [z1];exact (OwnN.stored HO1.out 256 1).1
 have S2:Hid (OwnN 3 .i64 (w2.setCell ⟨w.heap.size,256,none⟩ (.int .i64 1)) w.heap.size (some ⟨w1.heap.size,0,none⟩) 30 (cntL (oftR l 0) true 30)):=by
  rw [z2];exact OwnN.other HO2.out (fun g hg=>by cases hg;show w.heap.size ≠ w1.heap.size;omega) _
 have S3:Hid (Below w.heap.size w (w2.setCell ⟨w.heap.size,256,none⟩ (.int .i64 1))):=HB.out.setCell (Nat.le_refl _) _
 clear z1 z2 HO1 HO2 HB hc256 hf256
 generalize w2.setCell ⟨w.heap.size,256,none⟩ (.int .i64 1) = w3 at *
 have HZ:=Zh hz1
 clear hz2
 obtain ⟨g1,hg1⟩:∃ g1,w.heap.size = g1:=⟨_,rfl⟩
 obtain ⟨g2,hg2⟩:∃ g2,w1.heap.size = g2:=⟨_,rfl⟩
 rw [hg1,hg2] at S2
 rw [hg1] at S1
 rw [hg1,hg2] at hz1
 simp only [hg1,hg2]
 have HG1:=Zh hg1
 clear hg1 hg2 HZ
 go_loopw [7,8,9,10,11,12,13,14,15] (fun i _ _ _ _ _ _ _ _ A=>∃ k:Nat,k <= l.length /\ i = .int .i64 k /\ (∀ t ∈ l.take k,tokOk t) /\ OwnN 3 .i64 A g1 (some ⟨g1,0,none⟩) 286 (cntL (oftR l k) false 286) /\ OwnN 3 .i64 A g1 (some ⟨g2,0,none⟩) 30 (cntL (oftR l k) true 30) /\ Below w.heap.size w A) (fun i _ _ _ _ _ _ _ _ _=>l.length - (intOf i).toNat)
 case atStart=>exact ⟨0,by omega,rfl,by simp,S1.out,S2.out,S3.out⟩
 case round =>
  clear S1 S2 S3
  obtain ⟨k,hk,rfl,hok,ho1,ho2,hbel⟩:=hrel
  have HOK:=Zh hok
  clear hok
  by_cases hlt:k < l.length
  ·have hrA:=hr.below hbel
   obtain ⟨b,off,rfl,hb,hcl⟩:=hrA.at hlt
   have c0:=hcl 0 _ rfl
   have c1:=hcl 1 _ rfl
   have c2:=hcl 2 _ rfl
   have hbt:=HBY.out _ (List.getElem_mem hlt)
   have hmem:=List.getElem_mem hlt
   have GT:=Zh (fun h2=>Zabh hlt HOK.out h2)
   have GS:=Zh (Zvz l k hlt)
   have HLEN:=Zh (Zaac l k)
   clear hrA hcl
   generalize l[k] = t at *
   obtain ⟨L,D,bt⟩:=t
   simp only [encT,Nat.add_zero] at c0 c1 c2 hbt
   rw [<- Nat.add_assoc] at c1 c2
   by_cases hok:tokOk ⟨L,D,bt⟩
   case neg =>
    have HN:=Zh (fun (w':World) (hb:Below w.heap.size w w')=>Zadm hmem hok hb)
    have hd:decide (tokOk ⟨L,D,bt⟩) = false:=by simpa using hok
    have HB:=Zh hbel
    clear ho1 ho2 hmem hok hbel
    go_wp2_with (go_at_call 110;refine (Zhv ⟨L,D,bt⟩ _).mono ?_;rintro e w' ⟨rfl,hbw⟩;rw [hd])
    refine bodyPost_ret (results_tmp3 rfl _ _ _) rfl ?_
    exact HN.out _ (HB.out.trans (hbw.mono HB.out.size))
   have hd:decide (tokOk ⟨L,D,bt⟩) = true:=by simpa using hok
   by_cases h0:L = 0
   ·have hD:D = 0:=by have h:=hok;unfold tokOk at h;rw [if_pos h0] at h;exact h
    have hu:tokU ⟨L,D,bt⟩ = [⟨false,bt,0,0⟩]:=by unfold tokU;rw [if_pos h0,if_pos hD]
    subst h0 hD
    have HS:=Zh (GS.out.trans (by rw [hu]))
    have HT:=Zh (GT.out hok)
    have hcl:=Zch (oftR l k) false bt
    have hcl2:=HLEN.out
    have HO1:=Zh ho1
    have HO2:=Zh ho2
    have HB:=Zh hbel
    clear ho1 ho2 hmem hbel hu
    go_wp2_with fail
    refine (Zhv ⟨0,0,bt⟩ _).mono ?_
    rintro e w4 ⟨rfl,hbw⟩
    rw [hd]
    have e0:=(hbw.cell (p:=⟨b,off + k * 3,none⟩) hb).trans c0
    have e2:=(hbw.cell (p:=⟨b,off + k * 3 + 2,none⟩) hb).trans c2
    have HO1':=Zh (HO1.out.below hbw)
    have HO2':=Zh (HO2.out.below hbw)
    have HB':=Zh (HB.out.trans (hbw.mono HB.out.size))
    obtain ⟨f1,f2⟩:=Zui HO1'.out bt (by omega)
    clear c0 c1 c2 hbw hd hok HO1 HO2 HB
    have HO1P:=fun x=>Zkg ⟨false,bt,0,0⟩ HO1'.out (show bt < 286 by omega)
    have H1:=Zh (Zkg ⟨false,bt,0,0⟩ HO1'.out (show bt < 286 by omega))
    have H2:=Zh (fun v=>Zkf (s:=bt) (g':=g1) ⟨false,bt,0,0⟩ HO2'.out Bool.false_ne_true (by omega) v)
    clear HO1P
    simp only at H1
    generalize cnt (oftR l k) false bt = cc at *
    have hcc:cc <= 2201:=by omega
    clear hcl hcl2 HLEN
    go_wp2
    go_roundw
    case rel=>exact ⟨k + 1,by omega,by go_num,HT.out,by rw [HS.out];exact H1.out,by rw [HS.out];exact H2.out _,HB'.out.setCell (by show w.heap.size <= g1;have:=HG1.out;omega) _⟩
    case measure=>simp [intOf];omega
   ·have h2:bt = 0 /\ 3 <= L /\ L <= 258 /\ 1 <= D /\ D <= 32768:=by have h:=hok;unfold tokOk at h;rw [if_neg h0] at h;exact h
    obtain ⟨rfl,hl3,hl258,hd1,hd3⟩:=h2
    have hu:tokU ⟨L,D,0⟩ = [⟨false,257 + lk L.toNat,lbits (257 + lk L.toNat),0⟩,⟨true,dk D.toNat,dbits (dk D.toNat),0⟩]:=by unfold tokU;rw [if_neg h0,if_pos hok]
    have b0:(L == 0) = false:=by simp [h0]
    have HS:=Zh (GS.out.trans (by rw [hu]))
    have HT:=Zh (GT.out hok)
    have HO1:=Zh ho1
    have HO2:=Zh ho2
    have HB:=Zh hbel
    obtain ⟨n,rfl⟩:=Int.eq_ofNat_of_zero_le (by omega:0 <= L)
    obtain ⟨m,rfl⟩:=Int.eq_ofNat_of_zero_le (by omega:0 <= D)
    simp only [Int.toNat_natCast] at HS hu
    have hlk:lk n < 29:=Zci n (by decide)
    have hdk:=Zux m
    have HLN:=Zh (fun (w:World)=>Znp n w (by omega) (by omega))
    have HDN:=Zh (fun (w:World)=>Zip m w (by omega) (by omega))
    clear ho1 ho2 hmem hbel hu hl3 hl258 hd1 hd3 h0
    have hs286:257 + lk n < 286:=by omega
    clear hlk
    generalize lensL.getD (lk n) 0 = ln at *
    generalize distL.getD (dk m) 0 = dn at *
    generalize 257 + lk n = s at *
    generalize dk m = kd at *
    generalize lbits s = bl at *
    generalize dbits kd = bd at *
    go_wp2_with fail
    refine (Zhv ⟨(n:Int),(m:Int),0⟩ _).mono ?_
    rintro e w4 ⟨rfl,hbw⟩
    rw [hd]
    have e0:=(hbw.cell (p:=⟨b,off + k * 3,none⟩) hb).trans c0
    have e1:=(hbw.cell (p:=⟨b,off + k * 3 + 1,none⟩) hb).trans c1
    have hb4:b < w4.heap.size:=Nat.lt_of_lt_of_le hb hbw.size
    have HO1':=Zh (HO1.out.below hbw)
    have HO2':=Zh (HO2.out.below hbw)
    have HB':=Zh (HB.out.trans (hbw.mono HB.out.size))
    clear c0 c1 c2 hbw hd hok HO1 HO2 HB
    go_wp2_with fail
    refine (HLN.out _).mono ?_
    rintro e w5 ⟨rfl,hbw⟩
    have e1':=(hbw.cell (p:=⟨b,off + k * 3 + 1,none⟩) hb4).trans e1
    have HO1:=Zh (HO1'.out.below hbw)
    have HO2:=Zh (HO2'.out.below hbw)
    have HB:=Zh (HB'.out.trans (hbw.mono HB'.out.size))
    clear e0 e1 hbw HO1' HO2' HB' HLN
    go_wp2_with fail
    refine (HDN.out _).mono ?_
    rintro e w6 ⟨rfl,hbw⟩
    have HO1':=Zh (HO1.out.below hbw)
    have HO2':=Zh (HO2.out.below hbw)
    have HB':=Zh (HB.out.trans (hbw.mono HB.out.size))
    obtain ⟨f1,f2⟩:=Zui HO1'.out s (by omega)
    obtain ⟨f3,f4⟩:=Zui HO2'.out kd (by omega)
    have hcl:=Zch (oftR l k) false s
    have hcl2:=Zch (oftR l k) true kd
    have hcl3:=HLEN.out
    clear e1' hbw HO1 HO2 HB HDN hb4
    have H1:=Zh (fun v (x:Nat)=>Zkf (s:=kd) (g':=g2) ⟨true,kd,bd,0⟩ (Zkg ⟨false,s,bl,0⟩ HO1'.out hs286) (fun h=>Bool.false_ne_true h.symm) (by omega) v)
    have H2:=Zh (fun v=>Zkf (s:=s) (g':=g1) ⟨false,s,bl,0⟩ HO2'.out Bool.false_ne_true (by omega) v)
    have H3:=Zh (show ∀ v,OwnN 3 .i64 (w6.setCell ⟨g1,s,none⟩ v |>.setCell ⟨g2,kd,none⟩ (.int .i64 ((cnt (oftR l k) true kd + 1:Nat):Int))) g1 (some ⟨g2,0,none⟩) 30 (cntL ((oftR l k ++ [⟨false,s,bl,0⟩]) ++ [⟨true,kd,bd,0⟩]) true 30) from fun v=>by
     have h:=Zkg ⟨true,kd,bd,0⟩ (H2.out v) hdk
     have hc:cnt (oftR l k ++ [⟨false,s,bl,0⟩]) true kd = cnt (oftR l k) true kd:=by rw [Zkh,if_neg (by intro h;cases h.1)];rfl
     simp only [hc] at h
     exact h)
    simp only at H1
    have HS2:Hid (oftR l (k + 1) = (oftR l k ++ [⟨false,s,bl,0⟩]) ++ [⟨true,kd,bd,0⟩]):=HS.out.trans (by simp)
    generalize cnt (oftR l k) false s = cc at *
    generalize cnt (oftR l k) true kd = cd at *
    have hcc:cc <= 2201:=by omega
    have hcd:cd <= 2201:=by omega
    clear hcl hcl2 hcl3 HLEN H2 HS
    go_wp2
    go_roundw
    case rel=>exact ⟨k + 1,by omega,by go_num,HT.out,by rw [HS2.out];exact H1.out _ 0,by rw [HS2.out];exact H3.out _,(HB'.out.setCell (by show w.heap.size <= g1;have:=HG1.out;omega) _).setCell (by show w.heap.size <= g2;have:=HG1.out;omega) _⟩
    case measure=>simp [intOf];omega
  ·obtain rfl:k = l.length:=by omega
   have hall:∀ t ∈ l,tokOk t:=by have:=HOK.out;rwa [List.take_length] at this
   rw [Zaab l hall] at ho1 ho2
   have HO1:=Zh ho1.row
   have HO2:=Zh ho2.row
   have HB:=Zh hbel
   have HALL:=Zh hall
   clear ho1 ho2 hbel hall
   go_wp2
   refine bodyPost_ret (results_tmp3 rfl _ _ _) rfl ?_
   unfold oftOut
   rw [if_pos HALL.out]
   exact ⟨g1,g2,rfl,HO1.out,HO2.out,HB.out⟩
end Go.Proofs.YtendielanacflaaGreat

namespace Go.Proofs.YtendielanacflaaGreat
open Go.RowKit Go.Shelf M08 M17
theorem Zxn (s x y k M:Nat) (h1:s <= k * M) (h2:x * y <= M) (h3:M <= 3000000) (hk:k + 1 <= 1000) (hy:y <= 255):s + x * y <= (k + 1) * M /\ wrap64 ((s:Int) + wrap64 ((x:Int) * wrap64 (y:Int))) = ((s + x * y:Nat):Int):=by
 have h4:(k + 1) * M <= 1000 * M:=Nat.mul_le_mul_right M hk
 have h5:(k + 1) * M = k * M + M:=by rw [Nat.add_mul,Nat.one_mul]
 rw [h5] at h4
 rw [h5]
 have hxy:(x:Int) * (y:Int) = ((x * y:Nat):Int):=by simp
 have hy:wrap64 (y:Int) = (y:Int):=IntWalk.wrap64_in _ (by omega)
 rw [hy,hxy]
 generalize x * y = z at *
 generalize k * M = km at *
 have hz:wrap64 (z:Int) = (z:Int):=IntWalk.wrap64_in _ (by omega)
 rw [hz,IntWalk.wrap64_in _ (by omega)]
 exact ⟨by omega,by simp⟩
def sumOut (c lens:List Nat):Nat × Bool:=match sumE c lens with | some n=>(n,true) | none=>(0,false)
set_option maxRecDepth 100000 in
set_option maxHeartbeats 1600000 in
theorem Znr (a a2:Option Addr) (cap cap2:Nat) (c lens:List Nat) (w:World) (hr:RowN .i64 w a cap c) (hr2:RowN .u8 w a2 cap2 lens) (hc:∀ x ∈ c,x <= 10000) (hcl:c.length <= 1000) (hl:∀ x ∈ lens,x <= 255) :
  Calls Tryz.prog 74 #[.slice a c.length cap,.slice a2 lens.length cap2] w fun e w'=>e = .returned (.tuple #[.int .i64 ((sumOut c lens).1:Nat),.bool (sumOut c lens).2]) /\ Below w.heap.size w w':=by
 have HC:=Zh hc
 have HL:=Zh hl
 have hll:=hr2.len
 obtain ⟨M,hM⟩:∃ M:Nat,Hid (10000 * 255 <= M /\ M <= 3000000):=⟨2550000,by unfold Hid;decide⟩
 clear hc hl
 go_enter Tryz.func74,Tryz.ntmps74
 go_wp2
 go_loopw [6,7] (fun n i A=>∃ k:Nat,k <= c.length /\ i = .int .i64 k /\ n = .int .i64 (S (fun i=>c.getD i 0 * lens.getD i 0) k:Nat) /\ (∀ i,i < k -> c.getD i 0 ≠ 0 -> lens.getD i 0 ≠ 0) /\ Hid (S (fun i=>c.getD i 0 * lens.getD i 0) k <= k * M) /\ Below w.heap.size w A) (fun _ i _=>c.length - (intOf i).toNat)
 case atStart=>exact ⟨0,by omega,rfl,rfl,fun i hi=>absurd hi (Nat.not_lt_zero i),(Nat.zero_le _),Below.refl _ _⟩
 case round =>
  obtain ⟨k,hk,rfl,rfl,hnz,hle,hbel⟩:=hrel
  have HNZ:=Zh hnz
  have hrA:=hr.below hbel
  have hrA2:=hr2.below hbel
  have HB:=Zh hbel
  clear hnz hbel
  by_cases hlt:k < c.length
  ·obtain ⟨b,off,rfl,hb,hck⟩:=hrA.at hlt
   have hg:c.getD k 0 = c[k]:=by simp [hlt]
   have hcm:=HC.out _ (List.getElem_mem hlt)
   by_cases hz:c[k] = 0
   ·have HS:Hid (S (fun i=>c.getD i 0 * lens.getD i 0) (k + 1) = S (fun i=>c.getD i 0 * lens.getD i 0) k):=by
     show _ + c.getD k 0 * lens.getD k 0 = _;rw [hg,hz,Nat.zero_mul,Nat.add_zero]
    have HN:Hid (∀ i,i < k + 1 -> c.getD i 0 ≠ 0 -> lens.getD i 0 ≠ 0):=by
     intro i hi hci
     rcases Nat.lt_or_ge i k with h | h
     ·exact HNZ.out i h hci
     ·obtain rfl:i = k:=by omega
      rw [hg] at hci;exact absurd hz hci
    rw [hz] at hck
    have hle2:Hid (S (fun i=>c.getD i 0 * lens.getD i 0) k <= (k + 1) * M):=by have:=hle.out;unfold Hid;rw [Nat.add_mul];omega
    clear hg hz hle hcm
    generalize S (fun i=>c.getD i 0 * lens.getD i 0) k = s at *
    go_wp2
    go_roundw
    case rel=>exact ⟨k + 1,by omega,by go_num,by rw [HS.out],HN.out,by rw [HS.out];exact hle2,HB.out⟩
    case measure=>simp [intOf];omega
   ·have b0:((c[k]:Int) == 0) = false:=by simp;omega
    by_cases hkl:k < lens.length
    ·obtain ⟨b2,off2,rfl,hb2,hck2⟩:=hrA2.at hkl
     have hg2:lens.getD k 0 = lens[k]:=by simp [hkl]
     have hlm:=HL.out _ (List.getElem_mem hkl)
     have b1:decide (lens.length <= k) = false:=by simp;omega
     by_cases hz2:lens[k] = 0
     ·have HSN:Hid (sumOut c lens = (0,false)):=by
       unfold Hid sumOut sumE
       rw [if_neg]
       exact fun h=>h k hlt (by rw [hg];exact hz) (by rw [hg2];exact hz2)
      rw [hz2] at hck2
      clear hg hz hz2 hg2 hle hlm
      generalize S (fun i=>c.getD i 0 * lens.getD i 0) k = s at *
      generalize c[k] = x at *
      go_wp2
      go_ret2
      exact ⟨by rw [HSN.out];rfl,HB.out⟩
     ·have b2':((lens[k]:Int) == 0) = false:=by simp;omega
      have HS:Hid (S (fun i=>c.getD i 0 * lens.getD i 0) (k + 1) = S (fun i=>c.getD i 0 * lens.getD i 0) k + c[k] * lens[k]):=by
       show _ + c.getD k 0 * lens.getD k 0 = _;rw [hg,hg2]
      have HN:Hid (∀ i,i < k + 1 -> c.getD i 0 ≠ 0 -> lens.getD i 0 ≠ 0):=by
       intro i hi hci
       rcases Nat.lt_or_ge i k with h | h
       ·exact HNZ.out i h hci
       ·obtain rfl:i = k:=by omega
        rw [hg2];exact hz2
      have hp:Hid (c[k] * lens[k] <= M):=Nat.le_trans (Nat.mul_le_mul hcm hlm) hM.out.1
      clear hg hz hz2 hg2
      generalize S (fun i=>c.getD i 0 * lens.getD i 0) k = s at *
      generalize c[k] = x at *
      generalize lens[k] = y at *
      have HW:=Zh (Zxn s x y k M hle.out hp.out hM.out.2 (Nat.le_trans hlt hcl) hlm)
      clear hle hp hcm hlm
      have hkc:(k:Int) < (c.length:Int):=by omega
      have hkl2:(k:Int) < (lens.length:Int):=by omega
      go_wp2_with fail
      go_quiet (fail)
      simp only [HW.out.2]
      go_wp2
      go_roundw
      case rel=>exact ⟨k + 1,by omega,by go_num,by rw [HS.out],HN.out,by rw [HS.out];exact HW.out.1,belDN HB.out nq⟩
      case measure=>simp [intOf];omega
    ·have b1:decide (lens.length <= k) = true:=by simp;omega
     have HSN:Hid (sumOut c lens = (0,false)):=by
      unfold Hid sumOut sumE
      rw [if_neg]
      exact fun h=>h k hlt (by rw [hg];exact hz) (by simp [List.getElem?_eq_none (Nat.le_of_not_lt hkl)])
     clear hg hz hkl hle
     generalize S (fun i=>c.getD i 0 * lens.getD i 0) k = s at *
     generalize c[k] = x at *
     go_wp2
     go_ret2
     exact ⟨by rw [HSN.out];rfl,HB.out⟩
  ·obtain rfl:k = c.length:=by omega
   have HSN:Hid (sumOut c lens = (S (fun i=>c.getD i 0 * lens.getD i 0) c.length,true)):=by
    unfold Hid sumOut sumE
    rw [if_pos HNZ.out]
   clear hle
   generalize S (fun i=>c.getD i 0 * lens.getD i 0) c.length = s at *
   go_wp2
   go_ret2
   exact ⟨by rw [HSN.out];rfl,HB.out⟩
end Go.Proofs.YtendielanacflaaGreat

namespace Go.Proofs.YtendielanacflaaGreat
open Go.RowKit Go.Shelf M08 M17
theorem Zqe {R:List URow} {far:Bool} {n:Nat} (hR:R.length <= 3000):∀ x ∈ cntL R far n,x <= 10000:=by
 intro x hx
 obtain ⟨i,_,rfl⟩:=List.mem_map.1 hx
 have:=Zch R far i
 omega
theorem Zqw {x y z:Nat} (h1:x <= 100000) (h2:y <= 100) (h3:z <= 1000000000):wrap64 ((z:Int) + wrap64 ((x:Int) * (y:Int))) = ((z + x * y:Nat):Int):=by
 have h:x * y <= 100000 * 100:=Nat.mul_le_mul h1 h2
 have hxy:(x:Int) * (y:Int) = ((x * y:Nat):Int):=by simp
 rw [hxy]
 generalize x * y = u at *
 rw [IntWalk.wrap64_in (u:Int) (by omega),IntWalk.wrap64_in _ (by omega)]
 simp
theorem Zqr {i:Nat} (h:i < 286):lbits i <= 100:=by unfold lbits;split <;> omega
theorem Zqi {i:Nat} (h:i < 30):dbits i <= 100:=by unfold dbits;split <;> omega
theorem Ztw (R:List URow) (far:Bool) (g:Nat -> Nat) (n k:Nat) (hk:k <= n) (hn:n <= 286) (hR:R.length <= 3000) (hg:∀ i,i < n -> g i <= 100):S (fun i=>cnt R far i * g i) k <= 286 * 300000 :=
 Nat.le_trans (Zaep _ (3000 * 100) k fun i hi=>Nat.mul_le_mul (Nat.le_trans (Zch _ _ _) hR) (hg i (by omega))) (Nat.mul_le_mul_right _ (by omega))
theorem Zww {w:World} {g n:Nat} {far:Bool} {R:List URow} (h:RowN .i64 w (some ⟨g,0,none⟩) n (cntL R far n)) (i:Nat) (hi:i < n):w.cell? ⟨g,i,none⟩ = some (.int .i64 (cnt R far i:Nat)):=by
 obtain ⟨b,off,he,_,hc⟩:=h.at (i:=i) (by rw [Zay];exact hi)
 simp only [Option.some.injEq,Addr.mk.injEq,and_true] at he
 obtain ⟨rfl,rfl⟩:=he
 have:=Zha R far n i hi
 rw [List.getD_eq_getElem?_getD,List.getElem?_eq_getElem (by rw [Zay];exact hi),Option.getD_some] at this
 rw [this,Nat.zero_add] at hc
 exact hc
set_option maxRecDepth 100000 in
set_option maxHeartbeats 1600000 in
theorem Zlf (a a1 a2:Option Addr) (cap c1 c2:Nat) (l:List Tok) (f o:List Nat) (w:World) (hl:l.length <= 1100) (hby:∀ t ∈ l,t.byte < 256) (hr:RowS encT w a cap l) (h1:RowN .u8 w a1 c1 f) (h2:RowN .u8 w a2 c2 o) (hf:∀ x ∈ f,x <= 255) (ho:∀ x ∈ o,x <= 255) :
  Calls Tryz.prog 39 #[.slice a l.length cap,.slice a1 f.length c1,.slice a2 o.length c2] w fun e w'=>e = .returned (.tuple #[.int .i64 ((symOut f o l).1:Nat),.int .i64 ((symOut f o l).2:Nat)]) /\ Below w.heap.size w w':=by
 have HOFT:=Zh (Zph a cap l w hl hby hr)
 have HF:=Zh hf
 have HO:=Zh ho
 by_cases hall:∀ t ∈ l,tokOk t
 case neg =>
  have hbad:symOut f o l = (0,5):=Ztl f o l (by
   apply Classical.byContradiction
   intro hc
   exact hall fun t ht=>Classical.byContradiction fun hn=>hc ⟨t,ht,hn⟩)
  have HBAD:=Zh hbad
  have HNALL:=Zh hall
  clear hall hbad hby hf ho
  go_enter Tryz.func39,Tryz.ntmps39
  go_wp2_with fail
  refine HOFT.out.mono ?_
  rintro e w1 h
  unfold oftOut at h
  rw [if_neg HNALL.out] at h
  obtain ⟨rfl,hb⟩:=h
  clear HOFT
  go_wp2_with fail
  go_ret2
  exact ⟨by rw [HBAD.out];rfl,hb⟩
 have hR:(useU l).length <= 3000:=by have:=Zco l;omega
 have HALL:=Zh hall
 have HBY:=Zh hby
 have HR:=Zh hR
 clear hall hby hf ho hR
 go_enter Tryz.func39,Tryz.ntmps39
 go_wp2_with fail
 refine HOFT.out.mono ?_
 rintro e w1 h
 unfold oftOut at h
 rw [if_pos HALL.out] at h
 obtain ⟨g1,g2,rfl,r1,r2,hb⟩:=h
 clear HOFT
 have HR1:=Zh r1
 have HR2:=Zh r2
 have HB:=Zh hb
 have HS1:=Zh (Znr (some ⟨g1,0,none⟩) a1 286 c1 (cntL (useU l) false 286) f w1 r1 (h1.below hb) (Zqe HR.out) (by rw [Zay];decide) HF.out)
 have HS2:=Zh (fun (w2:World) (h:Below w1.heap.size w1 w2)=>Znr (some ⟨g2,0,none⟩) a2 30 c2 (cntL (useU l) true 30) o w2 (r2.below h) (h2.below (hb.trans (h.mono hb.size))) (Zqe HR.out) (by rw [Zay];decide) HO.out)
 rw [Zay] at HS1
 simp only [Zay] at HS2
 clear r1 r2 hb
 go_wp2_with fail
 refine HS1.out.mono ?_
 rintro e w2 ⟨rfl,hb2⟩
 clear HS1
 have HB2:=Zh hb2
 clear hb2
 cases hs1:sumE (cntL (useU l) false 286) f with
 | none =>
  have e1:sumOut (cntL (useU l) false 286) f = (0,false):=by unfold sumOut;rw [hs1]
  have HE:=Zh (Zig f o l HALL.out HBY.out (.inl hs1))
  rw [e1]
  clear hs1 e1
  go_wp2_with fail
  refine (HS2.out w2 HB2.out).mono ?_
  rintro e w3 ⟨rfl,hb3⟩
  clear HS2
  generalize (sumOut (cntL (useU l) true 30) o) = q at *
  go_wp2_with fail
  go_ret2
  exact ⟨by rw [HE.out];rfl,(HB.out.trans (HB2.out.mono HB.out.size)).trans (hb3.mono (HB.out.trans (HB2.out.mono HB.out.size)).size)⟩
 | some n =>
  have e1:sumOut (cntL (useU l) false 286) f = (n,true):=by unfold sumOut;rw [hs1]
  rw [e1]
  cases hs2:sumE (cntL (useU l) true 30) o with
  | none =>
   have e2:sumOut (cntL (useU l) true 30) o = (0,false):=by unfold sumOut;rw [hs2]
   have HE:=Zh (Zig f o l HALL.out HBY.out (.inr hs2))
   rw [e2] at HS2
   clear hs1 e1 hs2 e2
   go_wp2_with fail
   refine (HS2.out w2 HB2.out).mono ?_
   rintro e w3 ⟨rfl,hb3⟩
   clear HS2
   go_wp2_with fail
   go_ret2
   exact ⟨by rw [HE.out];rfl,(HB.out.trans (HB2.out.mono HB.out.size)).trans (hb3.mono (HB.out.trans (HB2.out.mono HB.out.size)).size)⟩
  | some m =>
   have e2:sumOut (cntL (useU l) true 30) o = (m,true):=by unfold sumOut;rw [hs2]
   have HE:=Zh (Zps f o l HALL.out HBY.out hs1 hs2)
   have hn:=Zxk hs1 HR.out HF.out
   have hm:=Zxk hs2 HR.out HO.out
   have hn':n <= 300000000:=by omega
   have hm':m <= 300000000:=by omega
   have HSB1:=Zh (fun k (hk:k <= 286)=>Ztw (useU l) false lbits 286 k hk (by decide) HR.out fun i hi=>Zqr hi)
   have HSB2:=Zh (fun k (hk:k <= 30)=>Ztw (useU l) true dbits 30 k hk (by decide) HR.out fun i hi=>Zqi hi)
   have HNM:=Zh (And.intro hn' hm')
   rw [e2] at HS2
   clear hs1 e1 hs2 e2 hn hm
   go_wp2_with fail
   refine (HS2.out w2 HB2.out).mono ?_
   rintro e w3 ⟨rfl,hb3⟩
   clear HS2
   have HR1':=Zh ((HR1.out.below HB2.out).below hb3)
   have HR2':=Zh ((HR2.out.below HB2.out).below hb3)
   have HB3:=Zh ((HB.out.trans (HB2.out.mono HB.out.size)).trans (hb3.mono (HB.out.trans (HB2.out.mono HB.out.size)).size))
   clear hb3 HR1 HR2 HB HB2
   go_wp2_with fail
   go_loopw [11,15] (fun x i A=>∃ k:Nat,257 <= k /\ k <= 286 /\ i = .int .i64 k /\ x = .int .i64 (((n + m) + S (fun i=>cnt (useU l) false i * lbits i) k:Nat):Int) /\ RowN .i64 A (some ⟨g1,0,none⟩) 286 (cntL (useU l) false 286) /\ RowN .i64 A (some ⟨g2,0,none⟩) 30 (cntL (useU l) true 30) /\ Below w.heap.size w A) (fun _ i _=>286 - (intOf i).toNat)
   case atStart=>exact ⟨257,by omega,by omega,rfl,by rw [S257 (useU l)];go_num,HR1'.out,HR2'.out,HB3.out⟩
   case round =>
    obtain ⟨k,hk1,hk2,rfl,rfl,hq1,hq2,hb4⟩:=hrel
    have HQ1:=Zh hq1
    have HQ2:=Zh hq2
    have HB4:=Zh hb4
    clear hq1 hq2 hb4
    by_cases hlt:k < 286
    ·have hc:wr.cell? ⟨g1,k,none⟩ = some (.int .i64 (cnt (useU l) false k:Nat)):=Zww HQ1.out k hlt
     have hcb:cnt (useU l) false k <= 100000:=by have:=Zch (useU l) false k;have:=HR.out;omega
     have hbb:=Zqr hlt
     have HSS:=Zh (show S (fun i=>cnt (useU l) false i * lbits i) (k + 1) = S (fun i=>cnt (useU l) false i * lbits i) k + cnt (useU l) false k * lbits k from rfl)
     have hsb:(n + m) + S (fun i=>cnt (useU l) false i * lbits i) k <= 1000000000:=by have:=HSB1.out k (by omega);have:=HNM.out;omega
     have HLB:=Zh (fun (w:World)=>Zhu k w (by omega))
     have HW:=Zh (Zqw hcb hbb hsb)
     clear hcb hbb hsb
     have hki:(k:Int) < 286:=by omega
     generalize cnt (useU l) false k = cc at *
     generalize lbits k = bb at *
     generalize S (fun i=>cnt (useU l) false i * lbits i) k = ss at *
     generalize hzz:(n + m) + ss = zz at *
     have HZZ:=Zh hzz
     clear hzz
     go_wp2_with fail
     go_quiet ((go_at_call 75;exact (HLB.out _).mono (fun _ _ h=>⟨h.1,_,h.2.symm⟩)))
     simp only [HW.out]
     go_wp2
     go_roundw
     case rel=>exact ⟨k + 1,by omega,by omega,by go_num,by rw [HSS.out,<- Nat.add_assoc,HZZ.out],HQ1.out.drewN _,HQ2.out.drewN _,belDN HB4.out _⟩
     case measure=>simp [intOf];omega
    ·obtain rfl:k = 286:=by omega
     go_wp2_with fail
     go_loopw [11,16] (fun x i A=>∃ k:Nat,0 <= k /\ k <= 30 /\ i = .int .i64 k /\ x = .int .i64 (((n + m + S (fun i=>cnt (useU l) false i * lbits i) 286) + S (fun i=>cnt (useU l) true i * dbits i) k:Nat):Int) /\ RowN .i64 A (some ⟨g1,0,none⟩) 286 (cntL (useU l) false 286) /\ RowN .i64 A (some ⟨g2,0,none⟩) 30 (cntL (useU l) true 30) /\ Below w.heap.size w A) (fun _ i _=>30 - (intOf i).toNat)
     case atStart=>exact ⟨0,by omega,by omega,rfl,rfl,HQ1.out,HQ2.out,HB4.out⟩
     case round =>
      obtain ⟨k,hk1,hk2,rfl,rfl,hq1,hq2,hb4⟩:=hrel
      have HQ1:=Zh hq1
      have HQ2:=Zh hq2
      have HB4:=Zh hb4
      clear hq1 hq2 hb4
      by_cases hlt:k < 30
      ·have hc:wr.cell? ⟨g2,k,none⟩ = some (.int .i64 (cnt (useU l) true k:Nat)):=Zww HQ2.out k hlt
       have hcb:cnt (useU l) true k <= 100000:=by have:=Zch (useU l) true k;have:=HR.out;omega
       have hbb:=Zqi hlt
       have HSS:=Zh (show S (fun i=>cnt (useU l) true i * dbits i) (k + 1) = S (fun i=>cnt (useU l) true i * dbits i) k + cnt (useU l) true k * dbits k from rfl)
       have hsb:(n + m + S (fun i=>cnt (useU l) false i * lbits i) 286) + S (fun i=>cnt (useU l) true i * dbits i) k <= 1000000000:=by have:=HSB2.out k (by omega);have:=HNM.out;have:=HSB1.out 286 (by omega);omega
       have HLB:=Zh (fun (w:World)=>Zht k w (by omega))
       have HW:=Zh (Zqw hcb hbb hsb)
       clear hcb hbb hsb
       have hki:(k:Int) < 30:=by omega
       generalize cnt (useU l) true k = cc at *
       generalize dbits k = bb at *
       generalize S (fun i=>cnt (useU l) true i * dbits i) k = ss at *
       generalize hzz:(n + m + S (fun i=>cnt (useU l) false i * lbits i) 286) + ss = zz at *
       have HZZ:=Zh hzz
       clear hzz
       go_wp2_with fail
       go_quiet ((go_at_call 76;exact (HLB.out _).mono (fun _ _ h=>⟨h.1,_,h.2.symm⟩)))
       simp only [HW.out]
       go_wp2
       go_roundw
       case rel=>exact ⟨k + 1,by omega,by omega,by go_num,by rw [HSS.out,<- Nat.add_assoc,HZZ.out],HQ1.out.drewN _,HQ2.out.drewN _,belDN HB4.out _⟩
       case measure=>simp [intOf];omega
      ·obtain rfl:k = 30:=by omega
       have HE':=Zh HE.out
       go_wp2
       go_ret2
       exact ⟨by rw [HE'.out];rfl,HB4.out⟩
end Go.Proofs.YtendielanacflaaGreat

namespace Go.Proofs.YtendielanacflaaGreat
open Go.RowKit M17
set_option maxHeartbeats 800000 in
theorem Znq (n at_:Int) (w:World) (hn:n <= 1073741824) (ha:at_ <= 1073741824) :
  Calls Tryz.prog 14 #[.int .i64 n,.int .i64 at_] w fun e w'=>e = .returned (.int .i64 (storedZ n at_)) /\ w = w':=by
 by_cases h0:n < 0
 ·have H:Hid (storedZ n at_ = 0):=by unfold Hid storedZ;rw [if_pos (.inl h0)]
  go_enter Tryz.func14,Tryz.ntmps14
  go_wp2
  go_ret
  exact ⟨Zav H.out.symm,rfl⟩
 by_cases h1:at_ < 0
 ·have H:Hid (storedZ n at_ = 0):=by unfold Hid storedZ;rw [if_pos (.inr h1)]
  go_enter Tryz.func14,Tryz.ntmps14
  go_wp2
  go_ret
  exact ⟨Zav H.out.symm,rfl⟩
 have H:Hid (storedZ n at_ = st n.toNat at_.toNat - at_):=by unfold Hid storedZ;rw [if_neg (by omega)]
 obtain ⟨N,rfl⟩:=Int.eq_ofNat_of_zero_le (by omega:0 <= n)
 obtain ⟨A,rfl⟩:=Int.eq_ofNat_of_zero_le (by omega:0 <= at_)
 simp only [Int.toNat_natCast] at H
 go_enter Tryz.func14,Tryz.ntmps14
 go_wp2
 have hb:((N:Int) + 65534) / 65535 = (((N + 65534) / 65535:Nat):Int):=by omega
 simp only [hb]
 clear hb
 have HB:Hid (∀ c,(N + 65534) / 65535 = c + 1 -> st N A = align (ev A c + 3) + 32 + 8 * (N - 65535 * c)):=fun c h=>Zafk c N A h
 have HZ:Hid ((N + 65534) / 65535 = 0 -> N = 0):=by unfold Hid;omega
 have hbs:(N + 65534) / 65535 <= 16400:=by omega
 have hbN:N <= 65535 * ((N + 65534) / 65535):=by omega
 have hbN2:65535 * ((N + 65534) / 65535) <= N + 65534:=by omega
 generalize (N + 65534) / 65535 = b at *
 obtain ⟨c,hc1,hc2,hc0⟩:∃ c:Nat,(1 < b -> c = b) /\ (¬ 1 < b -> c = 1) /\ 1 <= c:=⟨max 1 b,by omega,by omega,by omega⟩
 have HC1:=Zh hc1
 have HC2:=Zh hc2
 have hcs:c <= 16400:=by by_cases h:1 < b;have:=hc1 h;omega;have:=hc2 h;omega
 clear hc1 hc2
 go_loop [5,7] (fun e i=>∃ i' e':Nat,i = .int .i64 i' /\ e = .int .i64 e' /\ i' <= c /\ (i' < c -> e' = ev A i') /\ (i' = c -> e' = align (ev A (c - 1) + 3) + 32)) (fun _ i=>c - (intOf i).toNat)
 case atStart=>exact ⟨0,A,rfl,rfl,by omega,fun _=>rfl,by omega⟩
 case round =>
  obtain ⟨i',e',rfl,rfl,hic,he1,he2⟩:=hrel
  have HE1:=Zh he1
  have HE2:=Zh he2
  clear he1 he2
  have hev:=Zaex A i'
  have hev2:=Zaex A (c - 1)
  by_cases hi:i' < c
  ·have he:e' <= 10000000000:=by have:=HE1.out hi;omega
   have hal:=Zek (ev A i' + 3)
   by_cases hb1:1 < b
   ·have hcb:c = b:=HC1.out hb1
    clear HC1 HC2
    have hee:=HE1.out hi
    clear HE1 HE2
    subst hee
    go_wp2
    go_loop [5] (fun e=>∃ x:Nat,e = .int .i64 x /\ ev A i' + 3 <= x /\ x <= align (ev A i' + 3)) (fun e=>align (ev A i' + 3) - (intOf e).toNat)
    case atStart=>exact ⟨ev A i' + 3,Zep (by omega),Nat.le_refl _,hal.1⟩
    case round =>
     obtain ⟨x,rfl,hx1,hx2⟩:=hrel
     by_cases hx8:x % 8 = 0
     ·have hxe:x = align (ev A i' + 3):=by have:=hal;unfold align at *;omega
      have bx:((x:Int) % 8 != 0) = false:=by simp;omega
      clear hx8
      by_cases hl:i' + 1 < b
      ·go_wp2
       go_round
       case rel=>exact ⟨i' + 1,x + 32 + 524280,by go_num,by go_num,by omega,fun _=>by rw [hxe];rfl,fun h=>by omega⟩
       case measure=>simp [intOf];omega
      ·go_wp2
       go_round
       case rel=>exact ⟨i' + 1,x + 32,by go_num,by go_num,by omega,fun h=>by omega,fun h=>by rw [hxe,<- h];rfl⟩
       case measure=>simp [intOf];omega
     ·have hxl:x + 1 <= align (ev A i' + 3):=by have:=hal;omega
      have bx:((x:Int) % 8 != 0) = true:=by simp;omega
      clear hx8
      go_wp2
      go_round
      case rel=>exact ⟨x + 1,by go_num,by omega,hxl⟩
      case measure=>simp [intOf];omega
   ·have hcb:c = 1:=HC2.out hb1
    clear HC1 HC2
    have hee:=HE1.out hi
    clear HE1 HE2
    subst hee
    go_wp2
    go_loop [5] (fun e=>∃ x:Nat,e = .int .i64 x /\ ev A i' + 3 <= x /\ x <= align (ev A i' + 3)) (fun e=>align (ev A i' + 3) - (intOf e).toNat)
    case atStart=>exact ⟨ev A i' + 3,Zep (by omega),Nat.le_refl _,hal.1⟩
    case round =>
     obtain ⟨x,rfl,hx1,hx2⟩:=hrel
     by_cases hx8:x % 8 = 0
     ·have hxe:x = align (ev A i' + 3):=by have:=hal;unfold align at *;omega
      have bx:((x:Int) % 8 != 0) = false:=by simp;omega
      clear hx8
      go_wp2
      go_round
      case rel=>exact ⟨i' + 1,x + 32,by go_num,by go_num,by omega,fun h=>by omega,fun h=>by rw [hxe,<- h];rfl⟩
      case measure=>simp [intOf];omega
     ·have hxl:x + 1 <= align (ev A i' + 3):=by have:=hal;omega
      have bx:((x:Int) % 8 != 0) = true:=by simp;omega
      clear hx8
      go_wp2
      go_round
      case rel=>exact ⟨x + 1,by go_num,by omega,hxl⟩
      case measure=>simp [intOf];omega
  ·obtain rfl:i' = c:=by omega
   have he2:=HE2.out rfl
   have he:e' <= 10000000000:=by have:=Zek (ev A (i' - 1) + 3);omega
   have HE:=Zh he2
   clear he2 HE1 HE2
   by_cases hb1:1 < b
   ·have hcb:i' = b:=HC1.out hb1
    have H2:=Zh (HB.out (i' - 1) (by omega))
    go_wp2
    go_ret
    refine ⟨Zav ?_,rfl⟩
    rw [H.out,H2.out,<- HE.out]
    omega
   ·have hcb:i' = 1:=HC2.out hb1
    by_cases hb0:b = 0
    ·have hN:=HZ.out hb0
     subst hN hb0 hcb
     go_wp2
     go_ret
     refine ⟨Zav ?_,rfl⟩
     have h5:storedZ 0 (A:Int) = st 0 A - A:=H.out
     rw [h5,Zxi,HE.out]
     rfl
    ·have hb2:0 < b:=by omega
     have H2:=Zh (HB.out (i' - 1) (by omega))
     clear hb0
     go_wp2
     go_ret
     refine ⟨Zav ?_,rfl⟩
     rw [H.out,H2.out,<- HE.out]
     omega
end Go.Proofs.YtendielanacflaaGreat
