/- law18.tells: the chapter's examples. law18.EmitKnown: closed examples. -/
import Derived.Test.YtendielanacflaaGreatB01
import Derived.Test.YtendielanacflaaGreatB02
import Derived.Test.YtendielanacflaaGreatB03
import Derived.Test.YtendielanacflaaGreatB04
import Derived.Test.YtendielanacflaaGreatB05
import Derived.Test.YtendielanacflaaGreatB06
import Derived.Test.YtendielanacflaaGreatB07
import Derived.Test.YtendielanacflaaGreatB08
import Derived.Test.YtendielanacflaaGreatB09
import Derived.Test.YtendielanacflaaGreatB10
import Derived.Test.YtendielanacflaaGreatB11
import Derived.Test.YtendielanacflaaGreatB12
import Derived.Test.YtendielanacflaaGreatB13
import Derived.Test.YtendielanacflaaGreatB14
import Derived.Test.YtendielanacflaaGreatB15
import Derived.Test.YtendielanacflaaGreatB16
import Derived.Test.YtendielanacflaaGreatB17
import Derived.Test.YtendielanacflaaGreatB18
import Derived.Test.YtendielanacflaaGreatB19
import Derived.StillTailTactics
import Derived.Maps.AppendAt
import Derived.WalkLawsBesides
import Derived.Lib.SlicesS
import Derived.Laws.Bits64b
import Derived.Deep.RegionHeld3
import Derived.Great.BuildSlice
import Derived.Test.YtendielanacflaaGreatChecked
import Derived.BigQuiet
import Derived.Deep.QuietTactic
import Derived.RangeFuncNested
import Derived.RangeFuncBound
import Derived.RangeFuncCalls
import Derived.RangeFuncLeaves
import Derived.RangeFuncWrites
import Derived.Shelf.Abstract
import Derived.Shelf.RegionOpen
import Derived.TacticsInMore
import Derived.LoopNIn
import Derived.LoopIn
import Derived.Below
import Derived.OneCell
import Derived.OwnWalkIn
import Derived.Laws.BytesString
import Derived.WalkKit
import Derived.WalkSpells
import Derived.Lib.Hide
import Derived.Orders
import Derived.OrdersIn
import Derived.Tactics
import Derived.TacticsIn
import Derived.Maps.Own
import Derived.Maps.OwnOps
import Derived.Maps.OwnSet
import Derived.Maps.Views
import Derived.DeepKeys4
import Derived.WalkArith
import Derived.Defers
import Derived.Recover
import Derived.Laws.Pointers
import Derived.Laws.CopyOwn
import Derived.Lib.AppendZerosOnto
import Derived.Sort.BigQuietIn
import Derived.Laws.EntriesVeiled
import Derived.Deep.Slices
import Derived.Deep.Strs
import Derived.ProofKit
import Derived.Deep.MidRow
set_option linter.unusedVariables false
set_option linter.unusedSimpArgs false
namespace Go.Proofs.YtendielanacflaaGreat
open Go.RowKit Go.Shelf M01 M09 M10 M17 M18
theorem defl_arg {w:World} {a:Option Addr} {cap:Nat} {l:List Tok} (hr:RowS encT w a cap l) (hb:∀ t ∈ l,t.byte < 256) (hok:¬ ∀ t ∈ l,tokOk t) (hl:l.length <= 100000) (n:Nat) (hn:n = l.length) :
  Calls Tryz.prog 9 #[.slice a n cap] w fun e w'=>Below w.heap.size w w' /\ e = .returned (.tuple #[.slice none 0 0,.int .i64 5]):=by
 subst hn
 refine (Zek a cap l w hr hb hl (fun h=>absurd h hok)).mono ?_
 rintro e w' ⟨h1,h2⟩
 unfold DefE at h2
 rw [if_neg hok] at h2
 exact ⟨h1,h2⟩
end Go.Proofs.YtendielanacflaaGreat

namespace Go.Proofs.YtendielanacflaaGreat
open Go.RowKit Go.Shelf M01 M09 M10 M17 M18
def LitL (l:List Tok):Prop:=∀ t ∈ l,t.len = 0 /\ t.dist = 0 /\ t.byte < 256
theorem lit_oks {l:List Tok} (h:LitL l):Oks l:=⟨fun t ht=>by unfold tokOk;rw [if_pos (h t ht).1];exact (h t ht).2.1,fun t ht=>(h t ht).2.2⟩
theorem lit_exp:∀ (l:List Tok) (out:List Nat),LitL l -> expL out l = some (out ++ l.map Tok.byte):=by
 intro l
 induction l with
 | nil=>intro out _;simp [expL]
 | cons t l ih =>
  intro out h
  have h1:expT out t = some (out ++ [t.byte]):=by unfold expT;rw [if_pos (h t (by simp)).1]
  simp only [expL,h1,Option.bind_some]
  rw [ih _ (fun x hx=>h x (by simp [hx]))]
  simp
theorem lit_snoc {l:List Tok} (h:LitL l) {b:Nat} (hb:b < 256):LitL (l ++ [⟨0,0,b⟩]):=by
 intro t ht
 rcases List.mem_append.1 ht with h1 | h1
 ·exact h t h1
 ·rw [List.mem_singleton] at h1;subst h1;exact ⟨rfl,rfl,hb⟩
theorem lit_len {l:List Tok} (h:LitL l) (hl:l.length = 66000):(deflB l (l.map Tok.byte)).length <= 66010:=by
 rw [Zabj (lit_oks h) (by rw [lit_exp l [] h];rfl),List.length_map,hl]
 have:plainN 66000 = 66010:=by decide +kernel
 rw [this]
 omega
theorem bad_arg (w:World):Calls Tryz.prog 9 #[.slice (some ⟨w.heap.size,0,none⟩) 1 1] (w.alloc (.cells #[.int .i64 2,.int .i64 1,.int .u8 0] 40)) fun e w'=>e = .returned (.tuple #[.slice none 0 0,.int .i64 5]) /\ Below w.heap.size w w':=by
 refine (defl_arg (Zyn w ⟨2,1,0⟩ _ rfl _ rfl) (by simp) (by simp [tokOk]) (by decide) 1 rfl).mono ?_
 rintro e w' ⟨h1,h2⟩
 exact ⟨h2,(Zai w _).trans (h1.mono (by simp))⟩
set_option maxRecDepth 100000 in
set_option maxHeartbeats 3200000 in
theorem law_known18 (w:World):Calls Tryz.prog 7 #[] w fun e w'=>e = .returned (.bool true) /\ Below w.heap.size w w':=by
 go_enter Tryz.func7,Tryz.ntmps7
 go_wp2_with fail
 refine (bad_arg w).mono ?_
 rintro e w1 ⟨rfl,hb1⟩
 have HB1:=Zh hb1
 clear hb1
 go_wp2
 obtain ⟨M,hM⟩:∃ M:Nat,M = 66000:=⟨_,rfl⟩
 obtain ⟨U,hU⟩:∃ U:Int,U = 4294967296:=⟨_,rfl⟩
 have HM:=Zh hM
 have HU:=Zh hU
 clear hM hU
 go_loopw [3,4,5] (fun nv vv iv A=>∃ (k v:Nat) (L:List Tok) (a':Option Addr) (c':Nat),k <= M /\ (v:Int) < U /\ iv = .int .i64 (k:Nat) /\ vv = .int .u32 (v:Nat) /\ nv = .slice a' L.length c' /\ L.length = k /\ LitL L /\ OwnS encT 40 A w1.heap.size a' c' L /\ Below w1.heap.size w1 A) (fun _ _ iv _=>M - (intOf iv).toNat)
 case atStart=>exact ⟨0,1,[],none,0,by omega,by rw [HU.out];decide,rfl,rfl,rfl,rfl,fun t ht=>by simp at ht,OwnS.nil _ _ _ _,Below.refl _ _⟩
 case round =>
  obtain ⟨k,v,L,a1,c1,hk,hv,rfl,rfl,rfl,hLk,hlit,how,hb⟩:=hrel
  have HOW:=Zh how
  have HB:=Zh hb
  have HLIT:=Zh hlit
  clear how hb hlit
  by_cases hlk:k < M
  ·have hlt:(k:Int) < 66000:=by have:=HM.out;omega
   have HLK:=Zh hLk
   clear hLk
   have hwr:∀ y:Int,0 <= IntKind.u32.wrap y /\ IntKind.u32.wrap y < 4294967296:=fun y=>by simp only [IntKind.wrap,IntKind.bits,IntKind.signed];simp;omega
   obtain ⟨m1,hm1⟩:∃ m1:Nat,IntKind.u32.wrap ((v:Int) * 1664525) = (m1:Int):=⟨(IntKind.u32.wrap ((v:Int) * 1664525)).toNat,by rw [Int.toNat_of_nonneg (hwr _).1]⟩
   obtain ⟨v2,hm2⟩:∃ v2:Nat,IntKind.u32.wrap ((m1:Int) + 1013904223) = (v2:Int):=⟨(IntKind.u32.wrap ((m1:Int) + 1013904223)).toNat,by rw [Int.toNat_of_nonneg (hwr _).1]⟩
   have hv2:(v2:Int) < 4294967296:=by rw [<- hm2];exact (hwr _).2
   have HV2:=Zh hv2
   obtain ⟨bt,hbt⟩:∃ bt:Nat,(v2:Int) / 16777216 = (bt:Int):=⟨((v2:Int) / 16777216).toNat,by rw [Int.toNat_of_nonneg (by omega)]⟩
   have hb256:(bt:Int) < 256:=by omega
   have hw8:IntKind.u8.wrap (bt:Int) = (bt:Int):=by simp only [IntKind.wrap,IntKind.bits,IntKind.signed];simp;omega
   have hdk:decide ((k:Int) < 66000) = true:=by simp;omega
   have HBT:=Zh hb256
   have HLT:=Zh hlk
   have hwi:IntKind.i64.wrap ((k:Int) + 1) = ((k + 1:Nat):Int):=by rw [IntWalk.i64_in _ (by omega)];omega
   clear hv hwr hv2 hlk hlt hb256 hk
   go_wp2_with (at_builtin;refine app1S Zlh rfl (.tmp 25) (.tmp 30) rfl (⟨0,0,bt⟩:Tok) (base:=w1.heap.size) rfl HOW.out rfl rfl (by decide) (by decide) (by have:=HLK.out;have:=HLT.out;have:=HM.out;omega) (by have:=HLK.out;have:=HLT.out;have:=HM.out;omega) HB.out.size ?_;intro a3 c3 w3 o3 hg3 hb3)
   have HO3:=Zh o3
   have HB3:=Zh (HB.out.trans hb3)
   clear o3 hg3 hb3 hdk
   go_roundw
   case rel=>exact ⟨k + 1,v2,L ++ [⟨0,0,bt⟩],a3,c3,by have:=HLT.out;omega,by rw [HU.out];exact HV2.out,by go_num,rfl,by simp,by simp [HLK.out],lit_snoc HLIT.out (by have:=HBT.out;omega),HO3.out,HB3.out⟩
   case measure=>have:=HLT.out;simp [intOf];omega
  ·obtain rfl:k = M:=by omega
   have hM:=HM.out
   have hdk:decide ((k:Int) < 66000) = false:=by simp;omega
   have hoks:=lit_oks HLIT.out
   have hexp:expL [] L = some (L.map Tok.byte):=by rw [lit_exp L [] HLIT.out];rfl
   have hxl:(L.map Tok.byte).length = L.length:=List.length_map _
   have hnb:=lit_len HLIT.out (by omega)
   obtain ⟨at2,hread,hused⟩:=Zxd hoks hexp [] (by simp)
   rw [List.append_nil] at hread
   have HDF:=Zh (Zio HOW.out.row hoks (by omega) (L.map Tok.byte) _ hexp (by omega) rfl L.length rfl)
   have HBY:Hid (∀ b ∈ deflB L (L.map Tok.byte),b < 256):=Zh (fun b h=>Zxc b h)
   have HREAD:=Zh hread
   have hcd:codeT L = 0:=by unfold codeT;rw [if_pos hoks.1,hexp]
   have HEX:=Zh (fun W (h:Below wr.heap.size wr W)=>Zagc a1 c1 L W (HOW.out.row.below h) hoks.2 (by omega))
   rw [hcd] at HEX
   have HEXP:=Zh hexp
   have HLEN:Hid (L.length = 66000):=Zh (by omega)
   generalize L.map Tok.byte = X at *
   generalize deflB L X = B at *
   have HXL:Hid (X.length = 66000):=Zh (by omega)
   have HNB:Hid (B.length <= 66010):=Zh hnb
   clear hread hexp hoks hcd hnb hxl hk hlk hLk hM hv
   go_wp2_with fail
   refine HDF.out.mono ?_
   rintro e w3 ⟨hb3,a3,c3,rfl,o3⟩
   have HB3:=Zh hb3
   have HI:=Zoi (keep:=66000) o3.row HBY.out (by have:=HNB.out;omega) (by decide) HREAD.out
   rw [List.take_of_length_le (Nat.le_of_eq HXL.out),hused] at HI
   have HII:=Zh HI
   clear HI hb3 o3 HDF
   go_wp2_with fail
   refine HII.out.mono ?_
   rintro e w4 ⟨hb4,a4,c4,rfl,hr4⟩
   have hb5:=Zai w4 (.cells #[.slice a4 X.length c4,.int .i64 (X.length:Nat),.int .i64 (B.length:Nat),.bool false] 53)
   have hfl:=World.alloc_heap_new w4 (.cells #[.slice a4 X.length c4,.int .i64 (X.length:Nat),.int .i64 (B.length:Nat),.bool false] 53)
   have HR5:=Zh (hr4.below hb5)
   have HB5:=Zh (HB3.out.trans ((hb4.trans (hb5.mono hb4.size)).mono HB3.out.size))
   have HE5:=Zh (HEX.out _ HB5.out)
   have HFL:=Zh hfl
   clear hb4 hr4 hb5 hfl HII HB3 HEX
   go_wp2_with fail
   refine HE5.out.mono ?_
   rintro e w6 ⟨hb6,ax,nx,cx,rfl,hx6⟩
   obtain ⟨rfl,hrx⟩:=hx6 X (by first | trivial | rfl) HEXP.out
   obtain ⟨e0,e1,e2,e3,_,_⟩:=Zba ((hb6.block _ (lt_of_block HFL.out)).trans HFL.out)
   have hcv1:=Zhw (n:=X.length) Tryz.underlying24 Tryz.underlying5 Tryz.underlying9 rfl (HR5.out.below hb6)
   have hcv2:=Zhw (n:=X.length) Tryz.underlying24 Tryz.underlying5 Tryz.underlying9 rfl hrx
   obtain ⟨sx,hsx⟩:∃ sx,strOf X = sx:=⟨_,rfl⟩
   rw [hsx] at hcv1 hcv2
   have HB6:=Zh (HB1.out.trans ((HB.out.trans ((HB5.out.trans (hb6.mono HB5.out.size)).mono HB.out.size)).mono HB1.out.size))
   have HT:=Zh (Zja w6)
   have hd1:((X.length:Int) == 66000) = true:=by have:=HXL.out;simp;omega
   have hd2:decide ((B.length:Int) <= 66010) = true:=by have:=HNB.out;simp;omega
   clear hsx hrx hx6 hb6 HE5 HFL HR5 HB5 HOW hdk
   go_wp2_with fail
   refine HT.out.mono ?_
   rintro e w9 ⟨rfl,hb10⟩
   have HB10:=Zh (HB6.out.trans (hb10.mono HB6.out.size))
   clear hb10 HB6 HT
   go_wp2
   go_ret
   exact ⟨rfl,HB10.out⟩
end Go.Proofs.YtendielanacflaaGreat
