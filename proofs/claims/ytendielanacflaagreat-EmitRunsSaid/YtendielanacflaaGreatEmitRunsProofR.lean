/- EmitRuns: the statement: the walk, and the row around it. After the kit's shell of a proof. -/
import Derived.Test.YtendielanacflaaGreatB01
import Derived.Test.YtendielanacflaaGreatB02
import Derived.Test.YtendielanacflaaGreatB03
import Derived.Test.YtendielanacflaaGreatB04
import Derived.Test.YtendielanacflaaGreatB05
import Derived.Test.YtendielanacflaaGreatB06
import Derived.Test.YtendielanacflaaGreatB07
import Derived.Test.YtendielanacflaaGreatB08
import Derived.Test.YtendielanacflaaGreatB09
import Derived.Test.YtendielanacflaaGreatB10
import Derived.Test.YtendielanacflaaGreatB11
import Derived.Test.YtendielanacflaaGreatB12
import Derived.Test.YtendielanacflaaGreatB13
import Derived.Test.YtendielanacflaaGreatB14
import Derived.Test.YtendielanacflaaGreatB15
import Derived.Test.YtendielanacflaaGreatB16
import Derived.Test.YtendielanacflaaGreatB17
import Derived.Test.YtendielanacflaaGreatB18
import Derived.Test.YtendielanacflaaGreatB19
import Derived.Test.YtendielanacflaaGreatR01
import Derived.Test.YtendielanacflaaGreatRows
import Derived.WalkKit
import Derived.ProofKit
import Derived.OpenShut
import Derived.ShutString
import Derived.ChangeOld
import Derived.Below
set_option linter.unusedVariables false
set_option linter.unusedSimpArgs false
namespace Go.Proofs.YtendielanacflaaGreat.emitRuns
open Go.ChangeShapes Go.WideShapes Go.ChangeAt Go.RowKit
open Go.ChangeMaps (open_string shut_string)
theorem own:ownKnob Tryz.prog.godebug = none:=by kernel_rfl
theorem laidOut:laidOutB Tryz.prog = true:=by kernel_rfl
def IsRow (k:IntKind) (w:World) (a:Option Addr) (len cap:Nat) (zs:List Int):Prop :=
 (a = none /\ len = 0 /\ cap = 0 /\ zs = []) ∨
 ∃ x,a = some x /\ len <= cap /\ cap <= maxLen /\ zs.length = cap /\ (∀ i,i < zs.length -> w.cell? (x.add i) = some (.int k (zs.getD i 0))) /\ ∀ n ∈ zs,(Lit.int k n).wf = true
theorem walk (a0:Int) (a1:Int) (w:World) (w0:(Lit.int .u8 a0).wf = true) (w1:(Lit.int .u32 a1).wf = true) :
  Calls Tryz.prog 6 #[.int .u8 a0,.int .u32 a1] w fun e w'=>e = .returned (.bool true) /\ Below w.heap.size w w':=by
 obtain ⟨c,rfl⟩:=Int.eq_ofNat_of_zero_le (Zaft w0).1
 obtain ⟨n,rfl⟩:=Int.eq_ofNat_of_zero_le (bd_u32 w1).1
 have hb:=(Zaft w0).2
 have hb2:=(bd_u32 w1).2
 exact (law_runs18 c n (by omega) (by omega) w).mono fun _ _ h=>h
set_option maxRecDepth 100000 in
theorem lifted (os:Os) (started:os.Started) (H:Type) (enc:TypeId × Value -> H) :
  ReturnsInHanded {} Tryz.checked os 6 .any (Rows.emitRunsSpec.pre6 enc Tryz.prog Tryz.f6 Rows.emitRunsRow.domain false) (Rows.emitRunsSpec.post enc Tryz.prog Tryz.f6 false true false false):=by
 refine returnsInHanded_of_change (C:=Tryz.checked) own started (by kernel_rfl) Tryz.func6
  (ChangeSpec.witness6 (enc:=enc) (C:=Tryz.checked) false ⟨#[],#[.int .u8 0,.int .u32 0],[]⟩ 8 (by kernel_rfl) (by kernel_rfl) (by kernel_rfl) (by kernel_rfl)) ?_
 intro W base args ds gs before hval0 hW hcnd _
 have hval:∀ (j:Nat) t v,Tryz.f6.params[j]? = some t -> args[j]? = some v -> Value.okWide Tryz.prog W .any base t v:=hval0
 have hW':=hW
 obtain ⟨p,q,hA0,hV,rfl,hfz,hnd⟩:=hW
 have hA:DataW.TrodAll enc Tryz.prog W 0 (fun _=>true) true Tryz.f6.params.toList args.toList ds p:=hA0
 rw [Tryz.params6] at hA hval
 obtain ⟨v0,vs0,d0,ds0,p0,q0,hargs,rfl,rfl,h0,r0⟩:=trodAll_cons hA
 obtain ⟨v1,vs1,d1,ds1,p1,q1,rfl,rfl,rfl,h1,r1⟩:=trodAll_cons r0
 obtain ⟨rfl,rfl,rfl⟩:=trodAll_nil r1
 obtain rfl:args = #[v0,v1]:=by cases args;simp_all
 obtain ⟨rfl,rfl⟩:=trodVars_none hV
 obtain ⟨a0,rfl,rfl,rfl,w0⟩:=open_int Tryz.underlying5 (hval 0 5 v0 rfl rfl) h0
 obtain ⟨a1,rfl,rfl,rfl,w1⟩:=open_int Tryz.underlying44 (hval 1 44 v1 rfl rfl) h1
 clear hA0 hval0
 refine (walk a0 a1 W w0 w1).mono fun e W' ⟨he,bel⟩=>?_
 subst he
 exact ⟨_,rfl,_,_,_,[],_,[],hW',trodAll_mk1 (shut_bool Tryz.underlying4 _),(trodAll_cons_mk (shut_int Tryz.underlying5 w0) (trodAll_cons_mk (shut_int Tryz.underlying44 w1) trodAll_mk0)),rfl,bel.frame _,fun h=>by cases h⟩
theorem over:Rows.emitRunsRow.holds Tryz.pinned (OpenSpec.ofChange Rows.emitRunsSpec) :=
 OpenClaim.holds_of_wide 6 Tryz.f6 rfl rfl rfl rfl rfl rfl rfl ⟨rfl,rfl,rfl,rfl,rfl⟩ rfl rfl rfl rfl rfl (by kernel_rfl) Tryz.func6 (by kernel_rfl)
  (of_decide_eq_true (by kernel_rfl)) (by unfold Func.isWrapper;first | (rw [if_pos (by decide +kernel)];kernel_rfl) | (rw [if_neg (by decide +kernel)];exact ⟨rfl,rfl⟩))
  (fun os started H enc _=>lifted os started H enc)
theorem proved:Rows.EmitRunsSaid:=over
#print axioms proved
end Go.Proofs.YtendielanacflaaGreat.emitRuns
