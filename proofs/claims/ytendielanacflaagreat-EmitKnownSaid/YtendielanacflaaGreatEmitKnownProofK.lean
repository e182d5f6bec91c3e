/- EmitKnown: the statement: the walk, and the row around it. After the kit's shell of a proof. -/
import Derived.Test.YtendielanacflaaGreatB01
import Derived.Test.YtendielanacflaaGreatB02
import Derived.Test.YtendielanacflaaGreatB03
import Derived.Test.YtendielanacflaaGreatB04
import Derived.Test.YtendielanacflaaGreatB05
import Derived.Test.YtendielanacflaaGreatB06
import Derived.Test.YtendielanacflaaGreatB07
import Derived.Test.YtendielanacflaaGreatB08
import Derived.Test.YtendielanacflaaGreatB09
import Derived.Test.YtendielanacflaaGreatB10
import Derived.Test.YtendielanacflaaGreatB11
import Derived.Test.YtendielanacflaaGreatB12
import Derived.Test.YtendielanacflaaGreatB13
import Derived.Test.YtendielanacflaaGreatB14
import Derived.Test.YtendielanacflaaGreatB15
import Derived.Test.YtendielanacflaaGreatB16
import Derived.Test.YtendielanacflaaGreatB17
import Derived.Test.YtendielanacflaaGreatB18
import Derived.Test.YtendielanacflaaGreatB19
import Derived.Test.YtendielanacflaaGreatK01
import Derived.Test.YtendielanacflaaGreatRows
import Derived.WalkKit
import Derived.ProofKit
import Derived.OpenShut
import Derived.ShutString
set_option linter.unusedVariables false
set_option linter.unusedSimpArgs false
namespace Go.Proofs.YtendielanacflaaGreat.emitKnown
open Go.ChangeShapes Go.WideShapes Go.ChangeAt Go.RowKit
open Go.ChangeMaps (open_string shut_string)
set_option linter.unusedVariables false      -- a walk need not use every 'w<i>' (that an integer argument fits its kind)
theorem own:ownKnob Tryz.prog.godebug = none:=by kernel_rfl
theorem walk  (w:World) :
  Calls Tryz.prog 7 #[] w fun e w'=>e = .returned (.bool true) /\ Below w.heap.size w w':=by
 exact (law_known18 w).mono fun _ _ h=>h
 -- go_enter Tryz.func7,Tryz.ntmps7
 -- go_wp2
 -- go_ret
 -- exact ⟨rfl,by repeat (first | exact Grown.refl _ | apply Grown.drew | apply Grown.alloc)⟩
set_option maxRecDepth 100000 in
theorem lifted (os:Os) (started:os.Started) (H:Type) (enc:TypeId × Value -> H) :
  ReturnsInHanded {} Tryz.checked os 7 .any (Rows.emitKnownSpec.pre6 enc Tryz.prog Tryz.f7 Rows.emitKnownRow.domain false) (Rows.emitKnownSpec.post enc Tryz.prog Tryz.f7 false true false false):=by
 refine returnsInHanded_of_change (C:=Tryz.checked) own started (by kernel_rfl) Tryz.func7
  (ChangeSpec.witness6 (enc:=enc) (C:=Tryz.checked) false ⟨#[],#[],[]⟩ 8 (by kernel_rfl) (by kernel_rfl) (by kernel_rfl) (by kernel_rfl)) ?_
 intro W base args ds gs before hval0 hW hcnd _
 have hval:∀ (j:Nat) t v,Tryz.f7.params[j]? = some t -> args[j]? = some v -> Value.okWide Tryz.prog W .any base t v:=hval0
 have hW':=hW
 obtain ⟨p,q,hA0,hV,rfl,hfz,hnd⟩:=hW
 have hA:DataW.TrodAll enc Tryz.prog W 0 (fun _=>true) true Tryz.f7.params.toList args.toList ds p:=hA0
 rw [Tryz.params7] at hA hval
 obtain ⟨rfl,rfl,rfl⟩:=trodAll_none hA
 obtain ⟨rfl,rfl⟩:=trodVars_none hV
 clear hA0 hval0
 simp only [List.append_nil] at hW'
 refine (walk  W).mono fun e W' ⟨he,hg⟩=>?_
 subst he
 exact ⟨_,rfl,_,_,_,[],_,[],hW',trodAll_mk1 (shut_bool Tryz.underlying4 _),trodAll_mk0,rfl,hg.frame _,fun h=>by cases h⟩
theorem over:Rows.emitKnownRow.holds Tryz.pinned (OpenSpec.ofChange Rows.emitKnownSpec) :=
 OpenClaim.holds_of_wide 7 Tryz.f7 rfl rfl rfl rfl rfl rfl rfl ⟨rfl,rfl,rfl,rfl,rfl⟩ rfl rfl rfl rfl rfl (by kernel_rfl) Tryz.func7 (by kernel_rfl)
  (of_decide_eq_true (by kernel_rfl)) (by unfold Func.isWrapper;first | (rw [if_pos (by decide +kernel)];kernel_rfl) | (rw [if_neg (by decide +kernel)];exact ⟨rfl,rfl⟩))
  (fun os started H enc _=>lifted os started H enc)
theorem proved:Rows.EmitKnownSaid :=
 over
#print axioms proved
end Go.Proofs.YtendielanacflaaGreat.emitKnown
