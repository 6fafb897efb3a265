/- KernelNil: for every input the law answers true and leaves its arguments as they were. -/
import Derived.Test.YtimkkhefemnkpaaAdqA
import Derived.Test.YtimkkhefemnkpaaRows
import Derived.JoinedOf
import Derived.JoinedAt
namespace Go.Proofs.Ytimkkhefemnkpaa.kernelNil
open Go Go.Vm Go.ChangeShapes Go.WideShapes Go.ChangeAt Go.RowKit
set_option linter.unusedVariables false

theorem own : ownKnob Try.prog.godebug = none := by kernel_rfl

set_option maxRecDepth 100000 in
theorem contract (H : Type) (enc : TypeId × Value → H) (W : World) (base : Nat) (args : Array Value) (ds gs : List (DataW H)) (before : List MemPlace)
    (hval : ∀ (j : Nat) t v, Try.f4.params[j]? = some t → args[j]? = some v → Value.okWide Try.prog W .any base t v)
    (hW : DataW.Whole enc Try.prog Try.f4.params.toList Rows.kernelNilSpec.vars false W args.toList ds gs before) :
    Calls Try.prog 4 args W fun e W' => ∃ v, e = .returned v ∧ Rows.kernelNilSpec.post enc Try.prog Try.f4 false true false false W args v W' := by
  have hW' := hW
  obtain ⟨p, q, hA0, hV, rfl, hfz, hnd⟩ := hW
  have hA : DataW.TrodAll enc Try.prog W 0 (fun _ => true) true Try.f4.params.toList args.toList ds p := hA0
  rw [Try.params4] at hA hval
  obtain ⟨v0, v1, d0, d1, p0, p1, rfl, rfl, rfl, h0, h1⟩ := trodAll_two hA
  obtain ⟨o, ho0, rfl, k0⟩ := arg_agg rd39 (by kernel_rfl) (fun _ => rfl) (hval 0 39 v0 rfl rfl) h0
  obtain ⟨a, ho1, rfl, k1⟩ := arg_agg rd31 (by kernel_rfl) (fun _ => rfl) (hval 1 31 v1 rfl rfl) h1
  refine (law_calls (kernelNil_spec (o := o) (src := a)) (fun v hv => by
    rcases List.mem_cons.1 hv with rfl | hv
    · exact k0
    rw [List.mem_singleton] at hv
    subst hv
    exact k1)).mono ?_
  rintro e W' ⟨rfl, hh⟩
  exact ⟨_, rfl, post_true (tb := 4) kids hsz (by rw [Try.params4]; decide +kernel) rfl (by kernel_rfl) (by kernel_rfl) rfl hW' hh⟩

set_option maxRecDepth 100000 in
theorem lifted (os : Os) (started : os.Started) (H : Type) (enc : TypeId × Value → H) :
    ReturnsInHanded {} Try.checked os 4 .any (Rows.kernelNilSpec.pre6 enc Try.prog Try.f4 Rows.kernelNilRow.domain false) (Rows.kernelNilSpec.post enc Try.prog Try.f4 false true false false) := by
  refine returnsInHanded_of_change (C := Try.checked) own started (by kernel_rfl) Try.func4
    (ChangeSpec.witness6 (enc := enc) (C := Try.checked) false ⟨#[], #[(opE default).real, (adV ad0).real], []⟩ 12 (by kernel_rfl) (by kernel_rfl) (by kernel_rfl) (by kernel_rfl)) ?_
  intro W base args ds gs before hval hW _ _
  exact contract H enc W base args ds gs before hval hW

theorem holds : Rows.KernelNilSaid :=
  OpenClaim.holds_of_wide 4 Try.f4 rfl rfl rfl rfl rfl rfl rfl ⟨rfl, rfl, rfl, rfl, rfl⟩ rfl rfl rfl rfl rfl (by kernel_rfl) Try.func4 (by kernel_rfl)
    (of_decide_eq_true (by kernel_rfl)) (by unfold Func.isWrapper; first | (rw [if_pos (by decide +kernel)]; kernel_rfl) | (rw [if_neg (by decide +kernel)]; exact ⟨rfl, rfl⟩))
    (fun os started H enc _ => lifted os started H enc)

end Go.Proofs.Ytimkkhefemnkpaa.kernelNil
