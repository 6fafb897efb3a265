/- FibEnds: for every input the law answers true and leaves its arguments as they were. -/
import Derived.Test.YtimkkhefemnkpaaAdqD
import Derived.Test.YtimkkhefemnkpaaP12
import Derived.Test.YtimkkhefemnkpaaRows
import Derived.JoinedOf
import Derived.JoinedAt
namespace Go.Proofs.Ytimkkhefemnkpaa.fibEnds
open Go Go.Vm Go.ChangeShapes Go.WideShapes Go.ChangeAt Go.RowKit
set_option linter.unusedVariables false

theorem own : ownKnob Try.prog.godebug = none := by kernel_rfl

set_option maxRecDepth 100000 in
theorem contract (H : Type) (enc : TypeId × Value → H) (W : World) (base : Nat) (args : Array Value) (ds gs : List (DataW H)) (before : List MemPlace)
    (hval : ∀ (j : Nat) t v, Try.f7.params[j]? = some t → args[j]? = some v → Value.okWide Try.prog W .any base t v)
    (hW : DataW.Whole enc Try.prog Try.f7.params.toList Rows.fibEndsSpec.vars false W args.toList ds gs before) :
    Calls Try.prog 7 args W fun e W' => ∃ v, e = .returned v ∧ Rows.fibEndsSpec.post enc Try.prog Try.f7 false true false false W args v W' := by
  have hW' := hW
  obtain ⟨p, q, hA0, hV, rfl, hfz, hnd⟩ := hW
  have hA : DataW.TrodAll enc Try.prog W 0 (fun _ => true) true Try.f7.params.toList args.toList ds p := hA0
  rw [Try.params7] at hA hval
  obtain ⟨v0, v1, d0, d1, p0, p1, rfl, rfl, rfl, h0, h1⟩ := trodAll_two hA
  obtain ⟨⟨a, cap, l⟩, ho0, rfl, k0⟩ := arg_slice (E := 64) rd55 (by kernel_rfl) (fun _ => rfl) (hval 0 55 v0 rfl rfl) h0
  obtain ⟨⟨a2, cap2, last⟩, ho1, rfl, k1⟩ := arg_slice (E := 37) rd27 (by kernel_rfl) (fun _ => rfl) (hval 1 27 v1 rfl rfl) h1
  refine (law_calls (fibEnds_spec (a := a) (cap := cap) (l := l) (a2 := a2) (cap2 := cap2) (last := last) ho0.2 (fun e he => (ho1.2 e he).1)) (fun v hv => by
    rcases List.mem_cons.1 hv with rfl | hv
    · exact k0
    rw [List.mem_singleton] at hv
    subst hv
    exact k1)).mono ?_
  rintro e W' ⟨rfl, hh⟩
  exact ⟨_, rfl, post_true (tb := 4) kids hsz (by rw [Try.params7]; decide +kernel) rfl (by kernel_rfl) (by kernel_rfl) rfl hW' hh⟩

set_option maxRecDepth 100000 in
theorem lifted (os : Os) (started : os.Started) (H : Type) (enc : TypeId × Value → H) :
    ReturnsInHanded {} Try.checked os 7 .any (Rows.fibEndsSpec.pre6 enc Try.prog Try.f7 Rows.fibEndsRow.domain false) (Rows.fibEndsSpec.post enc Try.prog Try.f7 false true false false) := by
  refine returnsInHanded_of_change (C := Try.checked) own started (by kernel_rfl) Try.func7
    (ChangeSpec.witness6 (enc := enc) (C := Try.checked) false ⟨#[], #[.slice none 0 0, .slice none 0 0], []⟩ 12 (by kernel_rfl) (by kernel_rfl) (by kernel_rfl) (by kernel_rfl)) ?_
  intro W base args ds gs before hval hW _ _
  exact contract H enc W base args ds gs before hval hW

theorem holds : Rows.FibEndsSaid :=
  OpenClaim.holds_of_wide 7 Try.f7 rfl rfl rfl rfl rfl rfl rfl ⟨rfl, rfl, rfl, rfl, rfl⟩ rfl rfl rfl rfl rfl (by kernel_rfl) Try.func7 (by kernel_rfl)
    (of_decide_eq_true (by kernel_rfl)) (by unfold Func.isWrapper; first | (rw [if_pos (by decide +kernel)]; kernel_rfl) | (rw [if_neg (by decide +kernel)]; exact ⟨rfl, rfl⟩))
    (fun os started H enc _ => lifted os started H enc)

end Go.Proofs.Ytimkkhefemnkpaa.fibEnds
