/- FibMeans: for every input the law answers true and leaves its arguments as they were. -/
import Derived.Test.YtimkkhefemnkpaaAdqC
import Derived.Test.YtimkkhefemnkpaaP18
import Derived.Test.YtimkkhefemnkpaaRows
import Derived.JoinedOf
import Derived.JoinedAt
namespace Go.Proofs.Ytimkkhefemnkpaa.fibMeans
open Go Go.Vm Go.ChangeShapes Go.WideShapes Go.ChangeAt Go.RowKit
set_option linter.unusedVariables false

theorem own : ownKnob Try.prog.godebug = none := by kernel_rfl

set_option maxRecDepth 100000 in
theorem contract (H : Type) (enc : TypeId × Value → H) (W : World) (base : Nat) (args : Array Value) (ds gs : List (DataW H)) (before : List MemPlace)
    (hval : ∀ (j : Nat) t v, Try.f11.params[j]? = some t → args[j]? = some v → Value.okWide Try.prog W .any base t v)
    (hW : DataW.Whole enc Try.prog Try.f11.params.toList Rows.fibMeansSpec.vars false W args.toList ds gs before) :
    Calls Try.prog 11 args W fun e W' => ∃ v, e = .returned v ∧ Rows.fibMeansSpec.post enc Try.prog Try.f11 false true false false W args v W' := by
  have hW' := hW
  obtain ⟨p, q, hA0, hV, rfl, hfz, hnd⟩ := hW
  have hA : DataW.TrodAll enc Try.prog W 0 (fun _ => true) true Try.f11.params.toList args.toList ds p := hA0
  rw [Try.params11] at hA hval
  obtain ⟨v0, v1, v2, d0, d1, d2, p0, p1, p2, rfl, rfl, rfl, h0, h1, h2⟩ := trodAll_three hA
  obtain ⟨⟨a, cap, l⟩, ho0, rfl, k0⟩ := arg_slice (E := 37) rd27 (by kernel_rfl) (fun _ => rfl) (hval 0 27 v0 rfl rfl) h0
  obtain ⟨src, ho1, rfl, k1⟩ := arg_agg rd31 (by kernel_rfl) (fun _ => rfl) (hval 1 31 v1 rfl rfl) h1
  obtain ⟨dst, ho2, rfl, k2⟩ := arg_agg rd31 (by kernel_rfl) (fun _ => rfl) (hval 2 31 v2 rfl rfl) h2
  refine (law_calls (fibMeans_spec (a := a) (cap := cap) (l := l) (src := src) (dst := dst) (fun e he => (ho0.2 e he).1) ho1 ho2) (fun v hv => by
    rcases List.mem_cons.1 hv with rfl | hv
    · exact k0
    rcases List.mem_cons.1 hv with rfl | hv
    · exact k1
    rw [List.mem_singleton] at hv
    subst hv
    exact k2)).mono ?_
  rintro e W' ⟨rfl, hh⟩
  exact ⟨_, rfl, post_true (tb := 4) kids hsz (by rw [Try.params11]; decide +kernel) rfl (by kernel_rfl) (by kernel_rfl) rfl hW' hh⟩

set_option maxRecDepth 100000 in
theorem lifted (os : Os) (started : os.Started) (H : Type) (enc : TypeId × Value → H) :
    ReturnsInHanded {} Try.checked os 11 .any (Rows.fibMeansSpec.pre6 enc Try.prog Try.f11 Rows.fibMeansRow.domain false) (Rows.fibMeansSpec.post enc Try.prog Try.f11 false true false false) := by
  refine returnsInHanded_of_change (C := Try.checked) own started (by kernel_rfl) Try.func11
    (ChangeSpec.witness6 (enc := enc) (C := Try.checked) false ⟨#[], #[.slice none 0 0, (adV ad0).real, (adV ad0).real], []⟩ 12 (by kernel_rfl) (by kernel_rfl) (by kernel_rfl) (by kernel_rfl)) ?_
  intro W base args ds gs before hval hW _ _
  exact contract H enc W base args ds gs before hval hW

theorem holds : Rows.FibMeansSaid :=
  OpenClaim.holds_of_wide 11 Try.f11 rfl rfl rfl rfl rfl rfl rfl ⟨rfl, rfl, rfl, rfl, rfl⟩ rfl rfl rfl rfl rfl (by kernel_rfl) Try.func11 (by kernel_rfl)
    (of_decide_eq_true (by kernel_rfl)) (by unfold Func.isWrapper; first | (rw [if_pos (by decide +kernel)]; kernel_rfl) | (rw [if_neg (by decide +kernel)]; exact ⟨rfl, rfl⟩))
    (fun os started H enc _ => lifted os started H enc)

end Go.Proofs.Ytimkkhefemnkpaa.fibMeans
