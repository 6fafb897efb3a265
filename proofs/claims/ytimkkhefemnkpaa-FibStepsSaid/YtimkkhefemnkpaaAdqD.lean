/- Readings of the acts of layer 19. -/
import Derived.Test.YtimkkhefemnkpaaAdqC
import Derived.Test.YtimkkhefemnkpaaP7
namespace Go.Vm
open Go Go.Proofs Go.ChangeShapes Go.WideShapes Go.ChangeAt Go.RowKit
section
variable {H : Type} {enc : TypeId × Value → H} {W : World}
theorem rd4 : Rdb enc Try.prog W 4 (fun b => .bool b) (fun _ => True) := Rdb.bool (by kernel_rfl)
theorem rd64 : Rdb enc Try.prog W 64 acE (fun x : AAct => ∀ e ∈ x.l, e.ok) :=
  Rdb.map (Rdb.struct (n := 4) (fs := [(Try.prog.fieldsOf 64).getD 0 default, (Try.prog.fieldsOf 64).getD 1 default, (Try.prog.fieldsOf 64).getD 2 default, (Try.prog.fieldsOf 64).getD 3 default]) (by kernel_rfl) (by kernel_rfl)
    (Rdf.cons (n := 1) (m := 3) (by kernel_rfl) (by kernel_rfl) (by kernel_rfl) rd3 (Rdf.cons (n := 1) (m := 2) (by kernel_rfl) (by kernel_rfl) (by kernel_rfl) rd3 (Rdf.cons (n := 1) (m := 1) (by kernel_rfl) (by kernel_rfl) (by kernel_rfl) rd27
      (Rdf.one (by kernel_rfl) (by kernel_rfl) (by kernel_rfl) rd4)))))
    (fun x => ⟨x.1, x.2.1, x.2.2.1.1, x.2.2.1.2.1, x.2.2.1.2.2, x.2.2.2⟩) (fun _ => rfl) (fun _ h e he => (h.2.2.1.2 e he).1)
theorem rd55 : Rdb enc Try.prog W 55 (fun x : Option Addr × Nat × List AAct => lros x.1 x.2.1 acE x.2.2) (fun x => x.2.2.length ≤ maxLen ∧ ∀ a ∈ x.2.2, ∀ e ∈ a.l, e.ok) :=
  Rdb.slice (by kernel_rfl) (z := 4) (by kernel_rfl) (by decide) (fun _ => rfl) rd64
end
end Go.Vm
