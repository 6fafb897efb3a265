/- Readings of this seat's arguments. -/
import Derived.Test.YtimkkhefemnkpaaAdq1
import Derived.Test.YtimkkhefemnkpaaF3p
namespace Go.Vm
open Go Go.Proofs Go.ChangeShapes Go.WideShapes Go.ChangeAt Go.RowKit

theorem kids : Kids Try.prog (· < Try.prog.types.size) := kids_rows (by kernel_rfl) (by kernel_rfl)
theorem slice_sizes : ((List.range Try.prog.types.size).all fun t => match Try.prog.underlying t with | some (.slice e) => Nat.blt 0 (Try.prog.cellsOf e) | _ => true) = true := by kernel_rfl
theorem hsz {t e : TypeId} (h : t < Try.prog.types.size) (hu : Try.prog.underlying t = some (.slice e)) : 0 < Try.prog.cellsOf e := by
  have := List.all_eq_true.1 slice_sizes t (List.mem_range.2 h)
  rw [hu] at this
  exact Nat.le_of_ble_eq_true this

section
variable {H : Type} {enc : TypeId × Value → H} {W : World}

theorem rd3 : Rdb enc Try.prog W 3 (fun n => iV n) (fun n => (Lit.int .i64 n).wf = true) := Rdb.int (by kernel_rfl)
theorem rd31 : Rdb enc Try.prog W 31 (fun a => adV a) AdOk := Rdb.map (Rdb.bytes (T := 31) (E := 5) (n := 16) (by kernel_rfl) (by kernel_rfl) (by kernel_rfl) (by kernel_rfl)) id (fun _ => rfl) (fun _ h => h)
theorem rd33 : Rdb enc Try.prog W 33 pfE Pfx.ok :=
  Rdb.map (Rdb.struct (n := 17) (fs := [(Try.prog.fieldsOf 33).getD 0 default, (Try.prog.fieldsOf 33).getD 1 default]) (by kernel_rfl) (by kernel_rfl) (Rdf.cons (n := 16) (m := 1) (by kernel_rfl) (by kernel_rfl) (by kernel_rfl) rd31 (Rdf.one (by kernel_rfl) (by kernel_rfl) (by kernel_rfl) rd3)))
    (fun x => ⟨x.1, x.2⟩) (fun _ => rfl) (fun _ h => h.1)
theorem rd35 : Rdb enc Try.prog W 35 prE Pr.ok :=
  Rdb.map (Rdb.struct (n := 34) (fs := [(Try.prog.fieldsOf 35).getD 0 default, (Try.prog.fieldsOf 35).getD 1 default]) (by kernel_rfl) (by kernel_rfl) (Rdf.cons (n := 17) (m := 17) (by kernel_rfl) (by kernel_rfl) (by kernel_rfl) rd33 (Rdf.one (by kernel_rfl) (by kernel_rfl) (by kernel_rfl) rd33)))
    (fun x => ⟨x.1, x.2⟩) (fun _ => rfl) (fun _ h => h)
theorem rd37 : Rdb enc Try.prog W 37 enE (fun e : En => e.ok ∧ (Lit.int .i64 e.i).wf = true) :=
  Rdb.map (Rdb.struct (n := 51) (fs := [(Try.prog.fieldsOf 37).getD 0 default, (Try.prog.fieldsOf 37).getD 1 default, (Try.prog.fieldsOf 37).getD 2 default]) (by kernel_rfl) (by kernel_rfl) (Rdf.cons (n := 34) (m := 17) (by kernel_rfl) (by kernel_rfl) (by kernel_rfl) rd35
    (Rdf.cons (n := 1) (m := 16) (by kernel_rfl) (by kernel_rfl) (by kernel_rfl) rd3 (Rdf.one (by kernel_rfl) (by kernel_rfl) (by kernel_rfl) rd31))))
    (fun x => ⟨x.1, x.2.1, x.2.2⟩) (fun _ => rfl) (fun _ h => ⟨⟨h.1, h.2.2⟩, h.2.1⟩)
theorem rd39 : Rdb enc Try.prog W 39 opE (fun o : Opn => o.e.ok) :=
  Rdb.map (Rdb.struct (n := 52) (fs := [(Try.prog.fieldsOf 39).getD 0 default, (Try.prog.fieldsOf 39).getD 1 default]) (by kernel_rfl) (by kernel_rfl) (Rdf.cons (n := 1) (m := 51) (by kernel_rfl) (by kernel_rfl) (by kernel_rfl) rd3 (Rdf.one (by kernel_rfl) (by kernel_rfl) (by kernel_rfl) rd37)))
    (fun x => ⟨x.1, x.2⟩) (fun _ => rfl) (fun _ h => h.2.1)
theorem rd27 : Rdb enc Try.prog W 27 (fun x : Option Addr × Nat × List En => lros x.1 x.2.1 enE x.2.2) (fun x => x.2.2.length ≤ maxLen ∧ ∀ a ∈ x.2.2, a.ok ∧ (Lit.int .i64 a.i).wf = true) :=
  Rdb.slice (by kernel_rfl) (z := 51) (by kernel_rfl) (by decide) (fun _ => rfl) rd37

/-- A law's contract, called from any world. -/
theorem law_calls {f : FuncId} {vs : List V} (h : Spec Try.prog f vs [] (fun r H' => r = .bool true ∧ H' = [])) (hv : ∀ v ∈ vs, VOk (frameOf W) v) : Calls Try.prog f (vs.map V.real).toArray W fun e W' => e = .returned (.bool true) ∧ Has (frameOf W) W' := by
  refine (h (frameOf W) (frameOf W) W (Fr.le_refl _) ⟨frameOf_has W, fun t c hg => by simp [get] at hg, fun t u c c' _ hg => by simp [get] at hg⟩ hv).mono ?_
  rintro e W' ⟨r, H', ⟨rfl, rfl⟩, rfl, _, ok⟩
  exact ⟨rfl, ok.has⟩
end
end Go.Vm
