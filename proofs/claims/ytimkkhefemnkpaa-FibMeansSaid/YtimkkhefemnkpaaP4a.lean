/- What both Fibs' laws lean on. -/
import Derived.Test.YtimkkhefemnkpaaP3
namespace Go.Vm
open Go Go.Proofs

theorem VOk_op {A : Fr} {o : Opn} : VOk A (opE o) := by simp [VOk]

theorem tlook_fnd {p : Pr} {l : List En} {k : Nat} (h : fnd p l = k) : tlook p l = some (lat l k) := by
  unfold fnd at h
  unfold tlook
  cases hf : l.findIdx? (fun e => decide (e.p = p)) with
  | none => rw [hf] at h; simp at h
  | some j =>
    rw [hf] at h
    have hj : j = k := by have h9 : (j : Int) = k := h; omega
    subst hj
    rw [List.findIdx?_eq_some_iff_getElem] at hf
    obtain ⟨h1, h2, h3⟩ := hf
    rw [List.find?_eq_some_iff_getElem]
    refine ⟨by simpa [lat, List.getD, List.getElem?_eq_getElem h1] using h2, j, h1, by simp [lat, List.getD, List.getElem?_eq_getElem h1], fun i hi => by simpa using h3 i hi⟩
theorem alook_at {p : Pr} {F : List (Pr × Int)} {k : Nat} (h : k < F.length) (hz : ∀ j, j < k → (lat F j).1 ≠ p) (hx : (lat F k).1 = p) : alook p F = some (lat F k).2 := by
  unfold alook
  have : F.find? (fun x => decide (x.1 = p)) = some (lat F k) := by
    rw [List.find?_eq_some_iff_getElem]
    refine ⟨by simpa using hx, k, h, by simp [lat, List.getD, List.getElem?_eq_getElem h], fun i hi => ?_⟩
    have := hz i hi
    simpa [lat, List.getD, List.getElem?_eq_getElem (show i < F.length by omega)] using this
  rw [this]; rfl
theorem alook_no {p : Pr} {F : List (Pr × Int)} (hz : ∀ j, j < F.length → (lat F j).1 ≠ p) : alook p F = none := by
  unfold alook
  have : F.find? (fun x => decide (x.1 = p)) = none := by
    rw [List.find?_eq_none]
    intro x hx
    obtain ⟨j, hj, rfl⟩ := List.mem_iff_getElem.1 hx
    have := hz j hj
    simpa [lat, List.getD, List.getElem?_eq_getElem hj] using this
  rw [this]; rfl
theorem adel_yes {p : Pr} {F : List (Pr × Int)} {k : Nat} (h : k < F.length) (hx : ¬ (lat F k).1 = p) : adel p (F.take (k + 1)) = adel p (F.take k) ++ [lat F k] := by
  unfold adel; rw [take_succ_lat h, List.filter_append, List.filter_cons_of_pos (by simpa using hx)]; rfl
theorem adel_no {p : Pr} {F : List (Pr × Int)} {k : Nat} (h : k < F.length) (hx : (lat F k).1 = p) : adel p (F.take (k + 1)) = adel p (F.take k) := by
  unfold adel; rw [take_succ_lat h, List.filter_append, List.filter_cons_of_neg (by simpa using hx)]; simp
theorem adel_len {p : Pr} {F : List (Pr × Int)} : (adel p F).length ≤ F.length := List.length_filter_le _ _

end Go.Vm
