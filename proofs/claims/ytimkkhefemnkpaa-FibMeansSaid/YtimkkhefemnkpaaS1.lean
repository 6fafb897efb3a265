/- The order of pairs; slices.SortFunc over it. -/
import Derived.Test.YtimkkhefemnkpaaK2
import Derived.Test.YtimkkhefemnkpaaShL
namespace Go.Vm
open Go Go.Proofs Go.Sort Go.Shelf

/-- All of a world. -/
def Fr.of (w : World) : Fr := ⟨fun b => w.heap[b]?, w.os, w.output, w.tape, w.drawn⟩
theorem Has.of (w : World) : Has (Fr.of w) w := ⟨fun _ _ h => h, rfl, rfl, rfl, Nat.le_refl _⟩

/-- What leaves all as it was: blocks behind, draws. -/
theorem Has.grown {w w' : World} (h : Has (Fr.of w) w') : ∃ q os, w' = grow (w.drewN q) os := by
  refine ⟨w'.drawn - w.drawn, w'.heap.extract w.heap.size w'.heap.size, ?_⟩
  have h1 : w'.os = w.os := h.os
  have h2 : w'.output = w.output := h.out
  have h3 : w'.tape = w.tape := h.tape
  have h4 : w.drawn ≤ w'.drawn := h.dr
  have hsz : w.heap.size ≤ w'.heap.size := by
    rcases Nat.eq_zero_or_pos w.heap.size with e | e
    · omega
    · have hlt : w.heap.size - 1 < w.heap.size := by omega
      have := h.cells (w.heap.size - 1) w.heap[w.heap.size - 1] (by show w.heap[_]? = _; simp [hlt])
      have := lt_of_heap this
      omega
  have hh : w'.heap = w.heap ++ w'.heap.extract w.heap.size w'.heap.size := by
    apply Array.ext_getElem?
    intro i
    by_cases hi : i < w.heap.size
    · rw [Array.getElem?_append_left hi]
      have := h.cells i w.heap[i] (by show w.heap[i]? = _; simp [hi])
      rw [this]
      simp [hi]
    · rw [Array.getElem?_append_right (by omega)]
      simp only [Array.getElem?_extract]
      by_cases hi' : i < w'.heap.size
      · rw [if_pos (by omega)]
        congr 1; omega
      · rw [if_neg (by omega)]
        exact Array.getElem?_eq_none (by omega)
  have e5 : w.drawn + (w'.drawn - w.drawn) = w'.drawn := by omega
  cases w'
  cases w
  simp only [grow, World.drewN] at *
  subst h1; subst h2; subst h3
  simp only [World.mk.injEq, true_and, and_true]
  exact ⟨hh, e5.symm⟩

theorem SpecQ.lays {P : Program} {f : FuncId} {args : List V} {r : V} (h : SpecQ P f args r) (hv : ∀ A, ∀ v ∈ args, VOk A v) (w : World) : Calls P f (args.map V.real).toArray w fun e w' => e = .returned r.real ∧ ∃ q os, w' = grow (w.drewN q) os := by
  refine (h (Fr.of w) (Fr.of w) w (Fr.le_refl _) ⟨Has.of w, fun t c hg => by simp [get] at hg, fun t u c c' _ hg => by simp [get] at hg⟩ (hv _)).mono ?_
  rintro e w' ⟨r', H', ⟨rfl, rfl⟩, rfl, _, ok⟩
  exact ⟨rfl, ok.has.grown⟩

def cmpR (p q : Pr) : Int := cmpPr p.d.a p.d.n p.s.a p.s.n q.d.a q.d.n q.s.a q.s.n

end Go.Vm
