/- Regions, and what one operation does: the judgements; loads and stores of whole variables. -/
import Derived.Test.YtimkkhefemnkpaaVm2
namespace Go.Vm

/-! ### worlds -/

def setBlk (w : World) (b : Nat) (o : Obj) : World := { w with heap := w.heap.setIfInBounds b o }

theorem setBlk_same {w : World} {b : Nat} {o o' : Obj} (h : w.heap[b]? = some o) : (setBlk w b o').heap[b]? = some o' := by
  have hb : b < w.heap.size := (Array.getElem?_eq_some_iff.1 h).1
  simp [setBlk, hb]

theorem setBlk_other {w : World} {b k : Nat} {o : Obj} (h : k ≠ b) : (setBlk w b o).heap[k]? = w.heap[k]? := by
  simp [setBlk, Array.getElem?_setIfInBounds_ne (Ne.symm h)]

theorem setBlk_setBlk (w : World) (b : Nat) (o o' : Obj) : setBlk (setBlk w b o) b o' = setBlk w b o' := by
  simp [setBlk]

theorem cell_of {w : World} {b : Nat} {c : Array Value} {T : TypeId} {fr : Nat × Nat} (h : w.heap[b]? = some (.cells c T fr)) (o : Nat) : w.cell? ⟨b, o, none⟩ = c[o]? := by
  simp [World.cell?, h]

theorem setCell_of {w : World} {b : Nat} {c : Array Value} {T : TypeId} {fr : Nat × Nat} (h : w.heap[b]? = some (.cells c T fr)) (o : Nat) (v : Value) :
    w.setCell ⟨b, o, none⟩ v = setBlk w b (.cells (c.setIfInBounds o v) T fr) := by
  have hb := (Array.getElem?_eq_some_iff.1 h)
  obtain ⟨hlt, he⟩ := hb
  unfold World.setCell setBlk
  congr 1
  apply Array.ext_getElem?
  intro i
  rw [Array.getElem?_modify]
  by_cases hi : b = i
  · subst hi
    rw [if_pos rfl, h, Array.getElem?_setIfInBounds_self]
    simp [hlt]
  · rw [if_neg hi, Array.getElem?_setIfInBounds_ne hi]

theorem frozen_of {w : World} {b : Nat} {c : Array Value} {T : TypeId} (h : w.heap[b]? = some (.cells c T (0, 0))) (o : Nat) : w.frozen? ⟨b, o, none⟩ = false := by
  simp [World.frozen?, h]

theorem add_none (b o i : Nat) : (Addr.mk b o none).add i = ⟨b, o + i, none⟩ := by
  unfold Addr.add
  split
  · rename_i h; subst h; rfl
  · rfl

theorem run_loadCellsFrom {P : Program} {w : World} {b o : Nat} : ∀ (n i : Nat) (acc : Array Value) (cs : List Value), cs.length = n →
    (∀ j, j < n → w.cell? ⟨b, o + (i + j), none⟩ = cs[j]?) → (loadCellsFrom ⟨b, o, none⟩ i n acc).run P w = .ok (acc ++ cs.toArray) w
  | 0, i, acc, cs, hl, _ => by
    have : cs = [] := List.length_eq_zero_iff.1 hl
    subst this
    simp [loadCellsFrom]
  | n + 1, i, acc, [], hl, _ => by simp at hl
  | n + 1, i, acc, c :: cs, hl, h => by
    have h0 := h 0 (by omega)
    simp only [Nat.add_zero, List.getElem?_cons_zero] at h0
    simp only [loadCellsFrom, Sem.run_bind, run_load, add_none, h0, Result.andThen_ok]
    rw [run_loadCellsFrom n (i + 1) (acc.push c) cs (by simpa using hl) (fun j hj => by
      have := h (j + 1) (by omega)
      rw [show o + (i + 1 + j) = o + (i + (j + 1)) by omega, this]; simp)]
    simp

theorem run_loadCells {P : Program} {w : World} {b o n : Nat} {cs : List Value} (hl : cs.length = n) (h : ∀ j, j < n → w.cell? ⟨b, o + j, none⟩ = cs[j]?) :
    (loadCells ⟨b, o, none⟩ n).run P w = .ok cs.toArray w := by
  unfold loadCells
  rw [run_loadCellsFrom n 0 #[] cs hl (fun j hj => by simpa using h j hj)]
  simp

theorem splice_nil (c : List Value) (o : Nat) : splice c o [] = c := by simp [splice]

theorem splice_step {c : List Value} {o : Nat} {v : Value} {vs : List Value} (h : o < c.length) : splice (c.set o v) (o + 1) vs = splice c o (v :: vs) := by
  simp only [splice, List.length_cons]
  have e1 : (c.set o v).take (o + 1) = c.take o ++ [v] := by
    apply List.ext_getElem?
    intro i
    rcases Nat.lt_trichotomy i o with h1 | h1 | h1
    · rw [List.getElem?_take_of_lt (by omega), List.getElem?_set_ne (by omega), List.getElem?_append_left (by simp; omega), List.getElem?_take_of_lt h1]
    · subst h1
      rw [List.getElem?_take_of_lt (by omega), List.getElem?_set_self h, List.getElem?_append_right (by simp; omega)]
      simp [Nat.min_eq_left (Nat.le_of_lt h)]
    · rw [List.getElem?_eq_none (by simp; omega), List.getElem?_eq_none (by simp; omega)]
  have e2 : (c.set o v).drop (o + 1 + vs.length) = c.drop (o + (vs.length + 1)) := by
    apply List.ext_getElem?
    intro i
    rw [List.getElem?_drop, List.getElem?_drop, List.getElem?_set_ne (by omega)]
    congr 1; omega
  rw [e1, e2]
  simp

theorem setBlk_id {w : World} {b : Nat} {o : Obj} (h : w.heap[b]? = some o) : setBlk w b o = w := by
  obtain ⟨hlt, he⟩ := Array.getElem?_eq_some_iff.1 h
  unfold setBlk
  have : w.heap.setIfInBounds b o = w.heap := by
    apply Array.ext_getElem?
    intro k
    by_cases hk : b = k
    · subst hk; simp [hlt, he]
    · rw [Array.getElem?_setIfInBounds_ne hk]
  rw [this]

theorem run_storeCells {P : Program} {b : Nat} {T : TypeId} {o : Nat} : ∀ (vs : List Value) (i : Nat) (w : World) (c : List Value), (∀ v ∈ vs, v.oneCell' = true) →
    w.heap[b]? = some (.cells c.toArray T (0, 0)) → o + i + vs.length ≤ c.length →
    (storeCells ⟨b, o, none⟩ vs i).run P w = .ok () (setBlk w b (.cells (splice c (o + i) vs).toArray T (0, 0)))
  | [], i, w, c, _, h, _ => by
    rw [splice_nil, setBlk_id h]; rfl
  | v :: vs, i, w, c, h1, h, hl => by
    simp only [List.length_cons] at hl
    have hlt : o + i < c.length := by omega
    have hc : w.cell? ⟨b, o + i, none⟩ = some c[o + i] := by
      rw [cell_of h]; simp [hlt]
    simp only [storeCells, Sem.run_bind, add_none]
    rw [run_store P w _ v .plain (h1 v (by simp)), hc]
    simp only [frozen_of h, Bool.false_eq_true, if_false, Result.andThen_ok]
    rw [setCell_of h]
    have hw := setBlk_same (o' := .cells (c.toArray.setIfInBounds (o + i) v) T (0, 0)) h
    have e1 : c.toArray.setIfInBounds (o + i) v = (c.set (o + i) v).toArray := by simp
    rw [e1] at hw ⊢
    rw [run_storeCells vs (i + 1) _ _ (fun x hx => h1 x (by simp [hx])) hw (by simp; omega), setBlk_setBlk]
    rw [show o + (i + 1) = o + i + 1 by omega, splice_step hlt]

/-! ### types -/

/-- How the program's table lays a type out: is it a struct or an array; how many cells. -/
class Ty (P : Program) (T : TypeId) (g : outParam Bool) (n : outParam Nat) : Prop where
  agg : ∀ w, (isAgg T).run P w = .ok g w
  size : ∀ w, (sizeOf T).run P w = .ok n w

theorem run_loadVar {P : Program} {T : TypeId} {g : Bool} {n : Nat} [h : Ty P T g n] {w : World} {b o : Nat} {u : V} (hs : u.size = n) (hg : u.isAgg = g) (hm : u.mem = true)
    (hc : ∀ j, j < n → w.cell? ⟨b, o + j, none⟩ = u.cells[j]?) : (loadVar T ⟨b, o, none⟩).run P w = .ok u.real w := by
  have hl := V.cells_length u
  unfold loadVar
  simp only [Sem.run_bind, h.agg, Result.andThen_ok]
  cases g with
  | true =>
    simp only [if_true, Sem.run_bind, h.size, Result.andThen_ok]
    rw [run_loadCells (by omega) hc, V.real_agg hg]
    rfl
  | false =>
    have e := V.cells_one hg hm
    have hn : n = 1 := by rw [e] at hl; simp at hl; omega
    subst hn
    have h0 := hc 0 (by omega)
    rw [e] at h0
    simp only [Nat.add_zero, List.getElem?_cons_zero] at h0
    simp only [Bool.false_eq_true, if_false, run_load, h0]

theorem run_storeVar {P : Program} {T : TypeId} {g : Bool} {n : Nat} [h : Ty P T g n] {w : World} {b o : Nat} {u : V} {c : List Value} {T' : TypeId} (hs : u.size = n) (hm : u.mem = true)
    (hb : w.heap[b]? = some (.cells c.toArray T' (0, 0))) (hl : o + n ≤ c.length) :
    (storeVar T ⟨b, o, none⟩ u.real).run P w = .ok () (setBlk w b (.cells (splice c o u.cells).toArray T' (0, 0))) := by
  have hlu := V.cells_length u
  have hrc := V.real_cells hm
  unfold storeVar
  have hsz : u.real.cells.size = n := by rw [← Array.length_toList, hrc]; omega
  simp only [Sem.run_bind, h.size, Result.andThen_ok, hsz, ne_eq, not_true_eq_false, if_false, hrc]
  have := run_storeCells (P := P) (b := b) (T := T') (o := o) u.cells 0 w c (V.oneCell_cells hm) hb (by omega)
  simpa using this

end Go.Vm
