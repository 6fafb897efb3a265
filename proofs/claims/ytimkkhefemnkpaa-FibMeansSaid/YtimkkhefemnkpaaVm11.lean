/- Bytes in arrays: slices of them, strings of them, their order. -/
import Derived.Test.YtimkkhefemnkpaaVm10
namespace Go.Vm

/-- Bytes as Lean's own. -/
def bs (l : List Int) : ByteArray := ⟨(l.map fun x => UInt8.ofNat x.toNat).toArray⟩

def evB (st : St) (d : Nat) : Option Operand → Option Int
  | none => some d
  | some x => match st.ev x with
    | some (.int _ n) => some n
    | _ => none

theorem bound_run {P : Program} {w : World} {k : IntKind} {n : Int} {y : Nat} {c : BoundsCode} (h0 : 0 ≤ n) (h1 : n ≤ y) : (Instr.sliceBound (.int k n) y c).run P w = .ok n.toNat w := by
  simp [Instr.sliceBound, asIntOf, h0, h1]

theorem evB_some {X : Cx} {st : St} {a : Act} (s : SimT X st a) {d : Nat} {x : Operand} {n : Int} (h : evB st d (some x) = some n) : ∃ k, a.eval x = .int k n := by
  simp only [evB] at h
  cases hx : st.ev x with
  | none => rw [hx] at h; simp at h
  | some v =>
    rw [hx] at h
    cases v <;> simp only [Option.some.injEq, reduceCtorEq] at h
    subst h
    exact ⟨_, (s.ev hx).1⟩

theorem bounds_run {P : Program} {X : Cx} {st : St} {a : Act} {w : World} (s : SimT X st a) {b : Bool} {m len : Nat} {lo hi : Option Operand} {l h : Int} (hl : evB st 0 lo = some l) (hh : evB st len hi = some h)
    (h0 : 0 ≤ l) (h1 : l ≤ h) (h2 : h ≤ m) : (Instr.sliceBounds b len m (lo.map a.eval) (hi.map a.eval) none).run P w = .ok (l.toNat, h.toNat, m) w := by
  have e2 : ((h.toNat : Nat) : Int) = h := by omega
  cases lo with
  | none =>
    simp only [evB, Option.some.injEq] at hl
    subst hl
    cases hi with
    | none =>
      simp only [evB, Option.some.injEq] at hh
      subst hh
      simp [Instr.sliceBounds]
    | some y =>
      obtain ⟨k, e⟩ := evB_some s hh
      simp [Instr.sliceBounds, e, bound_run (by omega : 0 ≤ h) h2]
  | some x =>
    obtain ⟨k, e⟩ := evB_some s hl
    cases hi with
    | none =>
      simp only [evB, Option.some.injEq] at hh
      subst hh
      simp [Instr.sliceBounds, e, bound_run h0 h1]
    | some y =>
      obtain ⟨k', e'⟩ := evB_some s hh
      simp [Instr.sliceBounds, e, e', bound_run (by omega : 0 ≤ h) h2, bound_run h0 (by rw [e2]; exact h1 : l ≤ ((h.toNat : Nat) : Int))]

section
variable {X : Cx} {st : St} {dst : Option Tmp} {ty : TypeId} {pos : String} {af : Array Edge} {gd : Option (Nat × Bool)}

theorem und_of {P : Program} {T : TypeId} {d : TypeDesc} {w : World} (h : P.underlying T = some d) : (underlying T).run P w = .ok d w := by simp [underlying, h]

/-- A slice of an array of bytes. -/
theorem q_slice_arr {T E : TypeId} {m : Nat} [u : Arr X.P T m E 1] {x : Operand} {lo hi : Option Operand} {t b o : Nat} {l h : Int} (hx : st.ev x = some (.ptr t b o)) (hl : evB st 0 lo = some l) (hh : evB st m hi = some h)
    (h0 : 0 ≤ l) (h1 : l ≤ h) (h2 : h ≤ m) : EvQ X ⟨dst, .slice T x lo hi none, ty, pos, af, gd⟩ st (.bsl t b (if m = l.toNat then o else o + l.toNat) (m - l.toNat) (h.toNat - l.toNat)) := fun a w s _ => by
  obtain ⟨e1, _⟩ := s.ev hx
  refine ⟨?_, trivial⟩
  show ((do pure (Next.value (← Instr.sliceAt T (a.eval x) (lo.map a.eval) (hi.map a.eval) none)) : Sem Next)).run X.P w = _
  refine run_v ?_
  rw [e1]
  simp only [Instr.sliceAt, Sem.run_bind, u.und, Result.andThen_ok, V.real, Instr.sureAddr, Sem.run_pure, bounds_run s hl hh h0 h1 h2, u.size]
  split <;> rename_i hc
  · rfl
  · rw [add_none, Nat.mul_one]

theorem loadBytes_run {P : Program} {w : World} {b : Nat} {l : List Int} : ∀ (n k o : Nat), k + n = l.length → (∀ j, j < n → w.cell? ⟨b, o + j, none⟩ = some (.int .u8 (l.getD (k + j) 0))) →
    (loadCells ⟨b, o, none⟩ n).run P w = .ok ((l.drop k).map fun x => Value.int .u8 x).toArray w := by
  intro n k o hk h
  refine run_loadCells (by simp; omega) fun j hj => ?_
  rw [h j hj, List.getElem?_map, List.getElem?_drop]
  have : k + j < l.length := by omega
  simp [List.getD, this]

theorem str_loop {P : Program} {w : World} : ∀ (l : List Int) (acc : ByteArray),
    (forIn (l.map fun x => Value.int .u8 x) acc (fun c (s : ByteArray) => do
      let .int .u8 n := c | stuck "bytesToString: byte expected"
      pure (ForInStep.yield (s.push (UInt8.ofNat n.toNat))) : Value → ByteArray → Sem (ForInStep ByteArray))).run P w = .ok ⟨acc.data ++ (l.map fun x => UInt8.ofNat x.toNat).toArray⟩ w
  | [], acc => by simp
  | x :: l, acc => by
    simp only [List.map_cons, List.forIn_cons, Sem.run_bind, Sem.run_pure, Result.andThen_ok]
    rw [str_loop l]
    simp [ByteArray.push]

/-- string(b) where b is a slice of an array. -/
theorem str_run {P : Program} {w : World} {b o cap n : Nat} {l : List Int} (hl : l.length = n) (h : ∀ j, j < n → w.cell? ⟨b, o + j, none⟩ = some (.int .u8 (l.getD j 0))) :
    (Conv.bytesToString (.slice (some ⟨b, o, none⟩) n cap)).run P w = .ok (.string (bs l)) w := by
  have hc := loadBytes_run (P := P) (w := w) (b := b) (l := l) n 0 o (by omega) (by simpa using h)
  unfold Conv.bytesToString
  simp only [Sem.run_bind, hc, Result.andThen_ok, List.drop_zero]
  rw [← Array.forIn_toList]
  have := str_loop (P := P) (w := w) l ByteArray.empty
  simp only at this ⊢
  erw [this]
  simp [bs, ByteArray.empty, ByteArray.emptyWithCapacity]
  try rfl

theorem box_bytes {A : Fr} {h : Nat → Option Obj} {w : World} {b o n : Nat} {T : TypeId} {v : V} {l : List Int} (hc : CellIn A h (.box b T v)) (hw : ∀ o, h b = some o → w.heap[b]? = some o) (hl : v.byt n o = some l) :
    l.length = n ∧ ∀ j, j < n → w.cell? ⟨b, o + j, none⟩ = some (.int .u8 (l.getD j 0)) := by
  obtain ⟨k1, _, k3⟩ := V.byt_spec hl
  refine ⟨k1, fun j hj => ?_⟩
  rw [cell_of (hw _ hc.1), List.getElem?_toArray]
  exact k3 j hj

theorem conv_str {P : Program} {T T' E : TypeId} {z : Nat} {w : World} {q : Value} {s : ByteArray} (u : Slc P T E z) (ue : Und P E (.int .u8)) (u' : Und P T' .string) (h : (Conv.bytesToString q).run P w = .ok (.string s) w) (hq : ∃ a n c, q = .slice a n c) :
    (convert T T' q).run P w = .ok (.string s) w := by
  obtain ⟨a, n, c, rfl⟩ := hq
  unfold convert
  simp only [Sem.run_bind, u.und, und_of u'.eq, Result.andThen_ok]
  cases a <;> simp only [Sem.run_bind, und_of ue.eq, Result.andThen_ok, h]

theorem h_str {T T' E T2 : TypeId} {z : Nat} [u : Slc X.P T E z] [ue : Und X.P E (.int .u8)] [u' : Und X.P T' .string] {x : Operand} {t b o cap n : Nat} {v : V} {l : List Int} (hx : st.ev x = some (.bsl t b o cap n))
    (hg : get t st.H = some (.box b T2 v)) (hl : v.byt n o = some l) : EvH X ⟨dst, .convert T T' x, ty, pos, af, gd⟩ st (.str (bs l)) := fun a w s => by
  obtain ⟨e1, _⟩ := s.ev hx
  refine ⟨?_, trivial⟩
  obtain ⟨k1, k2⟩ := box_bytes (w := w) (s.hp t _ hg).1 (fun _ h => h) hl
  show ((do pure (Next.value (← convert T T' (a.eval x))) : Sem Next)).run X.P w = _
  refine run_v ?_
  rw [e1]
  exact conv_str u ue u' (str_run (cap := cap) k1 k2) ⟨_, _, _, rfl⟩

theorem q_str {T T' E T2 : TypeId} {z : Nat} [u : Slc X.P T E z] [ue : Und X.P E (.int .u8)] [u' : Und X.P T' .string] {x : Operand} {t b o cap n : Nat} {v : V} {l : List Int} (hx : st.ev x = some (.bsl t b o cap n))
    (hg : get t st.R = some (.box b T2 v)) (hl : v.byt n o = some l) : EvQ X ⟨dst, .convert T T' x, ty, pos, af, gd⟩ st (.str (bs l)) := fun a w s hw => by
  obtain ⟨e1, _⟩ := s.ev hx
  refine ⟨?_, trivial⟩
  obtain ⟨k1, k2⟩ := box_bytes (w := w) (s.ro t _ hg) (fun _ h => hw.cells _ _ h) hl
  show ((do pure (Next.value (← convert T T' (a.eval x))) : Sem Next)).run X.P w = _
  refine run_v ?_
  rw [e1]
  exact conv_str u ue u' (str_run (cap := cap) k1 k2) ⟨_, _, _, rfl⟩

end

/-! ### the order of bytes -/

theorem extLoad_run {P : Program} {w : World} {b : Nat} : ∀ (l : List Int) (o : Nat) (acc : ByteArray), (∀ j, j < l.length → w.cell? ⟨b, o + j, none⟩ = some (.int .u8 (l.getD j 0))) →
    (Extern.Bytes.loadBytes ⟨b, o, none⟩ l.length acc).run P w = .ok ⟨acc.data ++ (l.map fun x => UInt8.ofNat x.toNat).toArray⟩ w
  | [], o, acc, _ => by simp [Extern.Bytes.loadBytes]
  | x :: l, o, acc, h => by
    have h0 := h 0 (by simp)
    simp only [Nat.add_zero, List.getD_cons_zero] at h0
    simp only [List.length_cons, Extern.Bytes.loadBytes, Sem.run_bind, run_load, h0, Result.andThen_ok, add_none]
    rw [extLoad_run l (o + 1) _ (fun j hj => by
      have := h (j + 1) (by simp; omega)
      rw [show o + 1 + j = o + (j + 1) by omega, this]; simp)]
    simp [ByteArray.push]

theorem ros_bytes {A : Fr} {w : World} {b o cap n : Nat} {l : List Int} (hw : Has A w) (hl : l.length = n) (h : VOk A (.ros (some ⟨b, o, none⟩) cap n (fun j => .int .u8 (l.getD j 0)))) :
    ∀ j, j < n → w.cell? ⟨b, o + j, none⟩ = some (.int .u8 (l.getD j 0)) := by
  intro j hj
  obtain ⟨_, _, h3⟩ := h
  rcases h3 with h3 | ⟨ad, c, T, fr, z, e, _, hc, hh⟩
  · omega
  · simp only [Option.some.injEq] at e
    subst e
    obtain ⟨hz, hcell⟩ := hh j hj
    have hz' : z = 1 := by simpa [V.size] using hz.symm
    subst hz'
    have := hcell 0 (by omega)
    rw [cell_of (hw.cells _ _ hc)]
    simpa [V.cells] using this

end Go.Vm
