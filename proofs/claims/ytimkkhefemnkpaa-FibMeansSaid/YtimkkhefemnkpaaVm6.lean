/- New blocks, stores, calls; contracts of functions. -/
import Derived.Test.YtimkkhefemnkpaaVm5
namespace Go.Vm

section
variable {X : Cx} {ty : TypeId} {pos : String} {af : Array Edge} {gd : Option (Nat × Bool)} {tm : List (Nat × V)} {H R : List (Nat × Cell)} {Kn : St → Prop} {d : Nat}

theorem newVar_run {P : Program} {T : TypeId} {v : V} {w : World} (hm : v.mem = true) : (newVar T v.real).run P w = .ok ⟨w.heap.size, 0, none⟩ (w.alloc (.cells v.cells.toArray T (0, 0))) := by
  unfold newVar newRow
  have : v.real.cells = v.cells.toArray := by rw [← V.real_cells hm]
  rw [this]; rfl

theorem Ex.alloc {T : TypeId} {v : V} [z : Zer X.P T v] (hd : Nat.blt d X.N = true) (k : ∀ b, Kn ⟨(d, .ptr d b 0) :: tm, (d, .box b T v) :: H, R⟩) : Ex X ⟨some d, .alloc T, ty, pos, af, gd⟩ ⟨tm, H, R⟩ Kn := by
  intro a w s next Q hn
  have hr : (execOp a.eval ⟨some d, .alloc T, ty, pos, af, gd⟩).run X.P w = .ok (.value (V.ptr d w.heap.size 0).real) (w.alloc (.cells v.cells.toArray T (0, 0))) := by
    show ((do pure (Next.value (← Instr.alloc T true (.tuple #[]))) : Sem Next)).run X.P w = _
    refine run_v ?_
    simp [Instr.alloc, z.zero, newVar_run z.mem, V.real]
  unfold Oper.wp
  rw [hr]
  refine hn _ _ _ (k w.heap.size) (Sim.put (Sim.alloc s d (.box w.heap.size T v) _ (fun b hb => hb) (fun h hh => ⟨hh, z.mem, z.ok _⟩)) trivial (Nat.le_of_ble_eq_true hd))

theorem Ex.box {T : TypeId} {x : Operand} {v : V} (hd : Nat.blt d X.N = true) (hx : (St.mk tm H R).ev x = some v) (hm : v.mem = true) (k : ∀ b, Kn ⟨(d, .ptr d b 0) :: tm, (d, .box b T v) :: H, R⟩) :
    Ex X ⟨some d, .box T x, ty, pos, af, gd⟩ ⟨tm, H, R⟩ Kn := by
  intro a w s next Q hn
  obtain ⟨h1, h2⟩ := s.ev hx
  have hr : (execOp a.eval ⟨some d, .box T x, ty, pos, af, gd⟩).run X.P w = .ok (.value (V.ptr d w.heap.size 0).real) (w.alloc (.cells v.cells.toArray T (0, 0))) := by
    show ((do pure (Next.value (← Instr.box T (a.eval x))) : Sem Next)).run X.P w = _
    refine run_v ?_
    rw [h1]
    simp [Instr.box, newVar_run hm, V.real]
  unfold Oper.wp
  rw [hr]
  exact hn _ _ _ (k w.heap.size) (Sim.put (Sim.alloc s d (.box w.heap.size T v) _ (fun b hb => hb) (fun h hh => ⟨hh, hm, h2⟩)) trivial (Nat.le_of_ble_eq_true hd))

/-- A store into a variable of the call's own. -/
theorem Ex.store {T T' : TypeId} {g : Bool} {n : Nat} [Ty X.P T g n] {x y : Operand} {t b o : Nat} {v u v' : V} (hx : (St.mk tm H R).ev x = some (.ptr t b o)) (hy : (St.mk tm H R).ev y = some u)
    (hg : get t H = some (.box b T' v)) (hn : u.size = n) (hm : u.mem = true) (hu : V.upd u v o = some v') (k : Kn ⟨tm, (t, .box b T' v') :: H, R⟩) :
    Ex X ⟨none, .store T x y, ty, pos, af, gd⟩ ⟨tm, H, R⟩ Kn := by
  refine Ex.u fun a w s => ?_
  obtain ⟨h1, _⟩ := s.ev hx
  obtain ⟨h2, h2'⟩ := s.ev hy
  obtain ⟨⟨h3, h4, h5⟩, h6⟩ := s.hp t _ hg
  obtain ⟨i1, i2, i3, i4, i5⟩ := V.upd_spec hm hu
  have hl := V.cells_length v
  have hst := run_storeVar (P := X.P) (T := T) (w := w) (b := b) (o := o) (u := u) (c := v.cells) (T' := T') hn hm h3 (by omega)
  refine ⟨_, setBlk w b (.cells v'.cells.toArray T' (0, 0)), ?_, Sim.set s hg rfl (.box b T' v') _ (fun k hk => hk) (fun h hh => ⟨hh, i5 h4, h2'.upd h5 hu⟩), k⟩
  rw [i4]
  show ((do Instr.storeAt T (a.eval x) (a.eval y); pure Next.skip : Sem Next)).run X.P w = _
  rw [h1, h2]
  simp only [Instr.storeAt, V.real, Instr.sureAddr, Sem.run_bind, Sem.run_pure, Result.andThen_ok]
  have hst' : (storeVar T ⟨b, o, none⟩ u.real).run X.P w = .ok () (setBlk w b (.cells (splice v.cells o u.cells).toArray T' (0, 0))) := hst
  simp [hst']

theorem splice_get {l u : List Value} {o : Nat} (h : o + u.length ≤ l.length) (p : Nat) : (splice l o u)[p]? = if p < o then l[p]? else if p < o + u.length then u[p - o]? else l[p]? := by
  simp only [splice]
  by_cases c1 : p < o
  · rw [if_pos c1, List.append_assoc, List.getElem?_append_left (by simp; omega), List.getElem?_take_of_lt c1]
  · rw [if_neg c1]
    by_cases c2 : p < o + u.length
    · rw [if_pos c2, List.append_assoc, List.getElem?_append_right (by simp; omega), List.length_take, Nat.min_eq_left (by omega), List.getElem?_append_left (by omega)]
    · rw [if_neg c2, List.getElem?_append_right (by simp; omega), List.getElem?_drop, List.length_append, List.length_take, Nat.min_eq_left (by omega)]
      congr 1; omega

theorem flat_set {n z : Nat} {f : Nat → V} {i o : Nat} {v' : V} {us : List Value} (hz : ∀ i, i < n → (f i).size = z) (hi : i < n) (hv : v'.cells = splice (f i).cells o us) (hs : v'.size = z) (ho : o + us.length ≤ z)
    (sp : List Value) : flat n (fun j => if j = i then v' else f j) ++ sp = splice (flat n f ++ sp) (i * z + o) us := by
  have hz' : ∀ k, k < n → ((fun j => if j = i then v' else f j) k).size = z := fun k hk => by
    show (if k = i then v' else f k).size = z
    split
    · exact hs
    · exact hz k hk
  have hb : (i + 1) * z ≤ n * z := Nat.mul_le_mul_right z hi
  rw [Nat.succ_mul] at hb
  have l1 := flat_length hz
  have l2 := flat_length hz'
  have lf : (f i).cells.length = z := by rw [V.cells_length, hz i hi]
  apply List.ext_getElem?
  intro p
  rw [splice_get (by rw [List.length_append]; omega)]
  by_cases hp : p < n * z
  · have hz0 : 0 < z := by
      rcases Nat.eq_zero_or_pos z with h | h
      · subst h; simp at hp
      · exact h
    obtain ⟨q, r, hr, rfl⟩ : ∃ q r, r < z ∧ p = q * z + r := ⟨p / z, p % z, Nat.mod_lt _ hz0, by rw [Nat.mul_comm]; exact (Nat.div_add_mod p z).symm⟩
    have hq : q < n := by
      rcases Nat.lt_or_ge q n with h | h
      · exact h
      · have : n * z ≤ q * z := Nat.mul_le_mul_right z h
        omega
    rw [List.getElem?_append_left (by omega), flat_get hz' hq hr, List.getElem?_append_left (by omega), flat_get hz hq hr]
    show (if q = i then v' else f q).cells[r]? = _
    by_cases hqi : q = i
    · subst hqi
      have e1 : (q * z + r < q * z + o) = (r < o) := propext ⟨fun h => by omega, fun h => by omega⟩
      have e2 : (q * z + r < q * z + o + us.length) = (r < o + us.length) := propext ⟨fun h => by omega, fun h => by omega⟩
      have e3 : q * z + r - (q * z + o) = r - o := by omega
      rw [if_pos rfl, hv, splice_get (by omega)]
      simp only [e1, e2, e3]
    · rw [if_neg hqi]
      rcases Nat.lt_or_ge q i with c1 | c1
      · have : (q + 1) * z ≤ i * z := Nat.mul_le_mul_right z c1
        rw [Nat.succ_mul] at this
        rw [if_pos (by omega)]
      · have hlt : i < q := by omega
        have : (i + 1) * z ≤ q * z := Nat.mul_le_mul_right z hlt
        rw [Nat.succ_mul] at this
        rw [if_neg (by omega), if_neg (by omega)]
  · rw [List.getElem?_append_right (by omega), if_neg (by omega), if_neg (by omega), List.getElem?_append_right (by omega)]
    congr 1; omega

/-- A store into an element. -/
theorem Ex.store_pel {T T' : TypeId} {g : Bool} {n : Nat} [Ty X.P T g n] {x y : Operand} {t b z i o cap m : Nat} {f : Nat → V} {u v' : V} (hx : (St.mk tm H R).ev x = some (.pel t b z i o)) (hy : (St.mk tm H R).ev y = some u)
    (hg : get t H = some (.vec (some b) T' z cap m f)) (hn : u.size = n) (hm : u.mem = true) (hi : i < m) (hu : V.upd u (f i) o = some v')
    (k : Kn ⟨tm, (t, .vec (some b) T' z cap m (fun j => if j = i then v' else f j)) :: H, R⟩) :
    Ex X ⟨none, .store T x y, ty, pos, af, gd⟩ ⟨tm, H, R⟩ Kn := by
  refine Ex.u fun a w s => ?_
  obtain ⟨h1, _⟩ := s.ev hx
  obtain ⟨h2, h2'⟩ := s.ev hy
  obtain ⟨⟨h3, h4, sp, h5, h6⟩, h7⟩ := s.hp t _ hg
  obtain ⟨i1, i2, i3, i4, i5⟩ := V.upd_spec hm hu
  have hz : ∀ k, k < m → (f k).size = z := fun k hk => (h4 k hk).1
  have hlu := V.cells_length u
  have hfi := hz i hi
  have hb : (i + 1) * z ≤ m * z := Nat.mul_le_mul_right z hi
  rw [Nat.succ_mul] at hb
  have l1 := flat_length hz
  have hst := run_storeVar (P := X.P) (T := T) (w := w) (b := b) (o := i * z + o) (u := u) (c := flat m f ++ sp) (T' := T') hn hm h5 (by rw [List.length_append]; omega)
  have e := flat_set (us := u.cells) hz hi i4 (by omega) (by omega) sp
  refine ⟨_, setBlk w b (.cells (flat m (fun j => if j = i then v' else f j) ++ sp).toArray T' (0, 0)), ?_, Sim.set s hg rfl (.vec (some b) T' z cap m (fun j => if j = i then v' else f j)) _
    (fun k hk => by simp only [Cell.blk, Option.some.injEq] at hk; exact hk.symm)
    (fun h hh => ⟨h3, fun k hk => ?_, sp, hh, h6⟩), k⟩
  · rw [e]
    show ((do Instr.storeAt T (a.eval x) (a.eval y); pure Next.skip : Sem Next)).run X.P w = _
    rw [h1, h2]
    simp only [Instr.storeAt, V.real, Instr.sureAddr, Sem.run_bind, Sem.run_pure, Result.andThen_ok]
    simp [hst]
  · show (if k = i then v' else f k).size = z ∧ (if k = i then v' else f k).mem = true ∧ VOk X.A (if k = i then v' else f k)
    split
    · exact ⟨by omega, i5 (h4 i hi).2.1, h2'.upd (h4 i hi).2.2 hu⟩
    · exact h4 k hk

/-! ### composite values -/

def evs (st : St) : List Operand → Option (List V)
  | [] => some []
  | x :: r => match st.ev x with
    | none => none
    | some v => (evs st r).map (v :: ·)

theorem Sim.evs {X : Cx} {st : St} {a : Act} {w : World} (s : Sim X st a w) : ∀ {xs : List Operand} {vs : List V}, evs st xs = some vs → xs.map a.eval = vs.map V.real ∧ ∀ v ∈ vs, VOk X.A v
  | [], vs, h => by simp only [Vm.evs, Option.some.injEq] at h; subst h; simp
  | x :: r, vs, h => by
    simp only [Vm.evs] at h
    cases hx : st.ev x with
    | none => rw [hx] at h; simp at h
    | some v =>
      rw [hx] at h
      simp only [Option.map_eq_some_iff] at h
      obtain ⟨vr, hr, rfl⟩ := h
      obtain ⟨h1, h2⟩ := s.ev hx
      obtain ⟨h3, h4⟩ := s.evs hr
      refine ⟨by simp [h1, h3], fun u hu => ?_⟩
      rcases List.mem_cons.1 hu with rfl | hu
      · exact h2
      · exact h4 u hu

theorem SimT.evs {X : Cx} {st : St} {a : Act} (s : SimT X st a) : ∀ {xs : List Operand} {vs : List V}, Vm.evs st xs = some vs → xs.map a.eval = vs.map V.real ∧ ∀ v ∈ vs, VOk X.A v
  | [], vs, h => by simp only [Vm.evs, Option.some.injEq] at h; subst h; simp
  | x :: r, vs, h => by
    simp only [Vm.evs] at h
    cases hx : st.ev x with
    | none => rw [hx] at h; simp at h
    | some v =>
      rw [hx] at h
      simp only [Option.map_eq_some_iff] at h
      obtain ⟨vr, hr, rfl⟩ := h
      obtain ⟨h1, h2⟩ := s.ev hx
      obtain ⟨h3, h4⟩ := s.evs hr
      refine ⟨by simp [h1, h3], fun u hu => ?_⟩
      rcases List.mem_cons.1 hu with rfl | hu
      · exact h2
      · exact h4 u hu

end
end Go.Vm
