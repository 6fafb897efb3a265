/- Rules for maps. -/
import Derived.Test.YtimkkhefemnkpaaVm14
namespace Go.Vm

theorem run_getB {P : Program} {w : World} {b : Nat} {es : Array MapEntry} {c : Nat} (h : w.heap[b]? = some (.map es c)) : (getObj b).run P w = .ok (.map es c) w := by simp [getObj, Sem.run, h]
theorem run_setB {P : Program} {w : World} {b : Nat} {es : Array MapEntry} {c : Nat} {o' : Obj} (h : w.heap[b]? = some (.map es c)) : (setObj b o').run P w = .ok () (setBlk w b o') := by simp [setObj, Sem.run, h, setBlk]

section
variable {α β : Type} [DecidableEq α]

theorem KeyT.stays {P : Program} {T : TypeId} {e : α → V} {ok : α → Prop} [q : KeyT P T e ok] {k : α} (hk : ok k) (w : World) : (Instr.keyThatStays (e k).real (e k).real).run P w = .ok (e k).real w := by
  simp [Instr.keyThatStays, q.bits k hk]

/-- What a map holds, as a list in the order of its entries. -/
theorem mp_in {γ δ : Type} {A : Fr} {h : Nat → Option Obj} {w : World} {b : Nat} {e : γ → V} {f : δ → V} {L : List (γ × δ)} (hc : CellIn A h (mpc b e f L)) (hw : ∀ o, h b = some o → w.heap[b]? = some o) :
    ∃ (es : Array MapEntry) (clock : Nat) (L' : List (γ × δ)), w.heap[b]? = some (.map es clock) ∧ MapIs (kvs e f L) es clock ∧ L'.Perm L ∧ L'.map (kvR e f) = es.toList.map fun e => (e.key, e.val) := by
  obtain ⟨_, es, clock, h1, h2⟩ := hc
  obtain ⟨L', h3, h4⟩ := h2.typed
  exact ⟨es, clock, L', hw _ h1, h2, h3, h4⟩

theorem lookup_run {P : Program} {T K E : TypeId} {e : α → V} {f : β → V} {ok : α → Prop} {zv : V} [Inhabited β] [u : Und P T (.map K E)] [q : KeyT P K e ok] [z : Zer P E zv] (hz : zv = f default) {w : World} {A : Fr} {h : Nat → Option Obj} {b : Nat} {L : List (α × β)} {k : α}
    (hc : CellIn A h (mpc b e f L)) (hw : ∀ o, h b = some o → w.heap[b]? = some o) (hL : KOk ok L) (hk : ok k) (c : Bool) :
    (Instr.lookup T (.map (some b)) (e k).real c).run P w = .ok (if c then (V.tup2 (f ((alook k L).getD default)) (.bool (alook k L).isSome)).real else (f ((alook k L).getD default)).real) w ∧ VOk A (f ((alook k L).getD default)) := by
  have hvo := hc.1
  obtain ⟨es, clock, L', h1, h2, h3, h4⟩ := mp_in hc hw
  have ua : (underlying T).run P w = .ok (.map K E) w := by simp [underlying, u.eq]
  have hf := find_run (P := P) (T := K) (f := f) hk 0 w (hL.perm h3).1 h4
  have hal := alook_perm (k := k) hL.2 h3
  unfold Instr.lookup
  simp only [Sem.run_bind, ua, Result.andThen_ok, run_getB h1, Sem.run_pure, q.chk _ k w hk, q.find]
  rw [hf]
  cases hl : alook k L with
  | none =>
    rw [hl] at hal
    rw [findIdx_none hal]
    simp only [Option.bind_none, Sem.run_bind, Result.andThen_ok, z.zero, Sem.run_pure]
    refine ⟨?_, by rw [Option.getD_none, ← hz]; exact z.ok A⟩
    cases c <;> simp [V.real, hz]
  | some v =>
    rw [hl] at hal
    obtain ⟨j, hj, hj'⟩ := findIdx_some hal
    rw [hj]
    simp only [Option.bind_some, hj', Option.map_some, Sem.run_bind, Result.andThen_ok, Sem.run_pure]
    refine ⟨?_, ?_⟩
    · cases c <;> simp [V.real]
    · have hm := (alook_mem hL.2).1 hl
      exact (hvo (e k, f v) (List.mem_map.2 ⟨(k, v), hm, rfl⟩)).2

section
variable {X : Cx} {st : St} {dst : Option Tmp} {ty : TypeId} {pos : String} {af : Array Edge} {gd : Option (Nat × Bool)} {T K E : TypeId} {e : α → V} {f : β → V} {ok : α → Prop} {zv : V} [Inhabited β]

theorem h_lookup_ok [u : Und X.P T (.map K E)] [q : KeyT X.P K e ok] [z : Zer X.P E zv] {x y : Operand} {t b : Nat} {L : List (α × β)} {k : α} (hz : zv = f default) (hx : st.ev x = some (.map t (some b))) (hg : get t st.H = some (mpc b e f L)) (hy : st.ev y = some (e k)) (hL : KOk ok L) (hk : ok k) :
    EvH X ⟨dst, .lookup T x y true, ty, pos, af, gd⟩ st (.tup2 (f ((alook k L).getD default)) (.bool (alook k L).isSome)) := fun a w s => by
  obtain ⟨e1, _⟩ := s.ev hx
  obtain ⟨e2, _⟩ := s.ev hy
  obtain ⟨r1, r2⟩ := lookup_run (P := X.P) (T := T) (w := w) hz (s.hp t _ hg).1 (fun _ h => h) hL hk true
  refine ⟨?_, r2, trivial⟩
  show ((do pure (Next.value (← Instr.lookup T (a.eval x) (a.eval y) true)) : Sem Next)).run X.P w = _
  refine run_v ?_
  rw [e1, e2]
  exact r1

theorem q_lookup_ok [u : Und X.P T (.map K E)] [q : KeyT X.P K e ok] [z : Zer X.P E zv] {x y : Operand} {t b : Nat} {L : List (α × β)} {k : α} (hz : zv = f default) (hx : st.ev x = some (.map t (some b))) (hg : get t st.R = some (mpc b e f L)) (hy : st.ev y = some (e k)) (hL : KOk ok L) (hk : ok k) :
    EvQ X ⟨dst, .lookup T x y true, ty, pos, af, gd⟩ st (.tup2 (f ((alook k L).getD default)) (.bool (alook k L).isSome)) := fun a w s hw => by
  obtain ⟨e1, _⟩ := s.ev hx
  obtain ⟨e2, _⟩ := s.ev hy
  obtain ⟨r1, r2⟩ := lookup_run (P := X.P) (T := T) (w := w) hz (s.ro t _ hg) (fun _ h => hw.cells _ _ h) hL hk true
  refine ⟨?_, r2, trivial⟩
  show ((do pure (Next.value (← Instr.lookup T (a.eval x) (a.eval y) true)) : Sem Next)).run X.P w = _
  refine run_v ?_
  rw [e1, e2]
  exact r1

theorem h_lookup [u : Und X.P T (.map K E)] [q : KeyT X.P K e ok] [z : Zer X.P E zv] {x y : Operand} {t b : Nat} {L : List (α × β)} {k : α} (hz : zv = f default) (hx : st.ev x = some (.map t (some b))) (hg : get t st.H = some (mpc b e f L)) (hy : st.ev y = some (e k)) (hL : KOk ok L) (hk : ok k) :
    EvH X ⟨dst, .lookup T x y false, ty, pos, af, gd⟩ st (f ((alook k L).getD default)) := fun a w s => by
  obtain ⟨e1, _⟩ := s.ev hx
  obtain ⟨e2, _⟩ := s.ev hy
  obtain ⟨r1, r2⟩ := lookup_run (P := X.P) (T := T) (w := w) hz (s.hp t _ hg).1 (fun _ h => h) hL hk false
  refine ⟨?_, r2⟩
  show ((do pure (Next.value (← Instr.lookup T (a.eval x) (a.eval y) false)) : Sem Next)).run X.P w = _
  refine run_v ?_
  rw [e1, e2]
  exact r1

end

theorem MapIs.mk' {γ δ : Type} {e : γ → V} {f : δ → V} {L L' : List (γ × δ)} {es : Array MapEntry} {clock : Nat} (h : L'.map (kvR e f) = es.toList.map fun e => (e.key, e.val)) (hp : L'.Perm L) (hb : (es.toList.map (·.born)).Nodup) (hc : ∀ e ∈ es.toList, e.born < clock) :
    MapIs (kvs e f L) es clock := ⟨by rw [kvs_real, ← h]; exact hp.map _, hb, hc⟩

section
variable {X : Cx} {tm : List (Nat × V)} {H R : List (Nat × Cell)} {ty : TypeId} {pos : String} {af : Array Edge} {gd : Option (Nat × Bool)} {Kn : St → Prop} {d : Nat} {T K E : TypeId} {e : α → V} {f : β → V} {ok : α → Prop}

theorem Ex.makeMap {γ δ : Type} (e : γ → V) (f : δ → V) (hd : Nat.blt d X.N = true) (k : ∀ b, Kn ⟨(d, .map d (some b)) :: tm, (d, mpc b e f []) :: H, R⟩) : Ex X ⟨some d, .makeMap T none, ty, pos, af, gd⟩ ⟨tm, H, R⟩ Kn := by
  intro a w s next Q hn
  have hr : (execOp a.eval ⟨some d, .makeMap T none, ty, pos, af, gd⟩).run X.P w = .ok (.value (V.map d (some w.heap.size)).real) (w.alloc (.map #[] 0)) := by
    show ((do pure (Next.value (← Instr.makeMap T none)) : Sem Next)).run X.P w = _
    refine run_v ?_
    simp [Instr.makeMap, V.real]
  unfold Oper.wp
  rw [hr]
  exact hn _ _ _ (k w.heap.size) (Sim.put (Sim.alloc s d (mpc w.heap.size e f []) _ (fun b hb => hb) (fun h hh => ⟨by simp [kvs], _, _, hh, ⟨by simp [kvs], by simp, by simp⟩⟩)) trivial (Nat.le_of_ble_eq_true hd))

theorem Ex.mapUpdate [u : Und X.P T (.map K E)] [q : KeyT X.P K e ok] {x y z : Operand} {t b : Nat} {L : List (α × β)} (k : α) (v : β) (hx : (St.mk tm H R).ev x = some (.map t (some b))) (hg : get t H = some (mpc b e f L))
    (hy : (St.mk tm H R).ev y = some (e k)) (hz : (St.mk tm H R).ev z = some (f v)) (hL : KOk ok L) (hk : ok k) (kn : Kn ⟨tm, (t, mpc b e f (aput k v L)) :: H, R⟩) :
    Ex X ⟨none, .mapUpdate T x y z, ty, pos, af, gd⟩ ⟨tm, H, R⟩ Kn := by
  refine Ex.u fun a w s => ?_
  obtain ⟨e1, _⟩ := s.ev hx
  obtain ⟨e2, o2⟩ := s.ev hy
  obtain ⟨e3, o3⟩ := s.ev hz
  obtain ⟨hc, _⟩ := s.hp t _ hg
  have hvo := hc.1
  obtain ⟨es, clock, L', h1, h2, h3, h4⟩ := mp_in (w := w) hc (fun _ h => h)
  have ua : (underlying T).run X.P w = .ok (.map K E) w := by simp [underlying, u.eq]
  have hf := find_run (P := X.P) (T := K) (f := f) hk 0 w (hL.perm h3).1 h4
  have hal := alook_perm (k := k) hL.2 h3
  have hvo' : ∀ x ∈ kvs e f (aput k v L), VOk X.A x.1 ∧ VOk X.A x.2 := fun x hx => by
    obtain ⟨y, hy, rfl⟩ := List.mem_map.1 hx
    rcases List.mem_cons.1 hy with rfl | hy
    · exact ⟨o2, o3⟩
    · exact hvo _ (List.mem_map.2 ⟨y, (List.mem_filter.1 hy).1, rfl⟩)
  have hlen : L'.length = es.size := by have := congrArg List.length h4; simpa using this
  have hnd := (hL.perm h3).2
  cases hl : alook k L with
  | none =>
    rw [hl] at hal
    rw [findIdx_none hal] at hf
    refine ⟨_, setBlk w b (.map (es.push { key := (e k).real, val := (f v).real, born := clock }) (clock + 1)), ?_, Sim.set s hg rfl (mpc b e f (aput k v L)) _ (fun k hk => hk) (fun h hh => ⟨hvo', _, _, hh, ?_⟩), kn⟩
    · show ((do Instr.mapUpdate T (a.eval x) (a.eval y) (a.eval z); pure Next.skip : Sem Next)).run X.P w = _
      rw [e1, e2, e3]
      simp only [Instr.mapUpdate, V.real, Sem.run_bind, ua, Result.andThen_ok, run_getB h1, q.chk _ k w hk, q.find, hf, Option.bind_none, run_setB h1, Sem.run_pure]
    · refine MapIs.mk' (L' := L' ++ [(k, v)]) (by simp [h4, kvR]) ?_ ?_ ?_
      · have : adel k L = L := adel_none hl
        unfold aput
        rw [this]
        exact (List.perm_append_comm).trans (h3.cons _)
      · simp only [Array.toList_push, List.map_append, List.map_cons, List.map_nil]
        rw [List.nodup_append]
        refine ⟨h2.born, by simp, fun x hx y hy => ?_⟩
        simp only [List.mem_singleton] at hy
        subst hy
        obtain ⟨en, hen, rfl⟩ := List.mem_map.1 hx
        have := h2.below en hen
        omega
      · intro en hen
        simp only [Array.toList_push, List.mem_append, List.mem_singleton] at hen
        rcases hen with hen | rfl
        · have := h2.below en hen; omega
        · simp
  | some v0 =>
    rw [hl] at hal
    obtain ⟨j, hj, hj'⟩ := findIdx_some hal
    rw [hj] at hf
    simp only [Option.bind_some, hj', Option.map_some, Nat.zero_add] at hf
    have hjl : j < es.size := by have := (List.getElem?_eq_some_iff.1 hj').1; omega
    have hkey : (es[j]?).map (·.key) = some (e k).real := by
      have := congrArg (fun l => l[j]?) h4
      simp only [List.getElem?_map, hj', Option.map_some, kvR] at this
      rw [Array.getElem?_toList] at this
      cases he : es[j]? with
      | none => rw [he] at this; simp at this
      | some en => rw [he] at this; simp only [Option.map_some, Option.some.injEq, Prod.mk.injEq] at this; simp [this.1]
    have hmod : (es.modify j fun en => { en with key := (e k).real, val := (f v).real }).toList = es.toList.modify j fun en => { en with key := (e k).real, val := (f v).real } := by simp
    refine ⟨_, setBlk w b (.map (es.modify j fun en => { en with key := (e k).real, val := (f v).real }) clock), ?_, Sim.set s hg rfl (mpc b e f (aput k v L)) _ (fun k hk => hk) (fun h hh => ⟨hvo', _, _, hh, ?_⟩), kn⟩
    · show ((do Instr.mapUpdate T (a.eval x) (a.eval y) (a.eval z); pure Next.skip : Sem Next)).run X.P w = _
      rw [e1, e2, e3]
      simp only [Instr.mapUpdate, V.real, Sem.run_bind, ua, Result.andThen_ok, run_getB h1, q.chk _ k w hk, q.find, hf, hkey, Option.getD_some, KeyT.stays (P := X.P) (T := K) (ok := ok) hk w, run_setB h1, Sem.run_pure]
    · have hb : ((es.toList.modify j fun en => { en with key := (e k).real, val := (f v).real }).map (·.born)) = es.toList.map (·.born) := by
        apply List.ext_getElem?
        intro i
        simp only [List.getElem?_map, List.getElem?_modify]
        cases es.toList[i]? with
        | none => rfl
        | some en => by_cases hji : j = i <;> simp [hji]
      refine MapIs.mk' (L' := L'.set j (k, v)) ?_ ?_ (by rw [hmod, hb]; exact h2.born) ?_
      · rw [hmod]
        apply List.ext_getElem?
        intro i
        have := congrArg (fun l => l[i]?) h4
        simp only [List.getElem?_map, List.getElem?_set, List.getElem?_modify] at this ⊢
        by_cases hji : j = i
        · subst hji
          rw [if_pos rfl, if_pos (by omega), List.getElem?_eq_getElem (by simpa using hjl)]
          simp [kvR]
        · rw [if_neg hji]
          rw [this]
          cases es.toList[i]? with
          | none => rfl
          | some en => simp [hji]
      · have p1 : (L'.set j (k, v)).Perm ((k, v) :: L'.eraseIdx j) := by
          have hx : (L'.set j (k, v))[j]? = some (k, v) := by rw [List.getElem?_set, if_pos rfl, if_pos (by omega)]
          have := perm_at hx
          rwa [List.eraseIdx_set_eq] at this
        have p2 := erase_adel hnd hj'
        exact p1.trans ((p2.trans (h3.filter _)).cons _)
      · intro en hen
        rw [hmod] at hen
        have : en.born ∈ (es.toList.modify j fun en => { en with key := (e k).real, val := (f v).real }).map (·.born) := List.mem_map.2 ⟨en, hen, rfl⟩
        rw [hb] at this
        obtain ⟨en', h5, h6⟩ := List.mem_map.1 this
        rw [← h6]
        exact h2.below en' h5

theorem Ex.delete [u : Und X.P T (.map K E)] [q : KeyT X.P K e ok] {x y : Operand} {t b : Nat} {L : List (α × β)} {T2 : TypeId} (k : α) (hx : (St.mk tm H R).ev x = some (.map t (some b))) (hg : get t H = some (mpc b e f L))
    (hy : (St.mk tm H R).ev y = some (e k)) (hL : KOk ok L) (hk : ok k) (kn : Kn ⟨tm, (t, mpc b e f (adel k L)) :: H, R⟩) :
    Ex X ⟨none, .call ⟨.builtin .delete, #[x, y], #[T, T2]⟩, ty, pos, af, gd⟩ ⟨tm, H, R⟩ Kn := by
  intro a w s next Q hn
  obtain ⟨e1, _⟩ := s.ev hx
  obtain ⟨e2, o2⟩ := s.ev hy
  obtain ⟨hc, _⟩ := s.hp t _ hg
  have hvo := hc.1
  obtain ⟨es, clock, L', h1, h2, h3, h4⟩ := mp_in (w := w) hc (fun _ h => h)
  have ua : (underlying T).run X.P w = .ok (.map K E) w := by simp [underlying, u.eq]
  have hf := find_run (P := X.P) (T := K) (f := f) hk 0 w (hL.perm h3).1 h4
  have hal := alook_perm (k := k) hL.2 h3
  have hvo' : ∀ x ∈ kvs e f (adel k L), VOk X.A x.1 ∧ VOk X.A x.2 := fun x hx => by
    obtain ⟨y, hy, rfl⟩ := List.mem_map.1 hx
    exact hvo _ (List.mem_map.2 ⟨y, (List.mem_filter.1 hy).1, rfl⟩)
  have hlen : L'.length = es.size := by have := congrArg List.length h4; simpa using this
  have hnd := (hL.perm h3).2
  have fin : ∀ es', MapIs (kvs e f (adel k L)) es' clock → (Builtin.delete_ #[T, T2] ty #[.map (some b), (e k).real]).run X.P w = .ok (.tuple #[]) (setBlk w b (.map es' clock)) →
      Oper.wp X.P ⟨none, .call ⟨.builtin .delete, #[x, y], #[T, T2]⟩, ty, pos, af, gd⟩ a w next Q := fun es' hm hr => by
    unfold Oper.wp
    have : (execOp a.eval ⟨none, .call ⟨.builtin .delete, #[x, y], #[T, T2]⟩, ty, pos, af, gd⟩).run X.P w = .ok (.value (.tuple #[])) (setBlk w b (.map es' clock)) := by
      simp only [execOp, resolve, invoke, builtin, Sem.run_bind, Sem.run_pure, Result.andThen_ok, List.map_toArray, List.map_cons, List.map_nil, e1, e2, V.real, hr]
    rw [this]
    exact hn _ _ _ kn (Sim.set s hg rfl (mpc b e f (adel k L)) _ (fun k hk => hk) (fun h hh => ⟨hvo', _, _, hh, hm⟩))
  cases hl : alook k L with
  | none =>
    rw [hl] at hal
    rw [findIdx_none hal] at hf
    refine fin es (by rw [adel_none hl]; exact h2) ?_
    simp [Builtin.delete_, ua, run_getB h1, q.chk _ k w hk, q.find, hf, run_setB h1]
  | some v0 =>
    rw [hl] at hal
    obtain ⟨j, hj, hj'⟩ := findIdx_some hal
    rw [hj] at hf
    simp only [Option.bind_some, hj', Option.map_some, Nat.zero_add] at hf
    refine fin (es.eraseIdxIfInBounds j) ?_ ?_
    · have el : (es.eraseIdxIfInBounds j).toList = es.toList.eraseIdx j := by simp
      refine MapIs.mk' (L' := L'.eraseIdx j) ?_ ((erase_adel hnd hj').trans (h3.filter _)) ?_ ?_
      · rw [el]
        have := congrArg (fun l => l.eraseIdx j) h4
        simp only [List.eraseIdx_eq_take_drop_succ, List.map_append, List.map_take, List.map_drop] at this ⊢
        exact this
      · rw [el]
        exact h2.born.sublist ((List.eraseIdx_sublist _ _).map _)
      · rw [el]
        exact fun en hen => h2.below en ((List.eraseIdx_sublist _ _).subset hen)
    · simp [Builtin.delete_, ua, run_getB h1, q.chk _ k w hk, q.find, hf, run_setB h1]

end
end

end Go.Vm
