/- Literals of slices, slices of slices, copies of strings into arrays, the order of bytes. -/
import Derived.Test.YtimkkhefemnkpaaVm12
import Derived.Lib.Bytealg
namespace Go.Vm

theorem fill_flat {z : Nat} : ∀ (us : List V) (k : Nat) (pre rest : List Value), (∀ u ∈ us, u.size = z ∧ u.mem = true) → pre.length = k * z → rest.length = us.length * z →
    Instr.fill (fun i => some (i * z, z)) (pre ++ rest).toArray ((us.zipIdx k).map fun x => (x.2, x.1.real)) = some (pre ++ us.flatMap V.cells).toArray
  | [], k, pre, rest, _, _, hr => by
    have : rest = [] := List.eq_nil_of_length_eq_zero (by simpa using hr)
    subst this
    simp [Instr.fill]
  | u :: us, k, pre, rest, h, hp, hr => by
    obtain ⟨hu, hm⟩ := h u (by simp)
    have hrc := V.real_cells hm
    have hl := V.cells_length u
    have hsz : u.real.cells.size = z := by rw [← Array.length_toList, hrc]; omega
    simp only [List.length_cons, Nat.add_mul, Nat.one_mul] at hr
    simp only [List.zipIdx_cons, List.map_cons, Instr.fill]
    rw [if_neg (by simp only [hsz, List.size_toArray, List.length_append, ne_eq, not_true_eq_false, Bool.or_eq_true, decide_eq_true_eq, false_or, decide_false, Bool.false_or]; omega)]
    have hf := fold_splice (k * z) u.cells 0 (pre ++ rest) (by simp; omega)
    rw [Nat.add_zero] at hf
    have e : u.real.cells = u.cells.toArray := by rw [← hrc]
    have e2 : (u.real.cells.zipIdx.foldl (fun (cs : Array Value) (x : Value × Nat) => cs.setIfInBounds (k * z + x.2) x.1) (pre ++ rest).toArray) = ((pre ++ u.cells) ++ rest.drop z).toArray := by
      have e3 : splice (pre ++ rest) (k * z) u.cells = (pre ++ u.cells) ++ rest.drop z := by
        unfold splice
        rw [List.take_append_of_le_length (by omega), List.take_of_length_le (by omega), List.drop_append, List.drop_eq_nil_of_le (by omega), List.nil_append]
        congr 2; omega
      rw [e, ← e3, ← hf, ← Array.foldl_toList]
      simp
    rw [e2, fill_flat us (k + 1) (pre ++ u.cells) (rest.drop z) (fun v hv => h v (by simp [hv])) (by simp [Nat.add_mul]; omega) (by simp; omega)]
    simp

section
variable {X : Cx} {tm : List (Nat × V)} {H R : List (Nat × Cell)} {pos : String} {ty : TypeId} {af : Array Edge} {gd : Option (Nat × Bool)} {Kn : St → Prop} {d : Nat}

/-- A literal of a slice, all of whose places are told. -/
theorem Ex.buildSlice {T E : TypeId} {z n by' : Nat} [q : Ela X.P T E z by'] {parts : List (Nat × Operand)} {us : List V} (hd : Nat.blt d X.N = true)
    (hx : evI (St.mk tm H R) parts = some (us.zipIdx.map fun x => (x.2, x.1))) (hn : us.length = n) (hu : us.all (fun u => u.size == z && u.mem) = true) (hb : Nat.ble (n * z) 16777216 = true)
    (k : ∀ b, Kn ⟨(d, .sl d (some b) z 0 n n) :: tm, (d, .vec (some b) E z n n (fun j => us.getD j .unit)) :: H, R⟩) :
    Ex X ⟨some d, .buildSlice T n parts.toArray, ty, pos, af, gd⟩ ⟨tm, H, R⟩ Kn := by
  intro a w s next Q hn'
  obtain ⟨i, zv, ht, hi, hz, hs, hby, hzs⟩ := q.info
  obtain ⟨h1, h2⟩ := s.T.evI hx
  have hu' : ∀ u ∈ us, u.size = z ∧ u.mem = true := fun u h => by
    have := List.all_eq_true.1 hu u h
    simpa using this
  have hvo : ∀ u ∈ us, VOk X.A u := fun u h => by
    obtain ⟨i, hi, he⟩ := List.mem_iff_getElem.1 h
    refine h2 (i, u) (List.mem_map.2 ⟨(u, i), ?_, rfl⟩)
    rw [List.mem_zipIdx_iff_getElem?]
    simp [← he, hi]
  have hb' := Nat.le_of_ble_eq_true hb
  have hp : (parts.toArray.map fun (x : Nat × Operand) => (x.1, a.eval x.2)).toList = us.zipIdx.map fun x => (x.2, x.1.real) := by
    have : (parts.toArray.map fun (x : Nat × Operand) => (x.1, a.eval x.2)).toList = parts.map fun x => (x.1, a.eval x.2) := by simp
    rw [this, h1, List.map_map]; rfl
  have eflat : us.flatMap V.cells = flat n fun j => us.getD j .unit := by
    unfold flat
    have : us = (List.range n).map (fun i => us.getD i .unit) := by
      apply List.ext_getElem?
      intro i
      by_cases hi : i < n
      · simp [hi, hn]
      · simp [hi, hn]
    conv => lhs; rw [this]
    rw [List.flatMap_map]
  have hr : (execOp a.eval ⟨some d, .buildSlice T n parts.toArray, ty, pos, af, gd⟩).run X.P w = .ok (.value (V.sl d (some w.heap.size) z 0 n n).real) (w.alloc (.cells (flat n fun j => us.getD j .unit).toArray E (0, 0))) := by
    show ((do pure (Next.value (← Instr.buildSlice T n (parts.toArray.map fun (i, x) => (i, a.eval x)))) : Sem Next)).run X.P w = _
    refine run_v ?_
    have hfill : ∀ cs : Array Value, cs.size = n * z → Instr.fill (fun i => some (i * z, z)) cs (us.zipIdx.map fun x => (x.2, x.1.real)) = some (flat n fun j => us.getD j .unit).toArray := fun cs hcs => by
      have := fill_flat us 0 [] cs.toList hu' (by simp) (by rw [Array.length_toList, hcs, hn])
      simpa [eflat] using this
    have hle : ¬ (2 ^ 24 < n * z) := by omega
    unfold Instr.buildSlice
    simp only [Sem.run_bind, run_underlying ht, Result.andThen_ok]
    have hsz : (sizeOf E).run X.P w = .ok z w := by simp [sizeOf, typeInfo, hi, hs]
    simp only [hsz, Result.andThen_ok, gt_iff_lt, hle, if_false, hp, Sem.run_bind, Sem.run_pure]
    by_cases h0 : n * z = 0
    · simp only [h0, if_true, Sem.run_bind, Sem.run_pure, Result.andThen_ok]
      rw [hfill _ (by simp [h0])]
      simp [V.real, newRow]
    · simp only [h0, if_false, Sem.run_bind, Sem.run_pure]
      have hzr : (zeroValue E).run X.P w = .ok zv w := by simp [zeroValue, typeInfo, hi, hz]
      simp only [hzr, Result.andThen_ok]
      rw [hfill _ (by simp)]
      simp [V.real, newRow]
  unfold Oper.wp
  rw [hr]
  refine hn' _ _ _ (k w.heap.size) (Sim.put (Sim.alloc s d (.vec (some w.heap.size) E z n n fun j => us.getD j .unit) _ (fun b hb => by simpa [Cell.blk, eq_comm] using hb) (fun h hh => ?_)) trivial (Nat.le_of_ble_eq_true hd))
  refine ⟨Nat.le_refl _, fun i hi => ?_, [], by rw [List.append_nil]; exact hh, by simp⟩
  have : us.getD i .unit ∈ us := by
    rw [List.getD_eq_getElem?_getD, List.getElem?_eq_getElem (by omega)]
    exact List.getElem_mem _
  exact ⟨(hu' _ this).1, (hu' _ this).2, hvo _ this⟩

end

theorem Rd.lit {α : Type} [Inhabited α] {H R : List (Nat × Cell)} {z t b cap cap' n : Nat} {T : TypeId} {us : List V} {e : α → V} (l : List α) (h : get t H = some (.vec (some b) T z cap n (fun j => us.getD j .unit))) (hl : us = l.map e) (hn : l.length = n) :
    Rd H R z e (.sl t (some b) z 0 cap' n) l := by
  refine .own h (by omega) hn fun j hj => ?_
  subst hl
  simp [lat, List.getD, List.getElem?_eq_getElem (show j < l.length by omega)]

section
variable {X : Cx} {st : St} {dst : Option Tmp} {ty : TypeId} {pos : String} {af : Array Edge} {gd : Option (Nat × Bool)}

theorem q_slice_sl {T E : TypeId} {z : Nat} [u : Slc X.P T E z] {x : Operand} {lo hi : Option Operand} {t b i cap n : Nat} {l h : Int} (hx : st.ev x = some (.sl t (some b) z i cap n)) (hl : evB st 0 lo = some l) (hh : evB st n hi = some h)
    (h0 : 0 ≤ l) (h1 : l ≤ h) (h2 : h ≤ cap) : EvQ X ⟨dst, .slice T x lo hi none, ty, pos, af, gd⟩ st (.sl t (some b) z (if cap = l.toNat then i else i + l.toNat) (cap - l.toNat) (h.toNat - l.toNat)) := fun a w s _ => by
  obtain ⟨e1, _⟩ := s.ev hx
  refine ⟨?_, trivial⟩
  show ((do pure (Next.value (← Instr.sliceAt T (a.eval x) (lo.map a.eval) (hi.map a.eval) none)) : Sem Next)).run X.P w = _
  refine run_v ?_
  rw [e1]
  simp only [Instr.sliceAt, Instr.slice, Sem.run_bind, u.und, Result.andThen_ok, V.real, Sem.run_pure, bounds_run s hl hh h0 h1 h2, u.size, Option.map_some]
  split <;> rename_i hc
  · rfl
  · rw [add_none, Nat.add_mul]

theorem bounds_nil {P : Program} {w : World} {X : Cx} {st : St} {a : Act} (s : SimT X st a) {lo hi : Option Operand} {l h : Int} (hl : evB st 0 lo = some l) (hh : evB st 0 hi = some h) (h0 : 0 ≤ l) (h1 : l ≤ h) (h2 : h ≤ 0) (b : Bool) :
    (Instr.sliceBounds b 0 0 (lo.map a.eval) (hi.map a.eval) none).run P w = .ok (0, 0, 0) w := by
  have := bounds_run (P := P) (w := w) (b := b) (m := 0) s hl hh h0 h1 (by omega)
  rw [this]
  have e1 : l.toNat = 0 := by omega
  have e2 : h.toNat = 0 := by omega
  rw [e1, e2]

/-- The same, where it may be nil. -/
theorem h_slice_sla {T E : TypeId} {z : Nat} [u : Slc X.P T E z] {x : Operand} {lo hi : Option Operand} {t cap n n' : Nat} {a : Option Nat} {T' : TypeId} {f : Nat → V} {l h : Int} (hx : st.ev x = some (.sl t a z 0 cap n)) (hg : get t st.H = some (.vec a T' z cap n' f)) (hn : n ≤ n') (hl : evB st 0 lo = some l) (hh : evB st n hi = some h)
    (h0 : 0 ≤ l) (h1 : l ≤ h) (h2 : h ≤ cap) : EvH X ⟨dst, .slice T x lo hi none, ty, pos, af, gd⟩ st (.sl t a z (if cap = l.toNat then 0 else 0 + l.toNat) (cap - l.toNat) (h.toNat - l.toNat)) := fun ac w s => by
  cases a with
  | some b => exact q_slice_sl hx hl hh h0 h1 h2 ac w s.T s.has
  | none =>
    have hc : n' = 0 ∧ cap = 0 := (s.hp _ _ hg).1
    obtain ⟨hc1, rfl⟩ := hc
    have : n = 0 := by omega
    subst this
    obtain ⟨e1, _⟩ := s.T.ev hx
    refine ⟨?_, trivial⟩
    have e2 : l.toNat = 0 := by omega
    have e3 : h.toNat = 0 := by omega
    show ((do pure (Next.value (← Instr.sliceAt T (ac.eval x) (lo.map ac.eval) (hi.map ac.eval) none)) : Sem Next)).run X.P w = _
    refine run_v ?_
    rw [e1]
    simp only [Instr.sliceAt, Instr.slice, Sem.run_bind, u.und, Result.andThen_ok, V.real, Sem.run_pure, bounds_nil s.T hl hh h0 h1 (by omega) true, u.size, Option.map_none, e2, e3, Nat.sub_zero]
    try rfl

theorem q_slice_sla {T E : TypeId} {z : Nat} [u : Slc X.P T E z] {x : Operand} {lo hi : Option Operand} {t cap n n' : Nat} {a : Option Nat} {T' : TypeId} {f : Nat → V} {l h : Int} (hx : st.ev x = some (.sl t a z 0 cap n)) (hg : get t st.R = some (.vec a T' z cap n' f)) (hn : n ≤ n') (hl : evB st 0 lo = some l) (hh : evB st n hi = some h)
    (h0 : 0 ≤ l) (h1 : l ≤ h) (h2 : h ≤ cap) : EvQ X ⟨dst, .slice T x lo hi none, ty, pos, af, gd⟩ st (.sl t a z (if cap = l.toNat then 0 else 0 + l.toNat) (cap - l.toNat) (h.toNat - l.toNat)) := fun ac w s hw => by
  cases a with
  | some b => exact q_slice_sl hx hl hh h0 h1 h2 ac w s hw
  | none =>
    have hc : n' = 0 ∧ cap = 0 := s.ro _ _ hg
    obtain ⟨hc1, rfl⟩ := hc
    have : n = 0 := by omega
    subst this
    obtain ⟨e1, _⟩ := s.ev hx
    refine ⟨?_, trivial⟩
    have e2 : l.toNat = 0 := by omega
    have e3 : h.toNat = 0 := by omega
    show ((do pure (Next.value (← Instr.sliceAt T (ac.eval x) (lo.map ac.eval) (hi.map ac.eval) none)) : Sem Next)).run X.P w = _
    refine run_v ?_
    rw [e1]
    simp only [Instr.sliceAt, Instr.slice, Sem.run_bind, u.und, Result.andThen_ok, V.real, Sem.run_pure, bounds_nil s hl hh h0 h1 (by omega) true, u.size, Option.map_none, e2, e3, Nat.sub_zero]
    try rfl

theorem q_slice_ros {T E : TypeId} {z : Nat} [u : Slc X.P T E z] {x : Operand} {lo hi : Option Operand} {ad : Option Addr} {cap n : Nat} {f : Nat → V} {l h : Int} (hx : st.ev x = some (.ros ad cap n f)) (hz : ∀ j, (f j).size = z)
    (hl : evB st 0 lo = some l) (hh : evB st n hi = some h) (h0 : 0 ≤ l) (h1 : l ≤ h) (h2 : h ≤ n) :
    EvQ X ⟨dst, .slice T x lo hi none, ty, pos, af, gd⟩ st (.ros (if cap = l.toNat then ad else ad.map (·.add (l.toNat * z))) (cap - l.toNat) (h.toNat - l.toNat) (fun j => f (l.toNat + j))) := fun a w s _ => by
  obtain ⟨e1, hv⟩ := s.ev hx
  obtain ⟨g0, g1, g2⟩ := hv
  refine ⟨?_, by omega, fun i hi => g1 _ (by omega), ?_⟩
  · show ((do pure (Next.value (← Instr.sliceAt T (a.eval x) (lo.map a.eval) (hi.map a.eval) none)) : Sem Next)).run X.P w = _
    refine run_v ?_
    rw [e1]
    simp only [Instr.sliceAt, Instr.slice, Sem.run_bind, u.und, Result.andThen_ok, V.real, Sem.run_pure, bounds_run (m := cap) s hl hh h0 h1 (by omega), u.size]
  · by_cases hn : h.toNat - l.toNat = 0
    · exact .inl hn
    · right
      rcases g2 with g2 | ⟨ad', c, T', fr, z', rfl, hs, hc, hcell⟩
      · omega
      have hzz : z' = z := by have := (hcell 0 (by omega)).1; rw [hz] at this; exact this.symm
      subst hzz
      obtain ⟨b, o, sp⟩ := ad'
      simp only at hs; subst hs
      rw [if_neg (by omega)]
      refine ⟨⟨b, o + l.toNat * z', none⟩, c, T', fr, z', by simp [add_none], rfl, hc, fun i hi => ⟨hz _, fun j hj => ?_⟩⟩
      rw [← (hcell (l.toNat + i) (by omega)).2 j hj]
      simp only [Nat.add_mul]
      congr 1; omega

end

/-! ### copies -/

section
variable {X : Cx} {tm : List (Nat × V)} {H R : List (Nat × Cell)} {pos : String} {ty : TypeId} {af : Array Edge} {gd : Option (Nat × Bool)} {Kn : St → Prop} {d : Nat}

/-- The bytes of a text laid into an array of bytes. -/
theorem Ex.copyStr {T1 T2 E T : TypeId} {z : Nat} [u : Slc X.P T1 E z] {x y : Operand} {t b o cap n : Nat} {v : V} {s' : ByteArray} (v' : V) (hd : Nat.blt d X.N = true)
    (hx : (St.mk tm H R).ev x = some (.bsl t b o cap n)) (hy : (St.mk tm H R).ev y = some (.str s')) (hg : get t H = some (.box b T v)) (hn : Nat.ble s'.size n = true) (hz : z = 1) (ho : Nat.ble (o + s'.size) v.size = true)
    (hv : v'.cells = splice v.cells o (s'.data.toList.map fun c => Value.int .u8 (c.toNat : Int))) (hm : v'.mem = true) (hok : ∀ A, VOk A v → VOk A v')
    (k : Kn ⟨(d, .int .i64 s'.size) :: tm, (t, .box b T v') :: H, R⟩) :
    Ex X ⟨some d, .call ⟨.builtin .copy, #[x, y], #[T1, T2]⟩, ty, pos, af, gd⟩ ⟨tm, H, R⟩ Kn := by
  intro a w s next Q hnx
  obtain ⟨e1, _⟩ := s.ev hx
  obtain ⟨e2, _⟩ := s.ev hy
  obtain ⟨⟨h3, h4, h5⟩, h6⟩ := s.hp t _ hg
  subst hz
  have hn' := Nat.le_of_ble_eq_true hn
  have ho' := Nat.le_of_ble_eq_true ho
  have hl := V.cells_length v
  have hlen : (s'.data.toList.map fun c => Value.int .u8 (c.toNat : Int)).length = s'.size := by rw [List.length_map, Array.length_toList]; rfl
  have hst := run_storeCells (P := X.P) (b := b) (T := T) (o := o) (s'.data.toList.map fun c => Value.int .u8 (c.toNat : Int)) 0 w v.cells (by simp [Value.oneCell']) h3 (by rw [hlen]; omega)
  rw [Nat.add_zero, ← hv] at hst
  have hmin : Nat.min s'.size n = s'.size := Nat.min_eq_left hn'
  have hr : (execOp a.eval ⟨some d, .call ⟨.builtin .copy, #[x, y], #[T1, T2]⟩, ty, pos, af, gd⟩).run X.P w = .ok (.value (V.int .i64 s'.size).real) (setBlk w b (.cells v'.cells.toArray T (0, 0))) := by
    simp only [execOp, resolve, invoke, builtin, Sem.run_bind, Sem.run_pure, Result.andThen_ok, List.map_toArray, List.map_cons, List.map_nil, e1, e2]
    have : (Builtin.copy_ #[T1, T2] ty #[(V.bsl t b o cap n).real, (V.str s').real]).run X.P w = .ok (V.int .i64 s'.size).real (setBlk w b (.cells v'.cells.toArray T (0, 0))) := by
      simp [Builtin.copy_, V.real, u.und, u.size, Builtin.lenOf, hmin, Builtin.firstCells, goInt]
      have e9 : List.take s'.size (List.map (fun b : UInt8 => Value.int IntKind.u8 (b.toNat : Int)) s'.data.toList) = s'.data.toList.map fun c => Value.int .u8 (c.toNat : Int) := List.take_of_length_le (by rw [hlen]; exact Nat.le_refl _)
      rw [e9, hst]
      rfl
    simp [this]
  unfold Oper.wp
  rw [hr]
  exact hnx _ _ _ k (Sim.put (Sim.set s hg rfl (.box b T v') _ (fun k hk => hk) (fun h hh => ⟨hh, hm, hok _ h5⟩)) trivial (Nat.le_of_ble_eq_true hd))

end

/-! ### the order of bytes -/

def u8s (l : List Int) : List UInt8 := l.map fun x => UInt8.ofNat x.toNat

section
variable {X : Cx} {st : St} {dst : Option Tmp} {ty : TypeId} {pos : String} {af : Array Edge} {gd : Option (Nat × Bool)}

theorem bytesOf_ros {P : Program} {A : Fr} {w : World} {ad : Option Addr} {cap n : Nat} {l : List Int} (hw : Has A w) (hl : l.length = n) (h : VOk A (.ros ad cap n (fun j => .int .u8 (l.getD j 0)))) :
    (Extern.Bytes.bytesOf (V.ros ad cap n (fun j => .int .u8 (l.getD j 0))).real).run P w = .ok ⟨(u8s l).toArray⟩ w := by
  have hw' := h
  obtain ⟨h0, h1, h2⟩ := h
  cases ad with
  | none =>
    rcases h2 with h2 | ⟨_, _, _, _, _, h, _⟩
    · subst h2
      have : l = [] := List.eq_nil_of_length_eq_zero hl
      subst this
      simp [V.real, Extern.Bytes.bytesOf, u8s, ByteArray.empty, ByteArray.emptyWithCapacity]
      rfl
    · cases h
  | some ad =>
    rcases h2 with h2 | ⟨ad', c, T, fr, z, e, hs, hc, hcell⟩
    · subst h2
      have : l = [] := List.eq_nil_of_length_eq_zero hl
      subst this
      simp [V.real, Extern.Bytes.bytesOf, Extern.Bytes.loadBytes, u8s, ByteArray.empty, ByteArray.emptyWithCapacity]
      rfl
    · simp only [Option.some.injEq] at e
      subst e
      obtain ⟨b, o, sp⟩ := ad
      simp only at hs; subst hs
      have hb := ros_bytes hw hl hw'
      simp only [V.real, Extern.Bytes.bytesOf]
      rw [← hl, extLoad_run l o .empty (by rw [hl]; exact hb)]
      simp [ByteArray.empty, ByteArray.emptyWithCapacity, u8s]
      rfl

theorem q_bcmp {f : FuncId} {fn : Func} {x y : Operand} {ts : Array TypeId} {ad ad' : Option Addr} {cap cap' n n' : Nat} {l l' : List Int}
    (hf : X.P.funcs[f]? = some fn) (h1 : (fn.name == "runtime.NumGoroutine") = false) (h2 : fn.body.isNone = true) (h3 : Extern.findNext fn = none) (h4 : Extern.find fn = some Extern.BytealgCompare.compare)
    (hx : st.ev x = some (.ros ad cap n (fun j => .int .u8 (l.getD j 0)))) (hy : st.ev y = some (.ros ad' cap' n' (fun j => .int .u8 (l'.getD j 0)))) (hl : l.length = n) (hl' : l'.length = n') :
    EvQ X ⟨dst, .call ⟨.value (.func f), #[x, y], ts⟩, ty, pos, af, gd⟩ st (.int .i64 (Lib.compareBytes (u8s l) (u8s l'))) := fun a w s hw => by
  obtain ⟨e1, v1⟩ := s.ev hx
  obtain ⟨e2, v2⟩ := s.ev hy
  refine ⟨?_, trivial⟩
  have hw' := hw.mono s.le
  have r1 := bytesOf_ros (P := X.P) hw' hl v1
  have r2 := bytesOf_ros (P := X.P) hw' hl' v2
  have e0 : a.eval (.func f) = .func (.func f) #[] #[] := rfl
  simp only [execOp, resolve, invoke, Sem.run_bind, Sem.run_pure, Result.andThen_ok, List.map_toArray, List.map_cons, List.map_nil, e1, e2, e0, Deferred.ofValue]
  simp only [Array.empty_append]
  rw [run_callFunc_extern hf h1 h2 h3 h4]
  have : (Extern.BytealgCompare.compare #[(V.ros ad cap n (fun j => .int .u8 (l.getD j 0))).real, (V.ros ad' cap' n' (fun j => .int .u8 (l'.getD j 0))).real]).run X.P w = .ok (.int .i64 (Lib.compareBytes (u8s l) (u8s l'))) w := by
    change Sem.run X.P (do pure (goInt (Extern.BytealgCompare.cmp (← Extern.Bytes.bytesOf (V.ros ad cap n fun j => V.int IntKind.u8 (l.getD j 0)).real) (← Extern.Bytes.bytesOf (V.ros ad' cap' n' fun j => V.int IntKind.u8 (l'.getD j 0)).real)))) w = _
    simp only [Sem.run_bind, r1, r2, Result.andThen_ok, Sem.run_pure, Lib.cmp_eq, goInt]
  rw [Array.append_empty, this]
  rfl

end

/-! ### the way out of code that is left by return -/

theorem Kseq.ret {X : Cx} {y : Code} {K : Exit → St → Prop} {st : St} (h : K .ret st) : Kseq X y K .ret st := h
theorem Kblock.ret {id : Nat} {K : Exit → St → Prop} {st : St} (h : K .ret st) : Kblock id K .ret st := h
theorem Kloop.ret {X : Cx} {β : Type} {Φ : β → Prop} {I : β → St} {μ : β → Nat} {x : β} {K : Exit → St → Prop} {st : St} (h : K .ret st) : Kloop X Φ I μ x K .ret st := h


theorem Spec.args {P : Program} {f : FuncId} {vs vs' : List V} {H : List (Nat × Cell)} {post : V → List (Nat × Cell) → Prop} (h : Spec P f vs' H post) (hr : vs'.map V.real = vs.map V.real)
    (hok : ∀ A, (∀ v ∈ vs, VOk A v) → ∀ v ∈ vs', VOk A v) : Spec P f vs H post := fun A F w h1 h2 h3 => by
  have := h A F w h1 h2 (hok A h3)
  rw [hr] at this
  exact this

theorem VOk.ros_congr {A : Fr} {a : Option Addr} {cap n : Nat} {f g : Nat → V} (h : ∀ j, j < n → g j = f j) (hv : VOk A (.ros a cap n f)) : VOk A (.ros a cap n g) := by
  obtain ⟨h0, h1, h2⟩ := hv
  refine ⟨h0, fun i hi => by rw [h i hi]; exact h1 i hi, h2.imp id ?_⟩
  rintro ⟨ad, c, T, fr, z, e, hs, hc, hcell⟩
  exact ⟨ad, c, T, fr, z, e, hs, hc, fun i hi => by rw [h i hi]; exact hcell i hi⟩

end Go.Vm
