/- Equality of structs and arrays of plain cells. -/
import Derived.Test.YtimkkhefemnkpaaVm9
namespace Go.Vm

def eqBytes (n : Nat) (xs ys : List Int) : Bool := (List.range n).all fun i => decide (xs.getD i 0 = ys.getD i 0)

/-- '==' at a type, at two values: what it yields; from which depth on. -/
class EqV (P : Program) (T : TypeId) (v v' : V) (b : outParam Bool) (k : outParam Nat) : Prop where
  run : ∀ d w, k ≤ d → (Op.equalIn d T v.real v'.real).run P w = .ok b w
  sh : ∃ g n, Ty P T g n ∧ v.size = n ∧ v'.size = n ∧ v.isAgg = g ∧ v'.isAgg = g
  m1 : v.mem = true
  m2 : v'.mem = true

theorem part_of {P : Program} {T : TypeId} {g : Bool} {n : Nat} (h : Ty P T g n) {cs : List Value} {off : Nat} {u : V} {r : List Value} {w : World} (hc : cs.drop off = u.cells ++ r) (hs : u.size = n) (hg : u.isAgg = g) (hm : u.mem = true) :
    (part T cs.toArray off).run P w = .ok u.real w := by
  have hl := V.cells_length u
  unfold part
  simp only [Sem.run_bind, h.agg, Result.andThen_ok]
  cases g with
  | true =>
    simp only [if_true, Sem.run_bind, h.size, Result.andThen_ok, Sem.run_pure]
    rw [V.real_agg hg]
    congr 2
    rw [List.extract_toArray, List.extract_eq_take_drop, hc]
    rw [show off + n - off = u.cells.length by omega, List.take_left']
    rfl
  | false =>
    have e := V.cells_one hg hm
    rw [e] at hc
    have h0 : cs[off]? = some u.real := by
      have hh := congrArg (·[0]?) hc
      simpa [List.getElem?_drop] using hh
    simp [h0]

theorem Ty.uniq {P : Program} {T : TypeId} {g g' : Bool} {n n' : Nat} (h : Ty P T g n) (h' : Ty P T g' n') : n = n' := by
  have := (h.size default).symm.trans (h'.size default)
  injection this

/-- .. of the fields of a struct, from one on; of how many cells. -/
def EqF (P : Program) (fs : List Field) (off : Nat) (u u' : V) (b : Bool) (k m : Nat) : Prop :=
  u.size = m ∧ u'.size = m ∧ u.mem = true ∧ u'.mem = true ∧ ∀ (xs ys : List Value), xs.drop off = u.cells → ys.drop off = u'.cells → ∀ d w, k ≤ d → (Op.eqFields d xs.toArray ys.toArray fs).run P w = .ok b w

theorem EqF.one {P : Program} {f : Field} {T off k n : Nat} {g : Bool} {u u' : V} {b : Bool} (hT : f.type = T) (ho : f.offset = off) (hn : (f.name != "_") = true) (h : EqV P T u u' b k) (t : Ty P T g n) : EqF P [f] off u u' b k n := by
  subst hT
  obtain ⟨g, n', ty, s1, s2, g1, g2⟩ := h.sh
  have e := ty.uniq t
  subst e
  refine ⟨s1, s2, h.m1, h.m2, fun xs ys hx hy d w hd => ?_⟩
  have p1 := part_of (w := w) ty (cs := xs) (off := off) (u := u) (r := []) (by simpa using hx) s1 g1 h.m1
  have p2 := part_of (w := w) ty (cs := ys) (off := off) (u := u') (r := []) (by simpa using hy) s2 g2 h.m2
  simp only [Op.eqFields]
  rw [if_pos (by simpa using hn), ho]
  simp only [Sem.run_bind, p1, p2, Result.andThen_ok, h.run d w hd]
  cases b <;> simp

theorem EqF.cons {P : Program} {f : Field} {fs : List Field} {T off k k' n m : Nat} {g : Bool} {u u' v v' : V} {b b' : Bool} (hT : f.type = T) (ho : f.offset = off) (hn : (f.name != "_") = true) (h : EqV P T u u' b k) (t : Ty P T g n)
    (r : EqF P fs (off + n) v v' b' k' m) : EqF P (f :: fs) off (.pair u v) (.pair u' v') (b && b') (max k k') (n + m) := by
  subst hT
  obtain ⟨r5, r6, r1, r2, r3⟩ := r
  obtain ⟨g, n', ty, s1, s2, g1, g2⟩ := h.sh
  have e := ty.uniq t
  subst e
  refine ⟨by simp [V.size, s1, r5], by simp [V.size, s2, r6], by simp [V.mem, h.m1, r1], by simp [V.mem, h.m2, r2], fun xs ys hx hy d w hd => ?_⟩
  simp only [V.cells] at hx hy
  have l1 := V.cells_length u
  have l2 := V.cells_length u'
  have p1 := part_of (w := w) ty (cs := xs) (off := off) (u := u) (r := v.cells) hx s1 g1 h.m1
  have p2 := part_of (w := w) ty (cs := ys) (off := off) (u := u') (r := v'.cells) hy s2 g2 h.m2
  have q1 : xs.drop (off + n') = v.cells := by rw [← List.drop_drop, hx, List.drop_left' (by omega)]
  have q2 : ys.drop (off + n') = v'.cells := by rw [← List.drop_drop, hy, List.drop_left' (by omega)]
  simp only [Op.eqFields]
  rw [if_pos (by simpa using hn), ho]
  simp only [Sem.run_bind, p1, p2, Result.andThen_ok, h.run d w (by omega)]
  cases b with
  | false => simp
  | true => simpa using r3 xs ys q1 q2 d w (by omega)

theorem EqV.struct {P : Program} {T : TypeId} {u u' : V} {b : Bool} {k n : Nat} {fs : List Field} (ty : Ty P T true n) (ht : P.underlying T = some (.struct (P.fieldsOf T))) (hp : P.stoodInHeld T = false) (hf : (P.fieldsOf T).toList = fs)
    (h : EqF P fs 0 u u' b k n) (g1 : u.isAgg = true) (g2 : u'.isAgg = true) : EqV P T u u' b (k + 1) where
  run d w hd := by
    obtain ⟨d, rfl⟩ : ∃ e, d = e + 1 := ⟨d - 1, by omega⟩
    rw [V.real_agg g1, V.real_agg g2, run_equalIn_struct w d T _ _ ht hp, hf]
    exact h.2.2.2.2 _ _ (by simp) (by simp) d w (by omega)
  sh := ⟨_, _, ty, h.1, h.2.1, g1, g2⟩
  m1 := h.2.2.1
  m2 := h.2.2.2.1

theorem EqV.int {P : Program} {T : TypeId} {q k : IntKind} {a b : Int} (ty : Ty P T false 1) (u : P.underlying T = some (.int q)) : EqV P T (.int k a) (.int k b) (decide (a = b)) 1 where
  run d w hd := by
    obtain ⟨d, rfl⟩ : ∃ e, d = e + 1 := ⟨d - 1, by omega⟩
    exact run_equalIn_int w d T k q a b u
  sh := ⟨_, _, ty, rfl, rfl, rfl, rfl⟩
  m1 := rfl
  m2 := rfl

theorem EqV.bool {P : Program} {T : TypeId} {a b : Bool} (ty : Ty P T false 1) (u : P.underlying T = some .bool) : EqV P T (.bool a) (.bool b) (a == b) 1 where
  run d w hd := by
    obtain ⟨d, rfl⟩ : ∃ e, d = e + 1 := ⟨d - 1, by omega⟩
    exact run_equalIn_bool' w d T a b u
  sh := ⟨_, _, ty, rfl, rfl, rfl, rfl⟩
  m1 := rfl
  m2 := rfl

theorem EqV.str {P : Program} {T : TypeId} {a b : ByteArray} (ty : Ty P T false 1) (u : P.underlying T = some .string) : EqV P T (.str a) (.str b) (a.toList == b.toList) 1 where
  run d w hd := by
    obtain ⟨d, rfl⟩ : ∃ e, d = e + 1 := ⟨d - 1, by omega⟩
    exact run_equalIn_string w d T a b u
  sh := ⟨_, _, ty, rfl, rfl, rfl, rfl⟩
  m1 := rfl
  m2 := rfl

theorem eqBytes_loop {P : Program} {d E n : Nat} {q : IntKind} {xs ys : List Int} (te : Ty P E false 1) (ue : P.underlying E = some (.int q)) : ∀ (l : List Nat) (w : World), (∀ i ∈ l, i < n) →
    (forIn l ((none : Option Bool), ()) fun i (_ : Option Bool × Unit) => do
      let a ← part E (bcells n xs).toArray (i * 1)
      let b ← part E (bcells n ys).toArray (i * 1)
      let r ← Op.equalIn (d + 1) E a b
      if (!r) = true then pure (ForInStep.done (some false, ())) else pure (ForInStep.yield ((none : Option Bool), ())) : Sem (Option Bool × Unit)).run P w
      = .ok (if (l.all fun i => decide (xs.getD i 0 = ys.getD i 0)) = true then (none, ()) else (some false, ())) w
  | [], w, _ => by simp
  | i :: l, w, h => by
    have hi := h i (by simp)
    have e1 := bcells_get n xs i hi
    have e2 := bcells_get n ys i hi
    have p1 : (part E (bcells n xs).toArray (i * 1)).run P w = .ok (.int .u8 (xs.getD i 0)) w := by
      simp only [part, Sem.run_bind, te.agg, Result.andThen_ok, Bool.false_eq_true, if_false, Nat.mul_one, List.getElem?_toArray, e1, Sem.run_pure]
    have p2 : (part E (bcells n ys).toArray (i * 1)).run P w = .ok (.int .u8 (ys.getD i 0)) w := by
      simp only [part, Sem.run_bind, te.agg, Result.andThen_ok, Bool.false_eq_true, if_false, Nat.mul_one, List.getElem?_toArray, e2, Sem.run_pure]
    rw [List.forIn_cons]
    simp only [Sem.run_bind, p1, p2, Result.andThen_ok, run_equalIn_int w d E .u8 q _ _ ue]
    have hc : (xs.getD i 0 == ys.getD i 0) = decide (xs.getD i 0 = ys.getD i 0) := rfl
    rw [hc]
    by_cases he : xs.getD i 0 = ys.getD i 0
    · simp only [he, decide_true, Bool.not_true, Bool.false_eq_true, if_false, Sem.run_pure, Result.andThen_ok, List.all_cons, Bool.true_and]
      exact eqBytes_loop (d := d) (n := n) (xs := xs) (ys := ys) te ue l w (fun j hj => h j (by simp [hj]))
    · simp only [he, decide_false, Bool.not_false, if_true, Sem.run_pure, Result.andThen_ok, List.all_cons, Bool.false_and, Bool.false_eq_true, if_false]

theorem EqV.bytes {P : Program} {T E n : TypeId} {q : IntKind} {xs ys : List Int} (ty : Ty P T true n) (te : Ty P E false 1) (u : P.underlying T = some (.array n E)) (ue : P.underlying E = some (.int q)) :
    EqV P T (.bytes n xs) (.bytes n ys) (eqBytes n xs ys) 2 where
  run d w hd := by
    obtain ⟨d, rfl⟩ : ∃ e, d = e + 2 := ⟨d - 2, by omega⟩
    show (Op.equalIn (d + 1 + 1) T (.agg (bcells n xs).toArray) (.agg (bcells n ys).toArray)).run P w = _
    have us : (underlying T).run P w = .ok (.array n E) w := by simp [underlying, u]
    rw [Op.equalIn]
    simp only [Sem.run_bind, us, te.size, Result.andThen_ok, Std.Legacy.Range.forIn_eq_forIn_range']
    have hl := eqBytes_loop (d := d) (n := n) (xs := xs) (ys := ys) te ue (List.range' 0 n) w (fun i hi => by simpa using hi)
    have hr : List.range' 0 ([:n] : Std.Legacy.Range).size = List.range' 0 n := by simp [Std.Legacy.Range.size]
    rw [hr, hl]
    simp only [Result.andThen_ok, eqBytes, List.range_eq_range']
    cases (List.range' 0 n).all fun i => decide (xs.getD i 0 = ys.getD i 0) <;> rfl
  sh := ⟨_, _, ty, rfl, rfl, rfl, rfl⟩
  m1 := rfl
  m2 := rfl

section
variable {X : Cx} {st : St} {dst : Option Tmp} {ty : TypeId} {pos : String} {af : Array Edge} {gd : Option (Nat × Bool)}

/-- A type whose values hold no interface. -/
class NoIf (P : Program) (T : TypeId) : Prop where
  eq : P.eqGuardType P.depth T = false

theorem q_eqp {T T' : TypeId} {x y : Operand} {v v' : V} {b : Bool} {k : Nat} [h : EqV X.P T v v' b k] [g : NoIf X.P T] (hx : st.ev x = some v) (hy : st.ev y = some v') (g1 : v.isAgg = true) (g2 : v'.isAgg = true) (hk : Nat.ble k 10000 = true) :
    EvQ X ⟨dst, .binOp .eql T x y T', ty, pos, af, gd⟩ st (.bool b) := fun ac w s _ => by
  obtain ⟨h1, _⟩ := s.ev hx
  obtain ⟨h2, _⟩ := s.ev hy
  refine ⟨?_, trivial⟩
  have e := h.run 10000 w (Nat.le_of_ble_eq_true hk)
  rw [V.real_agg g1, V.real_agg g2] at e
  show ((do pure (Next.value (← (do eqGuard .eql T x y (ac.eval x) (ac.eval y); binOp .eql T (ac.eval x) (ac.eval y)))) : Sem Next)).run X.P w = _
  refine run_v ?_
  rw [h1, h2, V.real_agg g1, V.real_agg g2]
  simp only [Sem.run_bind, run_eqGuard_agg w _ _ _ _ _ _ g.eq, run_eql_struct, e, Result.andThen_ok]
  rfl

theorem q_nep {T T' : TypeId} {x y : Operand} {v v' : V} {b : Bool} {k : Nat} [h : EqV X.P T v v' b k] [g : NoIf X.P T] (hx : st.ev x = some v) (hy : st.ev y = some v') (g1 : v.isAgg = true) (g2 : v'.isAgg = true) (hk : Nat.ble k 10000 = true) :
    EvQ X ⟨dst, .binOp .neq T x y T', ty, pos, af, gd⟩ st (.bool (!b)) := fun ac w s _ => by
  obtain ⟨h1, _⟩ := s.ev hx
  obtain ⟨h2, _⟩ := s.ev hy
  refine ⟨?_, trivial⟩
  have e := h.run 10000 w (Nat.le_of_ble_eq_true hk)
  rw [V.real_agg g1, V.real_agg g2] at e
  show ((do pure (Next.value (← (do eqGuard .neq T x y (ac.eval x) (ac.eval y); binOp .neq T (ac.eval x) (ac.eval y)))) : Sem Next)).run X.P w = _
  refine run_v ?_
  rw [h1, h2, V.real_agg g1, V.real_agg g2]
  simp only [Sem.run_bind, run_eqGuard_agg w _ _ _ _ _ _ g.eq, run_neq_struct, e, Result.andThen_ok]
  rfl

end

theorem eqBytes_iff {n : Nat} {xs ys : List Int} (h1 : xs.length = n) (h2 : ys.length = n) : eqBytes n xs ys = decide (xs = ys) := by
  unfold eqBytes
  rw [Bool.eq_iff_iff]
  simp only [List.all_eq_true, List.mem_range, decide_eq_true_eq]
  constructor
  · intro h
    apply List.ext_getElem (by omega)
    intro i hi hi'
    have := h i (by omega)
    simpa [List.getD, hi, hi'] using this
  · rintro rfl i _
    rfl

end Go.Vm
