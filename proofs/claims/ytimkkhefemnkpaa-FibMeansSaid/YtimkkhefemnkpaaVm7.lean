/- Literals, builtins, calls and contracts. -/
import Derived.Test.YtimkkhefemnkpaaVm6
namespace Go.Vm

/-! ### literals of structs and arrays -/

theorem fold_splice (off : Nat) : ∀ (vs : List Value) (k : Nat) (cs : List Value), off + k + vs.length ≤ cs.length →
    (vs.zipIdx k).foldl (fun (acc : Array Value) (x : Value × Nat) => acc.setIfInBounds (off + x.2) x.1) cs.toArray = (splice cs (off + k) vs).toArray
  | [], k, cs, _ => by simp [splice_nil]
  | v :: vs, k, cs, h => by
    simp only [List.length_cons] at h
    rw [List.zipIdx_cons, List.foldl_cons]
    simp only
    rw [List.setIfInBounds_toArray, fold_splice off vs (k + 1) _ (by simp; omega)]
    rw [show off + (k + 1) = off + k + 1 by omega, splice_step (by omega)]

def bldV (pl : Array (Nat × Nat)) : List (Nat × V) → V → Option V
  | [], z => some z
  | (i, u) :: r, z =>
    match pl[i]? with
    | none => none
    | some (off, n) => bif n == u.size && u.mem then
        match V.upd u z off with
        | some z' => bldV pl r z'
        | none => none
      else none

class Bld (P : Program) (T : TypeId) (z : outParam V) (pl : outParam (Array (Nat × Nat))) : Prop where
  run : ∀ (parts : Array (Nat × Value)) w (cells : Array Value), Instr.fill (pl[·]?) z.cells.toArray parts.toList = some cells → (Instr.build T parts).run P w = .ok (.agg cells) w
  agg : z.isAgg = true
  mem : z.mem = true
  ok : ∀ A, VOk A z

theorem bld_fill {pl : Array (Nat × Nat)} : ∀ {us : List (Nat × V)} {z v : V}, bldV pl us z = some v → z.mem = true → Instr.fill (pl[·]?) z.cells.toArray (us.map fun x => (x.1, x.2.real)) = some v.cells.toArray
  | [], z, v, h, _ => by simp only [bldV, Option.some.injEq] at h; subst h; rfl
  | (i, u) :: r, z, v, h, hm => by
    simp only [bldV] at h
    cases hp : pl[i]? with
    | none => rw [hp] at h; simp at h
    | some on =>
      obtain ⟨off, n⟩ := on
      rw [hp] at h
      simp only at h
      cases hc : (n == u.size && u.mem) with
      | false => simp [hc] at h
      | true =>
        simp only [hc, cond_true] at h
        simp only [Bool.and_eq_true, beq_iff_eq] at hc
        obtain ⟨rfl, hum⟩ := hc
        cases hu : V.upd u z off with
        | none => rw [hu] at h; simp at h
        | some z' =>
          rw [hu] at h
          simp only at h
          obtain ⟨i1, i2, i3, i4, i5⟩ := V.upd_spec hum hu
          have hl := V.cells_length u
          have hz := V.cells_length z
          have hrc := V.real_cells hum
          have hsz : u.real.cells.size = u.size := by rw [← Array.length_toList, hrc]; exact hl
          simp only [List.map_cons, Instr.fill, hp]
          rw [if_neg (by simp [hsz, hz]; omega)]
          have e : u.real.cells = u.cells.toArray := by rw [← hrc]
          have hf := fold_splice off u.cells 0 z.cells (by omega)
          rw [Nat.add_zero] at hf
          have : (u.real.cells.zipIdx.foldl (fun (cs : Array Value) (x : Value × Nat) => cs.setIfInBounds (off + x.2) x.1) z.cells.toArray) = z'.cells.toArray := by
            rw [e, i4, ← hf]
            rw [← Array.foldl_toList]
            simp
          rw [this]
          exact bld_fill h (i5 hm)

theorem bldV_agg {pl : Array (Nat × Nat)} {A : Fr} : ∀ {us : List (Nat × V)} {z v : V}, bldV pl us z = some v → z.isAgg = true → VOk A z → (∀ x ∈ us, VOk A x.2) → v.isAgg = true ∧ VOk A v
  | [], z, v, h, hg, ho, _ => by simp only [bldV, Option.some.injEq] at h; subst h; exact ⟨hg, ho⟩
  | (i, u) :: r, z, v, h, hg, ho, hx => by
    simp only [bldV] at h
    cases hp : pl[i]? with
    | none => rw [hp] at h; simp at h
    | some on =>
      obtain ⟨off, n⟩ := on
      rw [hp] at h
      simp only at h
      cases hc : (n == u.size && u.mem) with
      | false => simp [hc] at h
      | true =>
        simp only [hc, cond_true] at h
        simp only [Bool.and_eq_true, beq_iff_eq] at hc
        cases hu : V.upd u z off with
        | none => rw [hu] at h; simp at h
        | some z' =>
          rw [hu] at h
          simp only at h
          obtain ⟨i1, i2, i3, i4, i5⟩ := V.upd_spec hc.2 hu
          exact bldV_agg h (i2.trans hg) ((hx (i, u) (by simp)).upd ho hu) (fun x hx' => hx x (by simp [hx']))

def evI (st : St) : List (Nat × Operand) → Option (List (Nat × V))
  | [] => some []
  | (i, x) :: r => match st.ev x with
    | none => none
    | some v => (evI st r).map ((i, v) :: ·)

theorem SimT.evI {X : Cx} {st : St} {a : Act} (s : SimT X st a) : ∀ {xs : List (Nat × Operand)} {vs : List (Nat × V)}, Vm.evI st xs = some vs →
    xs.map (fun x => (x.1, a.eval x.2)) = vs.map (fun x => (x.1, x.2.real)) ∧ ∀ x ∈ vs, VOk X.A x.2
  | [], vs, h => by simp only [Vm.evI, Option.some.injEq] at h; subst h; simp
  | (i, x) :: r, vs, h => by
    simp only [Vm.evI] at h
    cases hx : st.ev x with
    | none => rw [hx] at h; simp at h
    | some v =>
      rw [hx] at h
      simp only [Option.map_eq_some_iff] at h
      obtain ⟨vr, hr, rfl⟩ := h
      obtain ⟨h1, h2⟩ := s.ev hx
      obtain ⟨h3, h4⟩ := s.evI hr
      refine ⟨by simp [h1, h3], fun u hu => ?_⟩
      rcases List.mem_cons.1 hu with rfl | hu
      · exact h2
      · exact h4 u hu

section
variable {X : Cx} {st : St} {dst : Option Tmp} {ty : TypeId} {pos : String} {af : Array Edge} {gd : Option (Nat × Bool)}

theorem q_build {T : TypeId} {z v : V} {pl : Array (Nat × Nat)} [b : Bld X.P T z pl] {parts : List (Nat × Operand)} {us : List (Nat × V)} (hx : evI st parts = some us) (hv : bldV pl us z = some v) :
    EvQ X ⟨dst, .build T parts.toArray, ty, pos, af, gd⟩ st v := fun a w s _ => by
  obtain ⟨h1, h2⟩ := s.evI hx
  obtain ⟨h3, h4⟩ := bldV_agg hv b.agg (b.ok _) h2
  refine ⟨?_, h4⟩
  show ((do pure (Next.value (← Instr.build T (parts.toArray.map fun (i, x) => (i, a.eval x)))) : Sem Next)).run X.P w = _
  refine run_v ?_
  rw [V.real_agg h3]
  refine b.run _ _ _ ?_
  have : (parts.toArray.map fun (x : Nat × Operand) => (x.1, a.eval x.2)).toList = us.map fun x => (x.1, x.2.real) := by simpa using h1
  rw [this]
  exact bld_fill hv b.mem

/-! ### builtins -/

theorem q_builtin {b : Builtin} {args : List Operand} {ts : Array TypeId} {vs : List V} {v : V} (hx : evs st args = some vs) (hv : ∀ A, (∀ u ∈ vs, VOk A u) → VOk A v)
    (h : ∀ consts w, Has X.F w → (builtin b ts ty consts (vs.map V.real).toArray).run X.P w = .ok (.value v.real) w) : EvQ X ⟨dst, .call ⟨.builtin b, args.toArray, ts⟩, ty, pos, af, gd⟩ st v := fun a w s hw => by
  obtain ⟨h1, h2⟩ := s.evs hx
  refine ⟨?_, hv _ h2⟩
  have e : args.toArray.map a.eval = (vs.map V.real).toArray := by simp [h1]
  simp only [execOp, resolve, invoke, Sem.run_bind, Sem.run_pure, Result.andThen_ok, e]
  exact h _ w hw

def V.len : V → Option Nat
  | .sl _ _ _ _ _ n => some n
  | .bsl _ _ _ _ n => some n
  | .ros _ _ n _ => some n
  | _ => none

theorem q_len_slice {x : Operand} {t E : TypeId} {z : Nat} [u : Slc X.P t E z] {v : V} {n : Nat} (hx : evs st [x] = some [v]) (hn : v.len = some n) :
    EvQ X ⟨dst, .call ⟨.builtin .len, #[x], #[t]⟩, ty, pos, af, gd⟩ st (.int .i64 n) := by
  refine q_builtin (args := [x]) hx (fun _ _ => trivial) fun consts w _ => ?_
  have hv : ∃ ad cap, v.real = .slice ad n cap := by
    cases v <;> simp only [V.len, Option.some.injEq, reduceCtorEq] at hn <;> subst hn
    case sl t a z i cap n => cases a <;> exact ⟨_, _, rfl⟩
    case bsl => exact ⟨_, _, rfl⟩
    case ros => exact ⟨_, _, rfl⟩
  obtain ⟨ad, cap, e⟩ := hv
  simp [builtin, Builtin.len_, e, u.und, V.real, goInt]

theorem q_len_string {x : Operand} {t : TypeId} [u : Und X.P t .string] {b : ByteArray} (hx : evs st [x] = some [.str b]) :
    EvQ X ⟨dst, .call ⟨.builtin .len, #[x], #[t]⟩, ty, pos, af, gd⟩ st (.int .i64 b.size) := by
  refine q_builtin (args := [x]) hx (fun _ _ => trivial) fun consts w _ => ?_
  simp [builtin, Builtin.len_, V.real, goInt, underlying, u.eq]

theorem q_max {x y : Operand} {ts : Array TypeId} {k k' : IntKind} {a b : Int} (hx : evs st [x, y] = some [.int k a, .int k' b]) :
    EvQ X ⟨dst, .call ⟨.builtin .max, #[x, y], ts⟩, ty, pos, af, gd⟩ st (.int k (max a b)) := by
  refine q_builtin (args := [x, y]) hx (fun _ _ => trivial) fun consts w _ => ?_
  have : (if b > a then b else a) = max a b := by rw [Int.max_def]; split <;> split <;> omega
  simp [builtin, Builtin.max_, Builtin.max2, V.real, this]

theorem q_min {x y : Operand} {ts : Array TypeId} {k k' : IntKind} {a b : Int} (hx : evs st [x, y] = some [.int k a, .int k' b]) :
    EvQ X ⟨dst, .call ⟨.builtin .min, #[x, y], ts⟩, ty, pos, af, gd⟩ st (.int k (min a b)) := by
  refine q_builtin (args := [x, y]) hx (fun _ _ => trivial) fun consts w _ => ?_
  have : (if b < a then b else a) = min a b := by rw [Int.min_def]; split <;> split <;> omega
  simp [builtin, Builtin.min_, Builtin.min2, V.real, this]

end

/-! ### contracts -/

/-- What a world must hold for a call: a frame, and blocks of its own. -/
structure HOk (A F : Fr) (H : List (Nat × Cell)) (w : World) : Prop where
  has : Has F w
  hp : ∀ t c, get t H = some c → CellIn A (fun b => w.heap[b]?) c ∧ ∀ b, c.blk b → F.c b = none
  dj : ∀ t u c c', t ≠ u → get t H = some c → get u H = some c' → ∀ b, c.blk b → ¬ c'.blk b

/-- From whatever world that holds these objects: the call comes back, with a value and objects as told; the frame stands. (A: what is read for good.) -/
def Spec (P : Program) (f : FuncId) (args : List V) (H : List (Nat × Cell)) (post : V → List (Nat × Cell) → Prop) : Prop :=
  ∀ A F w, A.le F → HOk A F H w → (∀ v ∈ args, VOk A v) → Calls P f (args.map V.real).toArray w fun e w' => ∃ r H', post r H' ∧ e = .returned r.real ∧ VOk A r ∧ HOk A F H' w'

/-- A function that only reads and reckons: its one value; nothing else is left of it. -/
def SpecQ (P : Program) (f : FuncId) (args : List V) (r : V) : Prop := Spec P f args [] fun v H' => v = r ∧ H' = []

/-- The blocks of some objects, with what they hold, put beside a frame. -/
noncomputable def frame (F : Fr) (H : List (Nat × Cell)) (w : World) : Fr := by
  classical
  exact { F with c := fun b => match F.c b with
    | some o => some o
    | none => if ∃ t c, get t H = some c ∧ c.blk b then w.heap[b]? else none }

theorem frame_le (F : Fr) (H : List (Nat × Cell)) (w : World) : F.le (frame F H w) := ⟨fun b o h => by simp only [frame, h], rfl, rfl, rfl, Nat.le_refl _⟩

theorem frame_in {A F : Fr} {H : List (Nat × Cell)} {w : World} (h : ∀ t c, get t H = some c → CellIn A (fun b => w.heap[b]?) c ∧ ∀ b, c.blk b → F.c b = none) {t : Nat} {c : Cell} (hg : get t H = some c) {b : Nat} (hb : c.blk b) :
    (frame F H w).c b = w.heap[b]? := by
  simp only [frame, (h t c hg).2 b hb]
  exact if_pos ⟨t, c, hg, hb⟩

theorem frame_out {F : Fr} {H : List (Nat × Cell)} {w : World} {b : Nat} (h : F.c b = none) (hn : ¬ ∃ t c, get t H = some c ∧ c.blk b) : (frame F H w).c b = none := by
  simp only [frame, h]
  exact if_neg hn

theorem frame_has {F : Fr} {H : List (Nat × Cell)} {w : World} (h : Has F w) : Has (frame F H w) w := by
  refine ⟨fun b o hb => ?_, h.os, h.out, h.tape, h.dr⟩
  cases hc : F.c b with
  | some o' =>
    simp only [frame, hc] at hb
    rw [← hb]
    exact h.cells b o' hc
  | none =>
    simp only [frame, hc] at hb
    split at hb
    · exact hb
    · cases hb

/-- Two ways to look at one value: what is the call's own may be read as if it were the frame's. -/
inductive Frz (H : List (Nat × Cell)) : V → V → Prop
  | same (v : V) : Frz H v v
  | sl {t b z cap n : Nat} {T : TypeId} {f : Nat → V} (h : get t H = some (.vec (some b) T z cap n f)) : Frz H (.sl t (some b) z 0 cap n) (.ros (some ⟨b, 0, none⟩) cap n f)
  | sub {t b z i cap cap' n m : Nat} {T : TypeId} {f : Nat → V} (h : get t H = some (.vec (some b) T z cap' m f)) (h1 : i + n ≤ m) (h2 : n ≤ cap) : Frz H (.sl t (some b) z i cap n) (.ros (some ⟨b, i * z, none⟩) cap n (fun j => f (i + j)))
  | nil {t z i cap : Nat} (f : Nat → V) : Frz H (.sl t none z i cap 0) (.ros none cap 0 f)
  | sla {t z cap n : Nat} {a : Option Nat} {T : TypeId} {f : Nat → V} (h : get t H = some (.vec a T z cap n f)) : Frz H (.sl t a z 0 cap n) (.ros (a.map fun b => ⟨b, 0, none⟩) cap n f)
  | ptr {t b : Nat} {T : TypeId} {v : V} (h : get t H = some (.box b T v)) : Frz H (.ptr t b 0) (.rop ⟨b, 0, none⟩ v)
  | bsl {t b o cap n : Nat} {T : TypeId} {v : V} {l : List Int} (h : get t H = some (.box b T v)) (hl : v.byt n o = some l) (hc : n ≤ cap) : Frz H (.bsl t b o cap n) (.ros (some ⟨b, o, none⟩) cap n (fun j => .int .u8 (l.getD j 0)))
  | pair {a a' b b' : V} (h1 : Frz H a a') (h2 : Frz H b b') (e1 : a.mem = true) (e2 : b.mem = true) (e3 : a.isAgg = a'.isAgg) (e4 : b.isAgg = b'.isAgg) (e5 : a'.mem = true) (e6 : b'.mem = true) : Frz H (.pair a b) (.pair a' b')

theorem Frz.real {H : List (Nat × Cell)} {v v' : V} (h : Frz H v v') : v'.real = v.real ∧ (v.mem = true → v'.mem = true → v.isAgg = v'.isAgg → v'.cells = v.cells) := by
  induction h with
  | same v => exact ⟨rfl, fun _ _ _ => rfl⟩
  | sl h => simp [V.real, V.cells]
  | sub h h1 h2 => simp [V.real, V.cells]
  | nil f => simp [V.real, V.cells]
  | @sla t z cap n a T f h => cases a <;> simp [V.real, V.cells]
  | ptr h => simp [V.real, V.cells]
  | bsl h hl hc => simp [V.real, V.cells]
  | pair h1 h2 e1 e2 e3 e4 e5 e6 i1 i2 => simp [V.real, V.cells, i1.2 e1 e5 e3, i2.2 e2 e6 e4]

theorem Frz.ok {A B : Fr} {H : List (Nat × Cell)} (hAF : A.le B) (hp : ∀ t c, get t H = some c → CellIn A B.c c) {v v' : V} (h : Frz H v v') (hv : VOk A v) : VOk B v' := by
  induction h with
  | same v => exact hv.mono hAF
  | sl h =>
    rename_i t b z cap n T f
    obtain ⟨h0, h1, sp, h2, h3⟩ := hp _ _ h
    refine ⟨h0, fun i hi => ⟨(h1 i hi).2.2.mono hAF, (h1 i hi).2.1⟩, .inr ⟨_, (flat n f ++ sp).toArray, T, (0, 0), z, rfl, rfl, ?_, fun i hi => ⟨(h1 i hi).1, fun j hj => ?_⟩⟩⟩
    · exact h2
    · have hz : ∀ i, i < n → (f i).size = z := fun i hi => (h1 i hi).1
      have hb : (i + 1) * z ≤ n * z := Nat.mul_le_mul_right z hi
      rw [Nat.succ_mul] at hb
      have := flat_length hz
      rw [Nat.zero_add, List.getElem?_toArray, List.getElem?_append_left (by omega), flat_get hz hi hj]
  | sub h hin hcap =>
    rename_i t b z i cap cap' n m T f
    obtain ⟨h0, h1, sp, h2, h3⟩ := hp _ _ h
    refine ⟨hcap, fun k hk => ⟨(h1 (i + k) (by omega)).2.2.mono hAF, (h1 (i + k) (by omega)).2.1⟩, .inr ⟨_, (flat m f ++ sp).toArray, T, (0, 0), z, rfl, rfl, ?_, fun k hk => ⟨(h1 (i + k) (by omega)).1, fun j hj => ?_⟩⟩⟩
    · exact h2
    · have hz : ∀ i, i < m → (f i).size = z := fun i hi => (h1 i hi).1
      have hlt : i + k < m := by omega
      have hb : (i + k + 1) * z ≤ m * z := Nat.mul_le_mul_right z hlt
      rw [Nat.succ_mul] at hb
      have := flat_length hz
      have e : i * z + k * z + j = (i + k) * z + j := by rw [Nat.add_mul]
      show (flat m f ++ sp).toArray[i * z + k * z + j]? = _
      rw [e, List.getElem?_toArray, List.getElem?_append_left (by omega), flat_get hz hlt hj]
  | nil f => exact ⟨Nat.zero_le _, fun i hi => absurd hi (Nat.not_lt_zero i), .inl rfl⟩
  | @sla t z cap n a T f h =>
    cases a with
    | none =>
      have h0 := hp _ _ h
      have h1 : n = 0 := h0.1
      have h2 : cap = 0 := h0.2
      subst h1; subst h2
      exact ⟨Nat.le_refl _, fun i hi => absurd hi (Nat.not_lt_zero i), .inl rfl⟩
    | some b =>
      obtain ⟨h0, h1, sp, h2, h3⟩ := hp _ _ h
      refine ⟨h0, fun i hi => ⟨(h1 i hi).2.2.mono hAF, (h1 i hi).2.1⟩, .inr ⟨_, (flat n f ++ sp).toArray, T, (0, 0), z, rfl, rfl, ?_, fun i hi => ⟨(h1 i hi).1, fun j hj => ?_⟩⟩⟩
      · exact h2
      · have hz : ∀ i, i < n → (f i).size = z := fun i hi => (h1 i hi).1
        have hb : (i + 1) * z ≤ n * z := Nat.mul_le_mul_right z hi
        rw [Nat.succ_mul] at hb
        have := flat_length hz
        rw [Nat.zero_add, List.getElem?_toArray, List.getElem?_append_left (by omega), flat_get hz hi hj]
  | ptr h =>
    rename_i t b T v
    obtain ⟨h0, h1, h2⟩ := hp _ _ h
    refine ⟨h2.mono hAF, h1, rfl, v.cells.toArray, T, (0, 0), h0, fun j hj => ?_⟩
    rw [Nat.zero_add, List.getElem?_toArray]
  | bsl h hl hcap =>
    rename_i t b o cap n T v l
    obtain ⟨h0, h1, h2⟩ := hp _ _ h
    obtain ⟨_, _, k3⟩ := V.byt_spec hl
    refine ⟨hcap, fun i _ => ⟨trivial, rfl⟩, .inr ⟨_, v.cells.toArray, T, (0, 0), 1, rfl, rfl, h0, fun i hi => ⟨rfl, fun j hj => ?_⟩⟩⟩
    have : j = 0 := by omega
    subst this
    have := k3 i hi
    simpa [V.cells] using this
  | pair h1 h2 e1 e2 e3 e4 e5 e6 i1 i2 => exact ⟨i1 hv.1, i2 hv.2⟩

inductive FrzL (H : List (Nat × Cell)) : List V → List V → Prop
  | nil : FrzL H [] []
  | cons {v v' : V} {l l' : List V} (h : Frz H v v') (t : FrzL H l l') : FrzL H (v :: l) (v' :: l')

theorem FrzL.real {H : List (Nat × Cell)} {l l' : List V} (h : FrzL H l l') : l'.map V.real = l.map V.real := by
  induction h with
  | nil => rfl
  | cons h _ ih => simp [h.real.1, ih]

theorem FrzL.ok {A B : Fr} {H : List (Nat × Cell)} (hle : A.le B) (hp : ∀ t c, get t H = some c → CellIn A B.c c) {l l' : List V} (h : FrzL H l l') (hv : ∀ v ∈ l, VOk A v) :
    ∀ v ∈ l', VOk B v := by
  induction h with
  | nil => simp
  | cons h _ ih =>
    intro v hm
    rcases List.mem_cons.1 hm with rfl | hm
    · exact h.ok hle hp (hv _ (by simp))
    · exact ih (fun u hu => hv u (by simp [hu])) v hm

theorem FrzL.refl (H : List (Nat × Cell)) : ∀ l : List V, FrzL H l l
  | [] => .nil
  | v :: l => .cons (.same v) (FrzL.refl H l)

/-- A Go function with a body is entered. -/
class Ent (P : Program) (f : FuncId) : Prop where
  run : ∀ args w, (callFunc f args).run P w = .ok (.enter f args) w

section
variable {X : Cx} {ty : TypeId} {pos : String} {af : Array Edge} {gd : Option (Nat × Bool)} {tm : List (Nat × V)} {H R : List (Nat × Cell)} {Kn : St → Prop} {d : Nat}

theorem call_run {P : Program} {ρ : Operand → Value} {dst : Option Tmp} {f : FuncId} [h : Ent P f] {g : Operand} {args : List Operand} {ts : Array TypeId} {vs : List V} {w : World} (hg : ρ g = .func (.func f) #[] #[])
    (ha : args.map ρ = vs.map V.real) : (execOp ρ ⟨dst, .call ⟨.value g, args.toArray, ts⟩, ty, pos, af, gd⟩).run P w = .ok (.enter f (vs.map V.real).toArray) w := by
  have e : args.toArray.map ρ = (vs.map V.real).toArray := by simp [ha]
  simp only [execOp, resolve, hg, Deferred.ofValue, invoke, Sem.run_bind, Sem.run_pure, Result.andThen_ok, e]
  simpa using h.run (vs.map V.real).toArray w

/-- Whatever the callee left alone is as it was. -/
theorem HOk.back {A F : Fr} {H : List (Nat × Cell)} {w w' : World} (hp : ∀ t c, get t H = some c → CellIn A (fun b => w.heap[b]?) c ∧ ∀ b, c.blk b → F.c b = none) (h : Has (frame F H w) w') {t : Nat} {c : Cell} (hg : get t H = some c) :
    CellIn A (fun b => w'.heap[b]?) c := by
  refine (hp t c hg).1.congr fun b hb => ?_
  obtain ⟨o, ho⟩ := (hp t c hg).1.blk_some b hb
  have e := frame_in hp hg hb
  exact (h.cells b o (e.trans ho)).trans ho.symm

/-- The values and objects that look at nothing in the frame. -/
def Plain (r : V) (H' : List (Nat × Cell)) : Prop := (∀ A, VOk A r) ∧ ∀ t c, get t H' = some c → ∀ A B h, CellIn B h c → CellIn A h c

theorem Plain.nil {r : V} (h : ∀ A, VOk A r) : Plain r [] := ⟨h, fun t c hg => by simp [get] at hg⟩

theorem call_core {f : FuncId} [Ent X.P f] {args : List Operand} {ts : Array TypeId} {vs vs' : List V} {H0 : List (Nat × Cell)} {cs : List Nat} {post : V → List (Nat × Cell) → Prop} (A' : World → Fr) (sp : Spec X.P f vs' H0 post)
    (hd : Nat.blt d X.N = true) (hv : evs ⟨tm, H, R⟩ args = some vs) (hreal : vs'.map V.real = vs.map V.real)
    (hA : ∀ a w, Sim X ⟨tm, H, R⟩ a w → X.A.le (A' w) ∧ (A' w).le (frame X.F (dropp cs H) w) ∧ ∀ v ∈ vs', VOk (A' w) v)
    (h0 : ∀ t c, get t H0 = some c → cs.contains t = true ∧ get t H = some c)
    (hback : ∀ w r H', post r H' → VOk (A' w) r → VOk X.A r ∧ ∀ t c, get t H' = some c → ∀ h, CellIn (A' w) h c → CellIn X.A h c)
    (k : ∀ r H', post r H' → Kn ⟨(d, r) :: tm, H' ++ dropp cs H, R⟩) : Ex X ⟨some d, .call ⟨.value (.func f), args.toArray, ts⟩, ty, pos, af, gd⟩ ⟨tm, H, R⟩ Kn := by
  intro a w s next Q hn
  obtain ⟨hvs, _⟩ := s.evs hv
  obtain ⟨hA1, hA2, hA3⟩ := hA a w s
  have hr := call_run (P := X.P) (ρ := a.eval) (dst := some d) (ty := ty) (pos := pos) (af := af) (gd := gd) (f := f) (g := .func f) (args := args) (ts := ts) (w := w) rfl hvs
  have hdrop : ∀ t c, get t (dropp cs H) = some c → get t H = some c ∧ ¬ cs.contains t = true := fun t c hg => by
    unfold dropp at hg
    rw [get_filter (fun t => !cs.contains t)] at hg
    split at hg
    · rename_i hp
      exact ⟨hg, by simpa using hp⟩
    · cases hg
  have hp : ∀ t c, get t (dropp cs H) = some c → CellIn X.A (fun b => w.heap[b]?) c ∧ ∀ b, c.blk b → X.F.c b = none := fun t c hg => s.hp t c (hdrop t c hg).1
  have hH : HOk (A' w) (frame X.F (dropp cs H) w) H0 w := by
    refine ⟨frame_has s.has, fun t c hg => ?_, fun t u c c' hne h1 h2 => s.dj t u c c' hne (h0 t c h1).2 (h0 u c' h2).2⟩
    obtain ⟨hc, hg'⟩ := h0 t c hg
    obtain ⟨h1, h2⟩ := s.hp t c hg'
    refine ⟨?_, fun b hb => frame_out (h2 b hb) ?_⟩
    · cases c with
      | box b T v => exact ⟨h1.1, h1.2.1, h1.2.2.mono hA1⟩
      | vec ad T z cap n f =>
        cases ad with
        | none => exact h1
        | some b => obtain ⟨g0, g1, g2⟩ := h1; exact ⟨g0, fun i hi => ⟨(g1 i hi).1, (g1 i hi).2.1, (g1 i hi).2.2.mono hA1⟩, g2⟩
      | mp b m => obtain ⟨g0, g1⟩ := h1; exact ⟨fun x hx => ⟨(g0 x hx).1.mono hA1, (g0 x hx).2.mono hA1⟩, g1⟩
      | ex b o => exact h1
      | mit b it m rem cur => obtain ⟨⟨g0, g2, g3⟩, g1⟩ := h1; exact ⟨⟨fun x hx => ⟨(g0 x hx).1.mono hA1, (g0 x hx).2.mono hA1⟩, fun x hx => ⟨(g2 x hx).1.mono hA1, (g2 x hx).2.mono hA1⟩, fun x hx => ⟨(g3 x hx).1.mono hA1, (g3 x hx).2.mono hA1⟩⟩, g1⟩
    · rintro ⟨u, c', hu, hb'⟩
      have hne : t ≠ u := fun e => (hdrop u c' hu).2 (e ▸ hc)
      exact s.dj t u c c' hne hg' (hdrop u c' hu).1 b hb hb'
  unfold Oper.wp
  rw [hr, Oper.upon_enter, ← hreal]
  refine (sp (A' w) (frame X.F (dropp cs H) w) w hA2 hH hA3).mono ?_
  rintro e w' ⟨r, H', hpost, rfl, hrok, hH'⟩
  obtain ⟨hb1, hb2⟩ := hback w r H' hpost hrok
  have hF : X.F.le (frame X.F (dropp cs H) w) := frame_le _ _ _
  have s' : Sim X ⟨tm, H' ++ dropp cs H, R⟩ a w' := by
    refine ⟨hH'.has.mono hF, s.le, s.size, s.dn, s.tm, ?_, ?_, s.ro⟩
    · intro t c hg
      have hg' : (get t H').or (get t (dropp cs H)) = some c := by rw [← get_append]; exact hg
      cases e1 : get t H' with
      | some x =>
        rw [e1] at hg'; simp only [Option.some_or, Option.some.injEq] at hg'; subst hg'
        obtain ⟨h1, h2⟩ := hH'.hp t x e1
        refine ⟨hb2 t x e1 _ h1, fun b hb => ?_⟩
        cases hx : X.F.c b with
        | none => rfl
        | some o => have := hF.c b o hx; rw [h2 b hb] at this; cases this
      | none =>
        rw [e1] at hg'; simp only [Option.none_or] at hg'
        exact ⟨HOk.back hp hH'.has hg', (hp t c hg').2⟩
    · intro t u c c' hne h1 h2 b hb hb'
      have g1 : (get t H').or (get t (dropp cs H)) = some c := by rw [← get_append]; exact h1
      have g2 : (get u H').or (get u (dropp cs H)) = some c' := by rw [← get_append]; exact h2
      have hfr : ∀ t c, get t (dropp cs H) = some c → ∀ b, c.blk b → ∃ o, (frame X.F (dropp cs H) w).c b = some o := fun t c hg b hb => by
        obtain ⟨o, ho⟩ := (hp t c hg).1.blk_some b hb
        exact ⟨o, (frame_in hp hg hb).trans ho⟩
      cases e1 : get t H' with
      | some x =>
        rw [e1] at g1; simp only [Option.some_or, Option.some.injEq] at g1; subst g1
        cases e2 : get u H' with
        | some y =>
          rw [e2] at g2; simp only [Option.some_or, Option.some.injEq] at g2; subst g2
          exact hH'.dj t u x y hne e1 e2 b hb hb'
        | none =>
          rw [e2] at g2; simp only [Option.none_or] at g2
          obtain ⟨o, ho⟩ := hfr u c' g2 b hb'
          have := (hH'.hp t x e1).2 b hb
          rw [ho] at this; cases this
      | none =>
        rw [e1] at g1; simp only [Option.none_or] at g1
        cases e2 : get u H' with
        | some y =>
          rw [e2] at g2; simp only [Option.some_or, Option.some.injEq] at g2; subst g2
          obtain ⟨o, ho⟩ := hfr t c g1 b hb
          have := (hH'.hp u y e2).2 b hb'
          rw [ho] at this; cases this
        | none =>
          rw [e2] at g2; simp only [Option.none_or] at g2
          exact s.dj t u c c' hne (hdrop t c g1).1 (hdrop u c' g2).1 b hb hb'
  exact hn _ _ _ (k r H' hpost) (s'.put hb1 (Nat.le_of_ble_eq_true hd))

/-- The call of a function by its contract. 'cs': which objects it is handed, under the names that it knows them by. -/
theorem Ex.call {f : FuncId} [Ent X.P f] {args : List Operand} {ts : Array TypeId} {vs : List V} (vs' : List V) (H0 : List (Nat × Cell)) (cs : List Nat) {post : V → List (Nat × Cell) → Prop} (sp : Spec X.P f vs' H0 post)
    (hd : Nat.blt d X.N = true) (hv : evs ⟨tm, H, R⟩ args = some vs) (hr : vs'.map V.real = vs.map V.real) (hok : ∀ A, (∀ v ∈ vs, VOk A v) → ∀ v ∈ vs', VOk A v)
    (h0 : ∀ t c, get t H0 = some c → cs.contains t = true ∧ get t H = some c)
    (k : ∀ r H', post r H' → Kn ⟨(d, r) :: tm, H' ++ dropp cs H, R⟩) : Ex X ⟨some d, .call ⟨.value (.func f), args.toArray, ts⟩, ty, pos, af, gd⟩ ⟨tm, H, R⟩ Kn :=
  call_core (fun _ => X.A) sp hd hv hr (fun a w s => ⟨Fr.le_refl _, Fr.le_trans s.le (frame_le _ _ _), hok _ (s.evs hv).2⟩) h0 (fun _ _ _ _ h => ⟨h, fun _ _ _ _ h => h⟩) k

/-- The same where some of what the call owns is handed over to be read. -/
theorem Ex.callz {f : FuncId} [Ent X.P f] {args : List Operand} {ts : Array TypeId} {vs : List V} (vs' : List V) (H0 : List (Nat × Cell)) (cs : List Nat) {post : V → List (Nat × Cell) → Prop} (sp : Spec X.P f vs' H0 post)
    (hd : Nat.blt d X.N = true) (hv : evs ⟨tm, H, R⟩ args = some vs) (hz : FrzL (dropp cs H ++ R) vs vs')
    (h0 : ∀ t c, get t H0 = some c → cs.contains t = true ∧ get t H = some c) (hp : ∀ r H', post r H' → Plain r H')
    (k : ∀ r H', post r H' → Kn ⟨(d, r) :: tm, H' ++ dropp cs H, R⟩) : Ex X ⟨some d, .call ⟨.value (.func f), args.toArray, ts⟩, ty, pos, af, gd⟩ ⟨tm, H, R⟩ Kn := by
  refine call_core (fun w => frame X.F (dropp cs H) w) sp hd hv hz.real (fun a w s => ?_) h0 (fun w r H' h _ => ⟨(hp r H' h).1 _, fun t c hg _ hc => (hp r H' h).2 t c hg _ _ _ hc⟩) k
  have hp : ∀ t c, get t (dropp cs H) = some c → CellIn X.A (fun b => w.heap[b]?) c ∧ ∀ b, c.blk b → X.F.c b = none := fun t c hg => s.hp t c (by
    unfold dropp at hg
    rw [get_filter (fun t => !cs.contains t)] at hg
    split at hg
    · exact hg
    · cases hg)
  refine ⟨Fr.le_trans s.le (frame_le _ _ _), Fr.le_refl _, hz.ok (Fr.le_trans s.le (frame_le _ _ _)) (fun t c hg => ?_) (s.evs hv).2⟩
  rw [get_append] at hg
  cases e1 : get t (dropp cs H) with
  | some x =>
    rw [e1] at hg; simp only [Option.some_or, Option.some.injEq] at hg; subst hg
    exact (hp t x e1).1.congr fun b hb => frame_in hp e1 hb
  | none =>
    rw [e1] at hg; simp only [Option.none_or] at hg
    exact (s.ro t c hg).mono (frame_le _ _ _)

/-- The call of a function that only reads and reckons. -/
theorem Ex.callq {f : FuncId} [Ent X.P f] {args : List Operand} {ts : Array TypeId} {vs vs' : List V} {r : V} (sp : SpecQ X.P f vs' r)
    (hd : Nat.blt d X.N = true) (hv : evs ⟨tm, H, R⟩ args = some vs) (hr : vs'.map V.real = vs.map V.real) (hok : ∀ A, (∀ v ∈ vs, VOk A v) → ∀ v ∈ vs', VOk A v)
    (k : Kn ⟨(d, r) :: tm, H, R⟩) : Ex X ⟨some d, .call ⟨.value (.func f), args.toArray, ts⟩, ty, pos, af, gd⟩ ⟨tm, H, R⟩ Kn := by
  refine Ex.call vs' [] [] sp hd hv hr hok (fun t c hg => by simp [get] at hg) ?_
  rintro r' H' ⟨rfl, rfl⟩
  have e : dropp [] H = H := by simp [dropp]
  rw [e]
  exact k

theorem Ex.callqz {f : FuncId} [Ent X.P f] {args : List Operand} {ts : Array TypeId} {vs vs' : List V} {r : V} (sp : SpecQ X.P f vs' r)
    (hd : Nat.blt d X.N = true) (hv : evs ⟨tm, H, R⟩ args = some vs) (hz : FrzL (H ++ R) vs vs') (hr : ∀ A, VOk A r)
    (k : Kn ⟨(d, r) :: tm, H, R⟩) : Ex X ⟨some d, .call ⟨.value (.func f), args.toArray, ts⟩, ty, pos, af, gd⟩ ⟨tm, H, R⟩ Kn := by
  have e : dropp [] H = H := by simp [dropp]
  refine Ex.callz vs' [] [] sp hd hv (by rw [e]; exact hz) (fun t c hg => by simp [get] at hg) (fun r' H' h => by obtain ⟨rfl, rfl⟩ := h; exact Plain.nil hr) ?_
  rintro r' H' ⟨rfl, rfl⟩
  rw [e]
  exact k

end
end Go.Vm
