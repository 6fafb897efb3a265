/- One operation after the other, in the order of the text or in a drawn one. -/
import Derived.Test.YtimkkhefemnkpaaVm3
namespace Go.Vm

/-! ### what becomes of a state -/

theorem Sim.put {X : Cx} {tm : List (Nat × V)} {H R : List (Nat × Cell)} {a : Act} {w : World} {d : Nat} {v : V} (s : Sim X ⟨tm, H, R⟩ a w) (hv : VOk X.A v) (hd : d < X.N) :
    Sim X ⟨(d, v) :: tm, H, R⟩ (a.put (some d) v.real) w where
  has := s.has
  le := s.le
  size := by simp [Act.put, s.size]
  dn := s.dn
  tm := by
    intro e u h
    simp only [get_cons] at h
    by_cases he : e = d
    · subst he
      simp only [if_true, Option.some.injEq] at h
      subst h
      refine ⟨?_, hv⟩
      simp only [Act.put]
      rw [Array.getElem?_setIfInBounds_self_of_lt (by rw [s.size]; exact hd)]
    · rw [if_neg he] at h
      have := s.tm e u h
      refine ⟨?_, this.2⟩
      simp only [Act.put]
      rw [Array.getElem?_setIfInBounds_ne (Ne.symm he)]
      exact this.1
  hp := s.hp
  dj := s.dj
  ro := s.ro

theorem Has.drew {F : Fr} {w : World} (h : Has F w) : Has F { w with drawn := w.drawn + 1 } := ⟨h.cells, h.os, h.out, h.tape, Nat.le_succ_of_le h.dr⟩

theorem Sim.drew {X : Cx} {st : St} {a : Act} {w : World} (s : Sim X st a w) : Sim X st a { w with drawn := w.drawn + 1 } :=
  ⟨s.has.drew, s.le, s.size, s.dn, s.tm, s.hp, s.dj, s.ro⟩

theorem alloc_new (w : World) (o : Obj) : (w.alloc o).heap[w.heap.size]? = some o := by
  show (w.heap.push o)[w.heap.size]? = some o
  simp
theorem alloc_old {w : World} {o o' : Obj} {b : Nat} (h : w.heap[b]? = some o') : (w.alloc o).heap[b]? = some o' := by
  have hb : b < w.heap.size := (Array.getElem?_eq_some_iff.1 h).1
  show (w.heap.push o)[b]? = some o'
  rw [Array.getElem?_push, if_neg (Nat.ne_of_lt hb)]
  exact h

theorem lt_of_heap {w : World} {o : Obj} {b : Nat} (h : w.heap[b]? = some o) : b < w.heap.size := (Array.getElem?_eq_some_iff.1 h).1

theorem Has.alloc {F : Fr} {w : World} (h : Has F w) (o : Obj) : Has F (w.alloc o) := ⟨fun b o' hc => alloc_old (h.cells b o' hc), h.os, h.out, h.tape, h.dr⟩

theorem Has.new {F : Fr} {w : World} (h : Has F w) : F.c w.heap.size = none := by
  cases hc : F.c w.heap.size with
  | none => rfl
  | some o => exact absurd (lt_of_heap (h.cells _ _ hc)) (Nat.lt_irrefl _)

/-- A new block. -/
theorem Sim.alloc {X : Cx} {tm : List (Nat × V)} {H R : List (Nat × Cell)} {a : Act} {w : World} (s : Sim X ⟨tm, H, R⟩ a w) (t : Nat) (c : Cell) (o : Obj)
    (hb : ∀ b, c.blk b → b = w.heap.size) (hc : ∀ h : Nat → Option Obj, h w.heap.size = some o → CellIn X.A h c) : Sim X ⟨tm, (t, c) :: H, R⟩ a (w.alloc o) where
  has := s.has.alloc o
  le := s.le
  size := s.size
  dn := s.dn
  tm := s.tm
  hp := by
    intro u c' h
    simp only [get_cons] at h
    by_cases hu : u = t
    · rw [if_pos hu] at h
      simp only [Option.some.injEq] at h
      subst h
      exact ⟨hc _ (alloc_new w o), fun b hb' => (hb b hb') ▸ s.has.new⟩
    · rw [if_neg hu] at h
      obtain ⟨h1, h2⟩ := s.hp u c' h
      refine ⟨h1.congr fun b hb' => ?_, h2⟩
      obtain ⟨o', ho⟩ := h1.blk_some b hb'
      show (w.alloc o).heap[b]? = w.heap[b]?
      rw [alloc_old ho, ho]
  dj := by
    intro u u' c1 c2 hne h1 h2 b hb1 hb2
    simp only [get_cons] at h1 h2
    by_cases hu : u = t
    · rw [if_pos hu] at h1
      rw [if_neg (fun e => hne (hu.trans e.symm))] at h2
      simp only [Option.some.injEq] at h1
      subst h1
      obtain ⟨o', ho⟩ := (s.hp u' c2 h2).1.blk_some b hb2
      have := lt_of_heap ho
      rw [hb b hb1] at this
      exact Nat.lt_irrefl _ this
    · rw [if_neg hu] at h1
      by_cases hu' : u' = t
      · rw [if_pos hu'] at h2
        simp only [Option.some.injEq] at h2
        subst h2
        obtain ⟨o', ho⟩ := (s.hp u c1 h1).1.blk_some b hb1
        have := lt_of_heap ho
        rw [hb b hb2] at this
        exact Nat.lt_irrefl _ this
      · rw [if_neg hu'] at h2
        exact s.dj u u' c1 c2 hne h1 h2 b hb1 hb2
  ro := s.ro

theorem Has.setBlk {F : Fr} {w : World} {b : Nat} {o : Obj} (h : Has F w) (hb : F.c b = none) : Has F (setBlk w b o) := by
  refine ⟨fun k o' hc => ?_, h.os, h.out, h.tape, h.dr⟩
  have hk : k ≠ b := fun e => by rw [e, hb] at hc; cases hc
  rw [setBlk_other hk]
  exact h.cells k o' hc

/-- One of the call's own blocks is written. -/
theorem Sim.set {X : Cx} {tm : List (Nat × V)} {H R : List (Nat × Cell)} {a : Act} {w : World} (s : Sim X ⟨tm, H, R⟩ a w) {t b : Nat} {c : Cell} (hg : get t H = some c) (hb : c.blk b) (c' : Cell) (o : Obj)
    (hb' : ∀ k, c'.blk k → k = b) (hc : ∀ h : Nat → Option Obj, h b = some o → CellIn X.A h c') : Sim X ⟨tm, (t, c') :: H, R⟩ a (setBlk w b o) := by
  obtain ⟨h1, h2⟩ := s.hp t c hg
  obtain ⟨o0, ho⟩ := h1.blk_some b hb
  refine ⟨s.has.setBlk (h2 b hb), s.le, s.size, s.dn, s.tm, ?_, ?_, s.ro⟩
  · intro u c1 h
    simp only [get_cons] at h
    by_cases hu : u = t
    · rw [if_pos hu] at h
      simp only [Option.some.injEq] at h
      subst h
      exact ⟨hc _ (setBlk_same ho), fun k hk => (hb' k hk) ▸ h2 b hb⟩
    · rw [if_neg hu] at h
      obtain ⟨h3, h4⟩ := s.hp u c1 h
      refine ⟨h3.congr fun k hk => ?_, h4⟩
      show (Vm.setBlk w b o).heap[k]? = w.heap[k]?
      refine setBlk_other fun e => ?_
      subst e
      exact s.dj u t c1 c hu h hg _ hk hb
  · intro u u' c1 c2 hne g1 g2 k k1 k2
    simp only [get_cons] at g1 g2
    by_cases hu : u = t
    · rw [if_pos hu] at g1
      rw [if_neg (fun e => hne (hu.trans e.symm))] at g2
      simp only [Option.some.injEq] at g1
      subst g1
      have := hb' k k1
      subst this
      exact s.dj t u' c c2 (fun e => hne (hu.trans e)) hg g2 _ hb k2
    · rw [if_neg hu] at g1
      by_cases hu' : u' = t
      · rw [if_pos hu'] at g2
        simp only [Option.some.injEq] at g2
        subst g2
        have := hb' k k2
        subst this
        exact s.dj t u c c1 (fun e => hu e.symm) hg g1 _ hb k1
      · rw [if_neg hu'] at g2
        exact s.dj u u' c1 c2 hne g1 g2 k k1 k2

/-! ### the part of a state that hangs on no world -/

structure SimT (X : Cx) (st : St) (a : Act) : Prop where
  le : X.A.le X.F
  size : a.tmps.size = X.N
  dn : a.defers = X.D
  tm : ∀ d v, get d st.tm = some v → a.tmps[d]? = some v.real ∧ VOk X.A v
  ro : ∀ t c, get t st.R = some c → CellIn X.A X.F.c c

theorem Sim.T {X : Cx} {st : St} {a : Act} {w : World} (s : Sim X st a w) : SimT X st a := ⟨s.le, s.size, s.dn, s.tm, s.ro⟩

theorem SimT.ev {X : Cx} {st : St} {a : Act} (s : SimT X st a) : ∀ {x : Operand} {v : V}, st.ev x = some v → a.eval x = v.real ∧ VOk X.A v
  | .tmp d, v, h => by
    have := s.tm d v h
    refine ⟨?_, this.2⟩
    show a.tmps.getD d undef = v.real
    rw [Array.getD_eq_getD_getElem?, this.1]; rfl
  | .const c, v, h => by
    simp only [St.ev, Option.some.injEq] at h
    subst h
    exact ⟨(cv_real c).symm, cv_ok _ c⟩
  | .func f, v, h => by
    simp only [St.ev, Option.some.injEq] at h
    subst h
    exact ⟨rfl, trivial⟩
  | .global _, v, h => by cases h

/-- One value in every world of the frame, which stays as it is. -/
def EvQ (X : Cx) (o : Oper) (st : St) (v : V) : Prop :=
  ∀ a w, SimT X st a → Has X.F w → (execOp a.eval o).run X.P w = .ok (.value v.real) w ∧ VOk X.A v

/-- One value in the world of the state. -/
def EvH (X : Cx) (o : Oper) (st : St) (v : V) : Prop :=
  ∀ a w, Sim X st a w → (execOp a.eval o).run X.P w = .ok (.value v.real) w ∧ VOk X.A v

theorem EvQ.h {X : Cx} {o : Oper} {st : St} {v : V} (h : EvQ X o st v) : EvH X o st v := fun a w s => h a w s.T s.has

/-- What an operation makes of a state. -/
def Ex (X : Cx) (o : Oper) (st : St) (Kn : St → Prop) : Prop :=
  ∀ a w, Sim X st a w → ∀ (next : Act → World → Prop) (Q : Exit → Act → World → Prop), (∀ st' a' w', Kn st' → Sim X st' a' w' → next a' w') → o.wp X.P a w next Q

theorem Ex.h {X : Cx} {op : Op} {ty : TypeId} {pos : String} {af : Array Edge} {gd : Option (Nat × Bool)} {d : Nat} {tm : List (Nat × V)} {H R : List (Nat × Cell)} {v : V} {Kn : St → Prop}
    (h : EvH X ⟨some d, op, ty, pos, af, gd⟩ ⟨tm, H, R⟩ v) (hd : Nat.blt d X.N = true) (k : Kn ⟨(d, v) :: tm, H, R⟩) : Ex X ⟨some d, op, ty, pos, af, gd⟩ ⟨tm, H, R⟩ Kn := by
  intro a w s next Q hn
  obtain ⟨h1, h2⟩ := h a w s
  unfold Oper.wp
  rw [h1]
  exact hn _ _ _ k (s.put h2 (Nat.le_of_ble_eq_true hd))

theorem Ex.q {X : Cx} {op : Op} {ty : TypeId} {pos : String} {af : Array Edge} {gd : Option (Nat × Bool)} {d : Nat} {tm : List (Nat × V)} {H R : List (Nat × Cell)} {v : V} {Kn : St → Prop}
    (h : EvQ X ⟨some d, op, ty, pos, af, gd⟩ ⟨tm, H, R⟩ v) (hd : Nat.blt d X.N = true) (k : Kn ⟨(d, v) :: tm, H, R⟩) : Ex X ⟨some d, op, ty, pos, af, gd⟩ ⟨tm, H, R⟩ Kn := Ex.h h.h hd k

/-- An operation that yields nothing. -/
theorem Ex.u {X : Cx} {op : Op} {ty : TypeId} {pos : String} {af : Array Edge} {gd : Option (Nat × Bool)} {st : St} {Kn : St → Prop}
    (h : ∀ a w, Sim X st a w → ∃ st' w', (execOp a.eval ⟨none, op, ty, pos, af, gd⟩).run X.P w = .ok .skip w' ∧ Sim X st' a w' ∧ Kn st') : Ex X ⟨none, op, ty, pos, af, gd⟩ st Kn := by
  intro a w s next Q hn
  obtain ⟨st', w', h1, h2, h3⟩ := h a w s
  unfold Oper.wp
  rw [h1]
  exact hn _ _ _ h3 h2

/-! ### guards -/

def want (ops : Array Oper) (tm : List (Nat × V)) (o : Oper) : Option Bool :=
  match o.guard with
  | none => some true
  | some (j, b) =>
    match (ops[j]?).bind (·.dst) with
    | none => none
    | some d =>
      match get d tm with
      | some (.bool c) => some (c == b)
      | some .tup0 => some false
      | _ => none

theorem want_wanted {X : Cx} {ops : Array Oper} {st : St} {a : Act} {o : Oper} {c : Bool} (s : SimT X st a) (h : want ops st.tm o = some c) : Region.wanted o (yielded ops a.tmps) = c := by
  unfold want at h
  unfold Region.wanted
  cases hg : o.guard with
  | none => rw [hg] at h; simpa using h
  | some jb =>
    obtain ⟨j, b⟩ := jb
    rw [hg] at h
    simp only at h ⊢
    cases hd : (ops[j]?).bind (·.dst) with
    | none => rw [hd] at h; simp at h
    | some d =>
      rw [hd] at h
      simp only at h
      unfold yielded
      rw [hd]
      simp only [Option.bind_some]
      cases hv : get d st.tm with
      | none => rw [hv] at h; simp at h
      | some v =>
        have hs := (s.tm d v hv).1
        rw [hv] at h
        rw [hs]
        cases v <;> simp only [Option.some.injEq, reduceCtorEq] at h
        case bool x => subst h; cases x <;> cases b <;> rfl
        case tup0 => subst h; rfl

abbrev putO : Option Tmp → List (Nat × V) → List (Nat × V)
  | none, tm => tm
  | some d, tm => (d, .tup0) :: tm

theorem Sim.putO {X : Cx} {tm : List (Nat × V)} {H R : List (Nat × Cell)} {a : Act} {w : World} (s : Sim X ⟨tm, H, R⟩ a w) : ∀ {d : Option Tmp}, (match d with | none => true | some d => Nat.blt d X.N) = true →
    Sim X ⟨Vm.putO d tm, H, R⟩ (a.put d undef) w
  | none, _ => s
  | some _, h => s.put (v := .tup0) trivial (Nat.le_of_ble_eq_true h)

/-! ### the order of the text -/

def WL (X : Cx) (ops : Array Oper) (l : List Oper) (K : Exit → St → Prop) (st : St) : Prop := ∀ a w, Sim X st a w → wpList X.P ops (QJ X K) l a w

theorem J.region {X : Cx} {id : Nat} {l : List Oper} {K : Exit → St → Prop} {st : St} (h : WL X l.toArray l K st) : J X (.region id l.toArray false) K st := fun a w s => wp_region_lit (h a w s)

theorem WL.nil {X : Cx} {ops : Array Oper} {K : Exit → St → Prop} {st : St} (h : K .normal st) : WL X ops [] K st := fun a w s => wpList_nil (show QJ X K .normal a w from ⟨st, h, s⟩)

theorem WL.yes {X : Cx} {ops : Array Oper} {o : Oper} {rest : List Oper} {K : Exit → St → Prop} {st : St} (hw : want ops st.tm o = some true) (h : Ex X o st (WL X ops rest K)) : WL X ops (o :: rest) K st := by
  intro a w s
  unfold wpList
  rw [if_pos (want_wanted s.T hw)]
  exact .inl (h a w s _ _ fun st' a' w' k s' => k a' w' s')

theorem WL.no {X : Cx} {ops : Array Oper} {o : Oper} {rest : List Oper} {K : Exit → St → Prop} {tm : List (Nat × V)} {H R : List (Nat × Cell)} (hw : want ops tm o = some false)
    (hd : (match o.dst with | none => true | some d => Nat.blt d X.N) = true) (h : WL X ops rest K ⟨putO o.dst tm, H, R⟩) : WL X ops (o :: rest) K ⟨tm, H, R⟩ := by
  intro a w s
  unfold wpList
  rw [if_neg (by rw [want_wanted s.T hw]; simp)]
  exact h _ _ (s.putO hd)

theorem Sim.settle {X : Cx} {tm : List (Nat × V)} {H R : List (Nat × Cell)} {a : Act} {w : World} {d : Nat} {v u : V} (s : Sim X ⟨tm, H, R⟩ a w) (h : get d tm = some v) (e : u = v) : Sim X ⟨(d, u) :: tm, H, R⟩ a w := by
  subst e
  refine ⟨s.has, s.le, s.size, s.dn, ?_, s.hp, s.dj, s.ro⟩
  intro k x hk
  simp only [get_cons] at hk
  by_cases hkd : k = d
  · rw [if_pos hkd] at hk
    simp only [Option.some.injEq] at hk
    subst hk; subst hkd
    exact s.tm _ _ h
  · rw [if_neg hkd] at hk
    exact s.tm k x hk

theorem WL.split {X : Cx} {ops : Array Oper} {l : List Oper} {K : Exit → St → Prop} {tm : List (Nat × V)} {H R : List (Nat × Cell)} (d : Nat) {b : Bool} (h : get d tm = some (.bool b))
    (ht : b = true → WL X ops l K ⟨(d, .bool true) :: tm, H, R⟩) (hf : b = false → WL X ops l K ⟨(d, .bool false) :: tm, H, R⟩) : WL X ops l K ⟨tm, H, R⟩ := fun a w s => by
  cases b with
  | true => exact ht rfl a w (s.settle h rfl)
  | false => exact hf rfl a w (s.settle h rfl)

theorem J.split {X : Cx} {c : Code} {K : Exit → St → Prop} {tm : List (Nat × V)} {H R : List (Nat × Cell)} (d : Nat) {b : Bool} (h : get d tm = some (.bool b))
    (ht : b = true → J X c K ⟨(d, .bool true) :: tm, H, R⟩) (hf : b = false → J X c K ⟨(d, .bool false) :: tm, H, R⟩) : J X c K ⟨tm, H, R⟩ := fun a w s => by
  cases b with
  | true => exact ht rfl a w (s.settle h rfl)
  | false => exact hf rfl a w (s.settle h rfl)

/-- A slot's value under another name. -/
theorem WL.set {X : Cx} {ops : Array Oper} {l : List Oper} {K : Exit → St → Prop} {tm : List (Nat × V)} {H R : List (Nat × Cell)} (d : Nat) {v : V} (u : V) (h : get d tm = some v) (e : u = v)
    (k : WL X ops l K ⟨(d, u) :: tm, H, R⟩) : WL X ops l K ⟨tm, H, R⟩ := fun a w s => k a w (s.settle h e)

/-! ### a drawn order -/

section
variable {P : Program} {md : Region.Mode} {ops : Array Oper} {Q : Exit → Act → World → Prop} {S : World → Prop} {f : Nat}

/-- Whatever order is picked from here on; S holds behind each operation but number f. -/
def AnyG (P : Program) (md : Region.Mode) (ops : Array Oper) (Q : Exit → Act → World → Prop) (S : World → Prop) (f : Nat) : Nat → Array Bool → Act → World → Prop
  | 0, listed, a, w => Region.ready md ops listed = [] ∧ Q .normal a w
  | n + 1, listed, a, w => (Region.ready md ops listed = [] → Q .normal a w) ∧
      ∀ i ∈ Region.ready md ops listed, wpOp P ops Q i (fun a' w' => (i ≠ f → S w') ∧ AnyG P md ops Q S f n (listed.setIfInBounds i true) a' w') a w

theorem AnyG.any : ∀ (n : Nat) (listed : Array Bool) (a : Act) (w : World), AnyG P md ops Q S f n listed a w → wpAny P md ops Q n listed a w
  | 0, _, _, _, h => h
  | n + 1, _, _, _, h => ⟨h.1, fun i hi => wpOp_mono (fun a' w' h' => AnyG.any n _ a' w' h'.2) (h.2 i hi)⟩

/-- Whoever is listed, all that it waits for is. -/
def Closed (md : Region.Mode) (ops : Array Oper) (listed : Array Bool) : Prop :=
  ∀ j oj, ops[j]? = some oj → listed.getD j false = true → ∀ e ∈ oj.after, Region.binds md e = true → listed.getD e.on false = true

theorem Closed.none (md : Region.Mode) (ops : Array Oper) (n : Nat) : Closed md ops (Array.replicate n false) := by
  intro j oj _ hl
  exfalso
  rw [Array.getD_eq_getD_getElem?] at hl
  by_cases h : j < n <;> simp [h] at hl

theorem Closed.add {listed : Array Bool} {i : Nat} (h : Closed md ops listed) (hi : i ∈ Region.ready md ops listed) : Closed md ops (listed.setIfInBounds i true) := by
  obtain ⟨hun, oi, hoi, hall⟩ := mem_ready.1 hi
  intro j oj hoj hl e he hb
  by_cases hj : j = i
  · subst hj
    rw [hoj] at hoi
    cases hoi
    exact getD_set_true (hall e he hb)
  · rw [getD_set_ne false (Ne.symm hj)] at hl
    exact getD_set_true (h j oj hoj hl e he hb)

/-- Does f wait for i, straight or by others? -/
def waitsB (md : Region.Mode) (ops : Array Oper) (i : Nat) : Nat → Nat → Bool
  | 0, _ => false
  | n + 1, k => match ops[k]? with
    | none => false
    | some o => o.after.any fun e => Region.binds md e && (e.on == i || waitsB md ops i n e.on)

theorem waits_listed {listed : Array Bool} {i : Nat} (hc : Closed md ops listed) : ∀ (n k : Nat) (o : Oper), waitsB md ops i n k = true → ops[k]? = some o →
    (∀ e ∈ o.after, Region.binds md e = true → listed.getD e.on false = true) → listed.getD i false = true
  | 0, _, _, h, _, _ => by simp [waitsB] at h
  | n + 1, k, o, h, ho, hall => by
    simp only [waitsB, ho, Array.any_eq_true, Bool.and_eq_true, Bool.or_eq_true, beq_iff_eq] at h
    obtain ⟨j, hj, hb, h⟩ := h
    have hm := hall _ (Array.getElem_mem hj) hb
    rcases h with h | h
    · rw [← h]; exact hm
    · cases hk : ops[o.after[j].on]? with
      | none =>
        cases n with
        | zero => simp [waitsB] at h
        | succ n => simp [waitsB, hk] at h
      | some o' => exact waits_listed hc n _ o' h hk (hc _ o' hk hm)

/-- What yields its value in every world of S, and is apart from all that is still to come, may be taken first. -/
theorem AnyG.first {i : Nat} {o : Oper} {v : Value} (ho : ops[i]? = some o) (hs : Region.noSelect ops = true) (hQ : ∀ c a w, Q (.panic c) (a.put o.dst v) w → Q (.panic c) a w)
    (hf : ops[f]? = none ∨ ∃ m, waitsB md ops i m f = true) :
    ∀ (n : Nat) (listed : Array Bool) (a : Act) (w : World), Closed md ops listed →
      (∀ j oj, ops[j]? = some oj → j ≠ i → listed.getD j true = false → (∀ e ∈ oj.after, Region.binds md e = true → e.on ≠ i) → o.apart ops oj = true) →
      i ∈ Region.ready md ops listed → YieldsIf P ops S o v a → S w → AnyG P md ops Q S f n (listed.setIfInBounds i true) (a.put o.dst v) w → AnyG P md ops Q S f (n + 1) listed a w := by
  intro n
  have hsel := Region.noSelect_spec hs
  induction n with
  | zero =>
    intro listed a w _ _ hr hy hS H
    refine ⟨fun h => absurd (h ▸ hr) (by simp), fun j hj => ?_⟩
    rcases Decidable.em (j = i) with rfl | hne
    · exact hy.wpOp ho hS ⟨fun _ => hS, H⟩
    · have := ready_mono hj hne
      rw [H.1] at this
      cases this
  | succ n ih =>
    intro listed a w hcl hfree hr hy hS H
    refine ⟨fun h => absurd (h ▸ hr) (by simp), fun j hj => ?_⟩
    rcases Decidable.em (j = i) with rfl | hne
    · exact hy.wpOp ho hS ⟨fun _ => hS, H⟩
    · obtain ⟨hjun, oj, hoj, hall⟩ := mem_ready.1 hj
      have hiun := (mem_ready.1 hr).1
      have hino : listed.getD i false = true → False := fun h1 => by
        rcases Nat.lt_or_ge i listed.size with h' | h'
        · simp [h'] at hiun h1; rw [hiun] at h1; cases h1
        · simp [Array.getElem?_eq_none h'] at h1
      have hwait : ∀ e ∈ oj.after, Region.binds md e = true → e.on ≠ i := fun e he hb heq => hino (by rw [← heq]; exact hall e he hb)
      have hjf : j ≠ f := by
        rintro rfl
        rcases hf with hf | ⟨m, hf⟩
        · rw [hoj] at hf; cases hf
        · exact hino (waits_listed hcl m j oj hf hoj hall)
      have hstep := wpOp_putIf hoj (hfree j oj hoj hne hjun hwait) (fun cs b => hsel i o cs b ho) (fun cs b => hsel j oj cs b hoj) hQ hy (H.2 j (ready_mono hj hne))
      refine wpOp_mono (fun a' w' h3 => ?_) hstep
      obtain ⟨hy', h4, h5⟩ := h3
      refine ⟨fun _ => h4 hjf, ih (listed.setIfInBounds j true) a' w' (hcl.add hj) (fun k ok hk hki hun hno => ?_) (ready_mono hr (Ne.symm hne)) hy' (h4 hjf) ?_⟩
      · refine hfree k ok hk hki ?_ hno
        rcases Decidable.em (j = k) with rfl | hjk
        · exact hjun
        · rw [getD_set_ne true hjk] at hun; exact hun
      · rw [Array.setIfInBounds_comm _ _ hne]
        exact h5

end

/-- A schedule: which operation next; is it taken first (else it is the one that may come up). 'f': the one behind which the region's own frame need not stand. -/
def schedOk (ops : Array Oper) (f : Nat) : Array Bool → List (Nat × Bool) → Bool
  | listed, [] => (Region.ready .any ops listed).isEmpty
  | listed, (i, true) :: r => (Region.ready .any ops listed).contains i && (Region.free .any ops listed i && ((ops[f]?.isNone || waitsB .any ops i ops.size f) && schedOk ops f (listed.setIfInBounds i true) r))
  | listed, (i, false) :: r => (Region.ready .any ops listed == [i]) && ((!(i == f) || r.isEmpty) && schedOk ops f (listed.setIfInBounds i true) r)

/-- X: the state's own frame; F': the region's, with what is left alone in it; 'rst': back from it. -/
def WS (X : Cx) (F' : Fr) (rst : St → St) (ops : Array Oper) (f : Nat) (K : Exit → St → Prop) (sched : List (Nat × Bool)) (st : St) : Prop :=
  Region.noSelect ops = true → (∀ st a w, Sim { X with F := F' } st a w → Sim X (rst st) a w) → ∀ listed, Closed .any ops listed → schedOk ops f listed sched = true →
    ∀ a w, Sim { X with F := F' } st a w → AnyG X.P .any ops (QJ X K) (Has F') f sched.length listed a w

section
variable {X : Cx} {F' : Fr} {rst : St → St} {ops : Array Oper} {f : Nat} {K : Exit → St → Prop} {i : Nat} {r : List (Nat × Bool)}

theorem WS.nil {st : St} (h : K .normal (rst st)) : WS X F' rst ops f K [] st := by
  intro _ hb listed hc hs a w s
  exact ⟨by simpa [schedOk] using hs, rst st, h, hb _ _ _ s⟩

theorem QJ.panic_put {X : Cx} {K : Exit → St → Prop} (d : Option Tmp) (v : Value) : ∀ c a w, QJ X K (.panic c) (a.put d v) w → QJ X K (.panic c) a w := fun _ _ _ h => h

/-- Taken first: it looks at nothing that another of the region writes. -/
theorem WS.take {d : Nat} {op : Op} {ty : TypeId} {pos : String} {af : Array Edge} {gd : Option (Nat × Bool)} {tm : List (Nat × V)}
    {H R : List (Nat × Cell)} {v : V} (hi : ops[i]? = some ⟨some d, op, ty, pos, af, gd⟩) (hw : want ops tm ⟨some d, op, ty, pos, af, gd⟩ = some true) (hd : Nat.blt d X.N = true)
    (h : EvQ { X with F := F' } ⟨some d, op, ty, pos, af, gd⟩ ⟨tm, H, R⟩ v) (k : WS X F' rst ops f K r ⟨(d, v) :: tm, H, R⟩) : WS X F' rst ops f K ((i, true) :: r) ⟨tm, H, R⟩ := by
  intro hn hb listed hc hs a w s
  simp only [schedOk, Bool.and_eq_true, Bool.or_eq_true] at hs
  obtain ⟨h1, h2, h3, h4⟩ := hs
  have hv := h a w s.T s.has
  have hr : i ∈ Region.ready .any ops listed := by simpa using h1
  exact AnyG.first (v := v.real) hi hn (QJ.panic_put _ _) (h3.imp (by simp) fun h => ⟨_, h⟩) _ _ _ _ hc (Region.free_spec hi h2) hr (.inl ⟨want_wanted s.T hw, fun w' hw' => (h a w' s.T hw').1⟩) s.has
    (k hn hb _ (hc.add hr) h4 _ _ (s.put hv.2 (Nat.le_of_ble_eq_true hd)))

theorem WS.takeNo {b : Bool} {o : Oper} {tm : List (Nat × V)} {H R : List (Nat × Cell)} (hi : ops[i]? = some o) (hw : want ops tm o = some false)
    (hd : (match o.dst with | none => true | some d => Nat.blt d X.N) = true) (k : WS X F' rst ops f K r ⟨putO o.dst tm, H, R⟩) : WS X F' rst ops f K ((i, b) :: r) ⟨tm, H, R⟩ := by
  intro hn hb listed hc hs a w s
  cases b with
  | true =>
    simp only [schedOk, Bool.and_eq_true, Bool.or_eq_true] at hs
    obtain ⟨h1, h2, h3, h4⟩ := hs
    have hr : i ∈ Region.ready .any ops listed := by simpa using h1
    exact AnyG.first (v := undef) hi hn (QJ.panic_put _ _) (h3.imp (by simp) fun h => ⟨_, h⟩) _ _ _ _ hc (Region.free_spec hi h2) hr (.inr ⟨want_wanted s.T hw, rfl⟩) s.has (k hn hb _ (hc.add hr) h4 _ _ (s.putO hd))
  | false =>
    simp only [schedOk, Bool.and_eq_true, beq_iff_eq] at hs
    obtain ⟨h1, _, h3⟩ := hs
    refine ⟨fun h0 => (by rw [h1] at h0; cases h0), fun j hj => ?_⟩
    have hr := hj
    rw [h1] at hj
    simp only [List.mem_singleton] at hj
    subst hj
    have s' := s.putO hd
    unfold wpOp
    simp only [hi]
    rw [if_neg (by rw [want_wanted s.T hw]; simp)]
    exact ⟨fun _ => s'.has, k hn hb _ (hc.add hr) h3 _ _ s'⟩

/-- The one that may come up. -/
theorem WS.ex {o : Oper} {st : St} (hi : ops[i]? = some o) (hw : want ops st.tm o = some true)
    (h : Ex { X with F := F' } o st (WS X F' rst ops f K r)) : WS X F' rst ops f K ((i, false) :: r) st := by
  intro hn hb listed hc hs a w s
  simp only [schedOk, Bool.and_eq_true, beq_iff_eq] at hs
  obtain ⟨h1, _, h3⟩ := hs
  refine ⟨fun h0 => (by rw [h1] at h0; cases h0), fun j hj => ?_⟩
  have hr := hj
  rw [h1] at hj
  simp only [List.mem_singleton] at hj
  subst hj
  unfold wpOp
  simp only [hi]
  rw [if_pos (want_wanted s.T hw)]
  exact .inl (h a w s _ _ fun st' a' w' hk s' => ⟨fun _ => s'.has, hk hn hb _ (hc.add hr) h3 a' w' s'⟩)

/-- The last one: what the region left alone till now it may write. -/
theorem WS.last {o : Oper} {st : St} (hi : ops[i]? = some o) (hw : want ops st.tm o = some true) (hf : f = i)
    (h : Ex X o (rst st) (K .normal)) : WS X F' rst ops f K [(i, false)] st := by
  subst hf
  intro _ hb listed hc hs a w s
  simp only [schedOk, Bool.and_eq_true, beq_iff_eq] at hs
  obtain ⟨h1, _, h3⟩ := hs
  refine ⟨fun h0 => (by rw [h1] at h0; cases h0), fun j hj => ?_⟩
  rw [h1] at hj
  simp only [List.mem_singleton] at hj
  subst hj
  unfold wpOp
  simp only [hi]
  rw [if_pos (want_wanted s.T hw)]
  refine .inl (h a w (hb _ _ _ s) _ _ fun st' a' w' hk s' => ⟨fun h => absurd rfl h, ?_⟩)
  exact ⟨by simpa using h3, st', hk, s'⟩

theorem WS.split {sched : List (Nat × Bool)} {tm : List (Nat × V)} {H R : List (Nat × Cell)} (d : Nat) {b : Bool} (h : get d tm = some (.bool b))
    (ht : b = true → WS X F' rst ops f K sched ⟨(d, .bool true) :: tm, H, R⟩) (hf : b = false → WS X F' rst ops f K sched ⟨(d, .bool false) :: tm, H, R⟩) : WS X F' rst ops f K sched ⟨tm, H, R⟩ := fun hn hb listed hc hs a w s => by
  cases b with
  | true => exact ht rfl hn hb listed hc hs a w (s.settle h rfl)
  | false => exact hf rfl hn hb listed hc hs a w (s.settle h rfl)

theorem WS.set {sched : List (Nat × Bool)} {tm : List (Nat × V)} {H R : List (Nat × Cell)} (d : Nat) {v : V} (u : V) (h : get d tm = some v) (e : u = v)
    (k : WS X F' rst ops f K sched ⟨(d, u) :: tm, H, R⟩) : WS X F' rst ops f K sched ⟨tm, H, R⟩ := fun hn hb listed hc hs a w s => k hn hb listed hc hs a w (s.settle h e)

end

/-! ### objects that a region leaves alone go into its frame -/

def keep {α : Type} (ro : List Nat) (H : List (Nat × α)) : List (Nat × α) := H.filter fun x => ro.contains x.1
def dropp {α : Type} (ro : List Nat) (H : List (Nat × α)) : List (Nat × α) := H.filter fun x => !ro.contains x.1

theorem get_filter {α : Type} (p : Nat → Bool) (t : Nat) : ∀ H : List (Nat × α), get t (H.filter fun x => p x.1) = if p t then get t H else none
  | [] => by simp [get]
  | (u, x) :: r => by
    rw [List.filter_cons]
    by_cases hp : p u = true
    · simp only [hp, if_true, get_cons, get_filter p t r]
      by_cases hu : t = u
      · subst hu; simp [hp]
      · simp [hu]
    · rw [if_neg hp, get_filter p t r, get_cons]
      by_cases hu : t = u
      · subst hu; rw [if_neg hp, if_neg hp]
      · rw [if_neg hu]

theorem get_append {α : Type} (t : Nat) (B : List (Nat × α)) : ∀ A : List (Nat × α), get t (A ++ B) = (get t A).or (get t B)
  | [] => by simp [get]
  | (u, x) :: r => by
    simp only [List.cons_append, get_cons, get_append t B r]
    split <;> simp

theorem CellIn.mono {A F F' : Fr} (h : F.le F') {c : Cell} (hc : CellIn A F.c c) : CellIn A F'.c c := hc.congr fun b hb => by
  obtain ⟨o, ho⟩ := hc.blk_some b hb
  rw [ho, h.c b o ho]

/-- The orders one after the other, told apart as they come up. -/
def WT (X : Cx) (F' : Fr) (rst : St → St) (ops : Array Oper) (f : Nat) (K : Exit → St → Prop) (n : Nat) (listed : Array Bool) (st : St) : Prop :=
  Region.noSelect ops = true → (∀ st a w, Sim { X with F := F' } st a w → Sim X (rst st) a w) → Closed .any ops listed →
    ∀ a w, Sim { X with F := F' } st a w → AnyG X.P .any ops (QJ X K) (Has F') f n listed a w

theorem WS.toT {X : Cx} {F' : Fr} {rst : St → St} {ops : Array Oper} {f : Nat} {K : Exit → St → Prop} {sched : List (Nat × Bool)} {st : St} {listed : Array Bool} {n : Nat} (h : WS X F' rst ops f K sched st) (hn : sched.length = n) (hs : schedOk ops f listed sched = true) :
    WT X F' rst ops f K n listed st := fun h1 h2 h3 a w s => hn ▸ h h1 h2 listed h3 hs a w s

section
variable {X : Cx} {F' : Fr} {rst : St → St} {ops : Array Oper} {f n : Nat} {K : Exit → St → Prop} {i j : Nat} {listed : Array Bool}

theorem WT.nil {st : St} (hr : (Region.ready .any ops listed).isEmpty = true) (h : K .normal (rst st)) : WT X F' rst ops f K 0 listed st := by
  intro _ hb hc a w s
  exact ⟨by simpa using hr, rst st, h, hb _ _ _ s⟩

/-- Quiet, and ready: first. -/
theorem WT.take {d : Nat} {op : Op} {ty : TypeId} {pos : String} {af : Array Edge} {gd : Option (Nat × Bool)} {tm : List (Nat × V)} {H R : List (Nat × Cell)} {v : V} (hi : ops[i]? = some ⟨some d, op, ty, pos, af, gd⟩)
    (hw : want ops tm ⟨some d, op, ty, pos, af, gd⟩ = some true) (hd : Nat.blt d X.N = true) (hr : ((Region.ready .any ops listed).contains i && (Region.free .any ops listed i && (ops[f]?.isNone || waitsB .any ops i ops.size f))) = true)
    (h : EvQ { X with F := F' } ⟨some d, op, ty, pos, af, gd⟩ ⟨tm, H, R⟩ v) (k : WT X F' rst ops f K n (listed.setIfInBounds i true) ⟨(d, v) :: tm, H, R⟩) : WT X F' rst ops f K (n + 1) listed ⟨tm, H, R⟩ := by
  intro hn hb hc a w s
  simp only [Bool.and_eq_true, Bool.or_eq_true] at hr
  obtain ⟨h1, h2, h3⟩ := hr
  have hv := h a w s.T s.has
  have hr : i ∈ Region.ready .any ops listed := by simpa using h1
  exact AnyG.first (v := v.real) hi hn (QJ.panic_put _ _) (h3.imp (by simp) fun h => ⟨_, h⟩) _ _ _ _ hc (Region.free_spec hi h2) hr (.inl ⟨want_wanted s.T hw, fun w' hw' => (h a w' s.T hw').1⟩) s.has
    (k hn hb (hc.add hr) _ _ (s.put hv.2 (Nat.le_of_ble_eq_true hd)))

/-- Two that may come up. -/
theorem WT.two {o o' : Oper} {st : St} (hi : ops[i]? = some o) (hj : ops[j]? = some o') (hw : want ops st.tm o = some true) (hw' : want ops st.tm o' = some true) (hr : (Region.ready .any ops listed == [i, j]) = true)
    (h : Ex { X with F := F' } o st (WT X F' rst ops f K n (listed.setIfInBounds i true))) (h' : Ex { X with F := F' } o' st (WT X F' rst ops f K n (listed.setIfInBounds j true))) : WT X F' rst ops f K (n + 1) listed st := by
  intro hn hb hc a w s
  simp only [beq_iff_eq] at hr
  refine ⟨fun h0 => (by rw [hr] at h0; cases h0), fun k hk => ?_⟩
  have hk' := hk
  rw [hr] at hk
  simp only [List.mem_cons, List.not_mem_nil, or_false] at hk
  unfold wpOp
  rcases hk with rfl | rfl
  · simp only [hi]
    rw [if_pos (want_wanted s.T hw)]
    exact .inl (h a w s _ _ fun st' a' w' hk s' => ⟨fun _ => s'.has, hk hn hb (hc.add hk') a' w' s'⟩)
  · simp only [hj]
    rw [if_pos (want_wanted s.T hw')]
    exact .inl (h' a w s _ _ fun st' a' w' hk s' => ⟨fun _ => s'.has, hk hn hb (hc.add hk') a' w' s'⟩)

theorem WT.one {o : Oper} {st : St} (hi : ops[i]? = some o) (hw : want ops st.tm o = some true) (hr : (Region.ready .any ops listed == [i]) = true)
    (h : Ex { X with F := F' } o st (WT X F' rst ops f K n (listed.setIfInBounds i true))) : WT X F' rst ops f K (n + 1) listed st := by
  intro hn hb hc a w s
  simp only [beq_iff_eq] at hr
  refine ⟨fun h0 => (by rw [hr] at h0; cases h0), fun k hk => ?_⟩
  have hk' := hk
  rw [hr, List.mem_singleton] at hk
  subst hk
  unfold wpOp
  simp only [hi]
  rw [if_pos (want_wanted s.T hw)]
  exact .inl (h a w s _ _ fun st' a' w' hk s' => ⟨fun _ => s'.has, hk hn hb (hc.add hk') a' w' s'⟩)

end

theorem J.drawT {X : Cx} {id : Nat} {l : List Oper} {K : Exit → St → Prop} {tm : List (Nat × V)} {H R : List (Nat × Cell)} (ro : List Nat) (f : Nat) (hm : X.P.follows .mixedOrders = true)
    (hs : Region.noSelect l.toArray = true)
    (h : ∀ F', X.F.le F' → WT X F' (fun st => ⟨st.tm, st.H ++ keep ro H, R⟩) l.toArray f K l.length (Array.replicate l.length false) ⟨tm, dropp ro H, keep ro H ++ R⟩) : J X (.region id l.toArray true) K ⟨tm, H, R⟩ := by
  intro a w s0
  have s := s0.drew
  generalize hwd : ({ w with drawn := w.drawn + 1 } : World) = wd at s
  classical
  let F' : Fr := { X.F with c := fun b => match X.F.c b with
    | some o => some o
    | none => if ∃ t c, get t (keep ro H) = some c ∧ c.blk b then wd.heap[b]? else none }
  have hle : X.F.le F' := ⟨fun b o hb => by show (match X.F.c b with | some o => some o | none => _) = some o; rw [hb], rfl, rfl, rfl, Nat.le_refl _⟩
  have hkeep : ∀ t c, get t (keep ro H) = some c → get t H = some c := fun t c hg => by
    unfold keep at hg
    rw [get_filter (fun t => ro.contains t)] at hg
    split at hg
    · exact hg
    · cases hg
  have hdrop : ∀ t c, get t (dropp ro H) = some c → get t H = some c ∧ get t (keep ro H) = none := fun t c hg => by
    unfold dropp at hg
    rw [get_filter (fun t => !ro.contains t)] at hg
    split at hg
    · rename_i hp
      refine ⟨hg, ?_⟩
      unfold keep
      rw [get_filter (fun t => ro.contains t), if_neg (by simpa using hp)]
    · cases hg
  have hFk : ∀ t c, get t (keep ro H) = some c → ∀ b, c.blk b → F'.c b = wd.heap[b]? := fun t c hg b hb => by
    have h2 := (s.hp t c (hkeep t c hg)).2 b hb
    show (match X.F.c b with | some o => some o | none => _) = _
    rw [h2]
    exact if_pos ⟨t, c, hg, hb⟩
  have s' : Sim { X with F := F' } ⟨tm, dropp ro H, keep ro H ++ R⟩ a wd := by
    refine ⟨⟨fun b o hb => ?_, s.has.os, s.has.out, s.has.tape, s.has.dr⟩, Fr.le_trans s.le hle, s.size, s.dn, s.tm, ?_, ?_, ?_⟩
    · have hb' : (match X.F.c b with | some o => some o | none => if ∃ t c, get t (keep ro H) = some c ∧ c.blk b then wd.heap[b]? else none) = some o := hb
      cases hc : X.F.c b with
      | some o' => rw [hc] at hb'; rw [← hb']; exact s.has.cells b o' hc
      | none =>
        rw [hc] at hb'
        simp only at hb'
        split at hb'
        · exact hb'
        · cases hb'
    · intro t c hg
      obtain ⟨hg, hk⟩ := hdrop t c hg
      obtain ⟨h1, h2⟩ := s.hp t c hg
      refine ⟨h1, fun b hb => ?_⟩
      show (match X.F.c b with | some o => some o | none => if ∃ t c, get t (keep ro H) = some c ∧ c.blk b then wd.heap[b]? else none) = none
      rw [h2 b hb]
      refine if_neg ?_
      rintro ⟨u, c', hu, hb'⟩
      by_cases e : t = u
      · subst e; rw [hk] at hu; cases hu
      · exact s.dj t u c c' e hg (hkeep u c' hu) b hb hb'
    · intro t u c c' hne h1 h2
      exact s.dj t u c c' hne (hdrop t c h1).1 (hdrop u c' h2).1
    · intro t c hg
      show CellIn X.A F'.c c
      have hg' : (get t (keep ro H)).or (get t R) = some c := by rw [← get_append]; exact hg
      cases hk : get t (keep ro H) with
      | some c' =>
        rw [hk] at hg'
        simp only [Option.some_or, Option.some.injEq] at hg'
        subst hg'
        exact (s.hp t c' (hkeep t c' hk)).1.congr fun b hb => hFk t c' hk b hb
      | none =>
        rw [hk] at hg'
        simp only [Option.none_or] at hg'
        exact (s.ro t c hg').mono hle
  have hback : ∀ st' a' w', Sim { X with F := F' } st' a' w' → Sim X ⟨st'.tm, st'.H ++ keep ro H, R⟩ a' w' := by
    intro st' a' w' s''
    have hkc : ∀ t c, get t (keep ro H) = some c → ∀ b, c.blk b → w'.heap[b]? = wd.heap[b]? ∧ ∃ o, F'.c b = some o := fun t c hg b hb => by
      obtain ⟨o, ho⟩ := (s.hp t c (hkeep t c hg)).1.blk_some b hb
      have he := hFk t c hg b hb
      rw [ho] at he
      exact ⟨(s''.has.cells b o he).trans ho.symm, o, he⟩
    refine ⟨s''.has.mono hle, s.le, s''.size, s''.dn, s''.tm, ?_, ?_, s.ro⟩
    · intro t c hg
      have hg' : (get t st'.H).or (get t (keep ro H)) = some c := by rw [← get_append]; exact hg
      cases hh : get t st'.H with
      | some c' =>
        rw [hh] at hg'
        simp only [Option.some_or, Option.some.injEq] at hg'
        subst hg'
        obtain ⟨h1, h2⟩ := s''.hp t c' hh
        refine ⟨h1, fun b hb => ?_⟩
        cases hx : X.F.c b with
        | none => rfl
        | some o => have := hle.c b o hx; rw [h2 b hb] at this; cases this
      | none =>
        rw [hh] at hg'
        simp only [Option.none_or] at hg'
        obtain ⟨h1, h2⟩ := s.hp t c (hkeep t c hg')
        exact ⟨h1.congr fun b hb => (hkc t c hg' b hb).1, h2⟩
    · intro t u c c' hne h1 h2 b hb hb'
      have g1 : (get t st'.H).or (get t (keep ro H)) = some c := by rw [← get_append]; exact h1
      have g2 : (get u st'.H).or (get u (keep ro H)) = some c' := by rw [← get_append]; exact h2
      cases e1 : get t st'.H with
      | some x =>
        rw [e1] at g1; simp only [Option.some_or, Option.some.injEq] at g1; subst g1
        cases e2 : get u st'.H with
        | some y =>
          rw [e2] at g2; simp only [Option.some_or, Option.some.injEq] at g2; subst g2
          exact s''.dj t u x y hne e1 e2 b hb hb'
        | none =>
          rw [e2] at g2; simp only [Option.none_or] at g2
          obtain ⟨_, o, ho⟩ := hkc u c' g2 b hb'
          have := (s''.hp t x e1).2 b hb
          simp only at this
          rw [ho] at this; cases this
      | none =>
        rw [e1] at g1; simp only [Option.none_or] at g1
        cases e2 : get u st'.H with
        | some y =>
          rw [e2] at g2; simp only [Option.some_or, Option.some.injEq] at g2; subst g2
          obtain ⟨_, o, ho⟩ := hkc t c g1 b hb
          have := (s''.hp u y e2).2 b hb'
          simp only at this
          rw [ho] at this; cases this
        | none =>
          rw [e2] at g2; simp only [Option.none_or] at g2
          exact s.dj t u c c' hne (hkeep t c g1) (hkeep u c' g2) b hb hb'
  have hwa := h F' hle hs hback (Closed.none _ _ _) a wd s'
  refine wp_region_any hm ?_
  rw [hwd]
  simpa using AnyG.any _ _ _ _ hwa

theorem J.draw {X : Cx} {id : Nat} {l : List Oper} {K : Exit → St → Prop} {tm : List (Nat × V)} {H R : List (Nat × Cell)} (ro : List Nat) (f : Nat) (sched : List (Nat × Bool)) (hm : X.P.follows .mixedOrders = true)
    (hl : sched.length = l.length) (hs : (Region.noSelect l.toArray && schedOk l.toArray f (Array.replicate l.length false) sched) = true)
    (h : ∀ F', X.F.le F' → WS X F' (fun st => ⟨st.tm, st.H ++ keep ro H, R⟩) l.toArray f K sched ⟨tm, dropp ro H, keep ro H ++ R⟩) : J X (.region id l.toArray true) K ⟨tm, H, R⟩ := by
  simp only [Bool.and_eq_true] at hs
  exact J.drawT ro f hm hs.1 fun F' hF => (h F' hF).toT hl hs.2

end Go.Vm
