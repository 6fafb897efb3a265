/- From the judgement to the contract. -/
import Derived.Test.YtimkkhefemnkpaaVm7
namespace Go.Vm

inductive RetV (P : Program) (st : St) : List ResultVar → List V → Prop
  | nil : RetV P st [] []
  | tmp {t : Nat} {v : V} {r : List ResultVar} {vs : List V} (h : get t st.tm = some v) (k : RetV P st r vs) : RetV P st (.tmp t :: r) (v :: vs)
  | cell {a T t b o n : Nat} {g : Bool} {T' : TypeId} {v u : V} {r : List ResultVar} {vs : List V} (i : Ty P T g n) (h : get a st.tm = some (.ptr t b o)) (h1 : get t st.H = some (.box b T' v)) (h2 : v.at g n o = some u)
      (k : RetV P st r vs) : RetV P st (.cell a T :: r) (u :: vs)

def tupV : List V → V
  | [] => .tup0
  | [a] => a
  | [a, b] => .tup2 a b
  | [a, b, c] => .tup3 a b c
  | _ => .tup0

theorem getD_of {a : Array Value} {t : Nat} {v : Value} (h : a[t]? = some v) : a.getD t undef = v := by
  rw [Array.getD_eq_getD_getElem?, h]; rfl

theorem retV_run {X : Cx} {st : St} {a : Act} {w : World} (s : Sim X st a w) {l : List ResultVar} {vs : List V} (h : RetV X.P st l vs) :
    (l.mapM fun x => match x with
      | ResultVar.tmp t => (pure (a.tmps.getD t undef) : Sem Value)
      | ResultVar.cell ad t => do loadVar t (← asAddr (a.tmps.getD ad undef))).run X.P w = .ok (vs.map V.real) w ∧ ∀ v ∈ vs, VOk X.A v := by
  induction h with
  | nil => simp
  | tmp h k ih =>
    have ht := s.tm _ _ h
    refine ⟨?_, fun u hu => ?_⟩
    · have e := getD_of ht.1
      rw [List.mapM_cons]
      simp only [Sem.run_bind, Sem.run_pure, Result.andThen_ok, ih.1, e, List.map_cons]
    · rcases List.mem_cons.1 hu with rfl | hu
      · exact ht.2
      · exact ih.2 u hu
  | cell i h h1 h2 k ih =>
    have ht := s.tm _ _ h
    rename_i a' T t b o n g T' v u r vs
    obtain ⟨l1, l2⟩ := load_box (P := X.P) (T := T) (w := w) (s.hp _ _ h1).1 (fun _ h => h) h2
    refine ⟨?_, fun u hu => ?_⟩
    · have e := getD_of ht.1
      have e2 : (asAddr (V.ptr t b o).real).run X.P w = .ok ⟨b, o, none⟩ w := rfl
      rw [List.mapM_cons]
      simp only [Sem.run_bind, Sem.run_pure, Result.andThen_ok, ih.1, e, e2, l1, List.map_cons]
    · rcases List.mem_cons.1 hu with rfl | hu
      · exact l2
      · exact ih.2 u hu

theorem results_run {X : Cx} {st : St} {a : Act} {w : World} (s : Sim X st a w) {fn : Func} {l : List ResultVar} {vs : List V} (hl : fn.results = l.toArray) (h : RetV X.P st l vs) (h3 : vs.length ≤ 3) :
    (results fn a.tmps).run X.P w = .ok (tupV vs).real w ∧ VOk X.A (tupV vs) := by
  obtain ⟨h1, h2⟩ := retV_run s h
  refine ⟨?_, ?_⟩
  · have key : ∀ r : Result (List Value), r = .ok (vs.map V.real) w →
        ((r.andThen fun a w' => Result.ok a.toArray w').andThen fun (a : Array Value) w' => Sem.run X.P (pure (if h : a.size = 1 then a[0] else Value.tuple a)) w') = .ok (tupV vs).real w := by
      rintro _ rfl
      match vs, h3 with
      | [], _ => rfl
      | [_], _ => rfl
      | [_, _], _ => rfl
      | [_, _, _], _ => rfl
    unfold results
    rw [hl, List.mapM_toArray]
    simp only [Sem.run_bind, Sem.run_map]
    exact key _ h1
  · match vs, h3 with
    | [], _ => trivial
    | [x], _ => exact h2 x (by simp)
    | [x, y], _ => exact ⟨h2 x (by simp), h2 y (by simp)⟩
    | [x, y, z], _ => exact ⟨h2 x (by simp), h2 y (by simp), h2 z (by simp)⟩

/-- What the objects of a state give: other names, other spellings, fewer. -/
def HLe (A : Fr) (H H' : List (Nat × Cell)) : Prop := ∀ F w, HOk A F H w → HOk A F H' w

theorem HLe.refl (A : Fr) (H : List (Nat × Cell)) : HLe A H H := fun _ _ h => h
theorem HLe.nil (A : Fr) (H : List (Nat × Cell)) : HLe A H [] := fun _ _ h => ⟨h.has, fun t c hg => by simp [get] at hg, fun t u c c' _ hg => by simp [get] at hg⟩

/-- How a function's body ends. -/
def Kret (X : Cx) (l : List ResultVar) (post : V → List (Nat × Cell) → Prop) : Exit → St → Prop := fun e st =>
  (match e with | .normal => True | .ret => True | _ => False) ∧
    ∃ vs r H', RetV X.P st l vs ∧ vs.length ≤ 3 ∧ r.real = (tupV vs).real ∧ (∀ A, VOk A (tupV vs) → VOk A r) ∧ HLe X.A st.H H' ∧ post r H'

theorem Kret.mk {X : Cx} {l : List ResultVar} {post : V → List (Nat × Cell) → Prop} {e : Exit} {st : St} {vs : List V} (H' : List (Nat × Cell)) (hr : RetV X.P st l vs) (h3 : Nat.ble vs.length 3 = true)
    (he : (match e with | .normal => True | .ret => True | _ => False)) (hH : HLe X.A st.H H') (h : post (tupV vs) H') : Kret X l post e st :=
  ⟨he, vs, _, H', hr, Nat.le_of_ble_eq_true h3, rfl, fun _ h => h, hH, h⟩

def argTm : Nat → List V → List (Nat × V)
  | _, [] => []
  | k, v :: r => (k, v) :: argTm (k + 1) r

theorem argTm_get : ∀ (vs : List V) (k d : Nat) (v : V), get d (argTm k vs) = some v → k ≤ d ∧ vs[d - k]? = some v
  | [], _, _, _, h => by simp [argTm, get] at h
  | u :: r, k, d, v, h => by
    simp only [argTm, get_cons] at h
    by_cases hd : d = k
    · subst hd
      rw [if_pos rfl] at h
      exact ⟨Nat.le_refl _, by simpa using h⟩
    · rw [if_neg hd] at h
      obtain ⟨h1, h2⟩ := argTm_get r (k + 1) d v h
      refine ⟨by omega, ?_⟩
      rw [show d - k = (d - (k + 1)) + 1 by omega]
      simpa using h2

/-- A contract by a walk of the body. -/
theorem Spec.of_J {P : Program} {f : FuncId} {fn : Func} {c : Code} {N : Nat} {l : List ResultVar} {args : List V} {H : List (Nat × Cell)} {post : V → List (Nat × Cell) → Prop} (hf : P.funcs[f]? = some fn) (hb : fn.body = some c)
    (hN : fn.ntmps = N) (hl : fn.results = l.toArray) (hn : Nat.ble args.length N = true)
    (h : ∀ A F, A.le F → J { P := P, A := A, F := F, N := N } c (Kret { P := P, A := A, F := F, N := N } l post) ⟨argTm 0 args, H, []⟩) : Spec P f args H post := by
  intro A F w hAF hH hargs
  have hn' := Nat.le_of_ble_eq_true hn
  refine calls_of_wp hf hb ?_
  have s : Sim { P := P, A := A, F := F, N := N } ⟨argTm 0 args, H, []⟩ { tmps := (args.map V.real).toArray ++ Array.replicate (fn.ntmps - (args.map V.real).toArray.size) undef, defers := [] } w := by
    refine ⟨hH.has, hAF, ?_, rfl, ?_, hH.hp, hH.dj, fun t c hg => by simp [get] at hg⟩
    · simp [hN]; omega
    · intro d v hg
      obtain ⟨_, hg⟩ := argTm_get args 0 d v hg
      rw [Nat.sub_zero] at hg
      obtain ⟨hlt, _⟩ := List.getElem?_eq_some_iff.1 hg
      refine ⟨?_, hargs v (List.mem_of_getElem? hg)⟩
      rw [Array.getElem?_append_left (by simpa using hlt)]
      simp [hg]
  refine wp_mono (h A F hAF _ _ s) ?_
  intro e a' w' q
  have fin : ∀ st', Kret { P := P, A := A, F := F, N := N } l post e st' → Sim { P := P, A := A, F := F, N := N } st' a' w' → a'.defers = [] ∧ ∃ v, (results fn a'.tmps).run P w' = .ok v w' ∧
      ∃ r H', post r H' ∧ Ending.returned v = .returned r.real ∧ VOk A r ∧ HOk A F H' w' := by
    rintro st' ⟨_, vs, r, H', h1, h2, h3, h4, h5, h6⟩ s'
    obtain ⟨g1, g2⟩ := results_run s' hl h1 h2
    exact ⟨s'.dn, _, g1, r, H', h6, by rw [h3], h4 _ g2, h5 F w' ⟨s'.has, s'.hp, s'.dj⟩⟩
  cases e with
  | normal => obtain ⟨st', hk, s'⟩ := q; exact fin st' hk s'
  | ret => obtain ⟨st', hk, s'⟩ := q; exact fin st' hk s'
  | exit i => obtain ⟨st', hk, _⟩ := q; exact hk.1.elim
  | goto i => obtain ⟨st', hk, _⟩ := q; exact hk.1.elim
  | panic c => exact q.elim
  | outgrown => exact q.elim

/-! ### entailment between states, slot by slot and object by object -/

/-- Of the slots. -/
def TLe (A : Fr) (tm : List (Nat × V)) : List (Nat × V) → Prop
  | [] => True
  | (d, v) :: r => (∃ u, get d tm = some u ∧ v.real = u.real ∧ (VOk A u → VOk A v)) ∧ TLe A tm r

theorem TLe.get {A : Fr} {tm : List (Nat × V)} : ∀ {tm' : List (Nat × V)}, TLe A tm tm' → ∀ d v, Vm.get d tm' = some v → ∃ u, Vm.get d tm = some u ∧ v.real = u.real ∧ (VOk A u → VOk A v)
  | [], _, d, v, h => by simp [Vm.get] at h
  | (e, x) :: r, h, d, v, hg => by
    rw [get_cons] at hg
    by_cases hd : d = e
    · subst hd
      rw [if_pos rfl, Option.some.injEq] at hg
      subst hg
      exact h.1
    · rw [if_neg hd] at hg
      exact TLe.get h.2 d v hg

theorem same {A : Fr} {tm : List (Nat × V)} {d : Nat} {v : V} (h : get d tm = some v) : ∃ u, get d tm = some u ∧ v.real = u.real ∧ (VOk A u → VOk A v) := ⟨v, h, rfl, id⟩

theorem Le.mk {X : Cx} {tm tm' : List (Nat × V)} {H H' R R' : List (Nat × Cell)} (h1 : TLe X.A tm tm') (h2 : HLe X.A H H') (h3 : R' = R) : Le X ⟨tm, H, R⟩ ⟨tm', H', R'⟩ := by
  subst h3
  intro a w s
  have hh := h2 X.F w ⟨s.has, s.hp, s.dj⟩
  refine ⟨s.has, s.le, s.size, s.dn, fun d v hg => ?_, hh.hp, hh.dj, s.ro⟩
  obtain ⟨u, g1, g2, g3⟩ := h1.get d v hg
  obtain ⟨k1, k2⟩ := s.tm d u g1
  exact ⟨by rw [g2]; exact k1, g3 k2⟩

/-- An object that says less, or the same in other words. -/
def CLe (A : Fr) (c c' : Cell) : Prop := (∀ b, c'.blk b → c.blk b) ∧ ∀ h, CellIn A h c → CellIn A h c'

theorem CLe.refl (A : Fr) (c : Cell) : CLe A c c := ⟨fun _ h => h, fun _ h => h⟩

/-- Of the objects: each of the new list by the name that it had ('src'). -/
inductive HSub (A : Fr) (H : List (Nat × Cell)) : List Nat → List (Nat × Cell) → Prop
  | nil : HSub A H [] []
  | cons {t s : Nat} {c c' : Cell} {ss : List Nat} {r : List (Nat × Cell)} (h : get s H = some c) (hc : CLe A c c') (hn : ss.contains s = false) (k : HSub A H ss r) : HSub A H (s :: ss) ((t, c') :: r)
  | non {t : Nat} {T : TypeId} {z : Nat} {f : Nat → V} {ss : List Nat} {r : List (Nat × Cell)} (k : HSub A H ss r) : HSub A H ss ((t, .vec none T z 0 0 f) :: r)

theorem HSub.get {A : Fr} {H : List (Nat × Cell)} {ss : List Nat} {H' : List (Nat × Cell)} (h : HSub A H ss H') : ∀ t c', Vm.get t H' = some c' → (∃ s c, s ∈ ss ∧ Vm.get s H = some c ∧ CLe A c c') ∨ ∃ T z f, c' = .vec none T z 0 0 f := by
  induction h with
  | nil => intro t c' hg; simp [Vm.get] at hg
  | cons h hc hn k ih =>
    intro t c' hg
    rw [get_cons] at hg
    split at hg
    · rw [Option.some.injEq] at hg
      subst hg
      exact .inl ⟨_, _, by simp, h, hc⟩
    · rcases ih t c' hg with ⟨s, c, h1, h2, h3⟩ | h
      · exact .inl ⟨s, c, by simp [h1], h2, h3⟩
      · exact .inr h
  | non k ih =>
    intro t c' hg
    rw [get_cons] at hg
    split at hg
    · rw [Option.some.injEq] at hg
      subst hg
      exact .inr ⟨_, _, _, rfl⟩
    · exact ih t c' hg

theorem HSub.dj {A F : Fr} {H : List (Nat × Cell)} {w : World} (ok : HOk A F H w) {ss : List Nat} {H' : List (Nat × Cell)} (h : HSub A H ss H') :
    ∀ t u c c', t ≠ u → Vm.get t H' = some c → Vm.get u H' = some c' → ∀ b, c.blk b → ¬ c'.blk b := by
  induction h with
  | nil => intro t u c c' _ hg; simp [Vm.get] at hg
  | cons h hc hn k ih =>
    intro t u x y hne h1 h2 b hb1 hb2
    rw [get_cons] at h1 h2
    split at h1
    · rename_i e1
      rw [if_neg (fun e2 => hne (e1.trans e2.symm))] at h2
      rw [Option.some.injEq] at h1
      subst h1
      obtain ⟨s', c'', m1, m2, m3⟩ := (k.get u y h2).resolve_right (by rintro ⟨_, _, _, rfl⟩; simp [Cell.blk] at hb2)
      refine ok.dj _ s' _ c'' ?_ h m2 b (hc.1 b hb1) (m3.1 b hb2)
      intro e
      subst e
      simp [m1] at hn
    · split at h2
      · rw [Option.some.injEq] at h2
        subst h2
        obtain ⟨s', c'', m1, m2, m3⟩ := (k.get t x h1).resolve_right (by rintro ⟨_, _, _, rfl⟩; simp [Cell.blk] at hb1)
        refine ok.dj _ s' _ c'' ?_ h m2 b (hc.1 b hb2) (m3.1 b hb1)
        intro e
        subst e
        simp [m1] at hn
      · exact ih t u x y hne h1 h2 b hb1 hb2
  | non k ih =>
    intro t u x y hne h1 h2 b hb1 hb2
    rw [get_cons] at h1 h2
    split at h1
    · rw [Option.some.injEq] at h1
      subst h1
      simp [Cell.blk] at hb1
    · split at h2
      · rw [Option.some.injEq] at h2
        subst h2
        simp [Cell.blk] at hb2
      · exact ih t u x y hne h1 h2 b hb1 hb2

theorem HLe.sub {A : Fr} {H H' : List (Nat × Cell)} {ss : List Nat} (h : HSub A H ss H') : HLe A H H' := fun F w ok =>
  ⟨ok.has, fun t c' hg => by
    rcases h.get t c' hg with ⟨s, c, _, h2, h3⟩ | ⟨_, _, _, rfl⟩
    · obtain ⟨g1, g2⟩ := ok.hp s c h2
      exact ⟨h3.2 _ g1, fun b hb => g2 b (h3.1 b hb)⟩
    · exact ⟨⟨rfl, rfl⟩, fun b hb => by simp [Cell.blk] at hb⟩, h.dj ok⟩

end Go.Vm

namespace Go.Vm
def fieldsOf (P : Program) (T : TypeId) : Array Field := match P.underlying T with | some (.struct fs) => fs | _ => #[]

theorem Fld.mk' {P : Program} {T : TypeId} {i off n : Nat} {g : Bool} (f : Field) (hu : ∀ w, (underlying T).run P w = .ok (.struct (fieldsOf P T)) w) (hf : (fieldsOf P T)[i]? = some f) (ho : f.offset = off)
    (ha : ∀ w, (isAgg f.type).run P w = .ok g w) (hs : ∀ w, (sizeOf f.type).run P w = .ok n w) (hn : n ≠ 0) : Fld P T i off g n where
  addr a w := by
    simp [Instr.fieldAt, hu, hf, Instr.sureAddr, fieldPlace, hs, hn, ho]
  part cs w := by
    simp only [Instr.field, Sem.run_bind, hu, hf, asAgg, Sem.run_pure, Result.andThen_ok, ho]
    cases g with
    | true => simp [Go.part, ha, hs]
    | false =>
      simp only [Go.part, Sem.run_bind, ha, Result.andThen_ok]
      cases cs[off]? <;> simp

theorem zer_mk {P : Program} {T : TypeId} {v : V} (h : ∀ w, (zeroValue T).run P w = .ok v.real w) (hm : v.mem = true) (ho : ∀ A, VOk A v) : Zer P T v := ⟨h, hm, ho⟩

theorem Bld.struct {P : Program} {T : TypeId} {z : V} {pl : Array (Nat × Nat)} (h : ∀ w, (zeroValue T).run P w = .ok z.real w) (hu : ∀ w, (underlying T).run P w = .ok (.struct (fieldsOf P T)) w)
    (hp : ∀ w, ((fieldsOf P T).mapM fun (f : Field) => (do pure (f.offset, ← sizeOf f.type) : Sem (Nat × Nat))).run P w = .ok pl w) (hg : z.isAgg = true) (hm : z.mem = true) (ho : ∀ A, VOk A z) : Bld P T z pl where
  run parts w cells hc := by
    have hz : z.real.cells = z.cells.toArray := by rw [← V.real_cells hm]
    simp only [Instr.build, Sem.run_bind, h, hu, hp, Result.andThen_ok, hz, hc, Sem.run_pure]
  agg := hg
  mem := hm
  ok := ho

theorem fill_mono {p q : Nat → Option (Nat × Nat)} (hpq : ∀ i x, p i = some x → q i = some x) : ∀ (l : List (Nat × Value)) (cells r : Array Value), Instr.fill p cells l = some r → Instr.fill q cells l = some r
  | [], _, _, h => h
  | (i, v) :: l, cells, r, h => by
    simp only [Instr.fill] at h ⊢
    cases hp : p i with
    | none => rw [hp] at h; simp at h
    | some x =>
      rw [hp] at h
      rw [hpq i x hp]
      obtain ⟨off, size⟩ := x
      simp only at h ⊢
      split at h
      · cases h
      · rename_i hc
        rw [if_neg hc]
        exact fill_mono hpq l _ r h

theorem Bld.array {P : Program} {T E : TypeId} {z : V} {m n : Nat} (h : ∀ w, (zeroValue T).run P w = .ok z.real w) (hu : ∀ w, (underlying T).run P w = .ok (.array m E) w)
    (hs : ∀ w, (sizeOf E).run P w = .ok n w) (hg : z.isAgg = true) (hm : z.mem = true) (ho : ∀ A, VOk A z) : Bld P T z ((Array.range m).map fun i => (i * n, n)) where
  run parts w cells hc := by
    have hz : z.real.cells = z.cells.toArray := by rw [← V.real_cells hm]
    have hc' := fill_mono (q := fun i => some (i * n, n)) (fun i x hx => by
      have hx' : ((Array.range m).map fun i => (i * n, n))[i]? = some x := hx
      rw [Array.getElem?_map] at hx'
      cases hi : (Array.range m)[i]? with
      | none => rw [hi] at hx'; simp at hx'
      | some k =>
        rw [hi] at hx'
        have : k = i := by
          obtain ⟨hlt, he⟩ := Array.getElem?_eq_some_iff.1 hi
          simpa using he.symm
        subst this
        simpa using hx') _ _ _ hc
    simp only [Instr.build, Sem.run_bind, h, hu, hs, Result.andThen_ok, hz, hc', Sem.run_pure]
  agg := hg
  mem := hm
  ok := ho

end Go.Vm

namespace Go.Vm
theorem Bld.array' {P : Program} {T E : TypeId} {z : V} {m n : Nat} {pl : Array (Nat × Nat)} (hpl : pl = (Array.range m).map fun i => (i * n, n)) (h : ∀ w, (zeroValue T).run P w = .ok z.real w) (hu : ∀ w, (underlying T).run P w = .ok (.array m E) w)
    (hs : ∀ w, (sizeOf E).run P w = .ok n w) (hg : z.isAgg = true) (hm : z.mem = true) (ho : ∀ A, VOk A z) : Bld P T z pl := hpl ▸ Bld.array h hu hs hg hm ho
end Go.Vm

namespace Go.Vm

theorem Kloop.next {X : Cx} {β : Type} {Φ : β → Prop} {I : β → St} {μ : β → Nat} {x : β} {K : Exit → St → Prop} {st : St} (y : β) (h1 : Φ y) (h2 : μ y < μ x) (h3 : Le X st (I y)) : Kloop X Φ I μ x K .normal st := ⟨y, h1, h2, h3⟩

def Kcut (X : Cx) {β : Type} (Φ : β → Prop) (M : β → St) (K : Exit → St → Prop) : Exit → St → Prop
  | .normal, st => ∃ y, Φ y ∧ Le X st (M y)
  | e, st => K e st

theorem Kcut.mk {X : Cx} {β : Type} {Φ : β → Prop} {M : β → St} {K : Exit → St → Prop} {st : St} (y : β) (h1 : Φ y) (h2 : Le X st (M y)) : Kcut X Φ M K .normal st := ⟨y, h1, h2⟩

/-- Where ways meet again. -/
theorem J.cut {X : Cx} {c : Code} {K : Exit → St → Prop} {st : St} {β : Type} (Φ : β → Prop) (M : β → St) (h : J X c (Kcut X Φ M K) st) (k : ∀ y, Φ y → ∀ st', Le X st' (M y) → K .normal st') : J X c K st :=
  h.mono fun e st' hk => by
    cases e with
    | normal => obtain ⟨y, h1, h2⟩ := hk; exact k y h1 st' h2
    | exit i => exact hk
    | goto i => exact hk
    | ret => exact hk
    | panic c => exact hk
    | outgrown => exact hk

/-- Where ways meet again, ahead of more code. -/
theorem J.seqcut {X : Cx} {x y : Code} {K : Exit → St → Prop} {st : St} {β : Type} (Φ : β → Prop) (M : β → St) (h : J X x (Kcut X Φ M K) st) (k : ∀ b, Φ b → J X y K (M b)) : J X (.seq x y) K st := by
  refine J.seq (h.mono fun e st' hk => ?_)
  cases e with
  | normal => obtain ⟨b, h1, h2⟩ := hk; exact J.le h2 (k b h1)
  | exit i => exact hk
  | goto i => exact hk
  | ret => exact hk
  | panic c => exact hk
  | outgrown => exact hk

theorem at_byte {m : Nat} {xs : List Int} {o : Nat} (h : o < m) : V.at false 1 (.bytes m xs) o = some (.int .u8 (xs.getD o 0)) := by
  have h1 : Nat.blt o m = true := Nat.ble_eq_true_of_le h
  simp [V.at, h1]

theorem upd_byte {m : Nat} {xs : List Int} {o : Nat} {k : Int} (h : o < m) : V.upd (.int .u8 k) (.bytes m xs) o = some (.bytes m (padset m xs o k)) := by
  have h1 : Nat.blt o m = true := Nat.ble_eq_true_of_le h
  simp [V.upd, h1, V.isAgg]

theorem J.condT {X : Cx} {c : Operand} {x y : Code} {K : Exit → St → Prop} {st : St} (hc : st.ev c = some (.bool true)) (h : J X x K st) : J X (.cond c x y) K st := J.cond hc (fun _ => h) (fun h => by cases h)
theorem J.condF {X : Cx} {c : Operand} {x y : Code} {K : Exit → St → Prop} {st : St} (hc : st.ev c = some (.bool false)) (h : J X y K st) : J X (.cond c x y) K st := J.cond hc (fun h => by cases h) (fun _ => h)

/-- A slot's value in other words. -/
theorem J.set {X : Cx} {c : Code} {K : Exit → St → Prop} {tm : List (Nat × V)} {H R : List (Nat × Cell)} (d : Nat) {v : V} (u : V) (h : get d tm = some v) (e : u = v) (k : J X c K ⟨(d, u) :: tm, H, R⟩) : J X c K ⟨tm, H, R⟩ :=
  fun a w s => k a w (s.settle h e)

end Go.Vm
