/- Iterators over maps' keys; functions that hold a range over a function. -/
import Derived.Test.YtimkkhefemnkpaaVm17
namespace Go.Vm

section
variable {X : Cx} {st : St} {dst : Option Tmp} {ty : TypeId} {pos : String} {af : Array Edge} {gd : Option (Nat × Bool)}

theorem q_makeFunc {fn : Fn} {x : Operand} {v : V} (hx : st.ev x = some v) (hg : v.isAgg = false) (hm : v.mem = true) : EvQ X ⟨dst, .makeFunc fn #[] #[x], ty, pos, af, gd⟩ st (.fn fn v) := fun a w s _ => by
  obtain ⟨e1, _⟩ := s.ev hx
  refine ⟨?_, trivial⟩
  show ((do pure (Next.value (← Instr.makeFunc fn (#[].map a.eval) (#[x].map a.eval))) : Sem Next)).run X.P w = _
  refine run_v ?_
  simp [Instr.makeFunc, V.real, e1, V.cells_one hg hm]

end

theorem CLe.mitcur {α β : Type} {A : Fr} {b it : Nat} {e : α → V} {f : β → V} {L Lr : List (α × β)} {cur : Option (α × β)} : CLe A (mitc b it e f L Lr cur) (mitc b it e f L Lr none) :=
  ⟨fun _ h => h, fun _ ⟨⟨h0, h0', _⟩, es, clock, seen, h1, h2, h3, h4, _⟩ => ⟨⟨h0, h0', by simp⟩, es, clock, seen, h1, h2, h3, h4, by simp⟩⟩

/-- All of the front in other words, the rest as it is. -/
theorem HLe.app {A : Fr} {H H0 H' : List (Nat × Cell)} {ss : List Nat} (h : HSub A H ss H') (hi : ∀ t c, get t H0 = some c → get t H = none) : HLe A (H ++ H0) (H' ++ H0) := by
  have key : HSub A H ss H' := h
  intro F w ok
  have gl : ∀ t c, get t H = some c → get t (H ++ H0) = some c := fun t c h => by rw [get_append, h]; rfl
  have gr : ∀ t c, get t H0 = some c → get t (H ++ H0) = some c := fun t c h => by rw [get_append, hi t c h]; exact h
  have okH : HOk A F H w := ⟨ok.has, fun t c h => ok.hp t c (gl t c h), fun t u c c' hne h1 h2 => ok.dj t u c c' hne (gl t c h1) (gl u c' h2)⟩
  have okH' := HLe.sub h F w okH
  refine ⟨ok.has, fun t c hg => ?_, fun t u c c' hne h1 h2 b hb1 hb2 => ?_⟩
  · rw [get_append] at hg
    cases e1 : get t H' with
    | some x => rw [e1] at hg; simp only [Option.some_or, Option.some.injEq] at hg; subst hg; exact okH'.hp t x e1
    | none => rw [e1] at hg; simp only [Option.none_or] at hg; exact ok.hp t c (gr t c hg)
  · rw [get_append] at h1 h2
    have cross : ∀ t u c c', get t H' = some c → get u H0 = some c' → ∀ b, c.blk b → ¬ c'.blk b := fun t u c c' h1 h2 b hb1 hb2 => by
      obtain ⟨s, c0, _, g2, g3⟩ := (key.get t c h1).resolve_right (by rintro ⟨_, _, _, rfl⟩; simp [Cell.blk] at hb1)
      have hne : s ≠ u := fun e => by subst e; rw [hi s c' h2] at g2; cases g2
      exact ok.dj s u c0 c' hne (gl s c0 g2) (gr u c' h2) b (g3.1 b hb1) hb2
    cases e1 : get t H' with
    | some x =>
      rw [e1] at h1; simp only [Option.some_or, Option.some.injEq] at h1; subst h1
      cases e2 : get u H' with
      | some y => rw [e2] at h2; simp only [Option.some_or, Option.some.injEq] at h2; subst h2; exact okH'.dj t u x y hne e1 e2 b hb1 hb2
      | none => rw [e2] at h2; simp only [Option.none_or] at h2; exact cross t u x c' e1 h2 b hb1 hb2
    | none =>
      rw [e1] at h1; simp only [Option.none_or] at h1
      cases e2 : get u H' with
      | some y => rw [e2] at h2; simp only [Option.some_or, Option.some.injEq] at h2; subst h2; exact cross u t y c e2 h1 b hb2 hb1
      | none =>
        rw [e2] at h2; simp only [Option.none_or] at h2
        exact ok.dj t u c c' hne (gr t c h1) (gr u c' h2) b hb1 hb2

/-- What an iterator's function promises: it yields the values of one of the lists of S. -/
def Iter (P : Program) (f : FuncId) (c : V) (Hf : List (Nat × Cell)) {α : Type} (e : α → V) (S : List α → Prop) : Prop :=
  ∀ (l : Nat) (inv : List α → List (Nat × Cell) → Prop) (H0 : List (Nat × Cell)), (∀ pre H t c, inv pre H → get t H = some c → 100 ≤ t) →
    (∀ pre x H, inv pre H → (∃ zs, S ((pre ++ [x]) ++ zs)) → RSpec P l [e x] H (inv (pre ++ [x]))) → inv [] H0 →
    Spec P f [.fn (.yield l) .unit, c] (Hf ++ H0) fun _ H' => ∃ ss Hs, S ss ∧ inv ss Hs ∧ H' = Hf ++ Hs

theorem low_none {H : List (Nat × Cell)} {t : Nat} (h : (H.all fun x => Nat.blt x.1 100) = true) (ht : 100 ≤ t) : get t H = none := by
  induction H with
  | nil => rfl
  | cons x r ih =>
    simp only [List.all_cons, Bool.and_eq_true] at h
    rw [get_cons, if_neg, ih h.2]
    have := Nat.le_of_ble_eq_true h.1
    omega

/-! ### the range over a function -/

theorem invoke_enter {P : Program} {f : FuncId} [h : Ent P f] {cap : Array Value} {args : Array Value} {w : World} : (invoke (.fn (.func f) cap) args).run P w = .ok (.enter f (args ++ cap)) w := by
  simp only [invoke]
  exact h.run _ w

/-- The statement, from a state that holds the iterator's objects (Hf) ahead of the rest. -/
theorem rangeFunc_J {X : Cx} {tm : List (Nat × V)} {Hf H1 R : List (Nat × Cell)} {f : FuncId} [en : Ent X.P f] {cp : V} {α : Type} {e : α → V} {S : List α → Prop} {g : Operand} {ps : Array Tmp} {assign body : Code} {a : Act} {w : World}
    (s : Sim X ⟨tm, Hf ++ H1, R⟩ a w) (hD : X.D = []) (hg : (St.mk tm (Hf ++ H1) R).ev g = some (.fn (.func f) cp)) (hc : cp.cells = [cp.real]) (hok : VOk X.A cp) (it : Iter X.P f cp Hf e S)
    (inv : Loop → Nat → Nat → List α → List (Nat × Cell) → Prop)
    (h100 : ∀ rec l D pre H t c, inv rec l D pre H → get t H = some c → 100 ≤ t)
    (h1 : ∀ t c, get t H1 = some c → 102 ≤ t) (hlow : (Hf.all fun x => Nat.blt x.1 100) = true)
    (hrec : ∀ rec l D, rec.state = .ready → rec.pending = none → rec.params = ps → rec.tmps.size = X.N → rec.assign = assign → rec.body = body → (∀ d v, get d tm = some v → rec.tmps[d]? = some v.real) →
      inv rec l D [] ((100, .ex l (.loop rec)) :: (101, .ex D (.deferred (some []))) :: H1) ∧ ∀ pre x H, inv rec l D pre H → (∃ zs, S ((pre ++ [x]) ++ zs)) → RSpec X.P l [e x] H (inv rec l D (pre ++ [x])))
    (hend : ∀ rec l D ss H, inv rec l D ss H → ∃ b, get 100 H = some (.ex l (.loop rec)) ∧ b = rec.pending) (Q : Exit → Act → World → Prop)
    (hQ : ∀ rec l D ss H, S ss → inv rec l D ss H → ∀ w', Sim { X with D := [{ target := .collected D, args := #[] }] } ⟨tm, Hf ++ ((100, .ex l (.loop { rec with state := .exhausted })) :: H), R⟩ { a with defers := [{ target := .collected D, args := #[] }] } w' →
      Q .normal { a with defers := [{ target := .collected D, args := #[] }] } w') :
    (Code.rangeFunc g ps assign body).wpIn Fence.wide 0 X.P Q a w := by
  refine wpIn_rangeFunc fun fn _ => ?_
  obtain ⟨e1, _⟩ := s.ev hg
  obtain ⟨rec, hrc⟩ : ∃ rec : Loop, rec = { state := .ready, pending := none, fn, tmps := a.tmps, params := ps, assign, body, defers := w.heap.size } := ⟨_, rfl⟩
  obtain ⟨W0, hW0⟩ : ∃ W0, W0 = w.alloc (.deferred (some [])) := ⟨_, rfl⟩
  have hs0 : W0.heap.size = w.heap.size + 1 := by rw [hW0]; simp
  obtain ⟨W1, hW1⟩ : ∃ W1, W1 = W0.alloc (.loop rec) := ⟨_, rfl⟩
  have s0 : Sim X ⟨tm, (101, .ex w.heap.size (.deferred (some []))) :: (Hf ++ H1), R⟩ a W0 := by
    rw [hW0]
    exact s.alloc 101 _ _ (fun b hb => hb) (fun h hh => hh)
  have s1 : Sim X ⟨tm, (100, .ex (w.heap.size + 1) (.loop rec)) :: (101, .ex w.heap.size (.deferred (some []))) :: (Hf ++ H1), R⟩ a W1 := by
    rw [hW1, ← hs0]
    exact s0.alloc 100 _ _ (fun b hb => hb) (fun h hh => hh)
  have hle : HLe X.A ((100, .ex (w.heap.size + 1) (.loop rec)) :: (101, .ex w.heap.size (.deferred (some []))) :: (Hf ++ H1)) (Hf ++ ((100, .ex (w.heap.size + 1) (.loop rec)) :: (101, .ex w.heap.size (.deferred (some []))) :: H1)) := by
    intro F w' ok
    have hget : ∀ t, get t (Hf ++ ((100, .ex (w.heap.size + 1) (.loop rec)) :: (101, .ex w.heap.size (.deferred (some []))) :: H1)) = get t ((100, .ex (w.heap.size + 1) (.loop rec)) :: (101, .ex w.heap.size (.deferred (some []))) :: (Hf ++ H1)) := fun t => by
      rw [get_append, get_cons, get_cons, get_cons, get_cons, get_append]
      by_cases h0 : t = 100
      · subst h0; rw [low_none hlow (Nat.le_refl _)]; simp
      · by_cases h2 : t = 101
        · subst h2; rw [low_none hlow (by omega)]; simp
        · rw [if_neg h0, if_neg h2, if_neg h0, if_neg h2]
    exact ⟨ok.has, fun t c hg => ok.hp t c ((hget t).symm.trans hg), fun t u c c' hne g1 g2 => ok.dj t u c c' hne ((hget t).symm.trans g1) ((hget u).symm.trans g2)⟩
  obtain ⟨hi0, hstep⟩ := hrec rec (w.heap.size + 1) w.heap.size (by rw [hrc]) (by rw [hrc]) (by rw [hrc]) (by rw [hrc]; exact s.size) (by rw [hrc]) (by rw [hrc]) (fun d v hd => by rw [hrc]; exact (s.tm d v hd).1)
  have hsp := it (w.heap.size + 1) (inv rec (w.heap.size + 1) w.heap.size) _ (fun pre H t c hi hg => h100 _ _ _ pre H t c hi hg) hstep hi0
  have ok1 := hle X.F W1 ⟨s1.has, s1.hp, s1.dj⟩
  have hcall := hsp X.A X.F W1 s.le ok1 (fun v hv => by
    rcases List.mem_cons.1 hv with rfl | hv
    · trivial
    · rw [List.mem_singleton] at hv; subst hv; exact hok)
  refine ⟨w.heap.size + 1, [{ target := .collected w.heap.size, args := #[] }], W1, { target := .fn (.func f) #[cp.real], args := #[.func (.yield (w.heap.size + 1)) #[] #[]] }, W1, f,
    #[.func (.yield (w.heap.size + 1)) #[] #[]] ++ #[cp.real], W1, ?_, ?_, fun _ _ => trivial, invoke_enter, fun h => (by cases h), (callsIn_wide (n := 0 - 1)).2 ?_⟩
  · rw [hW1, hW0, hrc]
    exact run_enterLoop_outer _ _ _ _ _
  · have er : (V.fn (.func f) cp).real = .func (.func f) #[] #[cp.real] := by simp [V.real, hc]
    simp only [resolve, rangeCall, e1, er, Deferred.ofValue]
    simp [go_sem]
  · refine (show Calls X.P f #[.func (.yield (w.heap.size + 1)) #[] #[], cp.real] W1 _ from hcall).mono ?_
    rintro e' w' ⟨r, H', ⟨ss, Hs, hS, hinv, rfl⟩, rfl, _, ok'⟩
    obtain ⟨_, hl, _⟩ := hend _ _ _ _ _ hinv
    have hlow' : ∀ t c, get t Hs = some c → get t (Hf ++ Hs) = some c := fun t c hg => by rw [get_append, low_none hlow (h100 _ _ _ _ _ _ _ hinv hg)]; exact hg
    have hlw : w'.heap[w.heap.size + 1]? = some (.loop rec) := (ok'.hp 100 _ (hlow' _ _ hl)).1
    have hpend : rec.pending = none := by rw [hrc]
    refine ⟨none, setBlk w' (w.heap.size + 1) (.loop { rec with state := .exhausted }), ?_, ?_⟩
    · have := run_endLoop (P := X.P) hlw (by rw [hrc]; simp)
      exact this.trans (congrArg (fun p => Result.ok p _) hpend)
    · have ea : a.defers = [] := s.dn.trans hD
      have sX : Sim { X with D := [{ target := .collected w.heap.size, args := #[] }] } ⟨tm, Hf ++ Hs, R⟩ { a with defers := [{ target := .collected w.heap.size, args := #[] }] } w' :=
        ⟨ok'.has, s.le, s.size, rfl, s.tm, ok'.hp, ok'.dj, s.ro⟩
      have sY := Sim.set sX (hlow' _ _ hl) (b := w.heap.size + 1) rfl (.ex (w.heap.size + 1) (.loop { rec with state := .exhausted })) (.loop { rec with state := .exhausted }) (fun k hk => hk) (fun h hh => hh)
      have hq := hQ rec (w.heap.size + 1) w.heap.size ss Hs hS hinv (setBlk w' (w.heap.size + 1) (.loop { rec with state := .exhausted })) (by
        have hget : ∀ t, get t (Hf ++ ((100, Cell.ex (w.heap.size + 1) (.loop { rec with state := .exhausted })) :: Hs)) = get t ((100, Cell.ex (w.heap.size + 1) (.loop { rec with state := .exhausted })) :: (Hf ++ Hs)) := fun t => by
          rw [get_append, get_cons, get_cons, get_append]
          by_cases h0 : t = 100
          · subst h0; rw [low_none hlow (Nat.le_refl _)]; simp
          · rw [if_neg h0, if_neg h0]
        exact ⟨sY.has, sY.le, sY.size, sY.dn, sY.tm, fun t c hg => sY.hp t c ((hget t).symm.trans hg), fun t u c c' hne g1 g2 => sY.dj t u c c' hne ((hget t).symm.trans g1) ((hget u).symm.trans g2), sY.ro⟩)
      have e3 : ({ a with defers := [{ target := .collected w.heap.size, args := #[] }] ++ a.defers } : Act) = { a with defers := [{ target := .collected w.heap.size, args := #[] }] } := by rw [ea]; rfl
      rw [e3]
      exact hq


/-- The value that is returned, in other words. -/
theorem Kret.mk2 {X : Cx} {l : List ResultVar} {post : V → List (Nat × Cell) → Prop} {e : Exit} {st : St} {vs : List V} (r : V) (H' : List (Nat × Cell)) (hr : RetV X.P st l vs) (h3 : Nat.ble vs.length 3 = true)
    (he : (match e with | .normal => True | .ret => True | _ => False)) (hreal : r.real = (tupV vs).real) (hok : ∀ A, VOk A (tupV vs) → VOk A r) (hH : HLe X.A st.H H') (h : post r H') : Kret X l post e st :=
  ⟨he, vs, r, H', hr, Nat.le_of_ble_eq_true h3, hreal, hok, hH, h⟩

/-- Objects in whatever other order; slices of nothing come from nowhere. -/
theorem HLe.gen {A : Fr} {H H' : List (Nat × Cell)} (src : Nat → Option Nat)
    (h : ∀ t c', get t H' = some c' → (∃ s c, src t = some s ∧ get s H = some c ∧ CLe A c c') ∨ (src t = none ∧ ∃ T z f, c' = .vec none T z 0 0 f))
    (inj : ∀ t u s c c', t ≠ u → get t H' = some c → get u H' = some c' → src t = some s → src u = some s → False) : HLe A H H' := by
  intro F w ok
  refine ⟨ok.has, fun t c' hg => ?_, fun t u c c' hne h1 h2 b hb1 hb2 => ?_⟩
  · rcases h t c' hg with ⟨s, c, _, g2, g3⟩ | ⟨_, T, z, f, rfl⟩
    · obtain ⟨k1, k2⟩ := ok.hp s c g2
      exact ⟨g3.2 _ k1, fun b hb => k2 b (g3.1 b hb)⟩
    · exact ⟨⟨rfl, rfl⟩, fun b hb => by simp [Cell.blk] at hb⟩
  · rcases h t c h1 with ⟨s, c0, g1, g2, g3⟩ | ⟨_, T, z, f, rfl⟩
    · rcases h u c' h2 with ⟨s', c0', g1', g2', g3'⟩ | ⟨_, T, z, f, rfl⟩
      · by_cases hs : s = s'
        · subst hs; exact inj t u s c c' hne h1 h2 g1 g1'
        · exact ok.dj s s' c0 c0' hs g2 g2' b (g3.1 b hb1) (g3'.1 b hb2)
      · simp [Cell.blk] at hb2
    · simp [Cell.blk] at hb1


/-- A slice of something lies somewhere. -/
theorem J.vecsome {X : Cx} {c : Code} {K : Exit → St → Prop} {tm : List (Nat × V)} {H R : List (Nat × Cell)} {t z cap n : Nat} {T : TypeId} {f : Nat → V} {a : Option Nat} (hg : get t H = some (.vec a T z cap n f)) (hn : 0 < n)
    (h : ∀ b, a = some b → J X c K ⟨tm, H, R⟩) : J X c K ⟨tm, H, R⟩ := fun ac w s => by
  cases a with
  | some b => exact h b rfl ac w s
  | none =>
    have hv : CellIn X.A (fun b => w.heap[b]?) (.vec none T z cap n f) := (s.hp t _ hg).1
    have := hv.1
    omega

theorem get1 {α : Type} {t u : Nat} {x c : α} (h : get t [(u, x)] = some c) : t = u ∧ x = c := by
  rw [get_cons] at h
  split at h
  · rename_i e; exact ⟨e, by simpa using h⟩
  · cases h
theorem get2 {α : Type} {t u v : Nat} {x y c : α} (h : get t [(u, x), (v, y)] = some c) : (t = u ∧ x = c) ∨ (t = v ∧ y = c) := by
  rw [get_cons] at h
  split at h
  · rename_i e; exact .inl ⟨e, by simpa using h⟩
  · exact .inr (get1 h)


theorem WL.le {X : Cx} {ops : Array Oper} {rest : List Oper} {K : Exit → St → Prop} {st st' : St} (h : Le X st st') (k : WL X ops rest K st') : WL X ops rest K st := fun a w s => k a w (h a w s)

/-- A nil slice under another name. -/
theorem Le.nilsl {X : Cx} {tm : List (Nat × V)} {H R : List (Nat × Cell)} {d t0 z0 i0 : Nat} (t z : Nat) (E : TypeId) (f : Nat → V) (h : get d tm = some (.sl t0 none z0 i0 0 0)) :
    Le X ⟨tm, H, R⟩ ⟨(d, .sl t none z 0 0 0) :: tm, (t, .vec none E z 0 0 f) :: H, R⟩ := by
  intro a w s
  refine ⟨s.has, s.le, s.size, s.dn, fun k v hg => ?_, fun u c hg => ?_, fun u u' c c' hne h1 h2 b hb1 hb2 => ?_, s.ro⟩
  · rw [get_cons] at hg
    by_cases hk : k = d
    · subst hk
      rw [if_pos rfl, Option.some.injEq] at hg
      subst hg
      exact ⟨(s.tm k _ h).1, trivial⟩
    · rw [if_neg hk] at hg
      exact s.tm k v hg
  · rw [get_cons] at hg
    split at hg
    · rw [Option.some.injEq] at hg
      subst hg
      exact ⟨⟨rfl, rfl⟩, fun b hb => by simp [Cell.blk] at hb⟩
    · exact s.hp u c hg
  · rw [get_cons] at h1 h2
    split at h1
    · rw [Option.some.injEq] at h1
      subst h1
      simp [Cell.blk] at hb1
    · split at h2
      · rw [Option.some.injEq] at h2
        subst h2
        simp [Cell.blk] at hb2
      · exact s.dj u u' c c' hne h1 h2 b hb1 hb2

/-- A slice that lies nowhere holds nothing. -/
theorem J.nilvec {X : Cx} {c : Code} {K : Exit → St → Prop} {tm : List (Nat × V)} {H R : List (Nat × Cell)} {t z cap n : Nat} {T : TypeId} {f : Nat → V} (hg : get t H = some (.vec none T z cap n f)) (h : n = 0 → cap = 0 → J X c K ⟨tm, H, R⟩) : J X c K ⟨tm, H, R⟩ := fun ac w s => by
  have hv : CellIn X.A (fun b => w.heap[b]?) (.vec none T z cap n f) := (s.hp t _ hg).1
  exact h hv.1 hv.2 ac w s

end Go.Vm
