/- Iterators: functions that call yield, ranges over functions. -/
import Derived.Test.YtimkkhefemnkpaaVm16
import Derived.RangeFuncLeaves
import Derived.RangeFuncSeq
import Derived.RangeFuncCalls
import Derived.OwnWalkIn
import Derived.TacticsIn
namespace Go.Vm

def wideR (r : Option Nat) : Fence := { Fence.wide with round := r }

/-- The judgement in a round's frame (r = some l), or in a plain one. -/
def JR (r : Option Nat) (X : Cx) (c : Code) (K : Exit → St → Prop) (st : St) : Prop := ∀ a w, Sim X st a w → c.wpIn (wideR r) 0 X.P (QJ X K) a w

theorem J.of_JR {X : Cx} {c : Code} {K : Exit → St → Prop} {st : St} (h : JR none X c K st) : J X c K st := fun a w s => (wpIn_wide (n := 0)).1 (h a w s)

section
variable {r : Option Nat} {X : Cx} {K : Exit → St → Prop} {st : St}

def KseqR (r : Option Nat) (X : Cx) (y : Code) (K : Exit → St → Prop) : Exit → St → Prop
  | .normal, st => JR r X y K st
  | e, st => K e st

theorem JR.seq {x y : Code} (h : JR r X x (KseqR r X y K) st) : JR r X (.seq x y) K st := fun a w s =>
  wpIn_seq (wpIn_mono (h a w s) (fun e a' w' q => by
    cases e <;> first
      | (obtain ⟨st', hk, hs⟩ := q; exact hk a' w' hs)
      | (obtain ⟨st', hk, hs⟩ := q; exact ⟨st', hk, hs⟩)
      | exact q))

theorem JR.skip (h : K .normal st) : JR r X .skip K st := fun _ _ s => wpIn_skip ⟨st, h, s⟩
theorem JR.exit {id : Nat} (h : K (.exit id) st) : JR r X (.exit id) K st := fun _ _ s => wpIn_exit ⟨st, h, s⟩
theorem JR.ret (h : K .ret st) : JR r X .ret K st := fun _ _ s => wpIn_ret ⟨st, h, s⟩
theorem KseqR.ret {y : Code} (h : K .ret st) : KseqR r X y K .ret st := h

theorem JR.block {id : Nat} {c : Code} (h : JR r X c (Kblock id K) st) : JR r X (.block id c) K st := fun a w s =>
  wpIn_block (wpIn_mono (h a w s) (fun e a' w' q => by
    cases e with
    | exit i =>
      obtain ⟨st', hk, hs⟩ := q
      by_cases hi : i = id
      · subst hi
        simp only [Kblock, Nat.beq_refl, cond_true] at hk
        simp only [Exit.inBlock, if_true]
        exact ⟨st', hk, hs⟩
      · have : Nat.beq i id = false := by
          cases hb : Nat.beq i id with
          | true => exact absurd (Nat.eq_of_beq_eq_true hb) hi
          | false => rfl
        simp only [Kblock, this, cond_false] at hk
        simp only [Exit.inBlock, if_neg hi]
        exact ⟨st', hk, hs⟩
    | normal => obtain ⟨st', hk, hs⟩ := q; exact ⟨st', hk, hs⟩
    | goto l => obtain ⟨st', hk, hs⟩ := q; exact ⟨st', hk, hs⟩
    | ret => obtain ⟨st', hk, hs⟩ := q; exact ⟨st', hk, hs⟩
    | panic c => exact q
    | outgrown => exact q))

theorem JR.cond {c : Operand} {x y : Code} {b : Bool} (hc : st.ev c = some (.bool b)) (ht : b = true → JR r X x K st) (hf : b = false → JR r X y K st) : JR r X (.cond c x y) K st := fun a w s =>
  wpIn_cond_split (t := b) (s.ev hc).1 (fun h => ht h a w s) (fun h => hf h a w s)
theorem JR.condT {c : Operand} {x y : Code} (hc : st.ev c = some (.bool true)) (h : JR r X x K st) : JR r X (.cond c x y) K st := JR.cond hc (fun _ => h) (fun h => by cases h)
theorem JR.condF {c : Operand} {x y : Code} (hc : st.ev c = some (.bool false)) (h : JR r X y K st) : JR r X (.cond c x y) K st := JR.cond hc (fun h => by cases h) (fun _ => h)

theorem JR.loop {c : Code} {β : Type} (Φ : β → Prop) (I : β → St) (μ : β → Nat) (x0 : β) (hΦ : Φ x0) (h0 : Le X st (I x0))
    (h : ∀ x, Φ x → JR r X c (Kloop X Φ I μ x K) (I x)) : JR r X (.loop c) K st := by
  intro a w s
  have hmin : ∀ a w, (∃ x, Φ x ∧ Sim X (I x) a w) → ∃ n, (∃ x, (Φ x ∧ Sim X (I x) a w) ∧ μ x = n) ∧ ∀ m, (∃ x, (Φ x ∧ Sim X (I x) a w) ∧ μ x = m) → n ≤ m :=
    fun a w ⟨x, hx⟩ => least _ ⟨_, x, hx, rfl⟩
  classical
  let m : Act → World → Nat := fun a w => if h : ∃ x, Φ x ∧ Sim X (I x) a w then (hmin a w h).choose else 0
  refine wpIn_loop (fun a w => ∃ x, Φ x ∧ Sim X (I x) a w) m ⟨x0, hΦ, h0 a w s⟩ ?_
  intro a w hI
  have hm : m a w = (hmin a w hI).choose := dif_pos hI
  obtain ⟨⟨x, ⟨hx, hs⟩, hμ⟩, _⟩ := (hmin a w hI).choose_spec
  refine wpIn_mono (h x hx a w hs) ?_
  intro e a' w' q
  cases e with
  | normal =>
    obtain ⟨st', ⟨y, hy, hlt, hle⟩, hs'⟩ := q
    have hs'' := hle _ _ hs'
    have hI' : ∃ x, Φ x ∧ Sim X (I x) a' w' := ⟨y, hy, hs''⟩
    refine ⟨hI', ?_⟩
    have hm' : m a' w' = (hmin a' w' hI').choose := dif_pos hI'
    rw [hm, hm', ← hμ]
    exact Nat.lt_of_le_of_lt ((hmin a' w' hI').choose_spec.2 _ ⟨y, ⟨hy, hs''⟩, rfl⟩) hlt
  | exit i => obtain ⟨st', hk, hs'⟩ := q; exact ⟨st', hk, hs'⟩
  | goto l => obtain ⟨st', hk, hs'⟩ := q; exact ⟨st', hk, hs'⟩
  | ret => obtain ⟨st', hk, hs'⟩ := q; exact ⟨st', hk, hs'⟩
  | panic c => exact q
  | outgrown => exact q

theorem JR.le {c : Code} {st' : St} (h : Le X st st') (j : JR r X c K st') : JR r X c K st := fun a w s => j a w (h a w s)

/-! ### operations -/

def ExR (r : Option Nat) (X : Cx) (o : Oper) (st : St) (Kn : St → Prop) : Prop :=
  ∀ a w, Sim X st a w → ∀ (next : Act → World → Prop) (Q : Exit → Act → World → Prop), (∀ st' a' w', Kn st' → Sim X st' a' w' → next a' w') → o.wpIn (wideR r) 0 X.P a w next Q

def notDefer : Op → Bool
  | .defer _ => false
  | _ => true

theorem ExR.of {o : Oper} {Kn : St → Prop} (h : Ex X o st Kn) (hd : notDefer o.op = true) : ExR r X o st Kn := by
  intro a w s next Q hn
  have h' := h a w s next Q hn
  refine ⟨fun _ _ => trivial, ?_⟩
  rw [Oper.semAt_eq _ _ _ (fun c hc => by rw [hc] at hd; cases hd)]
  unfold Oper.wp at h'
  cases hr : (execOp a.eval o).run X.P w with
  | halt c w' =>
    rw [hr] at h'
    cases c <;> exact h'
  | ok v w' =>
    rw [hr] at h'
    cases v with
    | enter f args => exact ⟨fun h => (by cases h), (callsIn_wide (n := 0 - 1)).2 h'⟩
    | row row args => exact ⟨fun h => (by cases h), fun c cs _ => by obtain ⟨v, w'', q, t⟩ := h' c cs; exact ⟨v, w'', q, stepsIn_wide.2 t⟩⟩
    | value v => exact h'
    | skip => exact h'
    | defer d => exact h'
    | _ => exact h'.elim

def WLR (r : Option Nat) (X : Cx) (ops : Array Oper) (rest : List Oper) (K : Exit → St → Prop) (st : St) : Prop := ∀ a w, Sim X st a w → wpListIn (wideR r) 0 X.P ops (QJ X K) rest a w

theorem WLR.yes {ops : Array Oper} {o : Oper} {rest : List Oper} (hw : want ops st.tm o = some true) (h : Ex X o st (WLR r X ops rest K)) (hd : notDefer o.op = true := by rfl) : WLR r X ops (o :: rest) K st := by
  intro a w s
  unfold wpListIn
  rw [if_pos (want_wanted s.T hw)]
  exact ExR.of h hd a w s _ _ fun st' a' w' k s' => k a' w' s'

theorem WLR.yesR {ops : Array Oper} {o : Oper} {rest : List Oper} (hw : want ops st.tm o = some true) (h : ExR r X o st (WLR r X ops rest K)) : WLR r X ops (o :: rest) K st := by
  intro a w s
  unfold wpListIn
  rw [if_pos (want_wanted s.T hw)]
  exact h a w s _ _ fun st' a' w' k s' => k a' w' s'

theorem WLR.nil {ops : Array Oper} (h : K .normal st) : WLR r X ops [] K st := fun _ _ s => ⟨st, h, s⟩

theorem JR.region {id : Nat} {ops : Array Oper} (h : WLR r X ops ops.toList K st) : JR r X (.region id ops false) K st := fun a w s => wpIn_region_list (h a w s)

end

/-! ### rounds -/

/-- What a call of yield comes to: the body goes through once. -/
def RSpec (P : Program) (l : Nat) (vs : List V) (H : List (Nat × Cell)) (post : List (Nat × Cell) → Prop) : Prop :=
  ∀ A F w, A.le F → HOk A F H w → (∀ v ∈ vs, VOk A v) → YieldAt Fence.wide 0 P l (vs.map V.real).toArray w fun e w' => ∃ H', post H' ∧ e = .returned (.bool true) ∧ HOk A F H' w'

theorem ExR.yield {X : Cx} {ty : TypeId} {pos : String} {af : Array Edge} {gd : Option (Nat × Bool)} {tm : List (Nat × V)} {front H0 R : List (Nat × Cell)} {Kn : St → Prop} {d l : Nat} {g : Operand} {args : List Operand} {ts : Array TypeId} {vs : List V}
    {post : List (Nat × Cell) → Prop} (hd : Nat.blt d X.N = true) (hg : (St.mk tm (front ++ H0) R).ev g = some (.fn (.yield l) .unit)) (hv : evs ⟨tm, front ++ H0, R⟩ args = some vs) (sp : RSpec X.P l vs H0 post)
    (hi : ∀ t c, get t H0 = some c → get t front = none) (hi' : ∀ H', post H' → ∀ t c, get t H' = some c → get t front = none)
    (k : ∀ H', post H' → Kn ⟨(d, .bool true) :: tm, front ++ H', R⟩) : ExR none X ⟨some d, .call ⟨.value g, args.toArray, ts⟩, ty, pos, af, gd⟩ ⟨tm, front ++ H0, R⟩ Kn := by
  intro a w s next Q hn
  obtain ⟨e1, _⟩ := s.ev hg
  obtain ⟨hvs, hvo⟩ := s.evs hv
  have gl : ∀ t c, get t front = some c → get t (front ++ H0) = some c := fun t c h => by rw [get_append, h]; rfl
  have gr : ∀ t c, get t H0 = some c → get t (front ++ H0) = some c := fun t c h => by rw [get_append, hi t c h]; exact h
  have hp : ∀ t c, get t front = some c → CellIn X.A (fun b => w.heap[b]?) c ∧ ∀ b, c.blk b → X.F.c b = none := fun t c h => s.hp t c (gl t c h)
  have hH : HOk X.A (frame X.F front w) H0 w := by
    refine ⟨frame_has s.has, fun t c h => ⟨(s.hp t c (gr t c h)).1, fun b hb => frame_out ((s.hp t c (gr t c h)).2 b hb) ?_⟩, fun t u c c' hne h1 h2 => s.dj t u c c' hne (gr t c h1) (gr u c' h2)⟩
    rintro ⟨u, c', hu, hb'⟩
    have hne : t ≠ u := fun e => by subst e; rw [hi t c h] at hu; cases hu
    exact s.dj t u c c' hne (gr t c h) (gl u c' hu) b hb hb'
  obtain ⟨fn, tmps, assign, body, hy, hR⟩ := sp X.A (frame X.F front w) w (Fr.le_trans s.le (frame_le _ _ _)) hH hvo
  have hr : (execOp a.eval ⟨some d, .call ⟨.value g, args.toArray, ts⟩, ty, pos, af, gd⟩).run X.P w = .ok (.round l fn tmps assign body) w := by
    have e : args.toArray.map a.eval = (vs.map V.real).toArray := by simp [hvs]
    have er : (V.fn (.yield l) .unit).real = .func (.yield l) #[] #[] := rfl
    simp only [execOp, resolve, e1, er, Deferred.ofValue, invoke, Sem.run_bind, Sem.run_pure, Result.andThen_ok, e]
    simpa using hy
  refine ⟨fun _ _ => trivial, ?_⟩
  show Oper.uponIn _ _ _ _ _ _ _ ((Oper.semAt none a.eval _).run X.P w)
  rw [Oper.semAt_none, hr, Oper.uponIn_round]
  refine ⟨fun h => (by cases h), hR.mono ?_⟩
  rintro e w' ⟨H', hpost, rfl, hH'⟩
  have hF : X.F.le (frame X.F front w) := frame_le _ _ _
  have s' : Sim X ⟨tm, front ++ H', R⟩ a w' := by
    refine ⟨hH'.has.mono hF, s.le, s.size, s.dn, s.tm, ?_, ?_, s.ro⟩
    · intro t c hg
      have hg' : (get t front).or (get t H') = some c := by rw [← get_append]; exact hg
      cases e1 : get t front with
      | some x =>
        rw [e1] at hg'; simp only [Option.some_or, Option.some.injEq] at hg'; subst hg'
        exact ⟨HOk.back hp hH'.has e1, (hp t x e1).2⟩
      | none =>
        rw [e1] at hg'; simp only [Option.none_or] at hg'
        obtain ⟨h1, h2⟩ := hH'.hp t c hg'
        refine ⟨h1, fun b hb => ?_⟩
        cases hx : X.F.c b with
        | none => rfl
        | some o => have := hF.c b o hx; rw [h2 b hb] at this; cases this
    · intro t u c c' hne h1 h2 b hb hb'
      have g1 : (get t front).or (get t H') = some c := by rw [← get_append]; exact h1
      have g2 : (get u front).or (get u H') = some c' := by rw [← get_append]; exact h2
      have hfr : ∀ t c, get t front = some c → ∀ b, c.blk b → ∃ o, (frame X.F front w).c b = some o := fun t c hg b hb => by
        obtain ⟨o, ho⟩ := (hp t c hg).1.blk_some b hb
        exact ⟨o, (frame_in hp hg hb).trans ho⟩
      cases e1 : get t front with
      | some x =>
        rw [e1] at g1; simp only [Option.some_or, Option.some.injEq] at g1; subst g1
        cases e2 : get u front with
        | some y =>
          rw [e2] at g2; simp only [Option.some_or, Option.some.injEq] at g2; subst g2
          exact s.dj t u x y hne (gl t x e1) (gl u y e2) b hb hb'
        | none =>
          rw [e2] at g2; simp only [Option.none_or] at g2
          obtain ⟨o, ho⟩ := hfr t x e1 b hb
          have := (hH'.hp u c' g2).2 b hb'
          rw [ho] at this; cases this
      | none =>
        rw [e1] at g1; simp only [Option.none_or] at g1
        cases e2 : get u front with
        | some y =>
          rw [e2] at g2; simp only [Option.some_or, Option.some.injEq] at g2; subst g2
          obtain ⟨o, ho⟩ := hfr u y e2 b hb'
          have := (hH'.hp t c g1).2 b hb
          rw [ho] at this; cases this
        | none =>
          rw [e2] at g2; simp only [Option.none_or] at g2
          exact hH'.dj t u c c' hne g1 g2 b hb hb'
  exact hn _ _ _ (k H' hpost) (s'.put (v := .bool true) trivial (Nat.le_of_ble_eq_true hd))

/-- A round, out of the walk of the loop's body. -/
theorem RSpec.of_JR {P : Program} {l tl p N : Nat} {rec : Loop} {tmR : List (Nat × V)} {v : V} {H : List (Nat × Cell)} {post : List (Nat × Cell) → Prop} (hl : get tl H = some (.ex l (.loop rec))) (hs : rec.state = .ready) (hpn : rec.pending = none)
    (hps : rec.params = #[p]) (hN : rec.tmps.size = N) (hpN : p < N) (htm : ∀ d u, get d tmR = some u → rec.tmps[d]? = some u.real ∧ ∀ A, VOk A u)
    (h : ∀ A F, A.le F → JR (some l) { P := P, A := A, F := F, N := N } rec.assign (fun e st => e = .normal ∧ get tl st.H = some (.ex l (.loop rec)) ∧
      JR (some l) { P := P, A := A, F := F, N := N } rec.body (fun e st' => e = .normal ∧ get tl st'.H = some (.ex l (.loop { rec with state := .busy })) ∧ ∃ H', HLe A ((tl, .ex l (.loop rec)) :: st'.H) H' ∧ post H')
        ⟨st.tm, (tl, .ex l (.loop { rec with state := .busy })) :: st.H, st.R⟩) ⟨(p, v) :: tmR, H, []⟩) : RSpec P l [v] H post := by
  intro A F w hAF hH hv
  have hlw : w.heap[l]? = some (.loop rec) := (hH.hp tl _ hl).1
  refine ⟨rec.fn, rec.tmps.setIfInBounds p v.real, rec.assign, rec.body, ?_, ?_⟩
  · have := run_yield (P := P) (args := #[v.real]) hlw (by simp [hps])
    simpa [hps] using this
  refine roundIn_of_wpIn trivial ?_
  have s : Sim { P := P, A := A, F := F, N := N } ⟨(p, v) :: tmR, H, []⟩ { tmps := rec.tmps.setIfInBounds p v.real, defers := [] } w := by
    refine ⟨hH.has, hAF, by simp [hN], rfl, fun d u hg => ?_, hH.hp, hH.dj, fun t c hg => by simp [get] at hg⟩
    rw [get_cons] at hg
    by_cases hd : d = p
    · subst hd
      rw [if_pos rfl, Option.some.injEq] at hg
      subst hg
      exact ⟨by rw [Array.getElem?_setIfInBounds_self_of_lt (by omega)], hv _ (by simp)⟩
    · rw [if_neg hd] at hg
      exact ⟨by rw [Array.getElem?_setIfInBounds_ne (Ne.symm hd)]; exact (htm d u hg).1, (htm d u hg).2 A⟩
  refine wpIn_mono (h A F hAF _ _ s) ?_
  intro e a1 w1 q
  cases e with
  | panic c => exact q.elim
  | outgrown => exact q.elim
  | exit i => obtain ⟨_, ⟨h, _⟩, _⟩ := q; cases h
  | goto i => obtain ⟨_, ⟨h, _⟩, _⟩ := q; cases h
  | ret => obtain ⟨_, ⟨h, _⟩, _⟩ := q; cases h
  | normal =>
    obtain ⟨st, ⟨_, hl1, hb⟩, s1⟩ := q
    have hlw1 : w1.heap[l]? = some (.loop rec) := (s1.hp tl _ hl1).1
    have ep : ∀ (w : World) (o : Obj), w.putObj l o = setBlk w l o := fun _ _ => rfl
    refine ⟨_, run_beginRound hlw1 hs, ?_⟩
    rw [ep]
    have s2 := Sim.set (tm := st.tm) (H := st.H) (R := st.R) s1 hl1 (b := l) rfl (.ex l (.loop { rec with state := .busy })) (.loop { rec with state := .busy }) (fun k hk => hk) (fun h hh => hh)
    refine wpIn_mono (hb _ _ s2) ?_
    intro e a2 w2 q
    cases e with
    | panic c => exact q.elim
    | outgrown => exact q.elim
    | exit i => obtain ⟨_, ⟨h, _⟩, _⟩ := q; cases h
    | goto i => obtain ⟨_, ⟨h, _⟩, _⟩ := q; cases h
    | ret => obtain ⟨_, ⟨h, _⟩, _⟩ := q; cases h
    | normal =>
      obtain ⟨st', ⟨_, hl2, H', hle, hpost⟩, s3⟩ := q
      have hlw2 : w2.heap[l]? = some (.loop { rec with state := .busy }) := (s3.hp tl _ hl2).1
      refine ⟨_, _, run_endRound none hlw2, H', hpost, rfl, ?_⟩
      rw [ep]
      have er : ({ { rec with state := .busy } with state := if (none : Option Code).isNone then .ready else .done, pending := none } : Loop) = rec := by
        cases rec
        simp only at hs hpn
        simp [hs, hpn]
      rw [er]
      have s4 := Sim.set (tm := st'.tm) (H := st'.H) (R := st'.R) s3 hl2 (b := l) rfl (.ex l (.loop rec)) (.loop rec) (fun k hk => hk) (fun h hh => hh)
      exact hle F _ ⟨s4.has, s4.hp, s4.dj⟩

end Go.Vm
