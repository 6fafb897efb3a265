/- Loops and cuts that name only what changes; calls whose objects are found by their names. -/
import Derived.Test.YtimkkhefemnkpaaVm18
namespace Go.Vm

theorem TLe.app {A : Fr} {tm : List (Nat × V)} : ∀ {l l' : List (Nat × V)}, TLe A tm l → TLe A tm l' → TLe A tm (l ++ l')
  | [], _, _, h => h
  | _ :: _, _, h, h' => ⟨h.1, TLe.app h.2 h'⟩

/-- A loop: 'o', 'oH' tell what changes; 'l', 'lH' are the slots and objects that stay. -/
theorem J.loopP {X : Cx} {c : Code} {K : Exit → St → Prop} {tm : List (Nat × V)} {H R : List (Nat × Cell)} {β : Type} (Φ : β → Prop) (o : β → List (Nat × V)) (oH : β → List (Nat × Cell)) (μ : β → Nat) (x0 : β)
    (l : List (Nat × V)) (lH : List (Nat × Cell)) {ss : List Nat} (h1 : TLe X.A tm l) (h2 : TLe X.A tm (o x0)) (h3 : HSub X.A H ss (oH x0 ++ lH)) (hΦ : Φ x0)
    (h : ∀ x, Φ x → J X c (Kloop X Φ (fun x => ⟨o x ++ l, oH x ++ lH, R⟩) μ x K) ⟨o x ++ l, oH x ++ lH, R⟩) : J X (.loop c) K ⟨tm, H, R⟩ :=
  J.loop Φ (fun x => ⟨o x ++ l, oH x ++ lH, R⟩) μ x0 hΦ (Le.mk (h2.app h1) (HLe.sub h3) rfl) h

theorem Kloop.nextP {X : Cx} {β : Type} {Φ : β → Prop} {o : β → List (Nat × V)} {oH : β → List (Nat × Cell)} {l : List (Nat × V)} {lH R : List (Nat × Cell)} {μ : β → Nat} {x : β} {tm : List (Nat × V)} {H : List (Nat × Cell)}
    {ss : List Nat} (y : β) (h1 : Φ y) (h2 : μ y < μ x) (h3 : TLe X.A tm (o y)) (h4 : TLe X.A tm l) (h5 : HSub X.A H ss (oH y ++ lH)) : ∃ y, Φ y ∧ μ y < μ x ∧ Le X ⟨tm, H, R⟩ ⟨o y ++ l, oH y ++ lH, R⟩ :=
  ⟨y, h1, h2, Le.mk (h3.app h4) (HLe.sub h5) rfl⟩

/-- Where ways meet again. -/
theorem J.cutP {X : Cx} {c d : Code} {K : Exit → St → Prop} {tm : List (Nat × V)} {H R : List (Nat × Cell)} {β : Type} (Φ : β → Prop) (o : β → List (Nat × V)) (oH : β → List (Nat × Cell))
    (l : List (Nat × V)) (lH : List (Nat × Cell)) {ss : List Nat} (_ : TLe X.A tm l) (_ : HSub X.A H ss lH)
    (h : J X c (Kcut X Φ (fun b => ⟨o b ++ l, oH b ++ lH, R⟩) (Kseq X d K)) ⟨tm, H, R⟩) (k : ∀ b, Φ b → J X d K ⟨o b ++ l, oH b ++ lH, R⟩) : J X c (Kseq X d K) ⟨tm, H, R⟩ :=
  J.cut Φ _ h fun b hb _ hle => J.le hle (k b hb)

theorem Kcut.mkP {X : Cx} {β : Type} {Φ : β → Prop} {o : β → List (Nat × V)} {oH : β → List (Nat × Cell)} {l : List (Nat × V)} {lH R : List (Nat × Cell)} {tm : List (Nat × V)} {H : List (Nat × Cell)} {ss : List Nat}
    (y : β) (h1 : Φ y) (h3 : TLe X.A tm (o y)) (h4 : TLe X.A tm l) (h5 : HSub X.A H ss (oH y ++ lH)) : ∃ y, Φ y ∧ Le X ⟨tm, H, R⟩ ⟨o y ++ l, oH y ++ lH, R⟩ := ⟨y, h1, Le.mk (h3.app h4) (HLe.sub h5) rfl⟩

theorem Kcut.ret {X : Cx} {β : Type} {Φ : β → Prop} {M : β → St} {K : Exit → St → Prop} {st : St} (h : K .ret st) : Kcut X Φ M K .ret st := h

/-- These objects are there, under these names. -/
inductive Got (H : List (Nat × Cell)) : List (Nat × Cell) → Prop
  | nil : Got H []
  | cons {t : Nat} {c : Cell} {r : List (Nat × Cell)} (h : get t H = some c) (k : Got H r) : Got H ((t, c) :: r)

theorem Got.get {H H0 : List (Nat × Cell)} (g : Got H H0) : ∀ t c, get t H0 = some c → (H0.map (·.1)).contains t = true ∧ Vm.get t H = some c := by
  induction g with
  | nil => intro t c h; simp [Vm.get] at h
  | cons h k ih =>
    intro t c hg
    rw [get_cons] at hg
    split at hg
    · rename_i e
      rw [Option.some.injEq] at hg
      subst hg; subst e
      exact ⟨by simp, h⟩
    · obtain ⟨h1, h2⟩ := ih t c hg
      exact ⟨by simp only [List.map_cons, List.contains_cons, Bool.or_eq_true]; exact .inr h1, h2⟩

/-- A slice of something lies somewhere. -/
theorem WS.vecsome {X : Cx} {F' : Fr} {rst : St → St} {ops : Array Oper} {f0 : Nat} {K : Exit → St → Prop} {sched : List (Nat × Bool)} {tm : List (Nat × V)} {H R : List (Nat × Cell)} {t z cap n : Nat} {T : TypeId} {f : Nat → V} {a : Option Nat}
    (hg : get t (H ++ R) = some (.vec a T z cap n f)) (hn : 0 < n) (h : ∀ b, a = some b → WS X F' rst ops f0 K sched ⟨tm, H, R⟩) : WS X F' rst ops f0 K sched ⟨tm, H, R⟩ := fun h1 h2 listed h3 h4 ac w s => by
  cases a with
  | some b => exact h b rfl h1 h2 listed h3 h4 ac w s
  | none =>
    exfalso
    rw [get_append] at hg
    cases e1 : get t H with
    | some x =>
      rw [e1] at hg; simp only [Option.some_or, Option.some.injEq] at hg; subst hg
      have := (s.hp t _ e1).1.1
      omega
    | none =>
      rw [e1] at hg; simp only [Option.none_or] at hg
      have := (s.ro t _ hg).1
      omega

theorem WT.set {X : Cx} {F' : Fr} {rst : St → St} {ops : Array Oper} {f0 n : Nat} {K : Exit → St → Prop} {listed : Array Bool} {tm : List (Nat × V)} {H R : List (Nat × Cell)} (d : Nat) {v : V} (u : V) (h : get d tm = some v) (e : u = v)
    (k : WT X F' rst ops f0 K n listed ⟨(d, u) :: tm, H, R⟩) : WT X F' rst ops f0 K n listed ⟨tm, H, R⟩ := fun h1 h2 h3 ac w s => k h1 h2 h3 ac w (s.settle h e)

theorem WL.vecsome {X : Cx} {ops : Array Oper} {rest : List Oper} {K : Exit → St → Prop} {tm : List (Nat × V)} {H R : List (Nat × Cell)} {t z cap n : Nat} {T : TypeId} {f : Nat → V} {a : Option Nat}
    (hg : get t H = some (.vec a T z cap n f)) (hn : 0 < n) (h : ∀ b, a = some b → WL X ops rest K ⟨tm, H, R⟩) : WL X ops rest K ⟨tm, H, R⟩ := fun ac w s => by
  cases a with
  | some b => exact h b rfl ac w s
  | none =>
    have hv : CellIn X.A (fun b => w.heap[b]?) (.vec none T z cap n f) := (s.hp t _ hg).1
    have := hv.1
    omega

theorem J.veccap {X : Cx} {c : Code} {K : Exit → St → Prop} {tm : List (Nat × V)} {H R : List (Nat × Cell)} {t z cap n : Nat} {T : TypeId} {f : Nat → V} {a : Option Nat} (hg : get t H = some (.vec a T z cap n f)) (h : n ≤ cap → J X c K ⟨tm, H, R⟩) : J X c K ⟨tm, H, R⟩ := fun ac w s => by
  refine h ?_ ac w s
  have hv := (s.hp t _ hg).1
  cases a with
  | none => have := hv.1; omega
  | some b => exact hv.1

theorem ndec_t {p : Prop} [Decidable p] (h : (!decide p) = true) : ¬ p := by simpa using h
theorem ndec_f {p : Prop} [Decidable p] (h : (!decide p) = false) : p := by simpa using h

section
variable {X : Cx} {ty : TypeId} {pos : String} {af : Array Edge} {gd : Option (Nat × Bool)} {tm : List (Nat × V)} {H R : List (Nat × Cell)} {Kn : St → Prop} {d : Nat}

/-- A call by a contract: its objects are found by their names. -/
theorem Ex.callL {f : FuncId} [Ent X.P f] {args : List Operand} {ts : Array TypeId} {vs : List V} {H0 : List (Nat × Cell)} {post : V → List (Nat × Cell) → Prop} (sp : Spec X.P f vs H0 post)
    (hd : Nat.blt d X.N = true) (hv : evs ⟨tm, H, R⟩ args = some vs) (g : Got H H0)
    (k : ∀ r H', post r H' → Kn ⟨(d, r) :: tm, H' ++ dropp (H0.map (·.1)) H, R⟩) : Ex X ⟨some d, .call ⟨.value (.func f), args.toArray, ts⟩, ty, pos, af, gd⟩ ⟨tm, H, R⟩ Kn :=
  Ex.call vs H0 (H0.map (·.1)) sp hd hv rfl (fun _ h => h) g.get k

/-- The same, its arguments in other words. -/
theorem Ex.callV {f : FuncId} [Ent X.P f] {args : List Operand} {ts : Array TypeId} {vs vs' : List V} {H0 : List (Nat × Cell)} {post : V → List (Nat × Cell) → Prop} (sp : Spec X.P f vs' H0 post)
    (hd : Nat.blt d X.N = true) (hv : evs ⟨tm, H, R⟩ args = some vs) (hr : vs'.map V.real = vs.map V.real) (hok : ∀ A, (∀ v ∈ vs, VOk A v) → ∀ v ∈ vs', VOk A v) (g : Got H H0)
    (k : ∀ r H', post r H' → Kn ⟨(d, r) :: tm, H' ++ dropp (H0.map (·.1)) H, R⟩) : Ex X ⟨some d, .call ⟨.value (.func f), args.toArray, ts⟩, ty, pos, af, gd⟩ ⟨tm, H, R⟩ Kn :=
  Ex.call vs' H0 (H0.map (·.1)) sp hd hv hr hok g.get k

end
end Go.Vm
