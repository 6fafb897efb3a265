/- maps.Clone. -/
import Derived.Test.YtimkkhefemnkpaaVm19
namespace Go.Vm
section
variable {X : Cx} {st : St} {dst : Option Tmp} {ty : TypeId} {pos : String} {af : Array Edge} {gd : Option (Nat × Bool)}

theorem q_makeIface {T : TypeId} {x : Operand} {t b : Nat} {K E : TypeId} [u : Und X.P T (.map K E)] (hx : st.ev x = some (.map t (some b))) :
    EvQ X ⟨dst, .makeInterface T x, ty, pos, af, gd⟩ st (.raw (.iface T (.map (some b)))) := fun a w s _ => by
  obtain ⟨h1, _⟩ := s.ev hx
  refine ⟨?_, trivial⟩
  show ((do pure (Next.value (← Instr.makeInterface T (a.eval x))) : Sem Next)).run X.P w = _
  refine run_v ?_
  rw [h1]
  simp [Instr.makeInterface, V.real, underlying, u.eq]

theorem q_eqmapnil {T T' K E : TypeId} {x y : Operand} {t b : Nat} [u : Und X.P T (.map K E)] (hx : st.ev x = some (.map t (some b))) (hy : st.ev y = some (.map 0 none)) :
    EvQ X ⟨dst, .binOp .eql T x y T', ty, pos, af, gd⟩ st (.bool false) := fun ac w s _ => by
  obtain ⟨h1, _⟩ := s.ev hx
  obtain ⟨h2, _⟩ := s.ev hy
  refine ⟨?_, trivial⟩
  have : (Op.equal T (.map (some b)) (.map none)).run X.P w = .ok false w := by
    show (Op.equalIn (9999 + 1) T (.map (some b)) (.map none)).run X.P w = _
    unfold Op.equalIn
    simp [underlying, u.eq]
  simp [execOp, h1, h2, V.real, eqGuard, binOp, this]

theorem q_typeAssertMap {T T' K E : TypeId} {x : Operand} {b : Nat} (t : Nat) [u : Und X.P T (.map K E)] (hx : st.ev x = some (.raw (.iface T (.map (some b))))) :
    EvQ X ⟨dst, .typeAssert x T' T false, ty, pos, af, gd⟩ st (.map t (some b)) := fun a w s _ => by
  obtain ⟨h1, _⟩ := s.ev hx
  refine ⟨?_, trivial⟩
  show ((do pure (Next.value (← Instr.typeAssert (a.eval x) T' T false)) : Sem Next)).run X.P w = _
  refine run_v ?_
  rw [h1]
  simp [Instr.typeAssert, V.real, underlying, u.eq]
end
section
variable {α β : Type} {X : Cx} {tm : List (Nat × V)} {H R : List (Nat × Cell)} {ty : TypeId} {pos : String} {af : Array Edge} {gd : Option (Nat × Bool)} {Kn : St → Prop} {d : Nat} {e : α → V} {f : β → V}

theorem Ex.clone {fi : FuncId} {fn : Func} {x : Operand} {ts : Array TypeId} {T : TypeId} {t b : Nat} {L : List (α × β)}
    (hf : X.P.funcs[fi]? = some fn) (h1 : (fn.name == "runtime.NumGoroutine") = false) (h2 : fn.body.isNone = true) (h3 : Extern.findNext fn = none) (h4 : Extern.find fn = some Extern.MapsClone.clone)
    (hd : Nat.blt d X.N = true) (hx : (St.mk tm H R).ev x = some (.raw (.iface T (.map (some b))))) (hg : get t H = some (mpc b e f L))
    (k : ∀ b', Kn ⟨(d, .raw (.iface T (.map (some b')))) :: tm, (d, mpc b' e f L) :: H, R⟩) :
    Ex X ⟨some d, .call ⟨.value (.func fi), #[x], ts⟩, ty, pos, af, gd⟩ ⟨tm, H, R⟩ Kn := by
  intro a w s next Q hn
  obtain ⟨e1, _⟩ := s.ev hx
  obtain ⟨⟨h0, es, clock, g1, g2⟩, _⟩ := s.hp t _ hg
  have hr : (execOp a.eval ⟨some d, .call ⟨.value (.func fi), #[x], ts⟩, ty, pos, af, gd⟩).run X.P w = .ok (.value (V.raw (.iface T (.map (some w.heap.size)))).real) (w.alloc (.map es clock)) := by
    have e0 : a.eval (.func fi) = .func (.func fi) #[] #[] := rfl
    simp only [execOp, resolve, invoke, Sem.run_bind, Sem.run_pure, Result.andThen_ok, List.map_toArray, List.map_cons, List.map_nil, e1, e0, Deferred.ofValue]
    simp only [Array.empty_append]
    rw [run_callFunc_extern hf h1 h2 h3 h4]
    have : (Extern.MapsClone.clone #[(V.raw (.iface T (.map (some b)))).real]).run X.P w = .ok (.iface T (.map (some w.heap.size))) (w.alloc (.map es clock)) := by
      have hgo : (getObj b).run X.P w = .ok (.map es clock) w := run_getB g1
      change Sem.run X.P (do
        let .map entries clock ← getObj b | stuck "maps.clone: a map expected"
        pure (Value.iface T (.map (some (← newObj (.map entries clock)))))) w = _
      simp only [Sem.run_bind, hgo, Result.andThen_ok]
      rfl
    rw [Array.append_empty, this]
    rfl
  unfold Oper.wp
  rw [hr]
  refine hn _ _ _ (k w.heap.size) (Sim.put (Sim.alloc s d (mpc w.heap.size e f L) _ (fun b hb => hb) (fun h hh => ⟨h0, es, clock, hh, g2⟩)) trivial (Nat.le_of_ble_eq_true hd))
end
end Go.Vm
