/- What the laws of the kernel lean on. -/
import Derived.Test.YtimkkhefemnkpaaF9
import Derived.KernelRfl
namespace Go.Vm
open Go Go.Proofs

/-- a kernel of at most n entries told, and n of others -/
structure KI (s : KS) (m : Nat) : Prop extends KOk' s where
  dj : ∀ x ∈ s.T, ∀ y ∈ s.U, x.p ≠ y.p
  lt : s.T.length ≤ m
  lu : s.U.length ≤ m

theorem KI.inv {s : KS} {n : Nat} (h : KI s n) (hn : n ≤ 1000) : KInv s := ⟨h.toKOk', h.dj, by have := h.lt; omega, by have := h.lu; omega⟩
theorem KI.zero : KI ⟨[], [], 0⟩ 0 := ⟨⟨TOk.nil, TOk.nil, by decide⟩, by simp, by simp, by simp⟩
theorem KI.mono {s : KS} {n m : Nat} (h : KI s n) (hn : n ≤ m) : KI s m := ⟨h.toKOk', h.dj, Nat.le_trans h.lt hn, Nat.le_trans h.lu hn⟩

theorem has_false {p : Pr} {T : List En} (h : has p T = false) : ∀ y ∈ T, y.p ≠ p := by
  intro y hy e
  have : has p T = true := by
    unfold has tlook
    rw [List.find?_isSome]
    exact ⟨y, hy, by simpa using e⟩
  rw [h] at this; cases this
theorem has_true {p : Pr} {T : List En} (h : has p T = true) : ∃ y ∈ T, y.p = p := by
  unfold has tlook at h
  rw [List.find?_isSome] at h
  obtain ⟨y, hy, e⟩ := h
  exact ⟨y, hy, by simpa using e⟩
theorem has_of {p : Pr} {T : List En} {y : En} (hy : y ∈ T) (e : y.p = p) : has p T = true := by
  unfold has tlook
  rw [List.find?_isSome]
  exact ⟨y, hy, by simpa using e⟩
theorem tput_self {e : En} : ∀ T : List En, e ∈ tput e T
  | [] => by simp [tput]
  | x :: T => by simp only [tput]; split <;> (try split) <;> simp [tput_self T]

theorem KI.do {s : KS} {n : Nat} (h : KI s n) {o : Opn} (ho : o.e.ok) : KI (kdo s o).2 (n + 1) := by
  have hd : ∀ x ∈ s.T, ∀ y ∈ s.U, x.p ≠ y.p := h.dj
  have h1 := h.lt
  have h2 := h.lu
  have put : (∀ y ∈ s.U, y.p ≠ o.e.p) → KI { s with T := tput o.e s.T } (n + 1) := fun hU =>
    ⟨⟨h.t.put ho, h.u, h.n⟩, fun x hx y hy => by
      rcases tput_mem hx with rfl | hx
      · exact fun e => hU y hy e.symm
      · exact hd x hx y hy, by have := tput_length (e := o.e) (T := s.T); show (tput o.e s.T).length ≤ _; omega, by show s.U.length ≤ _; omega⟩
  unfold kdo
  split
  · exact ⟨⟨h.t, h.u, by have := h.n; show 0 ≤ s.n - 1 ∧ s.n - 1 < _; omega⟩, hd, by show s.T.length ≤ _; omega, by show s.U.length ≤ _; omega⟩
  split
  · exact h.mono (by omega)
  split
  · rename_i hc
    rcases hc with ⟨_, _, hc⟩ | ⟨_, hc⟩
    · exact put (has_false hc)
    · obtain ⟨y, hy, e⟩ := has_true hc
      exact put (fun z hz e2 => hd y hy z hz (e.trans e2.symm))
  split
  · exact ⟨⟨h.t.del _, h.u, h.n⟩, fun x hx y hy => hd x (List.mem_filter.1 hx).1 y hy, by have := tdel_length (p := o.e.p) (T := s.T); show (tdel o.e.p s.T).length ≤ _; omega, by show s.U.length ≤ _; omega⟩
  · exact h.mono (by omega)

theorem KI.imp {s : KS} {n : Nat} (h : KI s n) {e : En} (ho : e.ok) : KI (kimp s e).2 (n + 1) := by
  have h1 := h.lt
  have h2 := h.lu
  unfold kimp
  split
  · rename_i hc
    refine ⟨⟨h.t, h.u.put ho, h.n⟩, fun x hx y hy => ?_, by show s.T.length ≤ _; omega, by have := tput_length (e := e) (T := s.U); show (tput e s.U).length ≤ _; omega⟩
    rcases tput_mem hy with rfl | hy
    · exact has_false hc.1 x hx
    · exact h.dj x hx y hy
  · exact h.mono (by omega)

theorem KI.fail {s : KS} {n : Nat} (h : KI s n) {m : Int} (hm : m < 9223372036854775808) : KI { s with n := max m 0 } n :=
  ⟨⟨h.t, h.u, by show 0 ≤ max m 0 ∧ max m 0 < _; omega⟩, h.dj, h.lt, h.lu⟩

theorem kimps_two {s : KS} {e : En} : kimps s [e, e] = kimp s e := by
  simp only [kimps]
  by_cases h : has e.p s.T = false ∧ has e.p s.U = false ∧ okR e.p = true
  · have h1 := kimp_yes h.1 h.2.1 h.2.2
    rw [h1]
    have h2 : kimp { s with U := tput e s.U } e = (0, { s with U := tput e s.U }) := kimp_no (fun x => by
      have := has_of (tput_self s.U) (rfl : e.p = e.p)
      rw [x.2.1] at this; cases this)
    simp only [h2]
    rfl
  · have h1 := kimp_no h
    rw [h1]
    simp only [h1]
    rfl

theorem en_def_ok : (default : En).ok := by
  refine ⟨⟨?_, ?_⟩, ?_⟩ <;> exact ⟨rfl, by decide⟩

theorem klook_ok {s : KS} {src dst : List Int} (h : KInv s) : (klook s src dst).1.ok := by
  unfold klook
  split
  · rcases klook_win src dst (s.T ++ s.U) with ⟨k1, _⟩ | ⟨e, he, k1⟩
    · rw [k1]; exact en_def_ok
    · rw [k1]; exact h.apart.1 _ he.1
  · exact en_def_ok

theorem eqEn_self {x : En} (hx : x.ok) : (((eqBytes 16 x.p.d.a x.p.d.a && decide (x.p.d.n = x.p.d.n)) && (eqBytes 16 x.p.s.a x.p.s.a && decide (x.p.s.n = x.p.s.n))) && (decide (x.i = x.i) && eqBytes 16 x.h x.h)) = true := by
  rw [eqEn hx hx]; exact decide_eq_true rfl

/-! ### the words of 'live' -/

abbrev f4 (a b c d : Int) : List Int := [0, 0, 0, 0, 0, 0, 0, 0, 0, 0, 255, 255, a, b, c, d]
abbrev lA : En := ⟨⟨⟨f4 10 0 0 0, 104⟩, ⟨ad4, 96⟩⟩, 1, ad0⟩
abbrev lB : En := ⟨⟨⟨f4 10 1 0 0, 112⟩, ⟨f4 1 0 0 0, 104⟩⟩, 2, ad0⟩
abbrev L0 : KS := ⟨[], [], 0⟩
abbrev L1 : KS := ⟨[lA], [], 0⟩
abbrev L2 : KS := ⟨[lA, lB], [], 0⟩
abbrev L3 : KS := ⟨[lA, lB], [], 1⟩
abbrev L4 : KS := ⟨[lB], [], 0⟩

theorem l1 : kdo L0 ⟨1, lA⟩ = (true, L1) := by kernel_rfl
theorem l2 : kdo L1 ⟨1, lB⟩ = (true, L2) := by kernel_rfl
theorem l3 : kdo L3 ⟨3, lA⟩ = (false, L2) := by kernel_rfl
theorem l4 : kdo L2 ⟨3, lA⟩ = (true, L4) := by kernel_rfl
theorem k1 : klook L2 (f4 1 1 1 1) (f4 10 1 2 3) = (lB, true) := by kernel_rfl
theorem k2 : klook L2 (f4 2 2 2 2) (f4 10 1 2 3) = (default, false) := by kernel_rfl
theorem k3 : klook L2 (f4 2 2 2 2) (f4 10 2 2 2) = (lA, true) := by kernel_rfl

theorem adok4 {a b c d : Int} (h : ∀ x ∈ [a, b, c, d], 0 ≤ x ∧ x < 256) : AdOk (f4 a b c d) := by
  refine ⟨rfl, fun x hx => ?_⟩
  simp only [List.mem_cons, List.not_mem_nil, or_false] at hx
  rcases hx with rfl | rfl | rfl | rfl | rfl | rfl | rfl | rfl | rfl | rfl | rfl | rfl | rfl | rfl | rfl | rfl
  all_goals first | omega | (apply h; simp)
theorem lA_ok : lA.ok := ⟨⟨adok4 (by decide), ⟨rfl, by decide⟩⟩, ⟨rfl, by decide⟩⟩
theorem lB_ok : lB.ok := ⟨⟨adok4 (by decide), adok4 (by decide)⟩, ⟨rfl, by decide⟩⟩
theorem L1_ki : KI L1 1 := by have := KI.zero.do (o := ⟨1, lA⟩) lA_ok; rw [l1] at this; exact this
theorem L2_ki : KI L2 2 := by have := L1_ki.do (o := ⟨1, lB⟩) lB_ok; rw [l2] at this; exact this
theorem L3_ki : KI L3 2 := by have := L2_ki.fail (m := 1) (by decide); exact this
theorem L4_ki : KI L4 3 := by have := L2_ki.do (o := ⟨3, lA⟩) lA_ok; rw [l4] at this; exact this

theorem spec_lit {f : FuncId} {x : V} {a : Option Addr} {cap n : Nat} {l : List En} {us : List V} {H : List (Nat × Cell)} {post : V → List (Nat × Cell) → Prop} (h : Spec Try.prog f [x, lros a cap enE l] H post) (hu : us = l.map enE) (hn : l.length = n) :
    Spec Try.prog f [x, .ros a cap n (fun j => us.getD j .unit)] H post := by
  subst hn
  refine Spec.args h rfl fun A hv v hm => ?_
  rcases List.mem_cons.1 hm with rfl | hm
  · exact hv _ (by simp)
  · rw [List.mem_singleton] at hm
    subst hm
    refine VOk.ros_congr (fun j hj => ?_) (hv (.ros a cap l.length (fun j => us.getD j .unit)) (List.mem_cons_of_mem _ (List.mem_singleton.2 rfl)))
    subst hu
    simp [lat, List.getD, List.getElem?_eq_getElem hj]

end Go.Vm
