/- The kernel's table: what its functions do. -/
import Derived.Test.YtimkkhefemnkpaaT1
namespace Go.Vm
open Go Go.Proofs

structure KS where
  T : List En
  U : List En
  n : Int

abbrev kV (b1 b2 : Nat) (n : Int) : V := .pair (.map 1051 (some b1)) (.pair (.map 1052 (some b2)) (iV n))
abbrev KO (kb b1 b2 : Nat) (s : KS) : List (Nat × Cell) := [(1060, .box kb 93 (kV b1 b2 s.n)), (1051, tbl b1 s.T), (1052, tbl b2 s.U)]

def okR (p : Pr) : Bool := okpair p.d.a p.d.n p.s.a p.s.n
def has (p : Pr) (T : List En) : Bool := (tlook p T).isSome

def kdo (s : KS) (o : Opn) : Bool × KS :=
  if 0 < s.n then (false, { s with n := s.n - 1 }) else
  if okR o.e.p = false then (false, s) else
  if (o.k = 1 ∧ has o.e.p s.T = false ∧ has o.e.p s.U = false) ∨ (o.k = 2 ∧ has o.e.p s.T = true) then (true, { s with T := tput o.e s.T }) else
  if o.k = 3 ∧ has o.e.p s.T = true then (true, { s with T := tdel o.e.p s.T }) else (false, s)

theorem kdo_fail {s : KS} {o : Opn} (h : 0 < s.n) : kdo s o = (false, { s with n := s.n - 1 }) := if_pos h
theorem kdo_bad {s : KS} {o : Opn} (h : ¬ 0 < s.n) (h2 : okR o.e.p = false) : kdo s o = (false, s) := by unfold kdo; rw [if_neg h, if_pos h2]
theorem kdo_add {s : KS} {o : Opn} (h : ¬ 0 < s.n) (h2 : okR o.e.p = true) (k : o.k = 1) (h3 : has o.e.p s.T = false) (h4 : has o.e.p s.U = false) : kdo s o = (true, { s with T := tput o.e s.T }) := by
  unfold kdo; rw [if_neg h, if_neg (by simp [h2]), if_pos (.inl ⟨k, h3, h4⟩)]
theorem kdo_chg {s : KS} {o : Opn} (h : ¬ 0 < s.n) (h2 : okR o.e.p = true) (k : o.k = 2) (h3 : has o.e.p s.T = true) : kdo s o = (true, { s with T := tput o.e s.T }) := by
  unfold kdo; rw [if_neg h, if_neg (by simp [h2]), if_pos (.inr ⟨k, h3⟩)]
theorem kdo_rem {s : KS} {o : Opn} (h : ¬ 0 < s.n) (h2 : okR o.e.p = true) (k : o.k = 3) (h3 : has o.e.p s.T = true) : kdo s o = (true, { s with T := tdel o.e.p s.T }) := by
  unfold kdo; rw [if_neg h, if_neg (by simp [h2]), if_neg (by omega), if_pos ⟨k, h3⟩]
theorem kdo_no {s : KS} {o : Opn} (h : ¬ 0 < s.n) (h2 : okR o.e.p = true) (h3 : ¬ (o.k = 1 ∧ has o.e.p s.T = false ∧ has o.e.p s.U = false)) (h4 : ¬ (o.k = 2 ∧ has o.e.p s.T = true)) (h5 : ¬ (o.k = 3 ∧ has o.e.p s.T = true)) : kdo s o = (false, s) := by
  unfold kdo; rw [if_neg h, if_neg (by simp [h2]), if_neg (fun e => e.elim h3 h4), if_neg h5]

structure KOk' (s : KS) : Prop where
  t : TOk s.T
  u : TOk s.U
  n : 0 ≤ s.n ∧ s.n < 9223372036854775808

theorem isSome_has (p : Pr) (T : List En) : (alook p (tblKV T)).isSome = has p T := by rw [alook_tlook]; rfl

theorem okR_nof {p : Pr} (h : (!decide ((if okpair p.d.a p.d.n p.s.a p.s.n then (0 : Int) else 21) = 0)) = false) : okR p = true := by
  unfold okR; cases ho : okpair p.d.a p.d.n p.s.a p.s.n <;> simp_all
theorem okR_nnot {p : Pr} (h : (!decide ((if okpair p.d.a p.d.n p.s.a p.s.n then (0 : Int) else 21) = 0)) = true) : okR p = false := by
  unfold okR; cases ho : okpair p.d.a p.d.n p.s.a p.s.n <;> simp_all

end Go.Vm
