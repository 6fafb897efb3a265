/- Pairs, entries, operations; pairs as keys; the functions of maps.Keys, slices.Collect. -/
import Derived.Test.YtimkkhefemnkpaaA3
import Derived.Test.YtimkkhefemnkpaaVm18
namespace Go.Vm
open Go Go.Proofs

structure Pfx where
  a : List Int
  n : Int
  deriving DecidableEq
structure Pr where
  d : Pfx
  s : Pfx
  deriving DecidableEq
structure En where
  p : Pr
  i : Int
  h : List Int
  deriving DecidableEq
structure Opn where
  k : Int
  e : En
  deriving DecidableEq

instance : Inhabited Pfx := ⟨⟨ad0, 0⟩⟩
instance : Inhabited Pr := ⟨⟨default, default⟩⟩
instance : Inhabited En := ⟨⟨default, 0, ad0⟩⟩
instance : Inhabited Opn := ⟨⟨0, default⟩⟩

abbrev pfE (p : Pfx) : V := pfV p.a p.n
abbrev prE (p : Pr) : V := prV p.d.a p.d.n p.s.a p.s.n
abbrev enE (x : En) : V := enV x.p.d.a x.p.d.n x.p.s.a x.p.s.n x.i x.h
abbrev opE (o : Opn) : V := .pair (iV o.k) (enE o.e)

def Pfx.ok (p : Pfx) : Prop := AdOk p.a
def Pr.ok (p : Pr) : Prop := AdOk p.d.a ∧ AdOk p.s.a
def En.ok (x : En) : Prop := x.p.ok ∧ AdOk x.h

theorem eqAd {a b : List Int} (ha : AdOk a) (hb : AdOk b) : eqBytes 16 a b = decide (a = b) := eqBytes_iff ha.1 hb.1

theorem eqPr {p q : Pr} (hp : p.ok) (hq : q.ok) : ((eqBytes 16 p.d.a q.d.a && decide (p.d.n = q.d.n)) && (eqBytes 16 p.s.a q.s.a && decide (p.s.n = q.s.n))) = decide (p = q) := by
  rw [eqAd hp.1 hq.1, eqAd hp.2 hq.2]
  obtain ⟨⟨a, n⟩, ⟨b, m⟩⟩ := p
  obtain ⟨⟨a', n'⟩, ⟨b', m'⟩⟩ := q
  rw [Bool.eq_iff_iff]
  simp [Pr.mk.injEq, Pfx.mk.injEq]

theorem eqEn {x y : En} (hx : x.ok) (hy : y.ok) : (((eqBytes 16 x.p.d.a y.p.d.a && decide (x.p.d.n = y.p.d.n)) && (eqBytes 16 x.p.s.a y.p.s.a && decide (x.p.s.n = y.p.s.n))) && (decide (x.i = y.i) && eqBytes 16 x.h y.h)) = decide (x = y) := by
  rw [eqPr hx.1 hy.1, eqAd hx.2 hy.2]
  obtain ⟨p, i, h⟩ := x
  obtain ⟨p', i', h'⟩ := y
  rw [Bool.eq_iff_iff]
  simp [En.mk.injEq, and_assoc]

instance {xs : List Int} : ChkV Try.prog 31 (.bytes 16 xs) 2 := ChkV.bytes (E := 5) inferInstance inferInstance (by kernel_rfl) (by kernel_rfl : Try.prog.underlying 5 = some (.int .u8))
instance {n : Int} : ChkV Try.prog 3 (.int .i64 n) 1 := ChkV.int inferInstance (by kernel_rfl : Try.prog.underlying 3 = some (.int .i64))
instance {a : List Int} {n : Int} : ChkV Try.prog 33 (.pair (.bytes 16 a) (.int .i64 n)) (max 2 1 + 1) := ChkV.struct (k := max 2 1) (n := 17) (fs := [(Try.prog.fieldsOf 33).getD 0 default, (Try.prog.fieldsOf 33).getD 1 default]) inferInstance (by kernel_rfl) (by kernel_rfl)
  (ChkF.cons (T := 31) (n := 16) (by kernel_rfl) (by kernel_rfl) inferInstance inferInstance (ChkF.one (T := 3) (n := 1) (by kernel_rfl) (by kernel_rfl) inferInstance inferInstance)) rfl
instance {a b : List Int} {n m : Int} : ChkV Try.prog 35 (.pair (.pair (.bytes 16 a) (.int .i64 n)) (.pair (.bytes 16 b) (.int .i64 m))) (max (max 2 1 + 1) (max 2 1 + 1) + 1) := ChkV.struct (k := max (max 2 1 + 1) (max 2 1 + 1)) (n := 34) (fs := [(Try.prog.fieldsOf 35).getD 0 default, (Try.prog.fieldsOf 35).getD 1 default]) inferInstance (by kernel_rfl) (by kernel_rfl)
  (ChkF.cons (T := 33) (n := 17) (by kernel_rfl) (by kernel_rfl) inferInstance inferInstance (ChkF.one (T := 33) (n := 17) (by kernel_rfl) (by kernel_rfl) inferInstance inferInstance)) rfl

theorem prE_ints (p : Pr) : ∀ c ∈ (prE p).cells, ∃ k n, c = Value.int k n := by
  intro c hc
  simp only [V.cells, List.mem_append, bcells, List.mem_map, List.mem_singleton] at hc
  rcases hc with (⟨i, _, rfl⟩ | rfl) | (⟨i, _, rfl⟩ | rfl) <;> exact ⟨_, _, rfl⟩

instance : KeyT Try.prog 35 prE Pr.ok where
  chk em x w _ := (inferInstance : ChkV Try.prog 35 (prE x) _).run em 10000 w (by decide)
  eq x y w hx hy := by
    have h : EqV Try.prog 35 (prE x) (prE y) _ _ := inferInstance
    have := h.run 10000 w (by decide)
    rw [eqPr hx hy] at this
    exact this
  find k es w := run_findKey_eq w (k := 35) (by kernel_rfl) k es
  bits x _ := sameBits_ints (prE_ints x)

end Go.Vm
