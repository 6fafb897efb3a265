/- What one operation yields: copies, addresses, loads, stores, numbers. -/
import Derived.Test.YtimkkhefemnkpaaVm4
namespace Go.Vm

class Und (P : Program) (T : TypeId) (d : outParam TypeDesc) : Prop where
  eq : P.underlying T = some d

/-- Field i of a struct type: where it lies; what it is. -/
class Fld (P : Program) (T : TypeId) (i : Nat) (off : outParam Nat) (g : outParam Bool) (n : outParam Nat) : Prop where
  addr : ∀ a w, (Instr.fieldAt T (.pointer (some a)) i).run P w = .ok (.pointer (some (a.add off))) w
  part : ∀ (cs : Array Value) w, (Instr.field T (.agg cs) i).run P w = if g = true then .ok (.agg (cs.extract off (off + n))) w else
    match cs[off]? with
    | some v => .ok v w
    | none => .halt (.stuck "part: no such cell") w

/-- A slice type, or an array type: its elements. -/
class Slc (P : Program) (T : TypeId) (E : outParam TypeId) (z : outParam Nat) : Prop where
  und : ∀ w, (underlying T).run P w = .ok (.slice E) w
  size : ∀ w, (sizeOf E).run P w = .ok z w
class Arr (P : Program) (T : TypeId) (m : outParam Nat) (E : outParam TypeId) (z : outParam Nat) : Prop where
  und : ∀ w, (underlying T).run P w = .ok (.array m E) w
  size : ∀ w, (sizeOf E).run P w = .ok z w
  two : 2 ≤ m

/-- The zero value of a type. -/
class Zer (P : Program) (T : TypeId) (v : outParam V) : Prop where
  zero : ∀ w, (zeroValue T).run P w = .ok v.real w
  mem : v.mem = true
  ok : ∀ A, VOk A v

theorem run_v {P : Program} {s : Sem Value} {v : Value} {w w' : World} (h : s.run P w = .ok v w') : ((do pure (Next.value (← s)) : Sem Next)).run P w = .ok (.value v) w' := by
  simp [h]

section
variable {X : Cx} {st : St} {dst : Option Tmp} {ty : TypeId} {pos : String} {af : Array Edge} {gd : Option (Nat × Bool)}

theorem q_move {x : Operand} {v : V} (hx : st.ev x = some v) : EvQ X ⟨dst, .move x, ty, pos, af, gd⟩ st v := fun a w s _ => by
  obtain ⟨h1, h2⟩ := s.ev hx
  exact ⟨by simp [execOp, h1], h2⟩

theorem q_assign {x : Operand} {v : V} (hx : st.ev x = some v) : EvQ X ⟨dst, .assign x, ty, pos, af, gd⟩ st v := fun a w s _ => by
  obtain ⟨h1, h2⟩ := s.ev hx
  exact ⟨by simp [execOp, h1], h2⟩

theorem q_pick_t {c x y : Operand} {v : V} (hc : st.ev c = some (.bool true)) (hx : st.ev x = some v) : EvQ X ⟨dst, .pick c x y, ty, pos, af, gd⟩ st v := fun a w s _ => by
  obtain ⟨h1, h2⟩ := s.ev hx
  obtain ⟨h3, _⟩ := s.ev hc
  exact ⟨by simp [execOp, h1, h3, V.real, asBool], h2⟩

theorem q_pick_f {c x y : Operand} {v : V} (hc : st.ev c = some (.bool false)) (hy : st.ev y = some v) : EvQ X ⟨dst, .pick c x y, ty, pos, af, gd⟩ st v := fun a w s _ => by
  obtain ⟨h1, h2⟩ := s.ev hy
  obtain ⟨h3, _⟩ := s.ev hc
  exact ⟨by simp [execOp, h1, h3, V.real, asBool], h2⟩

/-- A pointer that is not nil. -/
def V.notNil : V → Bool
  | .ptr _ _ _ => true
  | .pel _ _ _ _ _ => true
  | .rop _ _ => true
  | .fn (.func _) _ => true
  | _ => false

theorem q_nilCheck {x : Operand} {v : V} (hx : st.ev x = some v) (hn : v.notNil = true) : EvQ X ⟨dst, .nilCheck x, ty, pos, af, gd⟩ st v := fun a w s _ => by
  obtain ⟨h1, h2⟩ := s.ev hx
  refine ⟨?_, h2⟩
  cases v <;> simp [V.notNil] at hn <;> first
    | (rename_i f c; cases f <;> simp at hn; simp [execOp, h1, V.real])
    | simp [execOp, h1, V.real]

/-! ### numbers and truths -/

def ibin (op : BinOp) (k : IntKind) (a b : Int) : Option V :=
  match op with
  | .add => some (.int k (k.wrap (a + b)))
  | .sub => some (.int k (k.wrap (a - b)))
  | .mul => some (.int k (k.wrap (a * b)))
  | .and => some (.int k (k.wrap ((BitVec.ofInt k.bits a &&& BitVec.ofInt k.bits b).toNat)))
  | .or => some (.int k (k.wrap ((BitVec.ofInt k.bits a ||| BitVec.ofInt k.bits b).toNat)))
  | .xor => some (.int k (k.wrap ((BitVec.ofInt k.bits a ^^^ BitVec.ofInt k.bits b).toNat)))
  | .andNot => some (.int k (k.wrap ((BitVec.ofInt k.bits a &&& ~~~BitVec.ofInt k.bits b).toNat)))
  | .eql => some (.bool (decide (a = b)))
  | .neq => some (.bool (!decide (a = b)))
  | .lss => some (.bool (decide (a < b)))
  | .leq => some (.bool (decide (a ≤ b)))
  | .gtr => some (.bool (decide (a > b)))
  | .geq => some (.bool (decide (a ≥ b)))
  | _ => none

theorem int_beq (a b : Int) : (a == b) = decide (a = b) := rfl

theorem q_int {op : BinOp} {T T' : TypeId} {x y : Operand} {k : IntKind} {a b : Int} {v : V} (hx : st.ev x = some (.int k a)) (hy : st.ev y = some (.int k b)) (h : ibin op k a b = some v) :
    EvQ X ⟨dst, .binOp op T x y T', ty, pos, af, gd⟩ st v := fun ac w s _ => by
  obtain ⟨h1, _⟩ := s.ev hx
  obtain ⟨h2, _⟩ := s.ev hy
  cases op <;> simp only [ibin, Option.some.injEq, reduceCtorEq] at h <;> subst h <;> refine ⟨?_, trivial⟩ <;>
    simp [execOp, h1, h2, V.real, eqGuard, binOp, Op.intArith, Op.intBits, Op.intCmp, int_beq, bne]

theorem q_quo {T T' : TypeId} {x y : Operand} {k : IntKind} {a b : Int} (hx : st.ev x = some (.int k a)) (hy : st.ev y = some (.int k b)) (h : b ≠ 0) :
    EvQ X ⟨dst, .binOp .quo T x y T', ty, pos, af, gd⟩ st (.int k (k.wrap (a.tdiv b))) := fun ac w s _ => by
  obtain ⟨h1, _⟩ := s.ev hx
  obtain ⟨h2, _⟩ := s.ev hy
  exact ⟨by simp [execOp, h1, h2, V.real, eqGuard, binOp, Op.intDiv, h], trivial⟩

theorem q_rem {T T' : TypeId} {x y : Operand} {k : IntKind} {a b : Int} (hx : st.ev x = some (.int k a)) (hy : st.ev y = some (.int k b)) (h : b ≠ 0) :
    EvQ X ⟨dst, .binOp .rem T x y T', ty, pos, af, gd⟩ st (.int k (a.tmod b)) := fun ac w s _ => by
  obtain ⟨h1, _⟩ := s.ev hx
  obtain ⟨h2, _⟩ := s.ev hy
  exact ⟨by simp [execOp, h1, h2, V.real, eqGuard, binOp, Op.intDiv, h], trivial⟩

theorem q_shl {T T' : TypeId} {x y : Operand} {k k' : IntKind} {a b : Int} (hx : st.ev x = some (.int k a)) (hy : st.ev y = some (.int k' b)) (h : 0 ≤ b) :
    EvQ X ⟨dst, .binOp .shl T x y T', ty, pos, af, gd⟩ st (.int k (k.wrap (a * 2 ^ (min b.toNat k.bits)))) := fun ac w s _ => by
  obtain ⟨h1, _⟩ := s.ev hx
  obtain ⟨h2, _⟩ := s.ev hy
  exact ⟨by simp [execOp, h1, h2, V.real, eqGuard, binOp, Op.shift, Int.not_lt.2 h], trivial⟩

theorem q_shr {T T' : TypeId} {x y : Operand} {k k' : IntKind} {a b : Int} (hx : st.ev x = some (.int k a)) (hy : st.ev y = some (.int k' b)) (h : 0 ≤ b) :
    EvQ X ⟨dst, .binOp .shr T x y T', ty, pos, af, gd⟩ st (.int k (a.fdiv (2 ^ (min b.toNat k.bits)))) := fun ac w s _ => by
  obtain ⟨h1, _⟩ := s.ev hx
  obtain ⟨h2, _⟩ := s.ev hy
  exact ⟨by simp [execOp, h1, h2, V.real, eqGuard, binOp, Op.shift, Int.not_lt.2 h], trivial⟩

theorem q_not {T : TypeId} {x : Operand} {b : Bool} (hx : st.ev x = some (.bool b)) : EvQ X ⟨dst, .unOp .not T x, ty, pos, af, gd⟩ st (.bool (!b)) := fun ac w s _ => by
  obtain ⟨h1, _⟩ := s.ev hx
  exact ⟨by simp [execOp, h1, V.real, Op.unary], trivial⟩

theorem q_neg {T : TypeId} {x : Operand} {k : IntKind} {n : Int} (hx : st.ev x = some (.int k n)) : EvQ X ⟨dst, .unOp .neg T x, ty, pos, af, gd⟩ st (.int k (k.wrap (0 - n))) := fun ac w s _ => by
  obtain ⟨h1, _⟩ := s.ev hx
  exact ⟨by simp [execOp, h1, V.real, Op.unary, Op.intArith], trivial⟩

theorem equal_bool {P : Program} {T : TypeId} {w : World} (u : P.underlying T = some .bool) (a b : Bool) : (Op.equal T (.bool a) (.bool b)).run P w = .ok (a == b) w := by
  show (Op.equalIn (9999 + 1) T (.bool a) (.bool b)).run P w = _
  unfold Op.equalIn
  simp [underlying, u]

theorem equal_nil {P : Program} {T E : TypeId} {w : World} (u : P.underlying T = some (.pointer E)) (a : Option Addr) : (Op.equal T (.pointer a) (.pointer none)).run P w = .ok a.isNone w := by
  show (Op.equalIn (9999 + 1) T (.pointer a) (.pointer none)).run P w = _
  unfold Op.equalIn
  cases a <;> simp [underlying, u]

theorem q_eqb {T T' : TypeId} {x y : Operand} {a b : Bool} [u : Und X.P T .bool] (hx : st.ev x = some (.bool a)) (hy : st.ev y = some (.bool b)) :
    EvQ X ⟨dst, .binOp .eql T x y T', ty, pos, af, gd⟩ st (.bool (a == b)) := fun ac w s _ => by
  obtain ⟨h1, _⟩ := s.ev hx
  obtain ⟨h2, _⟩ := s.ev hy
  exact ⟨by simp [execOp, h1, h2, V.real, eqGuard, binOp, equal_bool u.eq], trivial⟩

theorem q_neb {T T' : TypeId} {x y : Operand} {a b : Bool} [u : Und X.P T .bool] (hx : st.ev x = some (.bool a)) (hy : st.ev y = some (.bool b)) :
    EvQ X ⟨dst, .binOp .neq T x y T', ty, pos, af, gd⟩ st (.bool (!(a == b))) := fun ac w s _ => by
  obtain ⟨h1, _⟩ := s.ev hx
  obtain ⟨h2, _⟩ := s.ev hy
  exact ⟨by simp [execOp, h1, h2, V.real, eqGuard, binOp, equal_bool u.eq], trivial⟩

def V.nilness : V → Option Bool
  | .nilp => some true
  | .ptr _ _ _ => some false
  | .pel _ _ _ _ _ => some false
  | .rop _ _ => some false
  | _ => none

theorem q_eqnil {T T' E : TypeId} {x y : Operand} {v : V} {b : Bool} [u : Und X.P T (.pointer E)] (hx : st.ev x = some v) (hy : st.ev y = some .nilp) (h : v.nilness = some b) :
    EvQ X ⟨dst, .binOp .eql T x y T', ty, pos, af, gd⟩ st (.bool b) := fun ac w s _ => by
  obtain ⟨h1, _⟩ := s.ev hx
  obtain ⟨h2, _⟩ := s.ev hy
  refine ⟨?_, trivial⟩
  cases v <;> simp only [V.nilness, Option.some.injEq, reduceCtorEq] at h <;> subst h <;>
    simp [execOp, h1, h2, V.real, eqGuard, binOp, equal_nil u.eq]

theorem q_nenil {T T' E : TypeId} {x y : Operand} {v : V} {b : Bool} [u : Und X.P T (.pointer E)] (hx : st.ev x = some v) (hy : st.ev y = some .nilp) (h : v.nilness = some b) :
    EvQ X ⟨dst, .binOp .neq T x y T', ty, pos, af, gd⟩ st (.bool (!b)) := fun ac w s _ => by
  obtain ⟨h1, _⟩ := s.ev hx
  obtain ⟨h2, _⟩ := s.ev hy
  refine ⟨?_, trivial⟩
  cases v <;> simp only [V.nilness, Option.some.injEq, reduceCtorEq] at h <;> subst h <;>
    simp [execOp, h1, h2, V.real, eqGuard, binOp, equal_nil u.eq]

theorem q_eqs {T T' : TypeId} {x y : Operand} {a b : ByteArray} (hx : st.ev x = some (.str a)) (hy : st.ev y = some (.str b)) :
    EvQ X ⟨dst, .binOp .eql T x y T', ty, pos, af, gd⟩ st (.bool (a.toList == b.toList)) := fun ac w s _ => by
  obtain ⟨h1, _⟩ := s.ev hx
  obtain ⟨h2, _⟩ := s.ev hy
  exact ⟨by simp [execOp, h1, h2, V.real, eqGuard, binOp, Op.stringOp], trivial⟩

theorem q_conv {T T' : TypeId} {x : Operand} {k k' : IntKind} {n : Int} {d : TypeDesc} [u0 : Und X.P T d] [u : Und X.P T' (.int k')] (hx : st.ev x = some (.int k n)) :
    EvQ X ⟨dst, .convert T T' x, ty, pos, af, gd⟩ st (.int k' (k'.wrap n)) := fun ac w s _ => by
  obtain ⟨h1, _⟩ := s.ev hx
  exact ⟨by simp [execOp, h1, V.real, convert, underlying, u.eq, u0.eq, Conv.intToInt], trivial⟩

/-! ### parts -/

theorem q_extract2 {x : Operand} {a b : V} {i : Nat} {v : V} (hx : st.ev x = some (.tup2 a b)) (h : [a, b][i]? = some v) : EvQ X ⟨dst, .extract x i, ty, pos, af, gd⟩ st v := fun ac w s _ => by
  obtain ⟨h1, h2⟩ := s.ev hx
  match i, h with
  | 0, h => simp at h; subst h; exact ⟨by simp [execOp, h1, V.real, Instr.extract], h2.1⟩
  | 1, h => simp at h; subst h; exact ⟨by simp [execOp, h1, V.real, Instr.extract], h2.2⟩
  | i + 2, h => simp at h

theorem q_extract3 {x : Operand} {a b c : V} {i : Nat} {v : V} (hx : st.ev x = some (.tup3 a b c)) (h : [a, b, c][i]? = some v) : EvQ X ⟨dst, .extract x i, ty, pos, af, gd⟩ st v := fun ac w s _ => by
  obtain ⟨h1, h2⟩ := s.ev hx
  match i, h with
  | 0, h => simp at h; subst h; exact ⟨by simp [execOp, h1, V.real, Instr.extract], h2.1⟩
  | 1, h => simp at h; subst h; exact ⟨by simp [execOp, h1, V.real, Instr.extract], h2.2.1⟩
  | 2, h => simp at h; subst h; exact ⟨by simp [execOp, h1, V.real, Instr.extract], h2.2.2⟩
  | i + 3, h => simp at h

theorem q_field {T : TypeId} {x : Operand} {i off n : Nat} {g : Bool} [f : Fld X.P T i off g n] {v u : V} (hx : st.ev x = some v) (hg : v.isAgg = true) (hm : v.mem = true) (h : v.at g n off = some u) :
    EvQ X ⟨dst, .field T x i, ty, pos, af, gd⟩ st u := fun ac w s _ => by
  obtain ⟨h1, h2⟩ := s.ev hx
  refine ⟨?_, h2.at h⟩
  obtain ⟨i1, i2, i3, i4, i5⟩ := V.at_spec h
  have hl := V.cells_length v
  have hlu := V.cells_length u
  show ((do pure (Next.value (← Instr.field T (ac.eval x) i)) : Sem Next)).run X.P w = _
  refine run_v ?_
  rw [h1, V.real_agg hg, f.part]
  cases g with
  | true =>
    rw [if_pos rfl, V.real_agg i2, i4]
    congr 2
    simp [List.extract_eq_take_drop]
  | false =>
    rw [if_neg (by simp)]
    have e := V.cells_one i2 (i5 hm)
    have hn : n = 1 := by rw [e] at hlu; simp at hlu; omega
    subst hn
    have h0 : v.cells[off]? = some u.real := by
      have : (v.cells.drop off).take 1 = [u.real] := by rw [← i4, e]
      have hh := congrArg (·[0]?) this
      simpa [List.getElem?_take, List.getElem?_drop] using hh
    simp [h0]

/-! ### addresses -/

theorem q_fieldAddr {T : TypeId} {x : Operand} {i off n : Nat} {g : Bool} [f : Fld X.P T i off g n] {t b o : Nat} (hx : st.ev x = some (.ptr t b o)) :
    EvQ X ⟨dst, .fieldAddr T x i, ty, pos, af, gd⟩ st (.ptr t b (o + off)) := fun ac w s _ => by
  obtain ⟨h1, _⟩ := s.ev hx
  refine ⟨?_, trivial⟩
  show ((do pure (Next.value (← Instr.fieldAt T (ac.eval x) i)) : Sem Next)).run X.P w = _
  refine run_v ?_
  rw [h1]
  show (Instr.fieldAt T (.pointer (some ⟨b, o, none⟩)) i).run X.P w = _
  rw [f.addr, add_none]
  rfl

theorem q_fieldAddr_pel {T : TypeId} {x : Operand} {i off n : Nat} {g : Bool} [f : Fld X.P T i off g n] {t b z k o : Nat} (hx : st.ev x = some (.pel t b z k o)) :
    EvQ X ⟨dst, .fieldAddr T x i, ty, pos, af, gd⟩ st (.pel t b z k (o + off)) := fun ac w s _ => by
  obtain ⟨h1, _⟩ := s.ev hx
  refine ⟨?_, trivial⟩
  show ((do pure (Next.value (← Instr.fieldAt T (ac.eval x) i)) : Sem Next)).run X.P w = _
  refine run_v ?_
  rw [h1]
  show (Instr.fieldAt T (.pointer (some ⟨b, k * z + o, none⟩)) i).run X.P w = _
  rw [f.addr, add_none, Nat.add_assoc]
  rfl

theorem rop_part {A : Fr} {ad : Addr} {v u : V} {g : Bool} {n o : Nat} (h : VOk A (.rop ad v)) (hu : v.at g n o = some u) : VOk A (.rop (ad.add o) u) := by
  obtain ⟨h1, h2, h3, c, T, fr, h4, h5⟩ := h
  obtain ⟨i1, i2, i3, i4, i5⟩ := V.at_spec hu
  have e : ad.add o = ⟨ad.block, ad.off + o, none⟩ := by
    obtain ⟨b, f, sp⟩ := ad
    simp only at h3; subst h3
    exact add_none b f o
  rw [e]
  refine ⟨h1.at hu, i5 h2, rfl, c, T, fr, h4, fun j hj => ?_⟩
  have := h5 (o + j) (by omega)
  rw [show ad.off + o + j = ad.off + (o + j) by omega, this, i4]
  rw [List.getElem?_take_of_lt (by omega), List.getElem?_drop]

theorem q_fieldAddr_rop {T : TypeId} {x : Operand} {i off n : Nat} {g : Bool} [f : Fld X.P T i off g n] {ad : Addr} {v u : V} (hx : st.ev x = some (.rop ad v)) (hu : v.at g n off = some u) :
    EvQ X ⟨dst, .fieldAddr T x i, ty, pos, af, gd⟩ st (.rop (ad.add off) u) := fun ac w s _ => by
  obtain ⟨h1, h2⟩ := s.ev hx
  refine ⟨?_, rop_part h2 hu⟩
  show ((do pure (Next.value (← Instr.fieldAt T (ac.eval x) i)) : Sem Next)).run X.P w = _
  refine run_v ?_
  rw [h1]
  exact f.addr ad w

theorem q_indexAddr_arr {T E : TypeId} {m z : Nat} [u : Arr X.P T m E z] {x y : Operand} {t b o : Nat} {k : IntKind} {i : Int} (hx : st.ev x = some (.ptr t b o)) (hy : st.ev y = some (.int k i)) (h0 : 0 ≤ i) (h1 : i < m) :
    EvQ X ⟨dst, .indexAddr T x y, ty, pos, af, gd⟩ st (.ptr t b (o + i.toNat * z)) := fun ac w s _ => by
  obtain ⟨e1, _⟩ := s.ev hx
  obtain ⟨e2, _⟩ := s.ev hy
  refine ⟨?_, trivial⟩
  show ((do pure (Next.value (← Instr.indexAt T (ac.eval x) (ac.eval y))) : Sem Next)).run X.P w = _
  refine run_v ?_
  rw [e1, e2]
  simp [Instr.indexAt, V.real, asIntOf, u.und, u.size, Instr.sureAddr, h0, h1, add_none]

theorem q_indexAddr_sl {T E : TypeId} {z : Nat} [u : Slc X.P T E z] {x y : Operand} {t b i0 cap n : Nat} {k : IntKind} {i : Int} (hx : st.ev x = some (.sl t (some b) z i0 cap n)) (hy : st.ev y = some (.int k i))
    (h0 : 0 ≤ i) (h1 : i < n) : EvQ X ⟨dst, .indexAddr T x y, ty, pos, af, gd⟩ st (.pel t b z (i0 + i.toNat) 0) := fun ac w s _ => by
  obtain ⟨e1, _⟩ := s.ev hx
  obtain ⟨e2, _⟩ := s.ev hy
  refine ⟨?_, trivial⟩
  show ((do pure (Next.value (← Instr.indexAt T (ac.eval x) (ac.eval y))) : Sem Next)).run X.P w = _
  refine run_v ?_
  rw [e1, e2]
  simp [Instr.indexAt, V.real, asIntOf, u.und, u.size, h0, h1, add_none, Nat.add_mul]

theorem q_indexAddr_ros {T E : TypeId} {z : Nat} [u : Slc X.P T E z] {x y : Operand} {ad : Option Addr} {cap n : Nat} {f : Nat → V} {k : IntKind} {i : Int} (hx : st.ev x = some (.ros ad cap n f)) (hy : st.ev y = some (.int k i))
    (hz : ∀ j, (f j).size = z) (h0 : 0 ≤ i) (h1 : i < n) : EvQ X ⟨dst, .indexAddr T x y, ty, pos, af, gd⟩ st (.rop ((ad.getD default).add (i.toNat * z)) (f i.toNat)) := fun ac w s _ => by
  obtain ⟨e1, hv⟩ := s.ev hx
  obtain ⟨e2, _⟩ := s.ev hy
  obtain ⟨_, hf, h3⟩ := hv
  have hi : i.toNat < n := by omega
  rcases h3 with h3 | ⟨a0, c, T', fr, z', rfl, hs, hc, hcell⟩
  · omega
  have hzz : z' = z := by have := (hcell i.toNat hi).1; rw [hz] at this; exact this.symm
  subst hzz
  refine ⟨?_, ?_⟩
  · show ((do pure (Next.value (← Instr.indexAt T (ac.eval x) (ac.eval y))) : Sem Next)).run X.P w = _
    refine run_v ?_
    rw [e1, e2]
    simp [Instr.indexAt, V.real, asIntOf, u.und, u.size, h0, h1]
  · obtain ⟨b, o, sp⟩ := a0
    simp only at hs; subst hs
    simp only [Option.getD_some, add_none]
    refine ⟨(hf _ hi).1, (hf _ hi).2, rfl, c, T', fr, hc, fun j hj => ?_⟩
    exact (hcell i.toNat hi).2 j (by rw [hz] at hj; exact hj)

/-! ### loads -/

theorem flat_get {n z : Nat} {f : Nat → V} (hz : ∀ i, i < n → (f i).size = z) {i j : Nat} (hi : i < n) (hj : j < z) : (flat n f)[i * z + j]? = (f i).cells[j]? := by
  induction n with
  | zero => omega
  | succ n ih =>
    have e : flat (n + 1) f = flat n f ++ (f n).cells := by simp [flat, List.range_succ]
    have hl : (flat n f).length = n * z := by
      clear ih e
      unfold flat
      rw [List.length_flatMap]
      have : ∀ m, m ≤ n → ((List.range m).map fun i => (f i).cells.length).sum = m * z := by
        intro m hm
        induction m with
        | zero => simp
        | succ m ih => rw [List.range_succ, List.map_append, List.sum_append, ih (by omega)]; simp [V.cells_length, hz m (by omega), Nat.succ_mul]
      exact this n (Nat.le_refl n)
    rw [e]
    by_cases h : i < n
    · have : i * z + j < n * z := by
        have : (i + 1) * z ≤ n * z := Nat.mul_le_mul_right z h
        rw [Nat.succ_mul] at this; omega
      rw [List.getElem?_append_left (by omega)]
      exact ih (fun k hk => hz k (by omega)) h
    · have : i = n := by omega
      subst this
      rw [List.getElem?_append_right (by omega), hl]
      congr 1; omega

theorem flat_length {n z : Nat} {f : Nat → V} (hz : ∀ i, i < n → (f i).size = z) : (flat n f).length = n * z := by
  induction n with
  | zero => simp [flat]
  | succ n ih =>
    have e : flat (n + 1) f = flat n f ++ (f n).cells := by simp [flat, List.range_succ]
    rw [e, List.length_append, ih (fun i hi => hz i (by omega)), V.cells_length, hz n (by omega), Nat.succ_mul]

theorem load_box {A : Fr} {h : Nat → Option Obj} {P : Program} {T T' : TypeId} {g : Bool} {n : Nat} [Ty P T g n] {w : World} {b o : Nat} {v u : V} (hc : CellIn A h (.box b T' v)) (hw : ∀ o, h b = some o → w.heap[b]? = some o)
    (hu : v.at g n o = some u) : (loadVar T ⟨b, o, none⟩).run P w = .ok u.real w ∧ VOk A u := by
  obtain ⟨h1, h2, h3⟩ := hc
  obtain ⟨i1, i2, i3, i4, i5⟩ := V.at_spec hu
  refine ⟨run_loadVar i1 i2 (i5 h2) fun j hj => ?_, h3.at hu⟩
  rw [cell_of (hw _ h1), i4, List.getElem?_take_of_lt hj, List.getElem?_drop]
  simp

theorem load_vec {A : Fr} {h : Nat → Option Obj} {P : Program} {T T' : TypeId} {g : Bool} {n : Nat} [Ty P T g n] {w : World} {b z cap m i o : Nat} {f : Nat → V} {u : V} (hc : CellIn A h (.vec (some b) T' z cap m f))
    (hw : ∀ o, h b = some o → w.heap[b]? = some o) (hi : i < m) (hu : (f i).at g n o = some u) : (loadVar T ⟨b, i * z + o, none⟩).run P w = .ok u.real w ∧ VOk A u := by
  obtain ⟨h0, h1, sp, h2, h3⟩ := hc
  obtain ⟨i1, i2, i3, i4, i5⟩ := V.at_spec hu
  have hz : ∀ k, k < m → (f k).size = z := fun k hk => (h1 k hk).1
  refine ⟨run_loadVar i1 i2 (i5 (h1 i hi).2.1) fun j hj => ?_, (h1 i hi).2.2.at hu⟩
  rw [cell_of (hw _ h2), i4, List.getElem?_take_of_lt hj, List.getElem?_drop]
  have hlt : o + j < z := by rw [← hz i hi]; omega
  have := flat_get hz hi hlt
  rw [← this, Nat.add_assoc]
  simp only [List.getElem?_toArray]
  rw [List.getElem?_append_left]
  rw [flat_length hz]
  have : (i + 1) * z ≤ m * z := Nat.mul_le_mul_right z hi
  rw [Nat.succ_mul] at this; omega

theorem h_load {T T' : TypeId} {g : Bool} {n : Nat} [Ty X.P T g n] {x : Operand} {t b o : Nat} {v u : V} (hx : st.ev x = some (.ptr t b o)) (hg : get t st.H = some (.box b T' v)) (hu : v.at g n o = some u) :
    EvH X ⟨dst, .load T x, ty, pos, af, gd⟩ st u := fun ac w s => by
  obtain ⟨h1, _⟩ := s.ev hx
  obtain ⟨h2, h3⟩ := load_box (P := X.P) (T := T) (w := w) (s.hp t _ hg).1 (fun _ h => h) hu
  refine ⟨?_, h3⟩
  show ((do pure (Next.value (← Instr.loadAt T (ac.eval x))) : Sem Next)).run X.P w = _
  refine run_v ?_
  rw [h1]
  simpa [Instr.loadAt, V.real, Instr.sureAddr] using h2

theorem q_load {T T' : TypeId} {g : Bool} {n : Nat} [Ty X.P T g n] {x : Operand} {t b o : Nat} {v u : V} (hx : st.ev x = some (.ptr t b o)) (hg : get t st.R = some (.box b T' v)) (hu : v.at g n o = some u) :
    EvQ X ⟨dst, .load T x, ty, pos, af, gd⟩ st u := fun ac w s hw => by
  obtain ⟨h1, _⟩ := s.ev hx
  obtain ⟨h2, h3⟩ := load_box (P := X.P) (T := T) (w := w) (s.ro t _ hg) (fun _ h => hw.cells _ _ h) hu
  refine ⟨?_, h3⟩
  show ((do pure (Next.value (← Instr.loadAt T (ac.eval x))) : Sem Next)).run X.P w = _
  refine run_v ?_
  rw [h1]
  simpa [Instr.loadAt, V.real, Instr.sureAddr] using h2

theorem h_load_pel {T T' : TypeId} {g : Bool} {n : Nat} [Ty X.P T g n] {x : Operand} {t b z i o cap m : Nat} {f : Nat → V} {u : V} (hx : st.ev x = some (.pel t b z i o)) (hg : get t st.H = some (.vec (some b) T' z cap m f))
    (hi : i < m) (hu : (f i).at g n o = some u) : EvH X ⟨dst, .load T x, ty, pos, af, gd⟩ st u := fun ac w s => by
  obtain ⟨h1, _⟩ := s.ev hx
  obtain ⟨h2, h3⟩ := load_vec (P := X.P) (T := T) (w := w) (s.hp t _ hg).1 (fun _ h => h) hi hu
  refine ⟨?_, h3⟩
  show ((do pure (Next.value (← Instr.loadAt T (ac.eval x))) : Sem Next)).run X.P w = _
  refine run_v ?_
  rw [h1]
  simpa [Instr.loadAt, V.real, Instr.sureAddr] using h2

theorem q_load_pel {T T' : TypeId} {g : Bool} {n : Nat} [Ty X.P T g n] {x : Operand} {t b z i o cap m : Nat} {f : Nat → V} {u : V} (hx : st.ev x = some (.pel t b z i o)) (hg : get t st.R = some (.vec (some b) T' z cap m f))
    (hi : i < m) (hu : (f i).at g n o = some u) : EvQ X ⟨dst, .load T x, ty, pos, af, gd⟩ st u := fun ac w s hw => by
  obtain ⟨h1, _⟩ := s.ev hx
  obtain ⟨h2, h3⟩ := load_vec (P := X.P) (T := T) (w := w) (s.ro t _ hg) (fun _ h => hw.cells _ _ h) hi hu
  refine ⟨?_, h3⟩
  show ((do pure (Next.value (← Instr.loadAt T (ac.eval x))) : Sem Next)).run X.P w = _
  refine run_v ?_
  rw [h1]
  simpa [Instr.loadAt, V.real, Instr.sureAddr] using h2

theorem q_load_rop {T : TypeId} {g : Bool} {n : Nat} [Ty X.P T g n] {x : Operand} {ad : Addr} {v u : V} (hx : st.ev x = some (.rop ad v)) (hu : v.at g n 0 = some u) :
    EvQ X ⟨dst, .load T x, ty, pos, af, gd⟩ st u := fun ac w s hw => by
  obtain ⟨h1, h2⟩ := s.ev hx
  obtain ⟨k1, k2, k3, c, T', fr, k4, k5⟩ := h2
  obtain ⟨i1, i2, i3, i4, i5⟩ := V.at_spec hu
  refine ⟨?_, k1.at hu⟩
  show ((do pure (Next.value (← Instr.loadAt T (ac.eval x))) : Sem Next)).run X.P w = _
  refine run_v ?_
  rw [h1]
  obtain ⟨b, o, sp⟩ := ad
  simp only at k3; subst k3
  have hb := hw.cells _ _ (s.le.c _ _ k4)
  have := run_loadVar (P := X.P) (T := T) (w := w) (b := b) (o := o) i1 i2 (i5 k2) (fun j hj => by
    rw [cell_of hb]
    simp only at k5
    rw [k5 j (by omega), i4, List.getElem?_take_of_lt hj, List.drop_zero])
  simpa [Instr.loadAt, V.real, Instr.sureAddr] using this

end
end Go.Vm
