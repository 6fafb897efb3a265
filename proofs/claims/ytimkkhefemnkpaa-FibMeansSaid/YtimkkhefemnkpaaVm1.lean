/- Virtual values: trees for Go's values, and the frames that a call leaves alone. Own layer of this place; nothing of a given text. -/
import Derived.WalkKit
import Derived.OrdersHeld
namespace Go.Vm

/-- What a call must leave as it is: some blocks with their contents, the streams. -/
structure Fr where
  c : Nat → Option Obj
  os : Os
  out : Array (Nat × ByteArray)
  tape : Nat → Question → Nat
  dr : Nat

structure Has (F : Fr) (w : World) : Prop where
  cells : ∀ b o, F.c b = some o → w.heap[b]? = some o
  os : w.os = F.os
  out : w.output = F.out
  tape : w.tape = F.tape
  dr : F.dr ≤ w.drawn

structure Fr.le (A F : Fr) : Prop where
  c : ∀ b o, A.c b = some o → F.c b = some o
  os : A.os = F.os
  out : A.out = F.out
  tape : A.tape = F.tape
  dr : A.dr ≤ F.dr

theorem Fr.le_refl (F : Fr) : F.le F := ⟨fun _ _ h => h, rfl, rfl, rfl, Nat.le_refl _⟩
theorem Fr.le_trans {A B C : Fr} (h : A.le B) (k : B.le C) : A.le C := ⟨fun b o x => k.c b o (h.c b o x), h.os.trans k.os, h.out.trans k.out, h.tape.trans k.tape, Nat.le_trans h.dr k.dr⟩
theorem Has.mono {A F : Fr} {w : World} (h : Has F w) (k : A.le F) : Has A w := ⟨fun b o x => h.cells b o (k.c b o x), h.os.trans k.os.symm, h.out.trans k.out.symm, h.tape.trans k.tape.symm, Nat.le_trans k.dr h.dr⟩

inductive V where
  | int (k : IntKind) (n : Int)
  | bool (b : Bool)
  | str (s : ByteArray)
  | nilp
  | ptr (t b o : Nat)
  | pel (t b z i o : Nat)
  | rop (a : Addr) (v : V)
  | sl (t : Nat) (a : Option Nat) (z i cap n : Nat)
  | bsl (t b o cap n : Nat)
  | ros (a : Option Addr) (cap n : Nat) (f : Nat → V)
  | map (t : Nat) (r : Option Nat)
  | fn (f : Fn) (c : V)
  | nilf
  | unit
  | pair (a b : V)
  | bytes (n : Nat) (xs : List Int)
  | tup0
  | tup2 (a b : V)
  | tup3 (a b c : V)
  | raw (v : Value)
  deriving Inhabited

def bcells (n : Nat) (xs : List Int) : List Value := (List.range n).map fun i => .int .u8 (xs.getD i 0)

/-- The cells of a value. -/
def V.cells : V → List Value
  | .int k n => [.int k n]
  | .bool b => [.bool b]
  | .str s => [.string s]
  | .nilp => [.pointer none]
  | .ptr _ b o => [.pointer (some ⟨b, o, none⟩)]
  | .pel _ b z i o => [.pointer (some ⟨b, i * z + o, none⟩)]
  | .rop a _ => [.pointer (some a)]
  | .sl _ none _ _ cap n => [.slice none n cap]
  | .sl _ (some b) z i cap n => [.slice (some ⟨b, i * z, none⟩) n cap]
  | .bsl _ b o cap n => [.slice (some ⟨b, o, none⟩) n cap]
  | .ros a cap n _ => [.slice a n cap]
  | .map _ r => [.map r]
  | .fn f c => [.func f #[] c.cells.toArray]
  | .nilf => [.nilFunc]
  | .unit => []
  | .pair a b => a.cells ++ b.cells
  | .bytes n xs => bcells n xs
  | .tup0 => []
  | .tup2 _ _ => []
  | .tup3 _ _ _ => []
  | .raw v => [v]

/-- The value that it stands for. -/
def V.real : V → Value
  | .int k n => .int k n
  | .bool b => .bool b
  | .str s => .string s
  | .nilp => .pointer none
  | .ptr _ b o => .pointer (some ⟨b, o, none⟩)
  | .pel _ b z i o => .pointer (some ⟨b, i * z + o, none⟩)
  | .rop a _ => .pointer (some a)
  | .sl _ none _ _ cap n => .slice none n cap
  | .sl _ (some b) z i cap n => .slice (some ⟨b, i * z, none⟩) n cap
  | .bsl _ b o cap n => .slice (some ⟨b, o, none⟩) n cap
  | .ros a cap n _ => .slice a n cap
  | .map _ r => .map r
  | .fn f c => .func f #[] c.cells.toArray
  | .nilf => .nilFunc
  | .unit => .agg #[]
  | .pair a b => .agg (a.cells ++ b.cells).toArray
  | .bytes n xs => .agg (bcells n xs).toArray
  | .tup0 => .tuple #[]
  | .tup2 a b => .tuple #[a.real, b.real]
  | .tup3 a b c => .tuple #[a.real, b.real, c.real]
  | .raw v => v

def V.size : V → Nat
  | .unit => 0
  | .pair a b => a.size + b.size
  | .bytes n _ => n
  | .tup0 => 0
  | .tup2 _ _ => 0
  | .tup3 _ _ _ => 0
  | _ => 1

/-- Is it a struct or an array? -/
def V.isAgg : V → Bool
  | .unit => true
  | .pair _ _ => true
  | .bytes _ _ => true
  | _ => false

/-- A value that lies in memory: no tuple, and its raw parts are single cells. -/
def V.mem : V → Bool
  | .tup0 => false
  | .tup2 _ _ => false
  | .tup3 _ _ _ => false
  | .pair a b => a.mem && b.mem
  | .raw v => v.oneCell'
  | _ => true

theorem bcells_length (n : Nat) (xs : List Int) : (bcells n xs).length = n := by simp [bcells]

theorem V.cells_length : ∀ v : V, v.cells.length = v.size
  | .pair a b => by simp [V.cells, V.size, V.cells_length a, V.cells_length b]
  | .bytes n xs => by simp [V.cells, V.size, bcells_length]
  | .sl _ none _ _ _ _ => rfl
  | .sl _ (some _) _ _ _ _ => rfl
  | .int _ _ | .bool _ | .str _ | .nilp | .ptr _ _ _ | .pel _ _ _ _ _ | .rop _ _ | .bsl _ _ _ _ _ | .ros _ _ _ _ | .map _ _ | .fn _ _ | .nilf | .unit
  | .tup0 | .tup2 _ _ | .tup3 _ _ _ | .raw _ => rfl

/-- An aggregate is its cells. -/
theorem V.real_agg : ∀ {v : V}, v.isAgg = true → v.real = .agg v.cells.toArray
  | .unit, _ => rfl
  | .pair _ _, _ => rfl
  | .bytes _ _, _ => rfl

/-- What is no aggregate is one cell. -/
theorem V.cells_one : ∀ {v : V}, v.isAgg = false → v.mem = true → v.cells = [v.real]
  | .sl _ none _ _ _ _, _, _ => rfl
  | .sl _ (some _) _ _ _ _, _, _ => rfl
  | .int _ _, _, _ | .bool _, _, _ | .str _, _, _ | .nilp, _, _ | .ptr _ _ _, _, _ | .pel _ _ _ _ _, _, _ | .rop _ _, _, _ | .bsl _ _ _ _ _, _, _ | .ros _ _ _ _, _, _
  | .map _ _, _, _ | .fn _ _, _, _ | .nilf, _, _ | .raw _, _, _ => rfl

theorem V.oneCell_real : ∀ {v : V}, v.isAgg = false → v.mem = true → v.real.oneCell' = true
  | .sl _ none _ _ _ _, _, _ => rfl
  | .sl _ (some _) _ _ _ _, _, _ => rfl
  | .int _ _, _, _ | .bool _, _, _ | .str _, _, _ | .nilp, _, _ | .ptr _ _ _, _, _ | .pel _ _ _ _ _, _, _ | .rop _ _, _, _ | .bsl _ _ _ _ _, _, _ | .ros _ _ _ _, _, _
  | .map _ _, _, _ | .fn _ _, _, _ | .nilf, _, _ => rfl
  | .raw _, _, h => h

theorem V.oneCell_cells : ∀ {v : V}, v.mem = true → ∀ x ∈ v.cells, x.oneCell' = true
  | .pair a b, h => by
    simp only [V.mem, Bool.and_eq_true] at h
    intro x hx
    simp only [V.cells, List.mem_append] at hx
    exact hx.elim (V.oneCell_cells h.1 x) (V.oneCell_cells h.2 x)
  | .bytes n xs, _ => by
    intro x hx
    simp only [V.cells, bcells, List.mem_map] at hx
    obtain ⟨i, _, rfl⟩ := hx
    rfl
  | .sl _ none _ _ _ _, _ => by simp [V.cells, Value.oneCell']
  | .sl _ (some _) _ _ _ _, _ => by simp [V.cells, Value.oneCell']
  | .unit, _ => by simp [V.cells]
  | .raw v, h => by simpa [V.cells, V.mem] using h
  | .int _ _, _ | .bool _, _ | .str _, _ | .nilp, _ | .ptr _ _ _, _ | .pel _ _ _ _ _, _ | .rop _ _, _ | .bsl _ _ _ _ _, _ | .ros _ _ _ _, _
  | .map _ _, _ | .fn _ _, _ | .nilf, _ => by simp [V.cells, Value.oneCell']

theorem V.real_cells {v : V} (h : v.mem = true) : v.real.cells.toList = v.cells := by
  cases hg : v.isAgg with
  | true => rw [V.real_agg hg]; simp [Value.cells]
  | false =>
    rw [V.cells_one hg h]
    have := V.oneCell_real hg h
    cases hv : v.real <;> simp_all [Value.cells, Value.oneCell']

/-- The part at a place: 'g' says whether a struct or an array is asked for, 'n' how many cells. -/
def V.at (g : Bool) (n : Nat) : V → Nat → Option V
  | .pair a b, o =>
    bif o == 0 && ((V.pair a b).size == n && g) then some (.pair a b)
    else bif Nat.ble (o + n) a.size then a.at g n o
    else bif Nat.ble a.size o then b.at g n (o - a.size) else none
  | .bytes m xs, o =>
    bif o == 0 && (m == n && g) then some (.bytes m xs)
    else bif n == 1 && (!g && Nat.blt o m) then some (.int .u8 (xs.getD o 0)) else none
  | .unit, o => bif o == 0 && (n == 0 && g) then some .unit else none
  | .tup0, _ => none
  | .tup2 _ _, _ => none
  | .tup3 _ _ _, _ => none
  | v, o => bif o == 0 && (n == 1 && !g) then some v else none

def padset (n : Nat) (xs : List Int) (o : Nat) (k : Int) : List Int := (List.range n).map fun i => if i = o then k else xs.getD i 0

/-- Another part at a place. -/
def V.upd (u : V) : V → Nat → Option V
  | .pair a b, o =>
    bif o == 0 && ((V.pair a b).size == u.size && u.isAgg) then some u
    else bif Nat.ble (o + u.size) a.size then (V.upd u a o).map (.pair · b)
    else bif Nat.ble a.size o then (V.upd u b (o - a.size)).map (.pair a ·) else none
  | .bytes m xs, o =>
    bif o == 0 && (m == u.size && u.isAgg) then some u
    else match u with
      | .int .u8 k => bif Nat.blt o m then some (.bytes m (padset m xs o k)) else none
      | _ => none
  | .unit, _ => none
  | .tup0, _ => none
  | .tup2 _ _, _ => none
  | .tup3 _ _ _, _ => none
  | _, o => bif o == 0 && (u.size == 1 && !u.isAgg) then some u else none

theorem bcells_get (n : Nat) (xs : List Int) (o : Nat) (h : o < n) : (bcells n xs)[o]? = some (.int .u8 (xs.getD o 0)) := by
  simp [bcells, h]

theorem V.at_spec {g : Bool} {n : Nat} : ∀ {v : V} {o : Nat} {u : V}, v.at g n o = some u →
    u.size = n ∧ u.isAgg = g ∧ o + n ≤ v.size ∧ u.cells = (v.cells.drop o).take n ∧ (v.mem = true → u.mem = true)
  | .pair a b, o, u, h => by
    simp only [V.at] at h
    cases h1 : (o == 0 && ((V.pair a b).size == n && g)) with
    | true =>
      simp only [h1, cond_true, Option.some.injEq] at h
      simp only [Bool.and_eq_true, beq_iff_eq] at h1
      obtain ⟨rfl, h2, rfl⟩ := h1
      subst h
      have := V.cells_length (V.pair a b)
      refine ⟨h2, rfl, by omega, ?_, id⟩
      rw [List.drop_zero, List.take_of_length_le (by omega)]
    | false =>
      simp only [h1, cond_false] at h
      cases h2 : Nat.ble (o + n) a.size with
      | true =>
        simp only [h2, cond_true] at h
        have h2' := Nat.le_of_ble_eq_true h2
        obtain ⟨i1, i2, i3, i4, i5⟩ := V.at_spec h
        have la := V.cells_length a
        refine ⟨i1, i2, by simp only [V.size]; omega, ?_, fun hm => i5 (by simp only [V.mem, Bool.and_eq_true] at hm; exact hm.1)⟩
        rw [i4]
        simp only [V.cells]
        rw [List.drop_append_of_le_length (by omega), List.take_append_of_le_length (by simp; omega)]
      | false =>
        simp only [h2, cond_false] at h
        cases h3 : Nat.ble a.size o with
        | false => simp [h3] at h
        | true =>
          simp only [h3, cond_true] at h
          have h3' := Nat.le_of_ble_eq_true h3
          obtain ⟨i1, i2, i3, i4, i5⟩ := V.at_spec h
          have la := V.cells_length a
          refine ⟨i1, i2, by simp only [V.size]; omega, ?_, fun hm => i5 (by simp only [V.mem, Bool.and_eq_true] at hm; exact hm.2)⟩
          rw [i4]
          simp only [V.cells]
          rw [List.drop_append, List.drop_eq_nil_of_le (as := a.cells) (i := o) (by omega), List.nil_append, la]
  | .bytes m xs, o, u, h => by
    simp only [V.at] at h
    cases h1 : (o == 0 && (m == n && g)) with
    | true =>
      simp only [h1, cond_true, Option.some.injEq] at h
      simp only [Bool.and_eq_true, beq_iff_eq] at h1
      obtain ⟨rfl, rfl, rfl⟩ := h1
      subst h
      refine ⟨rfl, rfl, by simp [V.size], ?_, id⟩
      simp only [V.cells]
      rw [List.drop_zero, List.take_of_length_le (by rw [bcells_length]; omega)]
    | false =>
      simp only [h1, cond_false] at h
      cases h2 : (n == 1 && (!g && Nat.blt o m)) with
      | false => simp [h2] at h
      | true =>
        simp only [h2, cond_true, Option.some.injEq] at h
        simp only [Bool.and_eq_true, beq_iff_eq, Bool.not_eq_true', Nat.blt] at h2
        obtain ⟨rfl, rfl, h3⟩ := h2
        have h3' := Nat.le_of_ble_eq_true h3
        subst h
        refine ⟨rfl, rfl, by simp [V.size]; omega, ?_, fun _ => rfl⟩
        simp only [V.cells]
        have hg := bcells_get m xs o (by omega)
        obtain ⟨hl, he⟩ := List.getElem?_eq_some_iff.1 hg
        rw [List.drop_eq_getElem_cons hl, List.take_succ_cons, List.take_zero, he]
  | .unit, o, u, h => by
    simp only [V.at] at h
    cases h1 : (o == 0 && (n == 0 && g)) with
    | false => simp [h1] at h
    | true =>
      simp only [h1, cond_true, Option.some.injEq] at h
      simp only [Bool.and_eq_true, beq_iff_eq] at h1
      obtain ⟨rfl, rfl, rfl⟩ := h1
      subst h
      exact ⟨rfl, rfl, by simp [V.size], rfl, id⟩
  | .sl t none z i cap k, o, u, h => one_at (v := .sl t none z i cap k) rfl rfl h
  | .sl t (some b) z i cap k, o, u, h => one_at (v := .sl t (some b) z i cap k) rfl rfl h
  | .int k i, o, u, h => one_at (v := .int k i) rfl rfl h
  | .bool b, o, u, h => one_at (v := .bool b) rfl rfl h
  | .str s, o, u, h => one_at (v := .str s) rfl rfl h
  | .nilp, o, u, h => one_at (v := .nilp) rfl rfl h
  | .ptr t b p, o, u, h => one_at (v := .ptr t b p) rfl rfl h
  | .pel t b z i p, o, u, h => one_at (v := .pel t b z i p) rfl rfl h
  | .rop a v, o, u, h => one_at (v := .rop a v) rfl rfl h
  | .bsl t b p cap k, o, u, h => one_at (v := .bsl t b p cap k) rfl rfl h
  | .ros a cap k f, o, u, h => one_at (v := .ros a cap k f) rfl rfl h
  | .map t r, o, u, h => one_at (v := .map t r) rfl rfl h
  | .fn f c, o, u, h => one_at (v := .fn f c) rfl rfl h
  | .nilf, o, u, h => one_at (v := .nilf) rfl rfl h
  | .raw x, o, u, h => one_at (v := .raw x) rfl rfl h
where
  one_at {g : Bool} {n : Nat} {v : V} {o : Nat} {u : V} (hs : v.size = 1) (hg : v.isAgg = false) (h : (bif o == 0 && (n == 1 && !g) then some v else none) = some u) :
      u.size = n ∧ u.isAgg = g ∧ o + n ≤ v.size ∧ u.cells = (v.cells.drop o).take n ∧ (v.mem = true → u.mem = true) := by
    cases h1 : (o == 0 && (n == 1 && !g)) with
    | false => simp [h1] at h
    | true =>
      simp only [h1, cond_true, Option.some.injEq] at h
      simp only [Bool.and_eq_true, beq_iff_eq, Bool.not_eq_true'] at h1
      obtain ⟨rfl, rfl, rfl⟩ := h1
      subst h
      refine ⟨hs, hg, by omega, ?_, id⟩
      have := V.cells_length v
      rw [List.drop_zero, List.take_of_length_le (by omega)]

/-- The cells behind a change: those ahead of the place, the new ones, those behind. -/
def splice (l : List Value) (o : Nat) (u : List Value) : List Value := l.take o ++ u ++ l.drop (o + u.length)

theorem splice_length {l : List Value} {o : Nat} {u : List Value} (h : o + u.length ≤ l.length) : (splice l o u).length = l.length := by
  simp [splice]; omega

theorem padset_cells (m : Nat) (xs : List Int) (o : Nat) (k : Int) (h : o < m) : bcells m (padset m xs o k) = splice (bcells m xs) o [.int .u8 k] := by
  apply List.ext_getElem?
  intro i
  have hl : (splice (bcells m xs) o [.int .u8 k]).length = m := by rw [splice_length] <;> simp [bcells_length]; omega
  rcases Nat.lt_or_ge i m with hi | hi
  · rw [bcells_get _ _ _ hi]
    simp only [splice, List.length_singleton]
    rcases Nat.lt_trichotomy i o with h1 | h1 | h1
    · rw [List.append_assoc, List.getElem?_append_left (by simp [bcells_length]; omega), List.getElem?_take_of_lt h1, bcells_get _ _ _ hi]
      congr 1
      simp [padset, List.getD, hi, Nat.ne_of_lt h1]
    · subst h1
      rw [List.append_assoc, List.getElem?_append_right (by simp [bcells_length]; omega)]
      simp [bcells_length, padset, List.getD, hi, Nat.min_eq_left (Nat.le_of_lt h)]
    · rw [List.getElem?_append_right (by simp [bcells_length]; omega), List.getElem?_drop]
      simp only [List.length_append, List.length_take, bcells_length, List.length_singleton, Nat.min_eq_left (Nat.le_of_lt h)]
      rw [show o + 1 + (i - (o + 1)) = i by omega, bcells_get _ _ _ hi]
      congr 1
      simp [padset, List.getD, hi, Nat.ne_of_gt h1]
  · rw [List.getElem?_eq_none (by rw [bcells_length]; exact hi), List.getElem?_eq_none (by omega)]

theorem V.upd_spec {u : V} (hu : u.mem = true) : ∀ {v : V} {o : Nat} {v' : V}, V.upd u v o = some v' →
    v'.size = v.size ∧ v'.isAgg = v.isAgg ∧ o + u.size ≤ v.size ∧ v'.cells = splice v.cells o u.cells ∧ (v.mem = true → v'.mem = true)
  | .pair a b, o, v', h => by
    simp only [V.upd] at h
    cases h1 : (o == 0 && ((V.pair a b).size == u.size && u.isAgg)) with
    | true =>
      simp only [h1, cond_true, Option.some.injEq] at h
      simp only [Bool.and_eq_true, beq_iff_eq] at h1
      obtain ⟨rfl, h2, h3⟩ := h1
      subst h
      have h4 := V.cells_length (V.pair a b)
      have h5 := V.cells_length u
      refine ⟨h2.symm, h3, by omega, ?_, fun _ => hu⟩
      simp only [splice, List.take_zero, List.nil_append, Nat.zero_add]
      rw [List.drop_eq_nil_of_le (by omega), List.append_nil]
    | false =>
      simp only [h1, cond_false] at h
      cases h2 : Nat.ble (o + u.size) a.size with
      | true =>
        simp only [h2, cond_true, Option.map_eq_some_iff] at h
        obtain ⟨a', ha, rfl⟩ := h
        obtain ⟨i1, i2, i3, i4, i5⟩ := V.upd_spec hu ha
        have la := V.cells_length a
        have lu := V.cells_length u
        refine ⟨by simp only [V.size]; omega, rfl, by simp only [V.size]; omega, ?_, ?_⟩
        · simp only [V.cells, i4, splice]
          rw [List.take_append_of_le_length (by omega), List.drop_append_of_le_length (by omega)]
          simp [List.append_assoc]
        · intro hm
          simp only [V.mem, Bool.and_eq_true] at hm ⊢
          exact ⟨i5 hm.1, hm.2⟩
      | false =>
        simp only [h2, cond_false] at h
        cases h3 : Nat.ble a.size o with
        | false => simp [h3] at h
        | true =>
          simp only [h3, cond_true, Option.map_eq_some_iff] at h
          obtain ⟨b', hb, rfl⟩ := h
          have h3' := Nat.le_of_ble_eq_true h3
          obtain ⟨i1, i2, i3, i4, i5⟩ := V.upd_spec hu hb
          have la := V.cells_length a
          have lu := V.cells_length u
          refine ⟨by simp only [V.size]; omega, rfl, by simp only [V.size]; omega, ?_, ?_⟩
          · simp only [V.cells, i4, splice]
            rw [List.take_append, List.take_of_length_le (l := a.cells) (i := o) (by omega), List.drop_append, List.drop_eq_nil_of_le (as := a.cells) (i := o + u.cells.length) (by omega), la]
            simp only [List.nil_append, List.append_assoc]
            rw [show o + u.cells.length - a.size = o - a.size + u.cells.length by omega]
          · intro hm
            simp only [V.mem, Bool.and_eq_true] at hm ⊢
            exact ⟨hm.1, i5 hm.2⟩
  | .bytes m xs, o, v', h => by
    simp only [V.upd] at h
    cases h1 : (o == 0 && (m == u.size && u.isAgg)) with
    | true =>
      simp only [h1, cond_true, Option.some.injEq] at h
      simp only [Bool.and_eq_true, beq_iff_eq] at h1
      obtain ⟨rfl, h2, h3⟩ := h1
      subst h
      have h5 := V.cells_length u
      refine ⟨h2.symm, h3, by simp [V.size]; omega, ?_, fun _ => hu⟩
      simp only [V.cells, splice, List.take_zero, List.nil_append, Nat.zero_add]
      rw [List.drop_eq_nil_of_le (by rw [bcells_length]; omega), List.append_nil]
    | false =>
      simp only [h1, cond_false] at h
      split at h
      · rename_i k
        cases h2 : Nat.blt o m with
        | false => simp [h2] at h
        | true =>
          simp only [h2, cond_true, Option.some.injEq] at h
          subst h
          have h2' : o < m := Nat.le_of_ble_eq_true h2
          refine ⟨rfl, rfl, by simp [V.size]; omega, ?_, fun _ => rfl⟩
          simp only [V.cells]
          exact padset_cells m xs o k h2'
      · cases h
  | .sl t none z i cap k, o, u, h => one_upd hu (v := .sl t none z i cap k) rfl rfl h
  | .sl t (some b) z i cap k, o, u, h => one_upd hu (v := .sl t (some b) z i cap k) rfl rfl h
  | .int k i, o, u, h => one_upd hu (v := .int k i) rfl rfl h
  | .bool b, o, u, h => one_upd hu (v := .bool b) rfl rfl h
  | .str s, o, u, h => one_upd hu (v := .str s) rfl rfl h
  | .nilp, o, u, h => one_upd hu (v := .nilp) rfl rfl h
  | .ptr t b p, o, u, h => one_upd hu (v := .ptr t b p) rfl rfl h
  | .pel t b z i p, o, u, h => one_upd hu (v := .pel t b z i p) rfl rfl h
  | .rop a v, o, u, h => one_upd hu (v := .rop a v) rfl rfl h
  | .bsl t b p cap k, o, u, h => one_upd hu (v := .bsl t b p cap k) rfl rfl h
  | .ros a cap k f, o, u, h => one_upd hu (v := .ros a cap k f) rfl rfl h
  | .map t r, o, u, h => one_upd hu (v := .map t r) rfl rfl h
  | .fn f c, o, u, h => one_upd hu (v := .fn f c) rfl rfl h
  | .nilf, o, u, h => one_upd hu (v := .nilf) rfl rfl h
  | .raw x, o, u, h => one_upd hu (v := .raw x) rfl rfl h
where
  one_upd {u : V} (hu : u.mem = true) {v : V} {o : Nat} {v' : V} (hs : v.size = 1) (hg : v.isAgg = false) (h : (bif o == 0 && (u.size == 1 && !u.isAgg) then some u else none) = some v') :
      v'.size = v.size ∧ v'.isAgg = v.isAgg ∧ o + u.size ≤ v.size ∧ v'.cells = splice v.cells o u.cells ∧ (v.mem = true → v'.mem = true) := by
    cases h1 : (o == 0 && (u.size == 1 && !u.isAgg)) with
    | false => simp [h1] at h
    | true =>
      simp only [h1, cond_true, Option.some.injEq] at h
      simp only [Bool.and_eq_true, beq_iff_eq, Bool.not_eq_true'] at h1
      obtain ⟨rfl, h2, h3⟩ := h1
      subst h
      have l1 := V.cells_length v
      have l2 := V.cells_length u
      refine ⟨by omega, by rw [hg, h3], by omega, ?_, fun _ => hu⟩
      simp only [splice, List.take_zero, List.nil_append, Nat.zero_add]
      rw [List.drop_eq_nil_of_le (by omega), List.append_nil]

/-- The bytes that lie in a value from a place on. -/
def V.byt (n : Nat) : V → Nat → Option (List Int)
  | .pair a b, o => bif Nat.ble (o + n) a.size then a.byt n o else bif Nat.ble a.size o then b.byt n (o - a.size) else none
  | .bytes m xs, o => if o + n ≤ m then some ((List.range n).map fun j => xs.getD (o + j) 0) else none
  | _, _ => none

theorem V.byt_spec {n : Nat} : ∀ {v : V} {o : Nat} {l : List Int}, v.byt n o = some l → l.length = n ∧ o + n ≤ v.size ∧ ∀ j, j < n → v.cells[o + j]? = some (.int .u8 (l.getD j 0))
  | .pair a b, o, l, h => by
    simp only [V.byt] at h
    have la := V.cells_length a
    cases h2 : Nat.ble (o + n) a.size with
    | true =>
      simp only [h2, cond_true] at h
      have h2' := Nat.le_of_ble_eq_true h2
      obtain ⟨i1, i2, i3⟩ := V.byt_spec h
      refine ⟨i1, by simp only [V.size]; omega, fun j hj => ?_⟩
      simp only [V.cells]
      rw [List.getElem?_append_left (by omega)]
      exact i3 j hj
    | false =>
      simp only [h2, cond_false] at h
      cases h3 : Nat.ble a.size o with
      | false => simp [h3] at h
      | true =>
        simp only [h3, cond_true] at h
        have h3' := Nat.le_of_ble_eq_true h3
        obtain ⟨i1, i2, i3⟩ := V.byt_spec h
        refine ⟨i1, by simp only [V.size]; omega, fun j hj => ?_⟩
        simp only [V.cells]
        rw [List.getElem?_append_right (by omega), la, show o + j - a.size = o - a.size + j by omega]
        exact i3 j hj
  | .bytes m xs, o, l, h => by
    simp only [V.byt] at h
    split at h
    · rename_i hle
      simp only [Option.some.injEq] at h
      subst h
      refine ⟨by simp, by simpa [V.size] using hle, fun j hj => ?_⟩
      simp only [V.cells]
      rw [bcells_get _ _ _ (by omega)]
      simp [List.getD, hj]
    · cases h
  | .int _ _, _, _, h | .bool _, _, _, h | .str _, _, _, h | .nilp, _, _, h | .ptr _ _ _, _, _, h | .pel _ _ _ _ _, _, _, h | .rop _ _, _, _, h | .sl _ _ _ _ _ _, _, _, h | .bsl _ _ _ _ _, _, _, h | .ros _ _ _ _, _, _, h
  | .map _ _, _, _, h | .fn _ _, _, _, h | .nilf, _, _, h | .unit, _, _, h | .tup0, _, _, h | .tup2 _ _, _, _, h | .tup3 _ _ _, _, _, h | .raw _, _, _, h => by simp [V.byt] at h

theorem byt_bytes {m : Nat} {xs : List Int} {o n : Nat} (h : o + n ≤ m) : V.byt n (.bytes m xs) o = some ((List.range n).map fun j => xs.getD (o + j) 0) := by simp [V.byt, h]

end Go.Vm
