/- Lists in slices: what a slice value reads, append, literals of slices, copies of strings into arrays; the order of bytes. -/
import Derived.Test.YtimkkhefemnkpaaVm11
namespace Go.Vm

variable {α : Type} [Inhabited α]

abbrev lat (l : List α) (j : Nat) : α := l.getD j default
abbrev lvec (a : Option Nat) (E : TypeId) (z cap : Nat) (e : α → V) (l : List α) : Cell := .vec a E z cap l.length (fun j => e (lat l j))
abbrev lros (a : Option Addr) (cap : Nat) (e : α → V) (l : List α) : V := .ros a cap l.length (fun j => e (lat l j))

/-- What a slice value reads as, in objects H and R. -/
inductive Rd (H R : List (Nat × Cell)) (z : Nat) (e : α → V) : V → List α → Prop
  | own {t b i cap cap' m n : Nat} {T : TypeId} {f : Nat → V} {l : List α} (h : get t H = some (.vec (some b) T z cap' m f)) (hi : i + n ≤ m) (hl : l.length = n) (hf : ∀ j, j < n → f (i + j) = e (lat l j)) :
      Rd H R z e (.sl t (some b) z i cap n) l
  | fro {t b i cap cap' m n : Nat} {T : TypeId} {f : Nat → V} {l : List α} (h : get t R = some (.vec (some b) T z cap' m f)) (hi : i + n ≤ m) (hl : l.length = n) (hf : ∀ j, j < n → f (i + j) = e (lat l j)) :
      Rd H R z e (.sl t (some b) z i cap n) l
  | nil {t z' i cap : Nat} : Rd H R z e (.sl t none z' i cap 0) []
  | any {t cap n : Nat} {a : Option Nat} {T : TypeId} {f : Nat → V} {l : List α} (h : get t H = some (.vec a T z cap n f)) (hl : l.length = n) (hf : ∀ j, j < n → f j = e (lat l j)) : Rd H R z e (.sl t a z 0 cap n) l
  | owa {t i cap cap' m n : Nat} {a : Option Nat} {T : TypeId} {f : Nat → V} {l : List α} (h : get t H = some (.vec a T z cap' m f)) (hi : i + n ≤ m) (hl : l.length = n) (hf : ∀ j, j < n → f (i + j) = e (lat l j)) : Rd H R z e (.sl t a z i cap n) l
  | fra {t i cap cap' m n : Nat} {a : Option Nat} {T : TypeId} {f : Nat → V} {l : List α} (h : get t R = some (.vec a T z cap' m f)) (hi : i + n ≤ m) (hl : l.length = n) (hf : ∀ j, j < n → f (i + j) = e (lat l j)) : Rd H R z e (.sl t a z i cap n) l
  | ros {a : Option Addr} {cap n : Nat} {f : Nat → V} {l : List α} (hl : l.length = n) (hz : ∀ x, (e x).size = z) (hf : ∀ j, j < n → f j = e (lat l j)) : Rd H R z e (.ros a cap n f) l

theorem flat_congr {n : Nat} {f g : Nat → V} (h : ∀ i, i < n → g i = f i) : flat n g = flat n f := by
  unfold flat
  have : (List.range n).map (fun i => (g i).cells) = (List.range n).map (fun i => (f i).cells) := List.map_congr_left fun i hi => by rw [h i (List.mem_range.1 hi)]
  rw [List.flatMap_def, List.flatMap_def, this]

/-- The cells that a slice value stands for. -/
structure News (X : Cx) (w : World) (z : Nat) (e : α → V) (v : V) (l : List α) : Prop where
  real : ∃ ad c, v.real = .slice ad l.length c ∧ (l = [] ∨ ∃ b o, ad = some ⟨b, o, none⟩ ∧ ∀ j u, (flat l.length fun j => e (lat l j))[j]? = some u → w.cell? ⟨b, o + j, none⟩ = some u)
  ok : ∀ j, j < l.length → (e (lat l j)).size = z ∧ (e (lat l j)).mem = true ∧ VOk X.A (e (lat l j))

theorem news_vec {A : Fr} {h : Nat → Option Obj} {w : World} {b i cap z m n : Nat} {T : TypeId} {f : Nat → V} {e : α → V} {l : List α} (hc : CellIn A h (.vec (some b) T z cap m f)) (hw : ∀ o, h b = some o → w.heap[b]? = some o)
    (hi : i + n ≤ m) (hl : l.length = n) (hf : ∀ j, j < n → f (i + j) = e (lat l j)) :
    (∀ j u, (flat l.length fun j => e (lat l j))[j]? = some u → w.cell? ⟨b, i * z + j, none⟩ = some u) ∧ ∀ j, j < l.length → (e (lat l j)).size = z ∧ (e (lat l j)).mem = true ∧ VOk A (e (lat l j)) := by
  obtain ⟨h0, h1, sp, h2, h3⟩ := hc
  have ok : ∀ j, j < l.length → (e (lat l j)).size = z ∧ (e (lat l j)).mem = true ∧ VOk A (e (lat l j)) := fun j hj => by rw [← hf j (by omega)]; exact h1 (i + j) (by omega)
  refine ⟨fun j u hu => ?_, ok⟩
  rw [cell_of (hw _ h2)]
  have hz : ∀ i, i < l.length → ((fun j => e (lat l j)) i).size = z := fun i hi => (ok i hi).1
  have hz' : ∀ i, i < m → (f i).size = z := fun i hi => (h1 i hi).1
  have hlen := flat_length hz
  have hlen' := flat_length hz'
  have hj : j < l.length * z := by
    have := (List.getElem?_eq_some_iff.1 hu).1
    omega
  have hz0 : 0 < z := by
    rcases Nat.eq_zero_or_pos z with h | h
    · subst h; simp at hj
    · exact h
  obtain ⟨q, r, hr, rfl⟩ : ∃ q r, r < z ∧ j = q * z + r := ⟨j / z, j % z, Nat.mod_lt _ hz0, by rw [Nat.mul_comm]; exact (Nat.div_add_mod j z).symm⟩
  have hq : q < l.length := by
    rcases Nat.lt_or_ge q l.length with h | h
    · exact h
    · have : l.length * z ≤ q * z := Nat.mul_le_mul_right z h
      omega
  rw [flat_get hz hq hr] at hu
  have hb : (i + q + 1) * z ≤ m * z := Nat.mul_le_mul_right z (by omega)
  rw [Nat.succ_mul, Nat.add_mul] at hb
  rw [show i * z + (q * z + r) = (i + q) * z + r by rw [Nat.add_mul]; omega, List.getElem?_toArray, List.getElem?_append_left (by rw [hlen', Nat.add_mul]; omega), flat_get hz' (by omega) hr, hf q (by omega)]
  exact hu

theorem Rd.news {X : Cx} {tm : List (Nat × V)} {H R : List (Nat × Cell)} {a : Act} {w : World} {z : Nat} {e : α → V} {v : V} {l : List α} (h : Rd H R z e v l) (s : Sim X ⟨tm, H, R⟩ a w) (hv : VOk X.A v) : News X w z e v l := by
  cases h with
  | own h hi hl hf =>
    obtain ⟨h1, h2⟩ := news_vec (w := w) (s.hp _ _ h).1 (fun _ h => h) hi hl hf
    exact ⟨⟨_, _, by rw [hl]; rfl, .inr ⟨_, _, rfl, h1⟩⟩, h2⟩
  | fro h hi hl hf =>
    obtain ⟨h1, h2⟩ := news_vec (w := w) (s.ro _ _ h) (fun _ h => s.has.cells _ _ h) hi hl hf
    exact ⟨⟨_, _, by rw [hl]; rfl, .inr ⟨_, _, rfl, h1⟩⟩, h2⟩
  | nil => exact ⟨⟨_, _, rfl, .inl rfl⟩, fun j hj => absurd hj (Nat.not_lt_zero j)⟩
  | @any t cap n a T f l h hl hf =>
    cases a with
    | none =>
      have h0 : n = 0 := (s.hp _ _ h).1.1
      subst h0
      have : l = [] := List.eq_nil_of_length_eq_zero hl
      subst this
      exact ⟨⟨_, _, rfl, .inl rfl⟩, fun j hj => absurd hj (Nat.not_lt_zero j)⟩
    | some b =>
      obtain ⟨h1, h2⟩ := news_vec (w := w) (i := 0) (s.hp _ _ h).1 (fun _ h => h) (by omega) hl (fun j hj => by rw [Nat.zero_add]; exact hf j hj)
      exact ⟨⟨_, _, by rw [hl]; rfl, .inr ⟨_, _, rfl, by simpa using h1⟩⟩, h2⟩
  | @owa t i cap cap' m n a T f l h hi hl hf =>
    cases a with
    | none =>
      have h0 : m = 0 := (s.hp _ _ h).1.1
      have : n = 0 := by omega
      subst this
      have : l = [] := List.eq_nil_of_length_eq_zero hl
      subst this
      exact ⟨⟨_, _, rfl, .inl rfl⟩, fun j hj => absurd hj (Nat.not_lt_zero j)⟩
    | some b =>
      obtain ⟨h1, h2⟩ := news_vec (w := w) (s.hp _ _ h).1 (fun _ h => h) hi hl hf
      exact ⟨⟨_, _, by rw [hl]; rfl, .inr ⟨_, _, rfl, h1⟩⟩, h2⟩
  | @fra t i cap cap' m n a T f l h hi hl hf =>
    cases a with
    | none =>
      have h0 : m = 0 := (s.ro _ _ h).1
      have : n = 0 := by omega
      subst this
      have : l = [] := List.eq_nil_of_length_eq_zero hl
      subst this
      exact ⟨⟨_, _, rfl, .inl rfl⟩, fun j hj => absurd hj (Nat.not_lt_zero j)⟩
    | some b =>
      obtain ⟨h1, h2⟩ := news_vec (w := w) (s.ro _ _ h) (fun _ h => s.has.cells _ _ h) hi hl hf
      exact ⟨⟨_, _, by rw [hl]; rfl, .inr ⟨_, _, rfl, h1⟩⟩, h2⟩
  | ros hl hz hf =>
    rename_i ad cap n f
    obtain ⟨h0, h1, h2⟩ := hv
    have ok : ∀ j, j < l.length → (e (lat l j)).size = z ∧ (e (lat l j)).mem = true ∧ VOk X.A (e (lat l j)) := fun j hj => by
      have := h1 j (by omega)
      rw [hf j (by omega)] at this
      exact ⟨hz _, this.2, this.1⟩
    refine ⟨⟨ad, cap, by rw [hl]; rfl, ?_⟩, ok⟩
    rcases h2 with h2 | ⟨ad', c, T, fr, z', rfl, hs, hc, hcell⟩
    · left; subst h2; exact List.eq_nil_of_length_eq_zero hl
    · by_cases hn : n = 0
      · left; subst hn; exact List.eq_nil_of_length_eq_zero hl
      right
      obtain ⟨b, o, sp⟩ := ad'
      simp only at hs; subst hs
      have hzz : z' = z := by have := (hcell 0 (by omega)).1; rw [hf 0 (by omega), hz] at this; exact this.symm
      subst hzz
      refine ⟨b, o, rfl, fun j u hu => ?_⟩
      have hz1 : ∀ i, i < l.length → ((fun j => e (lat l j)) i).size = z' := fun i hi => hz _
      have hlen := flat_length hz1
      have hj : j < l.length * z' := by
        have := (List.getElem?_eq_some_iff.1 hu).1
        omega
      have hz0 : 0 < z' := by
        rcases Nat.eq_zero_or_pos z' with h | h
        · subst h; simp at hj
        · exact h
      obtain ⟨q, r, hr, rfl⟩ : ∃ q r, r < z' ∧ j = q * z' + r := ⟨j / z', j % z', Nat.mod_lt _ hz0, by rw [Nat.mul_comm]; exact (Nat.div_add_mod j z').symm⟩
      have hq : q < l.length := by
        rcases Nat.lt_or_ge q l.length with h | h
        · exact h
        · have : l.length * z' ≤ q * z' := Nat.mul_le_mul_right z' h
          omega
      rw [flat_get hz1 hq hr] at hu
      rw [cell_of (s.has.cells _ _ (s.le.c _ _ hc)), show o + (q * z' + r) = o + q * z' + r by omega, (hcell q (by omega)).2 r hr, hf q (by omega)]
      exact hu

theorem Rd.sub {H R : List (Nat × Cell)} {z : Nat} {e : α → V} {t i cap cap' n : Nat} {a : Option Nat} {T : TypeId} {l : List α} (l' : List α) (h : get t H = some (lvec a T z cap' e l)) (hi : i + n ≤ l.length) (he : l' = (l.drop i).take n) :
    Rd H R z e (.sl t a z i cap n) l' := by
  subst he
  refine .owa h hi (by simp; omega) fun j hj => ?_
  simp [lat, List.getD, List.getElem?_take, hj]
theorem Rd.subR {H R : List (Nat × Cell)} {z : Nat} {e : α → V} {t i cap cap' n : Nat} {a : Option Nat} {T : TypeId} {l : List α} (l' : List α) (h : get t R = some (lvec a T z cap' e l)) (hi : i + n ≤ l.length) (he : l' = (l.drop i).take n) :
    Rd H R z e (.sl t a z i cap n) l' := by
  subst he
  refine .fra h hi (by simp; omega) fun j hj => ?_
  simp [lat, List.getD, List.getElem?_take, hj]

/-! ### append -/

class Ela (P : Program) (T : TypeId) (E : outParam TypeId) (z : outParam Nat) (by' : outParam Nat) : Prop where
  info : ∃ i zv, P.underlying T = some (.slice E) ∧ P.info? E = some i ∧ i.zero = some zv ∧ i.size = z ∧ i.bytes = by' ∧ zv.cells.size = z
  pos : 0 < by'

/-- An object under another name. -/
theorem Sim.rename {X : Cx} {tm : List (Nat × V)} {H R : List (Nat × Cell)} {a : Act} {w : World} (s : Sim X ⟨tm, H, R⟩ a w) {t : Nat} (d : Nat) {c : Cell} (c' : Cell) (hg : get t H = some c) (hc : CLe X.A c c') :
    Sim X ⟨tm, (d, c') :: dropp [t] H, R⟩ a w := by
  have hd : ∀ u c1, get u (dropp [t] H) = some c1 → get u H = some c1 ∧ u ≠ t := fun u c1 h => by
    unfold dropp at h
    rw [get_filter (fun u => !([t].contains u))] at h
    split at h
    · rename_i h1
      exact ⟨h, by simpa using h1⟩
    · cases h
  refine ⟨s.has, s.le, s.size, s.dn, s.tm, fun u c1 h => ?_, fun u u' c1 c2 hne h1 h2 b hb1 hb2 => ?_, s.ro⟩
  · rw [get_cons] at h
    split at h
    · rw [Option.some.injEq] at h
      subst h
      obtain ⟨g1, g2⟩ := s.hp t c hg
      exact ⟨hc.2 _ g1, fun b hb => g2 b (hc.1 b hb)⟩
    · exact s.hp u c1 (hd u c1 h).1
  · rw [get_cons] at h1 h2
    split at h1
    · rename_i e1
      rw [if_neg (fun e2 => hne (e1.trans e2.symm))] at h2
      rw [Option.some.injEq] at h1
      subst h1
      obtain ⟨g1, g2⟩ := hd u' c2 h2
      exact s.dj t u' c c2 (Ne.symm g2) hg g1 b (hc.1 b hb1) hb2
    · split at h2
      · rw [Option.some.injEq] at h2
        subst h2
        obtain ⟨g1, g2⟩ := hd u c1 h1
        exact s.dj u t c1 c g2 g1 hg b hb1 (hc.1 b hb2)
      · exact s.dj u u' c1 c2 hne (hd u c1 h1).1 (hd u' c2 h2).1 b hb1 hb2

/-- Fewer objects. -/
theorem Sim.drop1 {X : Cx} {tm : List (Nat × V)} {H R : List (Nat × Cell)} {a : Act} {w : World} (t d : Nat) {c : Cell} (s : Sim X ⟨tm, (d, c) :: H, R⟩ a w) : Sim X ⟨tm, (d, c) :: dropp [t] H, R⟩ a w := by
  have hd : ∀ u c1, get u ((d, c) :: dropp [t] H) = some c1 → get u ((d, c) :: H) = some c1 := fun u c1 h => by
    rw [get_cons] at h ⊢
    by_cases hu : u = d
    · rw [if_pos hu] at h ⊢; exact h
    · rw [if_neg hu] at h ⊢
      unfold dropp at h
      rw [get_filter (fun u => !([t].contains u))] at h
      split at h
      · exact h
      · cases h
  exact ⟨s.has, s.le, s.size, s.dn, s.tm, fun u c1 h => s.hp u c1 (hd _ _ h), fun u u' c1 c2 hne h1 h2 => s.dj u u' c1 c2 hne (hd _ _ h1) (hd _ _ h2), s.ro⟩

theorem setRow_blk {w : World} {b : Nat} {c cs : Array Value} {T : TypeId} {fr : Nat × Nat} (h : w.heap[b]? = some (.cells c T fr)) : w.setRow b cs = setBlk w b (.cells cs T fr) := by
  obtain ⟨hlt, he⟩ := Array.getElem?_eq_some_iff.1 h
  unfold World.setRow setBlk
  congr 1
  apply Array.ext_getElem?
  intro i
  rw [Array.getElem?_modify]
  by_cases hi : b = i
  · subst hi
    rw [if_pos rfl, h, Array.getElem?_setIfInBounds_self]
    simp [hlt]
  · rw [if_neg hi, Array.getElem?_setIfInBounds_ne hi]

theorem flat_append {e : α → V} (l l' : List α) : flat (l ++ l').length (fun j => e (lat (l ++ l') j)) = flat l.length (fun j => e (lat l j)) ++ flat l'.length (fun j => e (lat l' j)) := by
  have h : ∀ l : List α, flat l.length (fun j => e (lat l j)) = l.flatMap fun x => (e x).cells := fun l => by
    unfold flat
    have : l = (List.range l.length).map (fun i => lat l i) := by
      apply List.ext_getElem?
      intro i
      by_cases hi : i < l.length
      · simp [hi, lat, List.getD]
      · simp [hi]
    conv => rhs; rw [this]
    rw [List.flatMap_map]
  rw [h, h, h, List.flatMap_append]

section
variable {X : Cx} {tm : List (Nat × V)} {H R : List (Nat × Cell)} {pos : String} {ty : TypeId} {af : Array Edge} {gd : Option (Nat × Bool)} {Kn : St → Prop} {d : Nat}

theorem append_call {P : Program} {ρ : Operand → Value} {x y : Operand} {T : TypeId} {w w' : World} {v : Value} (h : (Builtin.append_ #[T, T] ty #[ρ x, ρ y]).run P w = .ok v w') :
    (execOp ρ ⟨some d, .call ⟨.builtin .append, #[x, y], #[T, T]⟩, ty, pos, af, gd⟩).run P w = .ok (.value v) w' := by
  simp only [execOp, resolve, invoke, builtin, Sem.run_bind, Sem.run_pure, Result.andThen_ok, List.map_toArray, List.map_cons, List.map_nil, h]

theorem Ex.appendC {T E : TypeId} {z by' : Nat} [q : Ela X.P T E z by'] {x y : Operand} {t cap : Nat} {a : Option Nat} {e : α → V} {l l' : List α} {v : V} (hd : Nat.blt d X.N = true)
    (hx : ∀ ac w, Sim X ⟨tm, H, R⟩ ac w → ac.eval x = (V.sl t a z 0 cap l.length).real) (hg : get t H = some (lvec a E z cap e l)) (hy : (St.mk tm H R).ev y = some v) (hr : Rd H R z e v l')
    (hb : (l.length + l'.length) * by' ≤ 140737488355328)
    (k : ∀ a' cap', Kn ⟨(d, .sl d a' z 0 cap' (l ++ l').length) :: tm, (d, lvec a' E z cap' e (l ++ l')) :: dropp [t] H, R⟩) :
    Ex X ⟨some d, .call ⟨.builtin .append, #[x, y], #[T, T]⟩, ty, pos, af, gd⟩ ⟨tm, H, R⟩ Kn := by
  intro ac w s next Q hn
  have e1 := hx ac w s
  obtain ⟨e2, hv⟩ := s.ev hy
  obtain ⟨⟨ad, c, e3, h3⟩, h4⟩ := hr.news s hv
  obtain ⟨i, zv, ht, hi, hz, hs, hby, hzs⟩ := q.info
  have hpos := q.pos
  have hd' := Nat.le_of_ble_eq_true hd
  have hle : l.length + l'.length ≤ 140737488355328 := Nat.le_trans (Nat.le_mul_of_pos_right _ hpos) hb
  obtain ⟨g1, g2⟩ := s.hp t _ hg
  have fin : ∀ (a' : Option Nat) cap' w', (execOp ac.eval ⟨some d, .call ⟨.builtin .append, #[x, y], #[T, T]⟩, ty, pos, af, gd⟩).run X.P w = .ok (.value (V.sl d a' z 0 cap' (l ++ l').length).real) w' →
      Sim X ⟨tm, (d, lvec a' E z cap' e (l ++ l')) :: dropp [t] H, R⟩ ac w' → Oper.wp X.P ⟨some d, .call ⟨.builtin .append, #[x, y], #[T, T]⟩, ty, pos, af, gd⟩ ac w next Q := fun a' cap' w' hr s' => by
    unfold Oper.wp
    rw [hr]
    exact hn _ _ _ (k a' cap') (s'.put trivial hd')
  by_cases hl' : l' = []
  · subst hl'
    have hlen : l.length ≤ cap := by
      cases a with
      | none => rw [g1.1]; omega
      | some b => exact g1.1
    have ec : lvec a E z cap e (l ++ []) = lvec a E z cap e l := by rw [List.append_nil]
    refine fin a cap w ?_ ?_
    · refine append_call ?_
      rw [e1, e2, e3]
      cases a with
      | none =>
        have : l = [] := List.eq_nil_of_length_eq_zero g1.1
        subst this
        simp [Builtin.append_, run_underlying ht, sizeOf, typeInfo, hi, Builtin.lenOf, Builtin.firstCells, loadCells, loadCellsFrom, V.real]
        cases ad <;> simp [loadCellsFrom]
      | some b =>
        simp [Builtin.append_, run_underlying ht, sizeOf, typeInfo, hi, Builtin.lenOf, hlen, Builtin.firstCells, V.real]
        cases ad <;> simp [loadCells, loadCellsFrom, storeCells]
    · rw [ec]
      exact s.rename d _ hg (CLe.refl _ _)
  · rcases h3 with h3 | ⟨b', o', rfl, hcell⟩
    · exact absurd h3 hl'
    have hm0 : 0 < l'.length := List.length_pos_iff.2 hl'
    have hzl' : ∀ j, j < l'.length → ((fun j => e (lat l' j)) j).size = z := fun j hj => (h4 j hj).1
    have hnl : (flat l'.length fun j => e (lat l' j)).length = l'.length * i.size := by rw [flat_length hzl', hs]
    have hnews : ∀ j u, (flat l'.length fun j => e (lat l' j))[j]? = some u → w.cell? ((⟨b', o', none⟩ : Addr).add j) = some u := fun j u hu => by rw [add_none]; exact hcell j u hu
    have hone : ∀ u ∈ (flat l'.length fun j => e (lat l' j)), u.oneCell' = true := fun u hu => by
      unfold flat at hu
      rw [List.mem_flatMap] at hu
      obtain ⟨j, hj, hu⟩ := hu
      exact V.oneCell_cells (h4 j (List.mem_range.1 hj)).2.1 u hu
    have hel : (l ++ l').length = l.length + l'.length := List.length_append
    have ok' : (∀ j, j < l.length → (e (lat l j)).size = z ∧ (e (lat l j)).mem = true ∧ VOk X.A (e (lat l j))) → ∀ j, j < (l ++ l').length → (e (lat (l ++ l') j)).size = z ∧ (e (lat (l ++ l') j)).mem = true ∧ VOk X.A (e (lat (l ++ l') j)) := fun h j hj => by
      by_cases hjl : j < l.length
      · have : lat (l ++ l') j = lat l j := by simp [lat, List.getD, List.getElem?_append_left hjl]
        rw [this]; exact h j hjl
      · have : lat (l ++ l') j = lat l' (j - l.length) := by simp only [lat, List.getD]; rw [List.getElem?_append_right (by omega)]
        rw [this]; exact h4 _ (by omega)
    -- what a new row holds
    have grown : ∀ (old : Nat), (∀ j, j < l.length → (e (lat l j)).size = z ∧ (e (lat l j)).mem = true ∧ VOk X.A (e (lat l j))) →
        (execOp ac.eval ⟨some d, .call ⟨.builtin .append, #[x, y], #[T, T]⟩, ty, pos, af, gd⟩).run X.P w = .ok (.value (.slice (some ⟨w.heap.size, 0, none⟩) (l.length + l'.length) (grownCap w (l.length + l'.length) old E)))
          (w.drew.alloc (.cells ((flat l.length fun j => e (lat l j)).toArray ++ (flat l'.length fun j => e (lat l' j)).toArray ++ Builtin.zeroCells zv.cells (grownCap w (l.length + l'.length) old E - (l.length + l'.length))) E)) →
        Oper.wp X.P ⟨some d, .call ⟨.builtin .append, #[x, y], #[T, T]⟩, ty, pos, af, gd⟩ ac w next Q := fun old okl hr => by
      have hge := grownCap_ge w (l.length + l'.length) old E
      refine fin (some w.heap.size) (grownCap w (l.length + l'.length) old E) _ (by rw [hel]; simp only [V.real, Nat.zero_mul]; exact hr) ?_
      · have s1 : Sim X ⟨tm, H, R⟩ ac w.drew := s.drew
        refine Sim.drop1 t d (Sim.alloc (w := w.drew) s1 d _ _ (fun b hb => by simpa [Cell.blk, eq_comm] using hb) fun h hh => ?_)
        refine ⟨by rw [hel]; exact hge, ok' okl, (Builtin.zeroCells zv.cells (grownCap w (l.length + l'.length) old E - (l.length + l'.length))).toList, ?_, ?_⟩
        · rw [flat_append]
          have : h w.heap.size = _ := hh
          rw [this]
          simp
        · have := size_zeroCells zv.cells (grownCap w (l.length + l'.length) old E - (l.length + l'.length))
          rw [hel]
          have e2 : (Builtin.zeroCells zv.cells (grownCap w (l.length + l'.length) old E - (l.length + l'.length))).toList.length = _ := (Array.length_toList).trans this
          rw [e2, hzs, ← Nat.add_mul]
          congr 1; omega
    cases a with
    | none =>
      obtain ⟨g1, rfl⟩ := g1
      have hl : l = [] := List.eq_nil_of_length_eq_zero g1
      subst hl
      refine grown 0 (fun j hj => absurd hj (Nat.not_lt_zero j)) (append_call ?_)
      rw [e1, e2, e3]
      have := run_append_nil (P := X.P) w T ty E i zv ht hi hz ⟨b', o', none⟩ l'.length c _ hnl hnews hm0 (by omega) (by rw [hby]; have := hb; simp only [List.length_nil, Nat.zero_add] at this; omega)
      simpa [V.real, flat] using this
    | some b =>
      obtain ⟨hcap, okl, sp, hblk, hsp⟩ := g1
      have hzl : ∀ j, j < l.length → ((fun j => e (lat l j)) j).size = z := fun j hj => (okl j hj).1
      have hfl := flat_length hzl
      have hcur : ∀ j u, (flat l.length fun j => e (lat l j))[j]? = some u → w.cell? ((⟨b, 0, none⟩ : Addr).add j) = some u := fun j u hu => by
        rw [add_none, Nat.zero_add, cell_of hblk, List.getElem?_toArray, List.getElem?_append_left (List.getElem?_eq_some_iff.1 hu).1]
        exact hu
      by_cases hroom : l.length + l'.length ≤ cap
      · have hsz : (l.length + l'.length) * z ≤ cap * z := Nat.mul_le_mul_right z hroom
        rw [Nat.add_mul] at hsz
        have hlen2 : (flat l'.length fun j => e (lat l' j)).length ≤ sp.length := by rw [hnl, hs]; omega
        have hr := run_append_room (P := X.P) w T ty E i ht hi b l.length cap _ hblk ⟨b', o', none⟩ l'.length c _ hnl hnews hone hroom (by rw [hnl, hs, List.size_toArray, List.length_append, hfl]; omega)
        rw [setRow_blk hblk] at hr
        have ecur : ((flat l.length fun j => e (lat l j)) ++ sp).toArray.toList.take (l.length * i.size) ++ (flat l'.length fun j => e (lat l' j)) ++ ((flat l.length fun j => e (lat l j)) ++ sp).toArray.toList.drop (l.length * i.size + (flat l'.length fun j => e (lat l' j)).length) =
            (flat (l ++ l').length fun j => e (lat (l ++ l') j)) ++ sp.drop (flat l'.length fun j => e (lat l' j)).length := by
          rw [flat_append, hs, List.toList_toArray, List.take_append_of_le_length (by rw [hfl]; exact Nat.le_refl _), List.take_of_length_le (by rw [hfl]; exact Nat.le_refl _), List.drop_append, hfl]
          have : (flat l.length fun j => e (lat l j)).drop (l.length * z + (flat l'.length fun j => e (lat l' j)).length) = [] := List.drop_eq_nil_of_le (by omega)
          rw [this, List.nil_append]
          congr 2; omega
        rw [ecur] at hr
        refine fin (some b) cap _ (append_call (by
          rw [e1, e2, e3, hel]
          simp only [V.real, Nat.zero_mul]
          exact hr)) ?_
        · have s1 := Sim.set s hg rfl (lvec (some b) E z cap e (l ++ l')) (.cells ((flat (l ++ l').length fun j => e (lat (l ++ l') j)) ++ sp.drop (flat l'.length fun j => e (lat l' j)).length).toArray E (0, 0)) (fun k hk => by simpa [Cell.blk, eq_comm] using hk) (fun h hh => by
            refine ⟨by rw [hel]; exact hroom, ok' okl, _, hh, ?_⟩
            rw [List.length_drop, hnl, hs, hel, Nat.add_mul]
            omega)
          have s2 := s1.rename (t := t) d (lvec (some b) E z cap e (l ++ l')) (by rw [get_cons, if_pos rfl]) (CLe.refl _ _)
          have ed : dropp [t] ((t, lvec (some b) E z cap e (l ++ l')) :: H) = dropp [t] H := by simp [dropp]
          rw [ed] at s2
          exact s2
      · refine grown cap okl (append_call ?_)
        rw [e1, e2, e3]
        have := run_append_grow (P := X.P) w T ty E i zv ht hi hz ⟨b, 0, none⟩ l.length cap _ (by rw [hfl, hs]) hcur ⟨b', o', none⟩ l'.length c _ hnl hnews (by omega) (by omega) (growslice_fits (by omega) (by rw [hby]; exact hb))
        simpa [V.real] using this


theorem Ex.append {T E : TypeId} {z by' : Nat} [q : Ela X.P T E z by'] {x y : Operand} {t cap : Nat} {a : Option Nat} {e : α → V} {l l' : List α} {v : V} (hd : Nat.blt d X.N = true)
    (hx : (St.mk tm H R).ev x = some (.sl t a z 0 cap l.length)) (hg : get t H = some (lvec a E z cap e l)) (hy : (St.mk tm H R).ev y = some v) (hr : Rd H R z e v l')
    (hb : (l.length + l'.length) * by' ≤ 140737488355328)
    (k : ∀ a' cap', Kn ⟨(d, .sl d a' z 0 cap' (l ++ l').length) :: tm, (d, lvec a' E z cap' e (l ++ l')) :: dropp [t] H, R⟩) :
    Ex X ⟨some d, .call ⟨.builtin .append, #[x, y], #[T, T]⟩, ty, pos, af, gd⟩ ⟨tm, H, R⟩ Kn := Ex.appendC hd (fun _ _ s => (s.ev hx).1) hg hy hr hb k

theorem Sim.recell {a : Act} {w : World} (s : Sim X ⟨tm, H, R⟩ a w) {t : Nat} {c : Cell} (c' : Cell) (hg : get t H = some c) (hc : CLe X.A c c') : Sim X ⟨tm, (t, c') :: H, R⟩ a w := by
  refine ⟨s.has, s.le, s.size, s.dn, s.tm, fun u c1 h => ?_, fun u u' c1 c2 hne h1 h2 b hb1 hb2 => ?_, s.ro⟩
  · rw [get_cons] at h
    split at h
    · rename_i e
      rw [Option.some.injEq] at h
      subst h; subst e
      obtain ⟨k1, k2⟩ := s.hp _ _ hg
      exact ⟨hc.2 _ k1, fun b hb => k2 b (hc.1 b hb)⟩
    · exact s.hp u c1 h
  · rw [get_cons] at h1 h2
    split at h1
    · rename_i e1
      rw [if_neg (fun e2 => hne (e1.trans e2.symm))] at h2
      rw [Option.some.injEq] at h1
      subst h1; subst e1
      exact s.dj _ u' c c2 hne hg h2 b (hc.1 b hb1) hb2
    · split at h2
      · rename_i e2
        rw [Option.some.injEq] at h2
        subst h2; subst e2
        exact s.dj u _ c1 c hne h1 hg b hb1 (hc.1 b hb2)
      · exact s.dj u u' c1 c2 hne h1 h2 b hb1 hb2

/-- Onto a slice of no length. -/
theorem Ex.append0 {T E : TypeId} {z by' : Nat} [q : Ela X.P T E z by'] {x y : Operand} {t cap : Nat} {a : Option Nat} {f : Nat → V} (e : α → V) {l' : List α} {v : V} (hd : Nat.blt d X.N = true)
    (hx : (St.mk tm H R).ev x = some (.sl t a z 0 cap 0)) (hg : get t H = some (.vec a E z cap 0 f)) (hy : (St.mk tm H R).ev y = some v) (hr : Rd H R z e v l')
    (hb : l'.length * by' ≤ 140737488355328)
    (k : ∀ a' cap', Kn ⟨(d, .sl d a' z 0 cap' l'.length) :: tm, (d, lvec a' E z cap' e l') :: dropp [t] H, R⟩) :
    Ex X ⟨some d, .call ⟨.builtin .append, #[x, y], #[T, T]⟩, ty, pos, af, gd⟩ ⟨tm, H, R⟩ Kn := by
  intro ac w s next Q hn
  have s' := s.recell (lvec a E z cap e []) hg ⟨fun _ h => h, fun h hh => by
    cases a with
    | none => exact hh
    | some b =>
      obtain ⟨h0, h1, sp, h2, h3⟩ := hh
      exact ⟨h0, fun i hi => absurd hi (Nat.not_lt_zero i), sp, by simpa [flat] using h2, h3⟩⟩
  have hr' : Rd ((t, lvec a E z cap e []) :: H) R z e v l' := by
    cases hr with
    | @own u b' i cap1 cap2 m n T f1 _ h hi hl hf =>
      by_cases hu : u = t
      · subst hu
        rw [hg, Option.some.injEq] at h
        cases h
        have hn : n = 0 := by omega
        have h0 : i = 0 := by omega
        subst hn; subst h0
        exact .own ((get_cons _ _ _ _).trans (if_pos rfl)) (Nat.le_refl _) hl (fun j hj => absurd hj (Nat.not_lt_zero j))
      · exact .own (by rw [get_cons, if_neg hu]; exact h) hi hl hf
    | fro h hi hl hf => exact .fro h hi hl hf
    | nil => exact .nil
    | @any u cap1 n a1 T f1 _ h hl hf =>
      by_cases hu : u = t
      · subst hu
        rw [hg, Option.some.injEq] at h
        cases h
        exact .any ((get_cons _ _ _ _).trans (if_pos rfl)) hl (fun j hj => absurd hj (Nat.not_lt_zero j))
      · exact .any (by rw [get_cons, if_neg hu]; exact h) hl hf
    | @owa u i cap1 cap2 m n a1 T f1 _ h hi hl hf =>
      by_cases hu : u = t
      · subst hu
        rw [hg, Option.some.injEq] at h
        cases h
        have hn : n = 0 := by omega
        have h0 : i = 0 := by omega
        subst hn; subst h0
        exact .owa ((get_cons _ _ _ _).trans (if_pos rfl)) (Nat.le_refl _) hl (fun j hj => absurd hj (Nat.not_lt_zero j))
      · exact .owa (by rw [get_cons, if_neg hu]; exact h) hi hl hf
    | fra h hi hl hf => exact .fra h hi hl hf
    | ros hl hz hf => exact .ros hl hz hf
  refine Ex.appendC (a := a) (e := e) (l := []) (l' := l') (t := t) (cap := cap) (Kn := Kn) hd (fun ac w s1 => ?_) (by rw [get_cons, if_pos rfl]) (v := v) ?_ hr' (by simpa using hb) (fun a' cap' => ?_) ac w s' next Q hn
  · exact (s1.ev (x := x) (v := .sl t a z 0 cap 0) (by cases x <;> exact hx)).1
  · cases y <;> exact hy
  · have e1 : dropp [t] ((t, lvec a E z cap e []) :: H) = dropp [t] H := by simp [dropp]
    rw [e1]
    exact k a' cap'

/-- A name that is not in use. -/
def fresh : List (Nat × Cell) → Nat
  | [] => 0
  | x :: r => max (x.1 + 1) (fresh r)

theorem fresh_none : ∀ (H : List (Nat × Cell)) (t : Nat), fresh H ≤ t → get t H = none
  | [], _, _ => rfl
  | (u, c) :: r, t, h => by
    rw [get_cons, if_neg (by simp only [fresh] at h; omega)]
    exact fresh_none r t (by simp only [fresh] at h; omega)

theorem dropp_fresh : ∀ (H : List (Nat × Cell)) (t : Nat), fresh H ≤ t → dropp [t] H = H
  | [], _, _ => rfl
  | (u, c) :: r, t, h => by
    have hu : (([t] : List Nat).contains u) = false := by
      simp only [List.contains_cons, List.contains_nil, Bool.or_false, beq_eq_false_iff_ne, ne_eq]
      simp only [fresh] at h; omega
    unfold dropp
    rw [List.filter_cons_of_pos (by simp only [hu, Bool.not_false])]
    congr 1
    exact dropp_fresh r t (by simp only [fresh] at h; omega)

/-- Onto nil. -/
theorem Ex.appendNil {T E : TypeId} {z by' : Nat} [q : Ela X.P T E z by'] {x y : Operand} {t z0 i0 : Nat} (e : α → V) {l' : List α} {v : V} (hd : Nat.blt d X.N = true)
    (hx : (St.mk tm H R).ev x = some (.sl t none z0 i0 0 0)) (hy : (St.mk tm H R).ev y = some v) (hr : Rd H R z e v l')
    (hb : l'.length * by' ≤ 140737488355328) 
    (k : ∀ a' cap', Kn ⟨(d, .sl d a' z 0 cap' l'.length) :: tm, (d, lvec a' E z cap' e l') :: H, R⟩) :
    Ex X ⟨some d, .call ⟨.builtin .append, #[x, y], #[T, T]⟩, ty, pos, af, gd⟩ ⟨tm, H, R⟩ Kn := by
  intro ac w s next Q hn
  have hf := fresh_none H (fresh H) (Nat.le_refl _)
  have s' : Sim X ⟨tm, (fresh H, lvec none E z 0 e []) :: H, R⟩ ac w := by
    refine ⟨s.has, s.le, s.size, s.dn, s.tm, fun u c hg => ?_, fun u u' c c' hne h1 h2 b hb1 hb2 => ?_, s.ro⟩
    · rw [get_cons] at hg
      split at hg
      · rw [Option.some.injEq] at hg
        subst hg
        exact ⟨⟨rfl, rfl⟩, fun b hb => by simp [Cell.blk] at hb⟩
      · exact s.hp u c hg
    · rw [get_cons] at h1 h2
      split at h1
      · rw [Option.some.injEq] at h1
        subst h1
        simp [Cell.blk] at hb1
      · split at h2
        · rw [Option.some.injEq] at h2
          subst h2
          simp [Cell.blk] at hb2
        · exact s.dj u u' c c' hne h1 h2 b hb1 hb2
  have hget : ∀ t c, get t H = some c → get t ((fresh H, lvec none E z 0 e []) :: H) = some c := fun t c hg => by
    rw [get_cons, if_neg (fun e => by rw [e, hf] at hg; cases hg)]
    exact hg
  have hr' : Rd ((fresh H, lvec none E z 0 e []) :: H) R z e v l' := by
    cases hr with
    | own h hi hl hf => exact .own (hget _ _ h) hi hl hf
    | fro h hi hl hf => exact .fro h hi hl hf
    | nil => exact .nil
    | any h hl hf => exact .any (hget _ _ h) hl hf
    | owa h hi hl hf => exact .owa (hget _ _ h) hi hl hf
    | fra h hi hl hf => exact .fra h hi hl hf
    | ros hl hz hf => exact .ros hl hz hf
  refine Ex.appendC (a := none) (e := e) (l := []) (l' := l') (t := fresh H) (cap := 0) (Kn := Kn) hd (fun ac w s1 => ?_) (by rw [get_cons, if_pos rfl]) (v := v) ?_ hr' (by simpa using hb) (fun a' cap' => ?_) ac w s' next Q hn
  · exact (s1.ev (x := x) (v := .sl t none z0 i0 0 0) (by cases x <;> exact hx)).1
  · cases y <;> exact hy
  · have e1 : dropp [fresh H] ((fresh H, lvec none E z 0 e []) :: H) = H := by
      have : dropp [fresh H] ((fresh H, lvec none E z 0 e []) :: H) = dropp [fresh H] H := by simp [dropp]
      rw [this, dropp_fresh _ _ (Nat.le_refl _)]
    rw [e1]
    exact k a' cap'

end
end Go.Vm
