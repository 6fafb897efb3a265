/- Maps. -/
import Derived.Test.YtimkkhefemnkpaaVm13
import Derived.MapKept
import Derived.RangeFuncRecord
import Derived.WideKeyRuns
namespace Go.Vm

/-! ### keys that may be -/

class ChkV (P : Program) (T : TypeId) (v : V) (k : outParam Nat) : Prop where
  run : ∀ em d w, k ≤ d → (Instr.checkKey em d T v.real).run P w = .ok () w
  sh : ∃ g n, Ty P T g n ∧ v.size = n ∧ v.isAgg = g
  m : v.mem = true

theorem ChkV.int {P : Program} {T : TypeId} {q k : IntKind} {a : Int} (ty : Ty P T false 1) (u : P.underlying T = some (.int q)) : ChkV P T (.int k a) 1 where
  run em d w hd := by
    obtain ⟨d, rfl⟩ : ∃ e, d = e + 1 := ⟨d - 1, by omega⟩
    simp [Instr.checkKey, underlying, u, V.real]
  sh := ⟨_, _, ty, rfl, rfl⟩
  m := rfl

theorem chkBytes_loop {P : Program} {em : Bool} {d E n : Nat} {q : IntKind} {xs : List Int} (te : Ty P E false 1) (ue : P.underlying E = some (.int q)) : ∀ (l : List Nat) (w : World), (∀ i ∈ l, i < n) →
    (forIn l PUnit.unit fun i (_ : PUnit) => do
      let s ← sizeOf E
      let a ← part E (bcells n xs).toArray (i * s)
      Instr.checkKey em (d + 1) E a
      pure (ForInStep.yield PUnit.unit) : Sem PUnit).run P w = .ok PUnit.unit w
  | [], w, _ => by simp
  | i :: l, w, h => by
    have hi := h i (by simp)
    have e1 := bcells_get n xs i hi
    have p1 : (part E (bcells n xs).toArray (i * 1)).run P w = .ok (.int .u8 (xs.getD i 0)) w := by
      simp only [part, Sem.run_bind, te.agg, Result.andThen_ok, Bool.false_eq_true, if_false, Nat.mul_one, List.getElem?_toArray, e1, Sem.run_pure]
    have p3 : (Instr.checkKey em (d + 1) E (.int .u8 (xs.getD i 0))).run P w = .ok () w := by simp [Instr.checkKey, underlying, ue]
    rw [List.forIn_cons]
    simp only [Sem.run_bind, te.size, p1, p3, Result.andThen_ok, Sem.run_pure]
    exact chkBytes_loop (em := em) (d := d) (n := n) (xs := xs) te ue l w (fun j hj => h j (by simp [hj]))

theorem ChkV.bytes {P : Program} {T E n : TypeId} {q : IntKind} {xs : List Int} (ty : Ty P T true n) (te : Ty P E false 1) (u : P.underlying T = some (.array n E)) (ue : P.underlying E = some (.int q)) : ChkV P T (.bytes n xs) 2 where
  run em d w hd := by
    obtain ⟨d, rfl⟩ : ∃ e, d = e + 2 := ⟨d - 2, by omega⟩
    show (Instr.checkKey em (d + 1 + 1) T (.agg (bcells n xs).toArray)).run P w = _
    have us : (underlying T).run P w = .ok (.array n E) w := by simp [underlying, u]
    rw [Instr.checkKey]
    simp only [Sem.run_bind, us, Result.andThen_ok, Std.Legacy.Range.forIn_eq_forIn_range']
    have hl := chkBytes_loop (em := em) (d := d) (n := n) (xs := xs) te ue (List.range' 0 n) w (fun i hi => by simpa using hi)
    have hr : List.range' 0 ([:n] : Std.Legacy.Range).size = List.range' 0 n := by simp [Std.Legacy.Range.size]
    rw [hr, hl]
    rfl
  sh := ⟨_, _, ty, rfl, rfl⟩
  m := rfl

def ChkF (P : Program) (fs : List Field) (off : Nat) (u : V) (k m : Nat) : Prop :=
  u.size = m ∧ u.mem = true ∧ ∀ (xs : List Value), xs.drop off = u.cells → ∀ em d w, k ≤ d →
    (forIn fs PUnit.unit fun f (_ : PUnit) => (if f.name ≠ "_" then do Instr.checkKey em d f.type (← part f.type xs.toArray f.offset); pure (ForInStep.yield PUnit.unit) else pure (ForInStep.yield PUnit.unit) : Sem (ForInStep PUnit))).run P w = .ok PUnit.unit w

theorem ChkF.one {P : Program} {f : Field} {T off k n : Nat} {g : Bool} {u : V} (hT : f.type = T) (ho : f.offset = off) (h : ChkV P T u k) (t : Ty P T g n) : ChkF P [f] off u k n := by
  subst hT
  obtain ⟨g, n', ty, s1, g1⟩ := h.sh
  have e := ty.uniq t
  subst e
  refine ⟨s1, h.m, fun xs hx em d w hd => ?_⟩
  have p1 := part_of (w := w) ty (cs := xs) (off := off) (u := u) (r := []) (by simpa using hx) s1 g1 h.m
  rw [List.forIn_cons]
  split <;> simp [ho, p1, h.run em d w hd]

theorem ChkF.cons {P : Program} {f : Field} {fs : List Field} {T off k k' n m : Nat} {g : Bool} {u v : V} (hT : f.type = T) (ho : f.offset = off) (h : ChkV P T u k) (t : Ty P T g n)
    (r : ChkF P fs (off + n) v k' m) : ChkF P (f :: fs) off (.pair u v) (max k k') (n + m) := by
  subst hT
  obtain ⟨r5, r1, r3⟩ := r
  obtain ⟨g, n', ty, s1, g1⟩ := h.sh
  have e := ty.uniq t
  subst e
  refine ⟨by simp [V.size, s1, r5], by simp [V.mem, h.m, r1], fun xs hx em d w hd => ?_⟩
  simp only [V.cells] at hx
  have l1 := V.cells_length u
  have p1 := part_of (w := w) ty (cs := xs) (off := off) (u := u) (r := v.cells) hx s1 g1 h.m
  have q1 : xs.drop (off + n') = v.cells := by rw [← List.drop_drop, hx, List.drop_left' (by omega)]
  have hr := r3 xs q1 em d w (by omega)
  rw [List.forIn_cons]
  split
  · simp only [Sem.run_bind, ho, p1, Result.andThen_ok, h.run em d w (by omega), Sem.run_pure]
    exact hr
  · simp only [Sem.run_bind, Result.andThen_ok, Sem.run_pure]
    exact hr

theorem ChkV.struct {P : Program} {T : TypeId} {u : V} {k n : Nat} {fs : List Field} (ty : Ty P T true n) (ht : P.underlying T = some (.struct (P.fieldsOf T))) (hf : (P.fieldsOf T).toList = fs)
    (h : ChkF P fs 0 u k n) (g1 : u.isAgg = true) : ChkV P T u (k + 1) where
  run em d w hd := by
    obtain ⟨d, rfl⟩ : ∃ e, d = e + 1 := ⟨d - 1, by omega⟩
    rw [V.real_agg g1, Instr.checkKey]
    have us : (underlying T).run P w = .ok (.struct (P.fieldsOf T)) w := by simp [underlying, ht]
    simp only [Sem.run_bind, us, Result.andThen_ok]
    rw [← Array.forIn_toList, hf, h.2.2 _ (by simp) em d w (by omega)]
    rfl
  sh := ⟨_, _, ty, h.1, g1⟩
  m := h.2.1

/-! ### keys of a map's type, as values of a type of our own -/

class KeyT (P : Program) (T : TypeId) {α : Type} [DecidableEq α] (e : α → V) (ok : outParam (α → Prop)) : Prop where
  chk : ∀ em x w, ok x → (Instr.checkKey em 10000 T (e x).real).run P w = .ok () w
  eq : ∀ x y w, ok x → ok y → (Op.equal T (e x).real (e y).real).run P w = .ok (decide (x = y)) w
  find : ∀ k es w, (Instr.findKey T k es).run P w = (Instr.findAsking T k es).run P w
  bits : ∀ x, ok x → Instr.sameBits 10000 (e x).real (e x).real = true

theorem KeyT.inj {P : Program} {T : TypeId} {α : Type} [DecidableEq α] {e : α → V} {ok : α → Prop} [h : KeyT P T e ok] {x y : α} (hx : ok x) (hy : ok y) (he : (e x).real = (e y).real) : x = y := by
  have h1 := h.eq x y default hx hy
  have h2 := h.eq x x default hx hx
  rw [← he, h2] at h1
  injection h1 with h1
  simpa using h1.symm

theorem sameBits_ints {cs : List Value} (h : ∀ c ∈ cs, ∃ k n, c = .int k n) : Instr.sameBits 10000 (.agg cs.toArray) (.agg cs.toArray) = true := by
  simp only [Instr.sameBits, beq_self_eq_true, Bool.true_and, List.all_eq_true]
  rintro ⟨x, y⟩ hxy
  have : x = y ∧ x ∈ cs := by
    rw [List.mem_iff_getElem] at hxy
    obtain ⟨i, hi, he⟩ := hxy
    simp only [List.getElem_zip, Prod.mk.injEq] at he
    obtain ⟨h1, h2⟩ := he
    exact ⟨h1.symm.trans h2, h1 ▸ List.getElem_mem _⟩
  obtain ⟨rfl, hx⟩ := this
  obtain ⟨k, n, rfl⟩ := h x hx
  simp [Instr.sameBits]


/-! ### maps as lists of keys and values of our own -/

section
variable {α β : Type}

def kvs (e : α → V) (f : β → V) (L : List (α × β)) : List (V × V) := L.map fun x => (e x.1, f x.2)
abbrev mpc (b : Nat) (e : α → V) (f : β → V) (L : List (α × β)) : Cell := .mp b (kvs e f L)
abbrev mitc (b it : Nat) (e : α → V) (f : β → V) (L Lr : List (α × β)) (cur : Option (α × β)) : Cell := .mit b it (kvs e f L) (kvs e f Lr) (cur.map fun x => (e x.1, f x.2))

def KOk (ok : α → Prop) (L : List (α × β)) : Prop := (∀ x ∈ L, ok x.1) ∧ (L.map (·.1)).Nodup

theorem KOk.nil {ok : α → Prop} : KOk ok ([] : List (α × β)) := ⟨by simp, by simp⟩
theorem KOk.perm {ok : α → Prop} {L L' : List (α × β)} (h : KOk ok L) (p : L'.Perm L) : KOk ok L' := ⟨fun x hx => h.1 x (p.mem_iff.1 hx), (p.map _).nodup_iff.2 h.2⟩

theorem perm_map_inv {γ δ : Type} {g : γ → δ} {l1 l2 : List δ} (h : l1.Perm l2) : ∀ L : List γ, l2 = L.map g → ∃ L' : List γ, L'.Perm L ∧ L'.map g = l1 := by
  induction h with
  | nil =>
    intro L h
    have : L = [] := by simpa using h.symm
    exact ⟨[], by simp [this], rfl⟩
  | cons x p ih =>
    intro L h
    cases L with
    | nil => simp at h
    | cons a L =>
      simp only [List.map_cons, List.cons.injEq] at h
      obtain ⟨L', h1, h2⟩ := ih L h.2
      exact ⟨a :: L', h1.cons a, by simp [h.1, h2]⟩
  | swap x y l =>
    intro L h
    cases L with
    | nil => simp at h
    | cons a L =>
      cases L with
      | nil => simp at h
      | cons b L =>
        simp only [List.map_cons, List.cons.injEq] at h
        exact ⟨b :: a :: L, .swap _ _ _, by simp [h.1, h.2.1, h.2.2]⟩
  | trans p q ih1 ih2 =>
    intro L h
    obtain ⟨L', h1, h2⟩ := ih2 L h
    obtain ⟨L'', h3, h4⟩ := ih1 L' h2.symm
    exact ⟨L'', h3.trans h1, h4⟩

def kvR (e : α → V) (f : β → V) (x : α × β) : Value × Value := ((e x.1).real, (f x.2).real)

theorem kvs_real (e : α → V) (f : β → V) (L : List (α × β)) : ((kvs e f L).map fun x => (x.1.real, x.2.real)) = L.map (kvR e f) := by
  simp [kvs, kvR]

theorem MapIs.typed {e : α → V} {f : β → V} {L : List (α × β)} {es : Array MapEntry} {clock : Nat} (h : MapIs (kvs e f L) es clock) : ∃ L' : List (α × β), L'.Perm L ∧ L'.map (kvR e f) = es.toList.map fun e => (e.key, e.val) := by
  have := h.perm
  rw [kvs_real] at this
  exact perm_map_inv this L rfl

section
variable [DecidableEq α]

def alook (k : α) (L : List (α × β)) : Option β := (L.find? fun x => decide (x.1 = k)).map (·.2)
def adel (k : α) (L : List (α × β)) : List (α × β) := L.filter fun x => decide (x.1 ≠ k)
def aput (k : α) (v : β) (L : List (α × β)) : List (α × β) := (k, v) :: adel k L

theorem alook_mem {k : α} {v : β} {L : List (α × β)} (hn : (L.map (·.1)).Nodup) : alook k L = some v ↔ (k, v) ∈ L := by
  unfold alook
  constructor
  · intro h
    rw [Option.map_eq_some_iff] at h
    obtain ⟨x, hx, rfl⟩ := h
    have h1 := List.find?_some hx
    have h2 := List.mem_of_find?_eq_some hx
    simp only [decide_eq_true_eq] at h1
    subst h1
    exact h2
  · intro h
    cases hf : L.find? fun x => decide (x.1 = k) with
    | none =>
      have := List.find?_eq_none.1 hf (k, v) h
      simp at this
    | some x =>
      have h1 := List.find?_some hf
      have h2 := List.mem_of_find?_eq_some hf
      simp only [decide_eq_true_eq] at h1
      have : x = (k, v) := by
        rw [List.nodup_iff_pairwise_ne, List.pairwise_map] at hn
        by_cases hx : x = (k, v)
        · exact hx
        · exfalso
          obtain ⟨i, hi, e1⟩ := List.mem_iff_getElem.1 h2
          obtain ⟨j, hj, e2⟩ := List.mem_iff_getElem.1 h
          rw [List.pairwise_iff_getElem] at hn
          rcases Nat.lt_trichotomy i j with c | c | c
          · exact hn i j hi hj c (by rw [e1, e2, h1])
          · subst c; exact hx (e1.symm.trans e2)
          · exact hn j i hj hi c (by rw [e1, e2, h1])
      simp [this]

theorem alook_none {k : α} {L : List (α × β)} : alook k L = none ↔ ∀ x ∈ L, x.1 ≠ k := by
  unfold alook
  rw [Option.map_eq_none_iff, List.find?_eq_none]
  simp

theorem alook_perm {k : α} {L L' : List (α × β)} (hn : (L.map (·.1)).Nodup) (p : L'.Perm L) : alook k L' = alook k L := by
  have hn' := (p.map (·.1)).nodup_iff.2 hn
  cases h : alook k L with
  | none =>
    rw [alook_none] at h ⊢
    exact fun x hx => h x (p.mem_iff.1 hx)
  | some v =>
    rw [alook_mem hn] at h
    exact (alook_mem hn').2 (p.mem_iff.2 h)

theorem KOk.put {ok : α → Prop} {L : List (α × β)} {k : α} {v : β} (h : KOk ok L) (hk : ok k) : KOk ok (aput k v L) := by
  refine ⟨fun x hx => ?_, ?_⟩
  · rcases List.mem_cons.1 hx with rfl | hx
    · exact hk
    · exact h.1 x (List.mem_filter.1 hx).1
  · simp only [aput, List.map_cons, List.nodup_cons]
    refine ⟨fun hm => ?_, h.2.sublist (List.Sublist.map _ (List.filter_sublist))⟩
    obtain ⟨x, hx, e⟩ := List.mem_map.1 hm
    have := (List.mem_filter.1 hx).2
    simp only [decide_eq_true_eq] at this
    exact this e

theorem KOk.del {ok : α → Prop} {L : List (α × β)} {k : α} (h : KOk ok L) : KOk ok (adel k L) :=
  ⟨fun x hx => h.1 x (List.mem_filter.1 hx).1, h.2.sublist (List.Sublist.map _ (List.filter_sublist))⟩

/-- Where a key lies. -/
theorem find_run {P : Program} {T : TypeId} {e : α → V} {f : β → V} {ok : α → Prop} [q : KeyT P T e ok] {k : α} (hk : ok k) : ∀ {L : List (α × β)} {es : List MapEntry} (i : Nat) (w : World), (∀ x ∈ L, ok x.1) → L.map (kvR e f) = es.map (fun e => (e.key, e.val)) →
    (Instr.findAsking T (e k).real es i).run P w = .ok ((L.findIdx? fun x => decide (x.1 = k)).bind fun j => (L[j]?).map fun x => (i + j, (f x.2).real)) w
  | [], [], i, w, _, _ => by simp [Instr.findAsking]
  | [], _ :: _, _, _, _, h => by simp at h
  | _ :: _, [], _, _, _, h => by simp at h
  | x :: L, en :: es, i, w, ho, h => by
    simp only [List.map_cons, List.cons.injEq, kvR, Prod.mk.injEq] at h
    obtain ⟨⟨h1, h2⟩, h3⟩ := h
    simp only [Instr.findAsking, Sem.run_bind]
    rw [← h1, q.eq k x.1 w hk (ho x (by simp))]
    simp only [Result.andThen_ok]
    by_cases hx : k = x.1
    · subst hx
      simp [List.findIdx?_cons, h2]
    · have hx' : ¬ x.1 = k := fun e => hx e.symm
      simp only [hx, decide_false, Bool.false_eq_true, if_false]
      rw [find_run hk (i + 1) w (fun y hy => ho y (by simp [hy])) h3]
      simp only [List.findIdx?_cons, hx', decide_false, Bool.false_eq_true, if_false]
      cases hf : L.findIdx? fun x => decide (x.1 = k) with
      | none => simp
      | some j => simp [Nat.add_assoc, Nat.add_comm 1 j]

theorem findIdx_some {k : α} {v : β} {L : List (α × β)} (h : alook k L = some v) : ∃ j, (L.findIdx? fun x => decide (x.1 = k)) = some j ∧ L[j]? = some (k, v) := by
  unfold alook at h
  rw [Option.map_eq_some_iff] at h
  obtain ⟨x, hx, rfl⟩ := h
  have h1 := List.find?_some hx
  simp only [decide_eq_true_eq] at h1
  cases hf : L.findIdx? fun x => decide (x.1 = k) with
  | none =>
    rw [List.findIdx?_eq_none_iff] at hf
    have := hf x (List.mem_of_find?_eq_some hx)
    simp [h1] at this
  | some j =>
    refine ⟨j, rfl, ?_⟩
    rw [List.findIdx?_eq_some_iff_getElem] at hf
    obtain ⟨hj, h2, h3⟩ := hf
    have : L.find? (fun x => decide (x.1 = k)) = some L[j] := by
      rw [List.find?_eq_some_iff_getElem]
      exact ⟨h2, j, hj, rfl, fun i hi => by simpa using h3 i hi⟩
    rw [hx, Option.some.injEq] at this
    rw [List.getElem?_eq_getElem hj, ← this, ← h1]

theorem findIdx_none {k : α} {L : List (α × β)} (h : alook k L = none) : (L.findIdx? fun x => decide (x.1 = k)) = none := by
  rw [alook_none] at h
  rw [List.findIdx?_eq_none_iff]
  intro x hx
  simpa using h x hx

theorem perm_at {γ : Type} {L : List γ} {j : Nat} {x : γ} (h : L[j]? = some x) : L.Perm (x :: L.eraseIdx j) := by
  obtain ⟨hj, rfl⟩ := List.getElem?_eq_some_iff.1 h
  rw [List.eraseIdx_eq_take_drop_succ]
  conv => lhs; rw [← List.take_append_drop j L, List.drop_eq_getElem_cons hj]
  exact List.perm_middle

theorem erase_adel {k : α} {v : β} {L : List (α × β)} (hn : (L.map (·.1)).Nodup) {j : Nat} (h : L[j]? = some (k, v)) : (L.eraseIdx j).Perm (adel k L) := by
  have p := perm_at h
  have hn' := (p.map (·.1)).nodup_iff.1 hn
  simp only [List.map_cons, List.nodup_cons] at hn'
  have p2 : (adel k L).Perm (adel k ((k, v) :: L.eraseIdx j)) := p.filter _
  have : adel k ((k, v) :: L.eraseIdx j) = L.eraseIdx j := by
    unfold adel
    rw [List.filter_cons_of_neg (by simp)]
    rw [List.filter_eq_self]
    intro x hx
    simp only [decide_eq_true_eq]
    intro e
    exact hn'.1 (List.mem_map.2 ⟨x, hx, e⟩)
  rw [this] at p2
  exact p2.symm

theorem adel_none {k : α} {L : List (α × β)} (h : alook k L = none) : adel k L = L := by
  rw [alook_none] at h
  exact List.filter_eq_self.2 fun x hx => by simpa using h x hx

end
end

end Go.Vm
