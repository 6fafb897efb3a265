/- States of a call over virtual values, what they say of the world, and the rules for the forms of code. -/
import Derived.Test.YtimkkhefemnkpaaVm1
namespace Go.Vm

/-! ### values that are read out of the frame -/

def VOk (A : Fr) : V → Prop
  | .ros a cap n f => n ≤ cap ∧ (∀ i, i < n → VOk A (f i) ∧ (f i).mem = true) ∧
      (n = 0 ∨ ∃ ad c T fr z, a = some ad ∧ ad.spot = none ∧ A.c ad.block = some (.cells c T fr) ∧
        ∀ i, i < n → (f i).size = z ∧ ∀ j, j < z → c[ad.off + i * z + j]? = (f i).cells[j]?)
  | .rop ad v => VOk A v ∧ v.mem = true ∧ ad.spot = none ∧ ∃ c T fr, A.c ad.block = some (.cells c T fr) ∧ ∀ j, j < v.size → c[ad.off + j]? = v.cells[j]?
  | .pair a b => VOk A a ∧ VOk A b
  | .tup2 a b => VOk A a ∧ VOk A b
  | .tup3 a b c => VOk A a ∧ VOk A b ∧ VOk A c
  | _ => True

theorem VOk.mono {A B : Fr} (h : A.le B) : ∀ {v : V}, VOk A v → VOk B v
  | .ros _ _ _ _, ⟨h0, h1, h2⟩ => ⟨h0, fun i hi => ⟨VOk.mono h (h1 i hi).1, (h1 i hi).2⟩, h2.imp id fun ⟨ad, c, T, fr, z, e, s, hc, hh⟩ => ⟨ad, c, T, fr, z, e, s, h.c _ _ hc, hh⟩⟩
  | .rop _ _, ⟨h1, h2, h3, c, T, fr, hc, hh⟩ => ⟨VOk.mono h h1, h2, h3, c, T, fr, h.c _ _ hc, hh⟩
  | .pair _ _, ⟨h1, h2⟩ => ⟨VOk.mono h h1, VOk.mono h h2⟩
  | .tup2 _ _, ⟨h1, h2⟩ => ⟨VOk.mono h h1, VOk.mono h h2⟩
  | .tup3 _ _ _, ⟨h1, h2, h3⟩ => ⟨VOk.mono h h1, VOk.mono h h2, VOk.mono h h3⟩
  | .int _ _, _ | .bool _, _ | .str _, _ | .nilp, _ | .ptr _ _ _, _ | .pel _ _ _ _ _, _ | .sl _ _ _ _ _ _, _ | .bsl _ _ _ _ _, _ | .map _ _, _ | .fn _ _, _ | .nilf, _ | .unit, _
  | .bytes _ _, _ | .tup0, _ | .raw _, _ => trivial

theorem VOk.at {A : Fr} {g : Bool} {n : Nat} : ∀ {v : V} {o : Nat} {u : V}, VOk A v → v.at g n o = some u → VOk A u
  | .pair a b, o, u, hv, h => by
    simp only [V.at] at h
    cases h1 : (o == 0 && ((V.pair a b).size == n && g)) with
    | true => simp only [h1, cond_true, Option.some.injEq] at h; exact h ▸ hv
    | false =>
      simp only [h1, cond_false] at h
      cases h2 : Nat.ble (o + n) a.size with
      | true => simp only [h2, cond_true] at h; exact VOk.at hv.1 h
      | false =>
        simp only [h2, cond_false] at h
        cases h3 : Nat.ble a.size o with
        | true => simp only [h3, cond_true] at h; exact VOk.at hv.2 h
        | false => simp [h3] at h
  | .bytes m xs, o, u, hv, h => by
    simp only [V.at] at h
    cases h1 : (o == 0 && (m == n && g)) with
    | true => simp only [h1, cond_true, Option.some.injEq] at h; exact h ▸ hv
    | false =>
      simp only [h1, cond_false] at h
      cases h2 : (n == 1 && (!g && Nat.blt o m)) with
      | true => simp only [h2, cond_true, Option.some.injEq] at h; exact h ▸ trivial
      | false => simp [h2] at h
  | .unit, o, u, hv, h => one hv h
  | .sl t none z i cap k, o, u, hv, h => one hv h
  | .sl t (some b) z i cap k, o, u, hv, h => one hv h
  | .int k i, o, u, hv, h => one hv h
  | .bool b, o, u, hv, h => one hv h
  | .str s, o, u, hv, h => one hv h
  | .nilp, o, u, hv, h => one hv h
  | .ptr t b p, o, u, hv, h => one hv h
  | .pel t b z i p, o, u, hv, h => one hv h
  | .rop a v, o, u, hv, h => one hv h
  | .bsl t b p cap k, o, u, hv, h => one hv h
  | .ros a cap k f, o, u, hv, h => one hv h
  | .map t r, o, u, hv, h => one hv h
  | .fn f c, o, u, hv, h => one hv h
  | .nilf, o, u, hv, h => one hv h
  | .raw x, o, u, hv, h => one hv h
where
  one {A : Fr} {v u : V} {c : Bool} (hv : VOk A v) (h : (bif c then some v else none) = some u) : VOk A u := by
    cases c with
    | true => simp only [cond_true, Option.some.injEq] at h; exact h ▸ hv
    | false => cases h

theorem VOk.upd {A : Fr} {u : V} (hu : VOk A u) : ∀ {v : V} {o : Nat} {v' : V}, VOk A v → V.upd u v o = some v' → VOk A v'
  | .pair a b, o, v', hv, h => by
    simp only [V.upd] at h
    cases h1 : (o == 0 && ((V.pair a b).size == u.size && u.isAgg)) with
    | true => simp only [h1, cond_true, Option.some.injEq] at h; exact h ▸ hu
    | false =>
      simp only [h1, cond_false] at h
      cases h2 : Nat.ble (o + u.size) a.size with
      | true =>
        simp only [h2, cond_true, Option.map_eq_some_iff] at h
        obtain ⟨a', ha, rfl⟩ := h
        exact ⟨VOk.upd hu hv.1 ha, hv.2⟩
      | false =>
        simp only [h2, cond_false] at h
        cases h3 : Nat.ble a.size o with
        | true =>
          simp only [h3, cond_true, Option.map_eq_some_iff] at h
          obtain ⟨b', hb, rfl⟩ := h
          exact ⟨hv.1, VOk.upd hu hv.2 hb⟩
        | false => simp [h3] at h
  | .bytes m xs, o, v', hv, h => by
    simp only [V.upd] at h
    cases h1 : (o == 0 && (m == u.size && u.isAgg)) with
    | true => simp only [h1, cond_true, Option.some.injEq] at h; exact h ▸ hu
    | false =>
      simp only [h1, cond_false] at h
      split at h
      · rename_i k
        cases h2 : Nat.blt o m with
        | true => simp only [h2, cond_true, Option.some.injEq] at h; exact h ▸ trivial
        | false => simp [h2] at h
      · cases h
  | .sl t none z i cap k, o, v', _, h => one hu h
  | .sl t (some b) z i cap k, o, v', _, h => one hu h
  | .int k i, o, v', _, h => one hu h
  | .bool b, o, v', _, h => one hu h
  | .str s, o, v', _, h => one hu h
  | .nilp, o, v', _, h => one hu h
  | .ptr t b p, o, v', _, h => one hu h
  | .pel t b z i p, o, v', _, h => one hu h
  | .rop a v, o, v', _, h => one hu h
  | .bsl t b p cap k, o, v', _, h => one hu h
  | .ros a cap k f, o, v', _, h => one hu h
  | .map t r, o, v', _, h => one hu h
  | .fn f c, o, v', _, h => one hu h
  | .nilf, o, v', _, h => one hu h
  | .raw x, o, v', _, h => one hu h
where
  one {A : Fr} {v u : V} {c : Bool} (hv : VOk A v) (h : (bif c then some v else none) = some u) : VOk A u := by
    cases c with
    | true => simp only [cond_true, Option.some.injEq] at h; exact h ▸ hv
    | false => cases h

/-! ### what lies in the call's own blocks -/

inductive Cell where
  | box (b : Nat) (T : TypeId) (v : V)
  | vec (a : Option Nat) (T : TypeId) (z cap n : Nat) (f : Nat → V)
  | mp (b : Nat) (m : List (V × V))
  | ex (b : Nat) (o : Obj)
  | mit (b it : Nat) (m rem : List (V × V)) (cur : Option (V × V))

def Cell.blk : Cell → Nat → Prop
  | .box b _ _, k => k = b
  | .vec a _ _ _ _ _, k => a = some k
  | .mp b _, k => k = b
  | .ex b _, k => k = b
  | .mit b it _ _ _, k => k = b ∨ k = it

def flat (n : Nat) (f : Nat → V) : List Value := (List.range n).flatMap fun i => (f i).cells

/-- The entries of a map, in whatever order; no two keys alike; the births told apart, and below the clock. -/
structure MapIs (m : List (V × V)) (es : Array MapEntry) (clock : Nat) : Prop where
  perm : (es.toList.map fun e => (e.key, e.val)).Perm (m.map fun x => (x.1.real, x.2.real))
  born : (es.toList.map (·.born)).Nodup
  below : ∀ e ∈ es.toList, e.born < clock

def CellIn (A : Fr) (h : Nat → Option Obj) : Cell → Prop
  | .box b T v => h b = some (.cells v.cells.toArray T (0, 0)) ∧ v.mem = true ∧ VOk A v
  | .vec none _ _ cap n _ => n = 0 ∧ cap = 0
  | .vec (some b) T z cap n f => n ≤ cap ∧ (∀ i, i < n → (f i).size = z ∧ (f i).mem = true ∧ VOk A (f i)) ∧
      ∃ sp : List Value, h b = some (.cells (flat n f ++ sp).toArray T (0, 0)) ∧ n * z + sp.length = cap * z
  | .mp b m => (∀ x ∈ m, VOk A x.1 ∧ VOk A x.2) ∧ ∃ es clock, h b = some (.map es clock) ∧ MapIs m es clock
  | .ex b o => h b = some o
  | .mit b it m rem cur => ((∀ x ∈ m, VOk A x.1 ∧ VOk A x.2) ∧ (∀ x ∈ rem, VOk A x.1 ∧ VOk A x.2) ∧ ∀ x, cur = some x → VOk A x.1 ∧ VOk A x.2) ∧ ∃ es clock seen, h b = some (.map es clock) ∧ h it = some (.mapIter (some b) clock seen clock) ∧ MapIs m es clock ∧
      ((es.toList.filter fun en => !seen.contains en.born).map fun e => (e.key, e.val)).Perm (rem.map fun x => (x.1.real, x.2.real)) ∧
      ∀ x, cur = some x → ∃ en ∈ es.toList, seen.back? = some en.born ∧ en.key = x.1.real ∧ en.val = x.2.real

theorem CellIn.blk_some {A : Fr} {h : Nat → Option Obj} : ∀ {c : Cell}, CellIn A h c → ∀ b, c.blk b → ∃ o, h b = some o
  | .box _ _ _, hc, _, hb => ⟨_, hb ▸ hc.1⟩
  | .vec none _ _ _ _ _, _, _, hb => by simp [Cell.blk] at hb
  | .vec (some b') _ _ _ _ _, hc, b, hb => by
    simp only [Cell.blk, Option.some.injEq] at hb
    obtain ⟨_, _, sp, h1, _⟩ := hc
    exact ⟨_, hb ▸ h1⟩
  | .mp _ _, hc, _, hb => by obtain ⟨_, es, clock, h1, _⟩ := hc; exact ⟨_, hb ▸ h1⟩
  | .ex _ _, hc, _, hb => ⟨_, hb ▸ hc⟩
  | .mit _ _ _ _ _, hc, _, hb => by
    obtain ⟨_, es, clock, seen, h1, h2, _⟩ := hc
    rcases hb with rfl | rfl
    · exact ⟨_, h1⟩
    · exact ⟨_, h2⟩

theorem CellIn.congr {A : Fr} {h h' : Nat → Option Obj} : ∀ {c : Cell}, CellIn A h c → (∀ b, c.blk b → h' b = h b) → CellIn A h' c
  | .box _ _ _, hc, e => ⟨(e _ rfl).trans hc.1, hc.2⟩
  | .vec none _ _ _ _ _, hc, _ => hc
  | .vec (some _) _ _ _ _ _, ⟨h0, h1, sp, h2, h3⟩, e => ⟨h0, h1, sp, (e _ rfl).trans h2, h3⟩
  | .mp _ _, ⟨h0, es, clock, h1, h2⟩, e => ⟨h0, es, clock, (e _ rfl).trans h1, h2⟩
  | .ex _ _, hc, e => (e _ rfl).trans hc
  | .mit _ _ _ _ _, ⟨h0, es, clock, seen, h1, h2, h3⟩, e => ⟨h0, es, clock, seen, (e _ (.inl rfl)).trans h1, (e _ (.inr rfl)).trans h2, h3⟩

/-! ### states -/

def get {α : Type} (t : Nat) : List (Nat × α) → Option α
  | [] => none
  | (u, x) :: r => bif Nat.beq t u then some x else get t r

theorem get_cons {α : Type} (t u : Nat) (x : α) (r : List (Nat × α)) : get t ((u, x) :: r) = if t = u then some x else get t r := by
  show (bif Nat.beq t u then some x else get t r) = _
  by_cases h : t = u
  · subst h; simp
  · rw [if_neg h]
    have : Nat.beq t u = false := by
      cases hb : Nat.beq t u with
      | true => exact absurd (Nat.eq_of_beq_eq_true hb) h
      | false => rfl
    simp [this]

structure St where
  tm : List (Nat × V)
  H : List (Nat × Cell)
  R : List (Nat × Cell)

structure Cx where
  P : Program
  A : Fr
  F : Fr
  N : Nat
  D : List Deferred := []

structure Sim (X : Cx) (st : St) (a : Act) (w : World) : Prop where
  has : Has X.F w
  le : X.A.le X.F
  size : a.tmps.size = X.N
  dn : a.defers = X.D
  tm : ∀ d v, get d st.tm = some v → a.tmps[d]? = some v.real ∧ VOk X.A v
  hp : ∀ t c, get t st.H = some c → CellIn X.A (fun b => w.heap[b]?) c ∧ ∀ b, c.blk b → X.F.c b = none
  dj : ∀ t u c c', t ≠ u → get t st.H = some c → get u st.H = some c' → ∀ b, c.blk b → ¬ c'.blk b
  ro : ∀ t c, get t st.R = some c → CellIn X.A X.F.c c

def QJ (X : Cx) (K : Exit → St → Prop) : Exit → Act → World → Prop
  | .panic _, _, _ => False
  | .outgrown, _, _ => False
  | e, a, w => ∃ st, K e st ∧ Sim X st a w

/-- The judgement: from whatever frame and world the state tells of, the code ends in a state that K takes. -/
def J (X : Cx) (c : Code) (K : Exit → St → Prop) (st : St) : Prop := ∀ a w, Sim X st a w → c.wp X.P (QJ X K) a w

theorem QJ.normal {X : Cx} {K : Exit → St → Prop} {st : St} {a : Act} {w : World} (h : K .normal st) (s : Sim X st a w) : QJ X K .normal a w := ⟨st, h, s⟩

theorem QJ.imp {X : Cx} {K K' : Exit → St → Prop} (h : ∀ e st, K e st → K' e st) (e : Exit) (a : Act) (w : World) (q : QJ X K e a w) : QJ X K' e a w := by
  cases e <;> first
    | (obtain ⟨st, hk, hs⟩ := q; exact ⟨st, h _ _ hk, hs⟩)
    | exact q

theorem J.mono {X : Cx} {c : Code} {K K' : Exit → St → Prop} {st : St} (h : J X c K st) (hk : ∀ e st, K e st → K' e st) : J X c K' st :=
  fun a w s => wp_mono (h a w s) (QJ.imp hk)

def Kseq (X : Cx) (y : Code) (K : Exit → St → Prop) : Exit → St → Prop
  | .normal, st => J X y K st
  | e, st => K e st

theorem J.seq {X : Cx} {x y : Code} {K : Exit → St → Prop} {st : St} (h : J X x (Kseq X y K) st) : J X (.seq x y) K st := fun a w s =>
  wp_seq (wp_mono (h a w s) (fun e a' w' q => by
    cases e <;> first
      | (obtain ⟨st', hk, hs⟩ := q; exact hk a' w' hs)
      | (obtain ⟨st', hk, hs⟩ := q; exact ⟨st', hk, hs⟩)
      | exact q))

theorem J.skip {X : Cx} {K : Exit → St → Prop} {st : St} (h : K .normal st) : J X .skip K st := fun _ _ s => wp_skip ⟨st, h, s⟩
theorem J.exit {X : Cx} {K : Exit → St → Prop} {st : St} {id : Nat} (h : K (.exit id) st) : J X (.exit id) K st := fun _ _ s => wp_exit ⟨st, h, s⟩
theorem J.ret {X : Cx} {K : Exit → St → Prop} {st : St} (h : K .ret st) : J X .ret K st := fun _ _ s => wp_ret ⟨st, h, s⟩

def Kblock (id : Nat) (K : Exit → St → Prop) : Exit → St → Prop
  | .exit i, st => bif Nat.beq i id then K .normal st else K (.exit i) st
  | e, st => K e st

theorem J.block {X : Cx} {id : Nat} {c : Code} {K : Exit → St → Prop} {st : St} (h : J X c (Kblock id K) st) : J X (.block id c) K st := fun a w s =>
  wp_block (wp_mono (h a w s) (fun e a' w' q => by
    cases e with
    | exit i =>
      obtain ⟨st', hk, hs⟩ := q
      by_cases hi : i = id
      · subst hi
        simp only [Kblock, Nat.beq_refl, cond_true] at hk
        simp only [Exit.inBlock, if_true]
        exact ⟨st', hk, hs⟩
      · have : Nat.beq i id = false := by
          cases hb : Nat.beq i id with
          | true => exact absurd (Nat.eq_of_beq_eq_true hb) hi
          | false => rfl
        simp only [Kblock, this, cond_false] at hk
        simp only [Exit.inBlock, if_neg hi]
        exact ⟨st', hk, hs⟩
    | normal => obtain ⟨st', hk, hs⟩ := q; exact ⟨st', hk, hs⟩
    | goto l => obtain ⟨st', hk, hs⟩ := q; exact ⟨st', hk, hs⟩
    | ret => obtain ⟨st', hk, hs⟩ := q; exact ⟨st', hk, hs⟩
    | panic c => exact q
    | outgrown => exact q))

/-! ### operands -/

def cv : Value → V
  | .int k n => .int k n
  | .bool b => .bool b
  | .string s => .str s
  | .pointer none => .nilp
  | .slice none n cap => .sl 0 none 0 0 cap n
  | .map none => .map 0 none
  | .nilFunc => .nilf
  | v => .raw v

theorem cv_real : ∀ v : Value, (cv v).real = v
  | .int _ _ | .bool _ | .string _ | .pointer none | .slice none _ _ | .map none | .nilFunc | .pointer (some _) | .slice (some _) _ _ | .map (some _) | .float _ _ | .complex _ _ _ | .chan _ | .func _ _ _ | .iface _ _
  | .nilIface | .agg _ | .tuple _ => rfl

theorem cv_ok (A : Fr) : ∀ v : Value, VOk A (cv v)
  | .int _ _ | .bool _ | .string _ | .pointer none | .slice none _ _ | .map none | .nilFunc | .pointer (some _) | .slice (some _) _ _ | .map (some _) | .float _ _ | .complex _ _ _ | .chan _ | .func _ _ _ | .iface _ _
  | .nilIface | .agg _ | .tuple _ => trivial

def St.ev (st : St) : Operand → Option V
  | .tmp d => get d st.tm
  | .const v => some (cv v)
  | .func f => some (.fn (.func f) .unit)
  | .global _ => none

theorem Sim.ev {X : Cx} {st : St} {a : Act} {w : World} (s : Sim X st a w) : ∀ {x : Operand} {v : V}, st.ev x = some v → a.eval x = v.real ∧ VOk X.A v
  | .tmp d, v, h => by
    have := s.tm d v h
    refine ⟨?_, this.2⟩
    show a.tmps.getD d undef = v.real
    rw [Array.getD_eq_getD_getElem?, this.1]; rfl
  | .const c, v, h => by
    simp only [St.ev, Option.some.injEq] at h
    subst h
    exact ⟨(cv_real c).symm, cv_ok _ c⟩
  | .func f, v, h => by
    simp only [St.ev, Option.some.injEq] at h
    subst h
    exact ⟨rfl, trivial⟩
  | .global _, v, h => by cases h

theorem J.cond {X : Cx} {c : Operand} {x y : Code} {K : Exit → St → Prop} {st : St} {b : Bool} (hc : st.ev c = some (.bool b))
    (ht : b = true → J X x K st) (hf : b = false → J X y K st) : J X (.cond c x y) K st := fun a w s =>
  wp_cond_split (t := b) (s.ev hc).1 (fun h => ht h a w s) (fun h => hf h a w s)

/-! ### one state says more than another -/

def Le (X : Cx) (st st' : St) : Prop := ∀ a w, Sim X st a w → Sim X st' a w

theorem Le.refl {X : Cx} (st : St) : Le X st st := fun _ _ s => s
theorem Le.trans {X : Cx} {a b c : St} (h : Le X a b) (k : Le X b c) : Le X a c := fun _ _ s => k _ _ (h _ _ s)

theorem J.le {X : Cx} {c : Code} {K : Exit → St → Prop} {st st' : St} (h : Le X st st') (j : J X c K st') : J X c K st := fun a w s => j a w (h a w s)

def Kloop (X : Cx) {β : Type} (Φ : β → Prop) (I : β → St) (μ : β → Nat) (x : β) (K : Exit → St → Prop) : Exit → St → Prop
  | .normal, st => ∃ y, Φ y ∧ μ y < μ x ∧ Le X st (I y)
  | e, st => K e st

theorem least (p : Nat → Prop) (h : ∃ n, p n) : ∃ n, p n ∧ ∀ m, p m → n ≤ m := by
  obtain ⟨n, hn⟩ := h
  induction n using Nat.strongRecOn with
  | _ n ih =>
    by_cases hm : ∃ m, m < n ∧ p m
    · obtain ⟨m, hlt, hp⟩ := hm
      exact ih m hlt hp
    · exact ⟨n, hn, fun m hp => Nat.le_of_not_lt fun hlt => hm ⟨m, hlt, hp⟩⟩

theorem J.loop {X : Cx} {c : Code} {K : Exit → St → Prop} {st : St} {β : Type} (Φ : β → Prop) (I : β → St) (μ : β → Nat) (x0 : β) (hΦ : Φ x0) (h0 : Le X st (I x0))
    (h : ∀ x, Φ x → J X c (Kloop X Φ I μ x K) (I x)) : J X (.loop c) K st := by
  intro a w s
  have hmin : ∀ a w, (∃ x, Φ x ∧ Sim X (I x) a w) → ∃ n, (∃ x, (Φ x ∧ Sim X (I x) a w) ∧ μ x = n) ∧ ∀ m, (∃ x, (Φ x ∧ Sim X (I x) a w) ∧ μ x = m) → n ≤ m :=
    fun a w ⟨x, hx⟩ => least _ ⟨_, x, hx, rfl⟩
  classical
  let m : Act → World → Nat := fun a w => if h : ∃ x, Φ x ∧ Sim X (I x) a w then (hmin a w h).choose else 0
  refine wp_loop (fun a w => ∃ x, Φ x ∧ Sim X (I x) a w) m ⟨x0, hΦ, h0 a w s⟩ ?_
  intro a w hI
  have hm : m a w = (hmin a w hI).choose := dif_pos hI
  obtain ⟨⟨x, ⟨hx, hs⟩, hμ⟩, _⟩ := (hmin a w hI).choose_spec
  refine wp_mono (h x hx a w hs) ?_
  intro e a' w' q
  cases e with
  | normal =>
    obtain ⟨st', ⟨y, hy, hlt, hle⟩, hs'⟩ := q
    have hs'' := hle _ _ hs'
    have hI' : ∃ x, Φ x ∧ Sim X (I x) a' w' := ⟨y, hy, hs''⟩
    refine ⟨hI', ?_⟩
    have hm' : m a' w' = (hmin a' w' hI').choose := dif_pos hI'
    rw [hm, hm', ← hμ]
    exact Nat.lt_of_le_of_lt ((hmin a' w' hI').choose_spec.2 _ ⟨y, ⟨hy, hs''⟩, rfl⟩) hlt
  | exit i => obtain ⟨st', hk, hs'⟩ := q; exact ⟨st', hk, hs'⟩
  | goto l => obtain ⟨st', hk, hs'⟩ := q; exact ⟨st', hk, hs'⟩
  | ret => obtain ⟨st', hk, hs'⟩ := q; exact ⟨st', hk, hs'⟩
  | panic c => exact q
  | outgrown => exact q

end Go.Vm
