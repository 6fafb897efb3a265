/- A Fib that few operations were done to: plain. -/
import Derived.Test.YtimkkhefemnkpaaP6
namespace Go.Vm
open Go Go.Proofs

structure AAct where
  k : Int
  gap : Int
  la : Option Addr
  lc : Nat
  l : List En
  ok : Bool
instance : Inhabited AAct := ⟨⟨0, 0, none, 0, [], false⟩⟩
abbrev acE (x : AAct) : V := .pair (iV x.k) (.pair (iV x.gap) (.pair (lros x.la x.lc enE x.l) (.bool x.ok)))
def actOk (x : AAct) : Bool := decide (0 ≤ x.gap) && decide (x.gap ≤ 1073741824) && decide (x.l.length ≤ 24)
def rightB (l : List AAct) : Bool := decide (l.length ≤ 120) && l.all actOk
theorem actOk_iff {x : AAct} : actOk x = true ↔ 0 ≤ x.gap ∧ x.gap ≤ 1073741824 ∧ x.l.length ≤ 24 := by
  simp [actOk, Bool.and_eq_true, and_assoc]
theorem right_at {l : List AAct} (h : rightB l = true) {k : Nat} (hk : k < l.length) : 0 ≤ (lat l k).gap ∧ (lat l k).gap ≤ 1073741824 ∧ (lat l k).l.length ≤ 24 := by
  simp only [rightB, Bool.and_eq_true, List.all_eq_true] at h
  exact actOk_iff.1 (h.2 _ (lat_mem hk))
theorem right_len {l : List AAct} (h : rightB l = true) : l.length ≤ 120 := by
  simp only [rightB, Bool.and_eq_true, decide_eq_true_eq] at h; exact h.1
theorem right_bad {l : List AAct} {k : Nat} (hk : k < l.length) (h : actOk (lat l k) = false) : rightB l = false := by
  have : l.all actOk = false := by
    rw [List.all_eq_false]
    exact ⟨_, lat_mem hk, by rw [h]; exact Bool.false_ne_true⟩
  simp [rightB, this]
theorem right_end {l : List AAct} {k : Nat} (hk : l.length ≤ 120 → l.length ≤ k) (hz : ∀ j, j < k → actOk (lat l j) = true) : rightB l = decide (l.length ≤ 120) := by
  by_cases h : l.length ≤ 120
  · have : l.all actOk = true := by
      rw [List.all_eq_true]
      intro x hx
      obtain ⟨j, hj, rfl⟩ := List.mem_iff_getElem.1 hx
      have := hz j (by have := hk h; omega)
      rwa [show lat l j = l[j] by simp [lat, List.getD, List.getElem?_eq_getElem hj]] at this
    simp [rightB, this]
  · simp [rightB, h]

/-! ### what may be to be done -/
theorem todo_mem {H W : List En} : ∀ o ∈ todoL H W, (o.k = 3 ∧ o.e ∈ H ∧ has o.e.p W = false) ∨ (o.k = 1 ∧ o.e ∈ W ∧ has o.e.p H = false) ∨ (o.k = 2 ∧ o.e ∈ W ∧ has o.e.p H = true) := by
  have h1 : ∀ (l : List En) (out : List Opn), (∀ e ∈ l, e ∈ H) → (∀ o ∈ out, o.k = 3 ∧ o.e ∈ H ∧ has o.e.p W = false) → ∀ o ∈ l.foldl (td1 W) out, o.k = 3 ∧ o.e ∈ H ∧ has o.e.p W = false := by
    intro l
    induction l with
    | nil => intro out _ h; exact h
    | cons e l ih =>
      intro out hl h
      refine ih _ (fun x hx => hl x (by simp [hx])) ?_
      unfold td1; split
      · exact h
      · rename_i hn
        intro o ho
        rcases List.mem_append.1 ho with ho | ho
        · exact h o ho
        · rw [List.mem_singleton.1 ho]; exact ⟨rfl, hl e (by simp), by simpa using hn⟩
  have h2 : ∀ (l : List En) (out : List Opn), (∀ e ∈ l, e ∈ W) → (∀ o ∈ out, (o.k = 3 ∧ o.e ∈ H ∧ has o.e.p W = false) ∨ (o.k = 1 ∧ o.e ∈ W ∧ has o.e.p H = false) ∨ (o.k = 2 ∧ o.e ∈ W ∧ has o.e.p H = true)) →
      ∀ o ∈ l.foldl (td2 H) out, (o.k = 3 ∧ o.e ∈ H ∧ has o.e.p W = false) ∨ (o.k = 1 ∧ o.e ∈ W ∧ has o.e.p H = false) ∨ (o.k = 2 ∧ o.e ∈ W ∧ has o.e.p H = true) := by
    intro l
    induction l with
    | nil => intro out _ h; exact h
    | cons e l ih =>
      intro out hl h
      refine ih _ (fun x hx => hl x (by simp [hx])) ?_
      unfold td2; split
      · rename_i hn
        intro o ho
        rcases List.mem_append.1 ho with ho | ho
        · exact h o ho
        · rw [List.mem_singleton.1 ho]; exact .inr (.inl ⟨rfl, hl e (by simp), hn⟩)
      · rename_i hn
        split
        · exact h
        · intro o ho
          rcases List.mem_append.1 ho with ho | ho
          · exact h o ho
          · rw [List.mem_singleton.1 ho]; exact .inr (.inr ⟨rfl, hl e (by simp), by simpa using hn⟩)
  exact h2 W _ (fun _ h => h) (fun o ho => .inl (h1 H [] (fun _ h => h) (by simp) o ho))

theorem fhas_false {p : Pr} {T : List En} (h : has p T = false) : ∀ y ∈ T, y.p ≠ p := by
  intro y hy e
  have : has p T = true := by
    unfold has tlook
    rw [List.find?_isSome]
    exact ⟨y, hy, by simpa using e⟩
  rw [h] at this; cases this
theorem fhas_true {p : Pr} {T : List En} (h : has p T = true) : ∃ y ∈ T, y.p = p := by
  unfold has tlook at h
  rw [List.find?_isSome] at h
  obtain ⟨y, hy, e⟩ := h
  exact ⟨y, hy, by simpa using e⟩
theorem fhas_of {p : Pr} {T : List En} {y : En} (hy : y ∈ T) (e : y.p = p) : has p T = true := by
  unfold has tlook
  rw [List.find?_isSome]
  exact ⟨y, hy, by simpa using e⟩

/-- few were told -/
structure FI (s : FS) (n : Nat) : Prop extends FOk s where
  nh : s.H.length ≤ n
  nf : s.F.length ≤ n

theorem FI.zero : FI FS.zero 0 := ⟨M0_ok, by decide, by decide⟩
theorem FI.mono {s : FS} {n m : Nat} (h : FI s n) (hn : n ≤ m) : FI s m := ⟨h.toFOk, Nat.le_trans h.nh hn, Nat.le_trans h.nf hn⟩
theorem want_len {l : List En} (hl : l.length ≤ 24) : (expandL l).length ≤ 576 := by
  have h1 := exp_len (cleanL l)
  have h2 := clean_len l
  have h3 : (cleanL l).length ≤ 24 := by omega
  exact Nat.le_trans h1 (Nat.mul_le_mul h3 h3)
theorem FI.want {s : FS} {n : Nat} (h : FI s n) {l : List En} (ho : ∀ e ∈ l, e.ok) (hl : l.length ≤ 24) : FI (s.want l) n :=
  ⟨⟨h.h, (exp_ok (clean_ok ho)).toTOk, h.f, h.o, h.r, h.lh, by have := want_len hl; show (expandL l).length ≤ _; omega, h.lf⟩, h.nh, h.nf⟩
theorem nextO_mem {now : Int} {F : List (Pr × Int)} {l : List Opn} {o : Opn} (h : nextO now F l = some o) : o ∈ l := List.mem_of_find?_eq_some h
theorem FI.next {s : FS} {n : Nat} (h : FI s n) (now : Int) : FI (s.next now).2 n := by
  unfold FS.next
  split
  · exact h
  split
  · exact h
  · rename_i o ho
    have hm := nextO_mem ho
    refine ⟨⟨h.h, h.w, h.f, h.todo_ok o hm, fun _ hk => ?_, h.lh, h.lw, h.lf⟩, h.nh, h.nf⟩
    rcases todo_mem o hm with ⟨_, h2, _⟩ | ⟨h1, _⟩ | ⟨h1, _⟩
    · exact fhas_of h2 rfl
    · have hk' : o.k = 3 := hk; omega
    · have hk' : o.k = 3 := hk; omega
theorem KOk.end {F : List (Pr × Int)} (h : KOk Pr.ok F) {p : Pr} (hp : p.ok) (v : Int) : KOk Pr.ok (Go.Vm.adel p F ++ [(p, v)]) := by
  have h1 := h.adel p
  refine ⟨fun x hx => ?_, ?_⟩
  · rcases List.mem_append.1 hx with hx | hx
    · exact h1.1 x hx
    · rw [List.mem_singleton.1 hx]; exact hp
  · rw [List.map_append, List.nodup_append]
    refine ⟨h1.2, by simp, fun a ha b hb e => ?_⟩
    simp only [List.map_cons, List.map_nil, List.mem_singleton] at hb
    obtain ⟨x, hx, rfl⟩ := List.mem_map.1 ha
    have := (List.mem_filter.1 hx).2
    rw [e, hb] at this
    simp at this
theorem FI.reply {s : FS} {n : Nat} (h : FI s n) (hn : n < 3000) (now : Int) (ok : Bool) : FI (s.reply now ok).2 (n + 1) := by
  have hh := h.nh
  have hf := h.nf
  have ha := adel_len (p := s.wo.e.p) (F := s.F)
  unfold FS.reply
  split
  · exact h.mono (by omega)
  · show FI (if ok = false then _ else _) (n + 1)
    split
    · have e : (adel s.wo.e.p s.F ++ [(s.wo.e.p, now + 1000)]).length = (adel s.wo.e.p s.F).length + 1 := by simp
      exact ⟨⟨h.h, h.w, h.f.end h.o.1 _, h.o, fun hb => (by cases hb), h.lh, h.lw, by show (adel s.wo.e.p s.F ++ [(s.wo.e.p, now + 1000)]).length ≤ _; omega⟩, by show s.H.length ≤ _; omega, by show (adel s.wo.e.p s.F ++ [(s.wo.e.p, now + 1000)]).length ≤ _; omega⟩
    split
    · have hd := tdel_length (p := s.wo.e.p) (T := s.H)
      exact ⟨⟨h.h.del _, h.w, h.f.adel _, h.o, fun hb => (by cases hb), by show (tdel s.wo.e.p s.H).length ≤ _; omega, h.lw, by show (adel s.wo.e.p s.F).length ≤ _; omega⟩, by show (tdel s.wo.e.p s.H).length ≤ _; omega, by show (adel s.wo.e.p s.F).length ≤ _; omega⟩
    · have hd := tput_length (e := s.wo.e) (T := s.H)
      exact ⟨⟨h.h.put h.o, h.w, h.f.adel _, h.o, fun hb => (by cases hb), by show (tput s.wo.e s.H).length ≤ _; omega, h.lw, by show (adel s.wo.e.p s.F).length ≤ _; omega⟩, by show (tput s.wo.e s.H).length ≤ _; omega, by show (adel s.wo.e.p s.F).length ≤ _; omega⟩
end Go.Vm
