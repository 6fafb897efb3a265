/- Looking up as the document has it: the plain law. -/
import Derived.Test.YtimkkhefemnkpaaF7
namespace Go.Vm
open Go Go.Proofs

def D1 (dst : List Int) (V : List En) (k : Nat) (d : Int) : Prop := k ≤ V.length ∧ (∀ j, j < k → cand dst (lat V j) = true → (lat V j).p.d.n ≤ d) ∧ (d = -1 ∨ ∃ j, j < k ∧ cand dst (lat V j) = true ∧ (lat V j).p.d.n = d)
def mt (src dst : List Int) (d : Int) (e : En) : Prop := cand dst e = true ∧ e.p.d.n = d ∧ contains e.p.s.a e.p.s.n src = true
def S1 (src dst : List Int) (V : List En) (d : Int) (k : Nat) (s b : Int) : Prop := k ≤ V.length ∧ ((b = -1 ∧ s = -1 ∧ ∀ j, j < k → ¬ mt src dst d (lat V j)) ∨
  (∃ i : Nat, b = i ∧ i < k ∧ mt src dst d (lat V i) ∧ s = (lat V i).p.s.n ∧ ∀ j, j < k → mt src dst d (lat V j) → (lat V j).p.s.n ≤ s))

theorem D1.zero (dst : List Int) (V : List En) : D1 dst V 0 (-1) := ⟨Nat.zero_le _, fun j h => absurd h (Nat.not_lt_zero _), .inl rfl⟩
theorem D1.yes {dst : List Int} {V : List En} {k : Nat} {d : Int} (h : D1 dst V k d) (hk : k < V.length) (hc : cand dst (lat V k) = true) : D1 dst V (k + 1) (max d (lat V k).p.d.n) := by
  obtain ⟨_, h2, h3⟩ := h
  refine ⟨hk, upto (fun j hj hcj => Int.le_trans (h2 j hj hcj) (Int.le_max_left _ _)) (fun _ => Int.le_max_right _ _), ?_⟩
  rcases Int.le_total d (lat V k).p.d.n with h | h
  · right; exact ⟨k, by omega, hc, by rw [Int.max_eq_right h]⟩
  · rw [Int.max_eq_left h]
    rcases h3 with h3 | ⟨j, a, b, c⟩
    · exact .inl h3
    · exact .inr ⟨j, by omega, b, c⟩
theorem D1.no {dst : List Int} {V : List En} {k : Nat} {d : Int} (h : D1 dst V k d) (hk : k < V.length) (hc : ¬ cand dst (lat V k) = true) : D1 dst V (k + 1) d := by
  obtain ⟨_, h2, h3⟩ := h
  refine ⟨hk, upto h2 (fun x => absurd x hc), h3.imp id fun ⟨j, a, b, c⟩ => ⟨j, by omega, b, c⟩⟩

theorem cont_pos {a : List Int} {n : Int} {b : List Int} (h : contains a n b = true) : 0 ≤ n := by
  simp only [contains, Bool.and_eq_true] at h
  exact (okp_rng h.1).1

theorem S1.zero (src dst : List Int) (V : List En) (d : Int) : S1 src dst V d 0 (-1) (-1) := ⟨Nat.zero_le _, .inl ⟨rfl, rfl, fun j h => absurd h (Nat.not_lt_zero _)⟩⟩
theorem S1.yes {src dst : List Int} {V : List En} {d : Int} {k : Nat} {s b : Int} (h : S1 src dst V d k s b) (hk : k < V.length) (hm : mt src dst d (lat V k)) (hs : s < (lat V k).p.s.n) : S1 src dst V d (k + 1) (lat V k).p.s.n k := by
  obtain ⟨_, h2⟩ := h
  refine ⟨hk, .inr ⟨k, rfl, by omega, hm, rfl, upto (fun j hj hj2 => ?_) (fun _ => Int.le_refl _)⟩⟩
  rcases h2 with ⟨_, _, h2⟩ | ⟨i, _, _, _, _, h2⟩
  · exact absurd hj2 (h2 j hj)
  · have := h2 j hj hj2; omega
theorem S1.no {src dst : List Int} {V : List En} {d : Int} {k : Nat} {s b : Int} (h : S1 src dst V d k s b) (hk : k < V.length) (hm : ¬ (mt src dst d (lat V k) ∧ s < (lat V k).p.s.n)) : S1 src dst V d (k + 1) s b := by
  obtain ⟨_, h2⟩ := h
  refine ⟨hk, ?_⟩
  rcases h2 with ⟨h3, h4, h2⟩ | ⟨i, h3, h4, h5, h6, h2⟩
  · exact .inl ⟨h3, h4, upto h2 (fun x => hm ⟨x, by have := cont_pos x.2.2; omega⟩)⟩
  · exact .inr ⟨i, h3, by omega, h5, h6, upto h2 (fun x => by
      rcases Int.lt_or_le s (lat V k).p.s.n with h | h
      · exact absurd ⟨x, h⟩ hm
      · exact h)⟩

/-- the one that is meant -/
def Win (src dst : List Int) (V : List En) (e : En) : Prop := e ∈ V ∧ cand dst e = true ∧ (∀ y ∈ V, cand dst y = true → y.p.d.n ≤ e.p.d.n) ∧ contains e.p.s.a e.p.s.n src = true ∧
  ∀ y ∈ V, cand dst y = true → y.p.d.n = e.p.d.n → contains y.p.s.a y.p.s.n src = true → y.p.s.n ≤ e.p.s.n

theorem win_uniq {src dst : List Int} {V : List En} (hV : Apart V) {x y : En} (hx : Win src dst V x) (hy : Win src dst V y) : x = y := by
  obtain ⟨m1, m2, m3, m4, m5⟩ := hx
  obtain ⟨n1, n2, n3, n4, n5⟩ := hy
  have hd : x.p.d.n = y.p.d.n := by
    have := m3 _ n1 n2
    have := n3 _ m1 m2
    omega
  have hs : x.p.s.n = y.p.s.n := by
    have := m5 _ n1 n2 hd.symm n4
    have := n5 _ m1 m2 hd m4
    omega
  have o1 := (hV.1 _ m1).1
  have o2 := (hV.1 _ n1).1
  simp only [cand, Bool.and_eq_true] at m2 n2
  have e1 : x.p.d.a = y.p.d.a := by rw [contains_a o1.1 m2.2, contains_a o2.1 n2.2, hd]
  have e2 : x.p.s.a = y.p.s.a := by rw [contains_a o1.2 m4, contains_a o2.2 n4, hs]
  refine hV.2 _ m1 _ n1 ?_
  obtain ⟨⟨⟨a, n⟩, ⟨b, m⟩⟩, i, h⟩ := x
  obtain ⟨⟨⟨a', n'⟩, ⟨b', m'⟩⟩, i', h'⟩ := y
  simp only at e1 e2 hs hd
  rw [e1, e2, hs, hd]

theorem klook_win (src dst : List Int) (V : List En) : (klookL src dst V = (default, false) ∧ ∀ x ∈ hereF dst V, contains x.p.s.a x.p.s.n src = false) ∨ (∃ e, Win src dst V e ∧ klookL src dst V = (e, true)) := by
  rcases ksel_spec src (hereF dst V) with ⟨h1, h2⟩ | ⟨h1, h2, h3, h4⟩
  · exact .inl ⟨h1, h2⟩
  · obtain ⟨m1, m2, m3⟩ := (here_mem dst V _).1 h2
    refine .inr ⟨_, ⟨m1, m2, m3, h3, fun y hy hc hd hs => h4 y ((here_mem dst V y).2 ⟨hy, hc, fun z hz hcz => ?_⟩) hs⟩, Prod.ext rfl h1⟩
    rw [hd]; exact m3 z hz hcz

theorem rlook_eq {src dst : List Int} {V : List En} {d s b : Int} (hV : Apart V) (h1 : D1 dst V V.length d) (h2 : S1 src dst V d V.length s b) :
    (b < 0 → klookL src dst V = (default, false)) ∧ (0 ≤ b → ∃ i : Nat, b = i ∧ i < V.length ∧ klookL src dst V = (lat V i, true)) := by
  obtain ⟨_, d2, d3⟩ := h1
  obtain ⟨_, h2⟩ := h2
  have memj : ∀ y ∈ V, ∃ j, j < V.length ∧ lat V j = y := fun y hy => by
    obtain ⟨j, hj, rfl⟩ := List.mem_iff_getElem.1 hy
    exact ⟨j, hj, by simp [lat, List.getD, List.getElem?_eq_getElem hj]⟩
  have dall : ∀ y ∈ V, cand dst y = true → y.p.d.n ≤ d := fun y hy hc => by
    obtain ⟨j, hj, rfl⟩ := memj y hy
    exact d2 j hj hc
  rcases h2 with ⟨rfl, _, h4⟩ | ⟨i, rfl, h3, h4, h5, h6⟩
  · refine ⟨fun _ => ?_, fun h => absurd h (by omega)⟩
    rcases klook_win src dst V with ⟨k1, _⟩ | ⟨e, ⟨w1, w2, w3, w4, w5⟩, k2⟩
    · exact k1
    · exfalso
      obtain ⟨j, hj, rfl⟩ := memj e w1
      refine h4 j hj ⟨w2, ?_, w4⟩
      have hle := dall _ w1 w2
      rcases d3 with rfl | ⟨q, hq, hq1, hq2⟩
      · have w2' := w2
        simp only [cand, Bool.and_eq_true] at w2'
        have := cont_pos w2'.2
        omega
      · have := w3 _ (lat_mem hq) hq1
        omega
  · refine ⟨fun h => absurd h (by omega), fun _ => ⟨i, rfl, h3, ?_⟩⟩
    have hw : Win src dst V (lat V i) := by
      refine ⟨lat_mem h3, h4.1, fun y hy hc => by rw [h4.2.1]; exact dall y hy hc, h4.2.2, fun y hy hc hd hs => ?_⟩
      obtain ⟨j, hj, rfl⟩ := memj y hy
      have := h6 j hj ⟨hc, by rw [hd]; exact h4.2.1, hs⟩
      omega
    rcases klook_win src dst V with ⟨k1, k2⟩ | ⟨e, he, k2⟩
    · have := k2 _ ((here_mem dst V _).2 ⟨hw.1, hw.2.1, hw.2.2.1⟩)
      rw [h4.2.2] at this
      cases this
    · rw [k2, win_uniq hV he hw]

end Go.Vm
