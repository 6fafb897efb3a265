/- What a look for the longest destination, then the longest source finds: plain. -/
import Derived.Test.YtimkkhefemnkpaaP14
namespace Go.Vm
open Go Go.Proofs

theorem contains_iff {a b : List Int} {n : Int} (ha : AdOk a) : contains a n b = true ↔ okp a n = true ∧ mk1 b n 16 = a := by
  simp only [contains, Bool.and_eq_true]
  have : eqBytes 16 (mk1 b n 16) a = decide (mk1 b n 16 = a) := eqBytes_iff mk1_length ha.1
  rw [this, decide_eq_true_eq]
theorem contains_covers {a b c : List Int} {n m : Int} (ha : AdOk a) (hb : AdOk b) (hc : AdOk c) (h1 : covers a n b m = true) (h2 : contains b m c = true) : contains a n c = true := by
  obtain ⟨p1, p2, p3, p4⟩ := (covers_iff ha).1 h1
  obtain ⟨q1, q2⟩ := (contains_iff hb).1 h2
  refine (contains_iff ha).2 ⟨p3, ?_⟩
  rw [← p4, ← q2, mk1_twice hc (okp_rng p3).1 p2]
theorem covers_contains {a b c : List Int} {n m : Int} (ha : AdOk a) (hb : AdOk b) (hc : AdOk c) (h1 : contains a n c = true) (h2 : contains b m c = true) (hn : n ≤ m) : covers a n b m = true := by
  obtain ⟨p1, p2⟩ := (contains_iff ha).1 h1
  obtain ⟨q1, q2⟩ := (contains_iff hb).1 h2
  refine (covers_iff ha).2 ⟨q1, hn, p1, ?_⟩
  rw [← p2, ← q2, mk1_twice hc (okp_rng p1).1 hn]
theorem contains_same {a b c : List Int} {n m : Int} (ha : AdOk a) (hb : AdOk b) (h1 : contains a n c = true) (h2 : contains b m c = true) (hn : n = m) : a = b := by
  subst hn
  rw [← ((contains_iff ha).1 h1).2, ← ((contains_iff hb).1 h2).2]

def mnS (dst : List Int) (out : List En) (e : En) : List En := if okR e.p = true ∧ famP e.p.d.a e.p.d.n = famA dst ∧ fnd e.p out < 0 then out ++ [e] else out
def mnL (dst : List Int) (l : List En) : List En := l.foldl (mnS dst) []
theorem mn_step {dst : List Int} {l : List En} {k : Nat} (h : k < l.length) : mnL dst (l.take (k + 1)) = mnS dst (mnL dst (l.take k)) (lat l k) := fold_step h
theorem mnS_yes {dst : List Int} {out : List En} {e : En} (h1 : okR e.p = true) (h2 : famP e.p.d.a e.p.d.n = famA dst) (h3 : fnd e.p out < 0) : mnS dst out e = out ++ [e] := if_pos ⟨h1, h2, h3⟩
theorem mnS_no {dst : List Int} {out : List En} {e : En} (h : ¬ (okR e.p = true ∧ famP e.p.d.a e.p.d.n = famA dst ∧ fnd e.p out < 0)) : mnS dst out e = out := if_neg h

structure MOk (dst : List Int) (P : List En) : Prop where
  ok : ∀ e ∈ P, e.ok
  may : ∀ e ∈ P, okR e.p = true
  fam : ∀ e ∈ P, famP e.p.d.a e.p.d.n = famA dst
  dis : P.Pairwise fun x y => x.p ≠ y.p
theorem MOk.step {dst : List Int} {P : List En} (h : MOk dst P) {e : En} (he : e.ok) : MOk dst (mnS dst P e) := by
  unfold mnS; split
  · rename_i hc
    have mem : ∀ x ∈ P ++ [e], x ∈ P ∨ x = e := fun x hx => by
      rcases List.mem_append.1 hx with hx | hx
      · exact .inl hx
      · exact .inr (List.mem_singleton.1 hx)
    refine ⟨fun x hx => ?_, fun x hx => ?_, fun x hx => ?_, ?_⟩
    · rcases mem x hx with hx | rfl
      · exact h.ok x hx
      · exact he
    · rcases mem x hx with hx | rfl
      · exact h.may x hx
      · exact hc.1
    · rcases mem x hx with hx | rfl
      · exact h.fam x hx
      · exact hc.2.1
    · rw [List.pairwise_append]
      refine ⟨h.dis, List.pairwise_singleton _ _, fun x hx y hy => ?_⟩
      rw [List.mem_singleton.1 hy]
      obtain ⟨j, hj, rfl⟩ := List.mem_iff_getElem.1 hx
      have := fnd_neg hc.2.2 j hj
      simpa [lat, List.getD, List.getElem?_eq_getElem hj] using this
  · exact h
theorem mnL_ok {dst : List Int} {l : List En} (h : ∀ e ∈ l, e.ok) : MOk dst (mnL dst l) := by
  have : ∀ (l out : List En), MOk dst out → (∀ e ∈ l, e.ok) → MOk dst (l.foldl (mnS dst) out) := by
    intro l
    induction l with
    | nil => intro out h _; exact h
    | cons x l ih => intro out h ho; exact ih _ (h.step (ho x (by simp))) (fun e he => ho e (by simp [he]))
  exact this l [] ⟨by simp, by simp, by simp, List.Pairwise.nil⟩ h
theorem mnL_len (dst : List Int) (l : List En) : (mnL dst l).length ≤ l.length := by
  have : ∀ (l out : List En), (l.foldl (mnS dst) out).length ≤ out.length + l.length := by
    intro l
    induction l with
    | nil => intro out; simp
    | cons x l ih =>
      intro out
      have h1 := ih (mnS dst out x)
      have h2 : (mnS dst out x).length ≤ out.length + 1 := by unfold mnS; split <;> simp
      simp only [List.foldl_cons, List.length_cons]; omega
  have := this l []
  simpa [mnL] using this

/-! ### the best of some pairs -/
def mt (src dst : List Int) (p : Pr) : Bool := matches' p.d.a p.d.n p.s.a p.s.n src dst
def pbt (p q : Pr) : Prop := q.d.n < p.d.n ∨ p.d.n = q.d.n ∧ q.s.n < p.s.n
theorem orL_pbt {p q : Pr} : 0 < orL [sgn p.d.n q.d.n, sgn p.s.n q.s.n] ↔ pbt p q := by
  have key : ∀ a b c d : Int, 0 < orL [sgn a b, sgn c d] ↔ (b < a ∨ a = b ∧ d < c) := by
    intro a b c d
    unfold sgn orL
    by_cases h1 : a < b
    · simp [h1]; omega
    · by_cases h2 : b < a
      · simp [h1, h2]
      · by_cases h3 : c < d
        · simp [h1, h2, h3]; omega
        · by_cases h4 : d < c
          · simp [h1, h2, h3, h4]; omega
          · simp [h1, h2, h3, h4]
  exact key _ _ _ _
def BB (src dst : List Int) (ps : List Pr) (k : Nat) (b : Int) (ok : Bool) : Prop :=
  (ok = false ∧ ∀ j, j < k → mt src dst (lat ps j) = false) ∨ (ok = true ∧ ∃ q : Nat, b = q ∧ q < k ∧ mt src dst (lat ps q) = true ∧ ∀ j, j < k → mt src dst (lat ps j) = true → ¬ pbt (lat ps j) (lat ps q))
theorem BB.zero (src dst : List Int) (ps : List Pr) : BB src dst ps 0 0 false := .inl ⟨rfl, fun j hj => absurd hj (Nat.not_lt_zero j)⟩
theorem BB.skip {src dst : List Int} {ps : List Pr} {k : Nat} {b : Int} {ok : Bool} (h : BB src dst ps k b ok) (hm : mt src dst (lat ps k) = false) : BB src dst ps (k + 1) b ok := by
  rcases h with ⟨h1, h2⟩ | ⟨h1, q, h2, h3, h4, h5⟩
  · exact .inl ⟨h1, upto h2 hm⟩
  · exact .inr ⟨h1, q, h2, by omega, h4, upto h5 (fun x => by rw [hm] at x; cases x)⟩
theorem BB.first {src dst : List Int} {ps : List Pr} {k : Nat} {b : Int} {ok : Bool} (h : BB src dst ps k b ok) (hm : mt src dst (lat ps k) = true) (ho : ok = false) : BB src dst ps (k + 1) k true := by
  rcases h with ⟨_, h2⟩ | ⟨h1, _⟩
  · exact .inr ⟨rfl, k, rfl, by omega, hm, upto (fun j hj x => by rw [h2 j hj] at x; cases x) (fun _ => by unfold pbt; omega)⟩
  · rw [ho] at h1; cases h1
theorem BB.yes {src dst : List Int} {ps : List Pr} {k q : Nat} {ok : Bool} (h : BB src dst ps k q ok) (hm : mt src dst (lat ps k) = true) (ho : ok = true) (hb : pbt (lat ps k) (lat ps q)) : BB src dst ps (k + 1) k true := by
  rcases h with ⟨h1, _⟩ | ⟨_, q', h2, h3, h4, h5⟩
  · rw [ho] at h1; cases h1
  · have : q' = q := by omega
    subst this
    exact .inr ⟨rfl, k, rfl, by omega, hm, upto (fun j hj x => by have := h5 j hj x; unfold pbt at *; omega) (fun _ => by unfold pbt; omega)⟩
theorem BB.no {src dst : List Int} {ps : List Pr} {k q : Nat} {ok : Bool} (h : BB src dst ps k q ok) (ho : ok = true) (hb : ¬ pbt (lat ps k) (lat ps q)) : BB src dst ps (k + 1) q ok := by
  rcases h with ⟨h1, _⟩ | ⟨h1, q', h2, h3, h4, h5⟩
  · rw [ho] at h1; cases h1
  · have : q' = q := by omega
    subst this
    exact .inr ⟨h1, q', h2, by omega, h4, upto h5 (fun _ => hb)⟩
theorem BB.at {src dst : List Int} {ps : List Pr} {k : Nat} {b : Int} {ok : Bool} (h : BB src dst ps k b ok) (ho : ok = true) : ∃ q : Nat, b = q ∧ q < k := by
  rcases h with ⟨h1, _⟩ | ⟨_, q, h2, h3, _⟩
  · rw [ho] at h1; cases h1
  · exact ⟨q, h2, h3⟩

/-- the longest destination so far -/
def DM (dst : List Int) (E : List En) (k : Nat) (d : Int) : Prop := (d = -1 ∧ (∀ j, j < k → contains (lat E j).p.d.a (lat E j).p.d.n dst = false)) ∨
  ((∃ q, q < k ∧ contains (lat E q).p.d.a (lat E q).p.d.n dst = true ∧ d = (lat E q).p.d.n) ∧ ∀ j, j < k → contains (lat E j).p.d.a (lat E j).p.d.n dst = true → (lat E j).p.d.n ≤ d)
theorem DM.zero (dst : List Int) (E : List En) : DM dst E 0 (-1) := .inl ⟨rfl, fun j hj => absurd hj (Nat.not_lt_zero j)⟩
theorem DM.skip {dst : List Int} {E : List En} {k : Nat} {d : Int} (h : DM dst E k d) (hc : contains (lat E k).p.d.a (lat E k).p.d.n dst = false) : DM dst E (k + 1) d := by
  rcases h with ⟨h1, h2⟩ | ⟨⟨q, h1, h2, h3⟩, h4⟩
  · exact .inl ⟨h1, upto h2 hc⟩
  · exact .inr ⟨⟨q, by omega, h2, h3⟩, upto h4 (fun x => by rw [hc] at x; cases x)⟩
theorem DM.yes {dst : List Int} {E : List En} {k : Nat} {d : Int} (h : DM dst E k d) (hc : contains (lat E k).p.d.a (lat E k).p.d.n dst = true) (hd : d < (lat E k).p.d.n) : DM dst E (k + 1) (lat E k).p.d.n := by
  rcases h with ⟨h1, h2⟩ | ⟨⟨q, h1, h2, h3⟩, h4⟩
  · exact .inr ⟨⟨k, by omega, hc, rfl⟩, upto (fun j hj x => by rw [h2 j hj] at x; cases x) (fun _ => Int.le_refl _)⟩
  · exact .inr ⟨⟨k, by omega, hc, rfl⟩, upto (fun j hj x => by have := h4 j hj x; omega) (fun _ => Int.le_refl _)⟩
theorem DM.no {dst : List Int} {E : List En} {k : Nat} {d : Int} (h : DM dst E k d) (h0 : 0 ≤ (lat E k).p.d.n) (hd : ¬ d < (lat E k).p.d.n) : DM dst E (k + 1) d := by
  rcases h with ⟨h1, h2⟩ | ⟨⟨q, h1, h2, h3⟩, h4⟩
  · omega
  · exact .inr ⟨⟨q, by omega, h2, h3⟩, upto h4 (fun _ => by omega)⟩

def cnd (src dst : List Int) (d : Int) (e : En) : Bool := decide (e.p.d.n = d) && (contains e.p.d.a e.p.d.n dst && contains e.p.s.a e.p.s.n src)
theorem cnd_iff {src dst : List Int} {d : Int} {e : En} : cnd src dst d e = true ↔ e.p.d.n = d ∧ contains e.p.d.a e.p.d.n dst = true ∧ contains e.p.s.a e.p.s.n src = true := by
  simp only [cnd, Bool.and_eq_true, decide_eq_true_eq]
def SM (src dst : List Int) (d : Int) (E : List En) (k : Nat) (s : Int) (f : En) : Prop := (s = -1 ∧ ∀ j, j < k → cnd src dst d (lat E j) = false) ∨
  (∃ q, q < k ∧ cnd src dst d (lat E q) = true ∧ s = (lat E q).p.s.n ∧ f = lat E q ∧ ∀ j, j < k → cnd src dst d (lat E j) = true → (lat E j).p.s.n ≤ s)
theorem SM.zero (src dst : List Int) (d : Int) (E : List En) (f : En) : SM src dst d E 0 (-1) f := .inl ⟨rfl, fun j hj => absurd hj (Nat.not_lt_zero j)⟩
theorem SM.skip {src dst : List Int} {d : Int} {E : List En} {k : Nat} {s : Int} {f : En} (h : SM src dst d E k s f) (hc : cnd src dst d (lat E k) = false) : SM src dst d E (k + 1) s f := by
  rcases h with ⟨h1, h2⟩ | ⟨q, h1, h2, h3, h4, h5⟩
  · exact .inl ⟨h1, upto h2 hc⟩
  · exact .inr ⟨q, by omega, h2, h3, h4, upto h5 (fun x => by rw [hc] at x; cases x)⟩
theorem SM.yes {src dst : List Int} {d : Int} {E : List En} {k : Nat} {s : Int} {f : En} (h : SM src dst d E k s f) (hc : cnd src dst d (lat E k) = true) (hs : s < (lat E k).p.s.n) : SM src dst d E (k + 1) (lat E k).p.s.n (lat E k) := by
  rcases h with ⟨h1, h2⟩ | ⟨q, h1, h2, h3, h4, h5⟩
  · exact .inr ⟨k, by omega, hc, rfl, rfl, upto (fun j hj x => by rw [h2 j hj] at x; cases x) (fun _ => Int.le_refl _)⟩
  · exact .inr ⟨k, by omega, hc, rfl, rfl, upto (fun j hj x => by have := h5 j hj x; omega) (fun _ => Int.le_refl _)⟩
theorem SM.no {src dst : List Int} {d : Int} {E : List En} {k : Nat} {s : Int} {f : En} (h : SM src dst d E k s f) (h0 : 0 ≤ (lat E k).p.s.n) (hs : ¬ s < (lat E k).p.s.n) : SM src dst d E (k + 1) s f := by
  rcases h with ⟨h1, h2⟩ | ⟨q, h1, h2, h3, h4, h5⟩
  · omega
  · exact .inr ⟨q, by omega, h2, h3, h4, upto h5 (fun _ => by omega)⟩

theorem mt_iff {src dst : List Int} {p : Pr} : mt src dst p = true ↔ okR p = true ∧ contains p.d.a p.d.n dst = true ∧ contains p.s.a p.s.n src = true := by
  simp only [mt, matches', Bool.and_eq_true, okR]

theorem lat_of_mem {α : Type} [Inhabited α] {l : List α} {x : α} (h : x ∈ l) : ∃ j, j < l.length ∧ lat l j = x := by
  obtain ⟨j, hj, rfl⟩ := List.mem_iff_getElem.1 h
  exact ⟨j, hj, by simp [lat, List.getD, List.getElem?_eq_getElem hj]⟩

/-- no entry is meant -/
theorem means_no {src dst : List Int} {P : List En} (hP : MOk dst P) (hs : AdOk src) (hd : AdOk dst) {d s : Int} {f : En}
    (hno : ∀ x ∈ P, mt src dst x.p = false) (hS : SM src dst d (expandL P) (expandL P).length s f) : s < 0 := by
  rcases hS with ⟨h1, _⟩ | ⟨q, h1, h2, _⟩
  · omega
  · exfalso
    obtain ⟨hm, _⟩ := clean_all hP.ok hP.may hP.dis
    have hG := clean_ok hP.ok
    obtain ⟨_, c1, c2⟩ := cnd_iff.1 h2
    obtain ⟨a, ha, b, hb, hc, e⟩ := (exp_mem hG _).1 (lat_mem h1)
    have e' : lat (expandL P) q = mkE (cleanL P) a b := e
    rw [e'] at c1 c2
    obtain ⟨p1, p2⟩ := pcond_iff.1 hc
    have hbP := (hm b).1 hb
    have := hno b hbP
    rw [mt_iff.2 ⟨hP.may b hbP, contains_covers (hG.ok b hb).1.1 (hG.ok a ha).1.1 hd p1 c1, c2⟩] at this
    cases this

/-- what is found is what is meant -/
theorem means_yes {src dst : List Int} {P : List En} (hP : MOk dst P) (hs : AdOk src) (hd : AdOk dst) {d s : Int} {f m : En}
    (hmP : m ∈ P) (hm1 : mt src dst m.p = true) (hm2 : ∀ x ∈ P, mt src dst x.p = true → ¬ pbt x.p m.p)
    (hD : DM dst (expandL P) (expandL P).length d) (hS : SM src dst d (expandL P) (expandL P).length s f) : 0 ≤ s ∧ f.i = m.i ∧ f.h = m.h := by
  obtain ⟨hm, _⟩ := clean_all hP.ok hP.may hP.dis
  have hG := clean_ok hP.ok
  have hE : GOk (expandL P) := exp_ok hG
  obtain ⟨k1, k2, k3⟩ := mt_iff.1 hm1
  have hmG := (hm m).2 hmP
  have own : ∀ x ∈ cleanL P, mkE (cleanL P) x x ∈ expandL P := fun x hx => (exp_mem hG _).2 ⟨x, hx, x, hx, pcond_iff.2 ⟨covers_self (okpair_iff.1 (hG.may x hx)).1, hG.may x hx⟩, rfl⟩
  -- the longest destination
  obtain ⟨jm, hjm, ejm⟩ := lat_of_mem (own m hmG)
  have cm : contains (lat (expandL P) jm).p.d.a (lat (expandL P) jm).p.d.n dst = true := by rw [ejm]; exact k2
  have hD2 : (∃ q, q < (expandL P).length ∧ contains (lat (expandL P) q).p.d.a (lat (expandL P) q).p.d.n dst = true ∧ d = (lat (expandL P) q).p.d.n) ∧ ∀ j, j < (expandL P).length → contains (lat (expandL P) j).p.d.a (lat (expandL P) j).p.d.n dst = true → (lat (expandL P) j).p.d.n ≤ d := by
    rcases hD with ⟨_, h2⟩ | h
    · rw [h2 jm hjm] at cm; cases cm
    · exact h
  obtain ⟨⟨q, hq1, hq2, hq3⟩, hmax⟩ := hD2
  obtain ⟨a, ha, a2, _, _, e⟩ := (exp_mem hG _).1 (lat_mem hq1)
  have e' : lat (expandL P) q = mkE (cleanL P) a a2 := e
  rw [e'] at hq2 hq3
  have hda : contains a.p.d.a a.p.d.n dst = true := hq2
  have hdn : d = a.p.d.n := hq3
  have hmn : m.p.d.n ≤ a.p.d.n := by have := hmax jm hjm cm; rw [ejm] at this; rw [← hdn]; exact this
  have hcov : covers m.p.d.a m.p.d.n a.p.d.a a.p.d.n = true := covers_contains (hG.ok m hmG).1.1 (hG.ok a ha).1.1 hd k2 hda hmn
  have hfam : famP a.p.d.a a.p.d.n = famP m.p.d.a m.p.d.n := (hP.fam a ((hm a).1 ha)).trans (hP.fam m hmP).symm
  have hokm := okpair_iff.1 k1
  have hoka := okpair_iff.1 (hG.may a ha)
  have hpc : pcond a m = true := pcond_iff.2 ⟨hcov, okpair_iff.2 ⟨hoka.1, hokm.2.1, hfam.trans hokm.2.2⟩⟩
  obtain ⟨j0, hj0, ej0⟩ := lat_of_mem (show mkE (cleanL P) a m ∈ expandL P from (exp_mem hG _).2 ⟨a, ha, m, hmG, hpc, rfl⟩)
  have c0 : cnd src dst d (lat (expandL P) j0) = true := by rw [ej0]; exact cnd_iff.2 ⟨hdn.symm, hda, k3⟩
  -- the longest source
  rcases hS with ⟨_, h2⟩ | ⟨r, r1, r2, r3, r4, r5⟩
  · rw [h2 j0 hj0] at c0; cases c0
  obtain ⟨x, hx, y, hy, hc, ef⟩ := (exp_mem hG _).1 (lat_mem r1)
  have ef' : lat (expandL P) r = mkE (cleanL P) x y := ef
  rw [ef'] at r2 r3 r4
  obtain ⟨g1, g2, g3⟩ := cnd_iff.1 r2
  have g1' : x.p.d.n = a.p.d.n := (show x.p.d.n = d from g1).trans hdn
  have exd : x.p.d.a = a.p.d.a := contains_same (hG.ok x hx).1.1 (hG.ok a ha).1.1 g2 hda g1'
  have hsn : m.p.s.n ≤ y.p.s.n := by
    have := r5 j0 hj0 c0
    rw [ej0, r3] at this
    exact this
  have hyo := okpair_iff.1 (hG.may y hy)
  refine ⟨by rw [r3]; exact (okp_rng hyo.2.1).1, ?_⟩
  have hmm : mtch ⟨x.p.d, y.p.s⟩ m = true := mtch_iff.2 ⟨by show covers _ _ x.p.d.a x.p.d.n = true; rw [exd, g1']; exact hcov, covers_contains (hG.ok m hmG).1.2 (hG.ok y hy).1.2 hs k3 g3 hsn, by show _ = famP x.p.d.a x.p.d.n; rw [exd, g1']; exact hfam.symm⟩
  have hb : bestL ⟨x.p.d, y.p.s⟩ (cleanL P) = m := by
    unfold bestL
    rcases best_spec ⟨x.p.d, y.p.s⟩ (cleanL P) with ⟨_, h2⟩ | ⟨b, h1, h2, h3, h4⟩
    · rw [h2 m hmG] at hmm; cases hmm
    · rw [h1]
      obtain ⟨b1, b2, b3⟩ := mtch_iff.1 h3
      have bd : contains b.p.d.a b.p.d.n dst = true := contains_covers (hG.ok b h2).1.1 (hG.ok x hx).1.1 hd b1 g2
      have bs : contains b.p.s.a b.p.s.n src = true := contains_covers (hG.ok b h2).1.2 (hG.ok y hy).1.2 hs b2 g3
      have n1 := hm2 b ((hm b).1 h2) (mt_iff.2 ⟨hG.may b h2, bd, bs⟩)
      have n2 := h4 m hmG hmm
      unfold pbt at n1
      unfold better at n2
      have e1 : b.p.d.n = m.p.d.n := by omega
      have e2 : b.p.s.n = m.p.s.n := by omega
      exact hG.toTOk.uniq h2 hmG (pr_ext (contains_same (hG.ok b h2).1.1 (hG.ok m hmG).1.1 bd k2 e1) e1 (contains_same (hG.ok b h2).1.2 (hG.ok m hmG).1.2 bs k3 e2) e2)
  rw [r4]
  exact ⟨by show (bestL ⟨x.p.d, y.p.s⟩ (cleanL P)).i = m.i; rw [hb], by show (bestL ⟨x.p.d, y.p.s⟩ (cleanL P)).h = m.h; rw [hb]⟩
end Go.Vm
