/- Where a packet goes: the plain law. -/
import Derived.Test.YtimkkhefemnkpaaN1
namespace Go.Vm
open Go Go.Proofs

def cand (dst : List Int) (e : En) : Bool := decide (famP e.p.d.a e.p.d.n = famA dst) && contains e.p.d.a e.p.d.n dst
def hstep (dst : List Int) (here : List En) (e : En) : List En :=
  if cand dst e = false then here else
  let h1 := if 0 < here.length ∧ (lat here 0).p.d.n < e.p.d.n then [] else here
  if h1.length = 0 ∨ e.p.d.n = (lat h1 0).p.d.n then h1 ++ [e] else h1
def hereF (dst : List Int) (V : List En) : List En := V.foldl (hstep dst) []
def kstep (src : List Int) (b : En × Bool) (e : En) : En × Bool :=
  if contains e.p.s.a e.p.s.n src = true ∧ (b.2 = false ∨ b.1.p.s.n < e.p.s.n) then (e, true) else b
def ksel (src : List Int) (l : List En) : En × Bool := l.foldl (kstep src) (default, false)
def klookL (src dst : List Int) (V : List En) : En × Bool := ksel src (hereF dst V)

theorem hereF_snoc (dst : List Int) (V : List En) (e : En) : hereF dst (V ++ [e]) = hstep dst (hereF dst V) e := by simp [hereF]
theorem ksel_snoc (src : List Int) (V : List En) (e : En) : ksel src (V ++ [e]) = kstep src (ksel src V) e := by simp [ksel]

/-- a list from its end -/
theorem snoc_ind {α : Type} {P : List α → Prop} (h0 : P []) (h1 : ∀ l x, P l → P (l ++ [x])) (l : List α) : P l := by
  have : ∀ l : List α, P l.reverse := fun l => by
    induction l with
    | nil => exact h0
    | cons x l ih => rw [List.reverse_cons]; exact h1 _ _ ih
  have := this l.reverse
  rwa [List.reverse_reverse] at this

theorem lat_zero_mem {l : List En} (h : l ≠ []) : lat l 0 ∈ l := lat_mem (List.length_pos_iff.2 h)

/-- those of the longest destination that match -/
theorem here_mem (dst : List Int) (V : List En) : ∀ x, x ∈ hereF dst V ↔ x ∈ V ∧ cand dst x = true ∧ ∀ y ∈ V, cand dst y = true → y.p.d.n ≤ x.p.d.n := by
  induction V using snoc_ind with
  | h0 => simp [hereF]
  | h1 V e ih =>
    intro x
    rw [hereF_snoc]
    have key : ∀ y ∈ hereF dst V, ∀ z ∈ hereF dst V, y.p.d.n = z.p.d.n := fun y hy z hz => by
      obtain ⟨a1, a2, a3⟩ := (ih y).1 hy
      obtain ⟨b1, b2, b3⟩ := (ih z).1 hz
      have := a3 z b1 b2
      have := b3 y a1 a2
      omega
    by_cases hc : cand dst e = false
    · have : hstep dst (hereF dst V) e = hereF dst V := by unfold hstep; rw [if_pos hc]
      rw [this, ih x]
      simp only [List.mem_append, List.mem_singleton]
      constructor
      · rintro ⟨h1, h2, h3⟩
        refine ⟨.inl h1, h2, fun y hy hcy => ?_⟩
        rcases hy with hy | rfl
        · exact h3 y hy hcy
        · rw [hc] at hcy; cases hcy
      · rintro ⟨h1, h2, h3⟩
        refine ⟨?_, h2, fun y hy hcy => h3 y (.inl hy) hcy⟩
        rcases h1 with h1 | rfl
        · exact h1
        · rw [hc] at h2; cases h2
    · have hc' : cand dst e = true := by simpa using hc
      -- what is known of those so far
      by_cases hn : hereF dst V = []
      · have hno : ∀ y ∈ V, cand dst y = false := by
          -- there is one of the longest, if there is any
          intro y hy
          cases hcy : cand dst y with
          | false => rfl
          | true =>
            exfalso
            have hmax : ∃ z ∈ V, cand dst z = true ∧ ∀ w ∈ V, cand dst w = true → w.p.d.n ≤ z.p.d.n := by
              clear ih key hn
              induction V with
              | nil => simp at hy
              | cons a V ihV =>
                by_cases hex : ∃ y ∈ V, cand dst y = true
                · obtain ⟨y', hy', hcy'⟩ := hex
                  obtain ⟨z, hz, hcz, hzm⟩ : ∃ z ∈ V, cand dst z = true ∧ ∀ w ∈ V, cand dst w = true → w.p.d.n ≤ z.p.d.n := by
                    clear ihV hy hcy
                    revert y' hy'
                    induction V with
                    | nil => intro y' hy'; simp at hy'
                    | cons b V ihb =>
                      intro y' hy' hcy'
                      by_cases hex2 : ∃ y ∈ V, cand dst y = true
                      · obtain ⟨y2, h2, h3⟩ := hex2
                        obtain ⟨z, hz, hcz, hzm⟩ := ihb y2 h2 h3
                        by_cases hb : cand dst b = true ∧ z.p.d.n < b.p.d.n
                        · refine ⟨b, by simp, hb.1, fun w hw hcw => ?_⟩
                          rcases List.mem_cons.1 hw with rfl | hw
                          · exact Int.le_refl _
                          · have := hzm w hw hcw; omega
                        · refine ⟨z, by simp [hz], hcz, fun w hw hcw => ?_⟩
                          rcases List.mem_cons.1 hw with rfl | hw
                          · have : ¬ z.p.d.n < w.p.d.n := fun h => hb ⟨hcw, h⟩
                            omega
                          · exact hzm w hw hcw
                      · refine ⟨y', hy', hcy', fun w hw hcw => ?_⟩
                        rcases List.mem_cons.1 hy' with rfl | hy'
                        · rcases List.mem_cons.1 hw with rfl | hw
                          · exact Int.le_refl _
                          · exact absurd ⟨w, hw, hcw⟩ hex2
                        · exact absurd ⟨y', hy', hcy'⟩ hex2
                  by_cases ha : cand dst a = true ∧ z.p.d.n < a.p.d.n
                  · refine ⟨a, by simp, ha.1, fun w hw hcw => ?_⟩
                    rcases List.mem_cons.1 hw with rfl | hw
                    · exact Int.le_refl _
                    · have := hzm w hw hcw; omega
                  · refine ⟨z, by simp [hz], hcz, fun w hw hcw => ?_⟩
                    rcases List.mem_cons.1 hw with rfl | hw
                    · have : ¬ z.p.d.n < w.p.d.n := fun h => ha ⟨hcw, h⟩
                      omega
                    · exact hzm w hw hcw
                · rcases List.mem_cons.1 hy with rfl | hy
                  · refine ⟨y, by simp, hcy, fun w hw hcw => ?_⟩
                    rcases List.mem_cons.1 hw with rfl | hw
                    · exact Int.le_refl _
                    · exact absurd ⟨w, hw, hcw⟩ hex
                  · exact absurd ⟨y, hy, hcy⟩ hex
            obtain ⟨z, hz, hcz, hzm⟩ := hmax
            have := (ih z).2 ⟨hz, hcz, hzm⟩
            rw [hn] at this
            simp at this
        have : hstep dst (hereF dst V) e = [e] := by
          unfold hstep
          rw [if_neg hc, hn]
          simp
        rw [this]
        simp only [List.mem_singleton, List.mem_append]
        constructor
        · rintro rfl
          refine ⟨.inr rfl, hc', fun y hy hcy => ?_⟩
          rcases hy with hy | rfl
          · rw [hno y hy] at hcy; cases hcy
          · exact Int.le_refl _
        · rintro ⟨h1, h2, _⟩
          rcases h1 with h1 | h1
          · rw [hno x h1] at h2; cases h2
          · exact h1
      · obtain ⟨m1, m2, m3⟩ := (ih _).1 (lat_zero_mem hn)
        have hlen : 0 < (hereF dst V).length := List.length_pos_iff.2 hn
        by_cases hlt : (lat (hereF dst V) 0).p.d.n < e.p.d.n
        · have : hstep dst (hereF dst V) e = [e] := by
            have e1 : (if 0 < (hereF dst V).length ∧ (lat (hereF dst V) 0).p.d.n < e.p.d.n then [] else hereF dst V) = [] := if_pos ⟨hlen, hlt⟩
            unfold hstep
            rw [if_neg hc]
            simp only [e1]
            simp
          rw [this]
          simp only [List.mem_singleton, List.mem_append]
          constructor
          · rintro rfl
            refine ⟨.inr rfl, hc', fun y hy hcy => ?_⟩
            rcases hy with hy | rfl
            · have := m3 y hy hcy; omega
            · exact Int.le_refl _
          · rintro ⟨h1, h2, h3⟩
            rcases h1 with h1 | h1
            · have k1 := h3 e (.inr rfl) hc'
              have k2 := m3 x h1 h2
              omega
            · exact h1
        · have e1 : (if 0 < (hereF dst V).length ∧ (lat (hereF dst V) 0).p.d.n < e.p.d.n then [] else hereF dst V) = hereF dst V := if_neg (fun h => hlt h.2)
          by_cases heq : e.p.d.n = (lat (hereF dst V) 0).p.d.n
          · have : hstep dst (hereF dst V) e = hereF dst V ++ [e] := by
              unfold hstep
              rw [if_neg hc]
              simp only [e1]
              rw [if_pos (.inr heq)]
            rw [this]
            simp only [List.mem_singleton, List.mem_append]
            constructor
            · rintro (hx | rfl)
              · obtain ⟨a1, a2, a3⟩ := (ih x).1 hx
                refine ⟨.inl a1, a2, fun y hy hcy => ?_⟩
                rcases hy with hy | rfl
                · exact a3 y hy hcy
                · have := key x hx _ (lat_zero_mem hn); omega
              · refine ⟨.inr rfl, hc', fun y hy hcy => ?_⟩
                rcases hy with hy | rfl
                · have := m3 y hy hcy; omega
                · exact Int.le_refl _
            · rintro ⟨h1, h2, h3⟩
              rcases h1 with h1 | h1
              · exact .inl ((ih x).2 ⟨h1, h2, fun y hy hcy => h3 y (.inl hy) hcy⟩)
              · exact .inr h1
          · have : hstep dst (hereF dst V) e = hereF dst V := by
              unfold hstep
              rw [if_neg hc]
              simp only [e1]
              rw [if_neg (fun h => h.elim (fun h => by omega) heq)]
            rw [this, ih x]
            simp only [List.mem_singleton, List.mem_append]
            constructor
            · rintro ⟨h1, h2, h3⟩
              refine ⟨.inl h1, h2, fun y hy hcy => ?_⟩
              rcases hy with hy | rfl
              · exact h3 y hy hcy
              · have := h3 _ m1 m2; omega
            · rintro ⟨h1, h2, h3⟩
              rcases h1 with h1 | rfl
              · exact ⟨h1, h2, fun y hy hcy => h3 y (.inl hy) hcy⟩
              · have := h3 _ (.inl m1) m2; omega

/-- the one of the longest source -/
theorem ksel_spec (src : List Int) (l : List En) : (ksel src l = (default, false) ∧ ∀ x ∈ l, contains x.p.s.a x.p.s.n src = false) ∨
    ((ksel src l).2 = true ∧ (ksel src l).1 ∈ l ∧ contains (ksel src l).1.p.s.a (ksel src l).1.p.s.n src = true ∧ ∀ x ∈ l, contains x.p.s.a x.p.s.n src = true → x.p.s.n ≤ (ksel src l).1.p.s.n) := by
  induction l using snoc_ind with
  | h0 => left; exact ⟨rfl, by simp⟩
  | h1 l e ih =>
    rw [ksel_snoc]
    by_cases hc : contains e.p.s.a e.p.s.n src = true
    · rcases ih with ⟨h1, h2⟩ | ⟨h1, h2, h3, h4⟩
      · right
        have : kstep src (ksel src l) e = (e, true) := by unfold kstep; rw [if_pos ⟨hc, .inl (by rw [h1])⟩]
        rw [this]
        refine ⟨rfl, by simp, hc, fun x hx hcx => ?_⟩
        rcases List.mem_append.1 hx with hx | hx
        · rw [h2 x hx] at hcx; cases hcx
        · rw [List.mem_singleton.1 hx]; exact Int.le_refl _
      · right
        by_cases hlt : (ksel src l).1.p.s.n < e.p.s.n
        · have : kstep src (ksel src l) e = (e, true) := by unfold kstep; rw [if_pos ⟨hc, .inr hlt⟩]
          rw [this]
          refine ⟨rfl, by simp, hc, fun x hx hcx => ?_⟩
          rcases List.mem_append.1 hx with hx | hx
          · have := h4 x hx hcx; show x.p.s.n ≤ e.p.s.n; omega
          · rw [List.mem_singleton.1 hx]; exact Int.le_refl _
        · have : kstep src (ksel src l) e = ksel src l := by
            unfold kstep
            rw [if_neg (fun h => h.2.elim (fun h => by rw [h1] at h; cases h) hlt)]
          rw [this]
          refine ⟨h1, by simp [h2], h3, fun x hx hcx => ?_⟩
          rcases List.mem_append.1 hx with hx | hx
          · exact h4 x hx hcx
          · rw [List.mem_singleton.1 hx]; omega
    · have : kstep src (ksel src l) e = ksel src l := by unfold kstep; rw [if_neg (fun h => hc h.1)]
      rw [this]
      rcases ih with ⟨h1, h2⟩ | ⟨h1, h2, h3, h4⟩
      · left
        refine ⟨h1, fun x hx => ?_⟩
        rcases List.mem_append.1 hx with hx | hx
        · exact h2 x hx
        · rw [List.mem_singleton.1 hx]; simpa using hc
      · right
        refine ⟨h1, by simp [h2], h3, fun x hx hcx => ?_⟩
        rcases List.mem_append.1 hx with hx | hx
        · exact h4 x hx hcx
        · rw [List.mem_singleton.1 hx] at hcx; exact absurd hcx hc

theorem contains_a {a b : List Int} {n : Int} (ha : AdOk a) (h : contains a n b = true) : a = mk1 b n 16 := by
  simp only [contains, Bool.and_eq_true] at h
  have h2 := h.2
  have : eqBytes 16 (mk1 b n 16) a = decide (mk1 b n 16 = a) := eqBytes_iff (by simp [mk1]) ha.1
  rw [this] at h2
  exact (of_decide_eq_true h2).symm

/-- entries that are told apart by their pairs -/
def Apart (V : List En) : Prop := (∀ e ∈ V, e.ok) ∧ ∀ x ∈ V, ∀ y ∈ V, x.p = y.p → x = y

/-- The order does not matter. -/
theorem klook_perm {src dst : List Int} {V W : List En} (hV : Apart V) (hp : W.Perm V) : klookL src dst W = klookL src dst V := by
  have hm : ∀ x, x ∈ hereF dst W ↔ x ∈ hereF dst V := fun x => by
    rw [here_mem, here_mem, hp.mem_iff]
    constructor
    · rintro ⟨h1, h2, h3⟩; exact ⟨h1, h2, fun y hy => h3 y (hp.mem_iff.2 hy)⟩
    · rintro ⟨h1, h2, h3⟩; exact ⟨h1, h2, fun y hy => h3 y (hp.mem_iff.1 hy)⟩
  unfold klookL
  rcases ksel_spec src (hereF dst W) with ⟨h1, h2⟩ | ⟨h1, h2, h3, h4⟩
  · rcases ksel_spec src (hereF dst V) with ⟨k1, _⟩ | ⟨_, k2, k3, _⟩
    · rw [h1, k1]
    · rw [h2 _ ((hm _).2 k2)] at k3; cases k3
  · rcases ksel_spec src (hereF dst V) with ⟨_, k2⟩ | ⟨k1, k2, k3, k4⟩
    · rw [k2 _ ((hm _).1 h2)] at h3; cases h3
    · have hs : (ksel src (hereF dst W)).1.p.s.n = (ksel src (hereF dst V)).1.p.s.n := by
        have := h4 _ ((hm _).2 k2) k3
        have := k4 _ ((hm _).1 h2) h3
        omega
      obtain ⟨m1, m2, m3⟩ := (here_mem dst V _).1 ((hm _).1 h2)
      obtain ⟨n1, n2, n3⟩ := (here_mem dst V _).1 k2
      have hd : (ksel src (hereF dst W)).1.p.d.n = (ksel src (hereF dst V)).1.p.d.n := by
        have := m3 _ n1 n2
        have := n3 _ m1 m2
        omega
      have o1 := (hV.1 _ m1).1
      have o2 := (hV.1 _ n1).1
      simp only [cand, Bool.and_eq_true] at m2 n2
      have e1 : (ksel src (hereF dst W)).1.p.d.a = (ksel src (hereF dst V)).1.p.d.a := by rw [contains_a o1.1 m2.2, contains_a o2.1 n2.2, hd]
      have e2 : (ksel src (hereF dst W)).1.p.s.a = (ksel src (hereF dst V)).1.p.s.a := by rw [contains_a o1.2 h3, contains_a o2.2 k3, hs]
      have e3 : (ksel src (hereF dst W)).1.p = (ksel src (hereF dst V)).1.p := by
        cases hx : (ksel src (hereF dst W)).1.p with
        | mk d s =>
          cases hy : (ksel src (hereF dst V)).1.p with
          | mk d' s' =>
            rw [hx, hy] at e1 e2 hs hd
            cases d; cases s; cases d'; cases s'
            simp only at e1 e2 hs hd
            rw [e1, e2, hs, hd]
      have e4 := hV.2 _ m1 _ n1 e3
      exact Prod.ext e4 (h1.trans k1.symm)

end Go.Vm
