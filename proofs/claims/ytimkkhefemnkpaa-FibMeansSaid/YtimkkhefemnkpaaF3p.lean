/- Lists handed back, entries taken out: the plain laws. -/
import Derived.Test.YtimkkhefemnkpaaF3
namespace Go.Vm
open Go Go.Proofs

theorem sl_cells {t t' z i cap n : Nat} {a : Option Nat} : (V.sl t a z i cap n).cells = (V.sl t' a z i cap n).cells := by cases a <;> rfl

theorem plain_enl {r : V} {t : Nat} {a : Option Nat} {cap : Nat} {l : List En} (hr : ∀ A, VOk A r) : Plain r [(t, lvec a 37 51 cap enE l)] := by
  refine ⟨hr, fun u c hg A B h hc => ?_⟩
  obtain ⟨rfl, rfl⟩ := get1 hg
  cases a with
  | none => exact hc
  | some b =>
    obtain ⟨h0, h1, h2⟩ := hc
    exact ⟨h0, fun i hi => ⟨(h1 i hi).1, (h1 i hi).2.1, by simp [VOk]⟩, h2⟩

theorem plain_put {l : List En} : ∀ (r : V) (H' : List (Nat × Cell)), (∃ a' cap', r = V.sl 2044 a' 51 0 cap' l.length ∧ H' = [(2044, lvec a' 37 51 cap' enE l)]) → Plain r H' := by
  rintro r H' ⟨a, cap, rfl, rfl⟩
  exact plain_enl fun _ => trivial

theorem tdel_at {p : Pr} : ∀ {l : List En} {k : Nat}, TOk l → k < l.length → (lat l k).p = p → l.take k ++ l.drop (k + 1) = tdel p l
  | [], _, _, h, _ => absurd h (Nat.not_lt_zero _)
  | x :: l, 0, ho, _, hp => by
    rw [lat_cons_zero] at hp
    have hs := List.pairwise_cons.1 ho.srt
    have : tdel p (x :: l) = l := by
      unfold tdel
      rw [List.filter_cons_of_neg (by simp [hp]), List.filter_eq_self]
      intro y hy
      have := hs.1 y hy
      simp only [ne_eq, decide_not, Bool.not_eq_eq_eq_not, Bool.not_true, decide_eq_false_iff_not]
      intro e
      rw [hp, e, cmpR_self] at this
      omega
    rw [this]; rfl
  | x :: l, k + 1, ho, h, hp => by
    rw [lat_cons_succ] at hp
    have hk : k < l.length := by simpa using h
    have hs := List.pairwise_cons.1 ho.srt
    have hne : x.p ≠ p := fun e => by
      have := hs.1 _ (lat_mem hk)
      rw [hp, e, cmpR_self] at this
      omega
    have : tdel p (x :: l) = x :: tdel p l := by unfold tdel; rw [List.filter_cons_of_pos (by simp [hne])]
    rw [this, ← tdel_at ⟨fun y hy => ho.ok y (by simp [hy]), hs.2⟩ hk hp]
    rfl

theorem has_t {p : Pr} {l : List En} (h : fnd p l ≥ 0) : has p l = true := by rw [← fnd_has]; exact decide_eq_true h
theorem has_f {p : Pr} {l : List En} (h : ¬ fnd p l ≥ 0) : has p l = false := by rw [← fnd_has]; exact decide_eq_false h
theorem has_t' {p : Pr} {l : List En} (h : ¬ fnd p l < 0) : has p l = true := has_t (by omega)
theorem has_f' {p : Pr} {l : List En} (h : fnd p l < 0) : has p l = false := has_f (by omega)

end Go.Vm
