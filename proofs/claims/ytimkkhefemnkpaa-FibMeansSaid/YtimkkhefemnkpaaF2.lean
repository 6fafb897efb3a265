/- Putting into a sorted list: the plain law. -/
import Derived.Test.YtimkkhefemnkpaaF1
namespace Go.Vm
open Go Go.Proofs

theorem lat_cons_zero {x : En} {l : List En} : lat (x :: l) 0 = x := rfl
theorem lat_cons_succ {x : En} {l : List En} {k : Nat} : lat (x :: l) (k + 1) = lat l k := rfl

theorem tput_set {e : En} : ∀ {l : List En} {k : Nat}, TOk l → k < l.length → (lat l k).p = e.p → l.set k e = tput e l
  | [], _, _, h, _ => absurd h (Nat.not_lt_zero _)
  | x :: l, 0, _, _, hp => by
    rw [lat_cons_zero] at hp
    simp only [List.set_cons_zero, tput]
    rw [if_pos hp]
  | x :: l, k + 1, ho, h, hp => by
    rw [lat_cons_succ] at hp
    have hk : k < l.length := by simpa using h
    have hs := List.pairwise_cons.1 ho.srt
    have hlt : cmpR x.p e.p < 0 := hp ▸ hs.1 _ (lat_mem hk)
    have hne : ¬ x.p = e.p := fun e1 => by rw [e1, cmpR_self] at hlt; omega
    simp only [List.set_cons_succ, tput]
    rw [if_neg hne, if_neg (by omega)]
    exact congrArg _ (tput_set ⟨fun y hy => ho.ok y (by simp [hy]), hs.2⟩ hk hp)

theorem tput_ins {e : En} : ∀ {l : List En} {k : Nat}, TOk l → k ≤ l.length → (∀ j, j < l.length → (lat l j).p ≠ e.p) → (∀ j, k ≤ j → j < l.length → 0 < cmpR (lat l j).p e.p) → (k = 0 ∨ ¬ 0 < cmpR (lat l (k - 1)).p e.p) → (l.take k ++ [e]) ++ l.drop k = tput e l
  | [], k, _, h, _, _, _ => by
    have : k = 0 := by simpa using h
    subst this; rfl
  | x :: l, 0, _, _, hn, hg, _ => by
    have h0 := hn 0 (by simp)
    have h1 := hg 0 (Nat.le_refl _) (by simp)
    rw [lat_cons_zero] at h0 h1
    simp only [tput]
    rw [if_neg h0, if_pos h1]
    rfl
  | x :: l, k + 1, ho, h, hn, hg, hb => by
    have hk : k ≤ l.length := by simpa using h
    have hs := List.pairwise_cons.1 ho.srt
    have h0 := hn 0 (by simp)
    rw [lat_cons_zero] at h0
    have hx : ¬ 0 < cmpR x.p e.p := by
      rcases hb with hb | hb
      · omega
      · rw [Nat.add_sub_cancel] at hb
        cases k with
        | zero => exact hb
        | succ k =>
          rw [lat_cons_succ] at hb
          have h2 := hs.1 _ (lat_mem (show k < l.length by omega))
          intro h3
          have h4 := cmpR_ord.anti (lat l k).p e.p
          have h5 := cmpR_ord.anti x.p e.p
          have h6 : cmpR e.p x.p < 0 := by omega
          have h7 := cmpR_lt_trans h6 h2
          omega
    have hb' : k = 0 ∨ ¬ 0 < cmpR (lat l (k - 1)).p e.p := by
      cases k with
      | zero => exact .inl rfl
      | succ k => right; rcases hb with hb | hb
                  · omega
                  · simpa using hb
    simp only [tput]
    rw [if_neg h0, if_neg hx]
    have := tput_ins (e := e) ⟨fun y hy => ho.ok y (by simp [hy]), hs.2⟩ hk (fun j hj => by have := hn (j + 1) (by simpa using hj); rwa [lat_cons_succ] at this)
      (fun j h1 h2 => by have := hg (j + 1) (by omega) (by simpa using h2); rwa [lat_cons_succ] at this) hb'
    simp only [List.take_succ_cons, List.drop_succ_cons, List.cons_append]
    exact congrArg _ this

theorem fnd_ge {p : Pr} {l : List En} (h : 0 ≤ fnd p l) : ∃ k : Nat, fnd p l = k ∧ k < l.length ∧ (lat l k).p = p := by
  unfold fnd at h ⊢
  cases hf : l.findIdx? (fun e => decide (e.p = p)) with
  | none => rw [hf] at h; simp at h
  | some k =>
    rw [List.findIdx?_eq_some_iff_getElem] at hf
    obtain ⟨h1, h2, _⟩ := hf
    exact ⟨k, rfl, h1, by simpa [lat, List.getD, List.getElem?_eq_getElem h1] using h2⟩
theorem fnd_neg {p : Pr} {l : List En} (h : fnd p l < 0) : ∀ j, j < l.length → (lat l j).p ≠ p := by
  intro j hj e
  unfold fnd at h
  cases hf : l.findIdx? (fun e => decide (e.p = p)) with
  | none =>
    rw [List.findIdx?_eq_none_iff] at hf
    have := of_decide_eq_false (hf _ (lat_mem hj))
    exact this e
  | some k => rw [hf] at h; simp at h; omega

theorem fnd_has {p : Pr} {l : List En} : decide (0 ≤ fnd p l) = has p l := by
  unfold has tlook
  rw [Bool.eq_iff_iff, decide_eq_true_eq, List.find?_isSome]
  constructor
  · intro h
    obtain ⟨k, _, h2, h3⟩ := fnd_ge h
    exact ⟨_, lat_mem h2, by simpa using h3⟩
  · rintro ⟨x, hx, hp⟩
    simp only [decide_eq_true_eq] at hp
    apply Decidable.byContradiction
    intro hc
    obtain ⟨j, hj, rfl⟩ := List.mem_iff_getElem.1 hx
    refine fnd_neg (p := p) (l := l) (by omega) j hj ?_
    simpa [lat, List.getD, List.getElem?_eq_getElem hj] using hp

theorem set_cell {l : List En} {k : Nat} {e : En} (hk : k < l.length) : ∀ i, i < (l.set k e).length → enE (lat (l.set k e) i) = (fun j => if j = k then enE e else enE (lat l j)) i := by
  intro i hi
  rw [List.length_set] at hi
  simp only [lat, List.getD_eq_getElem?_getD, List.getElem?_set]
  by_cases h : k = i
  · subst h; simp [hk]
  · rw [if_neg h, if_neg (fun e => h e.symm)]

theorem CLe.setv {A : Fr} {a : Option Nat} {T : TypeId} {z cap k : Nat} {l : List En} {e : En} (hk : k < l.length) :
    CLe A (.vec a T z cap l.length (fun j => if j = 0 + ((k : Nat) : Int).toNat then enE e else enE (lat l j))) (lvec a T z cap enE (l.set k e)) := by
  show CLe A _ (.vec a T z cap (l.set k e).length fun j => enE (lat (l.set k e) j))
  rw [List.length_set]
  refine CLe.vec fun i hi => ?_
  rw [set_cell hk i (by rw [List.length_set]; exact hi), Nat.zero_add, Int.toNat_natCast]
theorem drop_sl {l : List En} {k cap : Nat} (h : l.length ≤ cap) (hk : k ≤ l.length) : l.drop k = (l.drop (if cap = k then 0 else 0 + k)).take (l.length - k) := by
  split
  · rw [List.drop_eq_nil_of_le (by omega), show l.length - k = 0 by omega]; rfl
  · rw [Nat.zero_add, List.take_of_length_le (by simp)]
theorem drop_in {l : List En} {k cap : Nat} (h : l.length ≤ cap) (hk : k ≤ l.length) : (if cap = k then 0 else 0 + k) + (l.length - k) ≤ l.length := by split <;> omega
theorem take_sl {l : List En} {k cap : Nat} : l.take k = (l.drop (if cap = 0 then 0 else 0 + 0)).take (k - 0) := by split <;> simp
theorem take_in {l : List En} {k cap : Nat} (hk : k ≤ l.length) : (if cap = 0 then 0 else 0 + 0) + (k - 0) ≤ l.length := by split <;> omega

end Go.Vm
