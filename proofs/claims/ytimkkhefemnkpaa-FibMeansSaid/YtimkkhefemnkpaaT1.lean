/- Tables as sorted lists. -/
import Derived.Test.YtimkkhefemnkpaaK3
namespace Go.Vm
open Go Go.Proofs

/-- A contract in other words. -/
theorem Spec.conseq {P : Program} {f : FuncId} {vs vs' : List V} {H H' : List (Nat × Cell)} {post post' : V → List (Nat × Cell) → Prop} (h : Spec P f vs H post) (hr : vs.map V.real = vs'.map V.real) (hok : ∀ A, (∀ v ∈ vs', VOk A v) → ∀ v ∈ vs, VOk A v)
    (hH : ∀ A, HLe A H' H) (hp : ∀ r H1, post r H1 → ∃ r' H2, post' r' H2 ∧ r'.real = r.real ∧ (∀ A, VOk A r → VOk A r') ∧ ∀ A, HLe A H1 H2) : Spec P f vs' H' post' := by
  intro A F w hAF hH' hargs
  have := h A F w hAF (hH A F w hH') (hok A hargs)
  rw [hr] at this
  refine this.mono ?_
  rintro e w' ⟨r, H1, hpost, rfl, hro, ok⟩
  obtain ⟨r', H2, h1, h2, h3, h4⟩ := hp r H1 hpost
  exact ⟨r', H2, h1, by rw [h2], h3 A hro, h4 A F w' ok⟩

theorem list57 (t u mb : Nat) (htu : u ≠ t) {T : List En} (h : TOk T) (hn : T.length ≤ 1000000) : Spec Try.prog 57 [.map t (some mb)] [(t, tbl mb T)] (fun r H' => ∃ a cap, r = .sl u a 51 0 cap T.length ∧ H' = [(t, tbl mb T), (u, lvec a 37 51 cap enE T)]) := by
  refine (list57_spec mb h hn).conseq rfl (fun _ h => by simp [VOk]) (fun A => HLe.sub (.cons (s := t) (by rw [get_cons, if_pos rfl]) (CLe.refl _ _) rfl .nil)) ?_
  rintro r H1 ⟨a, cap, rfl, rfl⟩
  exact ⟨.sl u a 51 0 cap T.length, _, ⟨a, cap, rfl, rfl⟩, by cases a <;> rfl, fun _ _ => trivial, fun A => HLe.sub (.cons (s := 51) rfl (CLe.refl _ _) rfl (.cons (s := 104) rfl (CLe.refl _ _) rfl .nil))⟩

theorem list61 (t u mb : Nat) (htu : u ≠ t) {T : List En} (h : TOk T) (hn : T.length ≤ 1000000) : Spec Try.prog 61 [.map t (some mb)] [(t, tbl mb T)] (fun r H' => ∃ a cap, r = .sl u a 51 0 cap T.length ∧ H' = [(t, tbl mb T), (u, lvec a 37 51 cap enE T)]) := by
  refine (list61_spec mb h hn).conseq rfl (fun _ h => by simp [VOk]) (fun A => HLe.sub (.cons (s := t) (by rw [get_cons, if_pos rfl]) (CLe.refl _ _) rfl .nil)) ?_
  rintro r H1 ⟨a, cap, rfl, rfl⟩
  exact ⟨.sl u a 51 0 cap T.length, _, ⟨a, cap, rfl, rfl⟩, by cases a <;> rfl, fun _ _ => trivial, fun A => HLe.sub (.cons (s := 51) rfl (CLe.refl _ _) rfl (.cons (s := 104) rfl (CLe.refl _ _) rfl .nil))⟩

/-! ### looking up, putting, removing -/

def tlook (p : Pr) (T : List En) : Option En := T.find? fun e => decide (e.p = p)
def tdel (p : Pr) (T : List En) : List En := T.filter fun e => decide (e.p ≠ p)
def tput (e : En) : List En → List En
  | [] => [e]
  | x :: T => if x.p = e.p then e :: T else if 0 < cmpR x.p e.p then e :: x :: T else x :: tput e T

theorem alook_tlook (p : Pr) (T : List En) : alook p (tblKV T) = tlook p T := by
  unfold alook tlook tblKV
  rw [List.find?_map]
  cases h : T.find? ((fun x : Pr × En => decide (x.1 = p)) ∘ fun e => (e.p, e)) with
  | none => rw [Option.map_none, Option.map_none]; exact h.symm
  | some x => simp only [Option.map_some]; exact h.symm

theorem adel_tdel (p : Pr) (T : List En) : adel p (tblKV T) = tblKV (tdel p T) := by
  unfold adel tdel tblKV
  rw [List.filter_map]
  rfl

theorem tput_mem {e x : En} : ∀ {T : List En}, x ∈ tput e T → x = e ∨ x ∈ T
  | [], h => by simp only [tput, List.mem_singleton] at h; exact .inl h
  | y :: T, h => by
    simp only [tput] at h
    split at h
    · rcases List.mem_cons.1 h with h | h
      · exact .inl h
      · exact .inr (by simp [h])
    · split at h
      · rcases List.mem_cons.1 h with h | h
        · exact .inl h
        · exact .inr h
      · rcases List.mem_cons.1 h with h | h
        · exact .inr (by simp [h])
        · rcases tput_mem h with h | h
          · exact .inl h
          · exact .inr (by simp [h])

theorem cmpR_lt_trans {p q r : Pr} (h1 : cmpR p q < 0) (h2 : cmpR q r < 0) : cmpR p r < 0 := by
  have := cmpR_ord.swo.trans p q r
  simp only [Go.Proofs.ltOf, decide_eq_true_eq] at this
  exact this h1 h2

theorem TOk.put {T : List En} (h : TOk T) {e : En} (he : e.ok) : TOk (tput e T) := by
  refine ⟨fun x hx => ?_, ?_⟩
  · rcases tput_mem hx with rfl | hx
    · exact he
    · exact h.ok x hx
  · obtain ⟨ho, hs⟩ := h
    induction T with
    | nil => simp [tput]
    | cons y T ih =>
      rw [List.pairwise_cons] at hs
      simp only [tput]
      split
      · rename_i hy
        rw [List.pairwise_cons]
        exact ⟨fun z hz => hy ▸ hs.1 z hz, hs.2⟩
      · rename_i hy
        split
        · rename_i hc
          have hlt : cmpR e.p y.p < 0 := by have := cmpR_ord.anti y.p e.p; omega
          rw [List.pairwise_cons]
          refine ⟨fun z hz => ?_, List.pairwise_cons.2 hs⟩
          rcases List.mem_cons.1 hz with rfl | hz
          · exact hlt
          · exact cmpR_lt_trans hlt (hs.1 z hz)
        · rename_i hc
          have hlt : cmpR y.p e.p < 0 := by
            by_cases h0 : cmpR y.p e.p = 0
            · exact absurd (cmpR_zero (ho y (by simp)).1 he.1 h0) hy
            · omega
          rw [List.pairwise_cons]
          refine ⟨fun z hz => ?_, ih (fun x hx => ho x (by simp [hx])) hs.2⟩
          rcases tput_mem hz with rfl | hz
          · exact hlt
          · exact hs.1 z hz

theorem TOk.del {T : List En} (h : TOk T) (p : Pr) : TOk (tdel p T) := ⟨fun x hx => h.ok x (List.mem_filter.1 hx).1, h.srt.sublist (List.filter_sublist)⟩

theorem tput_perm {e : En} : ∀ {T : List En}, T.Pairwise (fun x y => cmpR x.p y.p < 0) → (tput e T).Perm (e :: tdel e.p T)
  | [], _ => by simp [tput, tdel]
  | y :: T, hs => by
    rw [List.pairwise_cons] at hs
    have hT : ∀ p, cmpR y.p p ≤ 0 ∨ True := fun _ => .inr trivial
    simp only [tput]
    split
    · rename_i hy
      have : tdel e.p (y :: T) = T := by
        unfold tdel
        rw [List.filter_cons_of_neg (by simp [hy]), List.filter_eq_self]
        intro x hx
        have := hs.1 x hx
        simp only [ne_eq, decide_not, Bool.not_eq_eq_eq_not, Bool.not_true, decide_eq_false_iff_not]
        intro e1
        rw [e1, hy, cmpR_self] at this
        omega
      rw [this]
    · rename_i hy
      have hc : tdel e.p (y :: T) = y :: tdel e.p T := by unfold tdel; rw [List.filter_cons_of_pos (by simp [hy])]
      rw [hc]
      split
      · rename_i hlt
        have : tdel e.p T = T := by
          unfold tdel
          rw [List.filter_eq_self]
          intro x hx
          have h1 := hs.1 x hx
          simp only [ne_eq, decide_not, Bool.not_eq_eq_eq_not, Bool.not_true, decide_eq_false_iff_not]
          intro e1
          rw [e1] at h1
          omega
        rw [this]
      · exact ((tput_perm hs.2).cons y).trans (.swap _ _ _)

theorem aput_tput {T : List En} (h : TOk T) (e : En) : (aput e.p e (tblKV T)).Perm (tblKV (tput e T)) := by
  unfold aput
  rw [adel_tdel]
  exact ((tput_perm h.srt).map (fun e => (e.p, e))).symm

theorem tput_length {e : En} : ∀ {T : List En}, (tput e T).length ≤ T.length + 1
  | [] => by simp [tput]
  | y :: T => by
    simp only [tput]
    have := tput_length (e := e) (T := T)
    split
    · simp
    · split
      · simp
      · simp; omega

theorem tdel_length {p : Pr} {T : List En} : (tdel p T).length ≤ T.length := List.length_filter_le _ _

theorem tlook_mem {p : Pr} {T : List En} {e : En} (h : tlook p T = some e) : e ∈ T ∧ e.p = p := by
  have h1 := List.find?_some h
  have h2 := List.mem_of_find?_eq_some h
  exact ⟨h2, by simpa using h1⟩

end Go.Vm
