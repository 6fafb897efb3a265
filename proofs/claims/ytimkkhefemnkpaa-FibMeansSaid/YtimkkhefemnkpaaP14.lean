/- Where it does not matter where packets come from nothing is added: plain. -/
import Derived.Test.YtimkkhefemnkpaaP9
namespace Go.Vm
open Go Go.Proofs

def anyP (f : Int) : Pfx := if f = 4 then ⟨ad4, 96⟩ else ⟨ad0, 0⟩
theorem anyP_V (f : Int) : pfE (anyP f) = if f = 4 then pfV ad4 96 else pfV ad0 0 := by unfold anyP; split <;> rfl
theorem famP_two (a : List Int) (n : Int) : famP a n = 4 ∨ famP a n = 6 := by
  unfold famP famA
  split
  · exact .inr rfl
  · split
    · exact .inl rfl
    · exact .inr rfl
theorem any4 : famP ad4 96 = 4 ∧ okp ad4 96 = true := by constructor <;> decide +kernel
theorem any6 : famP ad0 0 = 6 ∧ okp ad0 0 = true := by constructor <;> decide +kernel
theorem anyP_ok (f : Int) : (anyP f).ok := by
  unfold anyP; split
  · exact ⟨rfl, by decide⟩
  · exact ⟨rfl, by decide⟩
theorem anyP_may (a : List Int) (n : Int) : okp (anyP (famP a n)).a (anyP (famP a n)).n = true ∧ famP (anyP (famP a n)).a (anyP (famP a n)).n = famP a n := by
  rcases famP_two a n with h | h <;> rw [h]
  · exact ⟨any4.2, any4.1⟩
  · exact ⟨any6.2, any6.1⟩

/-- an entry for packets from anywhere -/
def plE (e : En) : En := ⟨⟨e.p.d, anyP (famP e.p.d.a e.p.d.n)⟩, e.i, e.h⟩
def plS (out : List En) (e : En) : List En := if okp e.p.d.a e.p.d.n = true ∧ fnd (plE e).p out < 0 then out ++ [plE e] else out
def plL (l : List En) : List En := l.foldl plS []
theorem pl_step {l : List En} {k : Nat} (h : k < l.length) : plL (l.take (k + 1)) = plS (plL (l.take k)) (lat l k) := fold_step h
theorem plS_yes {out : List En} {e : En} (h1 : okp e.p.d.a e.p.d.n = true) (h2 : fnd (plE e).p out < 0) : plS out e = out ++ [plE e] := if_pos ⟨h1, h2⟩
theorem plS_no {out : List En} {e : En} (h : ¬ (okp e.p.d.a e.p.d.n = true ∧ fnd (plE e).p out < 0)) : plS out e = out := if_neg h

structure POk (P : List En) : Prop where
  ok : ∀ e ∈ P, e.ok
  may : ∀ e ∈ P, okR e.p = true
  any : ∀ e ∈ P, e.p.s = anyP (famP e.p.d.a e.p.d.n)
  dis : P.Pairwise fun x y => x.p ≠ y.p

theorem plE_ok {e : En} (h : e.ok) : (plE e).ok := ⟨⟨h.1.1, anyP_ok _⟩, h.2⟩
theorem plE_may {e : En} (h : okp e.p.d.a e.p.d.n = true) : okR (plE e).p = true := okpair_iff.2 ⟨h, (anyP_may _ _).1, (anyP_may _ _).2.symm⟩
theorem POk.step {P : List En} (h : POk P) {e : En} (he : e.ok) : POk (plS P e) := by
  unfold plS; split
  · rename_i hc
    have mem : ∀ x ∈ P ++ [plE e], x ∈ P ∨ x = plE e := fun x hx => by
      rcases List.mem_append.1 hx with hx | hx
      · exact .inl hx
      · exact .inr (List.mem_singleton.1 hx)
    refine ⟨fun x hx => ?_, fun x hx => ?_, fun x hx => ?_, ?_⟩
    · rcases mem x hx with hx | rfl
      · exact h.ok x hx
      · exact plE_ok he
    · rcases mem x hx with hx | rfl
      · exact h.may x hx
      · exact plE_may hc.1
    · rcases mem x hx with hx | rfl
      · exact h.any x hx
      · rfl
    · rw [List.pairwise_append]
      refine ⟨h.dis, List.pairwise_singleton _ _, fun x hx y hy => ?_⟩
      rw [List.mem_singleton.1 hy]
      obtain ⟨j, hj, rfl⟩ := List.mem_iff_getElem.1 hx
      have := fnd_neg hc.2 j hj
      simpa [lat, List.getD, List.getElem?_eq_getElem hj] using this
  · exact h
theorem plL_ok {l : List En} (h : ∀ e ∈ l, e.ok) : POk (plL l) := by
  have : ∀ (l out : List En), POk out → (∀ e ∈ l, e.ok) → POk (l.foldl plS out) := by
    intro l
    induction l with
    | nil => intro out h _; exact h
    | cons x l ih => intro out h ho; exact ih _ (h.step (ho x (by simp))) (fun e he => ho e (by simp [he]))
  exact this l [] ⟨by simp, by simp, by simp, List.Pairwise.nil⟩ h
theorem plL_len (l : List En) : (plL l).length ≤ l.length := by
  have : ∀ (l out : List En), (l.foldl plS out).length ≤ out.length + l.length := by
    intro l
    induction l with
    | nil => intro out; simp
    | cons x l ih =>
      intro out
      have h1 := ih (plS out x)
      have h2 : (plS out x).length ≤ out.length + 1 := by unfold plS; split <;> simp
      simp only [List.foldl_cons, List.length_cons]; omega
  have := this l []
  simpa [plL] using this

theorem dis_uniq {P : List En} (h : P.Pairwise fun x y => x.p ≠ y.p) {x y : En} (hx : x ∈ P) (hy : y ∈ P) (e : x.p = y.p) : x = y := by
  obtain ⟨i, hi, rfl⟩ := List.mem_iff_getElem.1 hx
  obtain ⟨j, hj, rfl⟩ := List.mem_iff_getElem.1 hy
  rcases Nat.lt_trichotomy i j with hij | hij | hij
  · exact absurd e (List.pairwise_iff_getElem.1 h i j hi hj hij)
  · subst hij; rfl
  · exact absurd e.symm (List.pairwise_iff_getElem.1 h j i hj hi hij)
theorem tput_new {e : En} : ∀ {T : List En}, has e.p T = false → (tput e T).length = T.length + 1
  | [], _ => rfl
  | x :: T, h => by
    have hx : ¬ x.p = e.p := fhas_false h x (by simp)
    have hT : has e.p T = false := by
      cases hh : has e.p T with
      | false => rfl
      | true =>
        obtain ⟨y, hy, e2⟩ := fhas_true hh
        exact absurd e2 (fhas_false h y (by simp [hy]))
    simp only [tput]
    rw [if_neg hx]
    split
    · simp
    · simp [tput_new hT]

/-- to clean entries of which each is of another pair: all stay -/
theorem clean_all {P : List En} (hok : ∀ e ∈ P, e.ok) (hmay : ∀ e ∈ P, okR e.p = true) (hdis : P.Pairwise fun x y => x.p ≠ y.p) : (∀ e, e ∈ cleanL P ↔ e ∈ P) ∧ (cleanL P).length = P.length := by
  have key : ∀ k, k ≤ P.length → (∀ e, e ∈ cleanL (P.take k) ↔ e ∈ P.take k) ∧ (cleanL (P.take k)).length = k := by
    intro k
    induction k with
    | zero => intro _; exact ⟨fun e => by simp [cleanL], rfl⟩
    | succ k ih =>
      intro hk
      have hk2 : k < P.length := hk
      obtain ⟨h1, h2⟩ := ih (by omega)
      have hm : lat P k ∈ P := lat_mem hk2
      have hn : has (lat P k).p (cleanL (P.take k)) = false := by
        cases hh : has (lat P k).p (cleanL (P.take k)) with
        | false => rfl
        | true =>
          obtain ⟨y, hy, e⟩ := fhas_true hh
          obtain ⟨j, hj, rfl⟩ := List.mem_iff_getElem.1 ((h1 y).1 hy)
          rw [List.length_take] at hj
          have := List.pairwise_iff_getElem.1 hdis j k (by omega) hk2 (by omega)
          rw [List.getElem_take] at e
          rw [show P[k] = lat P k by simp [lat, List.getD, List.getElem?_eq_getElem hk2]] at this
          exact absurd e this
      have hG := clean_ok (l := P.take k) (fun e he => hok e (List.take_subset _ _ he))
      rw [clean_step hk2, cstep_yes (hmay _ hm) hn]
      refine ⟨fun e => ?_, by rw [tput_new hn, h2]⟩
      rw [tput_mem_iff hG.toTOk (hok _ hm), take_succ_lat hk2, List.mem_append, List.mem_singleton, h1 e]
      constructor
      · rintro (h | ⟨h, _⟩)
        · exact .inr h
        · exact .inl h
      · rintro (h | h)
        · exact .inr ⟨h, fhas_false hn e ((h1 e).2 h)⟩
        · exact .inl h
  have := key P.length (Nat.le_refl _)
  rwa [List.take_length] at this

theorem exp_plain {G : List En} (hG : GOk G) (ha : ∀ e ∈ G, e.p.s = anyP (famP e.p.d.a e.p.d.n)) : expG G = G := by
  have own : ∀ x ∈ G, mkE G x x = x := fun x hx => by
    show (⟨⟨x.p.d, x.p.s⟩, (bestL x.p G).i, (bestL x.p G).h⟩ : En) = x
    rw [best_own hG hx]
  refine tok_ext (exp_ok hG).toTOk hG.toTOk fun e => ?_
  rw [exp_mem hG]
  constructor
  · rintro ⟨x, hx, y, hy, hc, rfl⟩
    obtain ⟨_, c2⟩ := pcond_iff.1 hc
    have f1 := (okpair_iff.1 c2).2.2
    have f2 : famP y.p.s.a y.p.s.n = famP y.p.d.a y.p.d.n := by rw [ha y hy]; exact (anyP_may _ _).2
    have hs : y.p.s = x.p.s := by rw [ha y hy, ha x hx, ← f2]; exact congrArg anyP f1.symm
    have : mkE G x y = mkE G x x := by unfold mkE; rw [hs]
    rw [this, own x hx]; exact hx
  · intro he
    exact ⟨e, he, e, he, pcond_iff.2 ⟨covers_self (okpair_iff.1 (hG.may e he)).1, hG.may e he⟩, (own e he).symm⟩

theorem plain_law {l : List En} (ho : ∀ e ∈ l, e.ok) : (∀ e, e ∈ expandL (plL l) ↔ e ∈ plL l) ∧ (expandL (plL l)).length = (plL l).length := by
  have hP := plL_ok ho
  obtain ⟨h1, h2⟩ := clean_all hP.ok hP.may hP.dis
  have : expandL (plL l) = cleanL (plL l) := exp_plain (clean_ok hP.ok) (fun e he => hP.any e ((h1 e).1 he))
  rw [this]
  exact ⟨h1, h2⟩
/-- where an entry of the expanded stands in the plain list -/
theorem plain_at {l : List En} (ho : ∀ e ∈ l, e.ok) {i : Nat} (hi : i < (expandL (plL l)).length) : ∃ q : Nat, fnd (lat (expandL (plL l)) i).p (plL l) = q ∧ q < (plL l).length ∧ lat (plL l) q = lat (expandL (plL l)) i := by
  have hm := ((plain_law ho).1 _).1 (lat_mem hi)
  have hf : 0 ≤ fnd (lat (expandL (plL l)) i).p (plL l) := of_decide_eq_true (fnd_has.trans (fhas_of hm rfl))
  obtain ⟨q, h1, h2, h3⟩ := fnd_ge hf
  exact ⟨q, h1, h2, dis_uniq (plL_ok ho).dis (lat_mem h2) hm h3⟩
theorem srt_at {T : List En} (h : TOk T) {i : Nat} (hi : i < T.length) (h0 : 0 < i) : cmpR (lat T (i - 1)).p (lat T i).p < 0 := by
  have := List.pairwise_iff_getElem.1 h.srt (i - 1) i (by omega) hi (by omega)
  rwa [show T[i - 1] = lat T (i - 1) by simp [lat, List.getD, List.getElem?_eq_getElem (show i - 1 < T.length by omega)], show T[i] = lat T i by simp [lat, List.getD, List.getElem?_eq_getElem hi]] at this
end Go.Vm
