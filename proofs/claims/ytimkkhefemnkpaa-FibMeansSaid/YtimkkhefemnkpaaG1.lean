/- What the kernel needs: cleaning, the best, expanding: plain. -/
import Derived.Test.YtimkkhefemnkpaaF3p
namespace Go.Vm
open Go Go.Proofs

/-- entries that may be, in order, each pair once -/
def cstep (out : List En) (e : En) : List En := if okR e.p = true ∧ has e.p out = false then tput e out else out
def cleanL (l : List En) : List En := l.foldl cstep []

theorem clean_snoc (l : List En) (e : En) : cleanL (l ++ [e]) = cstep (cleanL l) e := by simp [cleanL]
theorem clean_step {l : List En} {k : Nat} (h : k < l.length) : cleanL (l.take (k + 1)) = cstep (cleanL (l.take k)) (lat l k) := by rw [take_succ_lat h, clean_snoc]
theorem cstep_yes {out : List En} {e : En} (h1 : okR e.p = true) (h2 : has e.p out = false) : cstep out e = tput e out := if_pos ⟨h1, h2⟩
theorem cstep_no {out : List En} {e : En} (h : ¬ (okR e.p = true ∧ has e.p out = false)) : cstep out e = out := if_neg h

/-- a table of entries that may be -/
structure GOk (G : List En) : Prop extends TOk G where
  may : ∀ e ∈ G, okR e.p = true

theorem GOk.nil : GOk [] := ⟨TOk.nil, by simp⟩
theorem GOk.put {G : List En} (h : GOk G) {e : En} (he : e.ok) (hr : okR e.p = true) : GOk (tput e G) := ⟨h.toTOk.put he, fun x hx => by
  rcases tput_mem hx with rfl | hx
  · exact hr
  · exact h.may x hx⟩
theorem GOk.step {G : List En} (h : GOk G) {e : En} (he : e.ok) : GOk (cstep G e) := by
  unfold cstep; split
  · rename_i hc; exact h.put he hc.1
  · exact h
theorem clean_ok {l : List En} (h : ∀ e ∈ l, e.ok) : GOk (cleanL l) := by
  have : ∀ (l out : List En), GOk out → (∀ e ∈ l, e.ok) → GOk (l.foldl cstep out) := by
    intro l
    induction l with
    | nil => intro out h _; exact h
    | cons x l ih => intro out h ho; exact ih _ (h.step (ho x (by simp))) (fun e he => ho e (by simp [he]))
  exact this l [] GOk.nil h
theorem cstep_len {out : List En} {e : En} : (cstep out e).length ≤ out.length + 1 := by
  unfold cstep; split
  · exact tput_length
  · omega
theorem clean_len (l : List En) : (cleanL l).length ≤ l.length := by
  have : ∀ (l out : List En), (l.foldl cstep out).length ≤ out.length + l.length := by
    intro l
    induction l with
    | nil => intro out; simp
    | cons x l ih => intro out; have h1 := ih (cstep out x); have h2 := cstep_len (out := out) (e := x); simp only [List.foldl_cons, List.length_cons]; omega
  have := this l []
  simpa [cleanL] using this

/-- is an entry meant by a pair? -/
def mtch (p : Pr) (e : En) : Bool := covers e.p.d.a e.p.d.n p.d.a p.d.n && (covers e.p.s.a e.p.s.n p.s.a p.s.n && decide (famP e.p.d.a e.p.d.n = famP p.d.a p.d.n))
def better (e b : En) : Prop := b.p.d.n < e.p.d.n ∨ e.p.d.n = b.p.d.n ∧ b.p.s.n < e.p.s.n
instance (e b : En) : Decidable (better e b) := by unfold better; infer_instance
/-- the best so far -/
def bstep (p : Pr) (b : Option En) (e : En) : Option En :=
  if mtch p e = false then b else match b with
  | none => some e
  | some c => if better e c then some e else some c
def bestO (p : Pr) (l : List En) : Option En := l.foldl (bstep p) none
def bestL (p : Pr) (l : List En) : En := (bestO p l).getD default
theorem best_snoc (p : Pr) (l : List En) (e : En) : bestO p (l ++ [e]) = bstep p (bestO p l) e := by simp [bestO]
theorem best_step {p : Pr} {l : List En} {k : Nat} (h : k < l.length) : bestO p (l.take (k + 1)) = bstep p (bestO p (l.take k)) (lat l k) := by rw [take_succ_lat h, best_snoc]

theorem bstep_skip {p : Pr} {b : Option En} {e : En} (h : mtch p e = false) : bstep p b e = b := if_pos h
theorem bstep_first {p : Pr} {e : En} (h : mtch p e = true) : bstep p none e = some e := by unfold bstep; rw [if_neg (by simp [h])]
theorem bstep_yes {p : Pr} {e c : En} (h : mtch p e = true) (hb : better e c) : bstep p (some c) e = some e := by unfold bstep; rw [if_neg (by simp [h])]; exact if_pos hb
theorem bstep_no {p : Pr} {e c : En} (h : mtch p e = true) (hb : ¬ better e c) : bstep p (some c) e = some c := by unfold bstep; rw [if_neg (by simp [h])]; exact if_neg hb

/-- the best, told from the end -/
theorem best_spec (p : Pr) (l : List En) : (bestO p l = none ∧ ∀ e ∈ l, mtch p e = false) ∨ (∃ b, bestO p l = some b ∧ b ∈ l ∧ mtch p b = true ∧ ∀ e ∈ l, mtch p e = true → ¬ better e b) := by
  have key : ∀ (l pre : List En) (b : Option En), ((b = none ∧ ∀ e ∈ pre, mtch p e = false) ∨ (∃ c, b = some c ∧ c ∈ pre ∧ mtch p c = true ∧ ∀ e ∈ pre, mtch p e = true → ¬ better e c)) →
      ((l.foldl (bstep p) b = none ∧ ∀ e ∈ pre ++ l, mtch p e = false) ∨ (∃ c, l.foldl (bstep p) b = some c ∧ c ∈ pre ++ l ∧ mtch p c = true ∧ ∀ e ∈ pre ++ l, mtch p e = true → ¬ better e c)) := by
    intro l
    induction l with
    | nil => intro pre b h; simpa using h
    | cons x l ih =>
      intro pre b h
      have e1 : pre ++ x :: l = (pre ++ [x]) ++ l := by simp
      rw [e1]
      refine ih (pre ++ [x]) (bstep p b x) ?_
      cases hm : mtch p x with
      | false =>
        rw [bstep_skip hm]
        rcases h with ⟨h1, h2⟩ | ⟨c, h1, h2, h3, h4⟩
        · exact .inl ⟨h1, fun e he => by rcases List.mem_append.1 he with he | he; exact h2 e he; rw [List.mem_singleton.1 he]; exact hm⟩
        · refine .inr ⟨c, h1, by simp [h2], h3, fun e he hme => ?_⟩
          rcases List.mem_append.1 he with he | he
          · exact h4 e he hme
          · rw [List.mem_singleton.1 he, hm] at hme; cases hme
      | true =>
        rcases h with ⟨rfl, h2⟩ | ⟨c, rfl, h2, h3, h4⟩
        · refine .inr ⟨x, bstep_first hm, by simp, hm, fun e he hme => ?_⟩
          rcases List.mem_append.1 he with he | he
          · rw [h2 e he] at hme; cases hme
          · rw [List.mem_singleton.1 he]; unfold better; omega
        · by_cases hb : better x c
          · refine .inr ⟨x, bstep_yes hm hb, by simp, hm, fun e he hme => ?_⟩
            rcases List.mem_append.1 he with he | he
            · have := h4 e he hme
              unfold better at this hb ⊢
              omega
            · rw [List.mem_singleton.1 he]; unfold better; omega
          · refine .inr ⟨c, bstep_no hm hb, by simp [h2], h3, fun e he hme => ?_⟩
            rcases List.mem_append.1 he with he | he
            · exact h4 e he hme
            · rw [List.mem_singleton.1 he]; exact hb
  have := key l [] none (.inl ⟨rfl, by simp⟩)
  simpa [bestO] using this

/-! ### expanding -/

def mkE (G : List En) (x y : En) : En := ⟨⟨x.p.d, y.p.s⟩, (bestL ⟨x.p.d, y.p.s⟩ G).i, (bestL ⟨x.p.d, y.p.s⟩ G).h⟩
def pcond (x y : En) : Bool := covers y.p.d.a y.p.d.n x.p.d.a x.p.d.n && okR ⟨x.p.d, y.p.s⟩
def pstep (G : List En) (x : En) (out : List En) (y : En) : List En := if pcond x y = true then tput (mkE G x y) out else out
def xstep (G : List En) (out : List En) (x : En) : List En := G.foldl (pstep G x) out
def expG (G : List En) : List En := G.foldl (xstep G) []
def expandL (l : List En) : List En := expG (cleanL l)

theorem pfold_step {G : List En} {x : En} {out : List En} {k : Nat} (h : k < G.length) : (G.take (k + 1)).foldl (pstep G x) out = pstep G x ((G.take k).foldl (pstep G x) out) (lat G k) := by
  rw [take_succ_lat h, List.foldl_append]; rfl
theorem xfold_step {G : List En} {k : Nat} (h : k < G.length) : (G.take (k + 1)).foldl (xstep G) [] = G.foldl (pstep G (lat G k)) ((G.take k).foldl (xstep G) []) := by
  rw [take_succ_lat h, List.foldl_append]; rfl

theorem okpair_iff {da : List Int} {dn : Int} {sa : List Int} {sn : Int} : okpair da dn sa sn = true ↔ okp da dn = true ∧ okp sa sn = true ∧ famP da dn = famP sa sn := by
  simp only [okpair, Bool.and_eq_true, decide_eq_true_eq]

theorem mkE_ok {G : List En} (hG : GOk G) {x y : En} (hx : x.ok) (hy : y.ok) : (mkE G x y).ok := by
  refine ⟨⟨hx.1.1, hy.1.2⟩, ?_⟩
  show AdOk (bestL _ G).h
  unfold bestL
  rcases best_spec ⟨x.p.d, y.p.s⟩ G with ⟨h1, _⟩ | ⟨b, h1, h2, _⟩
  · rw [h1]; exact ⟨rfl, by decide⟩
  · rw [h1]; exact (hG.ok b h2).2

theorem pcond_ok {x y : En} (h : pcond x y = true) : okR ⟨x.p.d, y.p.s⟩ = true := by simp only [pcond, Bool.and_eq_true] at h; exact h.2

theorem pstep_ok {G : List En} (hG : GOk G) {x y : En} {out : List En} (hx : x.ok) (hy : y.ok) (ho : GOk out) : GOk (pstep G x out y) := by
  unfold pstep; split
  · rename_i hc; exact ho.put (mkE_ok hG hx hy) (pcond_ok hc)
  · exact ho
theorem pfold_ok {G : List En} (hG : GOk G) {x : En} (hx : x.ok) : ∀ (l out : List En), (∀ y ∈ l, y.ok) → GOk out → GOk (l.foldl (pstep G x) out)
  | [], _, _, h => h
  | y :: l, out, hl, h => pfold_ok hG hx l _ (fun z hz => hl z (by simp [hz])) (pstep_ok hG hx (hl y (by simp)) h)
theorem xfold_ok {G : List En} (hG : GOk G) : ∀ (l out : List En), (∀ y ∈ l, y.ok) → GOk out → GOk (l.foldl (xstep G) out)
  | [], _, _, h => h
  | y :: l, out, hl, h => xfold_ok hG l _ (fun z hz => hl z (by simp [hz])) (pfold_ok hG (hl y (by simp)) G out hG.ok h)
theorem exp_ok {G : List En} (hG : GOk G) : GOk (expG G) := xfold_ok hG G [] hG.ok GOk.nil

theorem pfold_len {G : List En} {x : En} : ∀ (l out : List En), (l.foldl (pstep G x) out).length ≤ out.length + l.length
  | [], _ => by simp
  | y :: l, out => by
    have h1 := pfold_len (G := G) (x := x) l (pstep G x out y)
    have h2 : (pstep G x out y).length ≤ out.length + 1 := by
      unfold pstep; split
      · exact tput_length
      · omega
    simp only [List.foldl_cons, List.length_cons]; omega
theorem xfold_len {G : List En} : ∀ (l out : List En), (l.foldl (xstep G) out).length ≤ out.length + l.length * G.length
  | [], _ => by simp
  | y :: l, out => by
    have h1 := xfold_len (G := G) l (xstep G out y)
    have h2 : (xstep G out y).length ≤ out.length + G.length := pfold_len G out
    have h3 : (l.length + 1) * G.length = l.length * G.length + G.length := Nat.succ_mul _ _
    simp only [List.foldl_cons, List.length_cons]; omega
theorem exp_len (G : List En) : (expG G).length ≤ G.length * G.length := by have := xfold_len (G := G) G []; simpa [expG] using this

end Go.Vm
