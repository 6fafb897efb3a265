/- If all answers are ok the kernel has what is wanted: plain. -/
import Derived.Test.YtimkkhefemnkpaaP9
namespace Go.Vm
open Go Go.Proofs

theorem tlook_iff {T : List En} (h : TOk T) {p : Pr} {e : En} : tlook p T = some e ↔ e ∈ T ∧ e.p = p := by
  unfold tlook
  constructor
  · intro hf
    exact ⟨List.mem_of_find?_eq_some hf, by simpa using List.find?_some hf⟩
  · rintro ⟨he, hp⟩
    cases hf : T.find? (fun e => decide (e.p = p)) with
    | none =>
      rw [List.find?_eq_none] at hf
      exact absurd hp (by simpa using hf e he)
    | some y =>
      have h1 := List.mem_of_find?_eq_some hf
      have h2 : y.p = p := by simpa using List.find?_some hf
      rw [h.uniq h1 he (h2.trans hp.symm)]
theorem tlook_tput {T : List En} (h : TOk T) {e : En} (he : e.ok) {q : Pr} : tlook q (tput e T) = if q = e.p then some e else tlook q T := by
  split
  · rename_i hq
    subst hq
    exact (tlook_iff (h.put he)).2 ⟨(tput_mem_iff h he).2 (.inl rfl), rfl⟩
  · rename_i hq
    apply Option.ext
    intro y
    rw [tlook_iff (h.put he), tlook_iff h, tput_mem_iff h he]
    constructor
    · rintro ⟨rfl | ⟨h1, h2⟩, h3⟩
      · exact absurd h3.symm hq
      · exact ⟨h1, h3⟩
    · rintro ⟨h1, h3⟩
      exact ⟨.inr ⟨h1, fun e2 => hq (h3.symm.trans e2)⟩, h3⟩
theorem tlook_tdel {T : List En} (h : TOk T) {p q : Pr} (hq : q ≠ p) : tlook q (tdel p T) = tlook q T := by
  apply Option.ext
  intro y
  rw [tlook_iff (h.del p), tlook_iff h]
  unfold tdel
  rw [List.mem_filter]
  constructor
  · rintro ⟨⟨h1, _⟩, h3⟩; exact ⟨h1, h3⟩
  · rintro ⟨h1, h3⟩; exact ⟨⟨h1, by simp [h3, hq]⟩, h3⟩

theorem filter_lt {α : Type} {f g : α → Bool} {l : List α} (h : ∀ x ∈ l, f x = true → g x = true) {a : α} (ha : a ∈ l) (hf : f a = false) (hg : g a = true) : (l.filter f).length < (l.filter g).length := by
  have le : ∀ {l : List α}, (∀ x ∈ l, f x = true → g x = true) → (l.filter f).length ≤ (l.filter g).length := by
    intro l
    induction l with
    | nil => intro _; simp
    | cons x l ih =>
      intro h
      have := ih (fun y hy => h y (by simp [hy]))
      have hx := h x (by simp)
      simp only [List.filter_cons]
      cases h1 : f x <;> cases h2 : g x <;> simp_all <;> omega
  induction l with
  | nil => cases ha
  | cons x l ih =>
    have h' : ∀ y ∈ l, f y = true → g y = true := fun y hy => h y (by simp [hy])
    rcases List.mem_cons.1 ha with rfl | ha
    · have := le h'
      simp only [List.filter_cons, hf, hg]
      simp; omega
    · have := ih h' ha
      have hx := h x (by simp)
      simp only [List.filter_cons]
      cases h1 : f x <;> cases h2 : g x <;> simp_all <;> omega

def gone (W : List En) (e : En) : Bool := !has e.p W
def due (H : List En) (e : En) : Bool := !decide (tlook e.p H = some e)

theorem td1_count {W : List En} : ∀ (l : List En) (out : List Opn), (l.foldl (td1 W) out).length = out.length + (l.filter (gone W)).length
  | [], _ => by simp
  | e :: l, out => by
    rw [List.foldl_cons, td1_count l]
    have key : (td1 W out e).length = out.length + (if gone W e = true then 1 else 0) := by
      unfold td1 gone
      by_cases h : has e.p W = true
      · simp [h]
      · have h2 : has e.p W = false := by simpa using h
        simp [h2]
    rw [key]
    simp only [List.filter_cons]
    cases gone W e <;> simp; omega
theorem td2_count {H : List En} : ∀ (l : List En) (out : List Opn), (l.foldl (td2 H) out).length = out.length + (l.filter (due H)).length
  | [], _ => by simp
  | e :: l, out => by
    rw [List.foldl_cons, td2_count l]
    have key : (td2 H out e).length = out.length + (if due H e = true then 1 else 0) := by
      unfold td2 due has
      cases ht : tlook e.p H with
      | none => simp
      | some y =>
        by_cases hy : y = e
        · subst hy; simp
        · have : ¬ (some y = some e) := fun x => hy (Option.some.inj x)
          simp [hy]
    rw [key]
    simp only [List.filter_cons]
    cases due H e <;> simp; omega
theorem todo_count (H W : List En) : (todoL H W).length = (H.filter (gone W)).length + (W.filter (due H)).length := by
  unfold todoL
  rw [td2_count, td1_count]; simp

theorem filter_tput {f : En → Bool} {e : En} (hf : ∀ x : En, x.p = e.p → f x = false) : ∀ T : List En, (tput e T).filter f = T.filter f
  | [] => by simp [tput, hf e rfl]
  | x :: T => by
    simp only [tput]
    split
    · rename_i hp
      simp [List.filter_cons, hf e rfl, hf x hp]
    · split
      · rw [List.filter_cons, hf e rfl]; simp
      · rw [List.filter_cons, List.filter_cons, filter_tput hf T]

theorem todo_put {H W : List En} (hH : TOk H) (hW : TOk W) {e : En} (he : e.ok) (hm : e ∈ W) (hd : due H e = true) : (todoL (tput e H) W).length < (todoL H W).length := by
  rw [todo_count, todo_count]
  have h1 : ((tput e H).filter (gone W)) = H.filter (gone W) := filter_tput (fun x hx => by
    unfold gone; rw [hx, fhas_of hm rfl]; rfl) H
  rw [h1]
  have h2 : (W.filter (due (tput e H))).length < (W.filter (due H)).length := by
    refine filter_lt (fun x hxW hx => ?_) hm ?_ hd
    · unfold due at hx ⊢
      rw [tlook_tput hH he] at hx
      split at hx
      · rename_i hp
        rw [hW.uniq hxW hm hp] at hx
        simp at hx
      · exact hx
    · unfold due; rw [tlook_tput hH he, if_pos rfl]; simp
  omega
theorem todo_del {H W : List En} (hH : TOk H) {e : En} (hm : e ∈ H) (hg : has e.p W = false) : (todoL (tdel e.p H) W).length < (todoL H W).length := by
  rw [todo_count, todo_count]
  have h1 : ((tdel e.p H).filter (gone W)).length < (H.filter (gone W)).length := by
    unfold tdel
    rw [List.filter_filter]
    refine filter_lt (fun x _ hx => ?_) hm ?_ ?_
    · simp only [Bool.and_eq_true] at hx; exact hx.1
    · simp
    · unfold gone; rw [hg]; rfl
  have h2 : W.filter (due (tdel e.p H)) = W.filter (due H) := by
    apply List.filter_congr
    intro x hx
    unfold due
    rw [tlook_tdel hH (fun e2 => fhas_false hg x hx e2)]
  rw [h2]; omega

/-- an operation that is to be done is needed -/
theorem todo_mem2 {H W : List En} : ∀ o ∈ todoL H W, (o.k = 3 ∧ o.e ∈ H ∧ has o.e.p W = false) ∨ (o.k = 1 ∧ o.e ∈ W ∧ has o.e.p H = false ∧ due H o.e = true) ∨ (o.k = 2 ∧ o.e ∈ W ∧ has o.e.p H = true ∧ due H o.e = true) := by
  have h2 : ∀ (l : List En) (out : List Opn), (∀ o ∈ out, o.k = 3 ∨ due H o.e = true) → ∀ o ∈ l.foldl (td2 H) out, o.k = 3 ∨ due H o.e = true := by
    intro l
    induction l with
    | nil => intro out h; exact h
    | cons e l ih =>
      intro out h
      refine ih _ ?_
      unfold td2; split
      · rename_i hn
        intro o ho
        rcases List.mem_append.1 ho with ho | ho
        · exact h o ho
        · rw [List.mem_singleton.1 ho]; right
          unfold due
          unfold has at hn
          cases ht : tlook e.p H with
          | none => simp
          | some y => rw [ht] at hn; simp at hn
      · split
        · exact h
        · rename_i hn
          intro o ho
          rcases List.mem_append.1 ho with ho | ho
          · exact h o ho
          · rw [List.mem_singleton.1 ho]; right
            unfold due
            simp only [Bool.not_eq_eq_eq_not, Bool.not_true, decide_eq_false_iff_not]
            intro h9
            rw [h9] at hn
            exact hn rfl
  have h1 : ∀ (l : List En) (out : List Opn), (∀ o ∈ out, o.k = 3) → ∀ o ∈ l.foldl (td1 W) out, o.k = 3 := by
    intro l
    induction l with
    | nil => intro out h; exact h
    | cons e l ih =>
      intro out h
      refine ih _ ?_
      unfold td1; split
      · exact h
      · intro o ho
        rcases List.mem_append.1 ho with ho | ho
        · exact h o ho
        · rw [List.mem_singleton.1 ho]
  intro o ho
  have hd := h2 W _ (fun o ho => .inl (h1 H [] (by simp) o ho)) o ho
  rcases todo_mem o ho with ⟨a, b, c⟩ | ⟨a, b, c⟩ | ⟨a, b, c⟩
  · exact .inl ⟨a, b, c⟩
  · exact .inr (.inl ⟨a, b, c, hd.resolve_left (by omega)⟩)
  · exact .inr (.inr ⟨a, b, c, hd.resolve_left (by omega)⟩)

/-- nothing is to be done: it has what is wanted -/
theorem todo_nil {H W : List En} (hH : TOk H) (hW : TOk W) (h : todoL H W = []) : H = W := by
  have hc := todo_count H W
  rw [h] at hc
  simp only [List.length_nil] at hc
  have c1 : H.filter (gone W) = [] := List.eq_nil_of_length_eq_zero (by omega)
  have c2 : W.filter (due H) = [] := List.eq_nil_of_length_eq_zero (by omega)
  rw [List.filter_eq_nil_iff] at c1 c2
  have d2 : ∀ e ∈ W, tlook e.p H = some e := fun e he => by
    have := c2 e he
    unfold due at this
    simpa using this
  refine tok_ext hH hW fun e => ⟨fun he => ?_, fun he => ((tlook_iff hH).1 (d2 e he)).1⟩
  have h1 := c1 e he
  unfold gone at h1
  obtain ⟨w, hw, hp⟩ := fhas_true (by simpa using h1 : has e.p W = true)
  have := (tlook_iff hH).1 (d2 w hw)
  rw [hH.uniq he this.1 hp.symm]; exact hw

/-- what failed is tried again -/
def FU (s : FS) (t : Int) : Prop := ∀ x ∈ s.F, x.2 ≤ t
theorem FU.mono {s : FS} {t u : Int} (h : FU s t) (ht : t ≤ u) : FU s u := fun x hx => Int.le_trans (h x hx) ht
theorem FU.zero (t : Int) : FU FS.zero t := fun x hx => by cases hx
theorem FU.want {s : FS} {t : Int} (h : FU s t) (l : List En) : FU (s.want l) t := h
theorem next_F {s : FS} {now : Int} : (s.next now).2.F = s.F := by
  unfold FS.next; split
  · rfl
  split <;> rfl
theorem next_H {s : FS} {now : Int} : (s.next now).2.H = s.H := by
  unfold FS.next; split
  · rfl
  split <;> rfl
theorem next_W {s : FS} {now : Int} : (s.next now).2.W = s.W := by
  unfold FS.next; split
  · rfl
  split <;> rfl
theorem reply_W {s : FS} {now : Int} {ok : Bool} : (s.reply now ok).2.W = s.W := by
  unfold FS.reply; split
  · rfl
  · show (if ok = false then _ else _ : FS).W = s.W
    split
    · rfl
    split <;> rfl
theorem reply_busy {s : FS} {now : Int} {ok : Bool} : (s.reply now ok).2.busy = false := by
  unfold FS.reply; split
  · assumption
  · show (if ok = false then _ else _ : FS).busy = false
    split
    · rfl
    split <;> rfl
theorem FU.next {s : FS} {t : Int} (h : FU s t) (now : Int) : FU (s.next now).2 t := fun x hx => h x (by rw [next_F] at hx; exact hx)
theorem FU.reply {s : FS} {t : Int} (h : FU s t) (now : Int) (ok : Bool) (hn : ok = false → now + 1000 ≤ t) : FU (s.reply now ok).2 t := by
  have ha : ∀ x ∈ adel s.wo.e.p s.F, x.2 ≤ t := fun x hx => h x (List.mem_filter.1 hx).1
  unfold FS.reply; split
  · exact h
  · show FU (if ok = false then _ else _ : FS) t
    split
    · rename_i ho
      intro x hx
      rcases List.mem_append.1 hx with hx | hx
      · exact ha x hx
      · rw [List.mem_singleton.1 hx]; exact hn ho
    split
    · exact ha
    · exact ha
theorem rdy_FU {s : FS} {now : Int} (h : FU s now) (o : Opn) : rdy now s.F o = true := by
  unfold rdy
  cases ha : alook o.e.p s.F with
  | none => rfl
  | some t =>
    unfold alook at ha
    rw [Option.map_eq_some_iff] at ha
    obtain ⟨x, hx, rfl⟩ := ha
    exact decide_eq_true (h x (List.mem_of_find?_eq_some hx))

theorem next_none {s : FS} {now : Int} (hb : s.busy = false) (h : FU s now) (hn : (s.next now).1.2 = false) : s.todo = [] ∧ (s.next now).2 = s := by
  have key : nextO now s.F s.todo = none → s.todo = [] := fun hn => by
    unfold nextO at hn
    rw [List.find?_eq_none] at hn
    cases ht : s.todo with
    | nil => rfl
    | cons o l =>
      have := hn o (by rw [ht]; simp)
      rw [rdy_FU h] at this
      exact absurd rfl this
  unfold FS.next at hn ⊢
  rw [if_neg (by simp [hb])] at hn ⊢
  cases hx : nextO now s.F s.todo with
  | none => exact ⟨key hx, rfl⟩
  | some o => rw [hx] at hn; cases hn
theorem next_some {s : FS} {now : Int} (hb : s.busy = false) (hn : (s.next now).1.2 = true) : ∃ o ∈ s.todo, s.next now = ((o, true), { s with wo := o, busy := true }) := by
  unfold FS.next at hn ⊢
  rw [if_neg (by simp [hb])] at hn ⊢
  cases hx : nextO now s.F s.todo with
  | none => rw [hx] at hn; cases hn
  | some o => exact ⟨o, nextO_mem hx, rfl⟩

theorem step_less {s : FS} {n : Nat} (hs : FI s n) {now : Int} (hb : s.busy = false) (hn : (s.next now).1.2 = true) : ((s.next now).2.reply now true).2.todo.length < s.todo.length := by
  obtain ⟨o, ho, e⟩ := next_some hb hn
  rw [e]
  show (FS.reply now true { s with wo := o, busy := true }).2.todo.length < s.todo.length
  rcases todo_mem2 o ho with ⟨h1, h2, h3⟩ | ⟨h1, h2, _, h4⟩ | ⟨h1, h2, _, h4⟩
  · rw [reply_rem rfl h1]; exact todo_del hs.h h2 h3
  · rw [reply_put rfl (show ¬ o.k = 3 by omega)]; exact todo_put hs.h hs.w (hs.todo_ok o ho) h2 h4
  · rw [reply_put rfl (show ¬ o.k = 3 by omega)]; exact todo_put hs.h hs.w (hs.todo_ok o ho) h2 h4
end Go.Vm
