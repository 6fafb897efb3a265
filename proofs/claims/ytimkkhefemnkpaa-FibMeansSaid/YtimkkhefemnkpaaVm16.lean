/- Ranges over maps. -/
import Derived.Test.YtimkkhefemnkpaaVm15
namespace Go.Vm

section
variable {α β : Type}

/-- The map behind a range is the map. -/
theorem CLe.mit {A : Fr} {b it : Nat} {m rem : List (V × V)} {cur : Option (V × V)} : CLe A (.mit b it m rem cur) (.mp b m) :=
  ⟨fun k hk => .inl hk, fun h ⟨⟨h0, _, _⟩, es, clock, seen, h1, _, h2, _⟩ => ⟨h0, es, clock, h1, h2⟩⟩

theorem CLe.mp {A : Fr} {b : Nat} {e : α → V} {f : β → V} {L L' : List (α × β)} (p : L'.Perm L) : CLe A (mpc b e f L) (mpc b e f L') :=
  ⟨fun _ h => h, fun h ⟨h0, es, clock, h1, h2⟩ => ⟨fun x hx => h0 x (((p.map _).mem_iff).1 hx), es, clock, h1, ⟨h2.perm.trans ((p.map (fun x => (e x.1, f x.2))).map _).symm, h2.born, h2.below⟩⟩⟩

section
variable {X : Cx} {tm : List (Nat × V)} {H R : List (Nat × Cell)} {ty : TypeId} {pos : String} {af : Array Edge} {gd : Option (Nat × Bool)} {Kn : St → Prop} {d : Nat} {T K E : TypeId} {e : α → V} {f : β → V}

theorem Ex.range [u : Und X.P T (.map K E)] {x : Operand} {t b : Nat} {L : List (α × β)} (hd : Nat.blt d X.N = true) (hx : (St.mk tm H R).ev x = some (.map t (some b))) (hg : get t H = some (mpc b e f L))
    (k : ∀ it, Kn ⟨(d, .ptr t it 0) :: tm, (t, mitc b it e f L L none) :: H, R⟩) : Ex X ⟨some d, .range T x, ty, pos, af, gd⟩ ⟨tm, H, R⟩ Kn := by
  intro a w s next Q hn
  obtain ⟨e1, _⟩ := s.ev hx
  obtain ⟨⟨h0, es, clock, h1, h2⟩, h3⟩ := s.hp t _ hg
  have ua : (underlying T).run X.P w = .ok (.map K E) w := by simp [underlying, u.eq]
  have hr : (execOp a.eval ⟨some d, .range T x, ty, pos, af, gd⟩).run X.P w = .ok (.value (V.ptr t w.heap.size 0).real) (w.alloc (.mapIter (some b) clock #[] clock)) := by
    show ((do pure (Next.value (← Instr.range T (a.eval x))) : Sem Next)).run X.P w = _
    refine run_v ?_
    rw [e1]
    simp only [Instr.range, V.real, Sem.run_bind, ua, Result.andThen_ok, run_getB h1, Sem.run_pure, run_newObj_alloc]
  have hlt := lt_of_heap h1
  have s1 : Sim X ⟨tm, (t, mitc b w.heap.size e f L L none) :: H, R⟩ a (w.alloc (.mapIter (some b) clock #[] clock)) := by
    have hin : CellIn X.A (fun b => (w.alloc (.mapIter (some b) clock #[] clock)).heap[b]?) (mitc b w.heap.size e f L L none) → True := fun _ => trivial
    refine ⟨s.has.alloc _, s.le, s.size, s.dn, s.tm, fun u c hu => ?_, fun u u' c1 c2 hne g1 g2 k k1 k2 => ?_, s.ro⟩
    · rw [get_cons] at hu
      split at hu
      · rw [Option.some.injEq] at hu
        subst hu
        refine ⟨⟨⟨h0, h0, by simp⟩, es, clock, #[], alloc_old h1, alloc_new _ _, h2, ?_, by simp⟩, fun k hk => ?_⟩
        · have : (es.toList.filter fun en => !(#[] : Array Nat).contains en.born) = es.toList := List.filter_eq_self.2 (by simp)
          rw [this]
          exact h2.perm
        · rcases hk with rfl | rfl
          · exact h3 _ rfl
          · exact s.has.new
      · obtain ⟨g1, g2⟩ := s.hp u c hu
        refine ⟨g1.congr fun k hk => ?_, g2⟩
        obtain ⟨o', ho⟩ := g1.blk_some k hk
        show (w.alloc _).heap[k]? = w.heap[k]?
        rw [alloc_old ho, ho]
    · have hnew : ∀ u c, get u H = some c → ∀ k, c.blk k → k ≠ w.heap.size := fun u c hu k hk e' => by
        obtain ⟨o', ho⟩ := (s.hp u c hu).1.blk_some k hk
        have := lt_of_heap ho
        omega
      rw [get_cons] at g1 g2
      split at g1
      · rename_i e1'
        rw [if_neg (fun e2 => hne (e1'.trans e2.symm))] at g2
        rw [Option.some.injEq] at g1
        subst g1
        rcases k1 with rfl | rfl
        · exact s.dj t u' _ c2 (fun e2 => hne (e1'.trans e2)) hg g2 _ rfl k2
        · exact hnew u' c2 g2 _ k2 rfl
      · split at g2
        · rename_i _ e2'
          rw [Option.some.injEq] at g2
          subst g2
          rcases k2 with rfl | rfl
          · exact s.dj u t c1 _ (fun e2 => hne (e2.trans e2'.symm)) g1 hg _ k1 rfl
          · exact hnew u c1 g1 _ k1 rfl
        · exact s.dj u u' c1 c2 hne g1 g2 k k1 k2
  unfold Oper.wp
  rw [hr]
  exact hn _ _ _ (k _) (s1.put trivial (Nat.le_of_ble_eq_true hd))

theorem filter_seen {es : List MapEntry} {seen : Array Nat} {en : MapEntry} (hb : (es.map (·.born)).Nodup) {i : Nat} (hi : (es.filter fun x => !seen.contains x.born)[i]? = some en) :
    (es.filter fun x => !(seen.push en.born).contains x.born) = (es.filter fun x => !seen.contains x.born).eraseIdx i := by
  have hnd : ((es.filter fun x => !seen.contains x.born).map (·.born)).Nodup := hb.sublist (List.filter_sublist.map _)
  have e1 : (es.filter fun x => !(seen.push en.born).contains x.born) = (es.filter fun x => !seen.contains x.born).filter fun x => !(x.born == en.born) := by
    rw [List.filter_filter]
    congr 1
    funext x
    simp only [Array.contains_push]
    cases seen.contains x.born <;> cases x.born == en.born <;> rfl
  rw [e1]
  generalize es.filter (fun x => !seen.contains x.born) = l at hi hnd
  clear e1
  induction l generalizing i with
  | nil => simp at hi
  | cons y l ih =>
    simp only [List.map_cons, List.nodup_cons] at hnd
    cases i with
    | zero =>
      simp only [List.getElem?_cons_zero, Option.some.injEq] at hi
      subst hi
      rw [List.filter_cons_of_neg (by simp)]
      simp only [List.eraseIdx_cons_zero]
      rw [List.filter_eq_self]
      intro x hx
      have : x.born ≠ y.born := fun e => hnd.1 (List.mem_map.2 ⟨x, hx, e⟩)
      simpa using this
    | succ i =>
      simp only [List.getElem?_cons_succ] at hi
      have : y.born ≠ en.born := fun e => hnd.1 (List.mem_map.2 ⟨en, List.mem_of_getElem? hi, e.symm⟩)
      rw [List.filter_cons_of_pos (by simpa using this), ih hi hnd.2]
      simp

theorem Ex.next {x : Operand} {t b it : Nat} {L Lr : List (α × β)} {cur : Option (α × β)} (hd : Nat.blt d X.N = true) (hx : (St.mk tm H R).ev x = some (.ptr t it 0)) (hg : get t H = some (mitc b it e f L Lr cur))
    (k0 : Lr = [] → Kn ⟨(d, .raw (.tuple #[.bool false])) :: tm, H, R⟩)
    (k1 : ∀ k v Lr', Lr.Perm ((k, v) :: Lr') → Kn ⟨(d, .tup3 (.bool true) (e k) (f v)) :: tm, (t, mitc b it e f L Lr' (some (k, v))) :: H, R⟩) : Ex X ⟨some d, .next x false, ty, pos, af, gd⟩ ⟨tm, H, R⟩ Kn := by
  intro a w s next Q hn
  obtain ⟨e1, _⟩ := s.ev hx
  obtain ⟨⟨⟨h0, h0', h0''⟩, es, clock, seen, h1, h1', h2, h4, h5⟩, h3⟩ := s.hp t _ hg
  have hd' := Nat.le_of_ble_eq_true hd
  have gi : (getObj it).run X.P w = .ok (.mapIter (some b) clock seen clock) w := by
    have : w.heap[it]? = some (.mapIter (some b) clock seen clock) := h1'
    simp [getObj, Sem.run, this]
  have hguard : (!seen.isEmpty && !es.isEmpty && es.all (fun en => decide (en.born ≥ clock))) = false := by
    cases he : es.isEmpty with
    | true => simp
    | false =>
      have hsz : 0 < es.size := by
        rcases Nat.eq_zero_or_pos es.size with h | h
        · have := Array.isEmpty_iff_size_eq_zero.2 h
          rw [this] at he; cases he
        · exact h
      have : es.all (fun en => decide (en.born ≥ clock)) = false := by
        rw [Bool.eq_false_iff]
        intro hall
        rw [Array.all_eq_true] at hall
        have h := hall 0 hsz
        have hb := h2.below es[0] (by simp)
        simp only [decide_eq_true_eq] at h
        omega
      rw [this]; simp
  have hleft : (es.filter fun en => !seen.contains en.born).toList = es.toList.filter fun en => !seen.contains en.born := by simp
  obtain ⟨left, hl⟩ : ∃ left, left = es.filter fun en => !seen.contains en.born := ⟨_, rfl⟩
  have hold : left.filter (fun en => decide (en.born < clock)) = left := by
    rw [Array.filter_eq_self]
    intro en hen
    rw [hl, Array.mem_filter] at hen
    have := h2.below en (by simpa using hen.1)
    simpa using this
  have hnew : left.filter (fun en => decide (en.born ≥ clock)) = #[] := by
    rw [Array.filter_eq_empty_iff]
    intro en hen
    rw [hl, Array.mem_filter] at hen
    have := h2.below en (by simpa using hen.1)
    simp only [ge_iff_le, decide_eq_true_eq]
    omega
  rw [kvs_real] at h4
  obtain ⟨L', p1, p2⟩ := perm_map_inv h4 Lr rfl
  have hlen : L'.length = left.size := by
    have := congrArg List.length p2
    simp only [List.length_map] at this
    rw [this, hl, ← hleft, Array.length_toList]
  have hrun : (execOp a.eval ⟨some d, .next x false, ty, pos, af, gd⟩).run X.P w = ((do pure (Next.value (← Instr.next (.pointer (some ⟨it, 0, none⟩)) false ty)) : Sem Next)).run X.P w := by
    show ((do pure (Next.value (← Instr.next (a.eval x) false ty)) : Sem Next)).run X.P w = _
    rw [e1]; rfl
  have hgb := run_getB (P := X.P) h1
  by_cases hnil : Lr = []
  · have hz : left = #[] := by
      subst hnil
      have : L' = [] := List.Perm.eq_nil p1
      subst this
      exact Array.eq_empty_of_size_eq_zero (by simpa using hlen.symm)
    have hr : (Instr.next (.pointer (some ⟨it, 0, none⟩)) false ty).run X.P w = .ok (.tuple #[.bool false]) w := by
      simp only [Instr.next, Sem.run_bind, gi, Result.andThen_ok, hgb, hguard, Bool.false_eq_true, if_false, ← hl, hold, hnew, hz]
      simp [Question.forced]
    unfold Oper.wp
    rw [hrun, run_v hr]
    exact hn _ _ _ (k0 hnil) (s.put trivial hd')
  · have hpos : 0 < left.size := by
      rcases Nat.eq_zero_or_pos left.size with h | h
      · exfalso
        have : L' = [] := List.eq_nil_of_length_eq_zero (by omega)
        rw [this] at p1
        exact hnil (List.Perm.eq_nil p1.symm)
      · exact h
    have hne : left.isEmpty = false := by
      rw [Bool.eq_false_iff]
      intro h
      rw [Array.isEmpty_iff_size_eq_zero] at h
      omega
    -- the choice
    have step : ∀ (i : Nat) (w' : World), i < left.size → (w' = w ∨ w' = w.drew) → (choose (.mapNext left.size)).run X.P w = .ok i w' →
        Oper.wp X.P ⟨some d, .next x false, ty, pos, af, gd⟩ a w next Q := fun i w' hi hw' hch => by
      obtain ⟨en, hen⟩ : ∃ en, left[i]? = some en := ⟨left[i], by simp [hi]⟩
      have hiL : i < L'.length := by omega
      have hh1 : w'.heap = w.heap := by rcases hw' with rfl | rfl <;> rfl
      have s' : Sim X ⟨tm, H, R⟩ a w' := by
        rcases hw' with rfl | rfl
        · exact s
        · exact s.drew
      have hmem : en ∈ es.toList := by
        have := Array.mem_of_getElem? hen
        rw [hl, Array.mem_filter] at this
        simpa using this.1
      have hkv : kvR e f L'[i] = (en.key, en.val) := by
        have := congrArg (fun l => l[i]?) p2
        simp only [List.getElem?_map, List.getElem?_eq_getElem hiL, Option.map_some] at this
        rw [← hleft, ← hl, Array.getElem?_toList, hen] at this
        simpa using this
      have hset : (setObj it (.mapIter (some b) clock (seen.push en.born) clock)).run X.P w' = .ok () (setBlk w' it (.mapIter (some b) clock (seen.push en.born) clock)) := by
        have : w'.heap[it]? = some (.mapIter (some b) clock seen clock) := by rw [hh1]; exact h1'
        simp [setObj, Sem.run, this, setBlk]
      have hr : (Instr.next (.pointer (some ⟨it, 0, none⟩)) false ty).run X.P w = .ok (V.tup3 (.bool true) (e L'[i].1) (f L'[i].2)).real (setBlk w' it (.mapIter (some b) clock (seen.push en.born) clock)) := by
        simp only [Instr.next, Sem.run_bind, gi, Result.andThen_ok, hgb, hguard, Bool.false_eq_true, if_false, ← hl, hold, hnew, hne, Array.append_empty, Array.empty_append, Array.size_map, hch]
        simp only [Array.getElem?_map, hen, Option.map_some, Sem.run_bind, hset, Result.andThen_ok, Sem.run_pure, V.real]
        simp only [kvR, Prod.mk.injEq] at hkv
        rw [hkv.1, hkv.2]
      have hperm : Lr.Perm ((L'[i].1, L'[i].2) :: L'.eraseIdx i) := p1.symm.trans (perm_at (List.getElem?_eq_getElem hiL))
      have hvo : VOk X.A (e L'[i].1) ∧ VOk X.A (f L'[i].2) := h0' (e L'[i].1, f L'[i].2) (List.mem_map.2 ⟨L'[i], p1.mem_iff.1 (List.getElem_mem hiL), rfl⟩)
      have hb0 : (mitc b it e f L Lr cur).blk it := .inr rfl
      have hbne : b ≠ it := fun e' => by rw [e', h1'] at h1; cases h1
      have s1 : Sim X ⟨tm, (t, mitc b it e f L (L'.eraseIdx i) (some (L'[i].1, L'[i].2))) :: H, R⟩ a (setBlk w' it (.mapIter (some b) clock (seen.push en.born) clock)) := by
        obtain ⟨g1, g2⟩ := s'.hp t _ hg
        have hold' : w'.heap[it]? = some (.mapIter (some b) clock seen clock) := by rw [hh1]; exact h1'
        refine ⟨s'.has.setBlk (g2 it hb0), s'.le, s'.size, s'.dn, s'.tm, fun u c hu => ?_, fun u u' c1 c2 hne' q1 q2 k k1 k2 => ?_, s'.ro⟩
        · rw [get_cons] at hu
          split at hu
          · rw [Option.some.injEq] at hu
            subst hu
            refine ⟨⟨⟨h0, fun x hx => ?_, fun x hx => ?_⟩, es, clock, seen.push en.born, ?_, setBlk_same hold', h2, ?_, fun x hx => ?_⟩, fun k hk => g2 k hk⟩
            · obtain ⟨y, hy, rfl⟩ := List.mem_map.1 hx
              exact h0' _ (List.mem_map.2 ⟨y, p1.mem_iff.1 ((List.eraseIdx_sublist _ _).subset hy), rfl⟩)
            · simp only [Option.map_some, Option.some.injEq] at hx
              subst hx
              exact hvo
            · show (setBlk w' it _).heap[b]? = _
              rw [setBlk_other hbne, hh1]
              exact h1
            · rw [kvs_real]
              have hi' : (es.toList.filter fun x => !seen.contains x.born)[i]? = some en := by rw [← hleft, ← hl, Array.getElem?_toList]; exact hen
              rw [filter_seen h2.born hi']
              have : ((es.toList.filter fun x => !seen.contains x.born).eraseIdx i).map (fun e => (e.key, e.val)) = (L'.eraseIdx i).map (kvR e f) := by
                have := congrArg (fun l => l.eraseIdx i) p2.symm
                simp only [List.eraseIdx_eq_take_drop_succ, List.map_append, List.map_take, List.map_drop] at this ⊢
                exact this
              rw [this]
            · simp only [Option.map_some, Option.some.injEq] at hx
              subst hx
              simp only [kvR, Prod.mk.injEq] at hkv
              exact ⟨en, hmem, by simp, hkv.1.symm, hkv.2.symm⟩
          · rename_i hut
            obtain ⟨q1, q2⟩ := s'.hp u c hu
            refine ⟨q1.congr fun k hk => ?_, q2⟩
            show (setBlk w' it _).heap[k]? = w'.heap[k]?
            refine setBlk_other fun e' => ?_
            subst e'
            exact s'.dj u t c _ hut hu hg _ hk hb0
        · rw [get_cons] at q1 q2
          split at q1
          · rename_i e1'
            rw [if_neg (fun e2 => hne' (e1'.trans e2.symm))] at q2
            rw [Option.some.injEq] at q1
            subst q1
            exact s'.dj t u' _ c2 (fun e2 => hne' (e1'.trans e2)) hg q2 k k1 k2
          · split at q2
            · rename_i _ e2'
              rw [Option.some.injEq] at q2
              subst q2
              exact s'.dj u t c1 _ (fun e2 => hne' (e2.trans e2'.symm)) q1 hg k k1 k2
            · exact s'.dj u u' c1 c2 hne' q1 q2 k k1 k2
      unfold Oper.wp
      rw [hrun, run_v hr]
      exact hn _ _ _ (k1 _ _ _ hperm) (s1.put ⟨trivial, hvo.1, hvo.2⟩ hd')
    by_cases h1s : left.size ≤ 1
    · exact step 0 w hpos (.inl rfl) (by rw [run_choose_drew]; simp [Question.forced, h1s])
    · refine step (Question.cut (.mapNext left.size) (w.tape w.drawn (.mapNext left.size))) w.drew ?_ (.inr rfl) (by rw [run_choose_drew]; simp [Question.forced, h1s])
      exact Nat.mod_lt _ hpos

end

section
variable {X : Cx} {st : St} {dst : Option Tmp} {ty : TypeId} {pos : String} {af : Array Edge} {gd : Option (Nat × Bool)} {e : α → V} {f : β → V}

theorem h_entry {x : Operand} {t b it : Nat} {L Lr : List (α × β)} {k : α} {v : β} (hx : st.ev x = some (.ptr t it 0)) (hg : get t st.H = some (mitc b it e f L Lr (some (k, v)))) :
    EvH X ⟨dst, .entry x, ty, pos, af, gd⟩ st (.tup2 (e k) (f v)) := fun a w s => by
  obtain ⟨e1, _⟩ := s.ev hx
  obtain ⟨⟨⟨h0, h0', h0''⟩, es, clock, seen, h1, h1', h2, h4, h5⟩, h3⟩ := s.hp t _ hg
  obtain ⟨en, h6, h7, h8, h9⟩ := h5 (e k, f v) rfl
  refine ⟨?_, h0'' (e k, f v) rfl⟩
  show ((do pure (Next.value (← Instr.entry (a.eval x))) : Sem Next)).run X.P w = _
  refine run_v ?_
  rw [e1]
  have gi : (getObj it).run X.P w = .ok (.mapIter (some b) clock seen clock) w := by
    have : w.heap[it]? = some (.mapIter (some b) clock seen clock) := h1'
    simp [getObj, Sem.run, this]
  have hfind : es.find? (fun x => x.born == en.born) = some en := by
    rw [← Array.find?_toList]
    cases hf : es.toList.find? fun x => x.born == en.born with
    | none =>
      have := List.find?_eq_none.1 hf en h6
      simp at this
    | some en' =>
      have q1 := List.find?_some hf
      have q2 := List.mem_of_find?_eq_some hf
      simp only [beq_iff_eq] at q1
      obtain ⟨i, hi, r1⟩ := List.mem_iff_getElem.1 q2
      obtain ⟨j, hj, r2⟩ := List.mem_iff_getElem.1 h6
      have hb := h2.born
      rw [List.nodup_iff_pairwise_ne, List.pairwise_map, List.pairwise_iff_getElem] at hb
      rcases Nat.lt_trichotomy i j with c | c | c
      · exact absurd (by rw [r1, r2, q1]) (hb i j hi hj c)
      · subst c; rw [← r1, ← r2]
      · exact absurd (by rw [r1, r2, q1]) (hb j i hj hi c)
  simp only [Instr.entry, V.real, Sem.run_bind, gi, Result.andThen_ok, h7, run_getB h1, hfind, Sem.run_pure, h8, h9, bne_self_eq_false, Bool.false_eq_true, if_false]

theorem q_extract_raw {x : Operand} {a : Array Value} {i : Nat} {v : Value} (hx : st.ev x = some (.raw (.tuple a))) (h : a[i]? = some v) : EvQ X ⟨dst, .extract x i, ty, pos, af, gd⟩ st (cv v) := fun ac w s _ => by
  obtain ⟨e1, _⟩ := s.ev hx
  refine ⟨?_, cv_ok _ _⟩
  show ((do pure (Next.value (← Instr.extract (ac.eval x) i)) : Sem Next)).run X.P w = _
  refine run_v ?_
  rw [e1, cv_real]
  simp [Instr.extract, V.real, h]

end
end
end Go.Vm
