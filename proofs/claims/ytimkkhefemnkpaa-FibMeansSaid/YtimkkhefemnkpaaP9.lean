/- To expand twice is to expand once: plain. -/
import Derived.Test.YtimkkhefemnkpaaP7
namespace Go.Vm
open Go Go.Proofs

theorem mraw_twice : ∀ (lo lo' : Fin 9) (x : Fin 256), (lo : Nat) ≤ lo' → mraw (mraw ((x : Nat) : Int) lo') lo = mraw ((x : Nat) : Int) lo := by decide +kernel
theorem mbyte_twice {x : Int} (hx : 0 ≤ x ∧ x < 256) {n m j : Nat} (h : n ≤ m) : mbyte (mbyte x (m : Int) j) (n : Int) j = mbyte x (n : Int) j := by
  rw [mbyte_raw, mbyte_raw, mbyte_raw]
  have := mraw_twice ⟨min (n - 8 * j) 8, by omega⟩ ⟨min (m - 8 * j) 8, by omega⟩ ⟨x.toNat, by omega⟩ (by simp only; omega)
  simpa only [Int.toNat_of_nonneg hx.1] using this
theorem mk1_get {a : List Int} {n : Int} {i : Nat} (hi : i < 16) : (mk1 a n 16).getD i 0 = mbyte (a.getD i 0) n i := by
  simp [mk1, List.getD, hi]
theorem mk1_twice {a : List Int} (ha : AdOk a) {n m : Int} (h0 : 0 ≤ n) (h : n ≤ m) : mk1 (mk1 a m 16) n 16 = mk1 a n 16 := by
  unfold mk1
  apply List.map_congr_left
  intro i hi
  have hi' := List.mem_range.1 hi
  rw [if_pos hi', if_pos hi', show ((List.range 16).map fun i => if i < 16 then mbyte (a.getD i 0) m i else a.getD i 0) = mk1 a m 16 from rfl, mk1_get hi']
  obtain ⟨x, hx⟩ := ha.get hi'
  obtain ⟨n', rfl⟩ := Int.eq_ofNat_of_zero_le h0
  obtain ⟨m', rfl⟩ := Int.eq_ofNat_of_zero_le (Int.le_trans h0 h)
  exact mbyte_twice (by rw [hx]; omega) (by omega)

theorem mk1_length {a : List Int} {n : Int} : (mk1 a n 16).length = 16 := by simp [mk1]
theorem covers_iff {a b : List Int} {n m : Int} (ha : AdOk a) : covers a n b m = true ↔ okp b m = true ∧ n ≤ m ∧ okp a n = true ∧ mk1 b n 16 = a := by
  simp only [covers, contains, Bool.and_eq_true, decide_eq_true_eq]
  have : eqBytes 16 (mk1 b n 16) a = decide (mk1 b n 16 = a) := eqBytes_iff mk1_length ha.1
  rw [this, decide_eq_true_eq]
theorem okp_iff {a : List Int} {n : Int} (ha : AdOk a) : okp a n = true ↔ 0 ≤ n ∧ n ≤ 128 ∧ mk1 a n 16 = a := by
  simp only [okp, Bool.and_eq_true, decide_eq_true_eq]
  have : eqBytes 16 (mk1 a n 16) a = decide (mk1 a n 16 = a) := eqBytes_iff mk1_length ha.1
  rw [this, decide_eq_true_eq]
theorem covers_trans {a b c : List Int} {n m k : Int} (ha : AdOk a) (hb : AdOk b) (hc : AdOk c) (h1 : covers a n b m = true) (h2 : covers b m c k = true) : covers a n c k = true := by
  obtain ⟨p1, p2, p3, p4⟩ := (covers_iff ha).1 h1
  obtain ⟨q1, q2, q3, q4⟩ := (covers_iff hb).1 h2
  refine (covers_iff ha).2 ⟨q1, Int.le_trans p2 q2, p3, ?_⟩
  rw [← p4, ← q4, mk1_twice hc (okp_rng p3).1 p2]
theorem covers_anti {a b : List Int} {n m : Int} (ha : AdOk a) (hb : AdOk b) (h : covers a n b m = true) (e : n = m) : a = b := by
  obtain ⟨p1, p2, p3, p4⟩ := (covers_iff ha).1 h
  subst e
  rw [← p4]; exact ((okp_iff hb).1 p1).2.2

theorem tok_ext : ∀ {S T : List En}, TOk S → TOk T → (∀ e, e ∈ S ↔ e ∈ T) → S = T
  | [], [], _, _, _ => rfl
  | [], y :: T, _, _, h => absurd ((h y).2 (by simp)) (by simp)
  | x :: S, [], _, _, h => absurd ((h x).1 (by simp)) (by simp)
  | x :: S, y :: T, hS, hT, h => by
    have s1 := List.pairwise_cons.1 hS.srt
    have t1 := List.pairwise_cons.1 hT.srt
    have e : x = y := by
      apply Decidable.byContradiction
      intro hne
      have h1 : x ∈ T := (List.mem_cons.1 ((h x).1 (by simp))).resolve_left hne
      have h2 : y ∈ S := (List.mem_cons.1 ((h y).2 (by simp))).resolve_left (fun e => hne e.symm)
      have h3 := t1.1 x h1
      have h4 := s1.1 y h2
      have h5 := cmpR_ord.anti x.p y.p
      omega
    subst e
    have no : ∀ {L : List En}, (∀ z ∈ L, cmpR x.p z.p < 0) → x ∉ L := fun hL hx => by
      have := hL x hx
      rw [cmpR_self] at this
      omega
    rw [tok_ext ⟨fun z hz => hS.ok z (by simp [hz]), s1.2⟩ ⟨fun z hz => hT.ok z (by simp [hz]), t1.2⟩ (fun z => ?_)]
    constructor
    · intro hz
      rcases List.mem_cons.1 ((h z).1 (by simp [hz])) with e | hz'
      · subst e; exact absurd hz (no s1.1)
      · exact hz'
    · intro hz
      rcases List.mem_cons.1 ((h z).2 (by simp [hz])) with e | hz'
      · subst e; exact absurd hz (no t1.1)
      · exact hz'

theorem TOk.uniq {T : List En} (h : TOk T) {x y : En} (hx : x ∈ T) (hy : y ∈ T) (e : x.p = y.p) : x = y := by
  obtain ⟨i, hi, rfl⟩ := List.mem_iff_getElem.1 hx
  obtain ⟨j, hj, rfl⟩ := List.mem_iff_getElem.1 hy
  have key : ∀ i j (hi : i < T.length) (hj : j < T.length), i < j → T[i].p = T[j].p → False := fun i j hi hj hij e => by
    have := List.pairwise_iff_getElem.1 h.srt i j hi hj hij
    rw [e, cmpR_self] at this
    omega
  rcases Nat.lt_trichotomy i j with hij | hij | hij
  · exact (key i j hi hj hij e).elim
  · subst hij; rfl
  · exact (key j i hj hi hij e.symm).elim

theorem tput_mem_iff {e y : En} {T : List En} (h : TOk T) (he : e.ok) : y ∈ tput e T ↔ y = e ∨ (y ∈ T ∧ y.p ≠ e.p) := by
  constructor
  · intro hy
    by_cases hp : y.p = e.p
    · left
      have : e ∈ tput e T := by
        clear hy hp h
        induction T with
        | nil => simp [tput]
        | cons x T ih => simp only [tput]; split <;> (try split) <;> simp [ih]
      exact (h.put he).uniq hy this hp
    · rcases tput_mem hy with rfl | hy
      · exact absurd rfl hp
      · exact .inr ⟨hy, hp⟩
  · rintro (rfl | ⟨hy, hp⟩)
    · clear h
      induction T with
      | nil => simp [tput]
      | cons x T ih => simp only [tput]; split <;> (try split) <;> simp [ih]
    · clear h
      induction T with
      | nil => cases hy
      | cons x T ih =>
        simp only [tput]
        rcases List.mem_cons.1 hy with rfl | hy
        · rw [if_neg hp]; split <;> simp
        · split
          · simp [hy]
          · split
            · simp [hy]
            · simp [ih hy]

/-! ### the entries of what is expanded -/
def valE (G : List En) (p : Pr) : En := ⟨p, (bestL p G).i, (bestL p G).h⟩
theorem mkE_val (G : List En) (x y : En) : mkE G x y = valE G (mkE G x y).p := rfl

theorem pfold_mem {G : List En} (hG : GOk G) {x : En} (hx : x.ok) : ∀ (l out : List En), (∀ y ∈ l, y.ok) → GOk out → (∀ e ∈ out, e = valE G e.p) →
    (∀ e ∈ l.foldl (pstep G x) out, e = valE G e.p) ∧ ∀ e, e ∈ l.foldl (pstep G x) out ↔ e ∈ out ∨ ∃ y ∈ l, pcond x y = true ∧ e = mkE G x y
  | [], out, _, _, hv => ⟨hv, fun e => by simp⟩
  | y :: l, out, hl, ho, hv => by
    have hy := hl y (by simp)
    have m1 : ∀ e, e ∈ pstep G x out y ↔ e ∈ out ∨ (pcond x y = true ∧ e = mkE G x y) := fun e => by
      unfold pstep
      split
      · rename_i hc
        rw [tput_mem_iff ho.toTOk (mkE_ok hG hx hy)]
        constructor
        · rintro (rfl | ⟨h, _⟩)
          · exact .inr ⟨hc, rfl⟩
          · exact .inl h
        · rintro (h | ⟨_, rfl⟩)
          · by_cases hp : e.p = (mkE G x y).p
            · left; rw [hv e h, hp]; rfl
            · exact .inr ⟨h, hp⟩
          · exact .inl rfl
      · rename_i hc
        constructor
        · exact fun h => .inl h
        · rintro (h | ⟨h, _⟩)
          · exact h
          · exact absurd h hc
    have hv1 : ∀ e ∈ pstep G x out y, e = valE G e.p := fun e he => by
      rcases (m1 e).1 he with h | ⟨_, rfl⟩
      · exact hv e h
      · rfl
    obtain ⟨r1, r2⟩ := pfold_mem hG hx l (pstep G x out y) (fun z hz => hl z (by simp [hz])) (pstep_ok hG hx hy ho) hv1
    refine ⟨r1, fun e => ?_⟩
    rw [List.foldl_cons, r2 e, m1 e]
    constructor
    · rintro ((h | ⟨h, h'⟩) | ⟨z, hz, h⟩)
      · exact .inl h
      · exact .inr ⟨y, by simp, h, h'⟩
      · exact .inr ⟨z, by simp [hz], h⟩
    · rintro (h | ⟨z, hz, h⟩)
      · exact .inl (.inl h)
      · rcases List.mem_cons.1 hz with rfl | hz
        · exact .inl (.inr h)
        · exact .inr ⟨z, hz, h⟩
theorem xfold_mem {G : List En} (hG : GOk G) : ∀ (l out : List En), (∀ y ∈ l, y.ok) → GOk out → (∀ e ∈ out, e = valE G e.p) →
    ∀ e, e ∈ l.foldl (xstep G) out ↔ e ∈ out ∨ ∃ x ∈ l, ∃ y ∈ G, pcond x y = true ∧ e = mkE G x y
  | [], out, _, _, _, e => by simp
  | x :: l, out, hl, ho, hv, e => by
    have hx := hl x (by simp)
    obtain ⟨r1, r2⟩ := pfold_mem hG hx G out hG.ok ho hv
    have := xfold_mem hG l (xstep G out x) (fun z hz => hl z (by simp [hz])) (pfold_ok hG hx G out hG.ok ho) r1 e
    rw [List.foldl_cons, this, show e ∈ xstep G out x ↔ _ from r2 e]
    constructor
    · rintro ((h | ⟨y, hy, h⟩) | ⟨z, hz, h⟩)
      · exact .inl h
      · exact .inr ⟨x, by simp, y, hy, h⟩
      · exact .inr ⟨z, by simp [hz], h⟩
    · rintro (h | ⟨z, hz, y, hy, h⟩)
      · exact .inl (.inl h)
      · rcases List.mem_cons.1 hz with rfl | hz
        · exact .inl (.inr ⟨y, hy, h⟩)
        · exact .inr ⟨z, hz, y, hy, h⟩
theorem exp_mem {G : List En} (hG : GOk G) (e : En) : e ∈ expG G ↔ ∃ x ∈ G, ∃ y ∈ G, pcond x y = true ∧ e = mkE G x y := by
  have := xfold_mem hG G [] hG.ok GOk.nil (by simp) e
  simpa [expG] using this

/-- to clean what is clean -/
theorem clean_take {E : List En} (hE : GOk E) : ∀ k, k ≤ E.length → cleanL (E.take k) = E.take k
  | 0, _ => rfl
  | k + 1, hk => by
    have hk2 : k < E.length := hk
    rw [clean_step hk2, clean_take hE k (by omega), cstep_yes (hE.may _ (lat_mem hk2)), tput_take hE.toTOk hk2]
    cases hh : has (lat E k).p (E.take k) with
    | false => rfl
    | true =>
      obtain ⟨y, hy, e⟩ := fhas_true hh
      obtain ⟨j, hj, rfl⟩ := List.mem_iff_getElem.1 hy
      rw [List.length_take] at hj
      have h1 := List.pairwise_iff_getElem.1 hE.srt j k (by omega) hk2 (by omega)
      rw [List.getElem_take] at e
      rw [show E[k] = lat E k by simp [lat, List.getD, List.getElem?_eq_getElem hk2], e, cmpR_self] at h1
      omega
theorem clean_self {E : List En} (hE : GOk E) : cleanL E = E := by
  have := clean_take hE E.length (Nat.le_refl _)
  rwa [List.take_length] at this

theorem pr_ext {p q : Pr} (h1 : p.d.a = q.d.a) (h2 : p.d.n = q.d.n) (h3 : p.s.a = q.s.a) (h4 : p.s.n = q.s.n) : p = q := by
  obtain ⟨⟨a, n⟩, ⟨b, m⟩⟩ := p
  obtain ⟨⟨a', n'⟩, ⟨b', m'⟩⟩ := q
  simp only at h1 h2 h3 h4
  rw [h1, h2, h3, h4]

theorem mtch_iff {p : Pr} {e : En} : mtch p e = true ↔ covers e.p.d.a e.p.d.n p.d.a p.d.n = true ∧ covers e.p.s.a e.p.s.n p.s.a p.s.n = true ∧ famP e.p.d.a e.p.d.n = famP p.d.a p.d.n := by
  simp only [mtch, Bool.and_eq_true, decide_eq_true_eq]
theorem mtch_own {e : En} (h : okR e.p = true) : mtch e.p e = true := by
  have := okpair_iff.1 h
  exact mtch_iff.2 ⟨covers_self this.1, covers_self this.2.1, rfl⟩

/-- where a pair stands itself it means itself -/
theorem best_own {E : List En} (hE : GOk E) {e : En} (he : e ∈ E) : bestL e.p E = e := by
  have hm := mtch_own (hE.may e he)
  unfold bestL
  rcases best_spec e.p E with ⟨_, h2⟩ | ⟨b, h1, h2, h3, h4⟩
  · rw [h2 e he] at hm; cases hm
  · rw [h1]
    obtain ⟨c1, c2, _⟩ := mtch_iff.1 h3
    have l1 := ((covers_iff (hE.ok b h2).1.1).1 c1).2.1
    have l2 := ((covers_iff (hE.ok b h2).1.2).1 c2).2.1
    have hb := h4 e he hm
    unfold better at hb
    have e1 : b.p.d.n = e.p.d.n := by omega
    have e2 : b.p.s.n = e.p.s.n := by omega
    exact hE.toTOk.uniq h2 he (pr_ext (covers_anti (hE.ok b h2).1.1 (hE.ok e he).1.1 c1 e1) e1 (covers_anti (hE.ok b h2).1.2 (hE.ok e he).1.2 c2 e2) e2)

theorem pcond_iff {x y : En} : pcond x y = true ↔ covers y.p.d.a y.p.d.n x.p.d.a x.p.d.n = true ∧ okR ⟨x.p.d, y.p.s⟩ = true := by
  simp only [pcond, Bool.and_eq_true]

theorem exp_exp {G : List En} (hG : GOk G) : expG (expG G) = expG G := by
  have hE := exp_ok hG
  refine tok_ext (exp_ok hE).toTOk hE.toTOk fun e => ?_
  rw [exp_mem hE]
  constructor
  · rintro ⟨x, hx, y, hy, hc, rfl⟩
    obtain ⟨x1, hx1, x2, hx2, hcx, rfl⟩ := (exp_mem hG _).1 hx
    obtain ⟨y1, hy1, y2, hy2, hcy, rfl⟩ := (exp_mem hG _).1 hy
    obtain ⟨c1, c2⟩ := pcond_iff.1 hc
    obtain ⟨d1, d2⟩ := pcond_iff.1 hcy
    have hcov : covers y2.p.d.a y2.p.d.n x1.p.d.a x1.p.d.n = true := covers_trans (hG.ok _ hy2).1.1 (hG.ok _ hy1).1.1 (hG.ok _ hx1).1.1 d1 c1
    have hpc : pcond x1 y2 = true := pcond_iff.2 ⟨hcov, c2⟩
    have hin : mkE G x1 y2 ∈ expG G := (exp_mem hG _).2 ⟨x1, hx1, y2, hy2, hpc, rfl⟩
    have hb := best_own hE hin
    have : mkE (expG G) (mkE G x1 x2) (mkE G y1 y2) = mkE G x1 y2 := by
      show (⟨⟨x1.p.d, y2.p.s⟩, (bestL ⟨x1.p.d, y2.p.s⟩ (expG G)).i, (bestL ⟨x1.p.d, y2.p.s⟩ (expG G)).h⟩ : En) = _
      rw [show bestL ⟨x1.p.d, y2.p.s⟩ (expG G) = mkE G x1 y2 from hb]
      rfl
    rw [this]; exact hin
  · intro he
    have hr := hE.may e he
    refine ⟨e, he, e, he, pcond_iff.2 ⟨covers_self (okpair_iff.1 hr).1, hr⟩, ?_⟩
    show e = ⟨⟨e.p.d, e.p.s⟩, (bestL e.p (expG G)).i, (bestL e.p (expG G)).h⟩
    rw [best_own hE he]

theorem expand_twice {l : List En} (ho : ∀ e ∈ l, e.ok) : expandL (expandL l) = expandL l := by
  unfold expandL
  rw [clean_self (exp_ok (clean_ok ho)), exp_exp (clean_ok ho)]
end Go.Vm
