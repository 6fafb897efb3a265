/- The order of pairs is an order; slices.SortFunc over it. -/
import Derived.Test.YtimkkhefemnkpaaS1
namespace Go.Vm
open Go Go.Proofs Go.Sort Go.Shelf

theorem u8_tri (a b : UInt8) : a < b ∨ a = b ∨ b < a := by
  simp only [UInt8.lt_iff_toNat_lt, ← UInt8.toNat_inj]
  omega

structure OrdC {α : Type} (c : α → α → Int) : Prop where
  anti : ∀ x y, c y x = - c x y
  tr : ∀ x y z, c x y ≤ 0 → c y z ≤ 0 → c x z ≤ 0

theorem OrdC.comap {α β : Type} {c : β → β → Int} (h : OrdC c) (f : α → β) : OrdC fun x y => c (f x) (f y) := ⟨fun _ _ => h.anti _ _, fun _ _ _ => h.tr _ _ _⟩

theorem OrdC.zero {α : Type} {c : α → α → Int} (h : OrdC c) {x y z : α} (h1 : c x y ≤ 0) (h2 : c y z ≤ 0) (h3 : c x z = 0) : c x y = 0 ∧ c y z = 0 := by
  have a1 := h.anti x y
  have a2 := h.anti y z
  have a3 := h.anti x z
  have t1 := h.tr z x y (by omega) h1
  have t2 := h.tr y z x h2 (by omega)
  omega

theorem OrdC.lex {α : Type} {c d : α → α → Int} (hc : OrdC c) (hd : OrdC d) : OrdC fun x y => orL [c x y, d x y] where
  anti x y := by
    have h1 := hc.anti x y
    have h2 := hd.anti x y
    simp only [orL_two]
    by_cases h : c x y = 0
    · rw [if_neg (by omega), if_neg (by omega), h2]
    · rw [if_pos (by omega), if_pos (by omega), h1]
  tr x y z h1 h2 := by
    simp only [orL_two] at h1 h2 ⊢
    have k1 : c x y ≤ 0 := by by_cases h : c x y = 0 <;> simp_all
    have k2 : c y z ≤ 0 := by by_cases h : c y z = 0 <;> simp_all
    have k3 := hc.tr _ _ _ k1 k2
    by_cases h : c x z = 0
    · obtain ⟨e1, e2⟩ := hc.zero k1 k2 h
      rw [if_neg (by omega)] at h1 h2 ⊢
      exact hd.tr _ _ _ h1 h2
    · rw [if_pos h]; exact k3

theorem sgn_ord : OrdC sgn where
  anti x y := by unfold sgn; repeat' split <;> omega
  tr x y z := by unfold sgn; repeat' split <;> omega

theorem bytes_ord : OrdC Lib.compareBytes where
  anti := by
    intro x
    induction x with
    | nil => intro y; cases y <;> rfl
    | cons a x ih =>
      intro y
      cases y with
      | nil => rfl
      | cons b y =>
        simp only [Lib.compareBytes]
        rcases u8_tri a b with h | h | h
        · have : ¬ b < a := UInt8.lt_asymm h
          simp [h, this]
        · subst h; simp [ih]
        · have : ¬ a < b := UInt8.lt_asymm h
          simp [h, this]
  tr := by
    intro x
    induction x with
    | nil => intro y z h1 h2; cases y <;> cases z <;> simp_all [Lib.compareBytes]
    | cons a x ih =>
      intro y z h1 h2
      cases y with
      | nil => simp [Lib.compareBytes] at h1
      | cons b y =>
        cases z with
        | nil => simp [Lib.compareBytes] at h2
        | cons c z =>
          simp only [Lib.compareBytes] at h1 h2 ⊢
          have e1 : ¬ b < a := fun h => by
            have : ¬ a < b := UInt8.lt_asymm h
            simp [h, this] at h1
          have e2 : ¬ c < b := fun h => by
            have : ¬ b < c := UInt8.lt_asymm h
            simp [h, this] at h2
          by_cases h : a < c
          · simp [h]
          · have hca : ¬ c < a := by
              rw [UInt8.lt_iff_toNat_lt] at *
              omega
            have hab : ¬ a < b := by
              rw [UInt8.lt_iff_toNat_lt] at *
              omega
            have hbc : ¬ b < c := by
              rw [UInt8.lt_iff_toNat_lt] at *
              omega
            simp only [hab, e1, hbc, e2, h, hca, if_false] at h1 h2 ⊢
            exact ih y z h1 h2

theorem cmpR_ord : OrdC cmpR :=
  (((bytes_ord.comap fun p : Pr => u8s (pad 16 p.d.a)).lex (sgn_ord.comap fun p : Pr => p.d.n)).lex ((bytes_ord.comap fun p : Pr => u8s (pad 16 p.s.a)).lex (sgn_ord.comap fun p : Pr => p.s.n)))

theorem OrdC.swo {α : Type} {c : α → α → Int} (h : OrdC c) : SWO (ltOf c) where
  irrefl x := by have := h.anti x x; simp [ltOf]; omega
  trans x y z h1 h2 := by
    simp only [ltOf, decide_eq_true_eq] at *
    have := h.tr x y z (by omega) (by omega)
    by_cases e : c x z = 0
    · have := h.zero (x := x) (y := y) (z := z) (by omega) (by omega) e; omega
    · omega
  ntrans x y z h1 h2 := by
    simp only [ltOf, decide_eq_false_iff_not] at *
    have a1 := h.anti x y
    have a2 := h.anti y z
    have a3 := h.anti x z
    have := h.tr z y x (by omega) (by omega)
    omega

theorem bytes_zero : ∀ {x y : List UInt8}, Lib.compareBytes x y = 0 → x = y
  | [], [], _ => rfl
  | [], _ :: _, h => by simp [Lib.compareBytes] at h
  | _ :: _, [], h => by simp [Lib.compareBytes] at h
  | a :: x, b :: y, h => by
    simp only [Lib.compareBytes] at h
    have h1 : ¬ a < b := fun e => by simp [e] at h
    have h2 : ¬ b < a := fun e => by simp [e, h1] at h
    simp only [h1, h2, if_false] at h
    have : a = b := by
      rcases u8_tri a b with e | e | e
      · exact absurd e h1
      · exact e
      · exact absurd e h2
    rw [this, bytes_zero h]

theorem pad_ok {a : List Int} (h : AdOk a) : pad 16 a = a := by
  apply List.ext_getElem?
  intro i
  by_cases hi : i < 16
  · rw [pad_get hi]
    have : i < a.length := by rw [h.1]; exact hi
    simp [List.getD, List.getElem?_eq_getElem this]
  · rw [List.getElem?_eq_none (by rw [pad_length]; omega), List.getElem?_eq_none (by rw [h.1]; omega)]

theorem u8s_inj : ∀ {a b : List Int}, (∀ x ∈ a, 0 ≤ x ∧ x < 256) → (∀ x ∈ b, 0 ≤ x ∧ x < 256) → u8s a = u8s b → a = b
  | [], [], _, _, _ => rfl
  | [], _ :: _, _, _, h => by simp [u8s] at h
  | _ :: _, [], _, _, h => by simp [u8s] at h
  | x :: a, y :: b, h1, h2, h => by
    simp only [u8s, List.map_cons, List.cons.injEq] at h
    rw [(u8_inj (h1 x (by simp)) (h2 y (by simp))).1 h.1, u8s_inj (fun z hz => h1 z (by simp [hz])) (fun z hz => h2 z (by simp [hz])) h.2]

theorem cmpA_zero {a b : List Int} (ha : AdOk a) (hb : AdOk b) (h : cmpA a b = 0) : a = b := by
  unfold cmpA at h
  rw [pad_ok ha, pad_ok hb] at h
  exact u8s_inj ha.2 hb.2 (bytes_zero h)

theorem orL_zero {x y : Int} (h : orL [x, y] = 0) : x = 0 ∧ y = 0 := by
  rw [orL_two] at h
  by_cases hx : x = 0
  · rw [if_neg (by omega)] at h; exact ⟨hx, h⟩
  · rw [if_pos hx] at h; exact absurd h hx

theorem sgn_zero {x y : Int} (h : sgn x y = 0) : x = y := by
  unfold sgn at h
  split at h
  · omega
  · split at h <;> omega

theorem cmpR_zero {p q : Pr} (hp : p.ok) (hq : q.ok) (h : cmpR p q = 0) : p = q := by
  obtain ⟨h1, h2⟩ := orL_zero h
  obtain ⟨h3, h4⟩ := orL_zero h1
  obtain ⟨h5, h6⟩ := orL_zero h2
  obtain ⟨⟨a, n⟩, ⟨b, m⟩⟩ := p
  obtain ⟨⟨a', n'⟩, ⟨b', m'⟩⟩ := q
  have e1 : a = a' := cmpA_zero hp.1 hq.1 h3
  have e2 : n = n' := sgn_zero h4
  have e3 : b = b' := cmpA_zero hp.2 hq.2 h5
  have e4 : m = m' := sgn_zero h6
  rw [e1, e2, e3, e4]

/-! ### the sort -/

def prC (p : Pr) : List Value := (prE p).cells

theorem prC_len (p : Pr) : (prC p).length = 34 := V.cells_length (prE p)

theorem flatK_flat (ks : List Pr) : (flatK prC 34 ks.toArray).toList = flat ks.length fun j => prE (lat ks j) := by
  have hz : ∀ i, i < ks.length → ((fun j => prE (lat ks j)) i).size = 34 := fun _ _ => rfl
  have hl := flat_length hz
  apply List.ext_getElem?
  intro t
  by_cases ht : t < ks.length * 34
  · have e := Nat.div_add_mod t 34
    have h1 : t / 34 < ks.length := by omega
    have h2 : t % 34 < 34 := Nat.mod_lt _ (by decide)
    have hg := flat_get hz h1 h2
    rw [show t / 34 * 34 + t % 34 = t by omega] at hg
    rw [hg]
    have hk := get_flatK prC 34 ks.toArray t (by simpa using ht)
    have hs : t < (flatK prC 34 ks.toArray).size := by simpa using ht
    rw [Array.getElem?_toList, Array.getElem?_eq_getElem hs]
    rw [getElem!_pos (flatK prC 34 ks.toArray) t hs] at hk
    rw [hk]
    have ea : ks.toArray[t / 34]! = lat ks (t / 34) := by
      rw [getElem!_pos ks.toArray (t / 34) (by simpa using h1)]
      simp [lat, List.getD, List.getElem?_eq_getElem h1]
    rw [ea]
    have hlen : t % 34 < (prC (lat ks (t / 34))).length := by rw [prC_len]; exact h2
    show _ = (prC (lat ks (t / 34)))[t % 34]?
    rw [List.getElem?_eq_getElem hlen, getElem!_pos (prC (lat ks (t / 34))) (t % 34) hlen]
  · rw [List.getElem?_eq_none (by rw [Array.length_toList]; simpa using Nat.le_of_not_lt ht), List.getElem?_eq_none (by omega)]

def SortedK (ks : List Pr) : Prop := ks.Pairwise fun p q => ¬ cmpR q p < 0

theorem mapBlock_heap {w : World} {b : Nat} {c : Array Value} {T : TypeId} {fr : Nat × Nat} (h : w.heap[b]? = some (.cells c T fr)) (f : Array Value → Array Value) : mapBlock w b f = setBlk w b (.cells (f c) T fr) := by
  obtain ⟨hlt, he⟩ := Array.getElem?_eq_some_iff.1 h
  unfold mapBlock setBlk
  congr 1
  apply Array.ext_getElem?
  intro i
  rw [Array.getElem?_modify]
  by_cases hi : b = i
  · subst hi
    rw [if_pos rfl, h, Array.getElem?_setIfInBounds_self]
    simp [hlt, onCells]
  · rw [if_neg hi, Array.getElem?_setIfInBounds_ne hi]

theorem putCells_flat {F : Array Value} {c sp : List Value} (h : F.size = c.length) : putCells id 0 F (c ++ sp).toArray = (F.toList ++ sp).toArray := by
  apply Array.ext_getElem?
  intro i
  unfold putCells
  rw [Array.getElem?_mapIdx]
  simp only [Nat.zero_le, true_and, Nat.zero_add, Nat.sub_zero, id, List.getElem?_toArray]
  by_cases hi : i < c.length
  · rw [List.getElem?_append_left hi, List.getElem?_append_left (by rw [Array.length_toList]; omega), List.getElem?_eq_getElem hi]
    simp only [Option.map_some]
    rw [if_pos (by omega), Array.getElem?_toList, Array.getElem?_eq_getElem (by omega), getElem!_pos _ _ (by omega)]
  · rw [List.getElem?_append_right (by omega), List.getElem?_append_right (by rw [Array.length_toList]; omega)]
    have e : i - F.toList.length = i - c.length := by rw [Array.length_toList, h]
    rw [e]
    cases sp[i - c.length]? with
    | none => rfl
    | some x => simp only [Option.map_some]; rw [if_neg (by omega)]

theorem isAgg35 : ∀ w, (isAgg (Try.sortPr_ren.t 24)).run Try.prog w = .ok true w := fun w => (inferInstance : Ty Try.prog 35 true 34).agg w
theorem sizeOf35 : ∀ w, (Go.sizeOf (Try.sortPr_ren.t 24)).run Try.prog w = .ok 34 w := fun w => (inferInstance : Ty Try.prog 35 true 34).size w

theorem cmpLays48 (b n : Nat) (w : World) : CmpLays Try.prog 48 #[] prC 34 cmpR b 0 n w := fun m os dk _ x y =>
  SpecQ.lays (cmpPr_spec x.d.a x.d.n x.s.a x.s.n y.d.a y.d.n y.s.a y.s.n) (fun A v hv => by
    simp only [List.mem_cons, List.not_mem_nil, or_false] at hv
    rcases hv with rfl | rfl <;> exact ⟨⟨trivial, trivial⟩, trivial, trivial⟩) _

theorem sort_spec (t : Nat) (a : Option Nat) (cap : Nat) (ks : List Pr) (hlen : ks.length < 4611686018427387904) : Spec Try.prog 88 [.sl t a 34 0 cap ks.length, .fn (.func 48) .unit] [(t, lvec a 35 34 cap prE ks)]
    (fun r H' => r = .tup0 ∧ ∃ ks', ks'.Perm ks ∧ SortedK ks' ∧ H' = [(t, lvec a 35 34 cap prE ks')]) := by
  intro A F w hAF hH hargs
  cases a with
  | none =>
    have hv : CellIn A (fun b => w.heap[b]?) (lvec none 35 34 cap prE ks) := (hH.hp t _ (by rw [get_cons, if_pos rfl])).1
    have h0 : ks = [] := List.eq_nil_of_length_eq_zero hv.1
    subst h0
    refine (AnyF.slices_SortFunc_none Try.sortPr none cap (.func (.func 48) #[] #[]) w).mono ?_
    rintro e w' ⟨rfl, rfl⟩
    exact ⟨.tup0, _, ⟨rfl, [], List.Perm.refl _, List.Pairwise.nil, rfl⟩, rfl, trivial, hH⟩
  | some b =>
    obtain ⟨⟨hcap, hel, sp, hblk, hsp⟩, hF⟩ := hH.hp t _ (by rw [get_cons, if_pos rfl])
    have hblk' : w.heap[b]? = some (.cells ((flat ks.length fun j => prE (lat ks j)) ++ sp).toArray 35 (0, 0)) := hblk
    have hz : ∀ i, i < ks.length → ((fun j => prE (lat ks j)) i).size = 34 := fun _ _ => rfl
    have hfl := flat_length hz
    have hHK : HoldsK prC 34 w b 0 ks.toArray := fun j hj => by
      have hj' : j < ks.length * 34 := by simpa using hj
      have hk : (flatK prC 34 ks.toArray)[j]! = (flatK prC 34 ks.toArray).toList[j]'(by rw [Array.length_toList]; exact hj) := by
        rw [getElem!_pos _ j hj, Array.getElem_toList]
      refine ⟨?_, frozen_of hblk' _⟩
      rw [cell_of hblk', Nat.zero_add, List.getElem?_toArray, List.getElem?_append_left (by omega), ← flatK_flat]
      rw [List.getElem?_eq_getElem (by rw [Array.length_toList]; exact hj)]
      show _ = some (id _)
      rw [hk]
      rfl
    have hsrt := AnyQ.slices_SortFunc Try.sortPr 34 isAgg35 sizeOf35 prC prC_len (fun x v hv => V.oneCell_cells (v := prE x) rfl v hv) cmpR cmpR_ord.swo 48 #[] b 0 cap ks.toArray w (fun args w => (inferInstance : Ent Try.prog 48).run args w) (cmpLays48 b _ w) hHK (lt_of_heap hblk') (by simpa using hlen)
    have hreal : (V.sl t (some b) 34 0 cap ks.length).real = .slice (some ⟨b, 0, none⟩) ks.toArray.size cap := by simp [V.real]
    have hgoal : (([.sl t (some b) 34 0 cap ks.length, .fn (.func 48) .unit] : List V).map V.real).toArray = #[.slice (some ⟨b, 0, none⟩) ks.toArray.size cap, .func (.func 48) #[] #[]] := by
      simp [V.real, V.cells]
    rw [hgoal]
    refine (show Calls Try.prog 88 _ w _ from hsrt).mono ?_
    rintro e w' ⟨rfl, d', n, os, hp, hs, rfl⟩
    obtain ⟨hsz, _, hperm⟩ := hp
    have hsz' : d'.size = ks.length := by simpa using hsz
    have hp2 : d'.toList.Perm ks := by
      have : d'.extract 0 ks.toArray.size = d' := by rw [← hsz]; simp
      rw [this] at hperm
      simpa using hperm
    have hks : d'.toList.length = ks.length := by simpa using hsz'
    have hd' : d' = d'.toList.toArray := by simp
    have hwd : sortWorldK prC 34 w b 0 n d' os = grow (setBlk (Sort.ahead w n) b (.cells ((flat ks.length fun j => prE (lat d'.toList j)) ++ sp).toArray 35 (0, 0))) os := by
      unfold sortWorldK putRowK putRow
      have hb2 : (Sort.ahead w n).heap[b]? = some (.cells ((flat ks.length fun j => prE (lat ks j)) ++ sp).toArray 35 (0, 0)) := hblk'
      rw [mapBlock_heap hb2, putCells_flat (by rw [size_flatK, hfl, hsz'])]
      have := flatK_flat d'.toList
      rw [← hd', hks] at this
      rw [this]
    rw [hwd]
    have hb0 : F.c b = none := hF b rfl
    have hsz0 : ∀ k, k < w.heap.size → k ≠ b → (grow (setBlk (Sort.ahead w n) b (.cells ((flat ks.length fun j => prE (lat d'.toList j)) ++ sp).toArray 35 (0, 0))) os).heap[k]? = w.heap[k]? := fun k hk hne => by
      rw [heap_grow_old _ _ (by simpa [setBlk, Sort.ahead] using hk), setBlk_other hne]
      rfl
    have hbn : (grow (setBlk (Sort.ahead w n) b (.cells ((flat ks.length fun j => prE (lat d'.toList j)) ++ sp).toArray 35 (0, 0))) os).heap[b]? = some (.cells ((flat ks.length fun j => prE (lat d'.toList j)) ++ sp).toArray 35 (0, 0)) := by
      rw [heap_grow_old _ _ (by simpa [setBlk, Sort.ahead] using lt_of_heap hblk')]
      exact setBlk_same (w := Sort.ahead w n) hblk'
    refine ⟨.tup0, _, ⟨rfl, d'.toList, hp2, ?_, rfl⟩, rfl, trivial, ⟨fun k o hk => ?_, hH.has.os, hH.has.out, hH.has.tape, Nat.le_trans hH.has.dr (Nat.le_add_right _ _)⟩, fun u c hg => ?_, fun u u' c c' hne h1 h2 => ?_⟩
    · rw [SortedK, List.pairwise_iff_getElem]
      intro i j hi hj hij
      have := hs i j (Nat.zero_le _) hij (by simpa [hsz'] using (by simpa using hj : j < d'.size))
      simp only [ltOf, decide_eq_false_iff_not] at this
      have hi' : i < d'.size := by simpa using hi
      have hj' : j < d'.size := by simpa using hj
      rw [getElem!_pos d' i hi', getElem!_pos d' j hj'] at this
      simpa using this
    · have hne : k ≠ b := fun e => by rw [e, hb0] at hk; cases hk
      have := hH.has.cells k o hk
      rw [hsz0 k (lt_of_heap this) hne]
      exact this
    · rw [get_cons] at hg
      split at hg
      · rw [Option.some.injEq] at hg
        subst hg
        exact ⟨⟨by rw [hks]; exact hcap, fun i _ => ⟨rfl, rfl, ⟨trivial, trivial⟩, trivial, trivial⟩, sp, by rw [hks]; exact hbn, by rw [hks]; exact hsp⟩, fun k hk => hF k hk⟩
      · cases hg
    · rw [get_cons] at h1 h2
      split at h1
      · split at h2
        · rename_i e1 e2; exact absurd (e1.trans e2.symm) hne
        · cases h2
      · cases h1

end Go.Vm
