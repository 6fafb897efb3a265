/- From the judgement's contracts to the given statements: readings of arguments, what a call leaves. -/
import Derived.Test.YtimkkhefemnkpaaVm13
import Derived.ChangeStays
import Derived.ProofKit
import Derived.OpenShut
import Derived.Deep.Slices
namespace Go.Vm
open Go Go.ChangeShapes Go.WideShapes Go.ChangeAt Go.RowKit Go.Deep

def frameOf (W : World) : Fr := ⟨fun b => W.heap[b]?, W.os, W.output, W.tape, W.drawn⟩
theorem frameOf_has (W : World) : Has (frameOf W) W := ⟨fun _ _ h => h, rfl, rfl, rfl, Nat.le_refl _⟩

theorem heap_of_has {W W' : World} (h : Has (frameOf W) W') {b : Nat} (hb : b < W.heap.size) : W'.heap[b]? = W.heap[b]? := by
  obtain ⟨o, ho⟩ : ∃ o, W.heap[b]? = some o := ⟨_, Array.getElem?_eq_getElem hb⟩
  rw [ho]; exact h.cells b o ho

theorem has_keptBut {W W' : World} (h : Has (frameOf W) W') (may : MemPlace → Prop) : W.keptBut W' may := by
  refine ⟨h.os, h.out, fun i hi => ?_⟩
  rw [heap_of_has h hi]
  cases hc : W.heap[i]? with
  | none => rfl
  | some o => cases o <;> simp

theorem has_frozen {W W' : World} (h : Has (frameOf W) W') {b off : Nat} (hb : b < W.heap.size) : W'.frozen? ⟨b, off, none⟩ = W.frozen? ⟨b, off, none⟩ := by
  unfold World.frozen?
  simp only [heap_of_has h hb]

theorem has_sameAt {W W' : World} (h : Has (frameOf W) W') : ∀ {p : MemPlace}, p.block < W.heap.size → W.sameAt W' p
  | .cell b off, hb => by
    show W'.cell? ⟨b, off, none⟩ = W.cell? ⟨b, off, none⟩
    unfold World.cell?
    simp only [heap_of_has h (show b < W.heap.size from hb)]
  | .map b, hb => heap_of_has h hb

section
variable {H : Type} {enc : TypeId × Value → H} {P : Program}

theorem trodAll_stays {W W' : World} {sp : Nat → Bool} (K : Kids P (· < P.types.size)) (hsz : ∀ {t e : TypeId}, t < P.types.size → P.underlying t = some (.slice e) → 0 < P.cellsOf e) (h : Has (frameOf W) W') : ∀ {ts : List TypeId} {vs : List Value} {ds : List (DataW H)} {ps : List MemPlace}, (∀ t ∈ ts, t < P.types.size) →
    DataW.TrodAll enc P W 0 (fun _ => true) true ts vs ds ps → (∀ p ∈ ps, p.block < W.heap.size) → (∀ p ∈ ps, sp p.block = true) → DataW.TrodAll enc P W' 0 sp true ts vs ds ps
  | [], [], [], _, _, hh, _, _ => hh
  | t :: ts, v :: vs, d :: ds, ps, hts, ⟨p, q, ⟨n, hn⟩, hs, e⟩, hl, hsp => by
    subst e
    refine ⟨p, q, ⟨n, ?_⟩, trodAll_stays K hsz h (fun t ht => hts t (by simp [ht])) hs (fun x hx => hl x (by simp [hx])) (fun x hx => hsp x (by simp [hx])), rfl⟩
    exact DataW.trod_stays K hsz (fun h => by cases h) (hts t (by simp)) hn (fun x hx => has_sameAt h (hl x (by simp only at hx; simp [hx]))) (fun x hx => hsp x (by simp only at hx; simp [hx]))

/-- The law's post, from a call that answers true and leaves the old world alone. -/
theorem post_true {f : Func} {s : ChangeSpec} {fresh handsOn again : Bool} {W W' : World} {args : Array Value} {ds : List (DataW H)} {before : List MemPlace} {tb : TypeId} (K : Kids P (· < P.types.size)) (hsz : ∀ {t e : TypeId}, t < P.types.size → P.underlying t = some (.slice e) → 0 < P.cellsOf e)
    (hts : ∀ t ∈ f.params.toList, t < P.types.size) (hv : s.vars = []) (hr : f.resultTypes = #[tb]) (hb : P.underlying tb = some .bool) {gs : List (DataW H)} (hs : s.fn H ds = { results := [.lit (.bool true)], args := ds })
    (hW : DataW.Whole enc P f.params.toList s.vars false W args.toList ds gs before) (h : Has (frameOf W) W') : s.post enc P f false fresh handsOn again W args (.bool true) W' := by
  have hW' := hW
  have hlt := hW.lt
  obtain ⟨p, q, hA, hV, rfl, hz, hn⟩ := hW
  rw [hv] at hV
  obtain ⟨rfl, rfl⟩ := trodVars_none hV
  have e0 : ds ++ [] = ds := List.append_nil ds
  have hst : ∀ sp : Nat → Bool, (∀ x ∈ p, sp x.block = true) → DataW.TrodAll enc P W' 0 sp true f.params.toList args.toList (s.fn H (ds ++ [])).args p := fun sp hsp => by
    rw [e0, hs]
    exact trodAll_stays K hsz h hts hA (fun x hx => hlt x (by simp [hx])) hsp
  have hres : ∀ (b : Nat) (sp : Nat → Bool) (hd : Bool), DataW.TrodAll enc P W' b sp hd f.resultTypes.toList ((Value.bool true).resultList f.resultTypes.size) (s.fn H (ds ++ [])).results [] := fun b sp hd => by
    rw [e0, hs, hr]
    exact trodAll_cons_mk (shut_bool hb _) trodAll_mk0
  have hvars : ∀ sp : Nat → Bool, DataW.TrodVars enc P W' sp s.vars (s.fn H (ds ++ [])).vars [] := fun sp => by
    rw [e0, hs, hv]; rfl
  refine ⟨ds, [], p ++ [], [], p, [], hW', hres _ _ _, hst _ (fun x hx => by simpa using hlt x (by simp [hx])), hvars _, World.keptBut_mono (fun x hx => hx.elim) (has_keptBut h (fun _ => False)), fun _ => ?_⟩
  refine ⟨?_, _, _, ([] ++ p) ++ [], ⟨[] ++ p, [], trodAll_append (hst _ (fun _ _ => rfl)) (hres _ _ _), hvars _, rfl, ?_, ?_⟩, ?_⟩
  · exact ok_one hr rfl (okWide_bool_mk hb _)
  · intro b off hp
    rw [has_frozen h (show b < W.heap.size from hlt (.cell b off) (by simpa using hp))]
    exact hz b off (by simpa using hp)
  · intro ha; cases ha
  · intro x hx _
    simpa using hx

/-! ### readings -/

/-- Whatever reads at a type is one of these values. -/
def Rdb (enc : TypeId × Value → H) (P : Program) (W : World) (T : TypeId) {α : Type} (e : α → V) (ok : α → Prop) : Prop :=
  ∀ {fuel : Nat} {cs : List Value} {x : DataW H × List MemPlace}, DataW.trod enc P W 0 (fun _ => true) true fuel T cs = some x → ∃ a, ok a ∧ cs = (e a).cells ∧ (e a).mem = true ∧ VOk (frameOf W) (e a)

variable {W : World} {α β : Type}

theorem Rdb.map {T : TypeId} {e : α → V} {ok : α → Prop} (h : Rdb enc P W T e ok) {e' : β → V} {ok' : β → Prop} (φ : α → β) (he : ∀ a, e' (φ a) = e a) (hok : ∀ a, ok a → ok' (φ a)) : Rdb enc P W T e' ok' := fun hh => by
  obtain ⟨a, h1, h2, h3, h4⟩ := h hh
  exact ⟨φ a, hok a h1, by rw [he]; exact h2, by rw [he]; exact h3, by rw [he]; exact h4⟩

theorem Rdb.int {T : TypeId} {k : IntKind} (ht : P.underlying T = some (.int k)) : Rdb enc P W T (fun n => .int k n) (fun n => (Lit.int k n).wf = true) := fun hh => by
  obtain ⟨n, h1, _, h3⟩ := DataW.trod_int ht hh
  exact ⟨n, h3, h1, rfl, trivial⟩
theorem Rdb.bool {T : TypeId} (ht : P.underlying T = some .bool) : Rdb enc P W T (fun b => .bool b) (fun _ => True) := fun hh => by
  obtain ⟨b, h1, _⟩ := DataW.trod_bool ht hh
  exact ⟨b, trivial, h1, rfl, trivial⟩

theorem wf_u8 {n : Int} (h : (Lit.int .u8 n).wf = true) : 0 ≤ n ∧ n < 256 := by
  simp [Lit.wf, IntKind.min, IntKind.max, IntKind.signed, IntKind.bits] at h
  omega
theorem wf_i64 {n : Int} (h : (Lit.int .i64 n).wf = true) : -9223372036854775808 ≤ n ∧ n < 9223372036854775808 := by
  simp [Lit.wf, IntKind.min, IntKind.max, IntKind.signed, IntKind.bits] at h
  omega

theorem Rdb.bytes {T E : TypeId} {n : Nat} (ht : P.underlying T = some (.array n E)) (he : P.underlying E = some (.int .u8)) (hE : P.cellsOf E = 1) (hT : P.cellsOf T = n) :
    Rdb enc P W T (fun xs => .bytes n xs) (fun xs : List Int => xs.length = n ∧ ∀ x ∈ xs, 0 ≤ x ∧ x < 256) := fun {fuel cs x} hh => by
  obtain ⟨ys, m, _, _, hl, hy, hel⟩ := DataW.trod_array ht hh
  have hc : ∀ i, i < n → ∃ k, cs[i]? = some (.int .u8 k) ∧ 0 ≤ k ∧ k < 256 := fun i hi => by
    have h1 := hel i hi
    rw [List.getElem?_eq_getElem (by omega), hE, Nat.mul_one] at h1
    obtain ⟨k, h2, _, h3⟩ := DataW.trod_int he h1
    refine ⟨k, ?_, wf_u8 h3⟩
    have h4 := congrArg (·[0]?) h2
    simpa [List.getElem?_take, List.getElem?_drop] using h4
  let xs := cs.map fun c => match c with | .int _ k => k | _ => 0
  have hx : ∀ i, i < n → ∃ k, cs[i]? = some (.int .u8 k) ∧ xs[i]? = some k ∧ 0 ≤ k ∧ k < 256 := fun i hi => by
    obtain ⟨k, h1, h2⟩ := hc i hi
    exact ⟨k, h1, by simp [xs, h1], h2⟩
  have hlen : xs.length = n := by simp only [xs, List.length_map]; omega
  refine ⟨xs, ⟨hlen, fun y hy => ?_⟩, ?_, rfl, trivial⟩
  · obtain ⟨i, hi, rfl⟩ := List.mem_iff_getElem.1 hy
    obtain ⟨k, _, h2, h3⟩ := hx i (by omega)
    rw [List.getElem?_eq_getElem hi] at h2
    simp only [Option.some.injEq] at h2
    rw [h2]; exact h3
  · apply List.ext_getElem?
    intro i
    by_cases hi : i < n
    · obtain ⟨k, h1, h2, _⟩ := hx i hi
      rw [h1]
      show _ = (bcells n xs)[i]?
      rw [bcells_get n xs i hi]
      simp [List.getD, h2]
    · rw [List.getElem?_eq_none (by omega), List.getElem?_eq_none]
      show (bcells n xs).length ≤ i
      rw [bcells_length]; omega

/-- The fields of a struct, from one on. -/
def Rdf (enc : TypeId × Value → H) (P : Program) (W : World) (fs : List Field) (off n : Nat) {α : Type} (e : α → V) (ok : α → Prop) : Prop :=
  ∀ {cs : List Value}, cs.length = off + n → (∀ f ∈ fs, ∃ m y, DataW.trod enc P W 0 (fun _ => true) true m f.type ((cs.drop f.offset).take (P.cellsOf f.type)) = some y) →
    ∃ a, ok a ∧ cs.drop off = (e a).cells ∧ (e a).mem = true ∧ VOk (frameOf W) (e a)

theorem Rdf.one {f : Field} {T : TypeId} {off n : Nat} {e : α → V} {ok : α → Prop} (ht : f.type = T) (ho : f.offset = off) (hn : P.cellsOf T = n) (r : Rdb enc P W T e ok) : Rdf enc P W [f] off n e ok := fun {cs} hl hf => by
  obtain ⟨m, y, h⟩ := hf f (by simp)
  rw [ht, ho, hn, List.take_of_length_le (by rw [List.length_drop]; omega)] at h
  exact r h

theorem Rdf.cons {f : Field} {fs : List Field} {T : TypeId} {off n m : Nat} {e : α → V} {ok : α → Prop} {e' : β → V} {ok' : β → Prop} (ht : f.type = T) (ho : f.offset = off) (hn : P.cellsOf T = n) (r : Rdb enc P W T e ok) (k : Rdf enc P W fs (off + n) m e' ok') :
    Rdf enc P W (f :: fs) off (n + m) (fun x : α × β => .pair (e x.1) (e' x.2)) (fun x => ok x.1 ∧ ok' x.2) := fun {cs} hl hf => by
  obtain ⟨m1, y, h⟩ := hf f (by simp)
  rw [ht, ho, hn] at h
  obtain ⟨a, a1, a2, a3, a4⟩ := r h
  obtain ⟨b, b1, b2, b3, b4⟩ := k (by omega) (fun g hg => hf g (by simp [hg]))
  refine ⟨(a, b), ⟨a1, b1⟩, ?_, ?_, a4, b4⟩
  · show _ = (e a).cells ++ (e' b).cells
    rw [← a2, ← b2, ← List.drop_drop, List.take_append_drop]
  · show ((e a).mem && (e' b).mem) = true
    rw [a3, b3]; rfl

theorem Rdb.struct {T : TypeId} {n : Nat} {e : α → V} {ok : α → Prop} {fs : List Field} (ht : P.underlying T = some (.struct fs.toArray)) (hn : P.cellsOf T = n) (k : Rdf enc P W fs 0 n e ok) : Rdb enc P W T e ok := fun {fuel cs x} hh => by
  obtain ⟨xs, m, _, _, hl, hxl, hel⟩ := DataW.trod_struct ht hh
  have := k (cs := cs) (by omega) (fun f hf => by
    obtain ⟨i, hi, rfl⟩ := List.mem_iff_getElem.1 hf
    have h1 := hel i fs[i] (by simp [hi])
    rw [List.getElem?_eq_getElem (by simp at hxl; omega)] at h1
    exact ⟨m, _, h1⟩)
  simpa using this

variable [Inhabited α]

/-- A slice of them. -/
theorem Rdb.slice {T E : TypeId} {z : Nat} {e : α → V} {ok : α → Prop} (ht : P.underlying T = some (.slice E)) (hE : P.cellsOf E = z) (hz : 0 < z) (hs : ∀ a, (e a).size = z) (r : Rdb enc P W E e ok) :
    Rdb enc P W T (fun x : Option Addr × Nat × List α => lros x.1 x.2.1 e x.2.2) (fun x => x.2.2.length ≤ maxLen ∧ ∀ a ∈ x.2.2, ok a) := fun {fuel cs x} hh => by
  rcases open_slice ht hh with ⟨rfl, _⟩ | ⟨a, len, cap, m, n, D, Pl, rfl, _, hl, hm, hmm, _, hx⟩
  · exact ⟨(none, 0, []), ⟨Nat.zero_le _, by simp⟩, rfl, rfl, Nat.le_refl _, fun i hi => absurd hi (Nat.not_lt_zero i), .inl rfl⟩
  · have hmc : m = cap := by simpa using hmm
    subst hmc
    have hget : ∀ i, i < len → ∃ y, ok y ∧ (e y).mem = true ∧ VOk (frameOf W) (e y) ∧ ∃ cs', W.cells? 0 (a.add (i * z)) z = some cs' ∧ cs' = (e y).cells := fun i hi => by
      obtain ⟨cs', h1, h2⟩ := hx i (by omega)
      rw [hE] at h1
      obtain ⟨y, y1, y2, y3, y4⟩ := r h2
      exact ⟨y, y1, y3, y4, cs', h1, y2⟩
    obtain ⟨g, hg⟩ := choose_lt hget
    have hlat : ∀ i, i < len → lat ((List.range len).map g) i = g i := fun i hi => by simp [lat, List.getD, hi]
    refine ⟨(some a, m, (List.range len).map g), ⟨by simp; omega, fun y hy => ?_⟩, by simp [V.cells], rfl, ?_⟩
    · obtain ⟨i, hi, rfl⟩ := List.mem_map.1 hy
      exact (hg i (List.mem_range.1 hi)).1
    · have hlen : ((List.range len).map g).length = len := by simp
      refine ⟨by rw [hlen]; exact hl, fun i hi => ?_, ?_⟩
      · rw [hlen] at hi
        show VOk (frameOf W) (e (lat ((List.range len).map g) i)) ∧ (e (lat ((List.range len).map g) i)).mem = true
        rw [hlat i hi]
        exact ⟨(hg i hi).2.2.1, (hg i hi).2.1⟩
      · by_cases h0 : len = 0
        · left; rw [hlen]; exact h0
        right
        obtain ⟨_, _, _, cs0, c1, c2⟩ := hg 0 (by omega)
        obtain ⟨_, hl0, hc0⟩ := World.cells?_some c1
        have h00 := hc0 0 hz
        rw [List.getElem?_eq_getElem (by omega)] at h00
        have hadd : (a.add (0 * z)).add 0 = a := by simp [Addr.add]
        rw [hadd] at h00
        have hspot := World.cell?_spot h00
        obtain ⟨b, o, sp⟩ := a
        simp only at hspot
        subst hspot
        have hblk : ∃ c T' fr, W.heap[b]? = some (.cells c T' fr) := by
          unfold World.cell? at h00
          cases hh : W.heap[b]? with
          | none => simp [hh] at h00
          | some ob => cases ob <;> simp [hh] at h00; exact ⟨_, _, _, rfl⟩
        obtain ⟨c, T', fr, hb⟩ := hblk
        refine ⟨⟨b, o, none⟩, c, T', fr, z, rfl, rfl, hb, fun i hi => ?_⟩
        rw [hlen] at hi
        show (e (lat ((List.range len).map g) i)).size = z ∧ ∀ (j : Nat), j < z → c[o + i * z + j]? = (e (lat ((List.range len).map g) i)).cells[j]?
        rw [hlat i hi]
        refine ⟨hs _, fun j hj => ?_⟩
        obtain ⟨_, _, _, cs', d1, d2⟩ := hg i hi
        obtain ⟨_, _, hcc⟩ := World.cells?_some d1
        have h1 := hcc j hj
        rw [add_none, add_none, d2] at h1
        rw [← h1]
        simp [World.cell?, hb]

omit [Inhabited α]

/-- An argument that is a struct or an array. -/
theorem arg_agg {T : TypeId} {e : α → V} {ok : α → Prop} {base : Nat} {v : Value} {d : DataW H} {p : List MemPlace} (r : Rdb enc P W T e ok) (ht : (match P.underlying T with | some (.struct _) => true | some (.array _ _) => true | _ => false) = true) (hg : ∀ a, (e a).isAgg = true)
    (hval : Value.okWide P W .any base T v) (h : DataW.Trod enc P W 0 (fun _ => true) true T v d p) : ∃ a, ok a ∧ v = (e a).real ∧ VOk (frameOf W) (e a) := by
  obtain ⟨n, hn⟩ := h
  obtain ⟨a, a1, a2, a3, a4⟩ := r hn
  refine ⟨a, a1, ?_, a4⟩
  have hv : ∃ cs, v = .agg cs := by
    unfold Value.okWide at hval
    split at ht
    · rename_i hu; rw [hu] at hval; obtain ⟨cs, rfl, _⟩ := hval; exact ⟨cs, rfl⟩
    · rename_i hu; rw [hu] at hval; obtain ⟨cs, rfl, _⟩ := hval; exact ⟨cs, rfl⟩
    · cases ht
  obtain ⟨cs, rfl⟩ := hv
  rw [V.real_agg (hg a), ← a2]
  simp [Value.cells]

/-- An argument that is a slice. -/
theorem arg_slice {T E : TypeId} {e : α → V} {ok : α → Prop} {base : Nat} {v : Value} {d : DataW H} {p : List MemPlace} (r : Rdb enc P W T e ok) (ht : P.underlying T = some (.slice E)) (hg : ∀ a, (e a).cells = [(e a).real])
    (hval : Value.okWide P W .any base T v) (h : DataW.Trod enc P W 0 (fun _ => true) true T v d p) : ∃ a, ok a ∧ v = (e a).real ∧ VOk (frameOf W) (e a) := by
  obtain ⟨n, hn⟩ := h
  obtain ⟨a, a1, a2, a3, a4⟩ := r hn
  refine ⟨a, a1, ?_, a4⟩
  obtain ⟨ad, l, c, rfl⟩ := okWide_slice ht hval
  rw [hg a] at a2
  simpa [Value.cells] using a2

end
end Go.Vm
