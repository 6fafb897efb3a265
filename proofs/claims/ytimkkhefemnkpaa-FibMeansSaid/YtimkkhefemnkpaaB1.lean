/- Bits of bytes: the plain laws. -/
import Derived.Test.YtimkkhefemnkpaaA2
namespace Go.Vm

def bitV (x : Int) (r : Nat) : Int := IntKind.i64.wrap ((BitVec.ofInt 64 (IntKind.i64.wrap (x.fdiv (2 ^ (min (7 - r) 8)))) &&& BitVec.ofInt 64 1).toNat : Int)
def clrV (x : Int) (r : Nat) : Int := IntKind.u8.wrap ((BitVec.ofInt 8 x &&& ~~~BitVec.ofInt 8 (Int.fdiv 128 (2 ^ (min r 8)))).toNat : Int)
def cbyte (x : Int) (lo : Nat) : Nat → Int
  | 0 => x
  | r + 1 => if lo ≤ r then clrV (cbyte x lo r) r else cbyte x lo r
def clrL (a : List Int) (n k : Nat) : List Int := (List.range 16).map fun j => cbyte (a.getD j 0) (n - 8 * j) (min (k - 8 * j) 8)

theorem tdiv8 (k : Nat) : ((k : Int).tdiv 8) = ((k / 8 : Nat) : Int) := by
  rw [Int.tdiv_eq_ediv_of_nonneg (by omega)]; omega
theorem tmod8 (k : Nat) : ((k : Int).tmod 8) = ((k % 8 : Nat) : Int) := by
  rw [Int.tmod_eq_emod_of_nonneg (by omega)]; omega
theorem ix0 {k : Nat} (h : k < 128) : 0 ≤ IntKind.i64.wrap ((k : Int).tdiv 8) := by rw [tdiv8, w64 (by omega) (by omega)]; omega
theorem ix1 {k : Nat} (h : k < 128) : IntKind.i64.wrap ((k : Int).tdiv 8) < (16 : Nat) := by rw [tdiv8, w64 (by omega) (by omega)]; omega
theorem ix3 {k : Nat} (h : k < 128) : 0 + (IntKind.i64.wrap ((k : Int).tdiv 8)).toNat * 1 = k / 8 := by rw [tdiv8, w64 (by omega) (by omega)]; omega
theorem ix2 {k : Nat} (h : k < 128) : 0 + (IntKind.i64.wrap ((k : Int).tdiv 8)).toNat * 1 < 16 := by rw [ix3 h]; omega
theorem wu64 {x : Int} (h0 : 0 ≤ x) (h1 : x < 18446744073709551616) : IntKind.u64.wrap x = x := by
  unfold IntKind.wrap
  simp [IntKind.bits, IntKind.signed]
  omega
theorem sh0 {k : Nat} (h : k < 128) : 0 ≤ IntKind.u64.wrap (IntKind.i64.wrap (7 - (k : Int).tmod 8)) := by rw [tmod8, w64 (by omega) (by omega), wu64 (by omega) (by omega)]; omega
theorem sh7 {k : Nat} (h : k < 128) : (IntKind.u64.wrap (IntKind.i64.wrap (7 - (k : Int).tmod 8))).toNat = 7 - k % 8 := by rw [tmod8, w64 (by omega) (by omega), wu64 (by omega) (by omega)]; omega
theorem sh1 {k : Nat} (h : k < 128) : 0 ≤ IntKind.u64.wrap ((k : Int).tmod 8) := by rw [tmod8, wu64 (by omega) (by omega)]; omega
theorem sh0' {k : Nat} (h : k < 128) : (IntKind.u64.wrap ((k : Int).tmod 8)).toNat = k % 8 := by rw [tmod8, wu64 (by omega) (by omega)]; omega
theorem cbyte_skip (x : Int) (lo : Nat) : ∀ hi, hi ≤ lo → cbyte x lo hi = x
  | 0, _ => rfl
  | r + 1, h => by rw [cbyte, if_neg (by omega), cbyte_skip x lo r (by omega)]

theorem get_clrL (a : List Int) (n k j : Nat) (h : j < 16) : (clrL a n k).getD j 0 = cbyte (a.getD j 0) (n - 8 * j) (min (k - 8 * j) 8) := by
  simp [clrL, List.getD, h]

theorem clrL_zero (a : List Int) (n : Nat) : bcells 16 (clrL a n n) = bcells 16 a := by
  unfold bcells
  apply List.map_congr_left
  intro j hj
  have := List.mem_range.1 hj
  rw [get_clrL _ _ _ _ this, cbyte_skip _ _ _ (by omega)]

theorem clrL_succ (a : List Int) {n k : Nat} (h : n ≤ k) (hk : k < 128) : padset 16 (clrL a n k) (k / 8) (clrV ((clrL a n k).getD (k / 8) 0) (k % 8)) = clrL a n (k + 1) := by
  conv => rhs; unfold clrL
  unfold padset
  apply List.map_congr_left
  intro j hj
  have hj' := List.mem_range.1 hj
  by_cases e : j = k / 8
  · subst e
    rw [if_pos rfl, get_clrL _ _ _ _ (by omega)]
    have e1 : min (k - 8 * (k / 8)) 8 = k % 8 := by omega
    have e2 : min (k + 1 - 8 * (k / 8)) 8 = k % 8 + 1 := by omega
    rw [e1, e2, cbyte, if_pos (by omega)]
  · rw [if_neg e, get_clrL _ _ _ _ hj']
    congr 1
    omega

/-- what is left of a byte of which the first lo bits stay -/
def mraw (x : Int) (lo : Nat) : Int := IntKind.u8.wrap ((BitVec.ofInt 8 x &&& BitVec.ofInt 8 (IntKind.u8.wrap ((65280 : Int).fdiv (2 ^ (min lo 16))))).toNat)

theorem mbyte_raw (x : Int) (n j : Nat) : mbyte x (n : Int) j = mraw x (min (n - 8 * j) 8) := by
  unfold mbyte mraw
  have : (keepN (n : Int) j).toNat = min (n - 8 * j) 8 := by unfold keepN; omega
  rw [this]

set_option maxRecDepth 100000 in
set_option maxHeartbeats 4000000 in
theorem cbyte_all : ∀ lo : Fin 9, ∀ x : Fin 256, cbyte ((x : Nat) : Int) lo 8 = mraw ((x : Nat) : Int) lo := by decide +kernel

set_option maxRecDepth 100000 in
set_option maxHeartbeats 4000000 in
theorem bits_all : ∀ lo : Fin 9, ∀ x : Fin 256, (∀ r : Fin 8, (lo : Nat) ≤ r → bitV ((x : Nat) : Int) r ≠ 1) ↔ mraw ((x : Nat) : Int) lo = ((x : Nat) : Int) := by decide +kernel

/-- The bytes of an address. -/
def AdOk (a : List Int) : Prop := a.length = 16 ∧ ∀ x ∈ a, 0 ≤ x ∧ x < 256

theorem AdOk.get {a : List Int} (h : AdOk a) {j : Nat} (hj : j < 16) : ∃ x : Fin 256, a.getD j 0 = ((x : Nat) : Int) := by
  have hl : j < a.length := by rw [h.1]; exact hj
  have := h.2 a[j] (List.getElem_mem hl)
  refine ⟨⟨(a[j]).toNat, by omega⟩, ?_⟩
  simp [List.getD, List.getElem?_eq_getElem hl]
  omega

theorem clrL_mk1 {a : List Int} (h : AdOk a) (n : Nat) (hn : n ≤ 128) : clrL a n 128 = mk1 a (n : Int) 16 := by
  unfold clrL mk1
  apply List.map_congr_left
  intro j hj
  have hj' := List.mem_range.1 hj
  obtain ⟨x, hx⟩ := h.get hj'
  have e : min (128 - 8 * j) 8 = 8 := by omega
  rw [if_pos hj', hx, mbyte_raw, e]
  by_cases hlo : n - 8 * j ≤ 8
  · have := cbyte_all ⟨n - 8 * j, by omega⟩ x
    simp only at this
    rw [this, Nat.min_eq_left hlo]
  · have := cbyte_all ⟨8, by omega⟩ x
    simp only at this
    rw [Nat.min_eq_right (by omega), ← this, cbyte_skip _ _ _ (by omega), cbyte_skip _ _ _ (by omega)]

theorem get_mk1 (a : List Int) (n : Int) (j : Nat) (h : j < 16) : (mk1 a n 16).getD j 0 = mbyte (a.getD j 0) n j := by
  simp [mk1, List.getD, h]

theorem bits_mk1 {a : List Int} (h : AdOk a) (n : Nat) (hn : n ≤ 128) : (∀ k, n ≤ k → k < 128 → bitV (a.getD (k / 8) 0) (k % 8) ≠ 1) ↔ eqBytes 16 (mk1 a (n : Int) 16) a = true := by
  simp only [eqBytes, List.all_eq_true, List.mem_range, decide_eq_true_eq]
  constructor
  · intro hb j hj
    obtain ⟨x, hx⟩ := h.get hj
    rw [get_mk1 _ _ _ hj, hx, mbyte_raw]
    refine (bits_all ⟨min (n - 8 * j) 8, by omega⟩ x).1 fun r hr => ?_
    simp only at hr
    have := hb (8 * j + r) (by omega) (by omega)
    rw [show (8 * j + (r : Nat)) / 8 = j by omega, show (8 * j + (r : Nat)) % 8 = r by omega, hx] at this
    exact this
  · intro hb k h1 h2
    obtain ⟨x, hx⟩ := h.get (j := k / 8) (by omega)
    have := hb (k / 8) (by omega)
    rw [get_mk1 _ _ _ (by omega), hx, mbyte_raw] at this
    have := (bits_all ⟨min (n - 8 * (k / 8)) 8, by omega⟩ x).2 this ⟨k % 8, by omega⟩ (by simp only; omega)
    rw [hx]
    exact this

end Go.Vm
