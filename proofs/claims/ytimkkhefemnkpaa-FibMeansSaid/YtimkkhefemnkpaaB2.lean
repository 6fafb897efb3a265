/- Families and the order of addresses: the plain laws. -/
import Derived.Test.YtimkkhefemnkpaaB1
namespace Go.Vm

theorem pad_length (n : Nat) (a : List Int) : (pad n a).length = n := by simp [pad]
theorem pad_get {n : Nat} {a : List Int} {j : Nat} (h : j < n) : (pad n a)[j]? = some (a.getD j 0) := by simp [pad, h]

theorem u8_inj {x y : Int} (hx : 0 ≤ x ∧ x < 256) (hy : 0 ≤ y ∧ y < 256) : UInt8.ofNat x.toNat = UInt8.ofNat y.toNat ↔ x = y := by
  constructor
  · intro h
    have := congrArg UInt8.toNat h
    simp only [UInt8.toNat_ofNat'] at this
    omega
  · rintro rfl; rfl

theorem u8_lt {x y : Int} (hx : 0 ≤ x ∧ x < 256) (hy : 0 ≤ y ∧ y < 256) : UInt8.ofNat x.toNat < UInt8.ofNat y.toNat ↔ x < y := by
  rw [UInt8.lt_iff_toNat_lt, UInt8.toNat_ofNat', UInt8.toNat_ofNat']
  omega

theorem AdOk.rng {a : List Int} (h : AdOk a) (j : Nat) : 0 ≤ a.getD j 0 ∧ a.getD j 0 < 256 := by
  by_cases hj : j < a.length
  · have := h.2 a[j] (List.getElem_mem hj)
    simpa [List.getD, List.getElem?_eq_getElem hj] using this
  · simp [List.getD, List.getElem?_eq_none (Nat.le_of_not_lt hj)]

def famB (j : Nat) : Int := if j < 10 then 0 else 255

theorem fam_iff {a : List Int} (h : AdOk a) : ((bs (pad 12 a)).toList == map12.toList) = true ↔ ∀ j, j < 12 → a.getD j 0 = famB j := by
  rw [ByteArray.toList_eq, ByteArray.toList_eq, beq_iff_eq]
  have e1 : (bs (pad 12 a)).data.toList = (List.range 12).map fun j => UInt8.ofNat (a.getD j 0).toNat := by
    simp [bs, pad]
  have e2 : map12.data.toList = (List.range 12).map fun j => UInt8.ofNat (famB j).toNat := by decide +kernel
  rw [e1, e2]
  have hf : ∀ j, 0 ≤ famB j ∧ famB j < 256 := fun j => by unfold famB; split <;> omega
  constructor
  · intro he j hj
    have := congrArg (fun l => l[j]?) he
    simp only [List.getElem?_map, List.getElem?_range hj, Option.map_some, Option.some.injEq] at this
    exact (u8_inj (h.rng j) (hf j)).1 this
  · intro he
    exact List.map_congr_left fun j hj => by rw [he j (List.mem_range.1 hj)]

theorem fam_all {a : List Int} (h : AdOk a) (hz : ∀ j, j < 12 → a.getD j 0 = famB j) : famA a = 4 := if_pos ((fam_iff h).2 hz)
theorem fam_no {a : List Int} (h : AdOk a) {k : Nat} (hk : k < 12) (hx : a.getD k 0 ≠ famB k) : famA a = 6 := if_neg fun e => hx ((fam_iff h).1 e k hk)

theorem cmp_at {a b : List Int} (ha : AdOk a) (hb : AdOk b) : ∀ (n m k : Nat), k < n → (∀ j, j < k → a.getD (m + j) 0 = b.getD (m + j) 0) → a.getD (m + k) 0 ≠ b.getD (m + k) 0 →
    Lib.compareBytes ((List.range' m n).map fun j => UInt8.ofNat (a.getD j 0).toNat) ((List.range' m n).map fun j => UInt8.ofNat (b.getD j 0).toNat) = if a.getD (m + k) 0 < b.getD (m + k) 0 then -1 else 1
  | 0, _, _, h, _, _ => absurd h (Nat.not_lt_zero _)
  | n + 1, m, 0, _, _, hx => by
    simp only [List.range'_succ, List.map_cons, Nat.add_zero] at hx ⊢
    have h1 := u8_inj (ha.rng m) (hb.rng m)
    have h2 := u8_lt (ha.rng m) (hb.rng m)
    have h3 := u8_lt (hb.rng m) (ha.rng m)
    simp only [Lib.compareBytes]
    by_cases hlt : a.getD m 0 < b.getD m 0
    · rw [if_pos hlt, if_pos (h2.2 hlt)]
    · rw [if_neg hlt, if_neg (fun e => hlt (h2.1 e)), if_pos (h3.2 (by omega))]
  | n + 1, m, k + 1, hk, hz, hx => by
    have h0 := hz 0 (by omega)
    rw [Nat.add_zero] at h0
    simp only [List.range'_succ, List.map_cons]
    have ih := cmp_at ha hb n (m + 1) k (by omega) (fun j hj => by have := hz (j + 1) (by omega); rwa [show m + (j + 1) = m + 1 + j by omega] at this) (by rwa [show m + 1 + k = m + (k + 1) by omega])
    rw [show m + (k + 1) = m + 1 + k by omega, ← ih]
    simp only [Lib.compareBytes]
    rw [h0, if_neg (by simp), if_neg (by simp)]

theorem cmpA_at {a b : List Int} (ha : AdOk a) (hb : AdOk b) {k : Nat} (hk : k < 16) (hz : ∀ j, j < k → a.getD j 0 = b.getD j 0) (hx : a.getD k 0 ≠ b.getD k 0) : cmpA a b = if a.getD k 0 < b.getD k 0 then -1 else 1 := by
  have := cmp_at ha hb 16 0 k hk (by simpa using hz) (by simpa using hx)
  rw [Nat.zero_add] at this
  rw [← this]
  simp [cmpA, u8s, pad, List.range_eq_range']
  congr 1

theorem compareBytes_self : ∀ l : List UInt8, Lib.compareBytes l l = 0
  | [] => rfl
  | x :: l => by simp only [Lib.compareBytes]; rw [if_neg (by simp), compareBytes_self l]; simp

theorem cmpA_eq {a b : List Int} (hz : ∀ j, j < 16 → a.getD j 0 = b.getD j 0) : cmpA a b = 0 := by
  have : pad 16 a = pad 16 b := by
    unfold pad
    exact List.map_congr_left fun j hj => by rw [Nat.zero_add]; exact hz j (List.mem_range.1 hj)
  unfold cmpA
  rw [this]
  exact compareBytes_self _

theorem orL_two (x y : Int) : orL [x, y] = if x ≠ 0 then x else y := by
  unfold orL
  by_cases hx : x = 0 <;> by_cases hy : y = 0 <;> simp [hx, hy]


theorem okp_mk {a : List Int} {n : Int} (h0 : 0 ≤ n) (h1 : n ≤ 128) (h2 : eqBytes 16 (mk1 a n 16) a = true) : okp a n = true := by simp [okp, h0, h1, h2]
theorem okp_eqb {a : List Int} {n : Int} (h : okp a n = true) : eqBytes 16 (mk1 a n 16) a = true := by
  simp only [okp, Bool.and_eq_true] at h
  exact h.2.2

end Go.Vm
