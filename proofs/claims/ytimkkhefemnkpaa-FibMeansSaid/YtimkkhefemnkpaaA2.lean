/- Contracts of the small functions on addresses: the walks. -/
import Derived.Test.YtimkkhefemnkpaaA1
namespace Go.Vm
open Go Go.Proofs

def pad (n : Nat) (a : List Int) : List Int := (List.range n).map fun j => a.getD (0 + j) 0
def map12 : ByteArray := ⟨#[0, 0, 0, 0, 0, 0, 0, 0, 0, 0, 255, 255]⟩
/-- may a prefix be -/
def okp (a : List Int) (n : Int) : Bool := decide (0 ≤ n) && (decide (n ≤ 128) && eqBytes 16 (mk1 a n 16) a)
/-- the family of an address -/
def famA (a : List Int) : Int := if (bs (pad 12 a)).toList == map12.toList then 4 else 6
def famP (a : List Int) (n : Int) : Int := if n < 96 then 6 else famA a
def contains (a : List Int) (n : Int) (b : List Int) : Bool := okp a n && eqBytes 16 (mk1 b n 16) a
def covers (a : List Int) (n : Int) (b : List Int) (m : Int) : Bool := okp b m && (decide (n ≤ m) && contains a n b)
def okpair (da : List Int) (dn : Int) (sa : List Int) (sn : Int) : Bool := okp da dn && (okp sa sn && decide (famP da dn = famP sa sn))
def matches' (da : List Int) (dn : Int) (sa : List Int) (sn : Int) (src dst : List Int) : Bool := okpair da dn sa sn && (contains da dn dst && contains sa sn src)
def sgn (a b : Int) : Int := if a < b then -1 else if b < a then 1 else 0
def cmpA (a b : List Int) : Int := Lib.compareBytes (u8s (pad 16 a)) (u8s (pad 16 b))
def orL (l : List Int) : Int := (l.find? (· ≠ 0)).getD 0
def cmpP (a : List Int) (n : Int) (b : List Int) (m : Int) : Int := orL [cmpA a b, sgn n m]
def cmpPr (da : List Int) (dn : Int) (sa : List Int) (sn : Int) (ea : List Int) (en : Int) (ta : List Int) (tn : Int) : Int := orL [cmpP da dn ea en, cmpP sa sn ta tn]
abbrev iV (n : Int) : V := .int .i64 n
abbrev pfV (a : List Int) (n : Int) : V := .pair (adV a) (iV n)
abbrev prV (da : List Int) (dn : Int) (sa : List Int) (sn : Int) : V := .pair (pfV da dn) (pfV sa sn)
abbrev enV (da : List Int) (dn : Int) (sa : List Int) (sn : Int) (i : Int) (h : List Int) : V := .pair (prV da dn sa sn) (.pair (iV i) (adV h))
abbrev ad4 : List Int := [0, 0, 0, 0, 0, 0, 0, 0, 0, 0, 255, 255, 0, 0, 0, 0]
abbrev ad0 : List Int := List.replicate 16 0

theorem okpair_of {da sa : List Int} {dn sn : Int} (h : decide ((if okpair da dn sa sn then (0 : Int) else 21) = 0) = true) : okpair da dn sa sn = true := by
  cases ho : okpair da dn sa sn <;> simp_all
theorem okpair_not {da sa : List Int} {dn sn : Int} (h : decide ((if okpair da dn sa sn then (0 : Int) else 21) = 0) = false) : okpair da dn sa sn = false := by
  cases ho : okpair da dn sa sn <;> simp_all
theorem okp_rng {a : List Int} {n : Int} (h : okp a n = true) : 0 ≤ n ∧ n ≤ 128 := by
  simp only [okp, Bool.and_eq_true, decide_eq_true_eq] at h
  exact ⟨h.1, h.2.1⟩
theorem okp_of {a : List Int} {n : Int} (h : decide ((if okp a n then (0 : Int) else 21) = 0) = true) : okp a n = true := by
  cases ho : okp a n <;> simp_all
theorem okp_not {a : List Int} {n : Int} (h : decide ((if okp a n then (0 : Int) else 21) = 0) = false) : okp a n = false := by
  cases ho : okp a n <;> simp_all
theorem okp_nof {a : List Int} {n : Int} (h : (!decide ((if okp a n then (0 : Int) else 21) = 0)) = false) : okp a n = true := by
  cases ho : okp a n <;> simp_all
theorem okp_nnot {a : List Int} {n : Int} (h : (!decide ((if okp a n then (0 : Int) else 21) = 0)) = true) : okp a n = false := by
  cases ho : okp a n <;> simp_all

theorem find_of {p : Int → Bool} : ∀ {l : List Int} {k : Nat}, k < l.length → (∀ j, j < k → p (lat l j) = false) → p (lat l k) = true → l.find? p = some (lat l k)
  | [], _, h, _, _ => absurd h (Nat.not_lt_zero _)
  | x :: l, 0, _, _, h => by simp only [lat, List.getD_cons_zero] at h ⊢; simp [h]
  | x :: l, k + 1, h1, h2, h3 => by
    have h0 := h2 0 (by omega)
    simp only [lat, List.getD_cons_zero] at h0
    simp only [lat, List.getD_cons_succ] at h3 ⊢
    rw [List.find?_cons_of_neg (by simp [h0])]
    exact find_of (by simpa using h1) (fun j hj => by have := h2 (j + 1) (by omega); simpa only [lat, List.getD_cons_succ] using this) h3
theorem orL_of {l : List Int} {k : Nat} (h : k < l.length) (hz : ∀ j, j < k → lat l j = 0) (hx : lat l k ≠ 0) : orL l = lat l k := by
  unfold orL
  rw [find_of h (fun j hj => by rw [hz j hj]; rfl) (by simpa using hx)]
  rfl
theorem orL_nil {l : List Int} (hz : ∀ j, j < l.length → lat l j = 0) : orL l = 0 := by
  unfold orL
  rw [List.find?_eq_none.2]
  · rfl
  · intro x hx
    obtain ⟨i, hi, rfl⟩ := List.mem_iff_getElem.1 hx
    have := hz i hi
    simp only [lat, List.getD_eq_getElem?_getD, List.getElem?_eq_getElem hi, Option.getD_some] at this
    simp [this]

set_option maxRecDepth 100000 in
theorem isNaN_spec (n : Int) : SpecQ Try.prog 85 [iV n] (.bool false) := by
  refine Spec.of_J Try.func85 rfl Try.ntmps85 Try.results85 rfl ?_
  intro A F hAF
  (repeat refine J.seq ?_)
  refine J.region ?_
  refine WL.yes (by rfl) (Ex.q (q_assign (by rfl)) (by rfl) ?_)
  refine WL.nil ?_
  (repeat refine J.seq ?_)
  refine J.region ?_
  refine WL.yes (by rfl) (Ex.q (q_move (by rfl)) (by rfl) ?_)
  refine WL.yes (by rfl) (Ex.q (q_move (by rfl)) (by rfl) ?_)
  first | (refine WL.yes (by rfl) (Ex.q (q_int (by rfl) (by rfl) (by rfl)) (by rfl) ?_)) | (refine WL.yes (by rfl) (Ex.q (q_neb (by rfl) (by rfl)) (by rfl) ?_)) | (refine WL.yes (by rfl) (Ex.q (q_nep rfl rfl (by rfl) (by rfl) ?_) (by rfl) ?_); (· rfl)) | (refine WL.yes (by rfl) (Ex.q (q_eqs (by rfl) (by rfl)) (by rfl) ?_))
  refine WL.yes (by rfl) (Ex.q (q_assign (by rfl)) (by rfl) ?_)
  refine WL.nil ?_
  (repeat refine J.seq ?_)
  refine J.ret ?_
  (repeat (with_reducible first | refine Kseq.ret ?_ | refine Kblock.ret ?_ | refine Kloop.ret ?_))
  refine Kret.mk [] (.tmp (by rfl) .nil) (by rfl) trivial (HLe.nil _ _) ?_
  refine ⟨?_, rfl⟩
  (try simp_all [cv, tupV]) <;> (repeat' split) <;> (first | rfl | omega)

set_option maxRecDepth 100000 in
theorem cmp_spec (a b : Int) : SpecQ Try.prog 76 [iV a, iV b] (iV (sgn a b)) := by
  refine Spec.of_J Try.func76 rfl Try.ntmps76 Try.results76 rfl ?_
  intro A F hAF
  (repeat refine J.seq ?_)
  refine J.region ?_
  refine WL.yes (by rfl) (Ex.q (q_assign (by rfl)) (by rfl) ?_)
  refine WL.nil ?_
  (repeat refine J.seq ?_)
  refine J.region ?_
  refine WL.yes (by rfl) (Ex.q (q_move (by rfl)) (by rfl) ?_)
  refine WL.yes (by rfl) (Ex.callq (isNaN_spec _) (by rfl) (by rfl) rfl (fun _ h => h) ?_)
  refine WL.yes (by rfl) (Ex.q (q_assign (by rfl)) (by rfl) ?_)
  refine WL.nil ?_
  (repeat refine J.seq ?_)
  refine J.region ?_
  refine WL.yes (by rfl) (Ex.q (q_move (by rfl)) (by rfl) ?_)
  refine WL.yes (by rfl) (Ex.callq (isNaN_spec _) (by rfl) (by rfl) rfl (fun _ h => h) ?_)
  refine WL.yes (by rfl) (Ex.q (q_assign (by rfl)) (by rfl) ?_)
  refine WL.nil ?_
  (repeat refine J.seq ?_)
  refine J.region ?_
  refine WL.yes (by rfl) (Ex.q (q_move (by rfl)) (by rfl) ?_)
  refine WL.nil ?_
  (repeat refine J.seq ?_)
  refine J.cond (by rfl) (fun c11 => ?_) (fun c11 => ?_)
  · skip
    (repeat refine J.seq ?_)
    refine J.region ?_
    refine WL.yes (by rfl) (Ex.q (q_move (by rfl)) (by rfl) ?_)
    refine WL.nil ?_
    (repeat refine J.seq ?_)
    refine J.cond (by rfl) (fun c12 => ?_) (fun c12 => ?_)
    · skip
      (repeat refine J.seq ?_)
      refine J.region ?_
      refine WL.yes (by rfl) (Ex.q (q_assign (by rfl)) (by rfl) ?_)
      refine WL.nil ?_
      (repeat refine J.seq ?_)
      refine J.ret ?_
      (repeat (with_reducible first | refine Kseq.ret ?_ | refine Kblock.ret ?_ | refine Kloop.ret ?_))
      refine Kret.mk [] (.tmp (by rfl) .nil) (by rfl) trivial (HLe.nil _ _) ?_
      refine ⟨?_, rfl⟩
      (try simp_all [cv, tupV, sgn]) <;> (repeat' split) <;> (first | rfl | omega)
    · skip
      (repeat refine J.seq ?_)
      refine J.skip ?_
      (repeat refine J.seq ?_)
      refine J.region ?_
      refine WL.yes (by rfl) (Ex.q (q_assign (by rfl)) (by rfl) ?_)
      refine WL.nil ?_
      (repeat refine J.seq ?_)
      refine J.ret ?_
      (repeat (with_reducible first | refine Kseq.ret ?_ | refine Kblock.ret ?_ | refine Kloop.ret ?_))
      refine Kret.mk [] (.tmp (by rfl) .nil) (by rfl) trivial (HLe.nil _ _) ?_
      refine ⟨?_, rfl⟩
      (try simp_all [cv, tupV, sgn]) <;> (repeat' split) <;> (first | rfl | omega)
  · skip
    (repeat refine J.seq ?_)
    refine J.skip ?_
    (repeat refine J.seq ?_)
    refine J.region ?_
    refine WL.yes (by rfl) (Ex.q (q_move (by rfl)) (by rfl) ?_)
    refine WL.nil ?_
    (repeat refine J.seq ?_)
    refine J.cond (by rfl) (fun c13 => ?_) (fun c13 => ?_)
    · skip
      (repeat refine J.seq ?_)
      refine J.region ?_
      refine WL.yes (by rfl) (Ex.q (q_assign (by rfl)) (by rfl) ?_)
      refine WL.nil ?_
      (repeat refine J.seq ?_)
      refine J.ret ?_
      (repeat (with_reducible first | refine Kseq.ret ?_ | refine Kblock.ret ?_ | refine Kloop.ret ?_))
      refine Kret.mk [] (.tmp (by rfl) .nil) (by rfl) trivial (HLe.nil _ _) ?_
      refine ⟨?_, rfl⟩
      (try simp_all [cv, tupV, sgn]) <;> (repeat' split) <;> (first | rfl | omega)
    · skip
      (repeat refine J.seq ?_)
      refine J.skip ?_
      (repeat refine J.seq ?_)
      refine J.region ?_
      refine WL.yes (by rfl) (Ex.q (q_move (by rfl)) (by rfl) ?_)
      refine WL.yes (by rfl) (Ex.q (q_move (by rfl)) (by rfl) ?_)
      refine WL.yes (by rfl) (Ex.q (q_int (by rfl) (by rfl) (by rfl)) (by rfl) ?_)
      refine WL.nil ?_
      (repeat refine J.seq ?_)
      refine J.cond (by rfl) (fun c16 => ?_) (fun c16 => ?_)
      · skip
        (repeat refine J.seq ?_)
        refine J.region ?_
        refine WL.yes (by rfl) (Ex.q (q_assign (by rfl)) (by rfl) ?_)
        refine WL.nil ?_
        (repeat refine J.seq ?_)
        refine J.ret ?_
        (repeat (with_reducible first | refine Kseq.ret ?_ | refine Kblock.ret ?_ | refine Kloop.ret ?_))
        refine Kret.mk [] (.tmp (by rfl) .nil) (by rfl) trivial (HLe.nil _ _) ?_
        refine ⟨?_, rfl⟩
        (try simp_all [cv, tupV, sgn]) <;> (repeat' split) <;> (first | rfl | omega)
      · skip
        (repeat refine J.seq ?_)
        refine J.skip ?_
        (repeat refine J.seq ?_)
        refine J.region ?_
        refine WL.yes (by rfl) (Ex.q (q_move (by rfl)) (by rfl) ?_)
        refine WL.yes (by rfl) (Ex.q (q_move (by rfl)) (by rfl) ?_)
        refine WL.yes (by rfl) (Ex.q (q_int (by rfl) (by rfl) (by rfl)) (by rfl) ?_)
        refine WL.nil ?_
        (repeat refine J.seq ?_)
        refine J.cond (by rfl) (fun c19 => ?_) (fun c19 => ?_)
        · skip
          (repeat refine J.seq ?_)
          refine J.region ?_
          refine WL.yes (by rfl) (Ex.q (q_assign (by rfl)) (by rfl) ?_)
          refine WL.nil ?_
          (repeat refine J.seq ?_)
          refine J.ret ?_
          (repeat (with_reducible first | refine Kseq.ret ?_ | refine Kblock.ret ?_ | refine Kloop.ret ?_))
          refine Kret.mk [] (.tmp (by rfl) .nil) (by rfl) trivial (HLe.nil _ _) ?_
          refine ⟨?_, rfl⟩
          (try simp_all [cv, tupV, sgn]) <;> (repeat' split) <;> (first | rfl | omega)
        · skip
          (repeat refine J.seq ?_)
          refine J.skip ?_
          (repeat refine J.seq ?_)
          refine J.region ?_
          refine WL.yes (by rfl) (Ex.q (q_assign (by rfl)) (by rfl) ?_)
          refine WL.nil ?_
          (repeat refine J.seq ?_)
          refine J.ret ?_
          (repeat (with_reducible first | refine Kseq.ret ?_ | refine Kblock.ret ?_ | refine Kloop.ret ?_))
          refine Kret.mk [] (.tmp (by rfl) .nil) (by rfl) trivial (HLe.nil _ _) ?_
          refine ⟨?_, rfl⟩
          (try simp_all [cv, tupV, sgn]) <;> (repeat' split) <;> (first | rfl | omega)

set_option maxRecDepth 100000 in
theorem shared_spec (f : Int) : SpecQ Try.prog 72 [iV f] (iV (if f = 4 then 96 else 0)) := by
  refine Spec.of_J Try.func72 rfl Try.ntmps72 Try.results72 rfl ?_
  intro A F hAF
  (repeat refine J.seq ?_)
  refine J.region ?_
  refine WL.yes (by rfl) (Ex.q (q_assign (by rfl)) (by rfl) ?_)
  refine WL.nil ?_
  (repeat refine J.seq ?_)
  refine J.region ?_
  refine WL.yes (by rfl) (Ex.q (q_move (by rfl)) (by rfl) ?_)
  first | (refine WL.yes (by rfl) (Ex.q (q_int (by rfl) (by rfl) (by rfl)) (by rfl) ?_)) | (refine WL.yes (by rfl) (Ex.q (q_eqb (by rfl) (by rfl)) (by rfl) ?_)) | (refine WL.yes (by rfl) (Ex.q (q_eqp rfl rfl (by rfl) (by rfl) ?_) (by rfl) ?_); (· rfl)) | (refine WL.yes (by rfl) (Ex.q (q_eqs (by rfl) (by rfl)) (by rfl) ?_))
  refine WL.nil ?_
  (repeat refine J.seq ?_)
  refine J.cond (by rfl) (fun c4 => ?_) (fun c4 => ?_)
  · skip
    (repeat refine J.seq ?_)
    refine J.region ?_
    refine WL.yes (by rfl) (Ex.q (q_assign (by rfl)) (by rfl) ?_)
    refine WL.nil ?_
    (repeat refine J.seq ?_)
    refine J.ret ?_
    (repeat (with_reducible first | refine Kseq.ret ?_ | refine Kblock.ret ?_ | refine Kloop.ret ?_))
    refine Kret.mk [] (.tmp (by rfl) .nil) (by rfl) trivial (HLe.nil _ _) ?_
    refine ⟨?_, rfl⟩
    (try simp_all [cv, tupV]) <;> (repeat' split) <;> (first | rfl | omega)
  · skip
    (repeat refine J.seq ?_)
    refine J.skip ?_
    (repeat refine J.seq ?_)
    refine J.region ?_
    refine WL.yes (by rfl) (Ex.q (q_assign (by rfl)) (by rfl) ?_)
    refine WL.nil ?_
    (repeat refine J.seq ?_)
    refine J.ret ?_
    (repeat (with_reducible first | refine Kseq.ret ?_ | refine Kblock.ret ?_ | refine Kloop.ret ?_))
    refine Kret.mk [] (.tmp (by rfl) .nil) (by rfl) trivial (HLe.nil _ _) ?_
    refine ⟨?_, rfl⟩
    (try simp_all [cv, tupV]) <;> (repeat' split) <;> (first | rfl | omega)

set_option maxRecDepth 100000 in
theorem or_spec {a : Option Addr} {cap : Nat} (l : List Int) (hl : l.length ≤ 1000) : SpecQ Try.prog 73 [lros a cap iV l] (iV (orL l)) := by
  refine Spec.of_J Try.func73 rfl Try.ntmps73 Try.results73 rfl ?_
  intro A F hAF
  (repeat refine J.seq ?_)
  refine J.region ?_
  refine WL.yes (by rfl) (Ex.q (q_assign (by rfl)) (by rfl) ?_)
  refine WL.nil ?_
  (repeat refine J.seq ?_)
  refine J.region ?_
  refine WL.yes (by rfl) (Ex.q (q_assign (by rfl)) (by rfl) ?_)
  refine WL.nil ?_
  (repeat refine J.seq ?_)
  refine J.region ?_
  refine WL.yes (by rfl) (Ex.q (q_move (by rfl)) (by rfl) ?_)
  first | (refine WL.yes (by rfl) (Ex.q (q_len_slice (by rfl) (by rfl)) (by rfl) ?_)) | (refine WL.yes (by rfl) (Ex.q (q_len_string (by rfl)) (by rfl) ?_))
  refine WL.yes (by rfl) (Ex.q (q_move (by rfl)) (by rfl) ?_)
  refine WL.nil ?_
  (repeat refine J.seq ?_)
  refine J.block ?_
  (repeat refine J.seq ?_)
  refine J.loop (fun k : Nat => k ≤ l.length ∧ ∀ j, j < k → lat l j = 0) (fun k => ⟨[(3, iV 0), (6, lros a cap iV l), (7, iV l.length), (8, iV k)], [], []⟩) (fun k => l.length - k) 0 ?_ ?_ ?_
  · exact ⟨Nat.zero_le _, fun j hj => absurd hj (Nat.not_lt_zero j)⟩
  · exact Le.mk ⟨same rfl, same rfl, same rfl, same rfl, trivial⟩ (HLe.refl _ _) rfl
  intro k hk
  obtain ⟨hk, hz⟩ := hk
  (repeat refine J.seq ?_)
  refine J.region ?_
  refine WL.yes (by rfl) (Ex.q (q_int (by rfl) (by rfl) (by rfl)) (by rfl) ?_)
  refine WL.nil ?_
  (repeat refine J.seq ?_)
  refine J.cond (by rfl) (fun c9 => ?_) (fun c9 => ?_)
  · skip
    have hlt : k < l.length := by have := of_decide_eq_true c9; omega
    (repeat refine J.seq ?_)
    refine J.skip ?_
    (repeat refine J.seq ?_)
    refine J.block ?_
    (repeat refine J.seq ?_)
    refine J.region ?_
    first | (refine WL.yes (by rfl) (Ex.q (q_indexAddr_ros (by rfl) (by rfl) (by intro _; rfl) ?_ ?_) (by rfl) ?_); (· omega); (· omega)) | (refine WL.yes (by rfl) (Ex.q (q_indexAddr_sl (by rfl) (by rfl) ?_ ?_) (by rfl) ?_); (· omega); (· omega)) | (refine WL.yes (by rfl) (Ex.q (q_indexAddr_arr (by rfl) (by rfl) ?_ ?_) (by rfl) ?_); (· omega); (· omega))
    first | (refine WL.yes (by rfl) (Ex.h (h_load (by rfl) (by rfl) (by rfl)) (by rfl) ?_)) | (refine WL.yes (by rfl) (Ex.q (q_load (by rfl) (by rfl) (by rfl)) (by rfl) ?_)) | (refine WL.yes (by rfl) (Ex.q (q_load_rop (by rfl) (by rfl)) (by rfl) ?_)) | (refine WL.yes (by rfl) (Ex.h (h_load_pel (by rfl) (by rfl) ?_ (by rfl)) (by rfl) ?_); (· omega)) | (refine WL.yes (by rfl) (Ex.q (q_load_pel (by rfl) (by rfl) ?_ (by rfl)) (by rfl) ?_); (· omega))
    refine WL.yes (by rfl) (Ex.q (q_assign (by rfl)) (by rfl) ?_)
    refine WL.nil ?_
    (repeat refine J.seq ?_)
    refine J.region ?_
    refine WL.yes (by rfl) (Ex.q (q_move (by rfl)) (by rfl) ?_)
    refine WL.yes (by rfl) (Ex.q (q_move (by rfl)) (by rfl) ?_)
    first | (refine WL.yes (by rfl) (Ex.q (q_int (by rfl) (by rfl) (by rfl)) (by rfl) ?_)) | (refine WL.yes (by rfl) (Ex.q (q_neb (by rfl) (by rfl)) (by rfl) ?_)) | (refine WL.yes (by rfl) (Ex.q (q_nep rfl rfl (by rfl) (by rfl) ?_) (by rfl) ?_); (· rfl)) | (refine WL.yes (by rfl) (Ex.q (q_eqs (by rfl) (by rfl)) (by rfl) ?_))
    refine WL.nil ?_
    (repeat refine J.seq ?_)
    refine J.cond (by rfl) (fun c14 => ?_) (fun c14 => ?_)
    · skip
      have hx : lat l k ≠ 0 := by simpa using c14
      (repeat refine J.seq ?_)
      refine J.region ?_
      refine WL.yes (by rfl) (Ex.q (q_move (by rfl)) (by rfl) ?_)
      refine WL.yes (by rfl) (Ex.q (q_assign (by rfl)) (by rfl) ?_)
      refine WL.nil ?_
      (repeat refine J.seq ?_)
      refine J.ret ?_
      (repeat (with_reducible first | refine Kseq.ret ?_ | refine Kblock.ret ?_ | refine Kloop.ret ?_))
      refine Kret.mk [] (.tmp (by rfl) .nil) (by rfl) trivial (HLe.nil _ _) ?_
      refine ⟨?_, rfl⟩
      simp only [tupV, cv]
      first
        | exact congrArg iV (orL_of hlt hz hx).symm
        | exact congrArg iV (orL_nil (he ▸ hz)).symm
    · skip
      have hx : lat l k = 0 := by simpa using c14
      (repeat refine J.seq ?_)
      refine J.skip ?_
      (repeat refine J.seq ?_)
      refine J.region ?_
      refine WL.yes (by rfl) (Ex.q (q_int (by rfl) (by rfl) (by rfl)) (by rfl) ?_)
      refine WL.yes (by rfl) (Ex.q (q_move (by rfl)) (by rfl) ?_)
      refine WL.nil ?_
      refine Kloop.next (k + 1) ⟨by omega, fun j hj => ?_⟩ (by omega) (Le.mk ⟨same rfl, same rfl, same rfl, same (by rw [← w64_nat (k := k) (by omega)]; rfl), trivial⟩ (HLe.refl _ _) rfl)
      by_cases hjk : j < k
      · exact hz j hjk
      · have : j = k := by omega
        subst this
        exact hx
  · skip
    have he : k = l.length := by have := of_decide_eq_false c9; omega
    (repeat refine J.seq ?_)
    refine J.exit ?_
    (repeat refine J.seq ?_)
    refine J.region ?_
    refine WL.yes (by rfl) (Ex.q (q_move (by rfl)) (by rfl) ?_)
    refine WL.yes (by rfl) (Ex.q (q_assign (by rfl)) (by rfl) ?_)
    refine WL.nil ?_
    (repeat refine J.seq ?_)
    refine J.ret ?_
    (repeat (with_reducible first | refine Kseq.ret ?_ | refine Kblock.ret ?_ | refine Kloop.ret ?_))
    refine Kret.mk [] (.tmp (by rfl) .nil) (by rfl) trivial (HLe.nil _ _) ?_
    refine ⟨?_, rfl⟩
    simp only [tupV, cv]
    first
      | exact congrArg iV (orL_of hlt hz hx).symm
      | exact congrArg iV (orL_nil (he ▸ hz)).symm

theorem or2_spec {a : Option Addr} {cap : Nat} (x y : Int) : SpecQ Try.prog 73 [.ros a cap 2 (fun j => [iV x, iV y].getD j .unit)] (iV (orL [x, y])) := by
  refine Spec.args (or_spec (a := a) (cap := cap) [x, y] (Nat.le_add_right 2 998)) rfl fun A h v hv => ?_
  rw [List.mem_singleton] at hv
  subst hv
  refine VOk.ros_congr (fun j hj => ?_) (h _ (List.mem_singleton.2 rfl))
  match j, hj with
  | 0, _ => rfl
  | 1, _ => rfl

set_option maxRecDepth 100000 in
theorem fam_spec (a : List Int) : SpecQ Try.prog 58 [adV a] (iV (famA a)) := by
  refine Spec.of_J Try.func58 rfl Try.ntmps58 Try.results58 rfl ?_
  intro A F hAF
  (repeat refine J.seq ?_)
  refine J.region ?_
  refine WL.yes (by rfl) (Ex.box (by rfl) (by rfl) (by rfl) ?_)
  intro b1
  refine WL.yes (by rfl) (Ex.q (q_assign (by rfl)) (by rfl) ?_)
  refine WL.nil ?_
  (repeat refine J.seq ?_)
  refine J.region ?_
  first | (refine WL.yes (by rfl) (Ex.q (q_slice_arr (by rfl) (by rfl) (by rfl) ?_ ?_ ?_) (by rfl) ?_); (· omega); (· omega); (· omega)) | (refine WL.yes (by rfl) (Ex.q (q_slice_ros (by rfl) (by intro _; rfl) (by rfl) (by rfl) ?_ ?_ ?_) (by rfl) ?_); (· omega); (· omega); (· omega)) | (refine WL.yes (by rfl) (Ex.q (q_slice_sl (by rfl) (by rfl) (by rfl) ?_ ?_ ?_) (by rfl) ?_); (· omega); (· omega); (· omega))
  first | (refine WL.yes (by rfl) (Ex.h (h_str (by rfl) (by rfl) (by rfl)) (by rfl) ?_)) | (refine WL.yes (by rfl) (Ex.q (q_str (by rfl) (by rfl) (by rfl)) (by rfl) ?_))
  first | (refine WL.yes (by rfl) (Ex.q (q_int (by rfl) (by rfl) (by rfl)) (by rfl) ?_)) | (refine WL.yes (by rfl) (Ex.q (q_eqb (by rfl) (by rfl)) (by rfl) ?_)) | (refine WL.yes (by rfl) (Ex.q (q_eqp rfl rfl (by rfl) (by rfl) ?_) (by rfl) ?_); (· rfl)) | (refine WL.yes (by rfl) (Ex.q (q_eqs (by rfl) (by rfl)) (by rfl) ?_))
  refine WL.nil ?_
  (repeat refine J.seq ?_)
  refine J.cond (by rfl) (fun c5 => ?_) (fun c5 => ?_)
  · skip
    (repeat refine J.seq ?_)
    refine J.region ?_
    refine WL.yes (by rfl) (Ex.q (q_assign (by rfl)) (by rfl) ?_)
    refine WL.nil ?_
    (repeat refine J.seq ?_)
    refine J.ret ?_
    (repeat (with_reducible first | refine Kseq.ret ?_ | refine Kblock.ret ?_ | refine Kloop.ret ?_))
    refine Kret.mk [] (.tmp (by rfl) .nil) (by rfl) trivial (HLe.nil _ _) ?_
    refine ⟨?_, rfl⟩
    simp only [tupV, cv]
    refine congrArg iV ?_
    symm
    first
      | exact if_pos c5
      | exact if_neg (by rw [show ((bs (pad 12 a)).toList == map12.toList) = false from c5]; exact Bool.false_ne_true)
  · skip
    (repeat refine J.seq ?_)
    refine J.skip ?_
    (repeat refine J.seq ?_)
    refine J.region ?_
    refine WL.yes (by rfl) (Ex.q (q_assign (by rfl)) (by rfl) ?_)
    refine WL.nil ?_
    (repeat refine J.seq ?_)
    refine J.ret ?_
    (repeat (with_reducible first | refine Kseq.ret ?_ | refine Kblock.ret ?_ | refine Kloop.ret ?_))
    refine Kret.mk [] (.tmp (by rfl) .nil) (by rfl) trivial (HLe.nil _ _) ?_
    refine ⟨?_, rfl⟩
    simp only [tupV, cv]
    refine congrArg iV ?_
    symm
    first
      | exact if_pos c5
      | exact if_neg (by rw [show ((bs (pad 12 a)).toList == map12.toList) = false from c5]; exact Bool.false_ne_true)

set_option maxRecDepth 100000 in
theorem famP_spec (a : List Int) (n : Int) : SpecQ Try.prog 47 [pfV a n] (iV (famP a n)) := by
  refine Spec.of_J Try.func47 rfl Try.ntmps47 Try.results47 rfl ?_
  intro A F hAF
  (repeat refine J.seq ?_)
  refine J.region ?_
  refine WL.yes (by rfl) (Ex.box (by rfl) (by rfl) (by rfl) ?_)
  intro b1
  refine WL.yes (by rfl) (Ex.q (q_assign (by rfl)) (by rfl) ?_)
  refine WL.nil ?_
  (repeat refine J.seq ?_)
  refine J.region ?_
  first | (refine WL.yes (by rfl) (Ex.q (q_fieldAddr (by rfl)) (by rfl) ?_)) | (refine WL.yes (by rfl) (Ex.q (q_fieldAddr_rop (by rfl) (by rfl)) (by rfl) ?_)) | (refine WL.yes (by rfl) (Ex.q (q_fieldAddr_pel (by rfl)) (by rfl) ?_))
  first | (refine WL.yes (by rfl) (Ex.h (h_load (by rfl) (by rfl) (by rfl)) (by rfl) ?_)) | (refine WL.yes (by rfl) (Ex.q (q_load (by rfl) (by rfl) (by rfl)) (by rfl) ?_)) | (refine WL.yes (by rfl) (Ex.q (q_load_rop (by rfl) (by rfl)) (by rfl) ?_)) | (refine WL.yes (by rfl) (Ex.h (h_load_pel (by rfl) (by rfl) ?_ (by rfl)) (by rfl) ?_); (· omega)) | (refine WL.yes (by rfl) (Ex.q (q_load_pel (by rfl) (by rfl) ?_ (by rfl)) (by rfl) ?_); (· omega))
  refine WL.yes (by rfl) (Ex.q (q_int (by rfl) (by rfl) (by rfl)) (by rfl) ?_)
  refine WL.nil ?_
  (repeat refine J.seq ?_)
  refine J.cond (by rfl) (fun c5 => ?_) (fun c5 => ?_)
  · skip
    (repeat refine J.seq ?_)
    refine J.region ?_
    refine WL.yes (by rfl) (Ex.q (q_assign (by rfl)) (by rfl) ?_)
    refine WL.nil ?_
    (repeat refine J.seq ?_)
    refine J.ret ?_
    (repeat (with_reducible first | refine Kseq.ret ?_ | refine Kblock.ret ?_ | refine Kloop.ret ?_))
    refine Kret.mk [] (.tmp (by rfl) .nil) (by rfl) trivial (HLe.nil _ _) ?_
    refine ⟨?_, rfl⟩
    simp only [tupV, cv]
    first
      | exact congrArg iV (if_pos (of_decide_eq_true c5)).symm
      | exact congrArg iV (if_neg (of_decide_eq_false c5)).symm
  · skip
    (repeat refine J.seq ?_)
    refine J.skip ?_
    (repeat refine J.seq ?_)
    refine J.region ?_
    first | (refine WL.yes (by rfl) (Ex.q (q_fieldAddr (by rfl)) (by rfl) ?_)) | (refine WL.yes (by rfl) (Ex.q (q_fieldAddr_rop (by rfl) (by rfl)) (by rfl) ?_)) | (refine WL.yes (by rfl) (Ex.q (q_fieldAddr_pel (by rfl)) (by rfl) ?_))
    first | (refine WL.yes (by rfl) (Ex.h (h_load (by rfl) (by rfl) (by rfl)) (by rfl) ?_)) | (refine WL.yes (by rfl) (Ex.q (q_load (by rfl) (by rfl) (by rfl)) (by rfl) ?_)) | (refine WL.yes (by rfl) (Ex.q (q_load_rop (by rfl) (by rfl)) (by rfl) ?_)) | (refine WL.yes (by rfl) (Ex.h (h_load_pel (by rfl) (by rfl) ?_ (by rfl)) (by rfl) ?_); (· omega)) | (refine WL.yes (by rfl) (Ex.q (q_load_pel (by rfl) (by rfl) ?_ (by rfl)) (by rfl) ?_); (· omega))
    refine WL.yes (by rfl) (Ex.callq (fam_spec _) (by rfl) (by rfl) rfl (fun _ h => h) ?_)
    refine WL.yes (by rfl) (Ex.q (q_assign (by rfl)) (by rfl) ?_)
    refine WL.nil ?_
    (repeat refine J.seq ?_)
    refine J.ret ?_
    (repeat (with_reducible first | refine Kseq.ret ?_ | refine Kblock.ret ?_ | refine Kloop.ret ?_))
    refine Kret.mk [] (.tmp (by rfl) .nil) (by rfl) trivial (HLe.nil _ _) ?_
    refine ⟨?_, rfl⟩
    simp only [tupV, cv]
    first
      | exact congrArg iV (if_pos (of_decide_eq_true c5)).symm
      | exact congrArg iV (if_neg (of_decide_eq_false c5)).symm

set_option maxRecDepth 100000 in
theorem any_spec (f : Int) : SpecQ Try.prog 46 [iV f] (if f = 4 then pfV ad4 96 else pfV ad0 0) := by
  refine Spec.of_J Try.func46 rfl Try.ntmps46 Try.results46 rfl ?_
  intro A F hAF
  (repeat refine J.seq ?_)
  refine J.region ?_
  refine WL.yes (by rfl) (Ex.alloc (by rfl) ?_)
  intro b2
  refine WL.nil ?_
  (repeat refine J.seq ?_)
  refine J.region ?_
  refine WL.yes (by rfl) (Ex.q (q_move (by rfl)) (by rfl) ?_)
  refine WL.yes (by rfl) (Ex.callq (shared_spec _) (by rfl) (by rfl) rfl (fun _ h => h) ?_)
  refine WL.yes (by rfl) (Ex.q (q_build (parts := [(1, .tmp 5)]) (by rfl) (by rfl)) (by rfl) ?_)
  refine WL.yes (by rfl) (Ex.alloc (by rfl) ?_)
  intro b3
  first | (refine WL.yes (by rfl) (Ex.store (by rfl) (by rfl) (by rfl) (by rfl) (by rfl) (by rfl) ?_)) | (refine WL.yes (by rfl) (Ex.store_pel (by rfl) (by rfl) (by rfl) (by rfl) (by rfl) ?_ (by rfl) ?_); (· omega))
  refine WL.nil ?_
  (repeat refine J.seq ?_)
  refine J.region ?_
  refine WL.yes (by rfl) (Ex.q (q_move (by rfl)) (by rfl) ?_)
  first | (refine WL.yes (by rfl) (Ex.q (q_int (by rfl) (by rfl) (by rfl)) (by rfl) ?_)) | (refine WL.yes (by rfl) (Ex.q (q_eqb (by rfl) (by rfl)) (by rfl) ?_)) | (refine WL.yes (by rfl) (Ex.q (q_eqp rfl rfl (by rfl) (by rfl) ?_) (by rfl) ?_); (· rfl)) | (refine WL.yes (by rfl) (Ex.q (q_eqs (by rfl) (by rfl)) (by rfl) ?_))
  refine WL.nil ?_
  (repeat refine J.seq ?_)
  refine J.cond (by rfl) (fun c8 => ?_) (fun c8 => ?_)
  · skip
    have hf : f = 4 := of_decide_eq_true c8
    subst hf
    (repeat refine J.seq ?_)
    refine J.region ?_
    first | (refine WL.yes (by rfl) (Ex.q (q_fieldAddr (by rfl)) (by rfl) ?_)) | (refine WL.yes (by rfl) (Ex.q (q_fieldAddr_rop (by rfl) (by rfl)) (by rfl) ?_)) | (refine WL.yes (by rfl) (Ex.q (q_fieldAddr_pel (by rfl)) (by rfl) ?_))
    first | (refine WL.yes (by rfl) (Ex.q (q_slice_arr (by rfl) (by rfl) (by rfl) ?_ ?_ ?_) (by rfl) ?_); (· omega); (· omega); (· omega)) | (refine WL.yes (by rfl) (Ex.q (q_slice_ros (by rfl) (by intro _; rfl) (by rfl) (by rfl) ?_ ?_ ?_) (by rfl) ?_); (· omega); (· omega); (· omega)) | (refine WL.yes (by rfl) (Ex.q (q_slice_sl (by rfl) (by rfl) (by rfl) ?_ ?_ ?_) (by rfl) ?_); (· omega); (· omega); (· omega))
    refine WL.yes (by rfl) (Ex.copyStr (.pair (adV ad4) (iV 96)) (by rfl) (by rfl) (by rfl) (by rfl) (by rfl) rfl (by rfl) ?_ (by rfl) (fun _ _ => by simp [VOk]) ?_); (· rfl)
    refine WL.nil ?_
    (repeat refine J.seq ?_)
    refine J.region ?_
    first | (refine WL.yes (by rfl) (Ex.h (h_load (by rfl) (by rfl) (by rfl)) (by rfl) ?_)) | (refine WL.yes (by rfl) (Ex.q (q_load (by rfl) (by rfl) (by rfl)) (by rfl) ?_)) | (refine WL.yes (by rfl) (Ex.q (q_load_rop (by rfl) (by rfl)) (by rfl) ?_)) | (refine WL.yes (by rfl) (Ex.h (h_load_pel (by rfl) (by rfl) ?_ (by rfl)) (by rfl) ?_); (· omega)) | (refine WL.yes (by rfl) (Ex.q (q_load_pel (by rfl) (by rfl) ?_ (by rfl)) (by rfl) ?_); (· omega))
    first | (refine WL.yes (by rfl) (Ex.store (by rfl) (by rfl) (by rfl) (by rfl) (by rfl) (by rfl) ?_)) | (refine WL.yes (by rfl) (Ex.store_pel (by rfl) (by rfl) (by rfl) (by rfl) (by rfl) ?_ (by rfl) ?_); (· omega))
    refine WL.nil ?_
    (repeat refine J.seq ?_)
    refine J.ret ?_
    (repeat (with_reducible first | refine Kseq.ret ?_ | refine Kblock.ret ?_ | refine Kloop.ret ?_))
    refine Kret.mk [] (.cell inferInstance (by rfl) (by rfl) (by rfl) .nil) (by rfl) trivial (HLe.nil _ _) ?_
    refine ⟨?_, rfl⟩
    first
      | (rw [if_pos rfl]; rfl)
      | (rw [if_neg hf, if_neg hf]; rfl)
      | (rw [if_neg hf]; rfl)
  · skip
    have hf : ¬ f = 4 := of_decide_eq_false c8
    (repeat refine J.seq ?_)
    refine J.skip ?_
    (repeat refine J.seq ?_)
    refine J.region ?_
    first | (refine WL.yes (by rfl) (Ex.h (h_load (by rfl) (by rfl) (by rfl)) (by rfl) ?_)) | (refine WL.yes (by rfl) (Ex.q (q_load (by rfl) (by rfl) (by rfl)) (by rfl) ?_)) | (refine WL.yes (by rfl) (Ex.q (q_load_rop (by rfl) (by rfl)) (by rfl) ?_)) | (refine WL.yes (by rfl) (Ex.h (h_load_pel (by rfl) (by rfl) ?_ (by rfl)) (by rfl) ?_); (· omega)) | (refine WL.yes (by rfl) (Ex.q (q_load_pel (by rfl) (by rfl) ?_ (by rfl)) (by rfl) ?_); (· omega))
    first | (refine WL.yes (by rfl) (Ex.store (by rfl) (by rfl) (by rfl) (by rfl) (by rfl) (by rfl) ?_)) | (refine WL.yes (by rfl) (Ex.store_pel (by rfl) (by rfl) (by rfl) (by rfl) (by rfl) ?_ (by rfl) ?_); (· omega))
    refine WL.nil ?_
    (repeat refine J.seq ?_)
    refine J.ret ?_
    (repeat (with_reducible first | refine Kseq.ret ?_ | refine Kblock.ret ?_ | refine Kloop.ret ?_))
    refine Kret.mk [] (.cell inferInstance (by rfl) (by rfl) (by rfl) .nil) (by rfl) trivial (HLe.nil _ _) ?_
    refine ⟨?_, rfl⟩
    first
      | (rw [if_pos rfl]; rfl)
      | (rw [if_neg hf, if_neg hf]; rfl)
      | (rw [if_neg hf]; rfl)

set_option maxRecDepth 100000 in
theorem check_spec (a : List Int) (n : Int) : SpecQ Try.prog 45 [pfV a n] (iV (if okp a n then 0 else 21)) := by
  refine Spec.of_J Try.func45 rfl Try.ntmps45 Try.results45 rfl ?_
  intro A F hAF
  (repeat refine J.seq ?_)
  refine J.region ?_
  refine WL.yes (by rfl) (Ex.box (by rfl) (by rfl) (by rfl) ?_)
  intro b1
  refine WL.yes (by rfl) (Ex.q (q_assign (by rfl)) (by rfl) ?_)
  refine WL.nil ?_
  (repeat refine J.seq ?_)
  refine J.draw [1] 9999 [(0, true), (1, true), (2, true), (3, true), (4, true), (5, true), (6, true), (7, true), (8, true), (9, true), (10, true), (11, true), (12, true), (14, true), (15, true), (13, false), (16, true), (17, true)] (by kernel_rfl) rfl (by kernel_rfl) ?_
  intro F1 hF1
  first | (refine WS.take rfl (by rfl) (by rfl) (q_fieldAddr (by rfl)) ?_) | (refine WS.take rfl (by rfl) (by rfl) (q_fieldAddr_rop (by rfl) (by rfl)) ?_) | (refine WS.take rfl (by rfl) (by rfl) (q_fieldAddr_pel (by rfl)) ?_)
  first | (refine WS.take rfl (by rfl) (by rfl) (q_load (by rfl) (by rfl) (by rfl)) ?_) | (refine WS.take rfl (by rfl) (by rfl) (q_load_rop (by rfl) (by rfl)) ?_) | (refine WS.take rfl (by rfl) (by rfl) (q_load_pel (by rfl) (by rfl) ?_ (by rfl)) ?_; (· omega))
  refine WS.take rfl (by rfl) (by rfl) (q_int (by rfl) (by rfl) (by rfl)) ?_
  refine WS.take rfl (by rfl) (by rfl) (q_move (by rfl)) ?_
  refine WS.split 6 (by rfl) (fun g6 => ?_) (fun g6 => ?_)
  · skip
    have h1 : n < 0 := of_decide_eq_true g6
    refine WS.takeNo rfl (by rfl) (by rfl) ?_
    refine WS.takeNo rfl (by rfl) (by rfl) ?_
    refine WS.takeNo rfl (by rfl) (by rfl) ?_
    refine WS.take rfl (by rfl) (by rfl) (q_pick_t (by rfl) (by rfl)) ?_
    refine WS.take rfl (by rfl) (by rfl) (q_move (by rfl)) ?_
    refine WS.takeNo rfl (by rfl) (by rfl) ?_
    refine WS.takeNo rfl (by rfl) (by rfl) ?_
    refine WS.takeNo rfl (by rfl) (by rfl) ?_
    refine WS.takeNo rfl (by rfl) (by rfl) ?_
    refine WS.takeNo rfl (by rfl) (by rfl) ?_
    refine WS.takeNo rfl (by rfl) (by rfl) ?_
    refine WS.takeNo rfl (by rfl) (by rfl) ?_
    refine WS.takeNo rfl (by rfl) (by rfl) ?_
    refine WS.take rfl (by rfl) (by rfl) (q_pick_t (by rfl) (by rfl)) ?_
    refine WS.nil ?_
    (repeat refine J.seq ?_)
    refine J.condT (by rfl) ?_
    (repeat refine J.seq ?_)
    refine J.region ?_
    refine WL.yes (by rfl) (Ex.q (q_assign (by rfl)) (by rfl) ?_)
    refine WL.nil ?_
    (repeat refine J.seq ?_)
    refine J.ret ?_
    (repeat (with_reducible first | refine Kseq.ret ?_ | refine Kblock.ret ?_ | refine Kloop.ret ?_))
    refine Kret.mk [] (.tmp (by rfl) .nil) (by rfl) trivial (HLe.nil _ _) ?_
    refine ⟨?_, rfl⟩
    simp only [tupV, cv]
    have e : (decide (0 ≤ n) : Bool) = !decide (n < 0) := by by_cases h : n < 0 <;> simp [h] <;> omega
    simp_all [okp]
    try omega
  · skip
    have h1 : ¬ n < 0 := of_decide_eq_false g6
    first | (refine WS.take rfl (by rfl) (by rfl) (q_fieldAddr (by rfl)) ?_) | (refine WS.take rfl (by rfl) (by rfl) (q_fieldAddr_rop (by rfl) (by rfl)) ?_) | (refine WS.take rfl (by rfl) (by rfl) (q_fieldAddr_pel (by rfl)) ?_)
    first | (refine WS.take rfl (by rfl) (by rfl) (q_load (by rfl) (by rfl) (by rfl)) ?_) | (refine WS.take rfl (by rfl) (by rfl) (q_load_rop (by rfl) (by rfl)) ?_) | (refine WS.take rfl (by rfl) (by rfl) (q_load_pel (by rfl) (by rfl) ?_ (by rfl)) ?_; (· omega))
    refine WS.take rfl (by rfl) (by rfl) (q_int (by rfl) (by rfl) (by rfl)) ?_
    refine WS.take rfl (by rfl) (by rfl) (q_pick_f (by rfl) (by rfl)) ?_
    refine WS.take rfl (by rfl) (by rfl) (q_move (by rfl)) ?_
    refine WS.split 11 (by rfl) (fun g11 => ?_) (fun g11 => ?_)
    · skip
      have h2 : n > 128 := of_decide_eq_true g11
      refine WS.takeNo rfl (by rfl) (by rfl) ?_
      refine WS.takeNo rfl (by rfl) (by rfl) ?_
      refine WS.takeNo rfl (by rfl) (by rfl) ?_
      refine WS.takeNo rfl (by rfl) (by rfl) ?_
      refine WS.takeNo rfl (by rfl) (by rfl) ?_
      refine WS.takeNo rfl (by rfl) (by rfl) ?_
      refine WS.takeNo rfl (by rfl) (by rfl) ?_
      refine WS.takeNo rfl (by rfl) (by rfl) ?_
      refine WS.take rfl (by rfl) (by rfl) (q_pick_t (by rfl) (by rfl)) ?_
      refine WS.nil ?_
      (repeat refine J.seq ?_)
      refine J.condT (by rfl) ?_
      (repeat refine J.seq ?_)
      refine J.region ?_
      refine WL.yes (by rfl) (Ex.q (q_assign (by rfl)) (by rfl) ?_)
      refine WL.nil ?_
      (repeat refine J.seq ?_)
      refine J.ret ?_
      (repeat (with_reducible first | refine Kseq.ret ?_ | refine Kblock.ret ?_ | refine Kloop.ret ?_))
      refine Kret.mk [] (.tmp (by rfl) .nil) (by rfl) trivial (HLe.nil _ _) ?_
      refine ⟨?_, rfl⟩
      simp only [tupV, cv]
      have e : (decide (0 ≤ n) : Bool) = !decide (n < 0) := by by_cases h : n < 0 <;> simp [h] <;> omega
      simp_all [okp]
      try omega
    · skip
      have h2 : ¬ n > 128 := of_decide_eq_false g11
      first | (refine WS.take rfl (by rfl) (by rfl) (q_fieldAddr (by rfl)) ?_) | (refine WS.take rfl (by rfl) (by rfl) (q_fieldAddr_rop (by rfl) (by rfl)) ?_) | (refine WS.take rfl (by rfl) (by rfl) (q_fieldAddr_pel (by rfl)) ?_)
      first | (refine WS.take rfl (by rfl) (by rfl) (q_load (by rfl) (by rfl) (by rfl)) ?_) | (refine WS.take rfl (by rfl) (by rfl) (q_load_rop (by rfl) (by rfl)) ?_) | (refine WS.take rfl (by rfl) (by rfl) (q_load_pel (by rfl) (by rfl) ?_ (by rfl)) ?_; (· omega))
      first | (refine WS.take rfl (by rfl) (by rfl) (q_fieldAddr (by rfl)) ?_) | (refine WS.take rfl (by rfl) (by rfl) (q_fieldAddr_rop (by rfl) (by rfl)) ?_) | (refine WS.take rfl (by rfl) (by rfl) (q_fieldAddr_pel (by rfl)) ?_)
      first | (refine WS.take rfl (by rfl) (by rfl) (q_load (by rfl) (by rfl) (by rfl)) ?_) | (refine WS.take rfl (by rfl) (by rfl) (q_load_rop (by rfl) (by rfl)) ?_) | (refine WS.take rfl (by rfl) (by rfl) (q_load_pel (by rfl) (by rfl) ?_ (by rfl)) ?_; (· omega))
      first | (refine WS.take rfl (by rfl) (by rfl) (q_fieldAddr (by rfl)) ?_) | (refine WS.take rfl (by rfl) (by rfl) (q_fieldAddr_rop (by rfl) (by rfl)) ?_) | (refine WS.take rfl (by rfl) (by rfl) (q_fieldAddr_pel (by rfl)) ?_)
      first | (refine WS.take rfl (by rfl) (by rfl) (q_load (by rfl) (by rfl) (by rfl)) ?_) | (refine WS.take rfl (by rfl) (by rfl) (q_load_rop (by rfl) (by rfl)) ?_) | (refine WS.take rfl (by rfl) (by rfl) (q_load_pel (by rfl) (by rfl) ?_ (by rfl)) ?_; (· omega))
      refine WS.ex rfl (by rfl) (Ex.callq (masked_spec _ _ ?_) (by rfl) (by rfl) rfl (fun _ h => h) ?_); (· omega)
      first | (refine WS.take rfl (by rfl) (by rfl) (q_int (by rfl) (by rfl) (by rfl)) ?_) | (refine WS.take rfl (by rfl) (by rfl) (q_neb (by rfl) (by rfl)) ?_) | (refine WS.take rfl (by rfl) (by rfl) (q_nep rfl rfl (by rfl) (by rfl) ?_) ?_; (· rfl)) | (refine WS.take rfl (by rfl) (by rfl) (q_eqs (by rfl) (by rfl)) ?_)
      refine WS.take rfl (by rfl) (by rfl) (q_pick_f (by rfl) (by rfl)) ?_
      refine WS.nil ?_
      (repeat refine J.seq ?_)
      refine J.cond (by rfl) (fun c20 => ?_) (fun c20 => ?_)
      · skip
        (repeat refine J.seq ?_)
        refine J.region ?_
        refine WL.yes (by rfl) (Ex.q (q_assign (by rfl)) (by rfl) ?_)
        refine WL.nil ?_
        (repeat refine J.seq ?_)
        refine J.ret ?_
        (repeat (with_reducible first | refine Kseq.ret ?_ | refine Kblock.ret ?_ | refine Kloop.ret ?_))
        refine Kret.mk [] (.tmp (by rfl) .nil) (by rfl) trivial (HLe.nil _ _) ?_
        refine ⟨?_, rfl⟩
        simp only [tupV, cv]
        have e : (decide (0 ≤ n) : Bool) = !decide (n < 0) := by by_cases h : n < 0 <;> simp [h] <;> omega
        simp_all [okp]
        try omega
      · skip
        (repeat refine J.seq ?_)
        refine J.skip ?_
        (repeat refine J.seq ?_)
        refine J.region ?_
        refine WL.yes (by rfl) (Ex.q (q_assign (by rfl)) (by rfl) ?_)
        refine WL.nil ?_
        (repeat refine J.seq ?_)
        refine J.ret ?_
        (repeat (with_reducible first | refine Kseq.ret ?_ | refine Kblock.ret ?_ | refine Kloop.ret ?_))
        refine Kret.mk [] (.tmp (by rfl) .nil) (by rfl) trivial (HLe.nil _ _) ?_
        refine ⟨?_, rfl⟩
        simp only [tupV, cv]
        have e : (decide (0 ≤ n) : Bool) = !decide (n < 0) := by by_cases h : n < 0 <;> simp [h] <;> omega
        simp_all [okp]
        try omega

set_option maxRecDepth 100000 in
theorem checkPair_spec (da : List Int) (dn : Int) (sa : List Int) (sn : Int) : SpecQ Try.prog 50 [prV da dn sa sn] (iV (if okpair da dn sa sn then 0 else 21)) := by
  refine Spec.of_J Try.func50 rfl Try.ntmps50 Try.results50 rfl ?_
  intro A F hAF
  (repeat refine J.seq ?_)
  refine J.region ?_
  refine WL.yes (by rfl) (Ex.box (by rfl) (by rfl) (by rfl) ?_)
  intro b1
  refine WL.yes (by rfl) (Ex.q (q_assign (by rfl)) (by rfl) ?_)
  refine WL.nil ?_
  (repeat refine J.seq ?_)
  refine J.draw [1] 9999 [(0, true), (1, true), (2, false), (3, true), (4, true), (5, true), (6, true), (7, false), (8, true), (9, true), (10, true), (11, true), (12, true), (14, true), (15, true), (13, false), (16, false), (17, true), (18, true)] (by kernel_rfl) rfl (by kernel_rfl) ?_
  intro F1 hF1
  first | (refine WS.take rfl (by rfl) (by rfl) (q_fieldAddr (by rfl)) ?_) | (refine WS.take rfl (by rfl) (by rfl) (q_fieldAddr_rop (by rfl) (by rfl)) ?_) | (refine WS.take rfl (by rfl) (by rfl) (q_fieldAddr_pel (by rfl)) ?_)
  first | (refine WS.take rfl (by rfl) (by rfl) (q_load (by rfl) (by rfl) (by rfl)) ?_) | (refine WS.take rfl (by rfl) (by rfl) (q_load_rop (by rfl) (by rfl)) ?_) | (refine WS.take rfl (by rfl) (by rfl) (q_load_pel (by rfl) (by rfl) ?_ (by rfl)) ?_; (· omega))
  refine WS.ex rfl (by rfl) (Ex.callq (check_spec _ _) (by rfl) (by rfl) rfl (fun _ h => h) ?_)
  first | (refine WS.take rfl (by rfl) (by rfl) (q_int (by rfl) (by rfl) (by rfl)) ?_) | (refine WS.take rfl (by rfl) (by rfl) (q_neb (by rfl) (by rfl)) ?_) | (refine WS.take rfl (by rfl) (by rfl) (q_nep rfl rfl (by rfl) (by rfl) ?_) ?_; (· rfl)) | (refine WS.take rfl (by rfl) (by rfl) (q_eqs (by rfl) (by rfl)) ?_)
  refine WS.take rfl (by rfl) (by rfl) (q_move (by rfl)) ?_
  refine WS.split 7 (by rfl) (fun g7 => ?_) (fun g7 => ?_)
  · skip
    have h1 := okp_nnot g7
    refine WS.takeNo rfl (by rfl) (by rfl) ?_
    refine WS.takeNo rfl (by rfl) (by rfl) ?_
    refine WS.takeNo rfl (by rfl) (by rfl) ?_
    refine WS.takeNo rfl (by rfl) (by rfl) ?_
    refine WS.take rfl (by rfl) (by rfl) (q_pick_t (by rfl) (by rfl)) ?_
    refine WS.take rfl (by rfl) (by rfl) (q_move (by rfl)) ?_
    refine WS.takeNo rfl (by rfl) (by rfl) ?_
    refine WS.takeNo rfl (by rfl) (by rfl) ?_
    refine WS.takeNo rfl (by rfl) (by rfl) ?_
    refine WS.takeNo rfl (by rfl) (by rfl) ?_
    refine WS.takeNo rfl (by rfl) (by rfl) ?_
    refine WS.takeNo rfl (by rfl) (by rfl) ?_
    refine WS.takeNo rfl (by rfl) (by rfl) ?_
    refine WS.take rfl (by rfl) (by rfl) (q_pick_t (by rfl) (by rfl)) ?_
    refine WS.nil ?_
    (repeat refine J.seq ?_)
    refine J.condT (by rfl) ?_
    (repeat refine J.seq ?_)
    refine J.region ?_
    refine WL.yes (by rfl) (Ex.q (q_assign (by rfl)) (by rfl) ?_)
    refine WL.nil ?_
    (repeat refine J.seq ?_)
    refine J.ret ?_
    (repeat (with_reducible first | refine Kseq.ret ?_ | refine Kblock.ret ?_ | refine Kloop.ret ?_))
    refine Kret.mk [] (.tmp (by rfl) .nil) (by rfl) trivial (HLe.nil _ _) ?_
    refine ⟨?_, rfl⟩
    simp only [tupV, cv]
    simp_all [okpair]
  · skip
    have h1 := okp_nof g7
    first | (refine WS.take rfl (by rfl) (by rfl) (q_fieldAddr (by rfl)) ?_) | (refine WS.take rfl (by rfl) (by rfl) (q_fieldAddr_rop (by rfl) (by rfl)) ?_) | (refine WS.take rfl (by rfl) (by rfl) (q_fieldAddr_pel (by rfl)) ?_)
    first | (refine WS.take rfl (by rfl) (by rfl) (q_load (by rfl) (by rfl) (by rfl)) ?_) | (refine WS.take rfl (by rfl) (by rfl) (q_load_rop (by rfl) (by rfl)) ?_) | (refine WS.take rfl (by rfl) (by rfl) (q_load_pel (by rfl) (by rfl) ?_ (by rfl)) ?_; (· omega))
    refine WS.ex rfl (by rfl) (Ex.callq (check_spec _ _) (by rfl) (by rfl) rfl (fun _ h => h) ?_)
    first | (refine WS.take rfl (by rfl) (by rfl) (q_int (by rfl) (by rfl) (by rfl)) ?_) | (refine WS.take rfl (by rfl) (by rfl) (q_neb (by rfl) (by rfl)) ?_) | (refine WS.take rfl (by rfl) (by rfl) (q_nep rfl rfl (by rfl) (by rfl) ?_) ?_; (· rfl)) | (refine WS.take rfl (by rfl) (by rfl) (q_eqs (by rfl) (by rfl)) ?_)
    refine WS.take rfl (by rfl) (by rfl) (q_pick_f (by rfl) (by rfl)) ?_
    refine WS.take rfl (by rfl) (by rfl) (q_move (by rfl)) ?_
    refine WS.split 13 (by rfl) (fun g13 => ?_) (fun g13 => ?_)
    · skip
      have h2 := okp_nnot g13
      refine WS.takeNo rfl (by rfl) (by rfl) ?_
      refine WS.takeNo rfl (by rfl) (by rfl) ?_
      refine WS.takeNo rfl (by rfl) (by rfl) ?_
      refine WS.takeNo rfl (by rfl) (by rfl) ?_
      refine WS.takeNo rfl (by rfl) (by rfl) ?_
      refine WS.takeNo rfl (by rfl) (by rfl) ?_
      refine WS.takeNo rfl (by rfl) (by rfl) ?_
      refine WS.take rfl (by rfl) (by rfl) (q_pick_t (by rfl) (by rfl)) ?_
      refine WS.nil ?_
      (repeat refine J.seq ?_)
      refine J.condT (by rfl) ?_
      (repeat refine J.seq ?_)
      refine J.region ?_
      refine WL.yes (by rfl) (Ex.q (q_assign (by rfl)) (by rfl) ?_)
      refine WL.nil ?_
      (repeat refine J.seq ?_)
      refine J.ret ?_
      (repeat (with_reducible first | refine Kseq.ret ?_ | refine Kblock.ret ?_ | refine Kloop.ret ?_))
      refine Kret.mk [] (.tmp (by rfl) .nil) (by rfl) trivial (HLe.nil _ _) ?_
      refine ⟨?_, rfl⟩
      simp only [tupV, cv]
      simp_all [okpair]
    · skip
      have h2 := okp_nof g13
      first | (refine WS.take rfl (by rfl) (by rfl) (q_fieldAddr (by rfl)) ?_) | (refine WS.take rfl (by rfl) (by rfl) (q_fieldAddr_rop (by rfl) (by rfl)) ?_) | (refine WS.take rfl (by rfl) (by rfl) (q_fieldAddr_pel (by rfl)) ?_)
      first | (refine WS.take rfl (by rfl) (by rfl) (q_load (by rfl) (by rfl) (by rfl)) ?_) | (refine WS.take rfl (by rfl) (by rfl) (q_load_rop (by rfl) (by rfl)) ?_) | (refine WS.take rfl (by rfl) (by rfl) (q_load_pel (by rfl) (by rfl) ?_ (by rfl)) ?_; (· omega))
      first | (refine WS.take rfl (by rfl) (by rfl) (q_fieldAddr (by rfl)) ?_) | (refine WS.take rfl (by rfl) (by rfl) (q_fieldAddr_rop (by rfl) (by rfl)) ?_) | (refine WS.take rfl (by rfl) (by rfl) (q_fieldAddr_pel (by rfl)) ?_)
      first | (refine WS.take rfl (by rfl) (by rfl) (q_load (by rfl) (by rfl) (by rfl)) ?_) | (refine WS.take rfl (by rfl) (by rfl) (q_load_rop (by rfl) (by rfl)) ?_) | (refine WS.take rfl (by rfl) (by rfl) (q_load_pel (by rfl) (by rfl) ?_ (by rfl)) ?_; (· omega))
      refine WS.ex rfl (by rfl) (Ex.callq (famP_spec _ _) (by rfl) (by rfl) rfl (fun _ h => h) ?_)
      refine WS.ex rfl (by rfl) (Ex.callq (famP_spec _ _) (by rfl) (by rfl) rfl (fun _ h => h) ?_)
      first | (refine WS.take rfl (by rfl) (by rfl) (q_int (by rfl) (by rfl) (by rfl)) ?_) | (refine WS.take rfl (by rfl) (by rfl) (q_neb (by rfl) (by rfl)) ?_) | (refine WS.take rfl (by rfl) (by rfl) (q_nep rfl rfl (by rfl) (by rfl) ?_) ?_; (· rfl)) | (refine WS.take rfl (by rfl) (by rfl) (q_eqs (by rfl) (by rfl)) ?_)
      refine WS.take rfl (by rfl) (by rfl) (q_pick_f (by rfl) (by rfl)) ?_
      refine WS.nil ?_
      (repeat refine J.seq ?_)
      refine J.cond (by rfl) (fun c21 => ?_) (fun c21 => ?_)
      · skip
        (repeat refine J.seq ?_)
        refine J.region ?_
        refine WL.yes (by rfl) (Ex.q (q_assign (by rfl)) (by rfl) ?_)
        refine WL.nil ?_
        (repeat refine J.seq ?_)
        refine J.ret ?_
        (repeat (with_reducible first | refine Kseq.ret ?_ | refine Kblock.ret ?_ | refine Kloop.ret ?_))
        refine Kret.mk [] (.tmp (by rfl) .nil) (by rfl) trivial (HLe.nil _ _) ?_
        refine ⟨?_, rfl⟩
        simp only [tupV, cv]
        simp_all [okpair]
      · skip
        (repeat refine J.seq ?_)
        refine J.skip ?_
        (repeat refine J.seq ?_)
        refine J.region ?_
        refine WL.yes (by rfl) (Ex.q (q_assign (by rfl)) (by rfl) ?_)
        refine WL.nil ?_
        (repeat refine J.seq ?_)
        refine J.ret ?_
        (repeat (with_reducible first | refine Kseq.ret ?_ | refine Kblock.ret ?_ | refine Kloop.ret ?_))
        refine Kret.mk [] (.tmp (by rfl) .nil) (by rfl) trivial (HLe.nil _ _) ?_
        refine ⟨?_, rfl⟩
        simp only [tupV, cv]
        simp_all [okpair]

set_option maxRecDepth 100000 in
theorem contains_spec (a : List Int) (n : Int) (b : List Int) : SpecQ Try.prog 52 [pfV a n, adV b] (.bool (contains a n b)) := by
  refine Spec.of_J Try.func52 rfl Try.ntmps52 Try.results52 rfl ?_
  intro A F hAF
  (repeat refine J.seq ?_)
  refine J.region ?_
  refine WL.yes (by rfl) (Ex.box (by rfl) (by rfl) (by rfl) ?_)
  intro b2
  refine WL.yes (by rfl) (Ex.box (by rfl) (by rfl) (by rfl) ?_)
  intro b3
  refine WL.yes (by rfl) (Ex.q (q_assign (by rfl)) (by rfl) ?_)
  refine WL.nil ?_
  (repeat refine J.seq ?_)
  refine J.draw [2, 3] 9999 [(0, true), (1, false), (2, true), (3, true), (4, true), (5, true), (6, true), (8, true), (9, true), (7, false), (10, true), (11, true), (12, true)] (by kernel_rfl) rfl (by kernel_rfl) ?_
  intro F1 hF1
  first | (refine WS.take rfl (by rfl) (by rfl) (q_load (by rfl) (by rfl) (by rfl)) ?_) | (refine WS.take rfl (by rfl) (by rfl) (q_load_rop (by rfl) (by rfl)) ?_) | (refine WS.take rfl (by rfl) (by rfl) (q_load_pel (by rfl) (by rfl) ?_ (by rfl)) ?_; (· omega))
  refine WS.ex rfl (by rfl) (Ex.callq (check_spec _ _) (by rfl) (by rfl) rfl (fun _ h => h) ?_)
  first | (refine WS.take rfl (by rfl) (by rfl) (q_int (by rfl) (by rfl) (by rfl)) ?_) | (refine WS.take rfl (by rfl) (by rfl) (q_eqb (by rfl) (by rfl)) ?_) | (refine WS.take rfl (by rfl) (by rfl) (q_eqp rfl rfl (by rfl) (by rfl) ?_) ?_; (· rfl)) | (refine WS.take rfl (by rfl) (by rfl) (q_eqs (by rfl) (by rfl)) ?_)
  refine WS.take rfl (by rfl) (by rfl) (q_move (by rfl)) ?_
  refine WS.split 8 (by rfl) (fun g8 => ?_) (fun g8 => ?_)
  · skip
    have h1 := okp_of g8
    first | (refine WS.take rfl (by rfl) (by rfl) (q_load (by rfl) (by rfl) (by rfl)) ?_) | (refine WS.take rfl (by rfl) (by rfl) (q_load_rop (by rfl) (by rfl)) ?_) | (refine WS.take rfl (by rfl) (by rfl) (q_load_pel (by rfl) (by rfl) ?_ (by rfl)) ?_; (· omega))
    first | (refine WS.take rfl (by rfl) (by rfl) (q_fieldAddr (by rfl)) ?_) | (refine WS.take rfl (by rfl) (by rfl) (q_fieldAddr_rop (by rfl) (by rfl)) ?_) | (refine WS.take rfl (by rfl) (by rfl) (q_fieldAddr_pel (by rfl)) ?_)
    first | (refine WS.take rfl (by rfl) (by rfl) (q_load (by rfl) (by rfl) (by rfl)) ?_) | (refine WS.take rfl (by rfl) (by rfl) (q_load_rop (by rfl) (by rfl)) ?_) | (refine WS.take rfl (by rfl) (by rfl) (q_load_pel (by rfl) (by rfl) ?_ (by rfl)) ?_; (· omega))
    first | (refine WS.take rfl (by rfl) (by rfl) (q_fieldAddr (by rfl)) ?_) | (refine WS.take rfl (by rfl) (by rfl) (q_fieldAddr_rop (by rfl) (by rfl)) ?_) | (refine WS.take rfl (by rfl) (by rfl) (q_fieldAddr_pel (by rfl)) ?_)
    first | (refine WS.take rfl (by rfl) (by rfl) (q_load (by rfl) (by rfl) (by rfl)) ?_) | (refine WS.take rfl (by rfl) (by rfl) (q_load_rop (by rfl) (by rfl)) ?_) | (refine WS.take rfl (by rfl) (by rfl) (q_load_pel (by rfl) (by rfl) ?_ (by rfl)) ?_; (· omega))
    refine WS.ex rfl (by rfl) (Ex.callq (masked_spec _ _ ?_) (by rfl) (by rfl) rfl (fun _ h => h) ?_); (· have := okp_rng h1; omega)
    first | (refine WS.take rfl (by rfl) (by rfl) (q_int (by rfl) (by rfl) (by rfl)) ?_) | (refine WS.take rfl (by rfl) (by rfl) (q_eqb (by rfl) (by rfl)) ?_) | (refine WS.take rfl (by rfl) (by rfl) (q_eqp rfl rfl (by rfl) (by rfl) ?_) ?_; (· rfl)) | (refine WS.take rfl (by rfl) (by rfl) (q_eqs (by rfl) (by rfl)) ?_)
    refine WS.take rfl (by rfl) (by rfl) (q_pick_t (by rfl) (by rfl)) ?_
    refine WS.take rfl (by rfl) (by rfl) (q_assign (by rfl)) ?_
    refine WS.nil ?_
    (repeat refine J.seq ?_)
    refine J.ret ?_
    (repeat (with_reducible first | refine Kseq.ret ?_ | refine Kblock.ret ?_ | refine Kloop.ret ?_))
    refine Kret.mk [] (.tmp (by rfl) .nil) (by rfl) trivial (HLe.nil _ _) ?_
    refine ⟨?_, rfl⟩
    simp only [tupV, cv]
    simp_all [contains]
  · skip
    have h1 := okp_not g8
    refine WS.takeNo rfl (by rfl) (by rfl) ?_
    refine WS.takeNo rfl (by rfl) (by rfl) ?_
    refine WS.takeNo rfl (by rfl) (by rfl) ?_
    refine WS.takeNo rfl (by rfl) (by rfl) ?_
    refine WS.takeNo rfl (by rfl) (by rfl) ?_
    refine WS.takeNo rfl (by rfl) (by rfl) ?_
    refine WS.takeNo rfl (by rfl) (by rfl) ?_
    refine WS.take rfl (by rfl) (by rfl) (q_pick_f (by rfl) (by rfl)) ?_
    refine WS.take rfl (by rfl) (by rfl) (q_assign (by rfl)) ?_
    refine WS.nil ?_
    (repeat refine J.seq ?_)
    refine J.ret ?_
    (repeat (with_reducible first | refine Kseq.ret ?_ | refine Kblock.ret ?_ | refine Kloop.ret ?_))
    refine Kret.mk [] (.tmp (by rfl) .nil) (by rfl) trivial (HLe.nil _ _) ?_
    refine ⟨?_, rfl⟩
    simp only [tupV, cv]
    simp_all [contains]

set_option maxRecDepth 100000 in
theorem covers_spec (a : List Int) (n : Int) (b : List Int) (m : Int) : SpecQ Try.prog 62 [pfV a n, pfV b m] (.bool (covers a n b m)) := by
  refine Spec.of_J Try.func62 rfl Try.ntmps62 Try.results62 rfl ?_
  intro A F hAF
  (repeat refine J.seq ?_)
  refine J.region ?_
  refine WL.yes (by rfl) (Ex.box (by rfl) (by rfl) (by rfl) ?_)
  intro b2
  refine WL.yes (by rfl) (Ex.box (by rfl) (by rfl) (by rfl) ?_)
  intro b3
  refine WL.yes (by rfl) (Ex.q (q_assign (by rfl)) (by rfl) ?_)
  refine WL.nil ?_
  (repeat refine J.seq ?_)
  refine J.region ?_
  first | (refine WL.yes (by rfl) (Ex.h (h_load (by rfl) (by rfl) (by rfl)) (by rfl) ?_)) | (refine WL.yes (by rfl) (Ex.q (q_load (by rfl) (by rfl) (by rfl)) (by rfl) ?_)) | (refine WL.yes (by rfl) (Ex.q (q_load_rop (by rfl) (by rfl)) (by rfl) ?_)) | (refine WL.yes (by rfl) (Ex.h (h_load_pel (by rfl) (by rfl) ?_ (by rfl)) (by rfl) ?_); (· omega)) | (refine WL.yes (by rfl) (Ex.q (q_load_pel (by rfl) (by rfl) ?_ (by rfl)) (by rfl) ?_); (· omega))
  refine WL.yes (by rfl) (Ex.callq (check_spec _ _) (by rfl) (by rfl) rfl (fun _ h => h) ?_)
  first | (refine WL.yes (by rfl) (Ex.q (q_int (by rfl) (by rfl) (by rfl)) (by rfl) ?_)) | (refine WL.yes (by rfl) (Ex.q (q_eqb (by rfl) (by rfl)) (by rfl) ?_)) | (refine WL.yes (by rfl) (Ex.q (q_eqp rfl rfl (by rfl) (by rfl) ?_) (by rfl) ?_); (· rfl)) | (refine WL.yes (by rfl) (Ex.q (q_eqs (by rfl) (by rfl)) (by rfl) ?_))
  refine WL.yes (by rfl) (Ex.q (q_move (by rfl)) (by rfl) ?_)
  refine WL.split 8 (by rfl) (fun g8 => ?_) (fun g8 => ?_)
  · skip
    have h1 := okp_of g8
    first | (refine WL.yes (by rfl) (Ex.q (q_fieldAddr (by rfl)) (by rfl) ?_)) | (refine WL.yes (by rfl) (Ex.q (q_fieldAddr_rop (by rfl) (by rfl)) (by rfl) ?_)) | (refine WL.yes (by rfl) (Ex.q (q_fieldAddr_pel (by rfl)) (by rfl) ?_))
    first | (refine WL.yes (by rfl) (Ex.h (h_load (by rfl) (by rfl) (by rfl)) (by rfl) ?_)) | (refine WL.yes (by rfl) (Ex.q (q_load (by rfl) (by rfl) (by rfl)) (by rfl) ?_)) | (refine WL.yes (by rfl) (Ex.q (q_load_rop (by rfl) (by rfl)) (by rfl) ?_)) | (refine WL.yes (by rfl) (Ex.h (h_load_pel (by rfl) (by rfl) ?_ (by rfl)) (by rfl) ?_); (· omega)) | (refine WL.yes (by rfl) (Ex.q (q_load_pel (by rfl) (by rfl) ?_ (by rfl)) (by rfl) ?_); (· omega))
    first | (refine WL.yes (by rfl) (Ex.q (q_fieldAddr (by rfl)) (by rfl) ?_)) | (refine WL.yes (by rfl) (Ex.q (q_fieldAddr_rop (by rfl) (by rfl)) (by rfl) ?_)) | (refine WL.yes (by rfl) (Ex.q (q_fieldAddr_pel (by rfl)) (by rfl) ?_))
    first | (refine WL.yes (by rfl) (Ex.h (h_load (by rfl) (by rfl) (by rfl)) (by rfl) ?_)) | (refine WL.yes (by rfl) (Ex.q (q_load (by rfl) (by rfl) (by rfl)) (by rfl) ?_)) | (refine WL.yes (by rfl) (Ex.q (q_load_rop (by rfl) (by rfl)) (by rfl) ?_)) | (refine WL.yes (by rfl) (Ex.h (h_load_pel (by rfl) (by rfl) ?_ (by rfl)) (by rfl) ?_); (· omega)) | (refine WL.yes (by rfl) (Ex.q (q_load_pel (by rfl) (by rfl) ?_ (by rfl)) (by rfl) ?_); (· omega))
    refine WL.yes (by rfl) (Ex.q (q_int (by rfl) (by rfl) (by rfl)) (by rfl) ?_)
    refine WL.yes (by rfl) (Ex.q (q_pick_t (by rfl) (by rfl)) (by rfl) ?_)
    refine WL.yes (by rfl) (Ex.q (q_move (by rfl)) (by rfl) ?_)
    refine WL.split 15 (by rfl) (fun g15 => ?_) (fun g15 => ?_)
    · skip
      first | (refine WL.yes (by rfl) (Ex.h (h_load (by rfl) (by rfl) (by rfl)) (by rfl) ?_)) | (refine WL.yes (by rfl) (Ex.q (q_load (by rfl) (by rfl) (by rfl)) (by rfl) ?_)) | (refine WL.yes (by rfl) (Ex.q (q_load_rop (by rfl) (by rfl)) (by rfl) ?_)) | (refine WL.yes (by rfl) (Ex.h (h_load_pel (by rfl) (by rfl) ?_ (by rfl)) (by rfl) ?_); (· omega)) | (refine WL.yes (by rfl) (Ex.q (q_load_pel (by rfl) (by rfl) ?_ (by rfl)) (by rfl) ?_); (· omega))
      first | (refine WL.yes (by rfl) (Ex.q (q_fieldAddr (by rfl)) (by rfl) ?_)) | (refine WL.yes (by rfl) (Ex.q (q_fieldAddr_rop (by rfl) (by rfl)) (by rfl) ?_)) | (refine WL.yes (by rfl) (Ex.q (q_fieldAddr_pel (by rfl)) (by rfl) ?_))
      first | (refine WL.yes (by rfl) (Ex.h (h_load (by rfl) (by rfl) (by rfl)) (by rfl) ?_)) | (refine WL.yes (by rfl) (Ex.q (q_load (by rfl) (by rfl) (by rfl)) (by rfl) ?_)) | (refine WL.yes (by rfl) (Ex.q (q_load_rop (by rfl) (by rfl)) (by rfl) ?_)) | (refine WL.yes (by rfl) (Ex.h (h_load_pel (by rfl) (by rfl) ?_ (by rfl)) (by rfl) ?_); (· omega)) | (refine WL.yes (by rfl) (Ex.q (q_load_pel (by rfl) (by rfl) ?_ (by rfl)) (by rfl) ?_); (· omega))
      refine WL.yes (by rfl) (Ex.callq (contains_spec _ _ _) (by rfl) (by rfl) rfl (fun _ h => h) ?_)
      refine WL.yes (by rfl) (Ex.q (q_pick_t (by rfl) (by rfl)) (by rfl) ?_)
      refine WL.yes (by rfl) (Ex.q (q_assign (by rfl)) (by rfl) ?_)
      refine WL.nil ?_
      (repeat refine J.seq ?_)
      refine J.ret ?_
      (repeat (with_reducible first | refine Kseq.ret ?_ | refine Kblock.ret ?_ | refine Kloop.ret ?_))
      refine Kret.mk [] (.tmp (by rfl) .nil) (by rfl) trivial (HLe.nil _ _) ?_
      refine ⟨?_, rfl⟩
      simp only [tupV, cv]
      (try simp_all [covers]) <;> (intro _; omega)
    · skip
      refine WL.no (by rfl) (by rfl) ?_
      refine WL.no (by rfl) (by rfl) ?_
      refine WL.no (by rfl) (by rfl) ?_
      refine WL.no (by rfl) (by rfl) ?_
      refine WL.yes (by rfl) (Ex.q (q_pick_f (by rfl) (by rfl)) (by rfl) ?_)
      refine WL.yes (by rfl) (Ex.q (q_assign (by rfl)) (by rfl) ?_)
      refine WL.nil ?_
      (repeat refine J.seq ?_)
      refine J.ret ?_
      (repeat (with_reducible first | refine Kseq.ret ?_ | refine Kblock.ret ?_ | refine Kloop.ret ?_))
      refine Kret.mk [] (.tmp (by rfl) .nil) (by rfl) trivial (HLe.nil _ _) ?_
      refine ⟨?_, rfl⟩
      simp only [tupV, cv]
      (try simp_all [covers]) <;> (intro _; omega)
  · skip
    have h1 := okp_not g8
    refine WL.no (by rfl) (by rfl) ?_
    refine WL.no (by rfl) (by rfl) ?_
    refine WL.no (by rfl) (by rfl) ?_
    refine WL.no (by rfl) (by rfl) ?_
    refine WL.no (by rfl) (by rfl) ?_
    refine WL.yes (by rfl) (Ex.q (q_pick_f (by rfl) (by rfl)) (by rfl) ?_)
    refine WL.yes (by rfl) (Ex.q (q_move (by rfl)) (by rfl) ?_)
    refine WL.no (by rfl) (by rfl) ?_
    refine WL.no (by rfl) (by rfl) ?_
    refine WL.no (by rfl) (by rfl) ?_
    refine WL.no (by rfl) (by rfl) ?_
    refine WL.yes (by rfl) (Ex.q (q_pick_f (by rfl) (by rfl)) (by rfl) ?_)
    refine WL.yes (by rfl) (Ex.q (q_assign (by rfl)) (by rfl) ?_)
    refine WL.nil ?_
    (repeat refine J.seq ?_)
    refine J.ret ?_
    (repeat (with_reducible first | refine Kseq.ret ?_ | refine Kblock.ret ?_ | refine Kloop.ret ?_))
    refine Kret.mk [] (.tmp (by rfl) .nil) (by rfl) trivial (HLe.nil _ _) ?_
    refine ⟨?_, rfl⟩
    simp only [tupV, cv]
    (try simp_all [covers]) <;> (intro _; omega)

end Go.Vm
