/- The document's lists of entries: Find, Same, Put, Clean: the walks. -/
import Derived.Test.YtimkkhefemnkpaaN0
import Derived.Test.YtimkkhefemnkpaaVm19
namespace Go.Vm
open Go Go.Proofs

/-- the place of a pair; -1 -/
def fnd (p : Pr) (l : List En) : Int := match l.findIdx? (fun e => decide (e.p = p)) with | some k => (k : Int) | none => -1

theorem fnd_at {p : Pr} {l : List En} {k : Nat} (h : k < l.length) (hz : ∀ j, j < k → (lat l j).p ≠ p) (hx : (lat l k).p = p) : fnd p l = k := by
  unfold fnd
  have : l.findIdx? (fun e => decide (e.p = p)) = some k := by
    rw [List.findIdx?_eq_some_iff_getElem]
    refine ⟨h, ?_, fun j hj => ?_⟩
    · simpa [lat, List.getD, List.getElem?_eq_getElem h] using hx
    · have := hz j hj
      simpa [lat, List.getD, List.getElem?_eq_getElem (show j < l.length by omega)] using this
  rw [this]
theorem fnd_no {p : Pr} {l : List En} (hz : ∀ j, j < l.length → (lat l j).p ≠ p) : fnd p l = -1 := by
  unfold fnd
  have : l.findIdx? (fun e => decide (e.p = p)) = none := by
    rw [List.findIdx?_eq_none_iff]
    intro x hx
    obtain ⟨j, hj, rfl⟩ := List.mem_iff_getElem.1 hx
    have := hz j hj
    simpa [lat, List.getD, List.getElem?_eq_getElem hj] using this
  rw [this]

theorem lat_ok {l : List En} (h : ∀ e ∈ l, e.ok) {k : Nat} (hk : k < l.length) : (lat l k).ok := h _ (lat_mem hk)
theorem upto {P : Nat → Prop} {k : Nat} (h : ∀ j, j < k → P j) (hk : P k) : ∀ j, j < k + 1 → P j := fun j hj => by
  by_cases e : j < k
  · exact h j e
  · have : j = k := by omega
    subst this; exact hk
theorem lat_ext {l l' : List En} (h : l.length = l'.length) (hz : ∀ j, j < l.length → lat l j = lat l' j) : l = l' := by
  apply List.ext_getElem h
  intro i h1 h2
  have := hz i h1
  simpa [lat, List.getD, List.getElem?_eq_getElem h1, List.getElem?_eq_getElem h2] using this

set_option maxHeartbeats 4000000 in
set_option maxRecDepth 100000 in
theorem find_spec {a : Option Addr} {cap : Nat} {l : List En} {p : Pr} (hl : l.length ≤ 1000000) (ho : ∀ e ∈ l, e.ok) (hp : p.ok) : SpecQ Try.prog 43 [lros a cap enE l, prE p] (iV (fnd p l)) := by
  refine Spec.of_J Try.func43 rfl Try.ntmps43 Try.results43 rfl ?_
  intro A F hAF
  (repeat refine J.seq ?_)
  refine J.region ?_
  refine WL.yes (by rfl) (Ex.box (by rfl) (by rfl) (by rfl) ?_)
  intro b3
  refine WL.yes (by rfl) (Ex.q (q_assign (by rfl)) (by rfl) ?_)
  refine WL.nil ?_
  (repeat refine J.seq ?_)
  refine J.region ?_
  refine WL.yes (by rfl) (Ex.q (q_assign (by rfl)) (by rfl) ?_)
  refine WL.nil ?_
  (repeat refine J.seq ?_)
  refine J.block ?_
  (repeat refine J.seq ?_)
  refine J.loopP (fun x : Nat => x ≤ l.length ∧ ∀ j, j < x → (lat l j).p ≠ p) (fun x => [(5, iV x)]) (fun x => []) (fun x => l.length - x) (0) [(0, _), (3, _)] [(3, _)] ⟨same rfl, same rfl, trivial⟩ ⟨same rfl, trivial⟩ (.cons (s := 3) rfl (CLe.refl _ _) rfl .nil) ?_ ?_
  · (exact ⟨Nat.zero_le _, fun j hj => absurd hj (Nat.not_lt_zero j)⟩)
  rintro k hx
  (try dsimp only at hx)
  obtain ⟨hk, hz⟩ := hx
  (repeat refine J.seq ?_)
  refine J.region ?_
  refine WL.yes (by rfl) (Ex.q (q_move (by rfl)) (by rfl) ?_)
  refine WL.yes (by rfl) (Ex.q (q_move (by rfl)) (by rfl) ?_)
  first | (refine WL.yes (by rfl) (Ex.q (q_len_slice (by rfl) (by rfl)) (by rfl) ?_)) | (refine WL.yes (by rfl) (Ex.q (q_len_string (by rfl)) (by rfl) ?_))
  refine WL.yes (by rfl) (Ex.q (q_int (by rfl) (by rfl) (by rfl)) (by rfl) ?_)
  refine WL.nil ?_
  (repeat refine J.seq ?_)
  refine J.cond (by rfl) (fun c9 => ?_) (fun c9 => ?_)
  · skip
    (first | have e9 := of_decide_eq_true c9 | have e9 := of_decide_eq_false c9 | have e9 := ndec_t c9 | have e9 := ndec_f c9 | skip)
    (repeat refine J.seq ?_)
    refine J.skip ?_
    (repeat refine J.seq ?_)
    refine J.block ?_
    (repeat refine J.seq ?_)
    refine J.draw [3] 9999 [(0, true), (1, true), (2, true), (3, true), (4, true), (5, true), (6, true)] (by kernel_rfl) rfl (by kernel_rfl) ?_
    intro F1 hF1
    refine WS.take rfl (by rfl) (by rfl) (q_move (by rfl)) ?_
    refine WS.take rfl (by rfl) (by rfl) (q_move (by rfl)) ?_
    first | (refine WS.take rfl (by rfl) (by rfl) (q_indexAddr_ros (by rfl) (by rfl) (by intro _; rfl) ?_ ?_) ?_; (· (omega)); (· (omega))) | (refine WS.take rfl (by rfl) (by rfl) (q_indexAddr_sl (by rfl) (by rfl) ?_ ?_) ?_; (· (omega)); (· (omega))) | (refine WS.take rfl (by rfl) (by rfl) (q_indexAddr_arr (by rfl) (by rfl) ?_ ?_) ?_; (· (omega)); (· (omega)))
    first | (refine WS.take rfl (by rfl) (by rfl) (q_fieldAddr (by rfl)) ?_) | (refine WS.take rfl (by rfl) (by rfl) (q_fieldAddr_rop (by rfl) (by rfl)) ?_) | (refine WS.take rfl (by rfl) (by rfl) (q_fieldAddr_pel (by rfl)) ?_)
    first | (refine WS.take rfl (by rfl) (by rfl) (q_load (by rfl) (by rfl) (by rfl)) ?_) | (refine WS.take rfl (by rfl) (by rfl) (q_load_rop (by rfl) (by rfl)) ?_) | (refine WS.take rfl (by rfl) (by rfl) (q_load_pel (by rfl) (by rfl) ?_ (by rfl)) ?_; (· (omega)))
    first | (refine WS.take rfl (by rfl) (by rfl) (q_load (by rfl) (by rfl) (by rfl)) ?_) | (refine WS.take rfl (by rfl) (by rfl) (q_load_rop (by rfl) (by rfl)) ?_) | (refine WS.take rfl (by rfl) (by rfl) (q_load_pel (by rfl) (by rfl) ?_ (by rfl)) ?_; (· (omega)))
    first | (refine WS.take rfl (by rfl) (by rfl) (q_int (by rfl) (by rfl) (by rfl)) ?_) | (refine WS.take rfl (by rfl) (by rfl) (q_eqb (by rfl) (by rfl)) ?_) | (refine WS.take rfl (by rfl) (by rfl) (q_eqp rfl rfl (by rfl) (by rfl) ?_) ?_; (· (rfl))) | (refine WS.take rfl (by rfl) (by rfl) (q_eqs (by rfl) (by rfl)) ?_)
    refine WS.nil ?_
    (repeat refine J.seq ?_)
    refine J.cond (by rfl) (fun c18 => ?_) (fun c18 => ?_)
    · skip
      (first | have e18 := of_decide_eq_true c18 | have e18 := of_decide_eq_false c18 | have e18 := ndec_t c18 | have e18 := ndec_f c18 | skip)
      have hk2 : k < l.length := by omega
      rw [Int.toNat_natCast, eqPr (lat_ok ho hk2).1 hp] at c18
      simp only [decide_eq_true_eq] at c18
      (repeat refine J.seq ?_)
      refine J.region ?_
      refine WL.yes (by rfl) (Ex.q (q_move (by rfl)) (by rfl) ?_)
      refine WL.yes (by rfl) (Ex.q (q_assign (by rfl)) (by rfl) ?_)
      refine WL.nil ?_
      (repeat refine J.seq ?_)
      refine J.ret ?_
      (repeat (with_reducible first | refine Kseq.ret ?_ | refine Kblock.ret ?_ | refine Kloop.ret ?_ | refine Kcut.ret ?_))
      refine Kret.mk [] (.tmp (by rfl) (.nil)) (by rfl) trivial (HLe.nil _ _) ?_
      refine ⟨?_, rfl⟩
      (try simp only [tupV, cv])
      first
        | exact congrArg iV (fnd_at (by omega) hz c18).symm
        | exact congrArg iV (fnd_no (fun j hj => hz j (by omega))).symm
    · skip
      (first | have e18 := of_decide_eq_true c18 | have e18 := of_decide_eq_false c18 | have e18 := ndec_t c18 | have e18 := ndec_f c18 | skip)
      have hk2 : k < l.length := by omega
      rw [Int.toNat_natCast, eqPr (lat_ok ho hk2).1 hp] at c18
      simp only [decide_eq_false_iff_not] at c18
      (repeat refine J.seq ?_)
      refine J.skip ?_
      (repeat refine J.seq ?_)
      refine J.region ?_
      refine WL.yes (by rfl) (Ex.q (q_move (by rfl)) (by rfl) ?_)
      refine WL.yes (by rfl) (Ex.q (q_int (by rfl) (by rfl) (by rfl)) (by rfl) ?_)
      refine WL.yes (by rfl) (Ex.q (q_assign (by rfl)) (by rfl) ?_)
      refine WL.nil ?_
      refine Kloop.nextP (k + 1) ?_ ?_ ⟨(by first | exact same rfl | exact same (by rw [← w64_nat (k := k) (by omega)]; rfl)), trivial⟩ ⟨same rfl, same rfl, trivial⟩ (.cons (s := 3) rfl (CLe.refl _ _) rfl .nil)
      · (exact ⟨by omega, upto hz c18⟩)
      · ((try dsimp only) <;> omega)
  · skip
    (first | have e9 := of_decide_eq_true c9 | have e9 := of_decide_eq_false c9 | have e9 := ndec_t c9 | have e9 := ndec_f c9 | skip)
    (repeat refine J.seq ?_)
    refine J.exit ?_
    (repeat refine J.seq ?_)
    refine J.region ?_
    refine WL.yes (by rfl) (Ex.q (q_assign (by rfl)) (by rfl) ?_)
    refine WL.nil ?_
    (repeat refine J.seq ?_)
    refine J.ret ?_
    (repeat (with_reducible first | refine Kseq.ret ?_ | refine Kblock.ret ?_ | refine Kloop.ret ?_ | refine Kcut.ret ?_))
    refine Kret.mk [] (.tmp (by rfl) (.nil)) (by rfl) trivial (HLe.nil _ _) ?_
    refine ⟨?_, rfl⟩
    (try simp only [tupV, cv])
    first
      | exact congrArg iV (fnd_at (by omega) hz c18).symm
      | exact congrArg iV (fnd_no (fun j hj => hz j (by omega))).symm

set_option maxHeartbeats 4000000 in
set_option maxRecDepth 100000 in
theorem same_spec {a a2 : Option Addr} {cap cap2 : Nat} {l l2 : List En} (hl : l.length ≤ 1000000) (ho : ∀ e ∈ l, e.ok) (ho2 : ∀ e ∈ l2, e.ok) : SpecQ Try.prog 20 [lros a cap enE l, lros a2 cap2 enE l2] (.bool (decide (l = l2))) := by
  refine Spec.of_J Try.func20 rfl Try.ntmps20 Try.results20 rfl ?_
  intro A F hAF
  (repeat refine J.seq ?_)
  refine J.region ?_
  refine WL.yes (by rfl) (Ex.q (q_assign (by rfl)) (by rfl) ?_)
  refine WL.nil ?_
  (repeat refine J.seq ?_)
  refine J.region ?_
  refine WL.yes (by rfl) (Ex.q (q_move (by rfl)) (by rfl) ?_)
  first | (refine WL.yes (by rfl) (Ex.q (q_len_slice (by rfl) (by rfl)) (by rfl) ?_)) | (refine WL.yes (by rfl) (Ex.q (q_len_string (by rfl)) (by rfl) ?_))
  refine WL.yes (by rfl) (Ex.q (q_move (by rfl)) (by rfl) ?_)
  first | (refine WL.yes (by rfl) (Ex.q (q_len_slice (by rfl) (by rfl)) (by rfl) ?_)) | (refine WL.yes (by rfl) (Ex.q (q_len_string (by rfl)) (by rfl) ?_))
  first | (refine WL.yes (by rfl) (Ex.q (q_int (by rfl) (by rfl) (by rfl)) (by rfl) ?_)) | (refine WL.yes (by rfl) (Ex.q (q_neb (by rfl) (by rfl)) (by rfl) ?_)) | (refine WL.yes (by rfl) (Ex.q (q_nep rfl rfl (by rfl) (by rfl) ?_) (by rfl) ?_); (· (rfl))) | (refine WL.yes (by rfl) (Ex.q (q_eqs (by rfl) (by rfl)) (by rfl) ?_))
  refine WL.nil ?_
  (repeat refine J.seq ?_)
  refine J.cond (by rfl) (fun c10 => ?_) (fun c10 => ?_)
  · skip
    (first | have e10 := of_decide_eq_true c10 | have e10 := of_decide_eq_false c10 | have e10 := ndec_t c10 | have e10 := ndec_f c10 | skip)
    (repeat refine J.seq ?_)
    refine J.region ?_
    refine WL.yes (by rfl) (Ex.q (q_assign (by rfl)) (by rfl) ?_)
    refine WL.nil ?_
    (repeat refine J.seq ?_)
    refine J.ret ?_
    (repeat (with_reducible first | refine Kseq.ret ?_ | refine Kblock.ret ?_ | refine Kloop.ret ?_ | refine Kcut.ret ?_))
    refine Kret.mk [] (.tmp (by rfl) (.nil)) (by rfl) trivial (HLe.nil _ _) ?_
    refine ⟨?_, rfl⟩
    (try simp only [tupV, cv])
    refine congrArg V.bool ?_
    symm
    first
      | exact decide_eq_false (fun e => e10 (by rw [e]))
      | exact decide_eq_false (fun e => c25 (by rw [e]))
      | exact decide_eq_true (lat_ext hll (fun j hj => hz j (by omega)))
  · skip
    (first | have e10 := of_decide_eq_true c10 | have e10 := of_decide_eq_false c10 | have e10 := ndec_t c10 | have e10 := ndec_f c10 | skip)
    (repeat refine J.seq ?_)
    refine J.skip ?_
    (repeat refine J.seq ?_)
    refine J.region ?_
    refine WL.yes (by rfl) (Ex.q (q_assign (by rfl)) (by rfl) ?_)
    refine WL.nil ?_
    (repeat refine J.seq ?_)
    refine J.block ?_
    (repeat refine J.seq ?_)
    refine J.loopP (fun x : Nat => x ≤ l.length ∧ ∀ j, j < x → lat l j = lat l2 j) (fun x => [(5, iV x)]) (fun x => []) (fun x => l.length - x) (0) [(0, _), (1, _)] [] ⟨same rfl, same rfl, trivial⟩ ⟨same rfl, trivial⟩ .nil ?_ ?_
    · (exact ⟨Nat.zero_le _, fun j hj => absurd hj (Nat.not_lt_zero j)⟩)
    rintro k hx
    (try dsimp only at hx)
    obtain ⟨hk, hz⟩ := hx
    have hll : l.length = l2.length := by omega
    (repeat refine J.seq ?_)
    refine J.region ?_
    refine WL.yes (by rfl) (Ex.q (q_move (by rfl)) (by rfl) ?_)
    refine WL.yes (by rfl) (Ex.q (q_move (by rfl)) (by rfl) ?_)
    first | (refine WL.yes (by rfl) (Ex.q (q_len_slice (by rfl) (by rfl)) (by rfl) ?_)) | (refine WL.yes (by rfl) (Ex.q (q_len_string (by rfl)) (by rfl) ?_))
    refine WL.yes (by rfl) (Ex.q (q_int (by rfl) (by rfl) (by rfl)) (by rfl) ?_)
    refine WL.nil ?_
    (repeat refine J.seq ?_)
    refine J.cond (by rfl) (fun c14 => ?_) (fun c14 => ?_)
    · skip
      (first | have e14 := of_decide_eq_true c14 | have e14 := of_decide_eq_false c14 | have e14 := ndec_t c14 | have e14 := ndec_f c14 | skip)
      (repeat refine J.seq ?_)
      refine J.skip ?_
      (repeat refine J.seq ?_)
      refine J.block ?_
      (repeat refine J.seq ?_)
      refine J.draw [] 9999 [(0, true), (1, true), (2, true), (3, true), (4, true), (5, true), (6, true), (7, true), (8, true)] (by kernel_rfl) rfl (by kernel_rfl) ?_
      intro F1 hF1
      refine WS.take rfl (by rfl) (by rfl) (q_move (by rfl)) ?_
      refine WS.take rfl (by rfl) (by rfl) (q_move (by rfl)) ?_
      first | (refine WS.take rfl (by rfl) (by rfl) (q_indexAddr_ros (by rfl) (by rfl) (by intro _; rfl) ?_ ?_) ?_; (· (omega)); (· (omega))) | (refine WS.take rfl (by rfl) (by rfl) (q_indexAddr_sl (by rfl) (by rfl) ?_ ?_) ?_; (· (omega)); (· (omega))) | (refine WS.take rfl (by rfl) (by rfl) (q_indexAddr_arr (by rfl) (by rfl) ?_ ?_) ?_; (· (omega)); (· (omega)))
      first | (refine WS.take rfl (by rfl) (by rfl) (q_load (by rfl) (by rfl) (by rfl)) ?_) | (refine WS.take rfl (by rfl) (by rfl) (q_load_rop (by rfl) (by rfl)) ?_) | (refine WS.take rfl (by rfl) (by rfl) (q_load_pel (by rfl) (by rfl) ?_ (by rfl)) ?_; (· (omega)))
      refine WS.take rfl (by rfl) (by rfl) (q_move (by rfl)) ?_
      refine WS.take rfl (by rfl) (by rfl) (q_move (by rfl)) ?_
      first | (refine WS.take rfl (by rfl) (by rfl) (q_indexAddr_ros (by rfl) (by rfl) (by intro _; rfl) ?_ ?_) ?_; (· (omega)); (· (omega))) | (refine WS.take rfl (by rfl) (by rfl) (q_indexAddr_sl (by rfl) (by rfl) ?_ ?_) ?_; (· (omega)); (· (omega))) | (refine WS.take rfl (by rfl) (by rfl) (q_indexAddr_arr (by rfl) (by rfl) ?_ ?_) ?_; (· (omega)); (· (omega)))
      first | (refine WS.take rfl (by rfl) (by rfl) (q_load (by rfl) (by rfl) (by rfl)) ?_) | (refine WS.take rfl (by rfl) (by rfl) (q_load_rop (by rfl) (by rfl)) ?_) | (refine WS.take rfl (by rfl) (by rfl) (q_load_pel (by rfl) (by rfl) ?_ (by rfl)) ?_; (· (omega)))
      first | (refine WS.take rfl (by rfl) (by rfl) (q_int (by rfl) (by rfl) (by rfl)) ?_) | (refine WS.take rfl (by rfl) (by rfl) (q_neb (by rfl) (by rfl)) ?_) | (refine WS.take rfl (by rfl) (by rfl) (q_nep rfl rfl (by rfl) (by rfl) ?_) ?_; (· (rfl))) | (refine WS.take rfl (by rfl) (by rfl) (q_eqs (by rfl) (by rfl)) ?_)
      refine WS.nil ?_
      (repeat refine J.seq ?_)
      refine J.cond (by rfl) (fun c25 => ?_) (fun c25 => ?_)
      · skip
        (first | have e25 := of_decide_eq_true c25 | have e25 := of_decide_eq_false c25 | have e25 := ndec_t c25 | have e25 := ndec_f c25 | skip)
        have hk2 : k < l.length := by omega
        rw [Int.toNat_natCast, eqEn (lat_ok ho hk2) (lat_ok ho2 (by omega))] at c25
        simp only [Bool.not_eq_true', decide_eq_false_iff_not] at c25
        (repeat refine J.seq ?_)
        refine J.region ?_
        refine WL.yes (by rfl) (Ex.q (q_assign (by rfl)) (by rfl) ?_)
        refine WL.nil ?_
        (repeat refine J.seq ?_)
        refine J.ret ?_
        (repeat (with_reducible first | refine Kseq.ret ?_ | refine Kblock.ret ?_ | refine Kloop.ret ?_ | refine Kcut.ret ?_))
        refine Kret.mk [] (.tmp (by rfl) (.nil)) (by rfl) trivial (HLe.nil _ _) ?_
        refine ⟨?_, rfl⟩
        (try simp only [tupV, cv])
        refine congrArg V.bool ?_
        symm
        first
          | exact decide_eq_false (fun e => e10 (by rw [e]))
          | exact decide_eq_false (fun e => c25 (by rw [e]))
          | exact decide_eq_true (lat_ext hll (fun j hj => hz j (by omega)))
      · skip
        (first | have e25 := of_decide_eq_true c25 | have e25 := of_decide_eq_false c25 | have e25 := ndec_t c25 | have e25 := ndec_f c25 | skip)
        have hk2 : k < l.length := by omega
        rw [Int.toNat_natCast, eqEn (lat_ok ho hk2) (lat_ok ho2 (by omega))] at c25
        simp only [Bool.not_eq_false', decide_eq_true_eq] at c25
        (repeat refine J.seq ?_)
        refine J.skip ?_
        (repeat refine J.seq ?_)
        refine J.region ?_
        refine WL.yes (by rfl) (Ex.q (q_move (by rfl)) (by rfl) ?_)
        refine WL.yes (by rfl) (Ex.q (q_int (by rfl) (by rfl) (by rfl)) (by rfl) ?_)
        refine WL.yes (by rfl) (Ex.q (q_assign (by rfl)) (by rfl) ?_)
        refine WL.nil ?_
        refine Kloop.nextP (k + 1) ?_ ?_ ⟨(by first | exact same rfl | exact same (by rw [← w64_nat (k := k) (by omega)]; rfl)), trivial⟩ ⟨same rfl, same rfl, trivial⟩ .nil
        · (exact ⟨by omega, upto hz c25⟩)
        · ((try dsimp only) <;> omega)
    · skip
      (first | have e14 := of_decide_eq_true c14 | have e14 := of_decide_eq_false c14 | have e14 := ndec_t c14 | have e14 := ndec_f c14 | skip)
      (repeat refine J.seq ?_)
      refine J.exit ?_
      (repeat refine J.seq ?_)
      refine J.region ?_
      refine WL.yes (by rfl) (Ex.q (q_assign (by rfl)) (by rfl) ?_)
      refine WL.nil ?_
      (repeat refine J.seq ?_)
      refine J.ret ?_
      (repeat (with_reducible first | refine Kseq.ret ?_ | refine Kblock.ret ?_ | refine Kloop.ret ?_ | refine Kcut.ret ?_))
      refine Kret.mk [] (.tmp (by rfl) (.nil)) (by rfl) trivial (HLe.nil _ _) ?_
      refine ⟨?_, rfl⟩
      (try simp only [tupV, cv])
      refine congrArg V.bool ?_
      symm
      first
        | exact decide_eq_false (fun e => e10 (by rw [e]))
        | exact decide_eq_false (fun e => c25 (by rw [e]))
        | exact decide_eq_true (lat_ext hll (fun j hj => hz j (by omega)))

end Go.Vm
