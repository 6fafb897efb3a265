/- FibPlays: the walks. -/
import Derived.Test.YtimkkhefemnkpaaP7
namespace Go.Vm
open Go Go.Proofs

theorem dec_self {l : List En} : true = decide (l = l) := (decide_eq_true rfl).symm
theorem eqOp_self {o : Opn} (hx : o.e.ok) : (decide (o.k = o.k) && (((eqBytes 16 o.e.p.d.a o.e.p.d.a && decide (o.e.p.d.n = o.e.p.d.n)) && (eqBytes 16 o.e.p.s.a o.e.p.s.a && decide (o.e.p.s.n = o.e.p.s.n))) && (decide (o.e.i = o.e.i) && eqBytes 16 o.e.h o.e.h))) = true := by
  rw [eqEn hx hx, decide_eq_true rfl, decide_eq_true rfl]; rfl
def AAct.good (x : AAct) : Prop := ∀ e ∈ x.l, e.ok

theorem opk {s : FS} {n : Nat} (h : FI s n) (now : Int) : (s.next now).1.1.e.ok := by
  unfold FS.next
  split
  · exact def_ok
  split
  · exact def_ok
  · rename_i o ho; exact h.todo_ok o (nextO_mem ho)

set_option maxHeartbeats 4000000 in
set_option maxRecDepth 100000 in
theorem right_spec {a : Option Addr} {cap : Nat} {l : List AAct} : SpecQ Try.prog 28 [lros a cap acE l] (.bool (rightB l)) := by
  refine Spec.of_J Try.func28 rfl Try.ntmps28 Try.results28 rfl ?_
  intro A F hAF
  (repeat refine J.seq ?_)
  refine J.region ?_
  refine WL.yes (by rfl) (Ex.q (q_assign (by rfl)) (by rfl) ?_)
  refine WL.nil ?_
  (repeat refine J.seq ?_)
  refine J.region ?_
  refine WL.yes (by rfl) (Ex.q (q_assign (by rfl)) (by rfl) ?_)
  refine WL.nil ?_
  (repeat refine J.seq ?_)
  refine J.block ?_
  (repeat refine J.seq ?_)
  refine J.loopP (fun x : Nat => x ≤ l.length ∧ x ≤ 121 ∧ ∀ j, j < x → actOk (lat l j) = true) (fun x => [(3, iV x)]) (fun x => []) (fun x => l.length - x) (0) [(0, _)] [] ⟨same rfl, trivial⟩ ⟨same rfl, trivial⟩ .nil ?_ ?_
  · (exact ⟨Nat.zero_le _, Nat.zero_le _, fun j hj => absurd hj (Nat.not_lt_zero j)⟩)
  rintro k hx
  (try dsimp only at hx)
  obtain ⟨hk, hk9, hz⟩ := hx
  (repeat refine J.seq ?_)
  refine J.region ?_
  refine WL.yes (by rfl) (Ex.q (q_move (by rfl)) (by rfl) ?_)
  refine WL.yes (by rfl) (Ex.q (q_move (by rfl)) (by rfl) ?_)
  first | (refine WL.yes (by rfl) (Ex.q (q_len_slice (by rfl) (by rfl)) (by rfl) ?_)) | (refine WL.yes (by rfl) (Ex.q (q_len_string (by rfl)) (by rfl) ?_))
  refine WL.yes (by rfl) (Ex.q (q_int (by rfl) (by rfl) (by rfl)) (by rfl) ?_)
  refine WL.yes (by rfl) (Ex.q (q_move (by rfl)) (by rfl) ?_)
  refine WL.split 8 (by rfl) (fun g8 => ?_) (fun g8 => ?_)
  · skip
    (first | have eg8 := of_decide_eq_true g8 | have eg8 := of_decide_eq_false g8 | have eg8 := ndec_t g8 | have eg8 := ndec_f g8 | skip)
    refine WL.yes (by rfl) (Ex.q (q_move (by rfl)) (by rfl) ?_)
    refine WL.yes (by rfl) (Ex.q (q_int (by rfl) (by rfl) (by rfl)) (by rfl) ?_)
    refine WL.yes (by rfl) (Ex.q (q_pick_t (by rfl) (by rfl)) (by rfl) ?_)
    refine WL.nil ?_
    (repeat refine J.seq ?_)
    refine J.cond (by rfl) (fun c11 => ?_) (fun c11 => ?_)
    · skip
      (first | have e11 := of_decide_eq_true c11 | have e11 := of_decide_eq_false c11 | have e11 := ndec_t c11 | have e11 := ndec_f c11 | skip)
      (repeat refine J.seq ?_)
      refine J.skip ?_
      (repeat refine J.seq ?_)
      refine J.block ?_
      (repeat refine J.seq ?_)
      have hk2 : k < l.length := by omega
      have hk8 : k ≤ 120 := by omega
      refine J.region ?_
      refine WL.yes (by rfl) (Ex.q (q_move (by rfl)) (by rfl) ?_)
      refine WL.yes (by rfl) (Ex.q (q_move (by rfl)) (by rfl) ?_)
      first | (refine WL.yes (by rfl) (Ex.q (q_indexAddr_ros (by rfl) (by rfl) (by intro _; rfl) ?_ ?_) (by rfl) ?_); (· (omega)); (· (omega))) | (refine WL.yes (by rfl) (Ex.q (q_indexAddr_sl (by rfl) (by rfl) ?_ ?_) (by rfl) ?_); (· (omega)); (· (omega))) | (refine WL.yes (by rfl) (Ex.q (q_indexAddr_arr (by rfl) (by rfl) ?_ ?_) (by rfl) ?_); (· (omega)); (· (omega)))
      first | (refine WL.yes (by rfl) (Ex.q (q_fieldAddr (by rfl)) (by rfl) ?_)) | (refine WL.yes (by rfl) (Ex.q (q_fieldAddr_rop (by rfl) (by rfl)) (by rfl) ?_)) | (refine WL.yes (by rfl) (Ex.q (q_fieldAddr_pel (by rfl)) (by rfl) ?_))
      first | (refine WL.yes (by rfl) (Ex.h (h_load (by rfl) (by rfl) (by rfl)) (by rfl) ?_)) | (refine WL.yes (by rfl) (Ex.q (q_load (by rfl) (by rfl) (by rfl)) (by rfl) ?_)) | (refine WL.yes (by rfl) (Ex.q (q_load_rop (by rfl) (by rfl)) (by rfl) ?_)) | (refine WL.yes (by rfl) (Ex.h (h_load_pel (by rfl) (by rfl) ?_ (by rfl)) (by rfl) ?_); (· (omega))) | (refine WL.yes (by rfl) (Ex.q (q_load_pel (by rfl) (by rfl) ?_ (by rfl)) (by rfl) ?_); (· (omega)))
      refine WL.set 18 (iV (lat l k).gap) (by rfl) (by first | rfl | rw [Int.toNat_natCast] | rw [Nat.zero_add, Int.toNat_natCast]) ?_
      refine WL.yes (by rfl) (Ex.q (q_int (by rfl) (by rfl) (by rfl)) (by rfl) ?_)
      refine WL.yes (by rfl) (Ex.q (q_move (by rfl)) (by rfl) ?_)
      refine WL.split 20 (by rfl) (fun g20 => ?_) (fun g20 => ?_)
      · skip
        (first | have eg20 := of_decide_eq_true g20 | have eg20 := of_decide_eq_false g20 | have eg20 := ndec_t g20 | have eg20 := ndec_f g20 | skip)
        have hbad : actOk (lat l k) = false := by
          cases hq : actOk (lat l k) with
          | false => rfl
          | true => (have hq2 := actOk_iff.1 hq; exfalso; omega)
        refine WL.no (by rfl) (by rfl) ?_
        refine WL.no (by rfl) (by rfl) ?_
        refine WL.no (by rfl) (by rfl) ?_
        refine WL.no (by rfl) (by rfl) ?_
        refine WL.no (by rfl) (by rfl) ?_
        refine WL.no (by rfl) (by rfl) ?_
        refine WL.yes (by rfl) (Ex.q (q_pick_t (by rfl) (by rfl)) (by rfl) ?_)
        refine WL.yes (by rfl) (Ex.q (q_move (by rfl)) (by rfl) ?_)
        refine WL.no (by rfl) (by rfl) ?_
        refine WL.no (by rfl) (by rfl) ?_
        refine WL.no (by rfl) (by rfl) ?_
        refine WL.no (by rfl) (by rfl) ?_
        refine WL.no (by rfl) (by rfl) ?_
        refine WL.no (by rfl) (by rfl) ?_
        refine WL.no (by rfl) (by rfl) ?_
        refine WL.yes (by rfl) (Ex.q (q_pick_t (by rfl) (by rfl)) (by rfl) ?_)
        refine WL.nil ?_
        (repeat refine J.seq ?_)
        refine J.condT (by rfl) ?_
        (repeat refine J.seq ?_)
        refine J.region ?_
        refine WL.yes (by rfl) (Ex.q (q_assign (by rfl)) (by rfl) ?_)
        refine WL.nil ?_
        (repeat refine J.seq ?_)
        refine J.ret ?_
        (repeat (with_reducible first | refine Kseq.ret ?_ | refine Kblock.ret ?_ | refine Kloop.ret ?_ | refine Kcut.ret ?_))
        refine Kret.mk [] (.tmp (by rfl) (.nil)) (by rfl) trivial (HLe.nil _ _) ?_
        refine ⟨?_, rfl⟩
        (try simp only [tupV, cv])
        first
          | exact congrArg V.bool (right_bad hk2 hbad).symm
          | exact congrArg V.bool ((right_end (by omega) hz).trans (decide_eq_decide.2 (by omega))).symm
      · skip
        (first | have eg20 := of_decide_eq_true g20 | have eg20 := of_decide_eq_false g20 | have eg20 := ndec_t g20 | have eg20 := ndec_f g20 | skip)
        refine WL.yes (by rfl) (Ex.q (q_move (by rfl)) (by rfl) ?_)
        refine WL.yes (by rfl) (Ex.q (q_move (by rfl)) (by rfl) ?_)
        first | (refine WL.yes (by rfl) (Ex.q (q_indexAddr_ros (by rfl) (by rfl) (by intro _; rfl) ?_ ?_) (by rfl) ?_); (· (omega)); (· (omega))) | (refine WL.yes (by rfl) (Ex.q (q_indexAddr_sl (by rfl) (by rfl) ?_ ?_) (by rfl) ?_); (· (omega)); (· (omega))) | (refine WL.yes (by rfl) (Ex.q (q_indexAddr_arr (by rfl) (by rfl) ?_ ?_) (by rfl) ?_); (· (omega)); (· (omega)))
        first | (refine WL.yes (by rfl) (Ex.q (q_fieldAddr (by rfl)) (by rfl) ?_)) | (refine WL.yes (by rfl) (Ex.q (q_fieldAddr_rop (by rfl) (by rfl)) (by rfl) ?_)) | (refine WL.yes (by rfl) (Ex.q (q_fieldAddr_pel (by rfl)) (by rfl) ?_))
        first | (refine WL.yes (by rfl) (Ex.h (h_load (by rfl) (by rfl) (by rfl)) (by rfl) ?_)) | (refine WL.yes (by rfl) (Ex.q (q_load (by rfl) (by rfl) (by rfl)) (by rfl) ?_)) | (refine WL.yes (by rfl) (Ex.q (q_load_rop (by rfl) (by rfl)) (by rfl) ?_)) | (refine WL.yes (by rfl) (Ex.h (h_load_pel (by rfl) (by rfl) ?_ (by rfl)) (by rfl) ?_); (· (omega))) | (refine WL.yes (by rfl) (Ex.q (q_load_pel (by rfl) (by rfl) ?_ (by rfl)) (by rfl) ?_); (· (omega)))
        refine WL.set 25 (iV (lat l k).gap) (by rfl) (by first | rfl | rw [Int.toNat_natCast] | rw [Nat.zero_add, Int.toNat_natCast]) ?_
        refine WL.yes (by rfl) (Ex.q (q_int (by rfl) (by rfl) (by rfl)) (by rfl) ?_)
        refine WL.yes (by rfl) (Ex.q (q_pick_f (by rfl) (by rfl)) (by rfl) ?_)
        refine WL.yes (by rfl) (Ex.q (q_move (by rfl)) (by rfl) ?_)
        refine WL.split 28 (by rfl) (fun g28 => ?_) (fun g28 => ?_)
        · skip
          (first | have eg28 := of_decide_eq_true g28 | have eg28 := of_decide_eq_false g28 | have eg28 := ndec_t g28 | have eg28 := ndec_f g28 | skip)
          have hbad : actOk (lat l k) = false := by
            cases hq : actOk (lat l k) with
            | false => rfl
            | true => (have hq2 := actOk_iff.1 hq; exfalso; omega)
          refine WL.no (by rfl) (by rfl) ?_
          refine WL.no (by rfl) (by rfl) ?_
          refine WL.no (by rfl) (by rfl) ?_
          refine WL.no (by rfl) (by rfl) ?_
          refine WL.no (by rfl) (by rfl) ?_
          refine WL.no (by rfl) (by rfl) ?_
          refine WL.no (by rfl) (by rfl) ?_
          refine WL.yes (by rfl) (Ex.q (q_pick_t (by rfl) (by rfl)) (by rfl) ?_)
          refine WL.nil ?_
          (repeat refine J.seq ?_)
          refine J.condT (by rfl) ?_
          (repeat refine J.seq ?_)
          refine J.region ?_
          refine WL.yes (by rfl) (Ex.q (q_assign (by rfl)) (by rfl) ?_)
          refine WL.nil ?_
          (repeat refine J.seq ?_)
          refine J.ret ?_
          (repeat (with_reducible first | refine Kseq.ret ?_ | refine Kblock.ret ?_ | refine Kloop.ret ?_ | refine Kcut.ret ?_))
          refine Kret.mk [] (.tmp (by rfl) (.nil)) (by rfl) trivial (HLe.nil _ _) ?_
          refine ⟨?_, rfl⟩
          (try simp only [tupV, cv])
          first
            | exact congrArg V.bool (right_bad hk2 hbad).symm
            | exact congrArg V.bool ((right_end (by omega) hz).trans (decide_eq_decide.2 (by omega))).symm
        · skip
          (first | have eg28 := of_decide_eq_true g28 | have eg28 := of_decide_eq_false g28 | have eg28 := ndec_t g28 | have eg28 := ndec_f g28 | skip)
          refine WL.yes (by rfl) (Ex.q (q_move (by rfl)) (by rfl) ?_)
          refine WL.yes (by rfl) (Ex.q (q_move (by rfl)) (by rfl) ?_)
          first | (refine WL.yes (by rfl) (Ex.q (q_indexAddr_ros (by rfl) (by rfl) (by intro _; rfl) ?_ ?_) (by rfl) ?_); (· (omega)); (· (omega))) | (refine WL.yes (by rfl) (Ex.q (q_indexAddr_sl (by rfl) (by rfl) ?_ ?_) (by rfl) ?_); (· (omega)); (· (omega))) | (refine WL.yes (by rfl) (Ex.q (q_indexAddr_arr (by rfl) (by rfl) ?_ ?_) (by rfl) ?_); (· (omega)); (· (omega)))
          first | (refine WL.yes (by rfl) (Ex.q (q_fieldAddr (by rfl)) (by rfl) ?_)) | (refine WL.yes (by rfl) (Ex.q (q_fieldAddr_rop (by rfl) (by rfl)) (by rfl) ?_)) | (refine WL.yes (by rfl) (Ex.q (q_fieldAddr_pel (by rfl)) (by rfl) ?_))
          first | (refine WL.yes (by rfl) (Ex.h (h_load (by rfl) (by rfl) (by rfl)) (by rfl) ?_)) | (refine WL.yes (by rfl) (Ex.q (q_load (by rfl) (by rfl) (by rfl)) (by rfl) ?_)) | (refine WL.yes (by rfl) (Ex.q (q_load_rop (by rfl) (by rfl)) (by rfl) ?_)) | (refine WL.yes (by rfl) (Ex.h (h_load_pel (by rfl) (by rfl) ?_ (by rfl)) (by rfl) ?_); (· (omega))) | (refine WL.yes (by rfl) (Ex.q (q_load_pel (by rfl) (by rfl) ?_ (by rfl)) (by rfl) ?_); (· (omega)))
          refine WL.set 33 (lros (lat l k).la (lat l k).lc enE (lat l k).l) (by rfl) (by first | rfl | rw [Int.toNat_natCast] | rw [Nat.zero_add, Int.toNat_natCast]) ?_
          first | (refine WL.yes (by rfl) (Ex.q (q_len_slice (by rfl) (by rfl)) (by rfl) ?_)) | (refine WL.yes (by rfl) (Ex.q (q_len_string (by rfl)) (by rfl) ?_))
          refine WL.yes (by rfl) (Ex.q (q_int (by rfl) (by rfl) (by rfl)) (by rfl) ?_)
          refine WL.yes (by rfl) (Ex.q (q_pick_f (by rfl) (by rfl)) (by rfl) ?_)
          refine WL.nil ?_
          (repeat refine J.seq ?_)
          refine J.cond (by rfl) (fun c36 => ?_) (fun c36 => ?_)
          · skip
            (first | have e36 := of_decide_eq_true c36 | have e36 := of_decide_eq_false c36 | have e36 := ndec_t c36 | have e36 := ndec_f c36 | skip)
            have hbad : actOk (lat l k) = false := by
              cases hq : actOk (lat l k) with
              | false => rfl
              | true => (have hq2 := actOk_iff.1 hq; exfalso; omega)
            (repeat refine J.seq ?_)
            refine J.region ?_
            refine WL.yes (by rfl) (Ex.q (q_assign (by rfl)) (by rfl) ?_)
            refine WL.nil ?_
            (repeat refine J.seq ?_)
            refine J.ret ?_
            (repeat (with_reducible first | refine Kseq.ret ?_ | refine Kblock.ret ?_ | refine Kloop.ret ?_ | refine Kcut.ret ?_))
            refine Kret.mk [] (.tmp (by rfl) (.nil)) (by rfl) trivial (HLe.nil _ _) ?_
            refine ⟨?_, rfl⟩
            (try simp only [tupV, cv])
            first
              | exact congrArg V.bool (right_bad hk2 hbad).symm
              | exact congrArg V.bool ((right_end (by omega) hz).trans (decide_eq_decide.2 (by omega))).symm
          · skip
            (first | have e36 := of_decide_eq_true c36 | have e36 := of_decide_eq_false c36 | have e36 := ndec_t c36 | have e36 := ndec_f c36 | skip)
            have hok : actOk (lat l k) = true := actOk_iff.2 ⟨by omega, by omega, by omega⟩
            (repeat refine J.seq ?_)
            refine J.skip ?_
            (repeat refine J.seq ?_)
            refine J.region ?_
            refine WL.yes (by rfl) (Ex.q (q_move (by rfl)) (by rfl) ?_)
            refine WL.yes (by rfl) (Ex.q (q_int (by rfl) (by rfl) (by rfl)) (by rfl) ?_)
            refine WL.yes (by rfl) (Ex.q (q_assign (by rfl)) (by rfl) ?_)
            refine WL.nil ?_
            refine Kloop.nextP (k + 1) ?_ ?_ ⟨same (by rw [← w64_nat (k := k) (by omega)]; rfl), trivial⟩ ⟨same rfl, trivial⟩ .nil
            · (exact ⟨by (try dsimp only); omega, by (try dsimp only); omega, upto hz hok⟩)
            · ((try dsimp only) <;> omega)
    · skip
      (first | have e11 := of_decide_eq_true c11 | have e11 := of_decide_eq_false c11 | have e11 := ndec_t c11 | have e11 := ndec_f c11 | skip)
      (repeat refine J.seq ?_)
      refine J.exit ?_
      (repeat refine J.seq ?_)
      refine J.region ?_
      refine WL.yes (by rfl) (Ex.q (q_move (by rfl)) (by rfl) ?_)
      first | (refine WL.yes (by rfl) (Ex.q (q_len_slice (by rfl) (by rfl)) (by rfl) ?_)) | (refine WL.yes (by rfl) (Ex.q (q_len_string (by rfl)) (by rfl) ?_))
      refine WL.yes (by rfl) (Ex.q (q_int (by rfl) (by rfl) (by rfl)) (by rfl) ?_)
      refine WL.yes (by rfl) (Ex.q (q_assign (by rfl)) (by rfl) ?_)
      refine WL.nil ?_
      (repeat refine J.seq ?_)
      refine J.ret ?_
      (repeat (with_reducible first | refine Kseq.ret ?_ | refine Kblock.ret ?_ | refine Kloop.ret ?_ | refine Kcut.ret ?_))
      refine Kret.mk [] (.tmp (by rfl) (.nil)) (by rfl) trivial (HLe.nil _ _) ?_
      refine ⟨?_, rfl⟩
      (try simp only [tupV, cv])
      first
        | exact congrArg V.bool (right_bad hk2 hbad).symm
        | exact congrArg V.bool ((right_end (by omega) hz).trans (decide_eq_decide.2 (by omega))).symm
  · skip
    (first | have eg8 := of_decide_eq_true g8 | have eg8 := of_decide_eq_false g8 | have eg8 := ndec_t g8 | have eg8 := ndec_f g8 | skip)
    refine WL.no (by rfl) (by rfl) ?_
    refine WL.no (by rfl) (by rfl) ?_
    refine WL.yes (by rfl) (Ex.q (q_pick_f (by rfl) (by rfl)) (by rfl) ?_)
    refine WL.nil ?_
    (repeat refine J.seq ?_)
    refine J.condF (by rfl) ?_
    (repeat refine J.seq ?_)
    refine J.exit ?_
    (repeat refine J.seq ?_)
    refine J.region ?_
    refine WL.yes (by rfl) (Ex.q (q_move (by rfl)) (by rfl) ?_)
    first | (refine WL.yes (by rfl) (Ex.q (q_len_slice (by rfl) (by rfl)) (by rfl) ?_)) | (refine WL.yes (by rfl) (Ex.q (q_len_string (by rfl)) (by rfl) ?_))
    refine WL.yes (by rfl) (Ex.q (q_int (by rfl) (by rfl) (by rfl)) (by rfl) ?_)
    refine WL.yes (by rfl) (Ex.q (q_assign (by rfl)) (by rfl) ?_)
    refine WL.nil ?_
    (repeat refine J.seq ?_)
    refine J.ret ?_
    (repeat (with_reducible first | refine Kseq.ret ?_ | refine Kblock.ret ?_ | refine Kloop.ret ?_ | refine Kcut.ret ?_))
    refine Kret.mk [] (.tmp (by rfl) (.nil)) (by rfl) trivial (HLe.nil _ _) ?_
    refine ⟨?_, rfl⟩
    (try simp only [tupV, cv])
    first
      | exact congrArg V.bool (right_bad hk2 hbad).symm
      | exact congrArg V.bool ((right_end (by omega) hz).trans (decide_eq_decide.2 (by omega))).symm

set_option maxHeartbeats 16000000 in
set_option maxRecDepth 100000 in
theorem fibPlays_spec {a : Option Addr} {cap : Nat} {l : List AAct} (ho : ∀ x ∈ l, x.good) : Spec Try.prog 6 [lros a cap acE l] [] (fun r H' => r = .bool true ∧ H' = []) := by
  refine Spec.of_J Try.func6 rfl Try.ntmps6 Try.results6 rfl ?_
  intro A F hAF
  (repeat refine J.seq ?_)
  refine J.region ?_
  refine WL.yes (by rfl) (Ex.q (q_assign (by rfl)) (by rfl) ?_)
  refine WL.nil ?_
  (repeat refine J.seq ?_)
  refine J.region ?_
  refine WL.yes (by rfl) (Ex.q (q_move (by rfl)) (by rfl) ?_)
  refine WL.yes (by rfl) (Ex.callq (right_spec) (by rfl) (by rfl) rfl (fun _ h => h) ?_)
  refine WL.yes (by rfl) (Ex.q (q_not (by rfl)) (by rfl) ?_)
  refine WL.nil ?_
  (repeat refine J.seq ?_)
  refine J.cond (by rfl) (fun c18 => ?_) (fun c18 => ?_)
  · skip
    (first | have e18 := of_decide_eq_true c18 | have e18 := of_decide_eq_false c18 | have e18 := ndec_t c18 | have e18 := ndec_f c18 | skip)
    (repeat refine J.seq ?_)
    refine J.region ?_
    refine WL.yes (by rfl) (Ex.callL (live19_spec) (by rfl) (by rfl) .nil ?_)
    rintro _ _ ⟨rfl, rfl⟩
    refine WL.yes (by rfl) (Ex.q (q_assign (by rfl)) (by rfl) ?_)
    refine WL.nil ?_
    (repeat refine J.seq ?_)
    refine J.ret ?_
    (repeat (with_reducible first | refine Kseq.ret ?_ | refine Kblock.ret ?_ | refine Kloop.ret ?_ | refine Kcut.ret ?_))
    refine Kret.mk [] (.tmp (by rfl) (.nil)) (by rfl) trivial (HLe.nil _ _) ?_
    exact ⟨rfl, rfl⟩
  · skip
    (first | have e18 := of_decide_eq_true c18 | have e18 := of_decide_eq_false c18 | have e18 := ndec_t c18 | have e18 := ndec_f c18 | skip)
    have hr : rightB l = true := by simpa using c18
    have hrl := right_len hr
    (repeat refine J.seq ?_)
    refine J.skip ?_
    (repeat refine J.seq ?_)
    refine J.region ?_
    refine WL.yes (by rfl) (Ex.callL (fNew_spec) (by rfl) (by rfl) .nil ?_)
    rintro _ _ ⟨fb, mh, mw0, mf, wp0, rfl, rfl⟩
    refine WL.yes (by rfl) (Ex.q (q_assign (by rfl)) (by rfl) ?_)
    refine WL.nil ?_
    (repeat refine J.seq ?_)
    refine J.region ?_
    refine WL.yes (by rfl) (Ex.q (q_build (parts := []) (by rfl) (by rfl)) (by rfl) ?_)
    refine WL.yes (by rfl) (Ex.box (by rfl) (by rfl) (by rfl) ?_)
    intro b22
    refine WL.yes (by rfl) (Ex.q (q_assign (by rfl)) (by rfl) ?_)
    refine WL.nil ?_
    (repeat refine J.seq ?_)
    refine J.region ?_
    refine WL.yes (by rfl) (Ex.q (q_move (by rfl)) (by rfl) ?_)
    refine WL.yes (by rfl) (Ex.q (q_eqnil (by rfl) (by rfl) (by rfl)) (by rfl) ?_)
    refine WL.nil ?_
    (repeat refine J.seq ?_)
    refine J.condF (by rfl) ?_
    (repeat refine J.seq ?_)
    refine J.skip ?_
    (repeat refine J.seq ?_)
    refine J.region ?_
    refine WL.yes (by rfl) (Ex.q (q_assign (by rfl)) (by rfl) ?_)
    refine WL.nil ?_
    (repeat refine J.seq ?_)
    refine J.region ?_
    refine WL.yes (by rfl) (Ex.q (q_assign (by rfl)) (by rfl) ?_)
    refine WL.nil ?_
    (repeat refine J.seq ?_)
    refine J.block ?_
    (repeat refine J.seq ?_)
    refine J.loopP (fun x : Nat × FS × Nat × Nat × Option Nat × Nat × Option Nat × Nat × Option Nat × Nat × Int => x.1 ≤ l.length ∧ FI x.2.1 x.1 ∧ 0 ≤ x.2.2.2.2.2.2.2.2.2.2 ∧ x.2.2.2.2.2.2.2.2.2.2 ≤ (x.1 : Int) * 1073741824) (fun x => [(6, iV x.1), (5, iV x.2.2.2.2.2.2.2.2.2.2), (4, .ptr 3060 b22 0)]) (fun x => [(1060, .box fb 103 (fV mh x.2.2.1 mf (wayV x.2.2.2.1 x.2.1.busy))), (1051, tbl mh x.2.1.H), (1052, tbl x.2.2.1 x.2.1.W), (1053, mpc mf prE iV x.2.1.F), (1054, wayC x.2.2.2.1 x.2.1.busy x.2.1.wo), (3060, .box b22 62 (rfV x.2.2.2.2.1 x.2.2.2.2.2.1 x.2.2.2.2.2.2.1 x.2.2.2.2.2.2.2.1 x.2.2.2.2.2.2.2.2.1 x.2.2.2.2.2.2.2.2.2.1 x.2.1)), (3051, lvec x.2.2.2.2.1 37 51 x.2.2.2.2.2.1 enE x.2.1.H), (3052, lvec x.2.2.2.2.2.2.1 37 51 x.2.2.2.2.2.2.2.1 enE x.2.1.W), (3053, lvec x.2.2.2.2.2.2.2.2.1 108 35 x.2.2.2.2.2.2.2.2.2.1 waE x.2.1.F)]) (fun x => l.length - x.1) (0, FS.zero, mw0, wp0, none, 0, none, 0, none, 0, 0) [(0, _), (3, _)] [] ⟨same rfl, same rfl, trivial⟩ ⟨same rfl, same rfl, ⟨_, rfl, rfl, fun _ => trivial⟩, trivial⟩ (.cons (s := 1060) rfl (CLe.refl _ _) rfl (.cons (s := 1051) rfl (CLe.refl _ _) rfl (.cons (s := 1052) rfl (CLe.refl _ _) rfl (.cons (s := 1053) rfl (CLe.refl _ _) rfl (.cons (s := 1054) rfl (CLe.refl _ _) rfl (.cons (s := 22) rfl (CLe.cells rfl (fun _ => rfl) (fun _ => ⟨trivial, trivial, trivial, VOk_op, trivial⟩)) rfl (.non (.non (.non .nil))))))))) ?_ ?_
    · ((try dsimp only); exact ⟨Nat.zero_le _, FI.zero, by omega, by omega⟩)
    rintro ⟨k, s, mw, wp, ha, hc, wa, wc, fa, fc, now⟩ hx
    (try dsimp only at hx)
    (try dsimp only)
    obtain ⟨hk, hs, hn0, hn1⟩ := hx
    (repeat refine J.seq ?_)
    refine J.region ?_
    refine WL.yes (by rfl) (Ex.q (q_move (by rfl)) (by rfl) ?_)
    refine WL.yes (by rfl) (Ex.q (q_move (by rfl)) (by rfl) ?_)
    first | (refine WL.yes (by rfl) (Ex.q (q_len_slice (by rfl) (by rfl)) (by rfl) ?_)) | (refine WL.yes (by rfl) (Ex.q (q_len_string (by rfl)) (by rfl) ?_))
    refine WL.yes (by rfl) (Ex.q (q_int (by rfl) (by rfl) (by rfl)) (by rfl) ?_)
    refine WL.nil ?_
    (repeat refine J.seq ?_)
    refine J.cond (by rfl) (fun c28 => ?_) (fun c28 => ?_)
    · skip
      (first | have e28 := of_decide_eq_true c28 | have e28 := of_decide_eq_false c28 | have e28 := ndec_t c28 | have e28 := ndec_f c28 | skip)
      (repeat refine J.seq ?_)
      refine J.skip ?_
      (repeat refine J.seq ?_)
      refine J.block ?_
      (repeat refine J.seq ?_)
      have hk2 : k < l.length := by omega
      have hg := right_at hr hk2
      have hact : ∀ e ∈ (lat l k).l, e.ok := ho _ (lat_mem hk2)
      have hop := opk hs (now + (lat l k).gap)
      have hk120 : (k : Int) ≤ 120 := by omega
      refine J.region ?_
      refine WL.yes (by rfl) (Ex.q (q_move (by rfl)) (by rfl) ?_)
      refine WL.yes (by rfl) (Ex.q (q_move (by rfl)) (by rfl) ?_)
      refine WL.yes (by rfl) (Ex.q (q_move (by rfl)) (by rfl) ?_)
      first | (refine WL.yes (by rfl) (Ex.q (q_indexAddr_ros (by rfl) (by rfl) (by intro _; rfl) ?_ ?_) (by rfl) ?_); (· (omega)); (· (omega))) | (refine WL.yes (by rfl) (Ex.q (q_indexAddr_sl (by rfl) (by rfl) ?_ ?_) (by rfl) ?_); (· (omega)); (· (omega))) | (refine WL.yes (by rfl) (Ex.q (q_indexAddr_arr (by rfl) (by rfl) ?_ ?_) (by rfl) ?_); (· (omega)); (· (omega)))
      first | (refine WL.yes (by rfl) (Ex.q (q_fieldAddr (by rfl)) (by rfl) ?_)) | (refine WL.yes (by rfl) (Ex.q (q_fieldAddr_rop (by rfl) (by rfl)) (by rfl) ?_)) | (refine WL.yes (by rfl) (Ex.q (q_fieldAddr_pel (by rfl)) (by rfl) ?_))
      first | (refine WL.yes (by rfl) (Ex.h (h_load (by rfl) (by rfl) (by rfl)) (by rfl) ?_)) | (refine WL.yes (by rfl) (Ex.q (q_load (by rfl) (by rfl) (by rfl)) (by rfl) ?_)) | (refine WL.yes (by rfl) (Ex.q (q_load_rop (by rfl) (by rfl)) (by rfl) ?_)) | (refine WL.yes (by rfl) (Ex.h (h_load_pel (by rfl) (by rfl) ?_ (by rfl)) (by rfl) ?_); (· (omega))) | (refine WL.yes (by rfl) (Ex.q (q_load_pel (by rfl) (by rfl) ?_ (by rfl)) (by rfl) ?_); (· (omega)))
      refine WL.set 36 (iV (lat l k).gap) (by rfl) (by first | rfl | rw [Int.toNat_natCast] | rw [Nat.zero_add, Int.toNat_natCast]) ?_
      refine WL.yes (by rfl) (Ex.q (q_int (by rfl) (by rfl) (by rfl)) (by rfl) ?_)
      refine WL.set 37 (iV (now + (lat l k).gap)) (by rfl) (congrArg iV (w64 (by omega) (by omega)).symm) ?_
      refine WL.yes (by rfl) (Ex.q (q_assign (by rfl)) (by rfl) ?_)
      refine WL.nil ?_
      (repeat refine J.seq ?_)
      refine J.region ?_
      refine WL.yes (by rfl) (Ex.q (q_assign (by rfl)) (by rfl) ?_)
      refine WL.nil ?_
      (repeat refine J.seq ?_)
      refine J.region ?_
      refine WL.yes (by rfl) (Ex.q (q_move (by rfl)) (by rfl) ?_)
      refine WL.yes (by rfl) (Ex.q (q_move (by rfl)) (by rfl) ?_)
      first | (refine WL.yes (by rfl) (Ex.q (q_indexAddr_ros (by rfl) (by rfl) (by intro _; rfl) ?_ ?_) (by rfl) ?_); (· (omega)); (· (omega))) | (refine WL.yes (by rfl) (Ex.q (q_indexAddr_sl (by rfl) (by rfl) ?_ ?_) (by rfl) ?_); (· (omega)); (· (omega))) | (refine WL.yes (by rfl) (Ex.q (q_indexAddr_arr (by rfl) (by rfl) ?_ ?_) (by rfl) ?_); (· (omega)); (· (omega)))
      first | (refine WL.yes (by rfl) (Ex.q (q_fieldAddr (by rfl)) (by rfl) ?_)) | (refine WL.yes (by rfl) (Ex.q (q_fieldAddr_rop (by rfl) (by rfl)) (by rfl) ?_)) | (refine WL.yes (by rfl) (Ex.q (q_fieldAddr_pel (by rfl)) (by rfl) ?_))
      first | (refine WL.yes (by rfl) (Ex.h (h_load (by rfl) (by rfl) (by rfl)) (by rfl) ?_)) | (refine WL.yes (by rfl) (Ex.q (q_load (by rfl) (by rfl) (by rfl)) (by rfl) ?_)) | (refine WL.yes (by rfl) (Ex.q (q_load_rop (by rfl) (by rfl)) (by rfl) ?_)) | (refine WL.yes (by rfl) (Ex.h (h_load_pel (by rfl) (by rfl) ?_ (by rfl)) (by rfl) ?_); (· (omega))) | (refine WL.yes (by rfl) (Ex.q (q_load_pel (by rfl) (by rfl) ?_ (by rfl)) (by rfl) ?_); (· (omega)))
      refine WL.set 42 (iV (lat l k).k) (by rfl) (by first | rfl | rw [Int.toNat_natCast] | rw [Nat.zero_add, Int.toNat_natCast]) ?_
      refine WL.nil ?_
      (repeat refine J.seq ?_)
      refine J.cutP (fun x : FS × Nat × Nat × Option Nat × Nat × Option Nat × Nat × Option Nat × Nat => FI x.1 (k + 1)) (fun x => [(7, .bool true)]) (fun x => [(1060, .box fb 103 (fV mh x.2.1 mf (wayV x.2.2.1 x.1.busy))), (1051, tbl mh x.1.H), (1052, tbl x.2.1 x.1.W), (1053, mpc mf prE iV x.1.F), (1054, wayC x.2.2.1 x.1.busy x.1.wo), (3060, .box b22 62 (rfV x.2.2.2.1 x.2.2.2.2.1 x.2.2.2.2.2.1 x.2.2.2.2.2.2.1 x.2.2.2.2.2.2.2.1 x.2.2.2.2.2.2.2.2 x.1)), (3051, lvec x.2.2.2.1 37 51 x.2.2.2.2.1 enE x.1.H), (3052, lvec x.2.2.2.2.2.1 37 51 x.2.2.2.2.2.2.1 enE x.1.W), (3053, lvec x.2.2.2.2.2.2.2.1 108 35 x.2.2.2.2.2.2.2.2 waE x.1.F)]) [(0, _), (3, _), (4, _), (5, _), (6, _)] [] ⟨same rfl, same rfl, same rfl, same rfl, same rfl, trivial⟩ .nil ?_ ?_
      · skip
        (repeat refine J.seq ?_)
        refine J.block ?_
        (repeat refine J.seq ?_)
        refine J.region ?_
        first | (refine WL.yes (by rfl) (Ex.q (q_int (by rfl) (by rfl) (by rfl)) (by rfl) ?_)) | (refine WL.yes (by rfl) (Ex.q (q_eqb (by rfl) (by rfl)) (by rfl) ?_)) | (refine WL.yes (by rfl) (Ex.q (q_eqp rfl rfl (by rfl) (by rfl) ?_) (by rfl) ?_); (· (rfl))) | (refine WL.yes (by rfl) (Ex.q (q_eqs (by rfl) (by rfl)) (by rfl) ?_))
        refine WL.yes (by rfl) (Ex.q (q_assign (by rfl)) (by rfl) ?_)
        refine WL.nil ?_
        (repeat refine J.seq ?_)
        refine J.cond (by rfl) (fun c43 => ?_) (fun c43 => ?_)
        · skip
          (first | have e43 := of_decide_eq_true c43 | have e43 := of_decide_eq_false c43 | have e43 := ndec_t c43 | have e43 := ndec_f c43 | skip)
          (repeat refine J.seq ?_)
          refine J.region ?_
          refine WL.yes (by rfl) (Ex.q (q_move (by rfl)) (by rfl) ?_)
          refine WL.yes (by rfl) (Ex.buildSlice (parts := []) (us := []) (by rfl) (by rfl) rfl (by rfl) (by rfl) ?_)
          intro b46
          refine WL.yes (by rfl) (Ex.q (q_move (by rfl)) (by rfl) ?_)
          refine WL.yes (by rfl) (Ex.q (q_move (by rfl)) (by rfl) ?_)
          first | (refine WL.yes (by rfl) (Ex.q (q_indexAddr_ros (by rfl) (by rfl) (by intro _; rfl) ?_ ?_) (by rfl) ?_); (· (omega)); (· (omega))) | (refine WL.yes (by rfl) (Ex.q (q_indexAddr_sl (by rfl) (by rfl) ?_ ?_) (by rfl) ?_); (· (omega)); (· (omega))) | (refine WL.yes (by rfl) (Ex.q (q_indexAddr_arr (by rfl) (by rfl) ?_ ?_) (by rfl) ?_); (· (omega)); (· (omega)))
          first | (refine WL.yes (by rfl) (Ex.q (q_fieldAddr (by rfl)) (by rfl) ?_)) | (refine WL.yes (by rfl) (Ex.q (q_fieldAddr_rop (by rfl) (by rfl)) (by rfl) ?_)) | (refine WL.yes (by rfl) (Ex.q (q_fieldAddr_pel (by rfl)) (by rfl) ?_))
          first | (refine WL.yes (by rfl) (Ex.h (h_load (by rfl) (by rfl) (by rfl)) (by rfl) ?_)) | (refine WL.yes (by rfl) (Ex.q (q_load (by rfl) (by rfl) (by rfl)) (by rfl) ?_)) | (refine WL.yes (by rfl) (Ex.q (q_load_rop (by rfl) (by rfl)) (by rfl) ?_)) | (refine WL.yes (by rfl) (Ex.h (h_load_pel (by rfl) (by rfl) ?_ (by rfl)) (by rfl) ?_); (· (omega))) | (refine WL.yes (by rfl) (Ex.q (q_load_pel (by rfl) (by rfl) ?_ (by rfl)) (by rfl) ?_); (· (omega)))
          refine WL.set 51 (lros (lat l k).la (lat l k).lc enE (lat l k).l) (by rfl) (by first | rfl | rw [Int.toNat_natCast] | rw [Nat.zero_add, Int.toNat_natCast]) ?_
          refine WL.yes (by rfl) (Ex.append0 enE (l' := (lat l k).l) (by rfl) (by rfl) (by rfl) (by rfl) (.ros rfl (fun _ => rfl) (fun _ _ => rfl)) ?_ ?_); (· (omega))
          intro a52 cap52
          refine WL.yes (by rfl) (Ex.callz _ (FO fb mh mw mf wp s) [1060, 1051, 1052, 1053, 1054] (fWant_spec fb mh mw mf wp (l := (lat l k).l) (s := s) hact (by have := want_len hg.2.2; omega) (by omega)) (by rfl) (by rfl) (.cons (.same _) (.cons (.sla (by rfl)) .nil)) (Got.get (.cons rfl (.cons rfl (.cons rfl (.cons rfl (.cons rfl .nil)))))) plainFO ?_)
          rintro _ _ ⟨mwq, rfl, rfl⟩
          refine WL.nil ?_
          (repeat refine J.seq ?_)
          refine J.region ?_
          refine WL.yes (by rfl) (Ex.q (q_move (by rfl)) (by rfl) ?_)
          refine WL.yes (by rfl) (Ex.q (q_move (by rfl)) (by rfl) ?_)
          refine WL.yes (by rfl) (Ex.q (q_move (by rfl)) (by rfl) ?_)
          first | (refine WL.yes (by rfl) (Ex.q (q_indexAddr_ros (by rfl) (by rfl) (by intro _; rfl) ?_ ?_) (by rfl) ?_); (· (omega)); (· (omega))) | (refine WL.yes (by rfl) (Ex.q (q_indexAddr_sl (by rfl) (by rfl) ?_ ?_) (by rfl) ?_); (· (omega)); (· (omega))) | (refine WL.yes (by rfl) (Ex.q (q_indexAddr_arr (by rfl) (by rfl) ?_ ?_) (by rfl) ?_); (· (omega)); (· (omega)))
          first | (refine WL.yes (by rfl) (Ex.q (q_fieldAddr (by rfl)) (by rfl) ?_)) | (refine WL.yes (by rfl) (Ex.q (q_fieldAddr_rop (by rfl) (by rfl)) (by rfl) ?_)) | (refine WL.yes (by rfl) (Ex.q (q_fieldAddr_pel (by rfl)) (by rfl) ?_))
          first | (refine WL.yes (by rfl) (Ex.h (h_load (by rfl) (by rfl) (by rfl)) (by rfl) ?_)) | (refine WL.yes (by rfl) (Ex.q (q_load (by rfl) (by rfl) (by rfl)) (by rfl) ?_)) | (refine WL.yes (by rfl) (Ex.q (q_load_rop (by rfl) (by rfl)) (by rfl) ?_)) | (refine WL.yes (by rfl) (Ex.h (h_load_pel (by rfl) (by rfl) ?_ (by rfl)) (by rfl) ?_); (· (omega))) | (refine WL.yes (by rfl) (Ex.q (q_load_pel (by rfl) (by rfl) ?_ (by rfl)) (by rfl) ?_); (· (omega)))
          refine WL.set 59 (lros (lat l k).la (lat l k).lc enE (lat l k).l) (by rfl) (by first | rfl | rw [Int.toNat_natCast] | rw [Nat.zero_add, Int.toNat_natCast]) ?_
          refine WL.yes (by rfl) (Ex.callL (rfWant_spec b22 ha hc wa wc fa fc (s := s) (l := (lat l k).l) hact (by omega)) (by rfl) (by rfl) (.cons rfl (.cons rfl (.cons rfl (.cons rfl .nil)))) ?_)
          rintro _ _ ⟨waq, wcq, rfl, rfl⟩
          refine WL.nil ?_
          first | (refine Kcut.mkP ((s.want (lat l k).l, mwq, wp, ha, hc, waq, wcq, fa, fc)) ?_ ⟨(by first | exact same rfl | exact ⟨_, rfl, by simp, fun _ => trivial⟩), trivial⟩ ⟨same rfl, same rfl, same rfl, same rfl, same rfl, trivial⟩ (.cons (s := 1060) rfl (CLe.refl _ _) rfl (.cons (s := 1051) rfl (CLe.refl _ _) rfl (.cons (s := 1052) rfl (CLe.refl _ _) rfl (.cons (s := 1053) rfl (CLe.refl _ _) rfl (.cons (s := 1054) rfl (CLe.refl _ _) rfl (.cons (s := 3060) rfl (CLe.refl _ _) rfl (.cons (s := 3051) rfl (CLe.refl _ _) rfl (.cons (s := 3052) rfl (CLe.refl _ _) rfl (.cons (s := 3053) rfl (CLe.refl _ _) rfl .nil))))))))); (· (exact (hs.want hact hg.2.2).mono (by omega)))) | (refine Kcut.mkP (((s.next (now + (lat l k).gap)).2, mw, wpq, ha, hc, wa, wc, fa, fc)) ?_ ⟨(by first | exact same rfl | exact ⟨_, rfl, by simp, fun _ => trivial⟩), trivial⟩ ⟨same rfl, same rfl, same rfl, same rfl, same rfl, trivial⟩ (.cons (s := 1060) rfl (CLe.refl _ _) rfl (.cons (s := 1051) rfl (CLe.refl _ _) rfl (.cons (s := 1052) rfl (CLe.refl _ _) rfl (.cons (s := 1053) rfl (CLe.refl _ _) rfl (.cons (s := 1054) rfl (CLe.refl _ _) rfl (.cons (s := 3060) rfl (CLe.refl _ _) rfl (.cons (s := 3051) rfl (CLe.refl _ _) rfl (.cons (s := 3052) rfl (CLe.refl _ _) rfl (.cons (s := 3053) rfl (CLe.refl _ _) rfl .nil))))))))); (· (exact (hs.next _).mono (by omega)))) | (refine Kcut.mkP (((s.reply (now + (lat l k).gap) (lat l k).ok).2, mw, wp, haq, hcq, wa, wc, faq, fcq)) ?_ ⟨(by first | exact same rfl | exact ⟨_, rfl, by simp, fun _ => trivial⟩), trivial⟩ ⟨same rfl, same rfl, same rfl, same rfl, same rfl, trivial⟩ (.cons (s := 1060) rfl (CLe.refl _ _) rfl (.cons (s := 1051) rfl (CLe.refl _ _) rfl (.cons (s := 1052) rfl (CLe.refl _ _) rfl (.cons (s := 1053) rfl (CLe.refl _ _) rfl (.cons (s := 1054) rfl (CLe.refl _ _) rfl (.cons (s := 3060) rfl (CLe.refl _ _) rfl (.cons (s := 3051) rfl (CLe.refl _ _) rfl (.cons (s := 3052) rfl (CLe.refl _ _) rfl (.cons (s := 3053) rfl (CLe.refl _ _) rfl .nil))))))))); (· (exact hs.reply (by omega) _ _))) | (refine Kcut.mkP ((s, mw, wp, ha, hc, wa, wc, fa, fc)) ?_ ⟨(by first | exact same rfl | exact ⟨_, rfl, by simp, fun _ => trivial⟩), trivial⟩ ⟨same rfl, same rfl, same rfl, same rfl, same rfl, trivial⟩ (.cons (s := 1060) rfl (CLe.refl _ _) rfl (.cons (s := 1051) rfl (CLe.refl _ _) rfl (.cons (s := 1052) rfl (CLe.refl _ _) rfl (.cons (s := 1053) rfl (CLe.refl _ _) rfl (.cons (s := 1054) rfl (CLe.refl _ _) rfl (.cons (s := 3060) rfl (CLe.refl _ _) rfl (.cons (s := 3051) rfl (CLe.refl _ _) rfl (.cons (s := 3052) rfl (CLe.refl _ _) rfl (.cons (s := 3053) rfl (CLe.refl _ _) rfl .nil))))))))); (· (exact hs.mono (by omega))))
        · skip
          (first | have e43 := of_decide_eq_true c43 | have e43 := of_decide_eq_false c43 | have e43 := ndec_t c43 | have e43 := ndec_f c43 | skip)
          (repeat refine J.seq ?_)
          refine J.region ?_
          first | (refine WL.yes (by rfl) (Ex.q (q_int (by rfl) (by rfl) (by rfl)) (by rfl) ?_)) | (refine WL.yes (by rfl) (Ex.q (q_eqb (by rfl) (by rfl)) (by rfl) ?_)) | (refine WL.yes (by rfl) (Ex.q (q_eqp rfl rfl (by rfl) (by rfl) ?_) (by rfl) ?_); (· (rfl))) | (refine WL.yes (by rfl) (Ex.q (q_eqs (by rfl) (by rfl)) (by rfl) ?_))
          refine WL.yes (by rfl) (Ex.q (q_assign (by rfl)) (by rfl) ?_)
          refine WL.nil ?_
          (repeat refine J.seq ?_)
          refine J.cond (by rfl) (fun c61 => ?_) (fun c61 => ?_)
          · skip
            (first | have e61 := of_decide_eq_true c61 | have e61 := of_decide_eq_false c61 | have e61 := ndec_t c61 | have e61 := ndec_f c61 | skip)
            (repeat refine J.seq ?_)
            refine J.region ?_
            refine WL.yes (by rfl) (Ex.q (q_move (by rfl)) (by rfl) ?_)
            refine WL.yes (by rfl) (Ex.q (q_move (by rfl)) (by rfl) ?_)
            refine WL.yes (by rfl) (Ex.callL (fNext_spec fb mh mw mf wp (s := s) (now := now + (lat l k).gap) hs.toFOk) (by rfl) (by rfl) (.cons rfl (.cons rfl (.cons rfl (.cons rfl (.cons rfl .nil))))) ?_)
            rintro _ _ ⟨wpq, rfl, rfl⟩
            refine WL.yes (by rfl) (Ex.q (q_move (by rfl)) (by rfl) ?_)
            first | (refine WL.yes (by rfl) (Ex.q (q_extract2 (by rfl) (by rfl)) (by rfl) ?_)) | (refine WL.yes (by rfl) (Ex.q (q_extract3 (by rfl) (by rfl)) (by rfl) ?_))
            first | (refine WL.yes (by rfl) (Ex.q (q_extract2 (by rfl) (by rfl)) (by rfl) ?_)) | (refine WL.yes (by rfl) (Ex.q (q_extract3 (by rfl) (by rfl)) (by rfl) ?_))
            refine WL.yes (by rfl) (Ex.alloc (by rfl) ?_)
            intro b8
            first | (refine WL.yes (by rfl) (Ex.store (by rfl) (by rfl) (by rfl) (by rfl) (by rfl) (by rfl) ?_)) | (refine WL.yes (by rfl) (Ex.store_pel (by rfl) (by rfl) (by rfl) (by rfl) (by rfl) ?_ (by rfl) ?_); (· (omega)))
            refine WL.yes (by rfl) (Ex.q (q_assign (by rfl)) (by rfl) ?_)
            refine WL.nil ?_
            (repeat refine J.seq ?_)
            refine J.region ?_
            refine WL.yes (by rfl) (Ex.q (q_move (by rfl)) (by rfl) ?_)
            refine WL.yes (by rfl) (Ex.q (q_move (by rfl)) (by rfl) ?_)
            refine WL.yes (by rfl) (Ex.callL (rfNext_spec b22 ha hc wa wc fa fc (s := s) (now := now + (lat l k).gap) hs.toFOk) (by rfl) (by rfl) (.cons rfl (.cons rfl (.cons rfl (.cons rfl .nil)))) ?_)
            rintro _ _ ⟨rfl, rfl⟩
            refine WL.yes (by rfl) (Ex.q (q_move (by rfl)) (by rfl) ?_)
            first | (refine WL.yes (by rfl) (Ex.q (q_extract2 (by rfl) (by rfl)) (by rfl) ?_)) | (refine WL.yes (by rfl) (Ex.q (q_extract3 (by rfl) (by rfl)) (by rfl) ?_))
            first | (refine WL.yes (by rfl) (Ex.q (q_extract2 (by rfl) (by rfl)) (by rfl) ?_)) | (refine WL.yes (by rfl) (Ex.q (q_extract3 (by rfl) (by rfl)) (by rfl) ?_))
            refine WL.yes (by rfl) (Ex.alloc (by rfl) ?_)
            intro b10
            first | (refine WL.yes (by rfl) (Ex.store (by rfl) (by rfl) (by rfl) (by rfl) (by rfl) (by rfl) ?_)) | (refine WL.yes (by rfl) (Ex.store_pel (by rfl) (by rfl) (by rfl) (by rfl) (by rfl) ?_ (by rfl) ?_); (· (omega)))
            refine WL.yes (by rfl) (Ex.q (q_assign (by rfl)) (by rfl) ?_)
            refine WL.nil ?_
            (repeat refine J.seq ?_)
            refine J.region ?_
            first | (refine WL.yes (by rfl) (Ex.h (h_load (by rfl) (by rfl) (by rfl)) (by rfl) ?_)) | (refine WL.yes (by rfl) (Ex.q (q_load (by rfl) (by rfl) (by rfl)) (by rfl) ?_)) | (refine WL.yes (by rfl) (Ex.q (q_load_rop (by rfl) (by rfl)) (by rfl) ?_)) | (refine WL.yes (by rfl) (Ex.h (h_load_pel (by rfl) (by rfl) ?_ (by rfl)) (by rfl) ?_); (· (omega))) | (refine WL.yes (by rfl) (Ex.q (q_load_pel (by rfl) (by rfl) ?_ (by rfl)) (by rfl) ?_); (· (omega)))
            first | (refine WL.yes (by rfl) (Ex.h (h_load (by rfl) (by rfl) (by rfl)) (by rfl) ?_)) | (refine WL.yes (by rfl) (Ex.q (q_load (by rfl) (by rfl) (by rfl)) (by rfl) ?_)) | (refine WL.yes (by rfl) (Ex.q (q_load_rop (by rfl) (by rfl)) (by rfl) ?_)) | (refine WL.yes (by rfl) (Ex.h (h_load_pel (by rfl) (by rfl) ?_ (by rfl)) (by rfl) ?_); (· (omega))) | (refine WL.yes (by rfl) (Ex.q (q_load_pel (by rfl) (by rfl) ?_ (by rfl)) (by rfl) ?_); (· (omega)))
            first | (refine WL.yes (by rfl) (Ex.q (q_int (by rfl) (by rfl) (by rfl)) (by rfl) ?_)) | (refine WL.yes (by rfl) (Ex.q (q_eqb (by rfl) (by rfl)) (by rfl) ?_)) | (refine WL.yes (by rfl) (Ex.q (q_eqp rfl rfl (by rfl) (by rfl) ?_) (by rfl) ?_); (· (rfl))) | (refine WL.yes (by rfl) (Ex.q (q_eqs (by rfl) (by rfl)) (by rfl) ?_))
            refine WL.yes (by rfl) (Ex.q (q_move (by rfl)) (by rfl) ?_)
            refine WL.set 78 (.bool true) (by rfl) (congrArg V.bool ((eqOp_self hop).symm : true = _)) ?_
            refine WL.yes (by rfl) (Ex.q (q_move (by rfl)) (by rfl) ?_)
            refine WL.yes (by rfl) (Ex.q (q_move (by rfl)) (by rfl) ?_)
            first | (refine WL.yes (by rfl) (Ex.q (q_int (by rfl) (by rfl) (by rfl)) (by rfl) ?_)) | (refine WL.yes (by rfl) (Ex.q (q_eqb (by rfl) (by rfl)) (by rfl) ?_)) | (refine WL.yes (by rfl) (Ex.q (q_eqp rfl rfl (by rfl) (by rfl) ?_) (by rfl) ?_); (· (rfl))) | (refine WL.yes (by rfl) (Ex.q (q_eqs (by rfl) (by rfl)) (by rfl) ?_))
            refine WL.set 81 (.bool true) (by rfl) (congrArg V.bool ((by simp) : true = _)) ?_
            refine WL.yes (by rfl) (Ex.q (q_pick_t (by rfl) (by rfl)) (by rfl) ?_)
            refine WL.yes (by rfl) (Ex.q (q_assign (by rfl)) (by rfl) ?_)
            refine WL.nil ?_
            first | (refine Kcut.mkP ((s.want (lat l k).l, mwq, wp, ha, hc, waq, wcq, fa, fc)) ?_ ⟨(by first | exact same rfl | exact ⟨_, rfl, by simp, fun _ => trivial⟩), trivial⟩ ⟨same rfl, same rfl, same rfl, same rfl, same rfl, trivial⟩ (.cons (s := 1060) rfl (CLe.refl _ _) rfl (.cons (s := 1051) rfl (CLe.refl _ _) rfl (.cons (s := 1052) rfl (CLe.refl _ _) rfl (.cons (s := 1053) rfl (CLe.refl _ _) rfl (.cons (s := 1054) rfl (CLe.refl _ _) rfl (.cons (s := 3060) rfl (CLe.refl _ _) rfl (.cons (s := 3051) rfl (CLe.refl _ _) rfl (.cons (s := 3052) rfl (CLe.refl _ _) rfl (.cons (s := 3053) rfl (CLe.refl _ _) rfl .nil))))))))); (· (exact (hs.want hact hg.2.2).mono (by omega)))) | (refine Kcut.mkP (((s.next (now + (lat l k).gap)).2, mw, wpq, ha, hc, wa, wc, fa, fc)) ?_ ⟨(by first | exact same rfl | exact ⟨_, rfl, by simp, fun _ => trivial⟩), trivial⟩ ⟨same rfl, same rfl, same rfl, same rfl, same rfl, trivial⟩ (.cons (s := 1060) rfl (CLe.refl _ _) rfl (.cons (s := 1051) rfl (CLe.refl _ _) rfl (.cons (s := 1052) rfl (CLe.refl _ _) rfl (.cons (s := 1053) rfl (CLe.refl _ _) rfl (.cons (s := 1054) rfl (CLe.refl _ _) rfl (.cons (s := 3060) rfl (CLe.refl _ _) rfl (.cons (s := 3051) rfl (CLe.refl _ _) rfl (.cons (s := 3052) rfl (CLe.refl _ _) rfl (.cons (s := 3053) rfl (CLe.refl _ _) rfl .nil))))))))); (· (exact (hs.next _).mono (by omega)))) | (refine Kcut.mkP (((s.reply (now + (lat l k).gap) (lat l k).ok).2, mw, wp, haq, hcq, wa, wc, faq, fcq)) ?_ ⟨(by first | exact same rfl | exact ⟨_, rfl, by simp, fun _ => trivial⟩), trivial⟩ ⟨same rfl, same rfl, same rfl, same rfl, same rfl, trivial⟩ (.cons (s := 1060) rfl (CLe.refl _ _) rfl (.cons (s := 1051) rfl (CLe.refl _ _) rfl (.cons (s := 1052) rfl (CLe.refl _ _) rfl (.cons (s := 1053) rfl (CLe.refl _ _) rfl (.cons (s := 1054) rfl (CLe.refl _ _) rfl (.cons (s := 3060) rfl (CLe.refl _ _) rfl (.cons (s := 3051) rfl (CLe.refl _ _) rfl (.cons (s := 3052) rfl (CLe.refl _ _) rfl (.cons (s := 3053) rfl (CLe.refl _ _) rfl .nil))))))))); (· (exact hs.reply (by omega) _ _))) | (refine Kcut.mkP ((s, mw, wp, ha, hc, wa, wc, fa, fc)) ?_ ⟨(by first | exact same rfl | exact ⟨_, rfl, by simp, fun _ => trivial⟩), trivial⟩ ⟨same rfl, same rfl, same rfl, same rfl, same rfl, trivial⟩ (.cons (s := 1060) rfl (CLe.refl _ _) rfl (.cons (s := 1051) rfl (CLe.refl _ _) rfl (.cons (s := 1052) rfl (CLe.refl _ _) rfl (.cons (s := 1053) rfl (CLe.refl _ _) rfl (.cons (s := 1054) rfl (CLe.refl _ _) rfl (.cons (s := 3060) rfl (CLe.refl _ _) rfl (.cons (s := 3051) rfl (CLe.refl _ _) rfl (.cons (s := 3052) rfl (CLe.refl _ _) rfl (.cons (s := 3053) rfl (CLe.refl _ _) rfl .nil))))))))); (· (exact hs.mono (by omega))))
          · skip
            (first | have e61 := of_decide_eq_true c61 | have e61 := of_decide_eq_false c61 | have e61 := ndec_t c61 | have e61 := ndec_f c61 | skip)
            (repeat refine J.seq ?_)
            refine J.region ?_
            first | (refine WL.yes (by rfl) (Ex.q (q_int (by rfl) (by rfl) (by rfl)) (by rfl) ?_)) | (refine WL.yes (by rfl) (Ex.q (q_eqb (by rfl) (by rfl)) (by rfl) ?_)) | (refine WL.yes (by rfl) (Ex.q (q_eqp rfl rfl (by rfl) (by rfl) ?_) (by rfl) ?_); (· (rfl))) | (refine WL.yes (by rfl) (Ex.q (q_eqs (by rfl) (by rfl)) (by rfl) ?_))
            refine WL.yes (by rfl) (Ex.q (q_assign (by rfl)) (by rfl) ?_)
            refine WL.nil ?_
            (repeat refine J.seq ?_)
            refine J.cond (by rfl) (fun c83 => ?_) (fun c83 => ?_)
            · skip
              (first | have e83 := of_decide_eq_true c83 | have e83 := of_decide_eq_false c83 | have e83 := ndec_t c83 | have e83 := ndec_f c83 | skip)
              (repeat refine J.seq ?_)
              refine J.draw [] 9999 [(0, true), (1, true), (2, true), (3, true), (4, true), (5, true), (6, true), (9, true), (10, true), (11, true), (12, true), (13, true), (14, true), (15, true), (7, false), (8, false), (16, false), (17, true), (18, true)] (by kernel_rfl) rfl (by kernel_rfl) ?_
              intro F1 hF1
              refine WS.take rfl (by rfl) (by rfl) (q_move (by rfl)) ?_
              refine WS.take rfl (by rfl) (by rfl) (q_move (by rfl)) ?_
              refine WS.take rfl (by rfl) (by rfl) (q_move (by rfl)) ?_
              refine WS.take rfl (by rfl) (by rfl) (q_move (by rfl)) ?_
              first | (refine WS.take rfl (by rfl) (by rfl) (q_indexAddr_ros (by rfl) (by rfl) (by intro _; rfl) ?_ ?_) ?_; (· (omega)); (· (omega))) | (refine WS.take rfl (by rfl) (by rfl) (q_indexAddr_sl (by rfl) (by rfl) ?_ ?_) ?_; (· (omega)); (· (omega))) | (refine WS.take rfl (by rfl) (by rfl) (q_indexAddr_arr (by rfl) (by rfl) ?_ ?_) ?_; (· (omega)); (· (omega)))
              first | (refine WS.take rfl (by rfl) (by rfl) (q_fieldAddr (by rfl)) ?_) | (refine WS.take rfl (by rfl) (by rfl) (q_fieldAddr_rop (by rfl) (by rfl)) ?_) | (refine WS.take rfl (by rfl) (by rfl) (q_fieldAddr_pel (by rfl)) ?_)
              first | (refine WS.take rfl (by rfl) (by rfl) (q_load (by rfl) (by rfl) (by rfl)) ?_) | (refine WS.take rfl (by rfl) (by rfl) (q_load_rop (by rfl) (by rfl)) ?_) | (refine WS.take rfl (by rfl) (by rfl) (q_load_pel (by rfl) (by rfl) ?_ (by rfl)) ?_; (· (omega)))
              refine WS.set 91 (.bool (lat l k).ok) (by rfl) (by first | rfl | rw [Int.toNat_natCast] | rw [Nat.zero_add, Int.toNat_natCast]) ?_
              refine WS.take rfl (by rfl) (by rfl) (q_move (by rfl)) ?_
              refine WS.take rfl (by rfl) (by rfl) (q_move (by rfl)) ?_
              refine WS.take rfl (by rfl) (by rfl) (q_move (by rfl)) ?_
              refine WS.take rfl (by rfl) (by rfl) (q_move (by rfl)) ?_
              first | (refine WS.take rfl (by rfl) (by rfl) (q_indexAddr_ros (by rfl) (by rfl) (by intro _; rfl) ?_ ?_) ?_; (· (omega)); (· (omega))) | (refine WS.take rfl (by rfl) (by rfl) (q_indexAddr_sl (by rfl) (by rfl) ?_ ?_) ?_; (· (omega)); (· (omega))) | (refine WS.take rfl (by rfl) (by rfl) (q_indexAddr_arr (by rfl) (by rfl) ?_ ?_) ?_; (· (omega)); (· (omega)))
              first | (refine WS.take rfl (by rfl) (by rfl) (q_fieldAddr (by rfl)) ?_) | (refine WS.take rfl (by rfl) (by rfl) (q_fieldAddr_rop (by rfl) (by rfl)) ?_) | (refine WS.take rfl (by rfl) (by rfl) (q_fieldAddr_pel (by rfl)) ?_)
              first | (refine WS.take rfl (by rfl) (by rfl) (q_load (by rfl) (by rfl) (by rfl)) ?_) | (refine WS.take rfl (by rfl) (by rfl) (q_load_rop (by rfl) (by rfl)) ?_) | (refine WS.take rfl (by rfl) (by rfl) (q_load_pel (by rfl) (by rfl) ?_ (by rfl)) ?_; (· (omega)))
              refine WS.set 100 (.bool (lat l k).ok) (by rfl) (by first | rfl | rw [Int.toNat_natCast] | rw [Nat.zero_add, Int.toNat_natCast]) ?_
              refine WS.ex rfl (by rfl) (Ex.callL (fReply_spec fb mh mw mf wp (s := s) (now := now + (lat l k).gap) (ok := (lat l k).ok) hs.toFOk (by omega)) (by rfl) (by rfl) (.cons rfl (.cons rfl (.cons rfl (.cons rfl (.cons rfl .nil))))) ?_)
              rintro _ _ ⟨rfl, rfl⟩
              refine WS.ex rfl (by rfl) (Ex.callq (fnum_spec _) (by rfl) (by rfl) rfl (fun _ h => h) ?_)
              refine WS.ex rfl (by rfl) (Ex.callL (rfReply_spec b22 ha hc wa wc fa fc (s := s) (now := now + (lat l k).gap) (ok := (lat l k).ok) hs.toFOk (by omega)) (by rfl) (by rfl) (.cons rfl (.cons rfl (.cons rfl (.cons rfl .nil)))) ?_)
              rintro _ _ ⟨haq, hcq, faq, fcq, rfl, rfl⟩
              first | (refine WS.take rfl (by rfl) (by rfl) (q_int (by rfl) (by rfl) (by rfl)) ?_) | (refine WS.take rfl (by rfl) (by rfl) (q_eqb (by rfl) (by rfl)) ?_) | (refine WS.take rfl (by rfl) (by rfl) (q_eqp rfl rfl (by rfl) (by rfl) ?_) ?_; (· (rfl))) | (refine WS.take rfl (by rfl) (by rfl) (q_eqs (by rfl) (by rfl)) ?_)
              refine WS.set 102 (.bool true) (by rfl) (congrArg V.bool ((by simp) : true = _)) ?_
              refine WS.take rfl (by rfl) (by rfl) (q_assign (by rfl)) ?_
              refine WS.nil ?_
              first | (refine Kcut.mkP ((s.want (lat l k).l, mwq, wp, ha, hc, waq, wcq, fa, fc)) ?_ ⟨(by first | exact same rfl | exact ⟨_, rfl, by simp, fun _ => trivial⟩), trivial⟩ ⟨same rfl, same rfl, same rfl, same rfl, same rfl, trivial⟩ (.cons (s := 1060) rfl (CLe.refl _ _) rfl (.cons (s := 1051) rfl (CLe.refl _ _) rfl (.cons (s := 1052) rfl (CLe.refl _ _) rfl (.cons (s := 1053) rfl (CLe.refl _ _) rfl (.cons (s := 1054) rfl (CLe.refl _ _) rfl (.cons (s := 3060) rfl (CLe.refl _ _) rfl (.cons (s := 3051) rfl (CLe.refl _ _) rfl (.cons (s := 3052) rfl (CLe.refl _ _) rfl (.cons (s := 3053) rfl (CLe.refl _ _) rfl .nil))))))))); (· (exact (hs.want hact hg.2.2).mono (by omega)))) | (refine Kcut.mkP (((s.next (now + (lat l k).gap)).2, mw, wpq, ha, hc, wa, wc, fa, fc)) ?_ ⟨(by first | exact same rfl | exact ⟨_, rfl, by simp, fun _ => trivial⟩), trivial⟩ ⟨same rfl, same rfl, same rfl, same rfl, same rfl, trivial⟩ (.cons (s := 1060) rfl (CLe.refl _ _) rfl (.cons (s := 1051) rfl (CLe.refl _ _) rfl (.cons (s := 1052) rfl (CLe.refl _ _) rfl (.cons (s := 1053) rfl (CLe.refl _ _) rfl (.cons (s := 1054) rfl (CLe.refl _ _) rfl (.cons (s := 3060) rfl (CLe.refl _ _) rfl (.cons (s := 3051) rfl (CLe.refl _ _) rfl (.cons (s := 3052) rfl (CLe.refl _ _) rfl (.cons (s := 3053) rfl (CLe.refl _ _) rfl .nil))))))))); (· (exact (hs.next _).mono (by omega)))) | (refine Kcut.mkP (((s.reply (now + (lat l k).gap) (lat l k).ok).2, mw, wp, haq, hcq, wa, wc, faq, fcq)) ?_ ⟨(by first | exact same rfl | exact ⟨_, rfl, by simp, fun _ => trivial⟩), trivial⟩ ⟨same rfl, same rfl, same rfl, same rfl, same rfl, trivial⟩ (.cons (s := 1060) rfl (CLe.refl _ _) rfl (.cons (s := 1051) rfl (CLe.refl _ _) rfl (.cons (s := 1052) rfl (CLe.refl _ _) rfl (.cons (s := 1053) rfl (CLe.refl _ _) rfl (.cons (s := 1054) rfl (CLe.refl _ _) rfl (.cons (s := 3060) rfl (CLe.refl _ _) rfl (.cons (s := 3051) rfl (CLe.refl _ _) rfl (.cons (s := 3052) rfl (CLe.refl _ _) rfl (.cons (s := 3053) rfl (CLe.refl _ _) rfl .nil))))))))); (· (exact hs.reply (by omega) _ _))) | (refine Kcut.mkP ((s, mw, wp, ha, hc, wa, wc, fa, fc)) ?_ ⟨(by first | exact same rfl | exact ⟨_, rfl, by simp, fun _ => trivial⟩), trivial⟩ ⟨same rfl, same rfl, same rfl, same rfl, same rfl, trivial⟩ (.cons (s := 1060) rfl (CLe.refl _ _) rfl (.cons (s := 1051) rfl (CLe.refl _ _) rfl (.cons (s := 1052) rfl (CLe.refl _ _) rfl (.cons (s := 1053) rfl (CLe.refl _ _) rfl (.cons (s := 1054) rfl (CLe.refl _ _) rfl (.cons (s := 3060) rfl (CLe.refl _ _) rfl (.cons (s := 3051) rfl (CLe.refl _ _) rfl (.cons (s := 3052) rfl (CLe.refl _ _) rfl (.cons (s := 3053) rfl (CLe.refl _ _) rfl .nil))))))))); (· (exact hs.mono (by omega))))
            · skip
              (first | have e83 := of_decide_eq_true c83 | have e83 := of_decide_eq_false c83 | have e83 := ndec_t c83 | have e83 := ndec_f c83 | skip)
              (repeat refine J.seq ?_)
              refine J.skip ?_
              first | (refine Kcut.mkP ((s.want (lat l k).l, mwq, wp, ha, hc, waq, wcq, fa, fc)) ?_ ⟨(by first | exact same rfl | exact ⟨_, rfl, by simp, fun _ => trivial⟩), trivial⟩ ⟨same rfl, same rfl, same rfl, same rfl, same rfl, trivial⟩ (.cons (s := 1060) rfl (CLe.refl _ _) rfl (.cons (s := 1051) rfl (CLe.refl _ _) rfl (.cons (s := 1052) rfl (CLe.refl _ _) rfl (.cons (s := 1053) rfl (CLe.refl _ _) rfl (.cons (s := 1054) rfl (CLe.refl _ _) rfl (.cons (s := 3060) rfl (CLe.refl _ _) rfl (.cons (s := 3051) rfl (CLe.refl _ _) rfl (.cons (s := 3052) rfl (CLe.refl _ _) rfl (.cons (s := 3053) rfl (CLe.refl _ _) rfl .nil))))))))); (· (exact (hs.want hact hg.2.2).mono (by omega)))) | (refine Kcut.mkP (((s.next (now + (lat l k).gap)).2, mw, wpq, ha, hc, wa, wc, fa, fc)) ?_ ⟨(by first | exact same rfl | exact ⟨_, rfl, by simp, fun _ => trivial⟩), trivial⟩ ⟨same rfl, same rfl, same rfl, same rfl, same rfl, trivial⟩ (.cons (s := 1060) rfl (CLe.refl _ _) rfl (.cons (s := 1051) rfl (CLe.refl _ _) rfl (.cons (s := 1052) rfl (CLe.refl _ _) rfl (.cons (s := 1053) rfl (CLe.refl _ _) rfl (.cons (s := 1054) rfl (CLe.refl _ _) rfl (.cons (s := 3060) rfl (CLe.refl _ _) rfl (.cons (s := 3051) rfl (CLe.refl _ _) rfl (.cons (s := 3052) rfl (CLe.refl _ _) rfl (.cons (s := 3053) rfl (CLe.refl _ _) rfl .nil))))))))); (· (exact (hs.next _).mono (by omega)))) | (refine Kcut.mkP (((s.reply (now + (lat l k).gap) (lat l k).ok).2, mw, wp, haq, hcq, wa, wc, faq, fcq)) ?_ ⟨(by first | exact same rfl | exact ⟨_, rfl, by simp, fun _ => trivial⟩), trivial⟩ ⟨same rfl, same rfl, same rfl, same rfl, same rfl, trivial⟩ (.cons (s := 1060) rfl (CLe.refl _ _) rfl (.cons (s := 1051) rfl (CLe.refl _ _) rfl (.cons (s := 1052) rfl (CLe.refl _ _) rfl (.cons (s := 1053) rfl (CLe.refl _ _) rfl (.cons (s := 1054) rfl (CLe.refl _ _) rfl (.cons (s := 3060) rfl (CLe.refl _ _) rfl (.cons (s := 3051) rfl (CLe.refl _ _) rfl (.cons (s := 3052) rfl (CLe.refl _ _) rfl (.cons (s := 3053) rfl (CLe.refl _ _) rfl .nil))))))))); (· (exact hs.reply (by omega) _ _))) | (refine Kcut.mkP ((s, mw, wp, ha, hc, wa, wc, fa, fc)) ?_ ⟨(by first | exact same rfl | exact ⟨_, rfl, by simp, fun _ => trivial⟩), trivial⟩ ⟨same rfl, same rfl, same rfl, same rfl, same rfl, trivial⟩ (.cons (s := 1060) rfl (CLe.refl _ _) rfl (.cons (s := 1051) rfl (CLe.refl _ _) rfl (.cons (s := 1052) rfl (CLe.refl _ _) rfl (.cons (s := 1053) rfl (CLe.refl _ _) rfl (.cons (s := 1054) rfl (CLe.refl _ _) rfl (.cons (s := 3060) rfl (CLe.refl _ _) rfl (.cons (s := 3051) rfl (CLe.refl _ _) rfl (.cons (s := 3052) rfl (CLe.refl _ _) rfl (.cons (s := 3053) rfl (CLe.refl _ _) rfl .nil))))))))); (· (exact hs.mono (by omega))))
      rintro ⟨s2, mw2, wp2, ha2, hc2, wa2, wc2, fa2, fc2⟩ hcut
      (try dsimp only at hcut ⊢)
      have hlh2 := hcut.lh
      have hlw2 := hcut.lw
      (repeat refine J.seq ?_)
      refine J.region ?_
      refine WL.yes (by rfl) (Ex.q (q_move (by rfl)) (by rfl) ?_)
      refine WL.yes (by rfl) (Ex.callL (fAt_spec fb mh mw2 mf wp2 (s := s2) hcut.toFOk) (by rfl) (by rfl) (.cons rfl (.cons rfl (.cons rfl (.cons rfl (.cons rfl .nil))))) ?_)
      rintro _ _ ⟨rfl, rfl⟩
      refine WL.yes (by rfl) (Ex.q (q_move (by rfl)) (by rfl) ?_)
      first | (refine WL.yes (by rfl) (Ex.q (q_extract2 (by rfl) (by rfl)) (by rfl) ?_)) | (refine WL.yes (by rfl) (Ex.q (q_extract3 (by rfl) (by rfl)) (by rfl) ?_))
      first | (refine WL.yes (by rfl) (Ex.q (q_extract2 (by rfl) (by rfl)) (by rfl) ?_)) | (refine WL.yes (by rfl) (Ex.q (q_extract3 (by rfl) (by rfl)) (by rfl) ?_))
      refine WL.yes (by rfl) (Ex.q (q_assign (by rfl)) (by rfl) ?_)
      refine WL.yes (by rfl) (Ex.q (q_assign (by rfl)) (by rfl) ?_)
      refine WL.nil ?_
      (repeat refine J.seq ?_)
      refine J.region ?_
      refine WL.yes (by rfl) (Ex.q (q_move (by rfl)) (by rfl) ?_)
      refine WL.yes (by rfl) (Ex.callL (rfAt_spec b22 ha2 hc2 wa2 wc2 fa2 fc2 (s := s2) hcut.toFOk) (by rfl) (by rfl) (.cons rfl (.cons rfl (.cons rfl (.cons rfl .nil)))) ?_)
      rintro _ _ ⟨rfl, rfl⟩
      refine WL.yes (by rfl) (Ex.q (q_move (by rfl)) (by rfl) ?_)
      first | (refine WL.yes (by rfl) (Ex.q (q_extract2 (by rfl) (by rfl)) (by rfl) ?_)) | (refine WL.yes (by rfl) (Ex.q (q_extract3 (by rfl) (by rfl)) (by rfl) ?_))
      first | (refine WL.yes (by rfl) (Ex.q (q_extract2 (by rfl) (by rfl)) (by rfl) ?_)) | (refine WL.yes (by rfl) (Ex.q (q_extract3 (by rfl) (by rfl)) (by rfl) ?_))
      refine WL.yes (by rfl) (Ex.q (q_assign (by rfl)) (by rfl) ?_)
      refine WL.yes (by rfl) (Ex.q (q_assign (by rfl)) (by rfl) ?_)
      refine WL.nil ?_
      (repeat refine J.seq ?_)
      refine J.drawT [] 9999 (by kernel_rfl) (by kernel_rfl) ?_
      intro F2 hF2
      refine WT.take (i := 0) rfl (by rfl) (by rfl) (by kernel_rfl) (q_move (by rfl)) ?_
      refine WT.take (i := 1) rfl (by rfl) (by rfl) (by kernel_rfl) (q_not (by rfl)) ?_
      refine WT.take (i := 2) rfl (by rfl) (by rfl) (by kernel_rfl) (q_move (by rfl)) ?_
      refine WT.take (i := 3) rfl (by rfl) (by rfl) (by kernel_rfl) (q_move (by rfl)) ?_
      refine WT.take (i := 5) rfl (by rfl) (by rfl) (by kernel_rfl) (q_move (by rfl)) ?_
      refine WT.one (i := 4) rfl (by rfl) (by kernel_rfl) (Ex.callL (fDrained_spec fb mh mw2 mf wp2 (s := s2) hcut.toFOk) (by rfl) (by rfl) (.cons rfl (.cons rfl (.cons rfl (.cons rfl (.cons rfl .nil))))) ?_)
      rintro _ _ ⟨rfl, rfl⟩
      refine WT.one (i := 6) rfl (by rfl) (by kernel_rfl) (Ex.callL (rfDrained_spec b22 ha2 hc2 wa2 wc2 fa2 fc2 (s := s2) hcut.toFOk) (by rfl) (by rfl) (.cons rfl (.cons rfl (.cons rfl (.cons rfl .nil)))) ?_)
      rintro _ _ ⟨rfl, rfl⟩
      first | (refine WT.take (i := 7) rfl (by rfl) (by rfl) (by kernel_rfl) (q_int (by rfl) (by rfl) (by rfl)) ?_) | (refine WT.take (i := 7) rfl (by rfl) (by rfl) (by kernel_rfl) (q_neb (by rfl) (by rfl)) ?_) | (refine WT.take (i := 7) rfl (by rfl) (by rfl) (by kernel_rfl) (q_nep rfl rfl (by rfl) (by rfl) ?_) ?_; (· (rfl))) | (refine WT.take (i := 7) rfl (by rfl) (by rfl) (by kernel_rfl) (q_eqs (by rfl) (by rfl)) ?_)
      refine WT.set 120 (.bool false) (by rfl) (congrArg V.bool ((by simp) : false = _)) ?_
      refine WT.take (i := 8) rfl (by rfl) (by rfl) (by kernel_rfl) (q_pick_f (by rfl) (by rfl)) ?_
      refine WT.take (i := 9) rfl (by rfl) (by rfl) (by kernel_rfl) (q_move (by rfl)) ?_
      refine WT.take (i := 10) rfl (by rfl) (by rfl) (by kernel_rfl) (q_move (by rfl)) ?_
      refine WT.take (i := 11) rfl (by rfl) (by rfl) (by kernel_rfl) (q_move (by rfl)) ?_
      first | (refine WT.take (i := 12) rfl (by rfl) (by rfl) (by kernel_rfl) (q_int (by rfl) (by rfl) (by rfl)) ?_) | (refine WT.take (i := 12) rfl (by rfl) (by rfl) (by kernel_rfl) (q_neb (by rfl) (by rfl)) ?_) | (refine WT.take (i := 12) rfl (by rfl) (by rfl) (by kernel_rfl) (q_nep rfl rfl (by rfl) (by rfl) ?_) ?_; (· (rfl))) | (refine WT.take (i := 12) rfl (by rfl) (by rfl) (by kernel_rfl) (q_eqs (by rfl) (by rfl)) ?_)
      refine WT.set 125 (.bool false) (by rfl) (congrArg V.bool ((by simp) : false = _)) ?_
      refine WT.take (i := 13) rfl (by rfl) (by rfl) (by kernel_rfl) (q_pick_f (by rfl) (by rfl)) ?_
      refine WT.take (i := 14) rfl (by rfl) (by rfl) (by kernel_rfl) (q_move (by rfl)) ?_
      refine WT.take (i := 15) rfl (by rfl) (by rfl) (by kernel_rfl) (q_move (by rfl)) ?_
      refine WT.take (i := 16) rfl (by rfl) (by rfl) (by kernel_rfl) (q_move (by rfl)) ?_
      first | (refine WT.take (i := 17) rfl (by rfl) (by rfl) (by kernel_rfl) (q_int (by rfl) (by rfl) (by rfl)) ?_) | (refine WT.take (i := 17) rfl (by rfl) (by rfl) (by kernel_rfl) (q_neb (by rfl) (by rfl)) ?_) | (refine WT.take (i := 17) rfl (by rfl) (by rfl) (by kernel_rfl) (q_nep rfl rfl (by rfl) (by rfl) ?_) ?_; (· (rfl))) | (refine WT.take (i := 17) rfl (by rfl) (by rfl) (by kernel_rfl) (q_eqs (by rfl) (by rfl)) ?_)
      refine WT.set 130 (.bool false) (by rfl) (congrArg V.bool ((by simp) : false = _)) ?_
      refine WT.take (i := 18) rfl (by rfl) (by rfl) (by kernel_rfl) (q_pick_f (by rfl) (by rfl)) ?_
      refine WT.take (i := 19) rfl (by rfl) (by rfl) (by kernel_rfl) (q_move (by rfl)) ?_
      refine WT.take (i := 20) rfl (by rfl) (by rfl) (by kernel_rfl) (q_move (by rfl)) ?_
      refine WT.take (i := 22) rfl (by rfl) (by rfl) (by kernel_rfl) (q_move (by rfl)) ?_
      refine WT.take (i := 23) rfl (by rfl) (by rfl) (by kernel_rfl) (q_nilCheck (by rfl) (by rfl)) ?_
      first | (refine WT.take (i := 24) rfl (by rfl) (by rfl) (by kernel_rfl) (q_fieldAddr (by rfl)) ?_) | (refine WT.take (i := 24) rfl (by rfl) (by rfl) (by kernel_rfl) (q_fieldAddr_rop (by rfl) (by rfl)) ?_) | (refine WT.take (i := 24) rfl (by rfl) (by rfl) (by kernel_rfl) (q_fieldAddr_pel (by rfl)) ?_)
      refine WT.two (i := 21) (j := 25) rfl rfl (by rfl) (by rfl) (by kernel_rfl) ?_ ?_
      · skip
        refine Ex.callL (fHas_spec fb mh mw2 mf wp2 (s := s2) hcut.toFOk) (by rfl) (by rfl) (.cons rfl (.cons rfl (.cons rfl (.cons rfl (.cons rfl .nil))))) ?_
        rintro _ _ ⟨a134, cap134, rfl, rfl⟩
        refine WT.one (i := 25) rfl (by rfl) (by kernel_rfl) (Ex.h (h_load (by rfl) (by rfl) (by rfl)) (by rfl) ?_)
        refine WT.one (i := 26) rfl (by rfl) (by kernel_rfl) (Ex.callqz (same_spec (l := s2.H) (l2 := s2.H) ?_ ?_ ?_) (by rfl) (by rfl) (.cons (.sla (by rfl)) (.cons (.sla (by rfl)) .nil)) (fun _ => trivial) ?_); (· (omega)); (· (exact hcut.h.ok)); (· (exact hcut.h.ok))
        refine WT.set 139 (.bool true) (by rfl) (congrArg V.bool (dec_self : true = _)) ?_
        refine WT.take (i := 27) rfl (by rfl) (by rfl) (by kernel_rfl) (q_not (by rfl)) ?_
        refine WT.take (i := 28) rfl (by rfl) (by rfl) (by kernel_rfl) (q_pick_f (by rfl) (by rfl)) ?_
        refine WT.take (i := 29) rfl (by rfl) (by rfl) (by kernel_rfl) (q_move (by rfl)) ?_
        refine WT.take (i := 30) rfl (by rfl) (by rfl) (by kernel_rfl) (q_move (by rfl)) ?_
        refine WT.take (i := 32) rfl (by rfl) (by rfl) (by kernel_rfl) (q_move (by rfl)) ?_
        refine WT.take (i := 33) rfl (by rfl) (by rfl) (by kernel_rfl) (q_nilCheck (by rfl) (by rfl)) ?_
        first | (refine WT.take (i := 34) rfl (by rfl) (by rfl) (by kernel_rfl) (q_fieldAddr (by rfl)) ?_) | (refine WT.take (i := 34) rfl (by rfl) (by rfl) (by kernel_rfl) (q_fieldAddr_rop (by rfl) (by rfl)) ?_) | (refine WT.take (i := 34) rfl (by rfl) (by rfl) (by kernel_rfl) (q_fieldAddr_pel (by rfl)) ?_)
        refine WT.two (i := 31) (j := 35) rfl rfl (by rfl) (by rfl) (by kernel_rfl) ?_ ?_
        · skip
          refine Ex.callL (fWanted_spec fb mh mw2 mf wp2 (s := s2) hcut.toFOk) (by rfl) (by rfl) (.cons rfl (.cons rfl (.cons rfl (.cons rfl (.cons rfl .nil))))) ?_
          rintro _ _ ⟨a144, cap144, rfl, rfl⟩
          refine WT.one (i := 35) rfl (by rfl) (by kernel_rfl) (Ex.h (h_load (by rfl) (by rfl) (by rfl)) (by rfl) ?_)
          refine WT.one (i := 36) rfl (by rfl) (by kernel_rfl) (Ex.callqz (same_spec (l := s2.W) (l2 := s2.W) ?_ ?_ ?_) (by rfl) (by rfl) (.cons (.sla (by rfl)) (.cons (.sla (by rfl)) .nil)) (fun _ => trivial) ?_); (· (omega)); (· (exact hcut.w.ok)); (· (exact hcut.w.ok))
          refine WT.set 149 (.bool true) (by rfl) (congrArg V.bool (dec_self : true = _)) ?_
          refine WT.take (i := 37) rfl (by rfl) (by rfl) (by kernel_rfl) (q_not (by rfl)) ?_
          refine WT.take (i := 38) rfl (by rfl) (by rfl) (by kernel_rfl) (q_pick_f (by rfl) (by rfl)) ?_
          refine WT.nil (by kernel_rfl) ?_
          (repeat refine J.seq ?_)
          refine J.condF (by rfl) ?_
          (repeat refine J.seq ?_)
          refine J.skip ?_
          (repeat refine J.seq ?_)
          refine J.region ?_
          refine WL.yes (by rfl) (Ex.q (q_move (by rfl)) (by rfl) ?_)
          refine WL.yes (by rfl) (Ex.q (q_int (by rfl) (by rfl) (by rfl)) (by rfl) ?_)
          refine WL.yes (by rfl) (Ex.q (q_assign (by rfl)) (by rfl) ?_)
          refine WL.nil ?_
          refine Kloop.nextP (k + 1, s2, mw2, wp2, ha2, hc2, wa2, wc2, fa2, fc2, now + (lat l k).gap) ?_ ?_ ⟨same (by rw [← w64_nat (k := k) (by omega)]; rfl), same rfl, same rfl, trivial⟩ ⟨same rfl, same rfl, trivial⟩ (.cons (s := 1060) rfl (CLe.refl _ _) rfl (.cons (s := 1051) rfl (CLe.refl _ _) rfl (.cons (s := 1052) rfl (CLe.refl _ _) rfl (.cons (s := 1053) rfl (CLe.refl _ _) rfl (.cons (s := 1054) rfl (CLe.refl _ _) rfl (.cons (s := 3060) rfl (CLe.refl _ _) rfl (.cons (s := 3051) rfl (CLe.refl _ _) rfl (.cons (s := 3052) rfl (CLe.refl _ _) rfl (.cons (s := 3053) rfl (CLe.refl _ _) rfl .nil)))))))))
          · (exact ⟨by (try dsimp only); omega, hcut, by (try dsimp only); omega, by (try dsimp only); omega⟩)
          · ((try dsimp only) <;> omega)
        · skip
          refine Ex.h (h_load (by rfl) (by rfl) (by rfl)) (by rfl) ?_
          refine WT.one (i := 31) rfl (by rfl) (by kernel_rfl) (Ex.callL (fWanted_spec fb mh mw2 mf wp2 (s := s2) hcut.toFOk) (by rfl) (by rfl) (.cons rfl (.cons rfl (.cons rfl (.cons rfl (.cons rfl .nil))))) ?_)
          rintro _ _ ⟨a144, cap144, rfl, rfl⟩
          refine WT.one (i := 36) rfl (by rfl) (by kernel_rfl) (Ex.callqz (same_spec (l := s2.W) (l2 := s2.W) ?_ ?_ ?_) (by rfl) (by rfl) (.cons (.sla (by rfl)) (.cons (.sla (by rfl)) .nil)) (fun _ => trivial) ?_); (· (omega)); (· (exact hcut.w.ok)); (· (exact hcut.w.ok))
          refine WT.set 149 (.bool true) (by rfl) (congrArg V.bool (dec_self : true = _)) ?_
          refine WT.take (i := 37) rfl (by rfl) (by rfl) (by kernel_rfl) (q_not (by rfl)) ?_
          refine WT.take (i := 38) rfl (by rfl) (by rfl) (by kernel_rfl) (q_pick_f (by rfl) (by rfl)) ?_
          refine WT.nil (by kernel_rfl) ?_
          (repeat refine J.seq ?_)
          refine J.condF (by rfl) ?_
          (repeat refine J.seq ?_)
          refine J.skip ?_
          (repeat refine J.seq ?_)
          refine J.region ?_
          refine WL.yes (by rfl) (Ex.q (q_move (by rfl)) (by rfl) ?_)
          refine WL.yes (by rfl) (Ex.q (q_int (by rfl) (by rfl) (by rfl)) (by rfl) ?_)
          refine WL.yes (by rfl) (Ex.q (q_assign (by rfl)) (by rfl) ?_)
          refine WL.nil ?_
          refine Kloop.nextP (k + 1, s2, mw2, wp2, ha2, hc2, wa2, wc2, fa2, fc2, now + (lat l k).gap) ?_ ?_ ⟨same (by rw [← w64_nat (k := k) (by omega)]; rfl), same rfl, same rfl, trivial⟩ ⟨same rfl, same rfl, trivial⟩ (.cons (s := 1060) rfl (CLe.refl _ _) rfl (.cons (s := 1051) rfl (CLe.refl _ _) rfl (.cons (s := 1052) rfl (CLe.refl _ _) rfl (.cons (s := 1053) rfl (CLe.refl _ _) rfl (.cons (s := 1054) rfl (CLe.refl _ _) rfl (.cons (s := 3060) rfl (CLe.refl _ _) rfl (.cons (s := 3051) rfl (CLe.refl _ _) rfl (.cons (s := 3052) rfl (CLe.refl _ _) rfl (.cons (s := 3053) rfl (CLe.refl _ _) rfl .nil)))))))))
          · (exact ⟨by (try dsimp only); omega, hcut, by (try dsimp only); omega, by (try dsimp only); omega⟩)
          · ((try dsimp only) <;> omega)
      · skip
        refine Ex.h (h_load (by rfl) (by rfl) (by rfl)) (by rfl) ?_
        refine WT.one (i := 21) rfl (by rfl) (by kernel_rfl) (Ex.callL (fHas_spec fb mh mw2 mf wp2 (s := s2) hcut.toFOk) (by rfl) (by rfl) (.cons rfl (.cons rfl (.cons rfl (.cons rfl (.cons rfl .nil))))) ?_)
        rintro _ _ ⟨a134, cap134, rfl, rfl⟩
        refine WT.one (i := 26) rfl (by rfl) (by kernel_rfl) (Ex.callqz (same_spec (l := s2.H) (l2 := s2.H) ?_ ?_ ?_) (by rfl) (by rfl) (.cons (.sla (by rfl)) (.cons (.sla (by rfl)) .nil)) (fun _ => trivial) ?_); (· (omega)); (· (exact hcut.h.ok)); (· (exact hcut.h.ok))
        refine WT.set 139 (.bool true) (by rfl) (congrArg V.bool (dec_self : true = _)) ?_
        refine WT.take (i := 27) rfl (by rfl) (by rfl) (by kernel_rfl) (q_not (by rfl)) ?_
        refine WT.take (i := 28) rfl (by rfl) (by rfl) (by kernel_rfl) (q_pick_f (by rfl) (by rfl)) ?_
        refine WT.take (i := 29) rfl (by rfl) (by rfl) (by kernel_rfl) (q_move (by rfl)) ?_
        refine WT.take (i := 30) rfl (by rfl) (by rfl) (by kernel_rfl) (q_move (by rfl)) ?_
        refine WT.take (i := 32) rfl (by rfl) (by rfl) (by kernel_rfl) (q_move (by rfl)) ?_
        refine WT.take (i := 33) rfl (by rfl) (by rfl) (by kernel_rfl) (q_nilCheck (by rfl) (by rfl)) ?_
        first | (refine WT.take (i := 34) rfl (by rfl) (by rfl) (by kernel_rfl) (q_fieldAddr (by rfl)) ?_) | (refine WT.take (i := 34) rfl (by rfl) (by rfl) (by kernel_rfl) (q_fieldAddr_rop (by rfl) (by rfl)) ?_) | (refine WT.take (i := 34) rfl (by rfl) (by rfl) (by kernel_rfl) (q_fieldAddr_pel (by rfl)) ?_)
        refine WT.two (i := 31) (j := 35) rfl rfl (by rfl) (by rfl) (by kernel_rfl) ?_ ?_
        · skip
          refine Ex.callL (fWanted_spec fb mh mw2 mf wp2 (s := s2) hcut.toFOk) (by rfl) (by rfl) (.cons rfl (.cons rfl (.cons rfl (.cons rfl (.cons rfl .nil))))) ?_
          rintro _ _ ⟨a144, cap144, rfl, rfl⟩
          refine WT.one (i := 35) rfl (by rfl) (by kernel_rfl) (Ex.h (h_load (by rfl) (by rfl) (by rfl)) (by rfl) ?_)
          refine WT.one (i := 36) rfl (by rfl) (by kernel_rfl) (Ex.callqz (same_spec (l := s2.W) (l2 := s2.W) ?_ ?_ ?_) (by rfl) (by rfl) (.cons (.sla (by rfl)) (.cons (.sla (by rfl)) .nil)) (fun _ => trivial) ?_); (· (omega)); (· (exact hcut.w.ok)); (· (exact hcut.w.ok))
          refine WT.set 149 (.bool true) (by rfl) (congrArg V.bool (dec_self : true = _)) ?_
          refine WT.take (i := 37) rfl (by rfl) (by rfl) (by kernel_rfl) (q_not (by rfl)) ?_
          refine WT.take (i := 38) rfl (by rfl) (by rfl) (by kernel_rfl) (q_pick_f (by rfl) (by rfl)) ?_
          refine WT.nil (by kernel_rfl) ?_
          (repeat refine J.seq ?_)
          refine J.condF (by rfl) ?_
          (repeat refine J.seq ?_)
          refine J.skip ?_
          (repeat refine J.seq ?_)
          refine J.region ?_
          refine WL.yes (by rfl) (Ex.q (q_move (by rfl)) (by rfl) ?_)
          refine WL.yes (by rfl) (Ex.q (q_int (by rfl) (by rfl) (by rfl)) (by rfl) ?_)
          refine WL.yes (by rfl) (Ex.q (q_assign (by rfl)) (by rfl) ?_)
          refine WL.nil ?_
          refine Kloop.nextP (k + 1, s2, mw2, wp2, ha2, hc2, wa2, wc2, fa2, fc2, now + (lat l k).gap) ?_ ?_ ⟨same (by rw [← w64_nat (k := k) (by omega)]; rfl), same rfl, same rfl, trivial⟩ ⟨same rfl, same rfl, trivial⟩ (.cons (s := 1060) rfl (CLe.refl _ _) rfl (.cons (s := 1051) rfl (CLe.refl _ _) rfl (.cons (s := 1052) rfl (CLe.refl _ _) rfl (.cons (s := 1053) rfl (CLe.refl _ _) rfl (.cons (s := 1054) rfl (CLe.refl _ _) rfl (.cons (s := 3060) rfl (CLe.refl _ _) rfl (.cons (s := 3051) rfl (CLe.refl _ _) rfl (.cons (s := 3052) rfl (CLe.refl _ _) rfl (.cons (s := 3053) rfl (CLe.refl _ _) rfl .nil)))))))))
          · (exact ⟨by (try dsimp only); omega, hcut, by (try dsimp only); omega, by (try dsimp only); omega⟩)
          · ((try dsimp only) <;> omega)
        · skip
          refine Ex.h (h_load (by rfl) (by rfl) (by rfl)) (by rfl) ?_
          refine WT.one (i := 31) rfl (by rfl) (by kernel_rfl) (Ex.callL (fWanted_spec fb mh mw2 mf wp2 (s := s2) hcut.toFOk) (by rfl) (by rfl) (.cons rfl (.cons rfl (.cons rfl (.cons rfl (.cons rfl .nil))))) ?_)
          rintro _ _ ⟨a144, cap144, rfl, rfl⟩
          refine WT.one (i := 36) rfl (by rfl) (by kernel_rfl) (Ex.callqz (same_spec (l := s2.W) (l2 := s2.W) ?_ ?_ ?_) (by rfl) (by rfl) (.cons (.sla (by rfl)) (.cons (.sla (by rfl)) .nil)) (fun _ => trivial) ?_); (· (omega)); (· (exact hcut.w.ok)); (· (exact hcut.w.ok))
          refine WT.set 149 (.bool true) (by rfl) (congrArg V.bool (dec_self : true = _)) ?_
          refine WT.take (i := 37) rfl (by rfl) (by rfl) (by kernel_rfl) (q_not (by rfl)) ?_
          refine WT.take (i := 38) rfl (by rfl) (by rfl) (by kernel_rfl) (q_pick_f (by rfl) (by rfl)) ?_
          refine WT.nil (by kernel_rfl) ?_
          (repeat refine J.seq ?_)
          refine J.condF (by rfl) ?_
          (repeat refine J.seq ?_)
          refine J.skip ?_
          (repeat refine J.seq ?_)
          refine J.region ?_
          refine WL.yes (by rfl) (Ex.q (q_move (by rfl)) (by rfl) ?_)
          refine WL.yes (by rfl) (Ex.q (q_int (by rfl) (by rfl) (by rfl)) (by rfl) ?_)
          refine WL.yes (by rfl) (Ex.q (q_assign (by rfl)) (by rfl) ?_)
          refine WL.nil ?_
          refine Kloop.nextP (k + 1, s2, mw2, wp2, ha2, hc2, wa2, wc2, fa2, fc2, now + (lat l k).gap) ?_ ?_ ⟨same (by rw [← w64_nat (k := k) (by omega)]; rfl), same rfl, same rfl, trivial⟩ ⟨same rfl, same rfl, trivial⟩ (.cons (s := 1060) rfl (CLe.refl _ _) rfl (.cons (s := 1051) rfl (CLe.refl _ _) rfl (.cons (s := 1052) rfl (CLe.refl _ _) rfl (.cons (s := 1053) rfl (CLe.refl _ _) rfl (.cons (s := 1054) rfl (CLe.refl _ _) rfl (.cons (s := 3060) rfl (CLe.refl _ _) rfl (.cons (s := 3051) rfl (CLe.refl _ _) rfl (.cons (s := 3052) rfl (CLe.refl _ _) rfl (.cons (s := 3053) rfl (CLe.refl _ _) rfl .nil)))))))))
          · (exact ⟨by (try dsimp only); omega, hcut, by (try dsimp only); omega, by (try dsimp only); omega⟩)
          · ((try dsimp only) <;> omega)
    · skip
      (first | have e28 := of_decide_eq_true c28 | have e28 := of_decide_eq_false c28 | have e28 := ndec_t c28 | have e28 := ndec_f c28 | skip)
      (repeat refine J.seq ?_)
      refine J.exit ?_
      (repeat refine J.seq ?_)
      refine J.region ?_
      refine WL.yes (by rfl) (Ex.callL (live19_spec) (by rfl) (by rfl) .nil ?_)
      rintro _ _ ⟨rfl, rfl⟩
      refine WL.yes (by rfl) (Ex.q (q_assign (by rfl)) (by rfl) ?_)
      refine WL.nil ?_
      (repeat refine J.seq ?_)
      refine J.ret ?_
      (repeat (with_reducible first | refine Kseq.ret ?_ | refine Kblock.ret ?_ | refine Kloop.ret ?_ | refine Kcut.ret ?_))
      refine Kret.mk [] (.tmp (by rfl) (.nil)) (by rfl) trivial (HLe.nil _ _) ?_
      exact ⟨rfl, rfl⟩

end Go.Vm
