/- FibExpands: the walk. -/
import Derived.Test.YtimkkhefemnkpaaP9
namespace Go.Vm
open Go Go.Proofs
theorem dec_self' {l : List En} : true = decide (l = l) := (decide_eq_true rfl).symm

set_option maxHeartbeats 16000000 in
set_option maxRecDepth 100000 in
theorem fibExpands_spec {a : Option Addr} {cap : Nat} {l : List En} (ho : ∀ e ∈ l, e.ok) : Spec Try.prog 5 [lros a cap enE l] [] (fun r H' => r = .bool true ∧ H' = []) := by
  refine Spec.of_J Try.func5 rfl Try.ntmps5 Try.results5 rfl ?_
  intro A F hAF
  (repeat refine J.seq ?_)
  refine J.region ?_
  refine WL.yes (by rfl) (Ex.q (q_assign (by rfl)) (by rfl) ?_)
  refine WL.nil ?_
  (repeat refine J.seq ?_)
  refine J.region ?_
  refine WL.yes (by rfl) (Ex.q (q_move (by rfl)) (by rfl) ?_)
  first | (refine WL.yes (by rfl) (Ex.q (q_len_slice (by rfl) (by rfl)) (by rfl) ?_)) | (refine WL.yes (by rfl) (Ex.q (q_len_string (by rfl)) (by rfl) ?_))
  refine WL.yes (by rfl) (Ex.q (q_int (by rfl) (by rfl) (by rfl)) (by rfl) ?_)
  refine WL.nil ?_
  (repeat refine J.seq ?_)
  refine J.cond (by rfl) (fun c5 => ?_) (fun c5 => ?_)
  · skip
    (first | have e5 := of_decide_eq_true c5 | have e5 := of_decide_eq_false c5 | have e5 := ndec_t c5 | have e5 := ndec_f c5 | skip)
    (repeat refine J.seq ?_)
    refine J.region ?_
    refine WL.yes (by rfl) (Ex.callL (live19_spec) (by rfl) (by rfl) .nil ?_)
    rintro _ _ ⟨rfl, rfl⟩
    refine WL.yes (by rfl) (Ex.q (q_assign (by rfl)) (by rfl) ?_)
    refine WL.nil ?_
    (repeat refine J.seq ?_)
    refine J.ret ?_
    (repeat (with_reducible first | refine Kseq.ret ?_ | refine Kblock.ret ?_ | refine Kloop.ret ?_ | refine Kcut.ret ?_))
    refine Kret.mk [] (.tmp (by rfl) (.nil)) (by rfl) trivial (HLe.nil _ _) ?_
    exact ⟨rfl, rfl⟩
  · skip
    (first | have e5 := of_decide_eq_true c5 | have e5 := of_decide_eq_false c5 | have e5 := ndec_t c5 | have e5 := ndec_f c5 | skip)
    have hl : l.length ≤ 24 := by omega
    have hEl := want_len hl
    have hE : ∀ e ∈ expandL l, e.ok := (exp_ok (clean_ok ho)).ok
    (repeat refine J.seq ?_)
    refine J.skip ?_
    (repeat refine J.seq ?_)
    refine J.region ?_
    refine WL.yes (by rfl) (Ex.buildSlice (parts := []) (us := []) (by rfl) (by rfl) rfl (by rfl) (by rfl) ?_)
    intro b7
    refine WL.yes (by rfl) (Ex.q (q_move (by rfl)) (by rfl) ?_)
    refine WL.yes (by rfl) (Ex.append0 enE (l' := l) (by rfl) (by rfl) (by rfl) (by rfl) (.ros rfl (fun _ => rfl) (fun _ _ => rfl)) ?_ ?_); (· (omega))
    intro a9 cap9
    refine WL.yes (by rfl) (Ex.callz _ [] [] (expand_spec (l := l) ho (by omega)) (by rfl) (by rfl) (.cons (.sla (by rfl)) .nil) (fun t c hg => by simp [get] at hg) plain_expand ?_)
    rintro _ _ ⟨a10, cap10, rfl, rfl⟩
    refine WL.yes (by rfl) (Ex.q (q_move (by rfl)) (by rfl) ?_)
    refine WL.yes (by rfl) (Ex.callL (expandR_spec (l := l) ho (by omega)) (by rfl) (by rfl) .nil ?_)
    rintro _ _ ⟨a12, cap12, rfl, rfl⟩
    refine WL.yes (by rfl) (Ex.callqz (same_spec (l := expandL l) (l2 := expandL l) ?_ ?_ ?_) (by rfl) (by rfl) (.cons (.sla (by rfl)) (.cons (.sla (by rfl)) .nil)) (fun _ => trivial) ?_); (· (omega)); (· (exact hE)); (· (exact hE))
    refine WL.yes (by rfl) (Ex.q (q_move (by rfl)) (by rfl) ?_)
    refine WL.set 14 (.bool true) (by rfl) (congrArg V.bool (dec_self' : true = _)) ?_
    refine WL.yes (by rfl) (Ex.q (q_move (by rfl)) (by rfl) ?_)
    refine WL.yes (by rfl) (Ex.callL (expand_spec (l := l) ho (by omega)) (by rfl) (by rfl) .nil ?_)
    rintro _ _ ⟨a16, cap16, rfl, rfl⟩
    refine WL.yes (by rfl) (Ex.callz _ [] [] (expand_spec (l := (expandL l)) hE (by omega)) (by rfl) (by rfl) (.cons (.sla (by rfl)) .nil) (fun t c hg => by simp [get] at hg) plain_expand ?_)
    rintro _ _ ⟨a17, cap17, rfl, rfl⟩
    rw [expand_twice ho]
    refine WL.yes (by rfl) (Ex.q (q_move (by rfl)) (by rfl) ?_)
    refine WL.yes (by rfl) (Ex.callL (expandR_spec (l := l) ho (by omega)) (by rfl) (by rfl) .nil ?_)
    rintro _ _ ⟨a19, cap19, rfl, rfl⟩
    refine WL.yes (by rfl) (Ex.callqz (same_spec (l := expandL l) (l2 := expandL l) ?_ ?_ ?_) (by rfl) (by rfl) (.cons (.sla (by rfl)) (.cons (.sla (by rfl)) .nil)) (fun _ => trivial) ?_); (· (omega)); (· (exact hE)); (· (exact hE))
    refine WL.yes (by rfl) (Ex.q (q_pick_t (by rfl) (by rfl)) (by rfl) ?_)
    refine WL.yes (by rfl) (Ex.q (q_move (by rfl)) (by rfl) ?_)
    refine WL.set 22 (.bool true) (by rfl) (congrArg V.bool (dec_self' : true = _)) ?_
    refine WL.yes (by rfl) (Ex.callL (live19_spec) (by rfl) (by rfl) .nil ?_)
    rintro _ _ ⟨rfl, rfl⟩
    refine WL.yes (by rfl) (Ex.q (q_pick_t (by rfl) (by rfl)) (by rfl) ?_)
    refine WL.yes (by rfl) (Ex.q (q_assign (by rfl)) (by rfl) ?_)
    refine WL.nil ?_
    (repeat refine J.seq ?_)
    refine J.ret ?_
    (repeat (with_reducible first | refine Kseq.ret ?_ | refine Kblock.ret ?_ | refine Kloop.ret ?_ | refine Kcut.ret ?_))
    refine Kret.mk [] (.tmp (by rfl) (.nil)) (by rfl) trivial (HLe.nil _ _) ?_
    exact ⟨rfl, rfl⟩

end Go.Vm
