/- FibEnds: the walk. -/
import Derived.Test.YtimkkhefemnkpaaPR
import Derived.Test.YtimkkhefemnkpaaP11
namespace Go.Vm
open Go Go.Proofs

theorem fWantedB_spec (fb mh mw mf wp : Nat) {s : FS} (hs : FOk s) : Spec Try.prog 42 [.ptr 1060 fb 0] (FO fb mh mw mf wp s) (fun r H' => ∃ a cap, r = .sl 1105 a 51 0 cap s.W.length ∧ H' = FO fb mh mw mf wp s ++ [(1105, lvec a 37 51 cap enE s.W)]) := by
  refine (fWanted_spec fb mh mw mf wp hs).conseq rfl (fun A hv => hv) (fun A => HLe.refl _ _) ?_
  rintro r H1 ⟨a, cap, rfl, rfl⟩
  exact ⟨.sl 1105 a 51 0 cap s.W.length, _, ⟨a, cap, rfl, rfl⟩, by cases a <;> rfl, fun _ _ => trivial, fun A => HLe.sub (.cons (s := 1060) rfl (CLe.refl _ _) rfl (.cons (s := 1051) rfl (CLe.refl _ _) rfl (.cons (s := 1052) rfl (CLe.refl _ _) rfl (.cons (s := 1053) rfl (CLe.refl _ _) rfl (.cons (s := 1054) rfl (CLe.refl _ _) rfl (.cons (s := 1104) rfl (CLe.refl _ _) rfl .nil))))))⟩
theorem drained_yes {s : FS} (h : s.busy = false) (ht : s.todo = []) : s.drained = true := by unfold FS.drained; rw [h, ht]; rfl

set_option maxHeartbeats 16000000 in
set_option maxRecDepth 100000 in
theorem fibEnds_spec {a : Option Addr} {cap : Nat} {l : List AAct} {a2 : Option Addr} {cap2 : Nat} {last : List En} (ho : ∀ x ∈ l, x.good) (ho2 : ∀ e ∈ last, e.ok) : Spec Try.prog 7 [lros a cap acE l, lros a2 cap2 enE last] [] (fun r H' => r = .bool true ∧ H' = []) := by
  refine Spec.of_J Try.func7 rfl Try.ntmps7 Try.results7 rfl ?_
  intro A F hAF
  (repeat refine J.seq ?_)
  refine J.region ?_
  refine WL.yes (by rfl) (Ex.q (q_assign (by rfl)) (by rfl) ?_)
  refine WL.nil ?_
  (repeat refine J.seq ?_)
  refine J.region ?_
  refine WL.yes (by rfl) (Ex.q (q_move (by rfl)) (by rfl) ?_)
  refine WL.yes (by rfl) (Ex.callq (right_spec) (by rfl) (by rfl) rfl (fun _ h => h) ?_)
  refine WL.yes (by rfl) (Ex.q (q_not (by rfl)) (by rfl) ?_)
  refine WL.yes (by rfl) (Ex.q (q_move (by rfl)) (by rfl) ?_)
  refine WL.split 15 (by rfl) (fun g15 => ?_) (fun g15 => ?_)
  · skip
    (first | have eg15 := of_decide_eq_true g15 | have eg15 := of_decide_eq_false g15 | have eg15 := ndec_t g15 | have eg15 := ndec_f g15 | skip)
    refine WL.no (by rfl) (by rfl) ?_
    refine WL.no (by rfl) (by rfl) ?_
    refine WL.no (by rfl) (by rfl) ?_
    refine WL.yes (by rfl) (Ex.q (q_pick_t (by rfl) (by rfl)) (by rfl) ?_)
    refine WL.nil ?_
    (repeat refine J.seq ?_)
    refine J.condT (by rfl) ?_
    (repeat refine J.seq ?_)
    refine J.region ?_
    refine WL.yes (by rfl) (Ex.callL (live19_spec) (by rfl) (by rfl) .nil ?_)
    rintro _ _ ⟨rfl, rfl⟩
    refine WL.yes (by rfl) (Ex.q (q_assign (by rfl)) (by rfl) ?_)
    refine WL.nil ?_
    (repeat refine J.seq ?_)
    refine J.ret ?_
    (repeat (with_reducible first | refine Kseq.ret ?_ | refine Kblock.ret ?_ | refine Kloop.ret ?_ | refine Kcut.ret ?_))
    refine Kret.mk [] (.tmp (by rfl) (.nil)) (by rfl) trivial (HLe.nil _ _) ?_
    exact ⟨rfl, rfl⟩
  · skip
    (first | have eg15 := of_decide_eq_true g15 | have eg15 := of_decide_eq_false g15 | have eg15 := ndec_t g15 | have eg15 := ndec_f g15 | skip)
    have hr : rightB l = true := by simpa using g15
    have hrl := right_len hr
    refine WL.yes (by rfl) (Ex.q (q_move (by rfl)) (by rfl) ?_)
    first | (refine WL.yes (by rfl) (Ex.q (q_len_slice (by rfl) (by rfl)) (by rfl) ?_)) | (refine WL.yes (by rfl) (Ex.q (q_len_string (by rfl)) (by rfl) ?_))
    refine WL.yes (by rfl) (Ex.q (q_int (by rfl) (by rfl) (by rfl)) (by rfl) ?_)
    refine WL.yes (by rfl) (Ex.q (q_pick_f (by rfl) (by rfl)) (by rfl) ?_)
    refine WL.nil ?_
    (repeat refine J.seq ?_)
    refine J.cond (by rfl) (fun c19 => ?_) (fun c19 => ?_)
    · skip
      (first | have e19 := of_decide_eq_true c19 | have e19 := of_decide_eq_false c19 | have e19 := ndec_t c19 | have e19 := ndec_f c19 | skip)
      (repeat refine J.seq ?_)
      refine J.region ?_
      refine WL.yes (by rfl) (Ex.callL (live19_spec) (by rfl) (by rfl) .nil ?_)
      rintro _ _ ⟨rfl, rfl⟩
      refine WL.yes (by rfl) (Ex.q (q_assign (by rfl)) (by rfl) ?_)
      refine WL.nil ?_
      (repeat refine J.seq ?_)
      refine J.ret ?_
      (repeat (with_reducible first | refine Kseq.ret ?_ | refine Kblock.ret ?_ | refine Kloop.ret ?_ | refine Kcut.ret ?_))
      refine Kret.mk [] (.tmp (by rfl) (.nil)) (by rfl) trivial (HLe.nil _ _) ?_
      exact ⟨rfl, rfl⟩
    · skip
      (first | have e19 := of_decide_eq_true c19 | have e19 := of_decide_eq_false c19 | have e19 := ndec_t c19 | have e19 := ndec_f c19 | skip)
      have hl2 : last.length ≤ 24 := by omega
      (repeat refine J.seq ?_)
      refine J.skip ?_
      (repeat refine J.seq ?_)
      refine J.region ?_
      refine WL.yes (by rfl) (Ex.callL (fNew_spec) (by rfl) (by rfl) .nil ?_)
      rintro _ _ ⟨fb, mh, mw0, mf, wp0, rfl, rfl⟩
      refine WL.yes (by rfl) (Ex.q (q_assign (by rfl)) (by rfl) ?_)
      refine WL.nil ?_
      (repeat refine J.seq ?_)
      refine J.region ?_
      refine WL.yes (by rfl) (Ex.q (q_move (by rfl)) (by rfl) ?_)
      refine WL.yes (by rfl) (Ex.q (q_eqnil (by rfl) (by rfl) (by rfl)) (by rfl) ?_)
      refine WL.nil ?_
      (repeat refine J.seq ?_)
      refine J.condF (by rfl) ?_
      (repeat refine J.seq ?_)
      refine J.skip ?_
      (repeat refine J.seq ?_)
      refine J.region ?_
      refine WL.yes (by rfl) (Ex.q (q_assign (by rfl)) (by rfl) ?_)
      refine WL.nil ?_
      (repeat refine J.seq ?_)
      refine J.region ?_
      refine WL.yes (by rfl) (Ex.q (q_assign (by rfl)) (by rfl) ?_)
      refine WL.nil ?_
      (repeat refine J.seq ?_)
      refine J.block ?_
      (repeat refine J.seq ?_)
      refine J.loopP (fun x : Nat × FS × Nat × Nat × Int => x.1 ≤ l.length ∧ FI x.2.1 x.1 ∧ 0 ≤ x.2.2.2.2 ∧ x.2.2.2.2 ≤ (x.1 : Int) * 1073741824 ∧ FU x.2.1 (x.2.2.2.2 + 1000)) (fun x => [(7, iV x.1), (6, iV x.2.2.2.2)]) (fun x => [(1060, .box fb 103 (fV mh x.2.2.1 mf (wayV x.2.2.2.1 x.2.1.busy))), (1051, tbl mh x.2.1.H), (1052, tbl x.2.2.1 x.2.1.W), (1053, mpc mf prE iV x.2.1.F), (1054, wayC x.2.2.2.1 x.2.1.busy x.2.1.wo)]) (fun x => l.length - x.1) (0, FS.zero, mw0, wp0, 0) [(0, _), (1, _), (5, _)] [] ⟨same rfl, same rfl, same rfl, trivial⟩ ⟨same rfl, same rfl, trivial⟩ (.cons (s := 1060) rfl (CLe.refl _ _) rfl (.cons (s := 1051) rfl (CLe.refl _ _) rfl (.cons (s := 1052) rfl (CLe.refl _ _) rfl (.cons (s := 1053) rfl (CLe.refl _ _) rfl (.cons (s := 1054) rfl (CLe.refl _ _) rfl .nil))))) ?_ ?_
      · ((try dsimp only); exact ⟨Nat.zero_le _, FI.zero, by omega, by omega, FU.zero _⟩)
      rintro ⟨k, s, mw, wp, now⟩ hx
      (try dsimp only at hx)
      (try dsimp only)
      obtain ⟨hk, hs, hn0, hn1, hFU⟩ := hx
      (repeat refine J.seq ?_)
      refine J.region ?_
      refine WL.yes (by rfl) (Ex.q (q_move (by rfl)) (by rfl) ?_)
      refine WL.yes (by rfl) (Ex.q (q_move (by rfl)) (by rfl) ?_)
      first | (refine WL.yes (by rfl) (Ex.q (q_len_slice (by rfl) (by rfl)) (by rfl) ?_)) | (refine WL.yes (by rfl) (Ex.q (q_len_string (by rfl)) (by rfl) ?_))
      refine WL.yes (by rfl) (Ex.q (q_int (by rfl) (by rfl) (by rfl)) (by rfl) ?_)
      refine WL.nil ?_
      (repeat refine J.seq ?_)
      refine J.cond (by rfl) (fun c27 => ?_) (fun c27 => ?_)
      · skip
        (first | have e27 := of_decide_eq_true c27 | have e27 := of_decide_eq_false c27 | have e27 := ndec_t c27 | have e27 := ndec_f c27 | skip)
        (repeat refine J.seq ?_)
        refine J.skip ?_
        (repeat refine J.seq ?_)
        have hk2 : k < l.length := by omega
        have hg := right_at hr hk2
        have hact : ∀ e ∈ (lat l k).l, e.ok := ho _ (lat_mem hk2)
        have hk120 : (k : Int) ≤ 120 := by omega
        refine J.cutP (fun x : FS × Nat × Nat => FI x.1 (k + 1) ∧ FU x.1 (now + (lat l k).gap + 1000)) (fun x => [(6, iV (now + (lat l k).gap))]) (fun x => [(1060, .box fb 103 (fV mh x.2.1 mf (wayV x.2.2 x.1.busy))), (1051, tbl mh x.1.H), (1052, tbl x.2.1 x.1.W), (1053, mpc mf prE iV x.1.F), (1054, wayC x.2.2 x.1.busy x.1.wo)]) [(0, _), (1, _), (5, _), (7, _)] [] ⟨same rfl, same rfl, same rfl, same rfl, trivial⟩ .nil ?_ ?_
        · skip
          (repeat refine J.seq ?_)
          refine J.block ?_
          (repeat refine J.seq ?_)
          refine J.region ?_
          refine WL.yes (by rfl) (Ex.q (q_move (by rfl)) (by rfl) ?_)
          refine WL.yes (by rfl) (Ex.q (q_move (by rfl)) (by rfl) ?_)
          refine WL.yes (by rfl) (Ex.q (q_move (by rfl)) (by rfl) ?_)
          first | (refine WL.yes (by rfl) (Ex.q (q_indexAddr_ros (by rfl) (by rfl) (by intro _; rfl) ?_ ?_) (by rfl) ?_); (· (omega)); (· (omega))) | (refine WL.yes (by rfl) (Ex.q (q_indexAddr_sl (by rfl) (by rfl) ?_ ?_) (by rfl) ?_); (· (omega)); (· (omega))) | (refine WL.yes (by rfl) (Ex.q (q_indexAddr_arr (by rfl) (by rfl) ?_ ?_) (by rfl) ?_); (· (omega)); (· (omega)))
          first | (refine WL.yes (by rfl) (Ex.q (q_fieldAddr (by rfl)) (by rfl) ?_)) | (refine WL.yes (by rfl) (Ex.q (q_fieldAddr_rop (by rfl) (by rfl)) (by rfl) ?_)) | (refine WL.yes (by rfl) (Ex.q (q_fieldAddr_pel (by rfl)) (by rfl) ?_))
          first | (refine WL.yes (by rfl) (Ex.h (h_load (by rfl) (by rfl) (by rfl)) (by rfl) ?_)) | (refine WL.yes (by rfl) (Ex.q (q_load (by rfl) (by rfl) (by rfl)) (by rfl) ?_)) | (refine WL.yes (by rfl) (Ex.q (q_load_rop (by rfl) (by rfl)) (by rfl) ?_)) | (refine WL.yes (by rfl) (Ex.h (h_load_pel (by rfl) (by rfl) ?_ (by rfl)) (by rfl) ?_); (· (omega))) | (refine WL.yes (by rfl) (Ex.q (q_load_pel (by rfl) (by rfl) ?_ (by rfl)) (by rfl) ?_); (· (omega)))
          refine WL.set 35 (iV (lat l k).gap) (by rfl) (by first | rfl | rw [Int.toNat_natCast] | rw [Nat.zero_add, Int.toNat_natCast]) ?_
          refine WL.yes (by rfl) (Ex.q (q_int (by rfl) (by rfl) (by rfl)) (by rfl) ?_)
          refine WL.set 36 (iV (now + (lat l k).gap)) (by rfl) (congrArg iV (w64 (by omega) (by omega)).symm) ?_
          refine WL.yes (by rfl) (Ex.q (q_assign (by rfl)) (by rfl) ?_)
          refine WL.nil ?_
          (repeat refine J.seq ?_)
          refine J.region ?_
          refine WL.yes (by rfl) (Ex.q (q_move (by rfl)) (by rfl) ?_)
          refine WL.yes (by rfl) (Ex.q (q_move (by rfl)) (by rfl) ?_)
          first | (refine WL.yes (by rfl) (Ex.q (q_indexAddr_ros (by rfl) (by rfl) (by intro _; rfl) ?_ ?_) (by rfl) ?_); (· (omega)); (· (omega))) | (refine WL.yes (by rfl) (Ex.q (q_indexAddr_sl (by rfl) (by rfl) ?_ ?_) (by rfl) ?_); (· (omega)); (· (omega))) | (refine WL.yes (by rfl) (Ex.q (q_indexAddr_arr (by rfl) (by rfl) ?_ ?_) (by rfl) ?_); (· (omega)); (· (omega)))
          first | (refine WL.yes (by rfl) (Ex.q (q_fieldAddr (by rfl)) (by rfl) ?_)) | (refine WL.yes (by rfl) (Ex.q (q_fieldAddr_rop (by rfl) (by rfl)) (by rfl) ?_)) | (refine WL.yes (by rfl) (Ex.q (q_fieldAddr_pel (by rfl)) (by rfl) ?_))
          first | (refine WL.yes (by rfl) (Ex.h (h_load (by rfl) (by rfl) (by rfl)) (by rfl) ?_)) | (refine WL.yes (by rfl) (Ex.q (q_load (by rfl) (by rfl) (by rfl)) (by rfl) ?_)) | (refine WL.yes (by rfl) (Ex.q (q_load_rop (by rfl) (by rfl)) (by rfl) ?_)) | (refine WL.yes (by rfl) (Ex.h (h_load_pel (by rfl) (by rfl) ?_ (by rfl)) (by rfl) ?_); (· (omega))) | (refine WL.yes (by rfl) (Ex.q (q_load_pel (by rfl) (by rfl) ?_ (by rfl)) (by rfl) ?_); (· (omega)))
          refine WL.set 41 (iV (lat l k).k) (by rfl) (by first | rfl | rw [Int.toNat_natCast] | rw [Nat.zero_add, Int.toNat_natCast]) ?_
          refine WL.nil ?_
          (repeat refine J.seq ?_)
          refine J.block ?_
          (repeat refine J.seq ?_)
          refine J.region ?_
          first | (refine WL.yes (by rfl) (Ex.q (q_int (by rfl) (by rfl) (by rfl)) (by rfl) ?_)) | (refine WL.yes (by rfl) (Ex.q (q_eqb (by rfl) (by rfl)) (by rfl) ?_)) | (refine WL.yes (by rfl) (Ex.q (q_eqp rfl rfl (by rfl) (by rfl) ?_) (by rfl) ?_); (· (rfl))) | (refine WL.yes (by rfl) (Ex.q (q_eqs (by rfl) (by rfl)) (by rfl) ?_))
          refine WL.yes (by rfl) (Ex.q (q_assign (by rfl)) (by rfl) ?_)
          refine WL.nil ?_
          (repeat refine J.seq ?_)
          refine J.cond (by rfl) (fun c42 => ?_) (fun c42 => ?_)
          · skip
            (first | have e42 := of_decide_eq_true c42 | have e42 := of_decide_eq_false c42 | have e42 := ndec_t c42 | have e42 := ndec_f c42 | skip)
            (repeat refine J.seq ?_)
            refine J.region ?_
            refine WL.yes (by rfl) (Ex.q (q_move (by rfl)) (by rfl) ?_)
            refine WL.yes (by rfl) (Ex.q (q_move (by rfl)) (by rfl) ?_)
            refine WL.yes (by rfl) (Ex.q (q_move (by rfl)) (by rfl) ?_)
            first | (refine WL.yes (by rfl) (Ex.q (q_indexAddr_ros (by rfl) (by rfl) (by intro _; rfl) ?_ ?_) (by rfl) ?_); (· (omega)); (· (omega))) | (refine WL.yes (by rfl) (Ex.q (q_indexAddr_sl (by rfl) (by rfl) ?_ ?_) (by rfl) ?_); (· (omega)); (· (omega))) | (refine WL.yes (by rfl) (Ex.q (q_indexAddr_arr (by rfl) (by rfl) ?_ ?_) (by rfl) ?_); (· (omega)); (· (omega)))
            first | (refine WL.yes (by rfl) (Ex.q (q_fieldAddr (by rfl)) (by rfl) ?_)) | (refine WL.yes (by rfl) (Ex.q (q_fieldAddr_rop (by rfl) (by rfl)) (by rfl) ?_)) | (refine WL.yes (by rfl) (Ex.q (q_fieldAddr_pel (by rfl)) (by rfl) ?_))
            first | (refine WL.yes (by rfl) (Ex.h (h_load (by rfl) (by rfl) (by rfl)) (by rfl) ?_)) | (refine WL.yes (by rfl) (Ex.q (q_load (by rfl) (by rfl) (by rfl)) (by rfl) ?_)) | (refine WL.yes (by rfl) (Ex.q (q_load_rop (by rfl) (by rfl)) (by rfl) ?_)) | (refine WL.yes (by rfl) (Ex.h (h_load_pel (by rfl) (by rfl) ?_ (by rfl)) (by rfl) ?_); (· (omega))) | (refine WL.yes (by rfl) (Ex.q (q_load_pel (by rfl) (by rfl) ?_ (by rfl)) (by rfl) ?_); (· (omega)))
            refine WL.set 49 (lros (lat l k).la (lat l k).lc enE (lat l k).l) (by rfl) (by first | rfl | rw [Int.toNat_natCast] | rw [Nat.zero_add, Int.toNat_natCast]) ?_
            refine WL.yes (by rfl) (Ex.callL (fWant_spec fb mh mw mf wp (s := s) (l := (lat l k).l) hact (by have := want_len hg.2.2; omega) (by omega)) (by rfl) (by rfl) (.cons rfl (.cons rfl (.cons rfl (.cons rfl (.cons rfl .nil))))) ?_)
            rintro _ _ ⟨mwq, rfl, rfl⟩
            refine WL.nil ?_
            first | (refine Kcut.mkP ((s.want (lat l k).l, mwq, wp)) ?_ ⟨same rfl, trivial⟩ ⟨same rfl, same rfl, same rfl, same rfl, trivial⟩ (.cons (s := 1060) rfl (CLe.refl _ _) rfl (.cons (s := 1051) rfl (CLe.refl _ _) rfl (.cons (s := 1052) rfl (CLe.refl _ _) rfl (.cons (s := 1053) rfl (CLe.refl _ _) rfl (.cons (s := 1054) rfl (CLe.refl _ _) rfl .nil))))); (· (exact ⟨(hs.want hact hg.2.2).mono (by omega), (hFU.want _).mono (by omega)⟩))) | (refine Kcut.mkP (((s.next (now + (lat l k).gap)).2, mw, wpq)) ?_ ⟨same rfl, trivial⟩ ⟨same rfl, same rfl, same rfl, same rfl, trivial⟩ (.cons (s := 1060) rfl (CLe.refl _ _) rfl (.cons (s := 1051) rfl (CLe.refl _ _) rfl (.cons (s := 1052) rfl (CLe.refl _ _) rfl (.cons (s := 1053) rfl (CLe.refl _ _) rfl (.cons (s := 1054) rfl (CLe.refl _ _) rfl .nil))))); (· (exact ⟨(hs.next _).mono (by omega), (hFU.next _).mono (by omega)⟩))) | (refine Kcut.mkP (((s.reply (now + (lat l k).gap) (lat l k).ok).2, mw, wp)) ?_ ⟨same rfl, trivial⟩ ⟨same rfl, same rfl, same rfl, same rfl, trivial⟩ (.cons (s := 1060) rfl (CLe.refl _ _) rfl (.cons (s := 1051) rfl (CLe.refl _ _) rfl (.cons (s := 1052) rfl (CLe.refl _ _) rfl (.cons (s := 1053) rfl (CLe.refl _ _) rfl (.cons (s := 1054) rfl (CLe.refl _ _) rfl .nil))))); (· (exact ⟨hs.reply (by omega) _ _, (hFU.mono (by omega)).reply _ _ (fun _ => Int.le_refl _)⟩))) | (refine Kcut.mkP ((s, mw, wp)) ?_ ⟨same rfl, trivial⟩ ⟨same rfl, same rfl, same rfl, same rfl, trivial⟩ (.cons (s := 1060) rfl (CLe.refl _ _) rfl (.cons (s := 1051) rfl (CLe.refl _ _) rfl (.cons (s := 1052) rfl (CLe.refl _ _) rfl (.cons (s := 1053) rfl (CLe.refl _ _) rfl (.cons (s := 1054) rfl (CLe.refl _ _) rfl .nil))))); (· (exact ⟨hs.mono (by omega), hFU.mono (by omega)⟩)))
          · skip
            (first | have e42 := of_decide_eq_true c42 | have e42 := of_decide_eq_false c42 | have e42 := ndec_t c42 | have e42 := ndec_f c42 | skip)
            (repeat refine J.seq ?_)
            refine J.region ?_
            first | (refine WL.yes (by rfl) (Ex.q (q_int (by rfl) (by rfl) (by rfl)) (by rfl) ?_)) | (refine WL.yes (by rfl) (Ex.q (q_eqb (by rfl) (by rfl)) (by rfl) ?_)) | (refine WL.yes (by rfl) (Ex.q (q_eqp rfl rfl (by rfl) (by rfl) ?_) (by rfl) ?_); (· (rfl))) | (refine WL.yes (by rfl) (Ex.q (q_eqs (by rfl) (by rfl)) (by rfl) ?_))
            refine WL.yes (by rfl) (Ex.q (q_assign (by rfl)) (by rfl) ?_)
            refine WL.nil ?_
            (repeat refine J.seq ?_)
            refine J.cond (by rfl) (fun c51 => ?_) (fun c51 => ?_)
            · skip
              (first | have e51 := of_decide_eq_true c51 | have e51 := of_decide_eq_false c51 | have e51 := ndec_t c51 | have e51 := ndec_f c51 | skip)
              (repeat refine J.seq ?_)
              refine J.region ?_
              refine WL.yes (by rfl) (Ex.q (q_move (by rfl)) (by rfl) ?_)
              refine WL.yes (by rfl) (Ex.q (q_move (by rfl)) (by rfl) ?_)
              refine WL.yes (by rfl) (Ex.callL (fNext_spec fb mh mw mf wp (s := s) (now := (now + (lat l k).gap)) hs.toFOk) (by rfl) (by rfl) (.cons rfl (.cons rfl (.cons rfl (.cons rfl (.cons rfl .nil))))) ?_)
              rintro _ _ ⟨wpq, rfl, rfl⟩
              refine WL.nil ?_
              first | (refine Kcut.mkP ((s.want (lat l k).l, mwq, wp)) ?_ ⟨same rfl, trivial⟩ ⟨same rfl, same rfl, same rfl, same rfl, trivial⟩ (.cons (s := 1060) rfl (CLe.refl _ _) rfl (.cons (s := 1051) rfl (CLe.refl _ _) rfl (.cons (s := 1052) rfl (CLe.refl _ _) rfl (.cons (s := 1053) rfl (CLe.refl _ _) rfl (.cons (s := 1054) rfl (CLe.refl _ _) rfl .nil))))); (· (exact ⟨(hs.want hact hg.2.2).mono (by omega), (hFU.want _).mono (by omega)⟩))) | (refine Kcut.mkP (((s.next (now + (lat l k).gap)).2, mw, wpq)) ?_ ⟨same rfl, trivial⟩ ⟨same rfl, same rfl, same rfl, same rfl, trivial⟩ (.cons (s := 1060) rfl (CLe.refl _ _) rfl (.cons (s := 1051) rfl (CLe.refl _ _) rfl (.cons (s := 1052) rfl (CLe.refl _ _) rfl (.cons (s := 1053) rfl (CLe.refl _ _) rfl (.cons (s := 1054) rfl (CLe.refl _ _) rfl .nil))))); (· (exact ⟨(hs.next _).mono (by omega), (hFU.next _).mono (by omega)⟩))) | (refine Kcut.mkP (((s.reply (now + (lat l k).gap) (lat l k).ok).2, mw, wp)) ?_ ⟨same rfl, trivial⟩ ⟨same rfl, same rfl, same rfl, same rfl, trivial⟩ (.cons (s := 1060) rfl (CLe.refl _ _) rfl (.cons (s := 1051) rfl (CLe.refl _ _) rfl (.cons (s := 1052) rfl (CLe.refl _ _) rfl (.cons (s := 1053) rfl (CLe.refl _ _) rfl (.cons (s := 1054) rfl (CLe.refl _ _) rfl .nil))))); (· (exact ⟨hs.reply (by omega) _ _, (hFU.mono (by omega)).reply _ _ (fun _ => Int.le_refl _)⟩))) | (refine Kcut.mkP ((s, mw, wp)) ?_ ⟨same rfl, trivial⟩ ⟨same rfl, same rfl, same rfl, same rfl, trivial⟩ (.cons (s := 1060) rfl (CLe.refl _ _) rfl (.cons (s := 1051) rfl (CLe.refl _ _) rfl (.cons (s := 1052) rfl (CLe.refl _ _) rfl (.cons (s := 1053) rfl (CLe.refl _ _) rfl (.cons (s := 1054) rfl (CLe.refl _ _) rfl .nil))))); (· (exact ⟨hs.mono (by omega), hFU.mono (by omega)⟩)))
            · skip
              (first | have e51 := of_decide_eq_true c51 | have e51 := of_decide_eq_false c51 | have e51 := ndec_t c51 | have e51 := ndec_f c51 | skip)
              (repeat refine J.seq ?_)
              refine J.region ?_
              first | (refine WL.yes (by rfl) (Ex.q (q_int (by rfl) (by rfl) (by rfl)) (by rfl) ?_)) | (refine WL.yes (by rfl) (Ex.q (q_eqb (by rfl) (by rfl)) (by rfl) ?_)) | (refine WL.yes (by rfl) (Ex.q (q_eqp rfl rfl (by rfl) (by rfl) ?_) (by rfl) ?_); (· (rfl))) | (refine WL.yes (by rfl) (Ex.q (q_eqs (by rfl) (by rfl)) (by rfl) ?_))
              refine WL.yes (by rfl) (Ex.q (q_assign (by rfl)) (by rfl) ?_)
              refine WL.nil ?_
              (repeat refine J.seq ?_)
              refine J.cond (by rfl) (fun c56 => ?_) (fun c56 => ?_)
              · skip
                (first | have e56 := of_decide_eq_true c56 | have e56 := of_decide_eq_false c56 | have e56 := ndec_t c56 | have e56 := ndec_f c56 | skip)
                (repeat refine J.seq ?_)
                refine J.region ?_
                refine WL.yes (by rfl) (Ex.q (q_move (by rfl)) (by rfl) ?_)
                refine WL.yes (by rfl) (Ex.q (q_move (by rfl)) (by rfl) ?_)
                refine WL.yes (by rfl) (Ex.q (q_move (by rfl)) (by rfl) ?_)
                refine WL.yes (by rfl) (Ex.q (q_move (by rfl)) (by rfl) ?_)
                first | (refine WL.yes (by rfl) (Ex.q (q_indexAddr_ros (by rfl) (by rfl) (by intro _; rfl) ?_ ?_) (by rfl) ?_); (· (omega)); (· (omega))) | (refine WL.yes (by rfl) (Ex.q (q_indexAddr_sl (by rfl) (by rfl) ?_ ?_) (by rfl) ?_); (· (omega)); (· (omega))) | (refine WL.yes (by rfl) (Ex.q (q_indexAddr_arr (by rfl) (by rfl) ?_ ?_) (by rfl) ?_); (· (omega)); (· (omega)))
                first | (refine WL.yes (by rfl) (Ex.q (q_fieldAddr (by rfl)) (by rfl) ?_)) | (refine WL.yes (by rfl) (Ex.q (q_fieldAddr_rop (by rfl) (by rfl)) (by rfl) ?_)) | (refine WL.yes (by rfl) (Ex.q (q_fieldAddr_pel (by rfl)) (by rfl) ?_))
                first | (refine WL.yes (by rfl) (Ex.h (h_load (by rfl) (by rfl) (by rfl)) (by rfl) ?_)) | (refine WL.yes (by rfl) (Ex.q (q_load (by rfl) (by rfl) (by rfl)) (by rfl) ?_)) | (refine WL.yes (by rfl) (Ex.q (q_load_rop (by rfl) (by rfl)) (by rfl) ?_)) | (refine WL.yes (by rfl) (Ex.h (h_load_pel (by rfl) (by rfl) ?_ (by rfl)) (by rfl) ?_); (· (omega))) | (refine WL.yes (by rfl) (Ex.q (q_load_pel (by rfl) (by rfl) ?_ (by rfl)) (by rfl) ?_); (· (omega)))
                refine WL.set 64 (.bool (lat l k).ok) (by rfl) (by first | rfl | rw [Int.toNat_natCast] | rw [Nat.zero_add, Int.toNat_natCast]) ?_
                refine WL.yes (by rfl) (Ex.callL (fReply_spec fb mh mw mf wp (s := s) (now := (now + (lat l k).gap)) (ok := (lat l k).ok) hs.toFOk (by omega)) (by rfl) (by rfl) (.cons rfl (.cons rfl (.cons rfl (.cons rfl (.cons rfl .nil))))) ?_)
                rintro _ _ ⟨rfl, rfl⟩
                refine WL.nil ?_
                first | (refine Kcut.mkP ((s.want (lat l k).l, mwq, wp)) ?_ ⟨same rfl, trivial⟩ ⟨same rfl, same rfl, same rfl, same rfl, trivial⟩ (.cons (s := 1060) rfl (CLe.refl _ _) rfl (.cons (s := 1051) rfl (CLe.refl _ _) rfl (.cons (s := 1052) rfl (CLe.refl _ _) rfl (.cons (s := 1053) rfl (CLe.refl _ _) rfl (.cons (s := 1054) rfl (CLe.refl _ _) rfl .nil))))); (· (exact ⟨(hs.want hact hg.2.2).mono (by omega), (hFU.want _).mono (by omega)⟩))) | (refine Kcut.mkP (((s.next (now + (lat l k).gap)).2, mw, wpq)) ?_ ⟨same rfl, trivial⟩ ⟨same rfl, same rfl, same rfl, same rfl, trivial⟩ (.cons (s := 1060) rfl (CLe.refl _ _) rfl (.cons (s := 1051) rfl (CLe.refl _ _) rfl (.cons (s := 1052) rfl (CLe.refl _ _) rfl (.cons (s := 1053) rfl (CLe.refl _ _) rfl (.cons (s := 1054) rfl (CLe.refl _ _) rfl .nil))))); (· (exact ⟨(hs.next _).mono (by omega), (hFU.next _).mono (by omega)⟩))) | (refine Kcut.mkP (((s.reply (now + (lat l k).gap) (lat l k).ok).2, mw, wp)) ?_ ⟨same rfl, trivial⟩ ⟨same rfl, same rfl, same rfl, same rfl, trivial⟩ (.cons (s := 1060) rfl (CLe.refl _ _) rfl (.cons (s := 1051) rfl (CLe.refl _ _) rfl (.cons (s := 1052) rfl (CLe.refl _ _) rfl (.cons (s := 1053) rfl (CLe.refl _ _) rfl (.cons (s := 1054) rfl (CLe.refl _ _) rfl .nil))))); (· (exact ⟨hs.reply (by omega) _ _, (hFU.mono (by omega)).reply _ _ (fun _ => Int.le_refl _)⟩))) | (refine Kcut.mkP ((s, mw, wp)) ?_ ⟨same rfl, trivial⟩ ⟨same rfl, same rfl, same rfl, same rfl, trivial⟩ (.cons (s := 1060) rfl (CLe.refl _ _) rfl (.cons (s := 1051) rfl (CLe.refl _ _) rfl (.cons (s := 1052) rfl (CLe.refl _ _) rfl (.cons (s := 1053) rfl (CLe.refl _ _) rfl (.cons (s := 1054) rfl (CLe.refl _ _) rfl .nil))))); (· (exact ⟨hs.mono (by omega), hFU.mono (by omega)⟩)))
              · skip
                (first | have e56 := of_decide_eq_true c56 | have e56 := of_decide_eq_false c56 | have e56 := ndec_t c56 | have e56 := ndec_f c56 | skip)
                (repeat refine J.seq ?_)
                refine J.skip ?_
                first | (refine Kcut.mkP ((s.want (lat l k).l, mwq, wp)) ?_ ⟨same rfl, trivial⟩ ⟨same rfl, same rfl, same rfl, same rfl, trivial⟩ (.cons (s := 1060) rfl (CLe.refl _ _) rfl (.cons (s := 1051) rfl (CLe.refl _ _) rfl (.cons (s := 1052) rfl (CLe.refl _ _) rfl (.cons (s := 1053) rfl (CLe.refl _ _) rfl (.cons (s := 1054) rfl (CLe.refl _ _) rfl .nil))))); (· (exact ⟨(hs.want hact hg.2.2).mono (by omega), (hFU.want _).mono (by omega)⟩))) | (refine Kcut.mkP (((s.next (now + (lat l k).gap)).2, mw, wpq)) ?_ ⟨same rfl, trivial⟩ ⟨same rfl, same rfl, same rfl, same rfl, trivial⟩ (.cons (s := 1060) rfl (CLe.refl _ _) rfl (.cons (s := 1051) rfl (CLe.refl _ _) rfl (.cons (s := 1052) rfl (CLe.refl _ _) rfl (.cons (s := 1053) rfl (CLe.refl _ _) rfl (.cons (s := 1054) rfl (CLe.refl _ _) rfl .nil))))); (· (exact ⟨(hs.next _).mono (by omega), (hFU.next _).mono (by omega)⟩))) | (refine Kcut.mkP (((s.reply (now + (lat l k).gap) (lat l k).ok).2, mw, wp)) ?_ ⟨same rfl, trivial⟩ ⟨same rfl, same rfl, same rfl, same rfl, trivial⟩ (.cons (s := 1060) rfl (CLe.refl _ _) rfl (.cons (s := 1051) rfl (CLe.refl _ _) rfl (.cons (s := 1052) rfl (CLe.refl _ _) rfl (.cons (s := 1053) rfl (CLe.refl _ _) rfl (.cons (s := 1054) rfl (CLe.refl _ _) rfl .nil))))); (· (exact ⟨hs.reply (by omega) _ _, (hFU.mono (by omega)).reply _ _ (fun _ => Int.le_refl _)⟩))) | (refine Kcut.mkP ((s, mw, wp)) ?_ ⟨same rfl, trivial⟩ ⟨same rfl, same rfl, same rfl, same rfl, trivial⟩ (.cons (s := 1060) rfl (CLe.refl _ _) rfl (.cons (s := 1051) rfl (CLe.refl _ _) rfl (.cons (s := 1052) rfl (CLe.refl _ _) rfl (.cons (s := 1053) rfl (CLe.refl _ _) rfl (.cons (s := 1054) rfl (CLe.refl _ _) rfl .nil))))); (· (exact ⟨hs.mono (by omega), hFU.mono (by omega)⟩)))
        rintro ⟨s2, mw2, wp2⟩ hcut
        (try dsimp only at hcut ⊢)
        (repeat refine J.seq ?_)
        refine J.region ?_
        refine WL.yes (by rfl) (Ex.q (q_move (by rfl)) (by rfl) ?_)
        refine WL.yes (by rfl) (Ex.q (q_int (by rfl) (by rfl) (by rfl)) (by rfl) ?_)
        refine WL.yes (by rfl) (Ex.q (q_assign (by rfl)) (by rfl) ?_)
        refine WL.nil ?_
        refine Kloop.nextP (k + 1, s2, mw2, wp2, now + (lat l k).gap) ?_ ?_ ⟨same (by rw [← w64_nat (k := k) (by omega)]; rfl), same rfl, trivial⟩ ⟨same rfl, same rfl, same rfl, trivial⟩ (.cons (s := 1060) rfl (CLe.refl _ _) rfl (.cons (s := 1051) rfl (CLe.refl _ _) rfl (.cons (s := 1052) rfl (CLe.refl _ _) rfl (.cons (s := 1053) rfl (CLe.refl _ _) rfl (.cons (s := 1054) rfl (CLe.refl _ _) rfl .nil)))))
        · (exact ⟨by (try dsimp only); omega, hcut.1, by (try dsimp only); omega, by (try dsimp only); omega, hcut.2⟩)
        · ((try dsimp only) <;> omega)
      · skip
        (first | have e27 := of_decide_eq_true c27 | have e27 := of_decide_eq_false c27 | have e27 := ndec_t c27 | have e27 := ndec_f c27 | skip)
        (repeat refine J.seq ?_)
        refine J.exit ?_
        (repeat refine J.seq ?_)
        have hn9 : now ≤ 120 * 1073741824 := by omega
        have hs0 : FI ((s.reply now true).2.want last) 121 := ((hs.reply (by omega) now true).want ho2 hl2).mono (by omega)
        have hF0 : FU ((s.reply now true).2.want last) (now + 2000) := ((hFU.reply now true (by simp)).want last).mono (by omega)
        have hW0 : ((s.reply now true).2.want last).W.length ≤ 576 := want_len hl2
        have hH0 := hs0.nh
        have hb0 : ((s.reply now true).2.want last).busy = false := reply_busy
        obtain ⟨N, hN⟩ : ∃ N : Nat, N = ((s.reply now true).2.want last).H.length + ((s.reply now true).2.want last).W.length := ⟨_, rfl⟩
        refine J.region ?_
        refine WL.yes (by rfl) (Ex.q (q_move (by rfl)) (by rfl) ?_)
        refine WL.yes (by rfl) (Ex.q (q_move (by rfl)) (by rfl) ?_)
        refine WL.yes (by rfl) (Ex.callL (fReply_spec fb mh mw mf wp (s := s) (now := now) (ok := true) hs.toFOk (by omega)) (by rfl) (by rfl) (.cons rfl (.cons rfl (.cons rfl (.cons rfl (.cons rfl .nil))))) ?_)
        rintro _ _ ⟨rfl, rfl⟩
        refine WL.nil ?_
        (repeat refine J.seq ?_)
        refine J.region ?_
        refine WL.yes (by rfl) (Ex.q (q_move (by rfl)) (by rfl) ?_)
        refine WL.yes (by rfl) (Ex.q (q_move (by rfl)) (by rfl) ?_)
        refine WL.yes (by rfl) (Ex.callL (fWant_spec fb mh mw mf wp (s := (s.reply now true).2) (l := last) ho2 (by have := want_len hl2; omega) (by omega)) (by rfl) (by rfl) (.cons rfl (.cons rfl (.cons rfl (.cons rfl (.cons rfl .nil))))) ?_)
        rintro _ _ ⟨mwL, rfl, rfl⟩
        refine WL.nil ?_
        (repeat refine J.seq ?_)
        refine J.region ?_
        refine WL.yes (by rfl) (Ex.q (q_move (by rfl)) (by rfl) ?_)
        refine WL.yes (by rfl) (Ex.q (q_int (by rfl) (by rfl) (by rfl)) (by rfl) ?_)
        refine WL.set 73 (iV (now + 2000)) (by rfl) (congrArg iV (w64 (by omega) (by omega)).symm) ?_
        refine WL.yes (by rfl) (Ex.q (q_assign (by rfl)) (by rfl) ?_)
        refine WL.nil ?_
        (repeat refine J.seq ?_)
        refine J.region ?_
        refine WL.yes (by rfl) (Ex.q (q_move (by rfl)) (by rfl) ?_)
        refine WL.yes (by rfl) (Ex.callL (fHas_spec fb mh mwL mf wp (s := ((s.reply now true).2.want last)) hs0.toFOk) (by rfl) (by rfl) (.cons rfl (.cons rfl (.cons rfl (.cons rfl (.cons rfl .nil))))) ?_)
        rintro _ _ ⟨a75, cap75, rfl, rfl⟩
        first | (refine WL.yes (by rfl) (Ex.q (q_len_slice (by rfl) (by rfl)) (by rfl) ?_)) | (refine WL.yes (by rfl) (Ex.q (q_len_string (by rfl)) (by rfl) ?_))
        refine WL.yes (by rfl) (Ex.q (q_move (by rfl)) (by rfl) ?_)
        refine WL.yes (by rfl) (Ex.callL (fWantedB_spec fb mh mwL mf wp (s := ((s.reply now true).2.want last)) hs0.toFOk) (by rfl) (by rfl) (.cons rfl (.cons rfl (.cons rfl (.cons rfl (.cons rfl .nil))))) ?_)
        rintro _ _ ⟨a78, cap78, rfl, rfl⟩
        first | (refine WL.yes (by rfl) (Ex.q (q_len_slice (by rfl) (by rfl)) (by rfl) ?_)) | (refine WL.yes (by rfl) (Ex.q (q_len_string (by rfl)) (by rfl) ?_))
        refine WL.yes (by rfl) (Ex.q (q_int (by rfl) (by rfl) (by rfl)) (by rfl) ?_)
        refine WL.set 80 (iV (N : Nat)) (by rfl) (congrArg iV (by rw [w64 (by omega) (by omega)]; omega)) ?_
        refine WL.yes (by rfl) (Ex.q (q_assign (by rfl)) (by rfl) ?_)
        refine WL.nil ?_
        (repeat refine J.seq ?_)
        refine J.region ?_
        refine WL.yes (by rfl) (Ex.q (q_assign (by rfl)) (by rfl) ?_)
        refine WL.nil ?_
        (repeat refine J.seq ?_)
        refine J.block ?_
        (repeat refine J.seq ?_)
        refine J.loopP (fun x : Nat × FS × Nat => FI x.2.1 (121 + x.1) ∧ x.2.1.busy = false ∧ FU x.2.1 (now + 2000) ∧ x.2.1.todo.length + x.1 ≤ N) (fun x => [(9, iV x.1)]) (fun x => [(1060, .box fb 103 (fV mh mwL mf (wayV x.2.2 x.2.1.busy))), (1051, tbl mh x.2.1.H), (1052, tbl mwL x.2.1.W), (1053, mpc mf prE iV x.2.1.F), (1054, wayC x.2.2 x.2.1.busy x.2.1.wo)]) (fun x => N - x.1) (0, ((s.reply now true).2.want last), wp) [(5, _), (6, _), (8, _)] [(1104, _), (1105, _)] ⟨same rfl, same rfl, same rfl, trivial⟩ ⟨same rfl, trivial⟩ (.cons (s := 1060) rfl (CLe.refl _ _) rfl (.cons (s := 1051) rfl (CLe.refl _ _) rfl (.cons (s := 1052) rfl (CLe.refl _ _) rfl (.cons (s := 1053) rfl (CLe.refl _ _) rfl (.cons (s := 1054) rfl (CLe.refl _ _) rfl (.cons (s := 1104) rfl (CLe.refl _ _) rfl (.cons (s := 1105) rfl (CLe.refl _ _) rfl .nil))))))) ?_ ?_
        · ((try dsimp only); exact ⟨hs0, hb0, hF0, by have := todo_len ((s.reply now true).2.want last).H ((s.reply now true).2.want last).W; show (todoL _ _).length + 0 ≤ N; omega⟩)
        rintro ⟨j, u, wq⟩ hx
        (try dsimp only at hx)
        (try dsimp only)
        obtain ⟨hu, hub, hFu, hlen⟩ := hx
        (repeat refine J.seq ?_)
        refine J.region ?_
        refine WL.yes (by rfl) (Ex.q (q_move (by rfl)) (by rfl) ?_)
        refine WL.yes (by rfl) (Ex.q (q_move (by rfl)) (by rfl) ?_)
        refine WL.yes (by rfl) (Ex.q (q_int (by rfl) (by rfl) (by rfl)) (by rfl) ?_)
        refine WL.nil ?_
        (repeat refine J.seq ?_)
        refine J.cond (by rfl) (fun c83 => ?_) (fun c83 => ?_)
        · skip
          (first | have e83 := of_decide_eq_true c83 | have e83 := of_decide_eq_false c83 | have e83 := ndec_t c83 | have e83 := ndec_f c83 | skip)
          (repeat refine J.seq ?_)
          refine J.skip ?_
          (repeat refine J.seq ?_)
          refine J.block ?_
          (repeat refine J.seq ?_)
          refine J.region ?_
          refine WL.yes (by rfl) (Ex.q (q_move (by rfl)) (by rfl) ?_)
          refine WL.yes (by rfl) (Ex.q (q_move (by rfl)) (by rfl) ?_)
          refine WL.yes (by rfl) (Ex.callL (fNext_spec fb mh mwL mf wq (s := u) (now := now + 2000) hu.toFOk) (by rfl) (by rfl) (.cons rfl (.cons rfl (.cons rfl (.cons rfl (.cons rfl .nil))))) ?_)
          rintro _ _ ⟨wr, rfl, rfl⟩
          refine WL.yes (by rfl) (Ex.q (q_move (by rfl)) (by rfl) ?_)
          first | (refine WL.yes (by rfl) (Ex.q (q_extract2 (by rfl) (by rfl)) (by rfl) ?_)) | (refine WL.yes (by rfl) (Ex.q (q_extract3 (by rfl) (by rfl)) (by rfl) ?_))
          first | (refine WL.yes (by rfl) (Ex.q (q_extract2 (by rfl) (by rfl)) (by rfl) ?_)) | (refine WL.yes (by rfl) (Ex.q (q_extract3 (by rfl) (by rfl)) (by rfl) ?_))
          refine WL.yes (by rfl) (Ex.alloc (by rfl) ?_)
          intro b10
          first | (refine WL.yes (by rfl) (Ex.store (by rfl) (by rfl) (by rfl) (by rfl) (by rfl) (by rfl) ?_)) | (refine WL.yes (by rfl) (Ex.store_pel (by rfl) (by rfl) (by rfl) (by rfl) (by rfl) ?_ (by rfl) ?_); (· (omega)))
          refine WL.yes (by rfl) (Ex.q (q_assign (by rfl)) (by rfl) ?_)
          refine WL.nil ?_
          (repeat refine J.seq ?_)
          refine J.region ?_
          refine WL.yes (by rfl) (Ex.q (q_move (by rfl)) (by rfl) ?_)
          refine WL.yes (by rfl) (Ex.q (q_not (by rfl)) (by rfl) ?_)
          refine WL.nil ?_
          (repeat refine J.seq ?_)
          refine J.cond (by rfl) (fun c93 => ?_) (fun c93 => ?_)
          · skip
            (first | have e93 := of_decide_eq_true c93 | have e93 := of_decide_eq_false c93 | have e93 := ndec_t c93 | have e93 := ndec_f c93 | skip)
            obtain ⟨htd, hnx⟩ := next_none hub hFu (by simpa using c93)
            rw [hnx]
            (repeat refine J.seq ?_)
            refine J.exit ?_
            (repeat refine J.seq ?_)
            refine J.region ?_
            refine WL.yes (by rfl) (Ex.q (q_move (by rfl)) (by rfl) ?_)
            refine WL.yes (by rfl) (Ex.callL (fDrained_spec fb mh mwL mf _ (s := u) hu.toFOk) (by rfl) (by rfl) (.cons rfl (.cons rfl (.cons rfl (.cons rfl (.cons rfl .nil))))) ?_)
            rintro _ _ ⟨rfl, rfl⟩
            refine WL.yes (by rfl) (Ex.q (q_move (by rfl)) (by rfl) ?_)
            refine WL.set 99 (.bool true) (by rfl) (congrArg V.bool ((drained_yes hub htd).symm : true = _)) ?_
            refine WL.yes (by rfl) (Ex.q (q_move (by rfl)) (by rfl) ?_)
            refine WL.yes (by rfl) (Ex.callL (fHas_spec fb mh mwL mf _ (s := u) hu.toFOk) (by rfl) (by rfl) (.cons rfl (.cons rfl (.cons rfl (.cons rfl (.cons rfl .nil))))) ?_)
            rintro _ _ ⟨a101, cap101, rfl, rfl⟩
            refine WL.yes (by rfl) (Ex.q (q_move (by rfl)) (by rfl) ?_)
            refine WL.yes (by rfl) (Ex.callL (fWantedB_spec fb mh mwL mf _ (s := u) hu.toFOk) (by rfl) (by rfl) (.cons rfl (.cons rfl (.cons rfl (.cons rfl (.cons rfl .nil))))) ?_)
            rintro _ _ ⟨a103, cap103, rfl, rfl⟩
            refine WL.yes (by rfl) (Ex.callqz (same_spec (l := u.H) (l2 := u.W) ?_ ?_ ?_) (by rfl) (by rfl) (.cons (.sla (by rfl)) (.cons (.sla (by rfl)) .nil)) (fun _ => trivial) ?_); (· (have := hu.lh; omega)); (· (exact hu.h.ok)); (· (exact hu.w.ok))
            refine WL.yes (by rfl) (Ex.q (q_pick_t (by rfl) (by rfl)) (by rfl) ?_)
            refine WL.yes (by rfl) (Ex.q (q_move (by rfl)) (by rfl) ?_)
            refine WL.set 106 (.bool true) (by rfl) (congrArg V.bool ((decide_eq_true (todo_nil hu.h hu.w htd)).symm : true = _)) ?_
            refine WL.yes (by rfl) (Ex.callL (live19_spec) (by rfl) (by rfl) .nil ?_)
            rintro _ _ ⟨rfl, rfl⟩
            refine WL.yes (by rfl) (Ex.q (q_pick_t (by rfl) (by rfl)) (by rfl) ?_)
            refine WL.yes (by rfl) (Ex.q (q_assign (by rfl)) (by rfl) ?_)
            refine WL.nil ?_
            (repeat refine J.seq ?_)
            refine J.ret ?_
            (repeat (with_reducible first | refine Kseq.ret ?_ | refine Kblock.ret ?_ | refine Kloop.ret ?_ | refine Kcut.ret ?_))
            refine Kret.mk [] (.tmp (by rfl) (.nil)) (by rfl) trivial (HLe.nil _ _) ?_
            exact ⟨rfl, rfl⟩
          · skip
            (first | have e93 := of_decide_eq_true c93 | have e93 := of_decide_eq_false c93 | have e93 := ndec_t c93 | have e93 := ndec_f c93 | skip)
            have hyes : (u.next (now + 2000)).1.2 = true := by simpa using c93
            have hlt := step_less hu hub hyes
            (repeat refine J.seq ?_)
            refine J.skip ?_
            (repeat refine J.seq ?_)
            refine J.region ?_
            refine WL.yes (by rfl) (Ex.q (q_move (by rfl)) (by rfl) ?_)
            refine WL.yes (by rfl) (Ex.q (q_move (by rfl)) (by rfl) ?_)
            refine WL.yes (by rfl) (Ex.callL (fReply_spec fb mh mwL mf wr (s := (u.next (now + 2000)).2) (now := now + 2000) (ok := true) (hu.next _).toFOk (by omega)) (by rfl) (by rfl) (.cons rfl (.cons rfl (.cons rfl (.cons rfl (.cons rfl .nil))))) ?_)
            rintro _ _ ⟨rfl, rfl⟩
            refine WL.nil ?_
            (repeat refine J.seq ?_)
            refine J.region ?_
            refine WL.yes (by rfl) (Ex.q (q_move (by rfl)) (by rfl) ?_)
            refine WL.yes (by rfl) (Ex.q (q_int (by rfl) (by rfl) (by rfl)) (by rfl) ?_)
            refine WL.yes (by rfl) (Ex.q (q_assign (by rfl)) (by rfl) ?_)
            refine WL.nil ?_
            refine Kloop.nextP (j + 1, ((u.next (now + 2000)).2.reply (now + 2000) true).2, wr) ?_ ?_ ⟨same (by rw [← w64_nat (k := j) (by omega)]; rfl), trivial⟩ ⟨same rfl, same rfl, same rfl, trivial⟩ (.cons (s := 1060) rfl (CLe.refl _ _) rfl (.cons (s := 1051) rfl (CLe.refl _ _) rfl (.cons (s := 1052) rfl (CLe.refl _ _) rfl (.cons (s := 1053) rfl (CLe.refl _ _) rfl (.cons (s := 1054) rfl (CLe.refl _ _) rfl (.cons (s := 1104) rfl (CLe.refl _ _) rfl (.cons (s := 1105) rfl (CLe.refl _ _) rfl .nil)))))))
            · (exact ⟨(hu.next _).reply (by omega) _ _, reply_busy, (hFu.next _).reply _ _ (by simp), by (try dsimp only); omega⟩)
            · ((try dsimp only) <;> omega)
        · skip
          (first | have e83 := of_decide_eq_true c83 | have e83 := of_decide_eq_false c83 | have e83 := ndec_t c83 | have e83 := ndec_f c83 | skip)
          have htd : u.todo = [] := List.eq_nil_of_length_eq_zero (by omega)
          (repeat refine J.seq ?_)
          refine J.exit ?_
          (repeat refine J.seq ?_)
          refine J.region ?_
          refine WL.yes (by rfl) (Ex.q (q_move (by rfl)) (by rfl) ?_)
          refine WL.yes (by rfl) (Ex.callL (fDrained_spec fb mh mwL mf _ (s := u) hu.toFOk) (by rfl) (by rfl) (.cons rfl (.cons rfl (.cons rfl (.cons rfl (.cons rfl .nil))))) ?_)
          rintro _ _ ⟨rfl, rfl⟩
          refine WL.yes (by rfl) (Ex.q (q_move (by rfl)) (by rfl) ?_)
          refine WL.set 99 (.bool true) (by rfl) (congrArg V.bool ((drained_yes hub htd).symm : true = _)) ?_
          refine WL.yes (by rfl) (Ex.q (q_move (by rfl)) (by rfl) ?_)
          refine WL.yes (by rfl) (Ex.callL (fHas_spec fb mh mwL mf _ (s := u) hu.toFOk) (by rfl) (by rfl) (.cons rfl (.cons rfl (.cons rfl (.cons rfl (.cons rfl .nil))))) ?_)
          rintro _ _ ⟨a101, cap101, rfl, rfl⟩
          refine WL.yes (by rfl) (Ex.q (q_move (by rfl)) (by rfl) ?_)
          refine WL.yes (by rfl) (Ex.callL (fWantedB_spec fb mh mwL mf _ (s := u) hu.toFOk) (by rfl) (by rfl) (.cons rfl (.cons rfl (.cons rfl (.cons rfl (.cons rfl .nil))))) ?_)
          rintro _ _ ⟨a103, cap103, rfl, rfl⟩
          refine WL.yes (by rfl) (Ex.callqz (same_spec (l := u.H) (l2 := u.W) ?_ ?_ ?_) (by rfl) (by rfl) (.cons (.sla (by rfl)) (.cons (.sla (by rfl)) .nil)) (fun _ => trivial) ?_); (· (have := hu.lh; omega)); (· (exact hu.h.ok)); (· (exact hu.w.ok))
          refine WL.yes (by rfl) (Ex.q (q_pick_t (by rfl) (by rfl)) (by rfl) ?_)
          refine WL.yes (by rfl) (Ex.q (q_move (by rfl)) (by rfl) ?_)
          refine WL.set 106 (.bool true) (by rfl) (congrArg V.bool ((decide_eq_true (todo_nil hu.h hu.w htd)).symm : true = _)) ?_
          refine WL.yes (by rfl) (Ex.callL (live19_spec) (by rfl) (by rfl) .nil ?_)
          rintro _ _ ⟨rfl, rfl⟩
          refine WL.yes (by rfl) (Ex.q (q_pick_t (by rfl) (by rfl)) (by rfl) ?_)
          refine WL.yes (by rfl) (Ex.q (q_assign (by rfl)) (by rfl) ?_)
          refine WL.nil ?_
          (repeat refine J.seq ?_)
          refine J.ret ?_
          (repeat (with_reducible first | refine Kseq.ret ?_ | refine Kblock.ret ?_ | refine Kloop.ret ?_ | refine Kcut.ret ?_))
          refine Kret.mk [] (.tmp (by rfl) (.nil)) (by rfl) trivial (HLe.nil _ _) ?_
          exact ⟨rfl, rfl⟩

end Go.Vm
