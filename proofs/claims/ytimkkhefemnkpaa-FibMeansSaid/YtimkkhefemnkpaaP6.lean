/- live, FibNil: the walks. -/
import Derived.Test.YtimkkhefemnkpaaP5
namespace Go.Vm
open Go Go.Proofs

theorem fnum_spec (n : Int) : SpecQ Try.prog 34 [iV n] (iV n) := by
  refine Spec.of_J Try.func34 rfl Try.ntmps34 Try.results34 rfl ?_
  intro A F hAF
  (repeat refine J.seq ?_)
  refine J.region ?_
  refine WL.yes (by rfl) (Ex.q (q_assign (by rfl)) (by rfl) ?_)
  refine WL.nil ?_
  (repeat refine J.seq ?_)
  refine J.region ?_
  refine WL.yes (by rfl) (Ex.q (q_move (by rfl)) (by rfl) ?_)
  refine WL.yes (by rfl) (Ex.q (q_assign (by rfl)) (by rfl) ?_)
  refine WL.nil ?_
  (repeat refine J.seq ?_)
  refine J.ret ?_
  (repeat (with_reducible first | refine Kseq.ret ?_ | refine Kblock.ret ?_ | refine Kloop.ret ?_ | refine Kcut.ret ?_))
  refine Kret.mk [] (.tmp (by rfl) (.nil)) (by rfl) trivial (HLe.nil _ _) ?_
  exact ⟨rfl, rfl⟩

set_option maxHeartbeats 16000000 in
set_option maxRecDepth 100000 in
theorem live19_spec  : Spec Try.prog 25 [] [] (fun r H' => r = .bool true ∧ H' = []) := by
  refine Spec.of_J Try.func25 rfl Try.ntmps25 Try.results25 rfl ?_
  intro A F hAF
  (repeat refine J.seq ?_)
  refine J.region ?_
  refine WL.yes (by rfl) (Ex.q (q_assign (by rfl)) (by rfl) ?_)
  refine WL.nil ?_
  (repeat refine J.seq ?_)
  refine J.region ?_
  refine WL.yes (by rfl) (Ex.callL (fNew_spec) (by rfl) (by rfl) .nil ?_)
  rintro _ _ ⟨fb, mh, mw, mf, wp, rfl, rfl⟩
  refine WL.yes (by rfl) (Ex.q (q_assign (by rfl)) (by rfl) ?_)
  refine WL.nil ?_
  (repeat refine J.seq ?_)
  refine J.region ?_
  refine WL.yes (by rfl) (Ex.q (q_build (parts := [(0, .const (.int .u8 32))]) (by rfl) (by rfl)) (by rfl) ?_)
  refine WL.yes (by rfl) (Ex.q (q_build (parts := [(0, .tmp 17), (1, .const (.int .i64 8))]) (by rfl) (by rfl)) (by rfl) ?_)
  refine WL.yes (by rfl) (Ex.q (q_build (parts := [(0, .tmp 18)]) (by rfl) (by rfl)) (by rfl) ?_)
  refine WL.yes (by rfl) (Ex.q (q_build (parts := [(0, .tmp 19), (1, .const (.int .i64 1))]) (by rfl) (by rfl)) (by rfl) ?_)
  refine WL.set 20 (enE lE) (by rfl) (by rfl) ?_
  refine WL.yes (by rfl) (Ex.alloc (by rfl) ?_)
  intro b2
  first | (refine WL.yes (by rfl) (Ex.store (by rfl) (by rfl) (by rfl) (by rfl) (by rfl) (by rfl) ?_)) | (refine WL.yes (by rfl) (Ex.store_pel (by rfl) (by rfl) (by rfl) (by rfl) (by rfl) ?_ (by rfl) ?_); (· (omega)))
  refine WL.nil ?_
  (repeat refine J.seq ?_)
  refine J.region ?_
  refine WL.yes (by rfl) (Ex.q (q_move (by rfl)) (by rfl) ?_)
  refine WL.yes (by rfl) (Ex.q (q_eqnil (by rfl) (by rfl) (by rfl)) (by rfl) ?_)
  refine WL.yes (by rfl) (Ex.q (q_move (by rfl)) (by rfl) ?_)
  refine WL.yes (by rfl) (Ex.q (q_move (by rfl)) (by rfl) ?_)
  refine WL.yes (by rfl) (Ex.callL (fDrained_spec fb mh mw mf wp (s := M0) M0_ok) (by rfl) (by rfl) (.cons rfl (.cons rfl (.cons rfl (.cons rfl (.cons rfl .nil))))) ?_)
  rintro _ _ ⟨hr, hH⟩
  (try rw [m0] at hr)
  (try rw [m0] at hH)
  subst hr hH
  refine WL.yes (by rfl) (Ex.q (q_not (by rfl)) (by rfl) ?_)
  refine WL.yes (by rfl) (Ex.q (q_pick_f (by rfl) (by rfl)) (by rfl) ?_)
  refine WL.nil ?_
  (repeat refine J.seq ?_)
  refine J.condF (by rfl) ?_
  (repeat refine J.seq ?_)
  refine J.skip ?_
  (repeat refine J.seq ?_)
  refine J.region ?_
  refine WL.yes (by rfl) (Ex.q (q_move (by rfl)) (by rfl) ?_)
  first | (refine WL.yes (by rfl) (Ex.h (h_load (by rfl) (by rfl) (by rfl)) (by rfl) ?_)) | (refine WL.yes (by rfl) (Ex.q (q_load (by rfl) (by rfl) (by rfl)) (by rfl) ?_)) | (refine WL.yes (by rfl) (Ex.q (q_load_rop (by rfl) (by rfl)) (by rfl) ?_)) | (refine WL.yes (by rfl) (Ex.h (h_load_pel (by rfl) (by rfl) ?_ (by rfl)) (by rfl) ?_); (· (omega))) | (refine WL.yes (by rfl) (Ex.q (q_load_pel (by rfl) (by rfl) ?_ (by rfl)) (by rfl) ?_); (· (omega)))
  refine WL.yes (by rfl) (Ex.buildSlice (parts := [(0, .tmp 29)]) (us := [_]) (by rfl) (by rfl) rfl (by rfl) (by rfl) ?_)
  intro b30
  refine WL.yes (by rfl) (Ex.callz _ (FO fb mh mw mf wp M0) [1060, 1051, 1052, 1053, 1054] (fspec_lit (l := [lE]) (us := [enE lE]) (fWant_spec fb mh mw mf wp (s := M0) (by simp [lE_ok]) (by rw [lx1]; decide) (by decide)) rfl rfl) (by rfl) (by rfl) (.cons (.same _) (.cons (.sla (by rfl)) .nil)) (Got.get (.cons rfl (.cons rfl (.cons rfl (.cons rfl (.cons rfl .nil)))))) plainFO ?_)
  rintro _ _ ⟨mw2, rfl, rfl⟩
  rw [m1]
  refine WL.nil ?_
  (repeat refine J.seq ?_)
  refine J.region ?_
  refine WL.yes (by rfl) (Ex.q (q_move (by rfl)) (by rfl) ?_)
  refine WL.yes (by rfl) (Ex.callL (fNext_spec fb mh mw2 mf wp (s := M1) (now := 0) M1_ok) (by rfl) (by rfl) (.cons rfl (.cons rfl (.cons rfl (.cons rfl (.cons rfl .nil))))) ?_)
  rintro _ _ ⟨wp2, hr, hH⟩
  (try rw [m2] at hr)
  (try rw [m2] at hH)
  subst hr hH
  refine WL.yes (by rfl) (Ex.q (q_move (by rfl)) (by rfl) ?_)
  first | (refine WL.yes (by rfl) (Ex.q (q_extract2 (by rfl) (by rfl)) (by rfl) ?_)) | (refine WL.yes (by rfl) (Ex.q (q_extract3 (by rfl) (by rfl)) (by rfl) ?_))
  first | (refine WL.yes (by rfl) (Ex.q (q_extract2 (by rfl) (by rfl)) (by rfl) ?_)) | (refine WL.yes (by rfl) (Ex.q (q_extract3 (by rfl) (by rfl)) (by rfl) ?_))
  refine WL.yes (by rfl) (Ex.alloc (by rfl) ?_)
  intro b3
  first | (refine WL.yes (by rfl) (Ex.store (by rfl) (by rfl) (by rfl) (by rfl) (by rfl) (by rfl) ?_)) | (refine WL.yes (by rfl) (Ex.store_pel (by rfl) (by rfl) (by rfl) (by rfl) (by rfl) ?_ (by rfl) ?_); (· (omega)))
  refine WL.yes (by rfl) (Ex.q (q_assign (by rfl)) (by rfl) ?_)
  refine WL.nil ?_
  (repeat refine J.seq ?_)
  refine J.region ?_
  refine WL.yes (by rfl) (Ex.q (q_move (by rfl)) (by rfl) ?_)
  refine WL.yes (by rfl) (Ex.callL (fReply_spec fb mh mw2 mf wp2 (s := M2) (now := 5) (ok := false) M2_ok (by decide)) (by rfl) (by rfl) (.cons rfl (.cons rfl (.cons rfl (.cons rfl (.cons rfl .nil))))) ?_)
  rintro _ _ ⟨hr, hH⟩
  (try rw [m3] at hr)
  (try rw [m3] at hH)
  subst hr hH
  refine WL.yes (by rfl) (Ex.q (q_assign (by rfl)) (by rfl) ?_)
  refine WL.nil ?_
  (repeat refine J.seq ?_)
  refine J.region ?_
  refine WL.yes (by rfl) (Ex.q (q_move (by rfl)) (by rfl) ?_)
  refine WL.yes (by rfl) (Ex.callL (fNext_spec fb mh mw2 mf wp2 (s := M3) (now := 6) M3_ok) (by rfl) (by rfl) (.cons rfl (.cons rfl (.cons rfl (.cons rfl (.cons rfl .nil))))) ?_)
  rintro _ _ ⟨wp3, hr, hH⟩
  (try rw [m4] at hr)
  (try rw [m4] at hH)
  subst hr hH
  refine WL.yes (by rfl) (Ex.q (q_move (by rfl)) (by rfl) ?_)
  first | (refine WL.yes (by rfl) (Ex.q (q_extract2 (by rfl) (by rfl)) (by rfl) ?_)) | (refine WL.yes (by rfl) (Ex.q (q_extract3 (by rfl) (by rfl)) (by rfl) ?_))
  first | (refine WL.yes (by rfl) (Ex.q (q_extract2 (by rfl) (by rfl)) (by rfl) ?_)) | (refine WL.yes (by rfl) (Ex.q (q_extract3 (by rfl) (by rfl)) (by rfl) ?_))
  refine WL.yes (by rfl) (Ex.alloc (by rfl) ?_)
  intro b6
  first | (refine WL.yes (by rfl) (Ex.store (by rfl) (by rfl) (by rfl) (by rfl) (by rfl) (by rfl) ?_)) | (refine WL.yes (by rfl) (Ex.store_pel (by rfl) (by rfl) (by rfl) (by rfl) (by rfl) ?_ (by rfl) ?_); (· (omega)))
  refine WL.yes (by rfl) (Ex.q (q_assign (by rfl)) (by rfl) ?_)
  refine WL.nil ?_
  (repeat refine J.seq ?_)
  refine J.region ?_
  refine WL.yes (by rfl) (Ex.q (q_move (by rfl)) (by rfl) ?_)
  refine WL.yes (by rfl) (Ex.callL (fAt_spec fb mh mw2 mf wp3 (s := M3) M3_ok) (by rfl) (by rfl) (.cons rfl (.cons rfl (.cons rfl (.cons rfl (.cons rfl .nil))))) ?_)
  rintro _ _ ⟨hr, hH⟩
  (try rw [m5] at hr)
  (try rw [m5] at hH)
  subst hr hH
  refine WL.yes (by rfl) (Ex.q (q_move (by rfl)) (by rfl) ?_)
  first | (refine WL.yes (by rfl) (Ex.q (q_extract2 (by rfl) (by rfl)) (by rfl) ?_)) | (refine WL.yes (by rfl) (Ex.q (q_extract3 (by rfl) (by rfl)) (by rfl) ?_))
  first | (refine WL.yes (by rfl) (Ex.q (q_extract2 (by rfl) (by rfl)) (by rfl) ?_)) | (refine WL.yes (by rfl) (Ex.q (q_extract3 (by rfl) (by rfl)) (by rfl) ?_))
  refine WL.yes (by rfl) (Ex.q (q_assign (by rfl)) (by rfl) ?_)
  refine WL.yes (by rfl) (Ex.q (q_assign (by rfl)) (by rfl) ?_)
  refine WL.nil ?_
  (repeat refine J.seq ?_)
  refine J.region ?_
  refine WL.yes (by rfl) (Ex.q (q_move (by rfl)) (by rfl) ?_)
  refine WL.yes (by rfl) (Ex.callL (fNext_spec fb mh mw2 mf wp3 (s := M3) (now := 1005) M3_ok) (by rfl) (by rfl) (.cons rfl (.cons rfl (.cons rfl (.cons rfl (.cons rfl .nil))))) ?_)
  rintro _ _ ⟨wp4, hr, hH⟩
  (try rw [m6] at hr)
  (try rw [m6] at hH)
  subst hr hH
  refine WL.yes (by rfl) (Ex.q (q_move (by rfl)) (by rfl) ?_)
  first | (refine WL.yes (by rfl) (Ex.q (q_extract2 (by rfl) (by rfl)) (by rfl) ?_)) | (refine WL.yes (by rfl) (Ex.q (q_extract3 (by rfl) (by rfl)) (by rfl) ?_))
  first | (refine WL.yes (by rfl) (Ex.q (q_extract2 (by rfl) (by rfl)) (by rfl) ?_)) | (refine WL.yes (by rfl) (Ex.q (q_extract3 (by rfl) (by rfl)) (by rfl) ?_))
  refine WL.yes (by rfl) (Ex.alloc (by rfl) ?_)
  intro b10
  first | (refine WL.yes (by rfl) (Ex.store (by rfl) (by rfl) (by rfl) (by rfl) (by rfl) (by rfl) ?_)) | (refine WL.yes (by rfl) (Ex.store_pel (by rfl) (by rfl) (by rfl) (by rfl) (by rfl) ?_ (by rfl) ?_); (· (omega)))
  refine WL.yes (by rfl) (Ex.q (q_assign (by rfl)) (by rfl) ?_)
  refine WL.nil ?_
  (repeat refine J.seq ?_)
  refine J.region ?_
  refine WL.yes (by rfl) (Ex.q (q_move (by rfl)) (by rfl) ?_)
  refine WL.yes (by rfl) (Ex.callL (fReply_spec fb mh mw2 mf wp4 (s := M4) (now := 1005) (ok := true) M4_ok (by decide)) (by rfl) (by rfl) (.cons rfl (.cons rfl (.cons rfl (.cons rfl (.cons rfl .nil))))) ?_)
  rintro _ _ ⟨hr, hH⟩
  (try rw [m7] at hr)
  (try rw [m7] at hH)
  subst hr hH
  refine WL.yes (by rfl) (Ex.q (q_assign (by rfl)) (by rfl) ?_)
  refine WL.nil ?_
  (repeat refine J.seq ?_)
  refine J.region ?_
  refine WL.yes (by rfl) (Ex.q (q_move (by rfl)) (by rfl) ?_)
  refine WL.yes (by rfl) (Ex.callL (fDrained_spec fb mh mw2 mf wp4 (s := M5) M5_ok) (by rfl) (by rfl) (.cons rfl (.cons rfl (.cons rfl (.cons rfl (.cons rfl .nil))))) ?_)
  rintro _ _ ⟨hr, hH⟩
  (try rw [m8] at hr)
  (try rw [m8] at hH)
  subst hr hH
  refine WL.yes (by rfl) (Ex.q (q_move (by rfl)) (by rfl) ?_)
  refine WL.yes (by rfl) (Ex.q (q_move (by rfl)) (by rfl) ?_)
  refine WL.yes (by rfl) (Ex.callL (fHas_spec fb mh mw2 mf wp4 (s := M5) M5_ok) (by rfl) (by rfl) (.cons rfl (.cons rfl (.cons rfl (.cons rfl (.cons rfl .nil))))) ?_)
  rintro _ _ ⟨a60, cap60, rfl, rfl⟩
  first | (refine WL.yes (by rfl) (Ex.q (q_len_slice (by rfl) (by rfl)) (by rfl) ?_)) | (refine WL.yes (by rfl) (Ex.q (q_len_string (by rfl)) (by rfl) ?_))
  first | (refine WL.yes (by rfl) (Ex.q (q_int (by rfl) (by rfl) (by rfl)) (by rfl) ?_)) | (refine WL.yes (by rfl) (Ex.q (q_eqb (by rfl) (by rfl)) (by rfl) ?_)) | (refine WL.yes (by rfl) (Ex.q (q_eqp rfl rfl (by rfl) (by rfl) ?_) (by rfl) ?_); (· (rfl))) | (refine WL.yes (by rfl) (Ex.q (q_eqs (by rfl) (by rfl)) (by rfl) ?_))
  refine WL.yes (by rfl) (Ex.q (q_pick_t (by rfl) (by rfl)) (by rfl) ?_)
  refine WL.set 63 (.bool true) (by rfl) (congrArg V.bool ((by rfl) : true = _)) ?_
  refine WL.yes (by rfl) (Ex.q (q_assign (by rfl)) (by rfl) ?_)
  refine WL.nil ?_
  (repeat refine J.seq ?_)
  refine J.region ?_
  refine WL.yes (by rfl) (Ex.q (q_move (by rfl)) (by rfl) ?_)
  refine WL.yes (by rfl) (Ex.callz _ (FO fb mh mw2 mf wp4 M5) [1060, 1051, 1052, 1053, 1054] (fWant_spec fb mh mw2 mf wp4 (a := none) (cap := 0) (l := []) (s := M5) (by simp) (by rw [lx0]; decide) (by decide)) (by rfl) (by rfl) (.cons (.same _) (.cons (.nil _) .nil)) (Got.get (.cons rfl (.cons rfl (.cons rfl (.cons rfl (.cons rfl .nil)))))) plainFO ?_)
  rintro _ _ ⟨mw3, rfl, rfl⟩
  rw [m9]
  refine WL.nil ?_
  (repeat refine J.seq ?_)
  refine J.region ?_
  refine WL.yes (by rfl) (Ex.q (q_move (by rfl)) (by rfl) ?_)
  refine WL.yes (by rfl) (Ex.callL (fNext_spec fb mh mw3 mf wp4 (s := M6) (now := 2000) M6_ok) (by rfl) (by rfl) (.cons rfl (.cons rfl (.cons rfl (.cons rfl (.cons rfl .nil))))) ?_)
  rintro _ _ ⟨wp5, hr, hH⟩
  (try rw [m10] at hr)
  (try rw [m10] at hH)
  subst hr hH
  refine WL.yes (by rfl) (Ex.q (q_move (by rfl)) (by rfl) ?_)
  first | (refine WL.yes (by rfl) (Ex.q (q_extract2 (by rfl) (by rfl)) (by rfl) ?_)) | (refine WL.yes (by rfl) (Ex.q (q_extract3 (by rfl) (by rfl)) (by rfl) ?_))
  first | (refine WL.yes (by rfl) (Ex.q (q_extract2 (by rfl) (by rfl)) (by rfl) ?_)) | (refine WL.yes (by rfl) (Ex.q (q_extract3 (by rfl) (by rfl)) (by rfl) ?_))
  refine WL.yes (by rfl) (Ex.alloc (by rfl) ?_)
  intro b14
  first | (refine WL.yes (by rfl) (Ex.store (by rfl) (by rfl) (by rfl) (by rfl) (by rfl) (by rfl) ?_)) | (refine WL.yes (by rfl) (Ex.store_pel (by rfl) (by rfl) (by rfl) (by rfl) (by rfl) ?_ (by rfl) ?_); (· (omega)))
  refine WL.yes (by rfl) (Ex.q (q_assign (by rfl)) (by rfl) ?_)
  refine WL.nil ?_
  (repeat refine J.seq ?_)
  refine J.region ?_
  refine WL.yes (by rfl) (Ex.q (q_move (by rfl)) (by rfl) ?_)
  refine WL.yes (by rfl) (Ex.q (q_move (by rfl)) (by rfl) ?_)
  first | (refine WL.yes (by rfl) (Ex.h (h_load (by rfl) (by rfl) (by rfl)) (by rfl) ?_)) | (refine WL.yes (by rfl) (Ex.q (q_load (by rfl) (by rfl) (by rfl)) (by rfl) ?_)) | (refine WL.yes (by rfl) (Ex.q (q_load_rop (by rfl) (by rfl)) (by rfl) ?_)) | (refine WL.yes (by rfl) (Ex.h (h_load_pel (by rfl) (by rfl) ?_ (by rfl)) (by rfl) ?_); (· (omega))) | (refine WL.yes (by rfl) (Ex.q (q_load_pel (by rfl) (by rfl) ?_ (by rfl)) (by rfl) ?_); (· (omega)))
  refine WL.set 73 (opE ⟨1, lE⟩) (by rfl) (by rfl) ?_
  first | (refine WL.yes (by rfl) (Ex.h (h_load (by rfl) (by rfl) (by rfl)) (by rfl) ?_)) | (refine WL.yes (by rfl) (Ex.q (q_load (by rfl) (by rfl) (by rfl)) (by rfl) ?_)) | (refine WL.yes (by rfl) (Ex.q (q_load_rop (by rfl) (by rfl)) (by rfl) ?_)) | (refine WL.yes (by rfl) (Ex.h (h_load_pel (by rfl) (by rfl) ?_ (by rfl)) (by rfl) ?_); (· (omega))) | (refine WL.yes (by rfl) (Ex.q (q_load_pel (by rfl) (by rfl) ?_ (by rfl)) (by rfl) ?_); (· (omega)))
  refine WL.yes (by rfl) (Ex.q (q_build (parts := [(0, .const (.int .i64 1)), (1, .tmp 74)]) (by rfl) (by rfl)) (by rfl) ?_)
  refine WL.set 75 (opE ⟨1, lE⟩) (by rfl) (by rfl) ?_
  first | (refine WL.yes (by rfl) (Ex.q (q_int (by rfl) (by rfl) (by rfl)) (by rfl) ?_)) | (refine WL.yes (by rfl) (Ex.q (q_eqb (by rfl) (by rfl)) (by rfl) ?_)) | (refine WL.yes (by rfl) (Ex.q (q_eqp rfl rfl (by rfl) (by rfl) ?_) (by rfl) ?_); (· (rfl))) | (refine WL.yes (by rfl) (Ex.q (q_eqs (by rfl) (by rfl)) (by rfl) ?_))
  refine WL.yes (by rfl) (Ex.q (q_pick_t (by rfl) (by rfl)) (by rfl) ?_)
  refine WL.yes (by rfl) (Ex.q (q_move (by rfl)) (by rfl) ?_)
  refine WL.set 78 (.bool true) (by rfl) (congrArg V.bool ((by rfl) : true = _)) ?_
  refine WL.yes (by rfl) (Ex.q (q_move (by rfl)) (by rfl) ?_)
  refine WL.yes (by rfl) (Ex.q (q_not (by rfl)) (by rfl) ?_)
  refine WL.yes (by rfl) (Ex.q (q_pick_t (by rfl) (by rfl)) (by rfl) ?_)
  refine WL.yes (by rfl) (Ex.q (q_move (by rfl)) (by rfl) ?_)
  refine WL.yes (by rfl) (Ex.q (q_move (by rfl)) (by rfl) ?_)
  first | (refine WL.yes (by rfl) (Ex.q (q_int (by rfl) (by rfl) (by rfl)) (by rfl) ?_)) | (refine WL.yes (by rfl) (Ex.q (q_eqb (by rfl) (by rfl)) (by rfl) ?_)) | (refine WL.yes (by rfl) (Ex.q (q_eqp rfl rfl (by rfl) (by rfl) ?_) (by rfl) ?_); (· (rfl))) | (refine WL.yes (by rfl) (Ex.q (q_eqs (by rfl) (by rfl)) (by rfl) ?_))
  refine WL.yes (by rfl) (Ex.q (q_pick_t (by rfl) (by rfl)) (by rfl) ?_)
  refine WL.yes (by rfl) (Ex.q (q_move (by rfl)) (by rfl) ?_)
  refine WL.set 86 (.bool true) (by rfl) (congrArg V.bool ((by rfl) : true = _)) ?_
  refine WL.yes (by rfl) (Ex.q (q_move (by rfl)) (by rfl) ?_)
  refine WL.yes (by rfl) (Ex.q (q_pick_t (by rfl) (by rfl)) (by rfl) ?_)
  refine WL.yes (by rfl) (Ex.q (q_move (by rfl)) (by rfl) ?_)
  refine WL.yes (by rfl) (Ex.q (q_move (by rfl)) (by rfl) ?_)
  refine WL.yes (by rfl) (Ex.q (q_pick_t (by rfl) (by rfl)) (by rfl) ?_)
  refine WL.yes (by rfl) (Ex.q (q_move (by rfl)) (by rfl) ?_)
  first | (refine WL.yes (by rfl) (Ex.h (h_load (by rfl) (by rfl) (by rfl)) (by rfl) ?_)) | (refine WL.yes (by rfl) (Ex.q (q_load (by rfl) (by rfl) (by rfl)) (by rfl) ?_)) | (refine WL.yes (by rfl) (Ex.q (q_load_rop (by rfl) (by rfl)) (by rfl) ?_)) | (refine WL.yes (by rfl) (Ex.h (h_load_pel (by rfl) (by rfl) ?_ (by rfl)) (by rfl) ?_); (· (omega))) | (refine WL.yes (by rfl) (Ex.q (q_load_pel (by rfl) (by rfl) ?_ (by rfl)) (by rfl) ?_); (· (omega)))
  refine WL.set 93 (opE ⟨1, lE⟩) (by rfl) (by rfl) ?_
  first | (refine WL.yes (by rfl) (Ex.h (h_load (by rfl) (by rfl) (by rfl)) (by rfl) ?_)) | (refine WL.yes (by rfl) (Ex.q (q_load (by rfl) (by rfl) (by rfl)) (by rfl) ?_)) | (refine WL.yes (by rfl) (Ex.q (q_load_rop (by rfl) (by rfl)) (by rfl) ?_)) | (refine WL.yes (by rfl) (Ex.h (h_load_pel (by rfl) (by rfl) ?_ (by rfl)) (by rfl) ?_); (· (omega))) | (refine WL.yes (by rfl) (Ex.q (q_load_pel (by rfl) (by rfl) ?_ (by rfl)) (by rfl) ?_); (· (omega)))
  refine WL.set 94 (opE ⟨1, lE⟩) (by rfl) (by rfl) ?_
  first | (refine WL.yes (by rfl) (Ex.q (q_int (by rfl) (by rfl) (by rfl)) (by rfl) ?_)) | (refine WL.yes (by rfl) (Ex.q (q_eqb (by rfl) (by rfl)) (by rfl) ?_)) | (refine WL.yes (by rfl) (Ex.q (q_eqp rfl rfl (by rfl) (by rfl) ?_) (by rfl) ?_); (· (rfl))) | (refine WL.yes (by rfl) (Ex.q (q_eqs (by rfl) (by rfl)) (by rfl) ?_))
  refine WL.yes (by rfl) (Ex.q (q_pick_t (by rfl) (by rfl)) (by rfl) ?_)
  refine WL.yes (by rfl) (Ex.q (q_move (by rfl)) (by rfl) ?_)
  refine WL.set 97 (.bool true) (by rfl) (congrArg V.bool ((by rfl) : true = _)) ?_
  refine WL.yes (by rfl) (Ex.q (q_move (by rfl)) (by rfl) ?_)
  refine WL.yes (by rfl) (Ex.callq (fnum_spec _) (by rfl) (by rfl) rfl (fun _ h => h) ?_)
  refine WL.yes (by rfl) (Ex.q (q_move (by rfl)) (by rfl) ?_)
  refine WL.yes (by rfl) (Ex.callq (fnum_spec _) (by rfl) (by rfl) rfl (fun _ h => h) ?_)
  refine WL.yes (by rfl) (Ex.q (q_int (by rfl) (by rfl) (by rfl)) (by rfl) ?_)
  first | (refine WL.yes (by rfl) (Ex.q (q_int (by rfl) (by rfl) (by rfl)) (by rfl) ?_)) | (refine WL.yes (by rfl) (Ex.q (q_eqb (by rfl) (by rfl)) (by rfl) ?_)) | (refine WL.yes (by rfl) (Ex.q (q_eqp rfl rfl (by rfl) (by rfl) ?_) (by rfl) ?_); (· (rfl))) | (refine WL.yes (by rfl) (Ex.q (q_eqs (by rfl) (by rfl)) (by rfl) ?_))
  refine WL.yes (by rfl) (Ex.q (q_pick_t (by rfl) (by rfl)) (by rfl) ?_)
  refine WL.yes (by rfl) (Ex.q (q_move (by rfl)) (by rfl) ?_)
  refine WL.set 105 (.bool true) (by rfl) (congrArg V.bool ((by rfl) : true = _)) ?_
  refine WL.yes (by rfl) (Ex.q (q_move (by rfl)) (by rfl) ?_)
  refine WL.yes (by rfl) (Ex.q (q_pick_t (by rfl) (by rfl)) (by rfl) ?_)
  refine WL.yes (by rfl) (Ex.q (q_move (by rfl)) (by rfl) ?_)
  refine WL.yes (by rfl) (Ex.q (q_move (by rfl)) (by rfl) ?_)
  refine WL.yes (by rfl) (Ex.q (q_pick_t (by rfl) (by rfl)) (by rfl) ?_)
  refine WL.yes (by rfl) (Ex.q (q_move (by rfl)) (by rfl) ?_)
  first | (refine WL.yes (by rfl) (Ex.q (q_fieldAddr (by rfl)) (by rfl) ?_)) | (refine WL.yes (by rfl) (Ex.q (q_fieldAddr_rop (by rfl) (by rfl)) (by rfl) ?_)) | (refine WL.yes (by rfl) (Ex.q (q_fieldAddr_pel (by rfl)) (by rfl) ?_))
  first | (refine WL.yes (by rfl) (Ex.h (h_load (by rfl) (by rfl) (by rfl)) (by rfl) ?_)) | (refine WL.yes (by rfl) (Ex.q (q_load (by rfl) (by rfl) (by rfl)) (by rfl) ?_)) | (refine WL.yes (by rfl) (Ex.q (q_load_rop (by rfl) (by rfl)) (by rfl) ?_)) | (refine WL.yes (by rfl) (Ex.h (h_load_pel (by rfl) (by rfl) ?_ (by rfl)) (by rfl) ?_); (· (omega))) | (refine WL.yes (by rfl) (Ex.q (q_load_pel (by rfl) (by rfl) ?_ (by rfl)) (by rfl) ?_); (· (omega)))
  first | (refine WL.yes (by rfl) (Ex.q (q_int (by rfl) (by rfl) (by rfl)) (by rfl) ?_)) | (refine WL.yes (by rfl) (Ex.q (q_eqb (by rfl) (by rfl)) (by rfl) ?_)) | (refine WL.yes (by rfl) (Ex.q (q_eqp rfl rfl (by rfl) (by rfl) ?_) (by rfl) ?_); (· (rfl))) | (refine WL.yes (by rfl) (Ex.q (q_eqs (by rfl) (by rfl)) (by rfl) ?_))
  refine WL.yes (by rfl) (Ex.q (q_pick_t (by rfl) (by rfl)) (by rfl) ?_)
  refine WL.yes (by rfl) (Ex.q (q_move (by rfl)) (by rfl) ?_)
  refine WL.set 116 (.bool true) (by rfl) (congrArg V.bool ((by rfl) : true = _)) ?_
  refine WL.yes (by rfl) (Ex.q (q_move (by rfl)) (by rfl) ?_)
  refine WL.yes (by rfl) (Ex.callL (fReply_spec fb mh mw3 mf wp5 (s := M7) (now := 2000) (ok := true) M7_ok (by decide)) (by rfl) (by rfl) (.cons rfl (.cons rfl (.cons rfl (.cons rfl (.cons rfl .nil))))) ?_)
  rintro _ _ ⟨hr, hH⟩
  (try rw [m11] at hr)
  (try rw [m11] at hH)
  subst hr hH
  refine WL.yes (by rfl) (Ex.callq (fnum_spec _) (by rfl) (by rfl) rfl (fun _ h => h) ?_)
  first | (refine WL.yes (by rfl) (Ex.q (q_int (by rfl) (by rfl) (by rfl)) (by rfl) ?_)) | (refine WL.yes (by rfl) (Ex.q (q_eqb (by rfl) (by rfl)) (by rfl) ?_)) | (refine WL.yes (by rfl) (Ex.q (q_eqp rfl rfl (by rfl) (by rfl) ?_) (by rfl) ?_); (· (rfl))) | (refine WL.yes (by rfl) (Ex.q (q_eqs (by rfl) (by rfl)) (by rfl) ?_))
  refine WL.yes (by rfl) (Ex.q (q_pick_t (by rfl) (by rfl)) (by rfl) ?_)
  refine WL.yes (by rfl) (Ex.q (q_move (by rfl)) (by rfl) ?_)
  refine WL.set 122 (.bool true) (by rfl) (congrArg V.bool ((by rfl) : true = _)) ?_
  refine WL.yes (by rfl) (Ex.q (q_move (by rfl)) (by rfl) ?_)
  refine WL.yes (by rfl) (Ex.callL (fHas_spec fb mh mw3 mf wp5 (s := M8) M8_ok) (by rfl) (by rfl) (.cons rfl (.cons rfl (.cons rfl (.cons rfl (.cons rfl .nil))))) ?_)
  rintro _ _ ⟨a124, cap124, rfl, rfl⟩
  first | (refine WL.yes (by rfl) (Ex.q (q_len_slice (by rfl) (by rfl)) (by rfl) ?_)) | (refine WL.yes (by rfl) (Ex.q (q_len_string (by rfl)) (by rfl) ?_))
  first | (refine WL.yes (by rfl) (Ex.q (q_int (by rfl) (by rfl) (by rfl)) (by rfl) ?_)) | (refine WL.yes (by rfl) (Ex.q (q_eqb (by rfl) (by rfl)) (by rfl) ?_)) | (refine WL.yes (by rfl) (Ex.q (q_eqp rfl rfl (by rfl) (by rfl) ?_) (by rfl) ?_); (· (rfl))) | (refine WL.yes (by rfl) (Ex.q (q_eqs (by rfl) (by rfl)) (by rfl) ?_))
  refine WL.yes (by rfl) (Ex.q (q_pick_t (by rfl) (by rfl)) (by rfl) ?_)
  refine WL.set 127 (.bool true) (by rfl) (congrArg V.bool ((by rfl) : true = _)) ?_
  refine WL.yes (by rfl) (Ex.q (q_assign (by rfl)) (by rfl) ?_)
  refine WL.nil ?_
  (repeat refine J.seq ?_)
  refine J.ret ?_
  (repeat (with_reducible first | refine Kseq.ret ?_ | refine Kblock.ret ?_ | refine Kloop.ret ?_ | refine Kcut.ret ?_))
  refine Kret.mk [] (.tmp (by rfl) (.nil)) (by rfl) trivial (HLe.nil _ _) ?_
  exact ⟨rfl, rfl⟩

set_option maxHeartbeats 16000000 in
set_option maxRecDepth 100000 in
theorem fibNil_spec {e : En} : Spec Try.prog 8 [enE e] [] (fun r H' => r = .bool true ∧ H' = []) := by
  refine Spec.of_J Try.func8 rfl Try.ntmps8 Try.results8 rfl ?_
  intro A F hAF
  (repeat refine J.seq ?_)
  refine J.region ?_
  refine WL.yes (by rfl) (Ex.box (by rfl) (by rfl) (by rfl) ?_)
  intro b1
  refine WL.yes (by rfl) (Ex.q (q_assign (by rfl)) (by rfl) ?_)
  refine WL.nil ?_
  (repeat refine J.seq ?_)
  refine J.region ?_
  refine WL.yes (by rfl) (Ex.q (q_assign (by rfl)) (by rfl) ?_)
  refine WL.nil ?_
  (repeat refine J.seq ?_)
  refine J.region ?_
  refine WL.yes (by rfl) (Ex.q (q_move (by rfl)) (by rfl) ?_)
  first | (refine WL.yes (by rfl) (Ex.h (h_load (by rfl) (by rfl) (by rfl)) (by rfl) ?_)) | (refine WL.yes (by rfl) (Ex.q (q_load (by rfl) (by rfl) (by rfl)) (by rfl) ?_)) | (refine WL.yes (by rfl) (Ex.q (q_load_rop (by rfl) (by rfl)) (by rfl) ?_)) | (refine WL.yes (by rfl) (Ex.h (h_load_pel (by rfl) (by rfl) ?_ (by rfl)) (by rfl) ?_); (· (omega))) | (refine WL.yes (by rfl) (Ex.q (q_load_pel (by rfl) (by rfl) ?_ (by rfl)) (by rfl) ?_); (· (omega)))
  refine WL.yes (by rfl) (Ex.buildSlice (parts := [(0, .tmp 9)]) (us := [_]) (by rfl) (by rfl) rfl (by rfl) (by rfl) ?_)
  intro b10
  refine WL.yes (by rfl) (Ex.callqz (fspec_lit (l := [e]) (us := [enE e]) fWantNil_spec rfl rfl) (by rfl) (by rfl) (.cons (.same _) (.cons (.sla (by rfl)) .nil)) (fun _ => trivial) ?_)
  refine WL.nil ?_
  (repeat refine J.seq ?_)
  refine J.region ?_
  refine WL.yes (by rfl) (Ex.q (q_move (by rfl)) (by rfl) ?_)
  refine WL.yes (by rfl) (Ex.callq (fNextNil_spec) (by rfl) (by rfl) rfl (fun _ h => h) ?_)
  refine WL.yes (by rfl) (Ex.q (q_move (by rfl)) (by rfl) ?_)
  first | (refine WL.yes (by rfl) (Ex.q (q_extract2 (by rfl) (by rfl)) (by rfl) ?_)) | (refine WL.yes (by rfl) (Ex.q (q_extract3 (by rfl) (by rfl)) (by rfl) ?_))
  first | (refine WL.yes (by rfl) (Ex.q (q_extract2 (by rfl) (by rfl)) (by rfl) ?_)) | (refine WL.yes (by rfl) (Ex.q (q_extract3 (by rfl) (by rfl)) (by rfl) ?_))
  refine WL.yes (by rfl) (Ex.alloc (by rfl) ?_)
  intro b4
  first | (refine WL.yes (by rfl) (Ex.store (by rfl) (by rfl) (by rfl) (by rfl) (by rfl) (by rfl) ?_)) | (refine WL.yes (by rfl) (Ex.store_pel (by rfl) (by rfl) (by rfl) (by rfl) (by rfl) ?_ (by rfl) ?_); (· (omega)))
  refine WL.yes (by rfl) (Ex.q (q_assign (by rfl)) (by rfl) ?_)
  refine WL.nil ?_
  (repeat refine J.seq ?_)
  refine J.region ?_
  refine WL.yes (by rfl) (Ex.q (q_move (by rfl)) (by rfl) ?_)
  refine WL.yes (by rfl) (Ex.callq (fAtNil_spec) (by rfl) (by rfl) rfl (fun _ h => h) ?_)
  refine WL.yes (by rfl) (Ex.q (q_move (by rfl)) (by rfl) ?_)
  first | (refine WL.yes (by rfl) (Ex.q (q_extract2 (by rfl) (by rfl)) (by rfl) ?_)) | (refine WL.yes (by rfl) (Ex.q (q_extract3 (by rfl) (by rfl)) (by rfl) ?_))
  first | (refine WL.yes (by rfl) (Ex.q (q_extract2 (by rfl) (by rfl)) (by rfl) ?_)) | (refine WL.yes (by rfl) (Ex.q (q_extract3 (by rfl) (by rfl)) (by rfl) ?_))
  refine WL.yes (by rfl) (Ex.q (q_assign (by rfl)) (by rfl) ?_)
  refine WL.yes (by rfl) (Ex.q (q_assign (by rfl)) (by rfl) ?_)
  refine WL.nil ?_
  (repeat refine J.seq ?_)
  refine J.region ?_
  refine WL.yes (by rfl) (Ex.q (q_move (by rfl)) (by rfl) ?_)
  refine WL.yes (by rfl) (Ex.q (q_not (by rfl)) (by rfl) ?_)
  refine WL.yes (by rfl) (Ex.q (q_move (by rfl)) (by rfl) ?_)
  refine WL.yes (by rfl) (Ex.q (q_move (by rfl)) (by rfl) ?_)
  refine WL.yes (by rfl) (Ex.q (q_not (by rfl)) (by rfl) ?_)
  refine WL.yes (by rfl) (Ex.q (q_pick_t (by rfl) (by rfl)) (by rfl) ?_)
  refine WL.yes (by rfl) (Ex.q (q_move (by rfl)) (by rfl) ?_)
  refine WL.yes (by rfl) (Ex.q (q_move (by rfl)) (by rfl) ?_)
  refine WL.yes (by rfl) (Ex.callq (fReplyNil_spec) (by rfl) (by rfl) rfl (fun _ h => h) ?_)
  refine WL.yes (by rfl) (Ex.callq (fnum_spec _) (by rfl) (by rfl) rfl (fun _ h => h) ?_)
  first | (refine WL.yes (by rfl) (Ex.q (q_int (by rfl) (by rfl) (by rfl)) (by rfl) ?_)) | (refine WL.yes (by rfl) (Ex.q (q_eqb (by rfl) (by rfl)) (by rfl) ?_)) | (refine WL.yes (by rfl) (Ex.q (q_eqp rfl rfl (by rfl) (by rfl) ?_) (by rfl) ?_); (· (rfl))) | (refine WL.yes (by rfl) (Ex.q (q_eqs (by rfl) (by rfl)) (by rfl) ?_))
  refine WL.yes (by rfl) (Ex.q (q_pick_t (by rfl) (by rfl)) (by rfl) ?_)
  refine WL.yes (by rfl) (Ex.q (q_move (by rfl)) (by rfl) ?_)
  refine WL.set 34 (.bool true) (by rfl) (congrArg V.bool ((by rfl) : true = _)) ?_
  refine WL.yes (by rfl) (Ex.q (q_move (by rfl)) (by rfl) ?_)
  refine WL.yes (by rfl) (Ex.callq (fDrainedNil_spec) (by rfl) (by rfl) rfl (fun _ h => h) ?_)
  refine WL.yes (by rfl) (Ex.q (q_pick_t (by rfl) (by rfl)) (by rfl) ?_)
  refine WL.yes (by rfl) (Ex.q (q_move (by rfl)) (by rfl) ?_)
  refine WL.yes (by rfl) (Ex.q (q_move (by rfl)) (by rfl) ?_)
  refine WL.yes (by rfl) (Ex.callq (fHasNil_spec) (by rfl) (by rfl) rfl (fun _ h => h) ?_)
  first | (refine WL.yes (by rfl) (Ex.q (q_len_slice (by rfl) (by rfl)) (by rfl) ?_)) | (refine WL.yes (by rfl) (Ex.q (q_len_string (by rfl)) (by rfl) ?_))
  refine WL.yes (by rfl) (Ex.q (q_move (by rfl)) (by rfl) ?_)
  refine WL.yes (by rfl) (Ex.callq (fWantedNil_spec) (by rfl) (by rfl) rfl (fun _ h => h) ?_)
  first | (refine WL.yes (by rfl) (Ex.q (q_len_slice (by rfl) (by rfl)) (by rfl) ?_)) | (refine WL.yes (by rfl) (Ex.q (q_len_string (by rfl)) (by rfl) ?_))
  refine WL.yes (by rfl) (Ex.q (q_int (by rfl) (by rfl) (by rfl)) (by rfl) ?_)
  first | (refine WL.yes (by rfl) (Ex.q (q_int (by rfl) (by rfl) (by rfl)) (by rfl) ?_)) | (refine WL.yes (by rfl) (Ex.q (q_eqb (by rfl) (by rfl)) (by rfl) ?_)) | (refine WL.yes (by rfl) (Ex.q (q_eqp rfl rfl (by rfl) (by rfl) ?_) (by rfl) ?_); (· (rfl))) | (refine WL.yes (by rfl) (Ex.q (q_eqs (by rfl) (by rfl)) (by rfl) ?_))
  refine WL.yes (by rfl) (Ex.q (q_pick_t (by rfl) (by rfl)) (by rfl) ?_)
  refine WL.yes (by rfl) (Ex.q (q_move (by rfl)) (by rfl) ?_)
  refine WL.set 48 (.bool true) (by rfl) (congrArg V.bool ((by rfl) : true = _)) ?_
  refine WL.yes (by rfl) (Ex.callL (live19_spec) (by rfl) (by rfl) .nil ?_)
  rintro _ _ ⟨rfl, rfl⟩
  refine WL.yes (by rfl) (Ex.q (q_pick_t (by rfl) (by rfl)) (by rfl) ?_)
  refine WL.yes (by rfl) (Ex.q (q_assign (by rfl)) (by rfl) ?_)
  refine WL.nil ?_
  (repeat refine J.seq ?_)
  refine J.ret ?_
  (repeat (with_reducible first | refine Kseq.ret ?_ | refine Kblock.ret ?_ | refine Kloop.ret ?_ | refine Kcut.ret ?_))
  refine Kret.mk [] (.tmp (by rfl) (.nil)) (by rfl) trivial (HLe.nil _ _) ?_
  exact ⟨rfl, rfl⟩

end Go.Vm
