/- The kernel's laws: live, KernelNil: the walks. -/
import Derived.Test.YtimkkhefemnkpaaF10
namespace Go.Vm
open Go Go.Proofs

set_option maxHeartbeats 16000000 in
set_option maxRecDepth 100000 in
theorem live20_spec  : Spec Try.prog 12 [] [] (fun r H' => r = .bool true ∧ H' = []) := by
  refine Spec.of_J Try.func12 rfl Try.ntmps12 Try.results12 rfl ?_
  intro A F hAF
  (repeat refine J.seq ?_)
  refine J.region ?_
  refine WL.yes (by rfl) (Ex.q (q_assign (by rfl)) (by rfl) ?_)
  refine WL.nil ?_
  (repeat refine J.seq ?_)
  refine J.region ?_
  refine WL.yes (by rfl) (Ex.callL (kNew_spec) (by rfl) (by rfl) .nil ?_)
  rintro _ _ ⟨kb, kt, ku, rfl, rfl⟩
  refine WL.yes (by rfl) (Ex.q (q_assign (by rfl)) (by rfl) ?_)
  refine WL.nil ?_
  (repeat refine J.seq ?_)
  refine J.region ?_
  refine WL.yes (by rfl) (Ex.callq (func4_spec _ _ _ _) (by rfl) (by rfl) rfl (fun _ h => h) ?_)
  refine WL.yes (by rfl) (Ex.alloc (by rfl) ?_)
  intro b2
  first | (refine WL.yes (by rfl) (Ex.store (by rfl) (by rfl) (by rfl) (by rfl) (by rfl) (by rfl) ?_)) | (refine WL.yes (by rfl) (Ex.store_pel (by rfl) (by rfl) (by rfl) (by rfl) (by rfl) ?_ (by rfl) ?_); (· (omega)))
  refine WL.nil ?_
  (repeat refine J.seq ?_)
  refine J.drawT [2, 1051, 1052, 1060] 9999 (by kernel_rfl) (by kernel_rfl) ?_
  intro F1 hF1
  first | (refine WT.take (i := 0) rfl (by rfl) (by rfl) (by kernel_rfl) (q_load (by rfl) (by rfl) (by rfl)) ?_) | (refine WT.take (i := 0) rfl (by rfl) (by rfl) (by kernel_rfl) (q_load_rop (by rfl) (by rfl)) ?_) | (refine WT.take (i := 0) rfl (by rfl) (by rfl) (by kernel_rfl) (q_load_pel (by rfl) (by rfl) ?_ (by rfl)) ?_; (· (omega)))
  refine WT.take (i := 1) rfl (by rfl) (by rfl) (by kernel_rfl) (q_build (parts := [(0, .tmp 13), (1, .const (.int .i64 104))]) (by rfl) (by rfl)) ?_
  refine WT.two (i := 2) (j := 5) rfl rfl (by rfl) (by rfl) (by kernel_rfl) ?_ ?_
  · skip
    refine Ex.callq (anyR_spec _) (by rfl) (by rfl) rfl (fun _ h => h) ?_
    refine WT.take (i := 3) rfl (by rfl) (by rfl) (by kernel_rfl) (q_build (parts := [(0, .tmp 14), (1, .tmp 15)]) (by rfl) (by rfl)) ?_
    refine WT.take (i := 4) rfl (by rfl) (by rfl) (by kernel_rfl) (q_build (parts := [(0, .tmp 16), (1, .const (.int .i64 1))]) (by rfl) (by rfl)) ?_
    refine WT.one (i := 5) rfl (by rfl) (by kernel_rfl) (Ex.alloc (by rfl) ?_)
    intro b3
    first | (refine WT.one (i := 6) rfl (by rfl) (by kernel_rfl) (Ex.store (by rfl) (by rfl) (by rfl) (by rfl) (by rfl) (by rfl) ?_)) | (refine WT.one (i := 6) rfl (by rfl) (by kernel_rfl) (Ex.store_pel (by rfl) (by rfl) (by rfl) (by rfl) (by rfl) ?_ (by rfl) ?_); (· (omega)))
    refine WT.nil (by kernel_rfl) ?_
    (repeat refine J.seq ?_)
    refine J.region ?_
    refine WL.yes (by rfl) (Ex.callq (func4_spec _ _ _ _) (by rfl) (by rfl) rfl (fun _ h => h) ?_)
    refine WL.yes (by rfl) (Ex.q (q_build (parts := [(0, .tmp 18), (1, .const (.int .i64 112))]) (by rfl) (by rfl)) (by rfl) ?_)
    refine WL.yes (by rfl) (Ex.callq (func4_spec _ _ _ _) (by rfl) (by rfl) rfl (fun _ h => h) ?_)
    refine WL.yes (by rfl) (Ex.q (q_build (parts := [(0, .tmp 20), (1, .const (.int .i64 104))]) (by rfl) (by rfl)) (by rfl) ?_)
    refine WL.yes (by rfl) (Ex.q (q_build (parts := [(0, .tmp 19), (1, .tmp 21)]) (by rfl) (by rfl)) (by rfl) ?_)
    refine WL.yes (by rfl) (Ex.q (q_build (parts := [(0, .tmp 22), (1, .const (.int .i64 2))]) (by rfl) (by rfl)) (by rfl) ?_)
    refine WL.yes (by rfl) (Ex.alloc (by rfl) ?_)
    intro b4
    first | (refine WL.yes (by rfl) (Ex.store (by rfl) (by rfl) (by rfl) (by rfl) (by rfl) (by rfl) ?_)) | (refine WL.yes (by rfl) (Ex.store_pel (by rfl) (by rfl) (by rfl) (by rfl) (by rfl) ?_ (by rfl) ?_); (· (omega)))
    refine WL.nil ?_
    (repeat refine J.seq ?_)
    refine J.region ?_
    refine WL.yes (by rfl) (Ex.q (q_move (by rfl)) (by rfl) ?_)
    refine WL.yes (by rfl) (Ex.q (q_eqnil (by rfl) (by rfl) (by rfl)) (by rfl) ?_)
    refine WL.yes (by rfl) (Ex.q (q_move (by rfl)) (by rfl) ?_)
    refine WL.yes (by rfl) (Ex.q (q_move (by rfl)) (by rfl) ?_)
    first | (refine WL.yes (by rfl) (Ex.h (h_load (by rfl) (by rfl) (by rfl)) (by rfl) ?_)) | (refine WL.yes (by rfl) (Ex.q (q_load (by rfl) (by rfl) (by rfl)) (by rfl) ?_)) | (refine WL.yes (by rfl) (Ex.q (q_load_rop (by rfl) (by rfl)) (by rfl) ?_)) | (refine WL.yes (by rfl) (Ex.h (h_load_pel (by rfl) (by rfl) ?_ (by rfl)) (by rfl) ?_); (· (omega))) | (refine WL.yes (by rfl) (Ex.q (q_load_pel (by rfl) (by rfl) ?_ (by rfl)) (by rfl) ?_); (· (omega)))
    refine WL.yes (by rfl) (Ex.q (q_build (parts := [(0, .const (.int .i64 1)), (1, .tmp 28)]) (by rfl) (by rfl)) (by rfl) ?_)
    refine WL.yes (by rfl) (Ex.callL (kDo_spec kb kt ku (s := L0) (o := ⟨1, lA⟩) KI.zero.toKOk' lA_ok) (by rfl) (by rfl) (.cons rfl (.cons rfl (.cons rfl .nil))) ?_)
    rintro _ _ ⟨hr, hH⟩
    rw [l1] at hr hH
    subst hr hH
    refine WL.yes (by rfl) (Ex.q (q_not (by rfl)) (by rfl) ?_)
    refine WL.yes (by rfl) (Ex.q (q_pick_f (by rfl) (by rfl)) (by rfl) ?_)
    refine WL.yes (by rfl) (Ex.q (q_move (by rfl)) (by rfl) ?_)
    refine WL.yes (by rfl) (Ex.q (q_move (by rfl)) (by rfl) ?_)
    first | (refine WL.yes (by rfl) (Ex.h (h_load (by rfl) (by rfl) (by rfl)) (by rfl) ?_)) | (refine WL.yes (by rfl) (Ex.q (q_load (by rfl) (by rfl) (by rfl)) (by rfl) ?_)) | (refine WL.yes (by rfl) (Ex.q (q_load_rop (by rfl) (by rfl)) (by rfl) ?_)) | (refine WL.yes (by rfl) (Ex.h (h_load_pel (by rfl) (by rfl) ?_ (by rfl)) (by rfl) ?_); (· (omega))) | (refine WL.yes (by rfl) (Ex.q (q_load_pel (by rfl) (by rfl) ?_ (by rfl)) (by rfl) ?_); (· (omega)))
    refine WL.yes (by rfl) (Ex.q (q_build (parts := [(0, .const (.int .i64 1)), (1, .tmp 35)]) (by rfl) (by rfl)) (by rfl) ?_)
    refine WL.yes (by rfl) (Ex.callL (kDo_spec kb kt ku (s := L1) (o := ⟨1, lB⟩) L1_ki.toKOk' lB_ok) (by rfl) (by rfl) (.cons rfl (.cons rfl (.cons rfl .nil))) ?_)
    rintro _ _ ⟨hr, hH⟩
    rw [l2] at hr hH
    subst hr hH
    refine WL.yes (by rfl) (Ex.q (q_not (by rfl)) (by rfl) ?_)
    refine WL.yes (by rfl) (Ex.q (q_pick_f (by rfl) (by rfl)) (by rfl) ?_)
    refine WL.nil ?_
    (repeat refine J.seq ?_)
    refine J.condF (by rfl) ?_
    (repeat refine J.seq ?_)
    refine J.skip ?_
    (repeat refine J.seq ?_)
    refine J.region ?_
    refine WL.yes (by rfl) (Ex.q (q_move (by rfl)) (by rfl) ?_)
    refine WL.yes (by rfl) (Ex.callq (func4_spec _ _ _ _) (by rfl) (by rfl) rfl (fun _ h => h) ?_)
    refine WL.yes (by rfl) (Ex.callq (func4_spec _ _ _ _) (by rfl) (by rfl) rfl (fun _ h => h) ?_)
    refine WL.yes (by rfl) (Ex.callL (kLookup_spec kb kt ku (s := L2) (src := (f4 1 1 1 1)) (dst := (f4 10 1 2 3)) (L2_ki.inv (by decide))) (by rfl) (by rfl) (.cons rfl (.cons rfl (.cons rfl .nil))) ?_)
    rintro _ _ ⟨hr, hH⟩
    rw [k1] at hr
    subst hr hH
    refine WL.yes (by rfl) (Ex.q (q_move (by rfl)) (by rfl) ?_)
    first | (refine WL.yes (by rfl) (Ex.q (q_extract2 (by rfl) (by rfl)) (by rfl) ?_)) | (refine WL.yes (by rfl) (Ex.q (q_extract3 (by rfl) (by rfl)) (by rfl) ?_))
    first | (refine WL.yes (by rfl) (Ex.q (q_extract2 (by rfl) (by rfl)) (by rfl) ?_)) | (refine WL.yes (by rfl) (Ex.q (q_extract3 (by rfl) (by rfl)) (by rfl) ?_))
    refine WL.yes (by rfl) (Ex.alloc (by rfl) ?_)
    intro b5
    first | (refine WL.yes (by rfl) (Ex.store (by rfl) (by rfl) (by rfl) (by rfl) (by rfl) (by rfl) ?_)) | (refine WL.yes (by rfl) (Ex.store_pel (by rfl) (by rfl) (by rfl) (by rfl) (by rfl) ?_ (by rfl) ?_); (· (omega)))
    refine WL.yes (by rfl) (Ex.q (q_assign (by rfl)) (by rfl) ?_)
    refine WL.nil ?_
    (repeat refine J.seq ?_)
    refine J.region ?_
    refine WL.yes (by rfl) (Ex.q (q_move (by rfl)) (by rfl) ?_)
    refine WL.yes (by rfl) (Ex.callq (func4_spec _ _ _ _) (by rfl) (by rfl) rfl (fun _ h => h) ?_)
    refine WL.yes (by rfl) (Ex.callq (func4_spec _ _ _ _) (by rfl) (by rfl) rfl (fun _ h => h) ?_)
    refine WL.yes (by rfl) (Ex.callL (kLookup_spec kb kt ku (s := L2) (src := (f4 2 2 2 2)) (dst := (f4 10 1 2 3)) (L2_ki.inv (by decide))) (by rfl) (by rfl) (.cons rfl (.cons rfl (.cons rfl .nil))) ?_)
    rintro _ _ ⟨hr, hH⟩
    rw [k2] at hr
    subst hr hH
    refine WL.yes (by rfl) (Ex.q (q_move (by rfl)) (by rfl) ?_)
    first | (refine WL.yes (by rfl) (Ex.q (q_extract2 (by rfl) (by rfl)) (by rfl) ?_)) | (refine WL.yes (by rfl) (Ex.q (q_extract3 (by rfl) (by rfl)) (by rfl) ?_))
    first | (refine WL.yes (by rfl) (Ex.q (q_extract2 (by rfl) (by rfl)) (by rfl) ?_)) | (refine WL.yes (by rfl) (Ex.q (q_extract3 (by rfl) (by rfl)) (by rfl) ?_))
    refine WL.yes (by rfl) (Ex.alloc (by rfl) ?_)
    intro b7
    first | (refine WL.yes (by rfl) (Ex.store (by rfl) (by rfl) (by rfl) (by rfl) (by rfl) (by rfl) ?_)) | (refine WL.yes (by rfl) (Ex.store_pel (by rfl) (by rfl) (by rfl) (by rfl) (by rfl) ?_ (by rfl) ?_); (· (omega)))
    refine WL.yes (by rfl) (Ex.q (q_assign (by rfl)) (by rfl) ?_)
    refine WL.nil ?_
    (repeat refine J.seq ?_)
    refine J.region ?_
    refine WL.yes (by rfl) (Ex.q (q_move (by rfl)) (by rfl) ?_)
    refine WL.yes (by rfl) (Ex.callq (func4_spec _ _ _ _) (by rfl) (by rfl) rfl (fun _ h => h) ?_)
    refine WL.yes (by rfl) (Ex.callq (func4_spec _ _ _ _) (by rfl) (by rfl) rfl (fun _ h => h) ?_)
    refine WL.yes (by rfl) (Ex.callL (kLookup_spec kb kt ku (s := L2) (src := (f4 2 2 2 2)) (dst := (f4 10 2 2 2)) (L2_ki.inv (by decide))) (by rfl) (by rfl) (.cons rfl (.cons rfl (.cons rfl .nil))) ?_)
    rintro _ _ ⟨hr, hH⟩
    rw [k3] at hr
    subst hr hH
    refine WL.yes (by rfl) (Ex.q (q_move (by rfl)) (by rfl) ?_)
    first | (refine WL.yes (by rfl) (Ex.q (q_extract2 (by rfl) (by rfl)) (by rfl) ?_)) | (refine WL.yes (by rfl) (Ex.q (q_extract3 (by rfl) (by rfl)) (by rfl) ?_))
    first | (refine WL.yes (by rfl) (Ex.q (q_extract2 (by rfl) (by rfl)) (by rfl) ?_)) | (refine WL.yes (by rfl) (Ex.q (q_extract3 (by rfl) (by rfl)) (by rfl) ?_))
    refine WL.yes (by rfl) (Ex.alloc (by rfl) ?_)
    intro b9
    first | (refine WL.yes (by rfl) (Ex.store (by rfl) (by rfl) (by rfl) (by rfl) (by rfl) (by rfl) ?_)) | (refine WL.yes (by rfl) (Ex.store_pel (by rfl) (by rfl) (by rfl) (by rfl) (by rfl) ?_ (by rfl) ?_); (· (omega)))
    refine WL.yes (by rfl) (Ex.q (q_assign (by rfl)) (by rfl) ?_)
    refine WL.nil ?_
    (repeat refine J.seq ?_)
    refine J.region ?_
    refine WL.yes (by rfl) (Ex.q (q_move (by rfl)) (by rfl) ?_)
    refine WL.yes (by rfl) (Ex.callL (kFail_spec kb kt ku L2 1) (by rfl) (by rfl) (.cons rfl (.cons rfl (.cons rfl .nil))) ?_)
    rintro _ _ ⟨rfl, rfl⟩
    refine WL.nil ?_
    (repeat refine J.seq ?_)
    refine J.region ?_
    refine WL.yes (by rfl) (Ex.q (q_move (by rfl)) (by rfl) ?_)
    refine WL.yes (by rfl) (Ex.q (q_move (by rfl)) (by rfl) ?_)
    first | (refine WL.yes (by rfl) (Ex.q (q_fieldAddr (by rfl)) (by rfl) ?_)) | (refine WL.yes (by rfl) (Ex.q (q_fieldAddr_rop (by rfl) (by rfl)) (by rfl) ?_)) | (refine WL.yes (by rfl) (Ex.q (q_fieldAddr_pel (by rfl)) (by rfl) ?_))
    first | (refine WL.yes (by rfl) (Ex.h (h_load (by rfl) (by rfl) (by rfl)) (by rfl) ?_)) | (refine WL.yes (by rfl) (Ex.q (q_load (by rfl) (by rfl) (by rfl)) (by rfl) ?_)) | (refine WL.yes (by rfl) (Ex.q (q_load_rop (by rfl) (by rfl)) (by rfl) ?_)) | (refine WL.yes (by rfl) (Ex.h (h_load_pel (by rfl) (by rfl) ?_ (by rfl)) (by rfl) ?_); (· (omega))) | (refine WL.yes (by rfl) (Ex.q (q_load_pel (by rfl) (by rfl) ?_ (by rfl)) (by rfl) ?_); (· (omega)))
    first | (refine WL.yes (by rfl) (Ex.q (q_int (by rfl) (by rfl) (by rfl)) (by rfl) ?_)) | (refine WL.yes (by rfl) (Ex.q (q_eqb (by rfl) (by rfl)) (by rfl) ?_)) | (refine WL.yes (by rfl) (Ex.q (q_eqp rfl rfl (by rfl) (by rfl) ?_) (by rfl) ?_); (· (rfl))) | (refine WL.yes (by rfl) (Ex.q (q_eqs (by rfl) (by rfl)) (by rfl) ?_))
    refine WL.set 67 (.bool true) (by rfl) (congrArg V.bool ((decide_eq_true rfl).symm : true = _)) ?_
    refine WL.yes (by rfl) (Ex.q (q_pick_t (by rfl) (by rfl)) (by rfl) ?_)
    refine WL.yes (by rfl) (Ex.q (q_move (by rfl)) (by rfl) ?_)
    refine WL.yes (by rfl) (Ex.q (q_move (by rfl)) (by rfl) ?_)
    refine WL.yes (by rfl) (Ex.q (q_not (by rfl)) (by rfl) ?_)
    refine WL.yes (by rfl) (Ex.q (q_pick_t (by rfl) (by rfl)) (by rfl) ?_)
    refine WL.yes (by rfl) (Ex.q (q_move (by rfl)) (by rfl) ?_)
    refine WL.yes (by rfl) (Ex.q (q_move (by rfl)) (by rfl) ?_)
    refine WL.yes (by rfl) (Ex.q (q_pick_t (by rfl) (by rfl)) (by rfl) ?_)
    refine WL.yes (by rfl) (Ex.q (q_move (by rfl)) (by rfl) ?_)
    first | (refine WL.yes (by rfl) (Ex.q (q_fieldAddr (by rfl)) (by rfl) ?_)) | (refine WL.yes (by rfl) (Ex.q (q_fieldAddr_rop (by rfl) (by rfl)) (by rfl) ?_)) | (refine WL.yes (by rfl) (Ex.q (q_fieldAddr_pel (by rfl)) (by rfl) ?_))
    first | (refine WL.yes (by rfl) (Ex.h (h_load (by rfl) (by rfl) (by rfl)) (by rfl) ?_)) | (refine WL.yes (by rfl) (Ex.q (q_load (by rfl) (by rfl) (by rfl)) (by rfl) ?_)) | (refine WL.yes (by rfl) (Ex.q (q_load_rop (by rfl) (by rfl)) (by rfl) ?_)) | (refine WL.yes (by rfl) (Ex.h (h_load_pel (by rfl) (by rfl) ?_ (by rfl)) (by rfl) ?_); (· (omega))) | (refine WL.yes (by rfl) (Ex.q (q_load_pel (by rfl) (by rfl) ?_ (by rfl)) (by rfl) ?_); (· (omega)))
    first | (refine WL.yes (by rfl) (Ex.q (q_int (by rfl) (by rfl) (by rfl)) (by rfl) ?_)) | (refine WL.yes (by rfl) (Ex.q (q_eqb (by rfl) (by rfl)) (by rfl) ?_)) | (refine WL.yes (by rfl) (Ex.q (q_eqp rfl rfl (by rfl) (by rfl) ?_) (by rfl) ?_); (· (rfl))) | (refine WL.yes (by rfl) (Ex.q (q_eqs (by rfl) (by rfl)) (by rfl) ?_))
    refine WL.set 79 (.bool true) (by rfl) (congrArg V.bool ((decide_eq_true rfl).symm : true = _)) ?_
    refine WL.yes (by rfl) (Ex.q (q_pick_t (by rfl) (by rfl)) (by rfl) ?_)
    refine WL.yes (by rfl) (Ex.q (q_move (by rfl)) (by rfl) ?_)
    refine WL.yes (by rfl) (Ex.q (q_move (by rfl)) (by rfl) ?_)
    first | (refine WL.yes (by rfl) (Ex.h (h_load (by rfl) (by rfl) (by rfl)) (by rfl) ?_)) | (refine WL.yes (by rfl) (Ex.q (q_load (by rfl) (by rfl) (by rfl)) (by rfl) ?_)) | (refine WL.yes (by rfl) (Ex.q (q_load_rop (by rfl) (by rfl)) (by rfl) ?_)) | (refine WL.yes (by rfl) (Ex.h (h_load_pel (by rfl) (by rfl) ?_ (by rfl)) (by rfl) ?_); (· (omega))) | (refine WL.yes (by rfl) (Ex.q (q_load_pel (by rfl) (by rfl) ?_ (by rfl)) (by rfl) ?_); (· (omega)))
    refine WL.yes (by rfl) (Ex.q (q_build (parts := [(0, .const (.int .i64 3)), (1, .tmp 83)]) (by rfl) (by rfl)) (by rfl) ?_)
    refine WL.yes (by rfl) (Ex.callL (kDo_spec kb kt ku (s := L3) (o := ⟨3, lA⟩) L3_ki.toKOk' lA_ok) (by rfl) (by rfl) (.cons rfl (.cons rfl (.cons rfl .nil))) ?_)
    rintro _ _ ⟨hr, hH⟩
    rw [l3] at hr hH
    subst hr hH
    refine WL.yes (by rfl) (Ex.q (q_not (by rfl)) (by rfl) ?_)
    refine WL.yes (by rfl) (Ex.q (q_pick_t (by rfl) (by rfl)) (by rfl) ?_)
    refine WL.yes (by rfl) (Ex.q (q_move (by rfl)) (by rfl) ?_)
    refine WL.yes (by rfl) (Ex.q (q_move (by rfl)) (by rfl) ?_)
    first | (refine WL.yes (by rfl) (Ex.h (h_load (by rfl) (by rfl) (by rfl)) (by rfl) ?_)) | (refine WL.yes (by rfl) (Ex.q (q_load (by rfl) (by rfl) (by rfl)) (by rfl) ?_)) | (refine WL.yes (by rfl) (Ex.q (q_load_rop (by rfl) (by rfl)) (by rfl) ?_)) | (refine WL.yes (by rfl) (Ex.h (h_load_pel (by rfl) (by rfl) ?_ (by rfl)) (by rfl) ?_); (· (omega))) | (refine WL.yes (by rfl) (Ex.q (q_load_pel (by rfl) (by rfl) ?_ (by rfl)) (by rfl) ?_); (· (omega)))
    refine WL.yes (by rfl) (Ex.q (q_build (parts := [(0, .const (.int .i64 3)), (1, .tmp 90)]) (by rfl) (by rfl)) (by rfl) ?_)
    refine WL.yes (by rfl) (Ex.callL (kDo_spec kb kt ku (s := L2) (o := ⟨3, lA⟩) L2_ki.toKOk' lA_ok) (by rfl) (by rfl) (.cons rfl (.cons rfl (.cons rfl .nil))) ?_)
    rintro _ _ ⟨hr, hH⟩
    rw [l4] at hr hH
    subst hr hH
    refine WL.yes (by rfl) (Ex.q (q_pick_t (by rfl) (by rfl)) (by rfl) ?_)
    refine WL.yes (by rfl) (Ex.q (q_move (by rfl)) (by rfl) ?_)
    refine WL.yes (by rfl) (Ex.q (q_move (by rfl)) (by rfl) ?_)
    refine WL.yes (by rfl) (Ex.callL (kList_spec kb kt ku (s := L4) L4_ki.toKOk' (by decide)) (by rfl) (by rfl) (.cons rfl (.cons rfl (.cons rfl .nil))) ?_)
    rintro _ _ ⟨a96, cap96, rfl, rfl⟩
    first | (refine WL.yes (by rfl) (Ex.q (q_len_slice (by rfl) (by rfl)) (by rfl) ?_)) | (refine WL.yes (by rfl) (Ex.q (q_len_string (by rfl)) (by rfl) ?_))
    first | (refine WL.yes (by rfl) (Ex.q (q_int (by rfl) (by rfl) (by rfl)) (by rfl) ?_)) | (refine WL.yes (by rfl) (Ex.q (q_eqb (by rfl) (by rfl)) (by rfl) ?_)) | (refine WL.yes (by rfl) (Ex.q (q_eqp rfl rfl (by rfl) (by rfl) ?_) (by rfl) ?_); (· (rfl))) | (refine WL.yes (by rfl) (Ex.q (q_eqs (by rfl) (by rfl)) (by rfl) ?_))
    refine WL.set 98 (.bool true) (by rfl) (congrArg V.bool ((decide_eq_true rfl).symm : true = _)) ?_
    refine WL.yes (by rfl) (Ex.q (q_pick_t (by rfl) (by rfl)) (by rfl) ?_)
    refine WL.yes (by rfl) (Ex.q (q_assign (by rfl)) (by rfl) ?_)
    refine WL.nil ?_
    (repeat refine J.seq ?_)
    refine J.ret ?_
    (repeat (with_reducible first | refine Kseq.ret ?_ | refine Kblock.ret ?_ | refine Kloop.ret ?_ | refine Kcut.ret ?_))
    refine Kret.mk [] (.tmp (by rfl) (.nil)) (by rfl) trivial (HLe.nil _ _) ?_
    exact ⟨rfl, rfl⟩
  · skip
    refine Ex.alloc (by rfl) ?_
    intro b3
    refine WT.one (i := 2) rfl (by rfl) (by kernel_rfl) (Ex.callq (anyR_spec _) (by rfl) (by rfl) rfl (fun _ h => h) ?_)
    refine WT.take (i := 3) rfl (by rfl) (by rfl) (by kernel_rfl) (q_build (parts := [(0, .tmp 14), (1, .tmp 15)]) (by rfl) (by rfl)) ?_
    refine WT.take (i := 4) rfl (by rfl) (by rfl) (by kernel_rfl) (q_build (parts := [(0, .tmp 16), (1, .const (.int .i64 1))]) (by rfl) (by rfl)) ?_
    first | (refine WT.one (i := 6) rfl (by rfl) (by kernel_rfl) (Ex.store (by rfl) (by rfl) (by rfl) (by rfl) (by rfl) (by rfl) ?_)) | (refine WT.one (i := 6) rfl (by rfl) (by kernel_rfl) (Ex.store_pel (by rfl) (by rfl) (by rfl) (by rfl) (by rfl) ?_ (by rfl) ?_); (· (omega)))
    refine WT.nil (by kernel_rfl) ?_
    (repeat refine J.seq ?_)
    refine J.region ?_
    refine WL.yes (by rfl) (Ex.callq (func4_spec _ _ _ _) (by rfl) (by rfl) rfl (fun _ h => h) ?_)
    refine WL.yes (by rfl) (Ex.q (q_build (parts := [(0, .tmp 18), (1, .const (.int .i64 112))]) (by rfl) (by rfl)) (by rfl) ?_)
    refine WL.yes (by rfl) (Ex.callq (func4_spec _ _ _ _) (by rfl) (by rfl) rfl (fun _ h => h) ?_)
    refine WL.yes (by rfl) (Ex.q (q_build (parts := [(0, .tmp 20), (1, .const (.int .i64 104))]) (by rfl) (by rfl)) (by rfl) ?_)
    refine WL.yes (by rfl) (Ex.q (q_build (parts := [(0, .tmp 19), (1, .tmp 21)]) (by rfl) (by rfl)) (by rfl) ?_)
    refine WL.yes (by rfl) (Ex.q (q_build (parts := [(0, .tmp 22), (1, .const (.int .i64 2))]) (by rfl) (by rfl)) (by rfl) ?_)
    refine WL.yes (by rfl) (Ex.alloc (by rfl) ?_)
    intro b4
    first | (refine WL.yes (by rfl) (Ex.store (by rfl) (by rfl) (by rfl) (by rfl) (by rfl) (by rfl) ?_)) | (refine WL.yes (by rfl) (Ex.store_pel (by rfl) (by rfl) (by rfl) (by rfl) (by rfl) ?_ (by rfl) ?_); (· (omega)))
    refine WL.nil ?_
    (repeat refine J.seq ?_)
    refine J.region ?_
    refine WL.yes (by rfl) (Ex.q (q_move (by rfl)) (by rfl) ?_)
    refine WL.yes (by rfl) (Ex.q (q_eqnil (by rfl) (by rfl) (by rfl)) (by rfl) ?_)
    refine WL.yes (by rfl) (Ex.q (q_move (by rfl)) (by rfl) ?_)
    refine WL.yes (by rfl) (Ex.q (q_move (by rfl)) (by rfl) ?_)
    first | (refine WL.yes (by rfl) (Ex.h (h_load (by rfl) (by rfl) (by rfl)) (by rfl) ?_)) | (refine WL.yes (by rfl) (Ex.q (q_load (by rfl) (by rfl) (by rfl)) (by rfl) ?_)) | (refine WL.yes (by rfl) (Ex.q (q_load_rop (by rfl) (by rfl)) (by rfl) ?_)) | (refine WL.yes (by rfl) (Ex.h (h_load_pel (by rfl) (by rfl) ?_ (by rfl)) (by rfl) ?_); (· (omega))) | (refine WL.yes (by rfl) (Ex.q (q_load_pel (by rfl) (by rfl) ?_ (by rfl)) (by rfl) ?_); (· (omega)))
    refine WL.yes (by rfl) (Ex.q (q_build (parts := [(0, .const (.int .i64 1)), (1, .tmp 28)]) (by rfl) (by rfl)) (by rfl) ?_)
    refine WL.yes (by rfl) (Ex.callL (kDo_spec kb kt ku (s := L0) (o := ⟨1, lA⟩) KI.zero.toKOk' lA_ok) (by rfl) (by rfl) (.cons rfl (.cons rfl (.cons rfl .nil))) ?_)
    rintro _ _ ⟨hr, hH⟩
    rw [l1] at hr hH
    subst hr hH
    refine WL.yes (by rfl) (Ex.q (q_not (by rfl)) (by rfl) ?_)
    refine WL.yes (by rfl) (Ex.q (q_pick_f (by rfl) (by rfl)) (by rfl) ?_)
    refine WL.yes (by rfl) (Ex.q (q_move (by rfl)) (by rfl) ?_)
    refine WL.yes (by rfl) (Ex.q (q_move (by rfl)) (by rfl) ?_)
    first | (refine WL.yes (by rfl) (Ex.h (h_load (by rfl) (by rfl) (by rfl)) (by rfl) ?_)) | (refine WL.yes (by rfl) (Ex.q (q_load (by rfl) (by rfl) (by rfl)) (by rfl) ?_)) | (refine WL.yes (by rfl) (Ex.q (q_load_rop (by rfl) (by rfl)) (by rfl) ?_)) | (refine WL.yes (by rfl) (Ex.h (h_load_pel (by rfl) (by rfl) ?_ (by rfl)) (by rfl) ?_); (· (omega))) | (refine WL.yes (by rfl) (Ex.q (q_load_pel (by rfl) (by rfl) ?_ (by rfl)) (by rfl) ?_); (· (omega)))
    refine WL.yes (by rfl) (Ex.q (q_build (parts := [(0, .const (.int .i64 1)), (1, .tmp 35)]) (by rfl) (by rfl)) (by rfl) ?_)
    refine WL.yes (by rfl) (Ex.callL (kDo_spec kb kt ku (s := L1) (o := ⟨1, lB⟩) L1_ki.toKOk' lB_ok) (by rfl) (by rfl) (.cons rfl (.cons rfl (.cons rfl .nil))) ?_)
    rintro _ _ ⟨hr, hH⟩
    rw [l2] at hr hH
    subst hr hH
    refine WL.yes (by rfl) (Ex.q (q_not (by rfl)) (by rfl) ?_)
    refine WL.yes (by rfl) (Ex.q (q_pick_f (by rfl) (by rfl)) (by rfl) ?_)
    refine WL.nil ?_
    (repeat refine J.seq ?_)
    refine J.condF (by rfl) ?_
    (repeat refine J.seq ?_)
    refine J.skip ?_
    (repeat refine J.seq ?_)
    refine J.region ?_
    refine WL.yes (by rfl) (Ex.q (q_move (by rfl)) (by rfl) ?_)
    refine WL.yes (by rfl) (Ex.callq (func4_spec _ _ _ _) (by rfl) (by rfl) rfl (fun _ h => h) ?_)
    refine WL.yes (by rfl) (Ex.callq (func4_spec _ _ _ _) (by rfl) (by rfl) rfl (fun _ h => h) ?_)
    refine WL.yes (by rfl) (Ex.callL (kLookup_spec kb kt ku (s := L2) (src := (f4 1 1 1 1)) (dst := (f4 10 1 2 3)) (L2_ki.inv (by decide))) (by rfl) (by rfl) (.cons rfl (.cons rfl (.cons rfl .nil))) ?_)
    rintro _ _ ⟨hr, hH⟩
    rw [k1] at hr
    subst hr hH
    refine WL.yes (by rfl) (Ex.q (q_move (by rfl)) (by rfl) ?_)
    first | (refine WL.yes (by rfl) (Ex.q (q_extract2 (by rfl) (by rfl)) (by rfl) ?_)) | (refine WL.yes (by rfl) (Ex.q (q_extract3 (by rfl) (by rfl)) (by rfl) ?_))
    first | (refine WL.yes (by rfl) (Ex.q (q_extract2 (by rfl) (by rfl)) (by rfl) ?_)) | (refine WL.yes (by rfl) (Ex.q (q_extract3 (by rfl) (by rfl)) (by rfl) ?_))
    refine WL.yes (by rfl) (Ex.alloc (by rfl) ?_)
    intro b5
    first | (refine WL.yes (by rfl) (Ex.store (by rfl) (by rfl) (by rfl) (by rfl) (by rfl) (by rfl) ?_)) | (refine WL.yes (by rfl) (Ex.store_pel (by rfl) (by rfl) (by rfl) (by rfl) (by rfl) ?_ (by rfl) ?_); (· (omega)))
    refine WL.yes (by rfl) (Ex.q (q_assign (by rfl)) (by rfl) ?_)
    refine WL.nil ?_
    (repeat refine J.seq ?_)
    refine J.region ?_
    refine WL.yes (by rfl) (Ex.q (q_move (by rfl)) (by rfl) ?_)
    refine WL.yes (by rfl) (Ex.callq (func4_spec _ _ _ _) (by rfl) (by rfl) rfl (fun _ h => h) ?_)
    refine WL.yes (by rfl) (Ex.callq (func4_spec _ _ _ _) (by rfl) (by rfl) rfl (fun _ h => h) ?_)
    refine WL.yes (by rfl) (Ex.callL (kLookup_spec kb kt ku (s := L2) (src := (f4 2 2 2 2)) (dst := (f4 10 1 2 3)) (L2_ki.inv (by decide))) (by rfl) (by rfl) (.cons rfl (.cons rfl (.cons rfl .nil))) ?_)
    rintro _ _ ⟨hr, hH⟩
    rw [k2] at hr
    subst hr hH
    refine WL.yes (by rfl) (Ex.q (q_move (by rfl)) (by rfl) ?_)
    first | (refine WL.yes (by rfl) (Ex.q (q_extract2 (by rfl) (by rfl)) (by rfl) ?_)) | (refine WL.yes (by rfl) (Ex.q (q_extract3 (by rfl) (by rfl)) (by rfl) ?_))
    first | (refine WL.yes (by rfl) (Ex.q (q_extract2 (by rfl) (by rfl)) (by rfl) ?_)) | (refine WL.yes (by rfl) (Ex.q (q_extract3 (by rfl) (by rfl)) (by rfl) ?_))
    refine WL.yes (by rfl) (Ex.alloc (by rfl) ?_)
    intro b7
    first | (refine WL.yes (by rfl) (Ex.store (by rfl) (by rfl) (by rfl) (by rfl) (by rfl) (by rfl) ?_)) | (refine WL.yes (by rfl) (Ex.store_pel (by rfl) (by rfl) (by rfl) (by rfl) (by rfl) ?_ (by rfl) ?_); (· (omega)))
    refine WL.yes (by rfl) (Ex.q (q_assign (by rfl)) (by rfl) ?_)
    refine WL.nil ?_
    (repeat refine J.seq ?_)
    refine J.region ?_
    refine WL.yes (by rfl) (Ex.q (q_move (by rfl)) (by rfl) ?_)
    refine WL.yes (by rfl) (Ex.callq (func4_spec _ _ _ _) (by rfl) (by rfl) rfl (fun _ h => h) ?_)
    refine WL.yes (by rfl) (Ex.callq (func4_spec _ _ _ _) (by rfl) (by rfl) rfl (fun _ h => h) ?_)
    refine WL.yes (by rfl) (Ex.callL (kLookup_spec kb kt ku (s := L2) (src := (f4 2 2 2 2)) (dst := (f4 10 2 2 2)) (L2_ki.inv (by decide))) (by rfl) (by rfl) (.cons rfl (.cons rfl (.cons rfl .nil))) ?_)
    rintro _ _ ⟨hr, hH⟩
    rw [k3] at hr
    subst hr hH
    refine WL.yes (by rfl) (Ex.q (q_move (by rfl)) (by rfl) ?_)
    first | (refine WL.yes (by rfl) (Ex.q (q_extract2 (by rfl) (by rfl)) (by rfl) ?_)) | (refine WL.yes (by rfl) (Ex.q (q_extract3 (by rfl) (by rfl)) (by rfl) ?_))
    first | (refine WL.yes (by rfl) (Ex.q (q_extract2 (by rfl) (by rfl)) (by rfl) ?_)) | (refine WL.yes (by rfl) (Ex.q (q_extract3 (by rfl) (by rfl)) (by rfl) ?_))
    refine WL.yes (by rfl) (Ex.alloc (by rfl) ?_)
    intro b9
    first | (refine WL.yes (by rfl) (Ex.store (by rfl) (by rfl) (by rfl) (by rfl) (by rfl) (by rfl) ?_)) | (refine WL.yes (by rfl) (Ex.store_pel (by rfl) (by rfl) (by rfl) (by rfl) (by rfl) ?_ (by rfl) ?_); (· (omega)))
    refine WL.yes (by rfl) (Ex.q (q_assign (by rfl)) (by rfl) ?_)
    refine WL.nil ?_
    (repeat refine J.seq ?_)
    refine J.region ?_
    refine WL.yes (by rfl) (Ex.q (q_move (by rfl)) (by rfl) ?_)
    refine WL.yes (by rfl) (Ex.callL (kFail_spec kb kt ku L2 1) (by rfl) (by rfl) (.cons rfl (.cons rfl (.cons rfl .nil))) ?_)
    rintro _ _ ⟨rfl, rfl⟩
    refine WL.nil ?_
    (repeat refine J.seq ?_)
    refine J.region ?_
    refine WL.yes (by rfl) (Ex.q (q_move (by rfl)) (by rfl) ?_)
    refine WL.yes (by rfl) (Ex.q (q_move (by rfl)) (by rfl) ?_)
    first | (refine WL.yes (by rfl) (Ex.q (q_fieldAddr (by rfl)) (by rfl) ?_)) | (refine WL.yes (by rfl) (Ex.q (q_fieldAddr_rop (by rfl) (by rfl)) (by rfl) ?_)) | (refine WL.yes (by rfl) (Ex.q (q_fieldAddr_pel (by rfl)) (by rfl) ?_))
    first | (refine WL.yes (by rfl) (Ex.h (h_load (by rfl) (by rfl) (by rfl)) (by rfl) ?_)) | (refine WL.yes (by rfl) (Ex.q (q_load (by rfl) (by rfl) (by rfl)) (by rfl) ?_)) | (refine WL.yes (by rfl) (Ex.q (q_load_rop (by rfl) (by rfl)) (by rfl) ?_)) | (refine WL.yes (by rfl) (Ex.h (h_load_pel (by rfl) (by rfl) ?_ (by rfl)) (by rfl) ?_); (· (omega))) | (refine WL.yes (by rfl) (Ex.q (q_load_pel (by rfl) (by rfl) ?_ (by rfl)) (by rfl) ?_); (· (omega)))
    first | (refine WL.yes (by rfl) (Ex.q (q_int (by rfl) (by rfl) (by rfl)) (by rfl) ?_)) | (refine WL.yes (by rfl) (Ex.q (q_eqb (by rfl) (by rfl)) (by rfl) ?_)) | (refine WL.yes (by rfl) (Ex.q (q_eqp rfl rfl (by rfl) (by rfl) ?_) (by rfl) ?_); (· (rfl))) | (refine WL.yes (by rfl) (Ex.q (q_eqs (by rfl) (by rfl)) (by rfl) ?_))
    refine WL.set 67 (.bool true) (by rfl) (congrArg V.bool ((decide_eq_true rfl).symm : true = _)) ?_
    refine WL.yes (by rfl) (Ex.q (q_pick_t (by rfl) (by rfl)) (by rfl) ?_)
    refine WL.yes (by rfl) (Ex.q (q_move (by rfl)) (by rfl) ?_)
    refine WL.yes (by rfl) (Ex.q (q_move (by rfl)) (by rfl) ?_)
    refine WL.yes (by rfl) (Ex.q (q_not (by rfl)) (by rfl) ?_)
    refine WL.yes (by rfl) (Ex.q (q_pick_t (by rfl) (by rfl)) (by rfl) ?_)
    refine WL.yes (by rfl) (Ex.q (q_move (by rfl)) (by rfl) ?_)
    refine WL.yes (by rfl) (Ex.q (q_move (by rfl)) (by rfl) ?_)
    refine WL.yes (by rfl) (Ex.q (q_pick_t (by rfl) (by rfl)) (by rfl) ?_)
    refine WL.yes (by rfl) (Ex.q (q_move (by rfl)) (by rfl) ?_)
    first | (refine WL.yes (by rfl) (Ex.q (q_fieldAddr (by rfl)) (by rfl) ?_)) | (refine WL.yes (by rfl) (Ex.q (q_fieldAddr_rop (by rfl) (by rfl)) (by rfl) ?_)) | (refine WL.yes (by rfl) (Ex.q (q_fieldAddr_pel (by rfl)) (by rfl) ?_))
    first | (refine WL.yes (by rfl) (Ex.h (h_load (by rfl) (by rfl) (by rfl)) (by rfl) ?_)) | (refine WL.yes (by rfl) (Ex.q (q_load (by rfl) (by rfl) (by rfl)) (by rfl) ?_)) | (refine WL.yes (by rfl) (Ex.q (q_load_rop (by rfl) (by rfl)) (by rfl) ?_)) | (refine WL.yes (by rfl) (Ex.h (h_load_pel (by rfl) (by rfl) ?_ (by rfl)) (by rfl) ?_); (· (omega))) | (refine WL.yes (by rfl) (Ex.q (q_load_pel (by rfl) (by rfl) ?_ (by rfl)) (by rfl) ?_); (· (omega)))
    first | (refine WL.yes (by rfl) (Ex.q (q_int (by rfl) (by rfl) (by rfl)) (by rfl) ?_)) | (refine WL.yes (by rfl) (Ex.q (q_eqb (by rfl) (by rfl)) (by rfl) ?_)) | (refine WL.yes (by rfl) (Ex.q (q_eqp rfl rfl (by rfl) (by rfl) ?_) (by rfl) ?_); (· (rfl))) | (refine WL.yes (by rfl) (Ex.q (q_eqs (by rfl) (by rfl)) (by rfl) ?_))
    refine WL.set 79 (.bool true) (by rfl) (congrArg V.bool ((decide_eq_true rfl).symm : true = _)) ?_
    refine WL.yes (by rfl) (Ex.q (q_pick_t (by rfl) (by rfl)) (by rfl) ?_)
    refine WL.yes (by rfl) (Ex.q (q_move (by rfl)) (by rfl) ?_)
    refine WL.yes (by rfl) (Ex.q (q_move (by rfl)) (by rfl) ?_)
    first | (refine WL.yes (by rfl) (Ex.h (h_load (by rfl) (by rfl) (by rfl)) (by rfl) ?_)) | (refine WL.yes (by rfl) (Ex.q (q_load (by rfl) (by rfl) (by rfl)) (by rfl) ?_)) | (refine WL.yes (by rfl) (Ex.q (q_load_rop (by rfl) (by rfl)) (by rfl) ?_)) | (refine WL.yes (by rfl) (Ex.h (h_load_pel (by rfl) (by rfl) ?_ (by rfl)) (by rfl) ?_); (· (omega))) | (refine WL.yes (by rfl) (Ex.q (q_load_pel (by rfl) (by rfl) ?_ (by rfl)) (by rfl) ?_); (· (omega)))
    refine WL.yes (by rfl) (Ex.q (q_build (parts := [(0, .const (.int .i64 3)), (1, .tmp 83)]) (by rfl) (by rfl)) (by rfl) ?_)
    refine WL.yes (by rfl) (Ex.callL (kDo_spec kb kt ku (s := L3) (o := ⟨3, lA⟩) L3_ki.toKOk' lA_ok) (by rfl) (by rfl) (.cons rfl (.cons rfl (.cons rfl .nil))) ?_)
    rintro _ _ ⟨hr, hH⟩
    rw [l3] at hr hH
    subst hr hH
    refine WL.yes (by rfl) (Ex.q (q_not (by rfl)) (by rfl) ?_)
    refine WL.yes (by rfl) (Ex.q (q_pick_t (by rfl) (by rfl)) (by rfl) ?_)
    refine WL.yes (by rfl) (Ex.q (q_move (by rfl)) (by rfl) ?_)
    refine WL.yes (by rfl) (Ex.q (q_move (by rfl)) (by rfl) ?_)
    first | (refine WL.yes (by rfl) (Ex.h (h_load (by rfl) (by rfl) (by rfl)) (by rfl) ?_)) | (refine WL.yes (by rfl) (Ex.q (q_load (by rfl) (by rfl) (by rfl)) (by rfl) ?_)) | (refine WL.yes (by rfl) (Ex.q (q_load_rop (by rfl) (by rfl)) (by rfl) ?_)) | (refine WL.yes (by rfl) (Ex.h (h_load_pel (by rfl) (by rfl) ?_ (by rfl)) (by rfl) ?_); (· (omega))) | (refine WL.yes (by rfl) (Ex.q (q_load_pel (by rfl) (by rfl) ?_ (by rfl)) (by rfl) ?_); (· (omega)))
    refine WL.yes (by rfl) (Ex.q (q_build (parts := [(0, .const (.int .i64 3)), (1, .tmp 90)]) (by rfl) (by rfl)) (by rfl) ?_)
    refine WL.yes (by rfl) (Ex.callL (kDo_spec kb kt ku (s := L2) (o := ⟨3, lA⟩) L2_ki.toKOk' lA_ok) (by rfl) (by rfl) (.cons rfl (.cons rfl (.cons rfl .nil))) ?_)
    rintro _ _ ⟨hr, hH⟩
    rw [l4] at hr hH
    subst hr hH
    refine WL.yes (by rfl) (Ex.q (q_pick_t (by rfl) (by rfl)) (by rfl) ?_)
    refine WL.yes (by rfl) (Ex.q (q_move (by rfl)) (by rfl) ?_)
    refine WL.yes (by rfl) (Ex.q (q_move (by rfl)) (by rfl) ?_)
    refine WL.yes (by rfl) (Ex.callL (kList_spec kb kt ku (s := L4) L4_ki.toKOk' (by decide)) (by rfl) (by rfl) (.cons rfl (.cons rfl (.cons rfl .nil))) ?_)
    rintro _ _ ⟨a96, cap96, rfl, rfl⟩
    first | (refine WL.yes (by rfl) (Ex.q (q_len_slice (by rfl) (by rfl)) (by rfl) ?_)) | (refine WL.yes (by rfl) (Ex.q (q_len_string (by rfl)) (by rfl) ?_))
    first | (refine WL.yes (by rfl) (Ex.q (q_int (by rfl) (by rfl) (by rfl)) (by rfl) ?_)) | (refine WL.yes (by rfl) (Ex.q (q_eqb (by rfl) (by rfl)) (by rfl) ?_)) | (refine WL.yes (by rfl) (Ex.q (q_eqp rfl rfl (by rfl) (by rfl) ?_) (by rfl) ?_); (· (rfl))) | (refine WL.yes (by rfl) (Ex.q (q_eqs (by rfl) (by rfl)) (by rfl) ?_))
    refine WL.set 98 (.bool true) (by rfl) (congrArg V.bool ((decide_eq_true rfl).symm : true = _)) ?_
    refine WL.yes (by rfl) (Ex.q (q_pick_t (by rfl) (by rfl)) (by rfl) ?_)
    refine WL.yes (by rfl) (Ex.q (q_assign (by rfl)) (by rfl) ?_)
    refine WL.nil ?_
    (repeat refine J.seq ?_)
    refine J.ret ?_
    (repeat (with_reducible first | refine Kseq.ret ?_ | refine Kblock.ret ?_ | refine Kloop.ret ?_ | refine Kcut.ret ?_))
    refine Kret.mk [] (.tmp (by rfl) (.nil)) (by rfl) trivial (HLe.nil _ _) ?_
    exact ⟨rfl, rfl⟩

end Go.Vm
