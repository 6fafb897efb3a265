/- Contracts of the small functions on addresses: comparing. -/
import Derived.Test.YtimkkhefemnkpaaA2
import Derived.Test.YtimkkhefemnkpaaB2
namespace Go.Vm
open Go Go.Proofs

set_option maxHeartbeats 4000000 in
set_option maxRecDepth 100000 in
theorem bcmp_spec {a a2 : Option Addr} {cap cap2 n m : Nat} (l l2 : List Int) (h1 : l.length = n) (h2 : l2.length = m) : SpecQ Try.prog 92 [.ros a cap n (fun j => .int .u8 (l.getD j 0)), .ros a2 cap2 m (fun j => .int .u8 (l2.getD j 0))] (iV (Lib.compareBytes (u8s l) (u8s l2))) := by
  refine Spec.of_J Try.func92 rfl Try.ntmps92 Try.results92 rfl ?_
  intro A F hAF
  (repeat refine J.seq ?_)
  refine J.region ?_
  refine WL.yes (by rfl) (Ex.q (q_assign (by rfl)) (by rfl) ?_)
  refine WL.nil ?_
  (repeat refine J.seq ?_)
  refine J.region ?_
  refine WL.yes (by rfl) (Ex.q (q_move (by rfl)) (by rfl) ?_)
  refine WL.yes (by rfl) (Ex.q (q_move (by rfl)) (by rfl) ?_)
  refine WL.yes (by rfl) (Ex.q (q_bcmp (fn := Try.f96) rfl (by kernel_rfl) (by kernel_rfl) (by kernel_rfl) (by kernel_rfl) (by rfl) (by rfl) h1 h2) (by rfl) ?_)
  refine WL.yes (by rfl) (Ex.q (q_assign (by rfl)) (by rfl) ?_)
  refine WL.nil ?_
  (repeat refine J.seq ?_)
  refine J.ret ?_
  (repeat (with_reducible first | refine Kseq.ret ?_ | refine Kblock.ret ?_ | refine Kloop.ret ?_))
  refine Kret.mk [] (.tmp (by rfl) .nil) (by rfl) trivial (HLe.nil _ _) ?_
  refine ⟨?_, rfl⟩
  (try simp_all [cv, tupV]) <;> (repeat' split) <;> (first | rfl | omega)

set_option maxHeartbeats 4000000 in
set_option maxRecDepth 100000 in
theorem cmpA_spec (a b : List Int) : SpecQ Try.prog 84 [adV a, adV b] (iV (cmpA a b)) := by
  refine Spec.of_J Try.func84 rfl Try.ntmps84 Try.results84 rfl ?_
  intro A F hAF
  (repeat refine J.seq ?_)
  refine J.region ?_
  refine WL.yes (by rfl) (Ex.box (by rfl) (by rfl) (by rfl) ?_)
  intro b2
  refine WL.yes (by rfl) (Ex.box (by rfl) (by rfl) (by rfl) ?_)
  intro b3
  refine WL.yes (by rfl) (Ex.q (q_assign (by rfl)) (by rfl) ?_)
  refine WL.nil ?_
  (repeat refine J.seq ?_)
  refine J.draw [] 9999 [(0, true), (1, true), (2, false), (3, true)] (by kernel_rfl) rfl (by kernel_rfl) ?_
  intro F1 hF1
  first | (refine WS.take rfl (by rfl) (by rfl) (q_slice_arr (by rfl) (by rfl) (by rfl) ?_ ?_ ?_) ?_; (· omega); (· omega); (· omega)) | (refine WS.take rfl (by rfl) (by rfl) (q_slice_ros (by rfl) (by intro _; rfl) (by rfl) (by rfl) ?_ ?_ ?_) ?_; (· omega); (· omega); (· omega)) | (refine WS.take rfl (by rfl) (by rfl) (q_slice_sl (by rfl) (by rfl) (by rfl) ?_ ?_ ?_) ?_; (· omega); (· omega); (· omega))
  first | (refine WS.take rfl (by rfl) (by rfl) (q_slice_arr (by rfl) (by rfl) (by rfl) ?_ ?_ ?_) ?_; (· omega); (· omega); (· omega)) | (refine WS.take rfl (by rfl) (by rfl) (q_slice_ros (by rfl) (by intro _; rfl) (by rfl) (by rfl) ?_ ?_ ?_) ?_; (· omega); (· omega); (· omega)) | (refine WS.take rfl (by rfl) (by rfl) (q_slice_sl (by rfl) (by rfl) (by rfl) ?_ ?_ ?_) ?_; (· omega); (· omega); (· omega))
  refine WS.ex rfl (by rfl) (Ex.callqz (bcmp_spec (pad 16 a) (pad 16 b) rfl rfl) (by rfl) (by rfl) (.cons (.bsl (by rfl) (by rfl) (Nat.le_refl 16)) (.cons (.bsl (by rfl) (by rfl) (Nat.le_refl 16)) .nil)) (fun _ => trivial) ?_)
  refine WS.take rfl (by rfl) (by rfl) (q_assign (by rfl)) ?_
  refine WS.nil ?_
  (repeat refine J.seq ?_)
  refine J.ret ?_
  (repeat (with_reducible first | refine Kseq.ret ?_ | refine Kblock.ret ?_ | refine Kloop.ret ?_))
  refine Kret.mk [] (.tmp (by rfl) .nil) (by rfl) trivial (HLe.nil _ _) ?_
  refine ⟨?_, rfl⟩
  (try simp_all [cv, tupV]) <;> (repeat' split) <;> (first | rfl | omega)

set_option maxHeartbeats 4000000 in
set_option maxRecDepth 100000 in
theorem cmpP_spec (a : List Int) (n : Int) (b : List Int) (m : Int) : SpecQ Try.prog 74 [pfV a n, pfV b m] (iV (cmpP a n b m)) := by
  refine Spec.of_J Try.func74 rfl Try.ntmps74 Try.results74 rfl ?_
  intro A F hAF
  (repeat refine J.seq ?_)
  refine J.region ?_
  refine WL.yes (by rfl) (Ex.box (by rfl) (by rfl) (by rfl) ?_)
  intro b2
  refine WL.yes (by rfl) (Ex.box (by rfl) (by rfl) (by rfl) ?_)
  intro b3
  refine WL.yes (by rfl) (Ex.q (q_assign (by rfl)) (by rfl) ?_)
  refine WL.nil ?_
  (repeat refine J.seq ?_)
  refine J.draw [2, 3] 9999 [(0, true), (1, true), (2, true), (3, true), (5, true), (6, true), (7, true), (8, true), (4, false), (9, false), (10, false), (11, false), (12, true)] (by kernel_rfl) rfl (by kernel_rfl) ?_
  intro F1 hF1
  first | (refine WS.take rfl (by rfl) (by rfl) (q_fieldAddr (by rfl)) ?_) | (refine WS.take rfl (by rfl) (by rfl) (q_fieldAddr_rop (by rfl) (by rfl)) ?_) | (refine WS.take rfl (by rfl) (by rfl) (q_fieldAddr_pel (by rfl)) ?_)
  first | (refine WS.take rfl (by rfl) (by rfl) (q_load (by rfl) (by rfl) (by rfl)) ?_) | (refine WS.take rfl (by rfl) (by rfl) (q_load_rop (by rfl) (by rfl)) ?_) | (refine WS.take rfl (by rfl) (by rfl) (q_load_pel (by rfl) (by rfl) ?_ (by rfl)) ?_; (· omega))
  first | (refine WS.take rfl (by rfl) (by rfl) (q_fieldAddr (by rfl)) ?_) | (refine WS.take rfl (by rfl) (by rfl) (q_fieldAddr_rop (by rfl) (by rfl)) ?_) | (refine WS.take rfl (by rfl) (by rfl) (q_fieldAddr_pel (by rfl)) ?_)
  first | (refine WS.take rfl (by rfl) (by rfl) (q_load (by rfl) (by rfl) (by rfl)) ?_) | (refine WS.take rfl (by rfl) (by rfl) (q_load_rop (by rfl) (by rfl)) ?_) | (refine WS.take rfl (by rfl) (by rfl) (q_load_pel (by rfl) (by rfl) ?_ (by rfl)) ?_; (· omega))
  first | (refine WS.take rfl (by rfl) (by rfl) (q_fieldAddr (by rfl)) ?_) | (refine WS.take rfl (by rfl) (by rfl) (q_fieldAddr_rop (by rfl) (by rfl)) ?_) | (refine WS.take rfl (by rfl) (by rfl) (q_fieldAddr_pel (by rfl)) ?_)
  first | (refine WS.take rfl (by rfl) (by rfl) (q_load (by rfl) (by rfl) (by rfl)) ?_) | (refine WS.take rfl (by rfl) (by rfl) (q_load_rop (by rfl) (by rfl)) ?_) | (refine WS.take rfl (by rfl) (by rfl) (q_load_pel (by rfl) (by rfl) ?_ (by rfl)) ?_; (· omega))
  first | (refine WS.take rfl (by rfl) (by rfl) (q_fieldAddr (by rfl)) ?_) | (refine WS.take rfl (by rfl) (by rfl) (q_fieldAddr_rop (by rfl) (by rfl)) ?_) | (refine WS.take rfl (by rfl) (by rfl) (q_fieldAddr_pel (by rfl)) ?_)
  first | (refine WS.take rfl (by rfl) (by rfl) (q_load (by rfl) (by rfl) (by rfl)) ?_) | (refine WS.take rfl (by rfl) (by rfl) (q_load_rop (by rfl) (by rfl)) ?_) | (refine WS.take rfl (by rfl) (by rfl) (q_load_pel (by rfl) (by rfl) ?_ (by rfl)) ?_; (· omega))
  refine WS.ex rfl (by rfl) (Ex.callq (cmpA_spec _ _) (by rfl) (by rfl) rfl (fun _ h => h) ?_)
  refine WS.ex rfl (by rfl) (Ex.callq (cmp_spec _ _) (by rfl) (by rfl) rfl (fun _ h => h) ?_)
  refine WS.ex rfl (by rfl) (Ex.buildSlice (parts := [(0, .tmp 9), (1, .tmp 14)]) (us := [_, _]) (by rfl) (by rfl) rfl (by rfl) (by rfl) ?_)
  intro b15
  refine WS.ex rfl (by rfl) (Ex.callqz (or2_spec _ _) (by rfl) (by rfl) (.cons (.sl (by rfl)) .nil) (fun _ => trivial) ?_)
  refine WS.take rfl (by rfl) (by rfl) (q_assign (by rfl)) ?_
  refine WS.nil ?_
  (repeat refine J.seq ?_)
  refine J.ret ?_
  (repeat (with_reducible first | refine Kseq.ret ?_ | refine Kblock.ret ?_ | refine Kloop.ret ?_))
  refine Kret.mk [] (.tmp (by rfl) .nil) (by rfl) trivial (HLe.nil _ _) ?_
  refine ⟨?_, rfl⟩
  (try simp_all [cv, tupV]) <;> (repeat' split) <;> (first | rfl | omega)

set_option maxHeartbeats 4000000 in
set_option maxRecDepth 100000 in
theorem cmpPr_spec (da : List Int) (dn : Int) (sa : List Int) (sn : Int) (ea : List Int) (en : Int) (ta : List Int) (tn : Int) : SpecQ Try.prog 48 [prV da dn sa sn, prV ea en ta tn] (iV (cmpPr da dn sa sn ea en ta tn)) := by
  refine Spec.of_J Try.func48 rfl Try.ntmps48 Try.results48 rfl ?_
  intro A F hAF
  (repeat refine J.seq ?_)
  refine J.region ?_
  refine WL.yes (by rfl) (Ex.box (by rfl) (by rfl) (by rfl) ?_)
  intro b2
  refine WL.yes (by rfl) (Ex.box (by rfl) (by rfl) (by rfl) ?_)
  intro b3
  refine WL.yes (by rfl) (Ex.q (q_assign (by rfl)) (by rfl) ?_)
  refine WL.nil ?_
  (repeat refine J.seq ?_)
  refine J.draw [2, 3] 9999 [(0, true), (1, true), (2, true), (3, true), (5, true), (6, true), (7, true), (8, true), (4, false), (9, false), (10, false), (11, false), (12, true)] (by kernel_rfl) rfl (by kernel_rfl) ?_
  intro F1 hF1
  first | (refine WS.take rfl (by rfl) (by rfl) (q_fieldAddr (by rfl)) ?_) | (refine WS.take rfl (by rfl) (by rfl) (q_fieldAddr_rop (by rfl) (by rfl)) ?_) | (refine WS.take rfl (by rfl) (by rfl) (q_fieldAddr_pel (by rfl)) ?_)
  first | (refine WS.take rfl (by rfl) (by rfl) (q_load (by rfl) (by rfl) (by rfl)) ?_) | (refine WS.take rfl (by rfl) (by rfl) (q_load_rop (by rfl) (by rfl)) ?_) | (refine WS.take rfl (by rfl) (by rfl) (q_load_pel (by rfl) (by rfl) ?_ (by rfl)) ?_; (· omega))
  first | (refine WS.take rfl (by rfl) (by rfl) (q_fieldAddr (by rfl)) ?_) | (refine WS.take rfl (by rfl) (by rfl) (q_fieldAddr_rop (by rfl) (by rfl)) ?_) | (refine WS.take rfl (by rfl) (by rfl) (q_fieldAddr_pel (by rfl)) ?_)
  first | (refine WS.take rfl (by rfl) (by rfl) (q_load (by rfl) (by rfl) (by rfl)) ?_) | (refine WS.take rfl (by rfl) (by rfl) (q_load_rop (by rfl) (by rfl)) ?_) | (refine WS.take rfl (by rfl) (by rfl) (q_load_pel (by rfl) (by rfl) ?_ (by rfl)) ?_; (· omega))
  first | (refine WS.take rfl (by rfl) (by rfl) (q_fieldAddr (by rfl)) ?_) | (refine WS.take rfl (by rfl) (by rfl) (q_fieldAddr_rop (by rfl) (by rfl)) ?_) | (refine WS.take rfl (by rfl) (by rfl) (q_fieldAddr_pel (by rfl)) ?_)
  first | (refine WS.take rfl (by rfl) (by rfl) (q_load (by rfl) (by rfl) (by rfl)) ?_) | (refine WS.take rfl (by rfl) (by rfl) (q_load_rop (by rfl) (by rfl)) ?_) | (refine WS.take rfl (by rfl) (by rfl) (q_load_pel (by rfl) (by rfl) ?_ (by rfl)) ?_; (· omega))
  first | (refine WS.take rfl (by rfl) (by rfl) (q_fieldAddr (by rfl)) ?_) | (refine WS.take rfl (by rfl) (by rfl) (q_fieldAddr_rop (by rfl) (by rfl)) ?_) | (refine WS.take rfl (by rfl) (by rfl) (q_fieldAddr_pel (by rfl)) ?_)
  first | (refine WS.take rfl (by rfl) (by rfl) (q_load (by rfl) (by rfl) (by rfl)) ?_) | (refine WS.take rfl (by rfl) (by rfl) (q_load_rop (by rfl) (by rfl)) ?_) | (refine WS.take rfl (by rfl) (by rfl) (q_load_pel (by rfl) (by rfl) ?_ (by rfl)) ?_; (· omega))
  refine WS.ex rfl (by rfl) (Ex.callq (cmpP_spec _ _ _ _) (by rfl) (by rfl) rfl (fun _ h => h) ?_)
  refine WS.ex rfl (by rfl) (Ex.callq (cmpP_spec _ _ _ _) (by rfl) (by rfl) rfl (fun _ h => h) ?_)
  refine WS.ex rfl (by rfl) (Ex.buildSlice (parts := [(0, .tmp 9), (1, .tmp 14)]) (us := [_, _]) (by rfl) (by rfl) rfl (by rfl) (by rfl) ?_)
  intro b15
  refine WS.ex rfl (by rfl) (Ex.callqz (or2_spec _ _) (by rfl) (by rfl) (.cons (.sl (by rfl)) .nil) (fun _ => trivial) ?_)
  refine WS.take rfl (by rfl) (by rfl) (q_assign (by rfl)) ?_
  refine WS.nil ?_
  (repeat refine J.seq ?_)
  refine J.ret ?_
  (repeat (with_reducible first | refine Kseq.ret ?_ | refine Kblock.ret ?_ | refine Kloop.ret ?_))
  refine Kret.mk [] (.tmp (by rfl) .nil) (by rfl) trivial (HLe.nil _ _) ?_
  refine ⟨?_, rfl⟩
  (try simp_all [cv, tupV]) <;> (repeat' split) <;> (first | rfl | omega)

set_option maxHeartbeats 4000000 in
set_option maxRecDepth 100000 in
theorem matches_spec (da : List Int) (dn : Int) (sa : List Int) (sn : Int) (src dst : List Int) : SpecQ Try.prog 75 [prV da dn sa sn, adV src, adV dst] (.bool (matches' da dn sa sn src dst)) := by
  refine Spec.of_J Try.func75 rfl Try.ntmps75 Try.results75 rfl ?_
  intro A F hAF
  (repeat refine J.seq ?_)
  refine J.region ?_
  refine WL.yes (by rfl) (Ex.box (by rfl) (by rfl) (by rfl) ?_)
  intro b3
  refine WL.yes (by rfl) (Ex.box (by rfl) (by rfl) (by rfl) ?_)
  intro b4
  refine WL.yes (by rfl) (Ex.box (by rfl) (by rfl) (by rfl) ?_)
  intro b5
  refine WL.yes (by rfl) (Ex.q (q_assign (by rfl)) (by rfl) ?_)
  refine WL.nil ?_
  (repeat refine J.seq ?_)
  refine J.region ?_
  first | (refine WL.yes (by rfl) (Ex.h (h_load (by rfl) (by rfl) (by rfl)) (by rfl) ?_)) | (refine WL.yes (by rfl) (Ex.q (q_load (by rfl) (by rfl) (by rfl)) (by rfl) ?_)) | (refine WL.yes (by rfl) (Ex.q (q_load_rop (by rfl) (by rfl)) (by rfl) ?_)) | (refine WL.yes (by rfl) (Ex.h (h_load_pel (by rfl) (by rfl) ?_ (by rfl)) (by rfl) ?_); (· omega)) | (refine WL.yes (by rfl) (Ex.q (q_load_pel (by rfl) (by rfl) ?_ (by rfl)) (by rfl) ?_); (· omega))
  refine WL.yes (by rfl) (Ex.callq (checkPair_spec _ _ _ _) (by rfl) (by rfl) rfl (fun _ h => h) ?_)
  first | (refine WL.yes (by rfl) (Ex.q (q_int (by rfl) (by rfl) (by rfl)) (by rfl) ?_)) | (refine WL.yes (by rfl) (Ex.q (q_eqb (by rfl) (by rfl)) (by rfl) ?_)) | (refine WL.yes (by rfl) (Ex.q (q_eqp rfl rfl (by rfl) (by rfl) ?_) (by rfl) ?_); (· rfl)) | (refine WL.yes (by rfl) (Ex.q (q_eqs (by rfl) (by rfl)) (by rfl) ?_))
  refine WL.yes (by rfl) (Ex.q (q_move (by rfl)) (by rfl) ?_)
  refine WL.split 10 (by rfl) (fun g10 => ?_) (fun g10 => ?_)
  · skip
    have h1 := okpair_of g10
    first | (refine WL.yes (by rfl) (Ex.q (q_fieldAddr (by rfl)) (by rfl) ?_)) | (refine WL.yes (by rfl) (Ex.q (q_fieldAddr_rop (by rfl) (by rfl)) (by rfl) ?_)) | (refine WL.yes (by rfl) (Ex.q (q_fieldAddr_pel (by rfl)) (by rfl) ?_))
    first | (refine WL.yes (by rfl) (Ex.h (h_load (by rfl) (by rfl) (by rfl)) (by rfl) ?_)) | (refine WL.yes (by rfl) (Ex.q (q_load (by rfl) (by rfl) (by rfl)) (by rfl) ?_)) | (refine WL.yes (by rfl) (Ex.q (q_load_rop (by rfl) (by rfl)) (by rfl) ?_)) | (refine WL.yes (by rfl) (Ex.h (h_load_pel (by rfl) (by rfl) ?_ (by rfl)) (by rfl) ?_); (· omega)) | (refine WL.yes (by rfl) (Ex.q (q_load_pel (by rfl) (by rfl) ?_ (by rfl)) (by rfl) ?_); (· omega))
    first | (refine WL.yes (by rfl) (Ex.h (h_load (by rfl) (by rfl) (by rfl)) (by rfl) ?_)) | (refine WL.yes (by rfl) (Ex.q (q_load (by rfl) (by rfl) (by rfl)) (by rfl) ?_)) | (refine WL.yes (by rfl) (Ex.q (q_load_rop (by rfl) (by rfl)) (by rfl) ?_)) | (refine WL.yes (by rfl) (Ex.h (h_load_pel (by rfl) (by rfl) ?_ (by rfl)) (by rfl) ?_); (· omega)) | (refine WL.yes (by rfl) (Ex.q (q_load_pel (by rfl) (by rfl) ?_ (by rfl)) (by rfl) ?_); (· omega))
    refine WL.yes (by rfl) (Ex.callq (contains_spec _ _ _) (by rfl) (by rfl) rfl (fun _ h => h) ?_)
    refine WL.yes (by rfl) (Ex.q (q_pick_t (by rfl) (by rfl)) (by rfl) ?_)
    refine WL.yes (by rfl) (Ex.q (q_move (by rfl)) (by rfl) ?_)
    refine WL.split 16 (by rfl) (fun g16 => ?_) (fun g16 => ?_)
    · skip
      first | (refine WL.yes (by rfl) (Ex.q (q_fieldAddr (by rfl)) (by rfl) ?_)) | (refine WL.yes (by rfl) (Ex.q (q_fieldAddr_rop (by rfl) (by rfl)) (by rfl) ?_)) | (refine WL.yes (by rfl) (Ex.q (q_fieldAddr_pel (by rfl)) (by rfl) ?_))
      first | (refine WL.yes (by rfl) (Ex.h (h_load (by rfl) (by rfl) (by rfl)) (by rfl) ?_)) | (refine WL.yes (by rfl) (Ex.q (q_load (by rfl) (by rfl) (by rfl)) (by rfl) ?_)) | (refine WL.yes (by rfl) (Ex.q (q_load_rop (by rfl) (by rfl)) (by rfl) ?_)) | (refine WL.yes (by rfl) (Ex.h (h_load_pel (by rfl) (by rfl) ?_ (by rfl)) (by rfl) ?_); (· omega)) | (refine WL.yes (by rfl) (Ex.q (q_load_pel (by rfl) (by rfl) ?_ (by rfl)) (by rfl) ?_); (· omega))
      first | (refine WL.yes (by rfl) (Ex.h (h_load (by rfl) (by rfl) (by rfl)) (by rfl) ?_)) | (refine WL.yes (by rfl) (Ex.q (q_load (by rfl) (by rfl) (by rfl)) (by rfl) ?_)) | (refine WL.yes (by rfl) (Ex.q (q_load_rop (by rfl) (by rfl)) (by rfl) ?_)) | (refine WL.yes (by rfl) (Ex.h (h_load_pel (by rfl) (by rfl) ?_ (by rfl)) (by rfl) ?_); (· omega)) | (refine WL.yes (by rfl) (Ex.q (q_load_pel (by rfl) (by rfl) ?_ (by rfl)) (by rfl) ?_); (· omega))
      refine WL.yes (by rfl) (Ex.callq (contains_spec _ _ _) (by rfl) (by rfl) rfl (fun _ h => h) ?_)
      refine WL.yes (by rfl) (Ex.q (q_pick_t (by rfl) (by rfl)) (by rfl) ?_)
      refine WL.yes (by rfl) (Ex.q (q_assign (by rfl)) (by rfl) ?_)
      refine WL.nil ?_
      (repeat refine J.seq ?_)
      refine J.ret ?_
      (repeat (with_reducible first | refine Kseq.ret ?_ | refine Kblock.ret ?_ | refine Kloop.ret ?_))
      refine Kret.mk [] (.tmp (by rfl) .nil) (by rfl) trivial (HLe.nil _ _) ?_
      refine ⟨?_, rfl⟩
      simp only [tupV, cv]
      (try simp_all [matches'])
    · skip
      refine WL.no (by rfl) (by rfl) ?_
      refine WL.no (by rfl) (by rfl) ?_
      refine WL.no (by rfl) (by rfl) ?_
      refine WL.no (by rfl) (by rfl) ?_
      refine WL.yes (by rfl) (Ex.q (q_pick_f (by rfl) (by rfl)) (by rfl) ?_)
      refine WL.yes (by rfl) (Ex.q (q_assign (by rfl)) (by rfl) ?_)
      refine WL.nil ?_
      (repeat refine J.seq ?_)
      refine J.ret ?_
      (repeat (with_reducible first | refine Kseq.ret ?_ | refine Kblock.ret ?_ | refine Kloop.ret ?_))
      refine Kret.mk [] (.tmp (by rfl) .nil) (by rfl) trivial (HLe.nil _ _) ?_
      refine ⟨?_, rfl⟩
      simp only [tupV, cv]
      (try simp_all [matches'])
  · skip
    have h1 := okpair_not g10
    refine WL.no (by rfl) (by rfl) ?_
    refine WL.no (by rfl) (by rfl) ?_
    refine WL.no (by rfl) (by rfl) ?_
    refine WL.no (by rfl) (by rfl) ?_
    refine WL.yes (by rfl) (Ex.q (q_pick_f (by rfl) (by rfl)) (by rfl) ?_)
    refine WL.yes (by rfl) (Ex.q (q_move (by rfl)) (by rfl) ?_)
    refine WL.no (by rfl) (by rfl) ?_
    refine WL.no (by rfl) (by rfl) ?_
    refine WL.no (by rfl) (by rfl) ?_
    refine WL.no (by rfl) (by rfl) ?_
    refine WL.yes (by rfl) (Ex.q (q_pick_f (by rfl) (by rfl)) (by rfl) ?_)
    refine WL.yes (by rfl) (Ex.q (q_assign (by rfl)) (by rfl) ?_)
    refine WL.nil ?_
    (repeat refine J.seq ?_)
    refine J.ret ?_
    (repeat (with_reducible first | refine Kseq.ret ?_ | refine Kblock.ret ?_ | refine Kloop.ret ?_))
    refine Kret.mk [] (.tmp (by rfl) .nil) (by rfl) trivial (HLe.nil _ _) ?_
    refine ⟨?_, rfl⟩
    simp only [tupV, cv]
    (try simp_all [matches'])

set_option maxHeartbeats 4000000 in
set_option maxRecDepth 100000 in
theorem bit_spec (a : List Int) (k : Nat) (h : k < 128) : SpecQ Try.prog 86 [adV a, iV k] (iV (bitV (a.getD (k / 8) 0) (k % 8))) := by
  refine Spec.of_J Try.func86 rfl Try.ntmps86 Try.results86 rfl ?_
  intro A F hAF
  (repeat refine J.seq ?_)
  refine J.region ?_
  refine WL.yes (by rfl) (Ex.box (by rfl) (by rfl) (by rfl) ?_)
  intro b2
  refine WL.yes (by rfl) (Ex.q (q_assign (by rfl)) (by rfl) ?_)
  refine WL.nil ?_
  (repeat refine J.seq ?_)
  refine J.region ?_
  refine WL.yes (by rfl) (Ex.q (q_move (by rfl)) (by rfl) ?_)
  refine WL.yes (by rfl) (Ex.q (q_quo (by rfl) (by rfl) ?_) (by rfl) ?_); (· omega)
  first | (refine WL.yes (by rfl) (Ex.q (q_indexAddr_ros (by rfl) (by rfl) (by intro _; rfl) ?_ ?_) (by rfl) ?_); (· exact ix0 h); (· exact ix1 h)) | (refine WL.yes (by rfl) (Ex.q (q_indexAddr_sl (by rfl) (by rfl) ?_ ?_) (by rfl) ?_); (· exact ix0 h); (· exact ix1 h)) | (refine WL.yes (by rfl) (Ex.q (q_indexAddr_arr (by rfl) (by rfl) ?_ ?_) (by rfl) ?_); (· exact ix0 h); (· exact ix1 h))
  first | (refine WL.yes (by rfl) (Ex.h (h_load (by rfl) (by rfl) (at_byte (ix2 h))) (by rfl) ?_)) | (refine WL.yes (by rfl) (Ex.q (q_load (by rfl) (by rfl) (at_byte (ix2 h))) (by rfl) ?_)) | (refine WL.yes (by rfl) (Ex.q (q_load_rop (by rfl) (by rfl)) (by rfl) ?_)) | (refine WL.yes (by rfl) (Ex.h (h_load_pel (by rfl) (by rfl) ?_ (by rfl)) (by rfl) ?_); (· omega)) | (refine WL.yes (by rfl) (Ex.q (q_load_pel (by rfl) (by rfl) ?_ (by rfl)) (by rfl) ?_); (· omega))
  refine WL.yes (by rfl) (Ex.q (q_move (by rfl)) (by rfl) ?_)
  refine WL.yes (by rfl) (Ex.q (q_rem (by rfl) (by rfl) ?_) (by rfl) ?_); (· omega)
  refine WL.yes (by rfl) (Ex.q (q_int (by rfl) (by rfl) (by rfl)) (by rfl) ?_)
  refine WL.yes (by rfl) (Ex.q (q_conv (by rfl)) (by rfl) ?_)
  refine WL.yes (by rfl) (Ex.q (q_shr (by rfl) (by rfl) ?_) (by rfl) ?_); (· exact sh0 h)
  refine WL.yes (by rfl) (Ex.q (q_conv (by rfl)) (by rfl) ?_)
  refine WL.yes (by rfl) (Ex.q (q_int (by rfl) (by rfl) (by rfl)) (by rfl) ?_)
  refine WL.yes (by rfl) (Ex.q (q_assign (by rfl)) (by rfl) ?_)
  refine WL.nil ?_
  (repeat refine J.seq ?_)
  refine J.ret ?_
  (repeat (with_reducible first | refine Kseq.ret ?_ | refine Kblock.ret ?_ | refine Kloop.ret ?_))
  refine Kret.mk [] (.tmp (by rfl) .nil) (by rfl) trivial (HLe.nil _ _) ?_
  refine ⟨?_, rfl⟩
  simp only [tupV, cv]
  exact congrArg iV (by rw [ix3 h, sh7 h]; rfl)

set_option maxHeartbeats 4000000 in
set_option maxRecDepth 100000 in
theorem maskedR_spec (a : List Int) (n : Nat) (hn : n ≤ 128) : SpecQ Try.prog 81 [adV a, iV n] (adV (clrL a n 128)) := by
  refine Spec.of_J Try.func81 rfl Try.ntmps81 Try.results81 rfl ?_
  intro A F hAF
  (repeat refine J.seq ?_)
  refine J.region ?_
  refine WL.yes (by rfl) (Ex.box (by rfl) (by rfl) (by rfl) ?_)
  intro b2
  refine WL.yes (by rfl) (Ex.alloc (by rfl) ?_)
  intro b4
  refine WL.nil ?_
  (repeat refine J.seq ?_)
  refine J.region ?_
  refine WL.yes (by rfl) (Ex.q (q_move (by rfl)) (by rfl) ?_)
  refine WL.yes (by rfl) (Ex.q (q_assign (by rfl)) (by rfl) ?_)
  refine WL.nil ?_
  (repeat refine J.seq ?_)
  refine J.block ?_
  (repeat refine J.seq ?_)
  refine J.loop (fun k : Nat => n ≤ k ∧ k ≤ 128) (fun k => ⟨[(2, .ptr 2 b2 0), (4, .ptr 4 b4 0), (5, iV k)], [(2, .box b2 31 (adV (clrL a n k))), (4, .box b4 31 (.bytes 16 (List.replicate 16 0)))], []⟩) (fun k => 128 - k) n ?_ ?_ ?_
  · exact ⟨Nat.le_refl _, hn⟩
  · exact Le.mk ⟨same rfl, same rfl, same rfl, trivial⟩ (HLe.sub (.cons (s := 2) rfl (CLe.bytes (clrL_zero a n)) rfl (.cons (s := 4) rfl (CLe.refl _ _) rfl .nil))) rfl
  intro k hk
  (repeat refine J.seq ?_)
  refine J.region ?_
  refine WL.yes (by rfl) (Ex.q (q_move (by rfl)) (by rfl) ?_)
  refine WL.yes (by rfl) (Ex.q (q_int (by rfl) (by rfl) (by rfl)) (by rfl) ?_)
  refine WL.nil ?_
  (repeat refine J.seq ?_)
  refine J.cond (by rfl) (fun c8 => ?_) (fun c8 => ?_)
  · skip
    have hlt : k < 128 := by have := of_decide_eq_true c8; omega
    (repeat refine J.seq ?_)
    refine J.skip ?_
    (repeat refine J.seq ?_)
    refine J.block ?_
    (repeat refine J.seq ?_)
    refine J.region ?_
    refine WL.yes (by rfl) (Ex.q (q_move (by rfl)) (by rfl) ?_)
    refine WL.yes (by rfl) (Ex.q (q_quo (by rfl) (by rfl) ?_) (by rfl) ?_); (· omega)
    refine WL.yes (by rfl) (Ex.q (q_move (by rfl)) (by rfl) ?_)
    refine WL.yes (by rfl) (Ex.q (q_quo (by rfl) (by rfl) ?_) (by rfl) ?_); (· omega)
    first | (refine WL.yes (by rfl) (Ex.q (q_indexAddr_ros (by rfl) (by rfl) (by intro _; rfl) ?_ ?_) (by rfl) ?_); (· exact ix0 hlt); (· exact ix1 hlt)) | (refine WL.yes (by rfl) (Ex.q (q_indexAddr_sl (by rfl) (by rfl) ?_ ?_) (by rfl) ?_); (· exact ix0 hlt); (· exact ix1 hlt)) | (refine WL.yes (by rfl) (Ex.q (q_indexAddr_arr (by rfl) (by rfl) ?_ ?_) (by rfl) ?_); (· exact ix0 hlt); (· exact ix1 hlt))
    first | (refine WL.yes (by rfl) (Ex.h (h_load (by rfl) (by rfl) (at_byte (ix2 hlt))) (by rfl) ?_)) | (refine WL.yes (by rfl) (Ex.q (q_load (by rfl) (by rfl) (at_byte (ix2 hlt))) (by rfl) ?_)) | (refine WL.yes (by rfl) (Ex.q (q_load_rop (by rfl) (by rfl)) (by rfl) ?_)) | (refine WL.yes (by rfl) (Ex.h (h_load_pel (by rfl) (by rfl) ?_ (by rfl)) (by rfl) ?_); (· omega)) | (refine WL.yes (by rfl) (Ex.q (q_load_pel (by rfl) (by rfl) ?_ (by rfl)) (by rfl) ?_); (· omega))
    refine WL.yes (by rfl) (Ex.q (q_move (by rfl)) (by rfl) ?_)
    refine WL.yes (by rfl) (Ex.q (q_rem (by rfl) (by rfl) ?_) (by rfl) ?_); (· omega)
    refine WL.yes (by rfl) (Ex.q (q_conv (by rfl)) (by rfl) ?_)
    refine WL.yes (by rfl) (Ex.q (q_shr (by rfl) (by rfl) ?_) (by rfl) ?_); (· exact sh1 hlt)
    refine WL.yes (by rfl) (Ex.q (q_int (by rfl) (by rfl) (by rfl)) (by rfl) ?_)
    first | (refine WL.yes (by rfl) (Ex.q (q_indexAddr_ros (by rfl) (by rfl) (by intro _; rfl) ?_ ?_) (by rfl) ?_); (· exact ix0 hlt); (· exact ix1 hlt)) | (refine WL.yes (by rfl) (Ex.q (q_indexAddr_sl (by rfl) (by rfl) ?_ ?_) (by rfl) ?_); (· exact ix0 hlt); (· exact ix1 hlt)) | (refine WL.yes (by rfl) (Ex.q (q_indexAddr_arr (by rfl) (by rfl) ?_ ?_) (by rfl) ?_); (· exact ix0 hlt); (· exact ix1 hlt))
    first | (refine WL.yes (by rfl) (Ex.store (by rfl) (by rfl) (by rfl) (by rfl) (by rfl) (upd_byte (ix2 hlt)) ?_)) | (refine WL.yes (by rfl) (Ex.store_pel (by rfl) (by rfl) (by rfl) (by rfl) (by rfl) ?_ (by rfl) ?_); (· omega))
    refine WL.nil ?_
    (repeat refine J.seq ?_)
    refine J.region ?_
    refine WL.yes (by rfl) (Ex.q (q_move (by rfl)) (by rfl) ?_)
    refine WL.yes (by rfl) (Ex.q (q_int (by rfl) (by rfl) (by rfl)) (by rfl) ?_)
    refine WL.yes (by rfl) (Ex.q (q_assign (by rfl)) (by rfl) ?_)
    refine WL.nil ?_
    refine Kloop.next (k + 1) (by omega) (by omega) (Le.mk ⟨same rfl, same rfl, same (by rw [← w64_nat (k := k) (by omega)]; rfl), trivial⟩ (HLe.sub (.cons (s := 2) rfl (CLe.box ?_) rfl (.cons (s := 4) rfl (CLe.refl _ _) rfl .nil))) rfl)
    rw [ix3 hlt, sh0' hlt]
    exact congrArg (V.bytes 16) (clrL_succ a hk.1 hlt)
  · skip
    have he : k = 128 := by have := of_decide_eq_false c8; omega
    subst he
    (repeat refine J.seq ?_)
    refine J.exit ?_
    (repeat refine J.seq ?_)
    refine J.region ?_
    first | (refine WL.yes (by rfl) (Ex.h (h_load (by rfl) (by rfl) (by rfl)) (by rfl) ?_)) | (refine WL.yes (by rfl) (Ex.q (q_load (by rfl) (by rfl) (by rfl)) (by rfl) ?_)) | (refine WL.yes (by rfl) (Ex.q (q_load_rop (by rfl) (by rfl)) (by rfl) ?_)) | (refine WL.yes (by rfl) (Ex.h (h_load_pel (by rfl) (by rfl) ?_ (by rfl)) (by rfl) ?_); (· omega)) | (refine WL.yes (by rfl) (Ex.q (q_load_pel (by rfl) (by rfl) ?_ (by rfl)) (by rfl) ?_); (· omega))
    first | (refine WL.yes (by rfl) (Ex.store (by rfl) (by rfl) (by rfl) (by rfl) (by rfl) (by rfl) ?_)) | (refine WL.yes (by rfl) (Ex.store_pel (by rfl) (by rfl) (by rfl) (by rfl) (by rfl) ?_ (by rfl) ?_); (· omega))
    refine WL.nil ?_
    (repeat refine J.seq ?_)
    refine J.ret ?_
    (repeat (with_reducible first | refine Kseq.ret ?_ | refine Kblock.ret ?_ | refine Kloop.ret ?_))
    exact Kret.mk [] (.cell inferInstance (by rfl) (by rfl) (by rfl) .nil) (by rfl) trivial (HLe.nil _ _) ⟨rfl, rfl⟩

set_option maxHeartbeats 4000000 in
set_option maxRecDepth 100000 in
theorem famR_spec {a : List Int} (ha : AdOk a) : SpecQ Try.prog 49 [adV a] (iV (famA a)) := by
  refine Spec.of_J Try.func49 rfl Try.ntmps49 Try.results49 rfl ?_
  intro A F hAF
  (repeat refine J.seq ?_)
  refine J.region ?_
  refine WL.yes (by rfl) (Ex.box (by rfl) (by rfl) (by rfl) ?_)
  intro b1
  refine WL.yes (by rfl) (Ex.q (q_assign (by rfl)) (by rfl) ?_)
  refine WL.nil ?_
  (repeat refine J.seq ?_)
  refine J.region ?_
  refine WL.yes (by rfl) (Ex.q (q_assign (by rfl)) (by rfl) ?_)
  refine WL.nil ?_
  (repeat refine J.seq ?_)
  refine J.block ?_
  (repeat refine J.seq ?_)
  refine J.loop (fun k : Nat => k ≤ 12 ∧ ∀ j, j < k → a.getD j 0 = famB j) (fun k => ⟨[(1, .ptr 1 b1 0), (3, iV k)], [(1, .box b1 31 (adV a))], []⟩) (fun k => 12 - k) 0 ?_ ?_ ?_
  · exact ⟨by omega, fun j hj => absurd hj (Nat.not_lt_zero j)⟩
  · exact Le.mk ⟨same rfl, same rfl, trivial⟩ (HLe.sub (.cons (s := 1) rfl (CLe.refl _ _) rfl .nil)) rfl
  intro k hk
  obtain ⟨hk, hz⟩ := hk
  (repeat refine J.seq ?_)
  refine J.region ?_
  refine WL.yes (by rfl) (Ex.q (q_move (by rfl)) (by rfl) ?_)
  refine WL.yes (by rfl) (Ex.q (q_int (by rfl) (by rfl) (by rfl)) (by rfl) ?_)
  refine WL.nil ?_
  (repeat refine J.seq ?_)
  refine J.cond (by rfl) (fun c5 => ?_) (fun c5 => ?_)
  · skip
    have hlt : k < 12 := by have := of_decide_eq_true c5; omega
    (repeat refine J.seq ?_)
    refine J.skip ?_
    (repeat refine J.seq ?_)
    refine J.block ?_
    (repeat refine J.seq ?_)
    refine J.region ?_
    refine WL.yes (by rfl) (Ex.q (q_move (by rfl)) (by rfl) ?_)
    refine WL.yes (by rfl) (Ex.q (q_int (by rfl) (by rfl) (by rfl)) (by rfl) ?_)
    refine WL.yes (by rfl) (Ex.q (q_move (by rfl)) (by rfl) ?_)
    refine WL.split 10 (by rfl) (fun g10 => ?_) (fun g10 => ?_)
    · skip
      have h10 : k < 10 := by have := of_decide_eq_true g10; omega
      refine WL.yes (by rfl) (Ex.q (q_move (by rfl)) (by rfl) ?_)
      first | (refine WL.yes (by rfl) (Ex.q (q_indexAddr_ros (by rfl) (by rfl) (by intro _; rfl) ?_ ?_) (by rfl) ?_); (· omega); (· omega)) | (refine WL.yes (by rfl) (Ex.q (q_indexAddr_sl (by rfl) (by rfl) ?_ ?_) (by rfl) ?_); (· omega); (· omega)) | (refine WL.yes (by rfl) (Ex.q (q_indexAddr_arr (by rfl) (by rfl) ?_ ?_) (by rfl) ?_); (· omega); (· omega))
      first | (refine WL.yes (by rfl) (Ex.h (h_load (by rfl) (by rfl) (at_byte (by omega))) (by rfl) ?_)) | (refine WL.yes (by rfl) (Ex.q (q_load (by rfl) (by rfl) (at_byte (by omega))) (by rfl) ?_)) | (refine WL.yes (by rfl) (Ex.q (q_load_rop (by rfl) (by rfl)) (by rfl) ?_)) | (refine WL.yes (by rfl) (Ex.h (h_load_pel (by rfl) (by rfl) ?_ (by rfl)) (by rfl) ?_); (· omega)) | (refine WL.yes (by rfl) (Ex.q (q_load_pel (by rfl) (by rfl) ?_ (by rfl)) (by rfl) ?_); (· omega))
      first | (refine WL.yes (by rfl) (Ex.q (q_int (by rfl) (by rfl) (by rfl)) (by rfl) ?_)) | (refine WL.yes (by rfl) (Ex.q (q_neb (by rfl) (by rfl)) (by rfl) ?_)) | (refine WL.yes (by rfl) (Ex.q (q_nep rfl rfl (by rfl) (by rfl) ?_) (by rfl) ?_); (· rfl)) | (refine WL.yes (by rfl) (Ex.q (q_eqs (by rfl) (by rfl)) (by rfl) ?_))
      refine WL.yes (by rfl) (Ex.q (q_pick_t (by rfl) (by rfl)) (by rfl) ?_)
      refine WL.yes (by rfl) (Ex.q (q_move (by rfl)) (by rfl) ?_)
      refine WL.split 16 (by rfl) (fun g16 => ?_) (fun g16 => ?_)
      · skip
        have hx : a.getD k 0 ≠ famB k := by simpa [famB, h10] using g16
        refine WL.no (by rfl) (by rfl) ?_
        refine WL.no (by rfl) (by rfl) ?_
        refine WL.no (by rfl) (by rfl) ?_
        refine WL.no (by rfl) (by rfl) ?_
        refine WL.no (by rfl) (by rfl) ?_
        refine WL.no (by rfl) (by rfl) ?_
        refine WL.no (by rfl) (by rfl) ?_
        refine WL.no (by rfl) (by rfl) ?_
        refine WL.yes (by rfl) (Ex.q (q_pick_t (by rfl) (by rfl)) (by rfl) ?_)
        refine WL.nil ?_
        (repeat refine J.seq ?_)
        refine J.condT (by rfl) ?_
        (repeat refine J.seq ?_)
        refine J.region ?_
        refine WL.yes (by rfl) (Ex.q (q_assign (by rfl)) (by rfl) ?_)
        refine WL.nil ?_
        (repeat refine J.seq ?_)
        refine J.ret ?_
        (repeat (with_reducible first | refine Kseq.ret ?_ | refine Kblock.ret ?_ | refine Kloop.ret ?_))
        refine Kret.mk [] (.tmp (by rfl) .nil) (by rfl) trivial (HLe.nil _ _) ?_
        refine ⟨?_, rfl⟩
        simp only [tupV, cv]
        first
          | exact congrArg iV (fam_all ha hz).symm
          | exact congrArg iV (fam_no ha hlt (by assumption)).symm
          | (exfalso; have h19 := of_decide_eq_true g19; omega)
          | (have hx2 : a.getD k 0 ≠ famB k := by simpa [famB, h10] using c25
             exact congrArg iV (fam_no ha hlt hx2).symm)
      · skip
        have hx : k < 10 → a.getD k 0 = famB k := fun h10 => by simpa [famB, h10] using g16
        refine WL.yes (by rfl) (Ex.q (q_move (by rfl)) (by rfl) ?_)
        refine WL.yes (by rfl) (Ex.q (q_int (by rfl) (by rfl) (by rfl)) (by rfl) ?_)
        refine WL.yes (by rfl) (Ex.q (q_move (by rfl)) (by rfl) ?_)
        refine WL.split 19 (by rfl) (fun g19 => ?_) (fun g19 => ?_)
        · skip
          refine WL.yes (by rfl) (Ex.q (q_move (by rfl)) (by rfl) ?_)
          first | (refine WL.yes (by rfl) (Ex.q (q_indexAddr_ros (by rfl) (by rfl) (by intro _; rfl) ?_ ?_) (by rfl) ?_); (· omega); (· omega)) | (refine WL.yes (by rfl) (Ex.q (q_indexAddr_sl (by rfl) (by rfl) ?_ ?_) (by rfl) ?_); (· omega); (· omega)) | (refine WL.yes (by rfl) (Ex.q (q_indexAddr_arr (by rfl) (by rfl) ?_ ?_) (by rfl) ?_); (· omega); (· omega))
          first | (refine WL.yes (by rfl) (Ex.h (h_load (by rfl) (by rfl) (at_byte (by omega))) (by rfl) ?_)) | (refine WL.yes (by rfl) (Ex.q (q_load (by rfl) (by rfl) (at_byte (by omega))) (by rfl) ?_)) | (refine WL.yes (by rfl) (Ex.q (q_load_rop (by rfl) (by rfl)) (by rfl) ?_)) | (refine WL.yes (by rfl) (Ex.h (h_load_pel (by rfl) (by rfl) ?_ (by rfl)) (by rfl) ?_); (· omega)) | (refine WL.yes (by rfl) (Ex.q (q_load_pel (by rfl) (by rfl) ?_ (by rfl)) (by rfl) ?_); (· omega))
          first | (refine WL.yes (by rfl) (Ex.q (q_int (by rfl) (by rfl) (by rfl)) (by rfl) ?_)) | (refine WL.yes (by rfl) (Ex.q (q_neb (by rfl) (by rfl)) (by rfl) ?_)) | (refine WL.yes (by rfl) (Ex.q (q_nep rfl rfl (by rfl) (by rfl) ?_) (by rfl) ?_); (· rfl)) | (refine WL.yes (by rfl) (Ex.q (q_eqs (by rfl) (by rfl)) (by rfl) ?_))
          refine WL.yes (by rfl) (Ex.q (q_pick_t (by rfl) (by rfl)) (by rfl) ?_)
          refine WL.yes (by rfl) (Ex.q (q_pick_f (by rfl) (by rfl)) (by rfl) ?_)
          refine WL.nil ?_
          (repeat refine J.seq ?_)
          refine J.cond (by rfl) (fun c25 => ?_) (fun c25 => ?_)
          · skip
            (repeat refine J.seq ?_)
            refine J.region ?_
            refine WL.yes (by rfl) (Ex.q (q_assign (by rfl)) (by rfl) ?_)
            refine WL.nil ?_
            (repeat refine J.seq ?_)
            refine J.ret ?_
            (repeat (with_reducible first | refine Kseq.ret ?_ | refine Kblock.ret ?_ | refine Kloop.ret ?_))
            refine Kret.mk [] (.tmp (by rfl) .nil) (by rfl) trivial (HLe.nil _ _) ?_
            refine ⟨?_, rfl⟩
            simp only [tupV, cv]
            first
              | exact congrArg iV (fam_all ha hz).symm
              | exact congrArg iV (fam_no ha hlt (by assumption)).symm
              | (exfalso; have h19 := of_decide_eq_true g19; omega)
              | (have hx2 : a.getD k 0 ≠ famB k := by simpa [famB, h10] using c25
                 exact congrArg iV (fam_no ha hlt hx2).symm)
          · skip
            (repeat refine J.seq ?_)
            refine J.skip ?_
            (repeat refine J.seq ?_)
            refine J.region ?_
            refine WL.yes (by rfl) (Ex.q (q_move (by rfl)) (by rfl) ?_)
            refine WL.yes (by rfl) (Ex.q (q_int (by rfl) (by rfl) (by rfl)) (by rfl) ?_)
            refine WL.yes (by rfl) (Ex.q (q_assign (by rfl)) (by rfl) ?_)
            refine WL.nil ?_
            refine Kloop.next (k + 1) ⟨by omega, fun j hj => ?_⟩ (by omega) (Le.mk ⟨same rfl, same (by rw [← w64_nat (k := k) (by omega)]; rfl), trivial⟩ (HLe.sub (.cons (s := 1) rfl (CLe.refl _ _) rfl .nil)) rfl)
            by_cases hjk : j < k
            · exact hz j hjk
            · have : j = k := by omega
              subst this
              simp_all [famB]
        · skip
          refine WL.no (by rfl) (by rfl) ?_
          refine WL.no (by rfl) (by rfl) ?_
          refine WL.no (by rfl) (by rfl) ?_
          refine WL.no (by rfl) (by rfl) ?_
          refine WL.yes (by rfl) (Ex.q (q_pick_f (by rfl) (by rfl)) (by rfl) ?_)
          refine WL.yes (by rfl) (Ex.q (q_pick_f (by rfl) (by rfl)) (by rfl) ?_)
          refine WL.nil ?_
          (repeat refine J.seq ?_)
          refine J.condF (by rfl) ?_
          (repeat refine J.seq ?_)
          refine J.skip ?_
          (repeat refine J.seq ?_)
          refine J.region ?_
          refine WL.yes (by rfl) (Ex.q (q_move (by rfl)) (by rfl) ?_)
          refine WL.yes (by rfl) (Ex.q (q_int (by rfl) (by rfl) (by rfl)) (by rfl) ?_)
          refine WL.yes (by rfl) (Ex.q (q_assign (by rfl)) (by rfl) ?_)
          refine WL.nil ?_
          refine Kloop.next (k + 1) ⟨by omega, fun j hj => ?_⟩ (by omega) (Le.mk ⟨same rfl, same (by rw [← w64_nat (k := k) (by omega)]; rfl), trivial⟩ (HLe.sub (.cons (s := 1) rfl (CLe.refl _ _) rfl .nil)) rfl)
          by_cases hjk : j < k
          · exact hz j hjk
          · have : j = k := by omega
            subst this
            simp_all [famB]
    · skip
      have h10 : ¬ k < 10 := by have := of_decide_eq_false g10; omega
      refine WL.no (by rfl) (by rfl) ?_
      refine WL.no (by rfl) (by rfl) ?_
      refine WL.no (by rfl) (by rfl) ?_
      refine WL.no (by rfl) (by rfl) ?_
      refine WL.yes (by rfl) (Ex.q (q_pick_f (by rfl) (by rfl)) (by rfl) ?_)
      refine WL.yes (by rfl) (Ex.q (q_move (by rfl)) (by rfl) ?_)
      refine WL.yes (by rfl) (Ex.q (q_move (by rfl)) (by rfl) ?_)
      refine WL.yes (by rfl) (Ex.q (q_int (by rfl) (by rfl) (by rfl)) (by rfl) ?_)
      refine WL.yes (by rfl) (Ex.q (q_move (by rfl)) (by rfl) ?_)
      refine WL.split 19 (by rfl) (fun g19 => ?_) (fun g19 => ?_)
      · skip
        refine WL.yes (by rfl) (Ex.q (q_move (by rfl)) (by rfl) ?_)
        first | (refine WL.yes (by rfl) (Ex.q (q_indexAddr_ros (by rfl) (by rfl) (by intro _; rfl) ?_ ?_) (by rfl) ?_); (· omega); (· omega)) | (refine WL.yes (by rfl) (Ex.q (q_indexAddr_sl (by rfl) (by rfl) ?_ ?_) (by rfl) ?_); (· omega); (· omega)) | (refine WL.yes (by rfl) (Ex.q (q_indexAddr_arr (by rfl) (by rfl) ?_ ?_) (by rfl) ?_); (· omega); (· omega))
        first | (refine WL.yes (by rfl) (Ex.h (h_load (by rfl) (by rfl) (at_byte (by omega))) (by rfl) ?_)) | (refine WL.yes (by rfl) (Ex.q (q_load (by rfl) (by rfl) (at_byte (by omega))) (by rfl) ?_)) | (refine WL.yes (by rfl) (Ex.q (q_load_rop (by rfl) (by rfl)) (by rfl) ?_)) | (refine WL.yes (by rfl) (Ex.h (h_load_pel (by rfl) (by rfl) ?_ (by rfl)) (by rfl) ?_); (· omega)) | (refine WL.yes (by rfl) (Ex.q (q_load_pel (by rfl) (by rfl) ?_ (by rfl)) (by rfl) ?_); (· omega))
        first | (refine WL.yes (by rfl) (Ex.q (q_int (by rfl) (by rfl) (by rfl)) (by rfl) ?_)) | (refine WL.yes (by rfl) (Ex.q (q_neb (by rfl) (by rfl)) (by rfl) ?_)) | (refine WL.yes (by rfl) (Ex.q (q_nep rfl rfl (by rfl) (by rfl) ?_) (by rfl) ?_); (· rfl)) | (refine WL.yes (by rfl) (Ex.q (q_eqs (by rfl) (by rfl)) (by rfl) ?_))
        refine WL.yes (by rfl) (Ex.q (q_pick_t (by rfl) (by rfl)) (by rfl) ?_)
        refine WL.yes (by rfl) (Ex.q (q_pick_f (by rfl) (by rfl)) (by rfl) ?_)
        refine WL.nil ?_
        (repeat refine J.seq ?_)
        refine J.cond (by rfl) (fun c25 => ?_) (fun c25 => ?_)
        · skip
          (repeat refine J.seq ?_)
          refine J.region ?_
          refine WL.yes (by rfl) (Ex.q (q_assign (by rfl)) (by rfl) ?_)
          refine WL.nil ?_
          (repeat refine J.seq ?_)
          refine J.ret ?_
          (repeat (with_reducible first | refine Kseq.ret ?_ | refine Kblock.ret ?_ | refine Kloop.ret ?_))
          refine Kret.mk [] (.tmp (by rfl) .nil) (by rfl) trivial (HLe.nil _ _) ?_
          refine ⟨?_, rfl⟩
          simp only [tupV, cv]
          first
            | exact congrArg iV (fam_all ha hz).symm
            | exact congrArg iV (fam_no ha hlt (by assumption)).symm
            | (exfalso; have h19 := of_decide_eq_true g19; omega)
            | (have hx2 : a.getD k 0 ≠ famB k := by simpa [famB, h10] using c25
               exact congrArg iV (fam_no ha hlt hx2).symm)
        · skip
          (repeat refine J.seq ?_)
          refine J.skip ?_
          (repeat refine J.seq ?_)
          refine J.region ?_
          refine WL.yes (by rfl) (Ex.q (q_move (by rfl)) (by rfl) ?_)
          refine WL.yes (by rfl) (Ex.q (q_int (by rfl) (by rfl) (by rfl)) (by rfl) ?_)
          refine WL.yes (by rfl) (Ex.q (q_assign (by rfl)) (by rfl) ?_)
          refine WL.nil ?_
          refine Kloop.next (k + 1) ⟨by omega, fun j hj => ?_⟩ (by omega) (Le.mk ⟨same rfl, same (by rw [← w64_nat (k := k) (by omega)]; rfl), trivial⟩ (HLe.sub (.cons (s := 1) rfl (CLe.refl _ _) rfl .nil)) rfl)
          by_cases hjk : j < k
          · exact hz j hjk
          · have : j = k := by omega
            subst this
            simp_all [famB]
      · skip
        refine WL.no (by rfl) (by rfl) ?_
        refine WL.no (by rfl) (by rfl) ?_
        refine WL.no (by rfl) (by rfl) ?_
        refine WL.no (by rfl) (by rfl) ?_
        refine WL.yes (by rfl) (Ex.q (q_pick_f (by rfl) (by rfl)) (by rfl) ?_)
        refine WL.yes (by rfl) (Ex.q (q_pick_f (by rfl) (by rfl)) (by rfl) ?_)
        refine WL.nil ?_
        (repeat refine J.seq ?_)
        refine J.condF (by rfl) ?_
        (repeat refine J.seq ?_)
        refine J.skip ?_
        (repeat refine J.seq ?_)
        refine J.region ?_
        refine WL.yes (by rfl) (Ex.q (q_move (by rfl)) (by rfl) ?_)
        refine WL.yes (by rfl) (Ex.q (q_int (by rfl) (by rfl) (by rfl)) (by rfl) ?_)
        refine WL.yes (by rfl) (Ex.q (q_assign (by rfl)) (by rfl) ?_)
        refine WL.nil ?_
        refine Kloop.next (k + 1) ⟨by omega, fun j hj => ?_⟩ (by omega) (Le.mk ⟨same rfl, same (by rw [← w64_nat (k := k) (by omega)]; rfl), trivial⟩ (HLe.sub (.cons (s := 1) rfl (CLe.refl _ _) rfl .nil)) rfl)
        by_cases hjk : j < k
        · exact hz j hjk
        · have : j = k := by omega
          subst this
          simp_all [famB]
  · skip
    have he : k = 12 := by have := of_decide_eq_false c5; omega
    subst he
    (repeat refine J.seq ?_)
    refine J.exit ?_
    (repeat refine J.seq ?_)
    refine J.region ?_
    refine WL.yes (by rfl) (Ex.q (q_assign (by rfl)) (by rfl) ?_)
    refine WL.nil ?_
    (repeat refine J.seq ?_)
    refine J.ret ?_
    (repeat (with_reducible first | refine Kseq.ret ?_ | refine Kblock.ret ?_ | refine Kloop.ret ?_))
    refine Kret.mk [] (.tmp (by rfl) .nil) (by rfl) trivial (HLe.nil _ _) ?_
    refine ⟨?_, rfl⟩
    simp only [tupV, cv]
    first
      | exact congrArg iV (fam_all ha hz).symm
      | exact congrArg iV (fam_no ha hlt (by assumption)).symm
      | (exfalso; have h19 := of_decide_eq_true g19; omega)
      | (have hx2 : a.getD k 0 ≠ famB k := by simpa [famB, h10] using c25
         exact congrArg iV (fam_no ha hlt hx2).symm)

set_option maxHeartbeats 4000000 in
set_option maxRecDepth 100000 in
theorem famPR_spec {a : List Int} (n : Int) (ha : AdOk a) : SpecQ Try.prog 59 [pfV a n] (iV (famP a n)) := by
  refine Spec.of_J Try.func59 rfl Try.ntmps59 Try.results59 rfl ?_
  intro A F hAF
  (repeat refine J.seq ?_)
  refine J.region ?_
  refine WL.yes (by rfl) (Ex.box (by rfl) (by rfl) (by rfl) ?_)
  intro b1
  refine WL.yes (by rfl) (Ex.q (q_assign (by rfl)) (by rfl) ?_)
  refine WL.nil ?_
  (repeat refine J.seq ?_)
  refine J.region ?_
  first | (refine WL.yes (by rfl) (Ex.q (q_fieldAddr (by rfl)) (by rfl) ?_)) | (refine WL.yes (by rfl) (Ex.q (q_fieldAddr_rop (by rfl) (by rfl)) (by rfl) ?_)) | (refine WL.yes (by rfl) (Ex.q (q_fieldAddr_pel (by rfl)) (by rfl) ?_))
  first | (refine WL.yes (by rfl) (Ex.h (h_load (by rfl) (by rfl) (by rfl)) (by rfl) ?_)) | (refine WL.yes (by rfl) (Ex.q (q_load (by rfl) (by rfl) (by rfl)) (by rfl) ?_)) | (refine WL.yes (by rfl) (Ex.q (q_load_rop (by rfl) (by rfl)) (by rfl) ?_)) | (refine WL.yes (by rfl) (Ex.h (h_load_pel (by rfl) (by rfl) ?_ (by rfl)) (by rfl) ?_); (· omega)) | (refine WL.yes (by rfl) (Ex.q (q_load_pel (by rfl) (by rfl) ?_ (by rfl)) (by rfl) ?_); (· omega))
  refine WL.yes (by rfl) (Ex.q (q_int (by rfl) (by rfl) (by rfl)) (by rfl) ?_)
  refine WL.yes (by rfl) (Ex.q (q_move (by rfl)) (by rfl) ?_)
  refine WL.split 6 (by rfl) (fun g6 => ?_) (fun g6 => ?_)
  · skip
    have h1 : 96 ≤ n := by have := of_decide_eq_true g6; omega
    first | (refine WL.yes (by rfl) (Ex.q (q_fieldAddr (by rfl)) (by rfl) ?_)) | (refine WL.yes (by rfl) (Ex.q (q_fieldAddr_rop (by rfl) (by rfl)) (by rfl) ?_)) | (refine WL.yes (by rfl) (Ex.q (q_fieldAddr_pel (by rfl)) (by rfl) ?_))
    first | (refine WL.yes (by rfl) (Ex.h (h_load (by rfl) (by rfl) (by rfl)) (by rfl) ?_)) | (refine WL.yes (by rfl) (Ex.q (q_load (by rfl) (by rfl) (by rfl)) (by rfl) ?_)) | (refine WL.yes (by rfl) (Ex.q (q_load_rop (by rfl) (by rfl)) (by rfl) ?_)) | (refine WL.yes (by rfl) (Ex.h (h_load_pel (by rfl) (by rfl) ?_ (by rfl)) (by rfl) ?_); (· omega)) | (refine WL.yes (by rfl) (Ex.q (q_load_pel (by rfl) (by rfl) ?_ (by rfl)) (by rfl) ?_); (· omega))
    refine WL.yes (by rfl) (Ex.callq (famR_spec ?_) (by rfl) (by rfl) rfl (fun _ h => h) ?_); (· assumption)
    first | (refine WL.yes (by rfl) (Ex.q (q_int (by rfl) (by rfl) (by rfl)) (by rfl) ?_)) | (refine WL.yes (by rfl) (Ex.q (q_eqb (by rfl) (by rfl)) (by rfl) ?_)) | (refine WL.yes (by rfl) (Ex.q (q_eqp rfl rfl (by rfl) (by rfl) ?_) (by rfl) ?_); (· rfl)) | (refine WL.yes (by rfl) (Ex.q (q_eqs (by rfl) (by rfl)) (by rfl) ?_))
    refine WL.yes (by rfl) (Ex.q (q_pick_t (by rfl) (by rfl)) (by rfl) ?_)
    refine WL.nil ?_
    (repeat refine J.seq ?_)
    refine J.cond (by rfl) (fun c11 => ?_) (fun c11 => ?_)
    · skip
      (repeat refine J.seq ?_)
      refine J.region ?_
      refine WL.yes (by rfl) (Ex.q (q_assign (by rfl)) (by rfl) ?_)
      refine WL.nil ?_
      (repeat refine J.seq ?_)
      refine J.ret ?_
      (repeat (with_reducible first | refine Kseq.ret ?_ | refine Kblock.ret ?_ | refine Kloop.ret ?_))
      refine Kret.mk [] (.tmp (by rfl) .nil) (by rfl) trivial (HLe.nil _ _) ?_
      refine ⟨?_, rfl⟩
      simp only [tupV, cv]
      refine congrArg iV ?_
      unfold famP
      first
        | (rw [if_pos h1])
        | (rw [if_neg (by omega)]; simp_all [famA])
    · skip
      (repeat refine J.seq ?_)
      refine J.skip ?_
      (repeat refine J.seq ?_)
      refine J.region ?_
      refine WL.yes (by rfl) (Ex.q (q_assign (by rfl)) (by rfl) ?_)
      refine WL.nil ?_
      (repeat refine J.seq ?_)
      refine J.ret ?_
      (repeat (with_reducible first | refine Kseq.ret ?_ | refine Kblock.ret ?_ | refine Kloop.ret ?_))
      refine Kret.mk [] (.tmp (by rfl) .nil) (by rfl) trivial (HLe.nil _ _) ?_
      refine ⟨?_, rfl⟩
      simp only [tupV, cv]
      refine congrArg iV ?_
      unfold famP
      first
        | (rw [if_pos h1])
        | (rw [if_neg (by omega)]; simp_all [famA])
  · skip
    have h1 : n < 96 := by have := of_decide_eq_false g6; omega
    refine WL.no (by rfl) (by rfl) ?_
    refine WL.no (by rfl) (by rfl) ?_
    refine WL.no (by rfl) (by rfl) ?_
    refine WL.no (by rfl) (by rfl) ?_
    refine WL.yes (by rfl) (Ex.q (q_pick_f (by rfl) (by rfl)) (by rfl) ?_)
    refine WL.nil ?_
    (repeat refine J.seq ?_)
    refine J.condF (by rfl) ?_
    (repeat refine J.seq ?_)
    refine J.skip ?_
    (repeat refine J.seq ?_)
    refine J.region ?_
    refine WL.yes (by rfl) (Ex.q (q_assign (by rfl)) (by rfl) ?_)
    refine WL.nil ?_
    (repeat refine J.seq ?_)
    refine J.ret ?_
    (repeat (with_reducible first | refine Kseq.ret ?_ | refine Kblock.ret ?_ | refine Kloop.ret ?_))
    refine Kret.mk [] (.tmp (by rfl) .nil) (by rfl) trivial (HLe.nil _ _) ?_
    refine ⟨?_, rfl⟩
    simp only [tupV, cv]
    refine congrArg iV ?_
    unfold famP
    first
      | (rw [if_pos h1])
      | (rw [if_neg (by omega)]; simp_all [famA])

set_option maxHeartbeats 4000000 in
set_option maxRecDepth 100000 in
theorem family_spec {a : List Int} (n : Int) (ha : AdOk a) : SpecQ Try.prog 66 [pfV a n] (iV (famP a n)) := by
  refine Spec.of_J Try.func66 rfl Try.ntmps66 Try.results66 rfl ?_
  intro A F hAF
  (repeat refine J.seq ?_)
  refine J.region ?_
  refine WL.yes (by rfl) (Ex.box (by rfl) (by rfl) (by rfl) ?_)
  intro b1
  refine WL.yes (by rfl) (Ex.q (q_assign (by rfl)) (by rfl) ?_)
  refine WL.nil ?_
  (repeat refine J.seq ?_)
  refine J.region ?_
  first | (refine WL.yes (by rfl) (Ex.h (h_load (by rfl) (by rfl) (by rfl)) (by rfl) ?_)) | (refine WL.yes (by rfl) (Ex.q (q_load (by rfl) (by rfl) (by rfl)) (by rfl) ?_)) | (refine WL.yes (by rfl) (Ex.q (q_load_rop (by rfl) (by rfl)) (by rfl) ?_)) | (refine WL.yes (by rfl) (Ex.h (h_load_pel (by rfl) (by rfl) ?_ (by rfl)) (by rfl) ?_); (· omega)) | (refine WL.yes (by rfl) (Ex.q (q_load_pel (by rfl) (by rfl) ?_ (by rfl)) (by rfl) ?_); (· omega))
  refine WL.yes (by rfl) (Ex.callq (famPR_spec _ ?_) (by rfl) (by rfl) rfl (fun _ h => h) ?_); (· assumption)
  refine WL.yes (by rfl) (Ex.q (q_assign (by rfl)) (by rfl) ?_)
  refine WL.nil ?_
  (repeat refine J.seq ?_)
  refine J.ret ?_
  (repeat (with_reducible first | refine Kseq.ret ?_ | refine Kblock.ret ?_ | refine Kloop.ret ?_))
  refine Kret.mk [] (.tmp (by rfl) .nil) (by rfl) trivial (HLe.nil _ _) ?_
  refine ⟨?_, rfl⟩
  (try simp_all [cv, tupV]) <;> (repeat' split) <;> (first | rfl | omega)

set_option maxHeartbeats 4000000 in
set_option maxRecDepth 100000 in
theorem checkR_spec {a : List Int} (n : Int) (ha : AdOk a) : SpecQ Try.prog 77 [pfV a n] (iV (if okp a n then 0 else 21)) := by
  refine Spec.of_J Try.func77 rfl Try.ntmps77 Try.results77 rfl ?_
  intro A F hAF
  (repeat refine J.seq ?_)
  refine J.region ?_
  refine WL.yes (by rfl) (Ex.box (by rfl) (by rfl) (by rfl) ?_)
  intro b1
  refine WL.yes (by rfl) (Ex.q (q_assign (by rfl)) (by rfl) ?_)
  refine WL.nil ?_
  (repeat refine J.seq ?_)
  refine J.region ?_
  first | (refine WL.yes (by rfl) (Ex.q (q_fieldAddr (by rfl)) (by rfl) ?_)) | (refine WL.yes (by rfl) (Ex.q (q_fieldAddr_rop (by rfl) (by rfl)) (by rfl) ?_)) | (refine WL.yes (by rfl) (Ex.q (q_fieldAddr_pel (by rfl)) (by rfl) ?_))
  first | (refine WL.yes (by rfl) (Ex.h (h_load (by rfl) (by rfl) (by rfl)) (by rfl) ?_)) | (refine WL.yes (by rfl) (Ex.q (q_load (by rfl) (by rfl) (by rfl)) (by rfl) ?_)) | (refine WL.yes (by rfl) (Ex.q (q_load_rop (by rfl) (by rfl)) (by rfl) ?_)) | (refine WL.yes (by rfl) (Ex.h (h_load_pel (by rfl) (by rfl) ?_ (by rfl)) (by rfl) ?_); (· omega)) | (refine WL.yes (by rfl) (Ex.q (q_load_pel (by rfl) (by rfl) ?_ (by rfl)) (by rfl) ?_); (· omega))
  refine WL.yes (by rfl) (Ex.q (q_int (by rfl) (by rfl) (by rfl)) (by rfl) ?_)
  refine WL.yes (by rfl) (Ex.q (q_move (by rfl)) (by rfl) ?_)
  refine WL.split 7 (by rfl) (fun g7 => ?_) (fun g7 => ?_)
  · skip
    have h1 : n < 0 := of_decide_eq_true g7
    refine WL.no (by rfl) (by rfl) ?_
    refine WL.no (by rfl) (by rfl) ?_
    refine WL.no (by rfl) (by rfl) ?_
    refine WL.yes (by rfl) (Ex.q (q_pick_t (by rfl) (by rfl)) (by rfl) ?_)
    refine WL.nil ?_
    (repeat refine J.seq ?_)
    refine J.condT (by rfl) ?_
    (repeat refine J.seq ?_)
    refine J.region ?_
    refine WL.yes (by rfl) (Ex.q (q_assign (by rfl)) (by rfl) ?_)
    refine WL.nil ?_
    (repeat refine J.seq ?_)
    refine J.ret ?_
    (repeat (with_reducible first | refine Kseq.ret ?_ | refine Kblock.ret ?_ | refine Kloop.ret ?_))
    refine Kret.mk [] (.tmp (by rfl) .nil) (by rfl) trivial (HLe.nil _ _) ?_
    refine ⟨?_, rfl⟩
    simp only [tupV, cv]
    refine congrArg iV ?_
    symm
    first
      | exact if_neg (fun e => by have := okp_rng e; omega)
      | exact if_neg (fun e => (bits_mk1 ha m (by omega)).2 (okp_eqb e) k hk0 hlt hx)
      | exact if_pos (okp_mk (by omega) (by omega) ((bits_mk1 ha m (by omega)).1 hz))
  · skip
    have h1 : ¬ n < 0 := of_decide_eq_false g7
    first | (refine WL.yes (by rfl) (Ex.q (q_fieldAddr (by rfl)) (by rfl) ?_)) | (refine WL.yes (by rfl) (Ex.q (q_fieldAddr_rop (by rfl) (by rfl)) (by rfl) ?_)) | (refine WL.yes (by rfl) (Ex.q (q_fieldAddr_pel (by rfl)) (by rfl) ?_))
    first | (refine WL.yes (by rfl) (Ex.h (h_load (by rfl) (by rfl) (by rfl)) (by rfl) ?_)) | (refine WL.yes (by rfl) (Ex.q (q_load (by rfl) (by rfl) (by rfl)) (by rfl) ?_)) | (refine WL.yes (by rfl) (Ex.q (q_load_rop (by rfl) (by rfl)) (by rfl) ?_)) | (refine WL.yes (by rfl) (Ex.h (h_load_pel (by rfl) (by rfl) ?_ (by rfl)) (by rfl) ?_); (· omega)) | (refine WL.yes (by rfl) (Ex.q (q_load_pel (by rfl) (by rfl) ?_ (by rfl)) (by rfl) ?_); (· omega))
    refine WL.yes (by rfl) (Ex.q (q_int (by rfl) (by rfl) (by rfl)) (by rfl) ?_)
    refine WL.yes (by rfl) (Ex.q (q_pick_f (by rfl) (by rfl)) (by rfl) ?_)
    refine WL.nil ?_
    (repeat refine J.seq ?_)
    refine J.cond (by rfl) (fun c11 => ?_) (fun c11 => ?_)
    · skip
      have h2 : n > 128 := of_decide_eq_true c11
      (repeat refine J.seq ?_)
      refine J.region ?_
      refine WL.yes (by rfl) (Ex.q (q_assign (by rfl)) (by rfl) ?_)
      refine WL.nil ?_
      (repeat refine J.seq ?_)
      refine J.ret ?_
      (repeat (with_reducible first | refine Kseq.ret ?_ | refine Kblock.ret ?_ | refine Kloop.ret ?_))
      refine Kret.mk [] (.tmp (by rfl) .nil) (by rfl) trivial (HLe.nil _ _) ?_
      refine ⟨?_, rfl⟩
      simp only [tupV, cv]
      refine congrArg iV ?_
      symm
      first
        | exact if_neg (fun e => by have := okp_rng e; omega)
        | exact if_neg (fun e => (bits_mk1 ha m (by omega)).2 (okp_eqb e) k hk0 hlt hx)
        | exact if_pos (okp_mk (by omega) (by omega) ((bits_mk1 ha m (by omega)).1 hz))
    · skip
      have h2 : ¬ n > 128 := of_decide_eq_false c11
      obtain ⟨m, rfl⟩ : ∃ m : Nat, n = m := ⟨n.toNat, by omega⟩
      (repeat refine J.seq ?_)
      refine J.skip ?_
      (repeat refine J.seq ?_)
      refine J.region ?_
      first | (refine WL.yes (by rfl) (Ex.q (q_fieldAddr (by rfl)) (by rfl) ?_)) | (refine WL.yes (by rfl) (Ex.q (q_fieldAddr_rop (by rfl) (by rfl)) (by rfl) ?_)) | (refine WL.yes (by rfl) (Ex.q (q_fieldAddr_pel (by rfl)) (by rfl) ?_))
      first | (refine WL.yes (by rfl) (Ex.h (h_load (by rfl) (by rfl) (by rfl)) (by rfl) ?_)) | (refine WL.yes (by rfl) (Ex.q (q_load (by rfl) (by rfl) (by rfl)) (by rfl) ?_)) | (refine WL.yes (by rfl) (Ex.q (q_load_rop (by rfl) (by rfl)) (by rfl) ?_)) | (refine WL.yes (by rfl) (Ex.h (h_load_pel (by rfl) (by rfl) ?_ (by rfl)) (by rfl) ?_); (· omega)) | (refine WL.yes (by rfl) (Ex.q (q_load_pel (by rfl) (by rfl) ?_ (by rfl)) (by rfl) ?_); (· omega))
      refine WL.yes (by rfl) (Ex.q (q_assign (by rfl)) (by rfl) ?_)
      refine WL.nil ?_
      (repeat refine J.seq ?_)
      refine J.block ?_
      (repeat refine J.seq ?_)
      refine J.loop (fun k : Nat => m ≤ k ∧ k ≤ 128 ∧ ∀ j, m ≤ j → j < k → bitV (a.getD (j / 8) 0) (j % 8) ≠ 1) (fun k => ⟨[(1, .ptr 1 b1 0), (3, iV k)], [(1, .box b1 33 (pfV a m))], []⟩) (fun k => 128 - k) m ?_ ?_ ?_
      · exact ⟨Nat.le_refl _, by omega, fun j h1 h2 => by omega⟩
      · exact Le.mk ⟨same rfl, same rfl, trivial⟩ (HLe.sub (.cons (s := 1) rfl (CLe.refl _ _) rfl .nil)) rfl
      intro k hk
      obtain ⟨hk0, hk, hz⟩ := hk
      (repeat refine J.seq ?_)
      refine J.region ?_
      refine WL.yes (by rfl) (Ex.q (q_move (by rfl)) (by rfl) ?_)
      refine WL.yes (by rfl) (Ex.q (q_int (by rfl) (by rfl) (by rfl)) (by rfl) ?_)
      refine WL.nil ?_
      (repeat refine J.seq ?_)
      refine J.cond (by rfl) (fun c15 => ?_) (fun c15 => ?_)
      · skip
        have hlt : k < 128 := by have := of_decide_eq_true c15; omega
        (repeat refine J.seq ?_)
        refine J.skip ?_
        (repeat refine J.seq ?_)
        refine J.block ?_
        (repeat refine J.seq ?_)
        refine J.region ?_
        first | (refine WL.yes (by rfl) (Ex.q (q_fieldAddr (by rfl)) (by rfl) ?_)) | (refine WL.yes (by rfl) (Ex.q (q_fieldAddr_rop (by rfl) (by rfl)) (by rfl) ?_)) | (refine WL.yes (by rfl) (Ex.q (q_fieldAddr_pel (by rfl)) (by rfl) ?_))
        first | (refine WL.yes (by rfl) (Ex.h (h_load (by rfl) (by rfl) (by rfl)) (by rfl) ?_)) | (refine WL.yes (by rfl) (Ex.q (q_load (by rfl) (by rfl) (by rfl)) (by rfl) ?_)) | (refine WL.yes (by rfl) (Ex.q (q_load_rop (by rfl) (by rfl)) (by rfl) ?_)) | (refine WL.yes (by rfl) (Ex.h (h_load_pel (by rfl) (by rfl) ?_ (by rfl)) (by rfl) ?_); (· omega)) | (refine WL.yes (by rfl) (Ex.q (q_load_pel (by rfl) (by rfl) ?_ (by rfl)) (by rfl) ?_); (· omega))
        refine WL.yes (by rfl) (Ex.q (q_move (by rfl)) (by rfl) ?_)
        refine WL.yes (by rfl) (Ex.callq (bit_spec _ _ ?_) (by rfl) (by rfl) rfl (fun _ h => h) ?_); (· exact hlt)
        first | (refine WL.yes (by rfl) (Ex.q (q_int (by rfl) (by rfl) (by rfl)) (by rfl) ?_)) | (refine WL.yes (by rfl) (Ex.q (q_eqb (by rfl) (by rfl)) (by rfl) ?_)) | (refine WL.yes (by rfl) (Ex.q (q_eqp rfl rfl (by rfl) (by rfl) ?_) (by rfl) ?_); (· rfl)) | (refine WL.yes (by rfl) (Ex.q (q_eqs (by rfl) (by rfl)) (by rfl) ?_))
        refine WL.nil ?_
        (repeat refine J.seq ?_)
        refine J.cond (by rfl) (fun c22 => ?_) (fun c22 => ?_)
        · skip
          have hx : bitV (a.getD (k / 8) 0) (k % 8) = 1 := of_decide_eq_true c22
          (repeat refine J.seq ?_)
          refine J.region ?_
          refine WL.yes (by rfl) (Ex.q (q_assign (by rfl)) (by rfl) ?_)
          refine WL.nil ?_
          (repeat refine J.seq ?_)
          refine J.ret ?_
          (repeat (with_reducible first | refine Kseq.ret ?_ | refine Kblock.ret ?_ | refine Kloop.ret ?_))
          refine Kret.mk [] (.tmp (by rfl) .nil) (by rfl) trivial (HLe.nil _ _) ?_
          refine ⟨?_, rfl⟩
          simp only [tupV, cv]
          refine congrArg iV ?_
          symm
          first
            | exact if_neg (fun e => by have := okp_rng e; omega)
            | exact if_neg (fun e => (bits_mk1 ha m (by omega)).2 (okp_eqb e) k hk0 hlt hx)
            | exact if_pos (okp_mk (by omega) (by omega) ((bits_mk1 ha m (by omega)).1 hz))
        · skip
          have hx : bitV (a.getD (k / 8) 0) (k % 8) ≠ 1 := of_decide_eq_false c22
          (repeat refine J.seq ?_)
          refine J.skip ?_
          (repeat refine J.seq ?_)
          refine J.region ?_
          refine WL.yes (by rfl) (Ex.q (q_move (by rfl)) (by rfl) ?_)
          refine WL.yes (by rfl) (Ex.q (q_int (by rfl) (by rfl) (by rfl)) (by rfl) ?_)
          refine WL.yes (by rfl) (Ex.q (q_assign (by rfl)) (by rfl) ?_)
          refine WL.nil ?_
          refine Kloop.next (k + 1) ⟨by omega, by omega, fun j h1 h2 => ?_⟩ (by omega) (Le.mk ⟨same rfl, same (by rw [← w64_nat (k := k) (by omega)]; rfl), trivial⟩ (HLe.sub (.cons (s := 1) rfl (CLe.refl _ _) rfl .nil)) rfl)
          by_cases hjk : j < k
          · exact hz j h1 hjk
          · have : j = k := by omega
            subst this
            exact hx
      · skip
        have he : k = 128 := by have := of_decide_eq_false c15; omega
        subst he
        (repeat refine J.seq ?_)
        refine J.exit ?_
        (repeat refine J.seq ?_)
        refine J.region ?_
        refine WL.yes (by rfl) (Ex.q (q_assign (by rfl)) (by rfl) ?_)
        refine WL.nil ?_
        (repeat refine J.seq ?_)
        refine J.ret ?_
        (repeat (with_reducible first | refine Kseq.ret ?_ | refine Kblock.ret ?_ | refine Kloop.ret ?_))
        refine Kret.mk [] (.tmp (by rfl) .nil) (by rfl) trivial (HLe.nil _ _) ?_
        refine ⟨?_, rfl⟩
        simp only [tupV, cv]
        refine congrArg iV ?_
        symm
        first
          | exact if_neg (fun e => by have := okp_rng e; omega)
          | exact if_neg (fun e => (bits_mk1 ha m (by omega)).2 (okp_eqb e) k hk0 hlt hx)
          | exact if_pos (okp_mk (by omega) (by omega) ((bits_mk1 ha m (by omega)).1 hz))

set_option maxHeartbeats 4000000 in
set_option maxRecDepth 100000 in
theorem containsR_spec {a b : List Int} (n : Int) (ha : AdOk a) (hb : AdOk b) : SpecQ Try.prog 60 [pfV a n, adV b] (.bool (contains a n b)) := by
  refine Spec.of_J Try.func60 rfl Try.ntmps60 Try.results60 rfl ?_
  intro A F hAF
  (repeat refine J.seq ?_)
  refine J.region ?_
  refine WL.yes (by rfl) (Ex.box (by rfl) (by rfl) (by rfl) ?_)
  intro b2
  refine WL.yes (by rfl) (Ex.box (by rfl) (by rfl) (by rfl) ?_)
  intro b3
  refine WL.yes (by rfl) (Ex.q (q_assign (by rfl)) (by rfl) ?_)
  refine WL.nil ?_
  (repeat refine J.seq ?_)
  refine J.draw [2, 3] 9999 [(0, true), (1, false), (2, true), (3, true), (4, true), (5, true), (6, true), (8, true), (9, true), (7, false), (10, true), (11, true), (12, true)] (by kernel_rfl) rfl (by kernel_rfl) ?_
  intro F1 hF1
  first | (refine WS.take rfl (by rfl) (by rfl) (q_load (by rfl) (by rfl) (by rfl)) ?_) | (refine WS.take rfl (by rfl) (by rfl) (q_load_rop (by rfl) (by rfl)) ?_) | (refine WS.take rfl (by rfl) (by rfl) (q_load_pel (by rfl) (by rfl) ?_ (by rfl)) ?_; (· omega))
  refine WS.ex rfl (by rfl) (Ex.callq (checkR_spec _ ?_) (by rfl) (by rfl) rfl (fun _ h => h) ?_); (· assumption)
  first | (refine WS.take rfl (by rfl) (by rfl) (q_int (by rfl) (by rfl) (by rfl)) ?_) | (refine WS.take rfl (by rfl) (by rfl) (q_eqb (by rfl) (by rfl)) ?_) | (refine WS.take rfl (by rfl) (by rfl) (q_eqp rfl rfl (by rfl) (by rfl) ?_) ?_; (· rfl)) | (refine WS.take rfl (by rfl) (by rfl) (q_eqs (by rfl) (by rfl)) ?_)
  refine WS.take rfl (by rfl) (by rfl) (q_move (by rfl)) ?_
  refine WS.split 8 (by rfl) (fun g8 => ?_) (fun g8 => ?_)
  · skip
    have h1 := okp_of g8
    have h2 := okp_rng h1
    obtain ⟨m, rfl⟩ : ∃ m : Nat, n = m := ⟨n.toNat, by omega⟩
    first | (refine WS.take rfl (by rfl) (by rfl) (q_load (by rfl) (by rfl) (by rfl)) ?_) | (refine WS.take rfl (by rfl) (by rfl) (q_load_rop (by rfl) (by rfl)) ?_) | (refine WS.take rfl (by rfl) (by rfl) (q_load_pel (by rfl) (by rfl) ?_ (by rfl)) ?_; (· omega))
    first | (refine WS.take rfl (by rfl) (by rfl) (q_fieldAddr (by rfl)) ?_) | (refine WS.take rfl (by rfl) (by rfl) (q_fieldAddr_rop (by rfl) (by rfl)) ?_) | (refine WS.take rfl (by rfl) (by rfl) (q_fieldAddr_pel (by rfl)) ?_)
    first | (refine WS.take rfl (by rfl) (by rfl) (q_load (by rfl) (by rfl) (by rfl)) ?_) | (refine WS.take rfl (by rfl) (by rfl) (q_load_rop (by rfl) (by rfl)) ?_) | (refine WS.take rfl (by rfl) (by rfl) (q_load_pel (by rfl) (by rfl) ?_ (by rfl)) ?_; (· omega))
    first | (refine WS.take rfl (by rfl) (by rfl) (q_fieldAddr (by rfl)) ?_) | (refine WS.take rfl (by rfl) (by rfl) (q_fieldAddr_rop (by rfl) (by rfl)) ?_) | (refine WS.take rfl (by rfl) (by rfl) (q_fieldAddr_pel (by rfl)) ?_)
    first | (refine WS.take rfl (by rfl) (by rfl) (q_load (by rfl) (by rfl) (by rfl)) ?_) | (refine WS.take rfl (by rfl) (by rfl) (q_load_rop (by rfl) (by rfl)) ?_) | (refine WS.take rfl (by rfl) (by rfl) (q_load_pel (by rfl) (by rfl) ?_ (by rfl)) ?_; (· omega))
    refine WS.ex rfl (by rfl) (Ex.callq (maskedR_spec _ _ ?_) (by rfl) (by rfl) rfl (fun _ h => h) ?_); (· omega)
    first | (refine WS.take rfl (by rfl) (by rfl) (q_int (by rfl) (by rfl) (by rfl)) ?_) | (refine WS.take rfl (by rfl) (by rfl) (q_eqb (by rfl) (by rfl)) ?_) | (refine WS.take rfl (by rfl) (by rfl) (q_eqp rfl rfl (by rfl) (by rfl) ?_) ?_; (· rfl)) | (refine WS.take rfl (by rfl) (by rfl) (q_eqs (by rfl) (by rfl)) ?_)
    refine WS.take rfl (by rfl) (by rfl) (q_pick_t (by rfl) (by rfl)) ?_
    refine WS.take rfl (by rfl) (by rfl) (q_assign (by rfl)) ?_
    refine WS.nil ?_
    (repeat refine J.seq ?_)
    refine J.ret ?_
    (repeat (with_reducible first | refine Kseq.ret ?_ | refine Kblock.ret ?_ | refine Kloop.ret ?_))
    refine Kret.mk [] (.tmp (by rfl) .nil) (by rfl) trivial (HLe.nil _ _) ?_
    refine ⟨?_, rfl⟩
    simp only [tupV, cv]
    first
      | (rw [clrL_mk1 hb m (by omega)]; exact congrArg V.bool (by unfold contains; rw [h1]; rfl))
      | exact congrArg V.bool (by unfold contains; rw [h1]; rfl)
  · skip
    have h1 := okp_not g8
    refine WS.takeNo rfl (by rfl) (by rfl) ?_
    refine WS.takeNo rfl (by rfl) (by rfl) ?_
    refine WS.takeNo rfl (by rfl) (by rfl) ?_
    refine WS.takeNo rfl (by rfl) (by rfl) ?_
    refine WS.takeNo rfl (by rfl) (by rfl) ?_
    refine WS.takeNo rfl (by rfl) (by rfl) ?_
    refine WS.takeNo rfl (by rfl) (by rfl) ?_
    refine WS.take rfl (by rfl) (by rfl) (q_pick_f (by rfl) (by rfl)) ?_
    refine WS.take rfl (by rfl) (by rfl) (q_assign (by rfl)) ?_
    refine WS.nil ?_
    (repeat refine J.seq ?_)
    refine J.ret ?_
    (repeat (with_reducible first | refine Kseq.ret ?_ | refine Kblock.ret ?_ | refine Kloop.ret ?_))
    refine Kret.mk [] (.tmp (by rfl) .nil) (by rfl) trivial (HLe.nil _ _) ?_
    refine ⟨?_, rfl⟩
    simp only [tupV, cv]
    first
      | (rw [clrL_mk1 hb m (by omega)]; exact congrArg V.bool (by unfold contains; rw [h1]; rfl))
      | exact congrArg V.bool (by unfold contains; rw [h1]; rfl)

set_option maxHeartbeats 4000000 in
set_option maxRecDepth 100000 in
theorem coversR_spec {a b : List Int} (n m : Int) (ha : AdOk a) (hb : AdOk b) : SpecQ Try.prog 65 [pfV a n, pfV b m] (.bool (covers a n b m)) := by
  refine Spec.of_J Try.func65 rfl Try.ntmps65 Try.results65 rfl ?_
  intro A F hAF
  (repeat refine J.seq ?_)
  refine J.region ?_
  refine WL.yes (by rfl) (Ex.box (by rfl) (by rfl) (by rfl) ?_)
  intro b2
  refine WL.yes (by rfl) (Ex.box (by rfl) (by rfl) (by rfl) ?_)
  intro b3
  refine WL.yes (by rfl) (Ex.q (q_assign (by rfl)) (by rfl) ?_)
  refine WL.nil ?_
  (repeat refine J.seq ?_)
  refine J.region ?_
  first | (refine WL.yes (by rfl) (Ex.h (h_load (by rfl) (by rfl) (by rfl)) (by rfl) ?_)) | (refine WL.yes (by rfl) (Ex.q (q_load (by rfl) (by rfl) (by rfl)) (by rfl) ?_)) | (refine WL.yes (by rfl) (Ex.q (q_load_rop (by rfl) (by rfl)) (by rfl) ?_)) | (refine WL.yes (by rfl) (Ex.h (h_load_pel (by rfl) (by rfl) ?_ (by rfl)) (by rfl) ?_); (· omega)) | (refine WL.yes (by rfl) (Ex.q (q_load_pel (by rfl) (by rfl) ?_ (by rfl)) (by rfl) ?_); (· omega))
  refine WL.yes (by rfl) (Ex.callq (checkR_spec _ ?_) (by rfl) (by rfl) rfl (fun _ h => h) ?_); (· assumption)
  first | (refine WL.yes (by rfl) (Ex.q (q_int (by rfl) (by rfl) (by rfl)) (by rfl) ?_)) | (refine WL.yes (by rfl) (Ex.q (q_eqb (by rfl) (by rfl)) (by rfl) ?_)) | (refine WL.yes (by rfl) (Ex.q (q_eqp rfl rfl (by rfl) (by rfl) ?_) (by rfl) ?_); (· rfl)) | (refine WL.yes (by rfl) (Ex.q (q_eqs (by rfl) (by rfl)) (by rfl) ?_))
  refine WL.yes (by rfl) (Ex.q (q_move (by rfl)) (by rfl) ?_)
  refine WL.split 8 (by rfl) (fun g8 => ?_) (fun g8 => ?_)
  · skip
    have h1 := okp_of g8
    first | (refine WL.yes (by rfl) (Ex.q (q_fieldAddr (by rfl)) (by rfl) ?_)) | (refine WL.yes (by rfl) (Ex.q (q_fieldAddr_rop (by rfl) (by rfl)) (by rfl) ?_)) | (refine WL.yes (by rfl) (Ex.q (q_fieldAddr_pel (by rfl)) (by rfl) ?_))
    first | (refine WL.yes (by rfl) (Ex.h (h_load (by rfl) (by rfl) (by rfl)) (by rfl) ?_)) | (refine WL.yes (by rfl) (Ex.q (q_load (by rfl) (by rfl) (by rfl)) (by rfl) ?_)) | (refine WL.yes (by rfl) (Ex.q (q_load_rop (by rfl) (by rfl)) (by rfl) ?_)) | (refine WL.yes (by rfl) (Ex.h (h_load_pel (by rfl) (by rfl) ?_ (by rfl)) (by rfl) ?_); (· omega)) | (refine WL.yes (by rfl) (Ex.q (q_load_pel (by rfl) (by rfl) ?_ (by rfl)) (by rfl) ?_); (· omega))
    first | (refine WL.yes (by rfl) (Ex.q (q_fieldAddr (by rfl)) (by rfl) ?_)) | (refine WL.yes (by rfl) (Ex.q (q_fieldAddr_rop (by rfl) (by rfl)) (by rfl) ?_)) | (refine WL.yes (by rfl) (Ex.q (q_fieldAddr_pel (by rfl)) (by rfl) ?_))
    first | (refine WL.yes (by rfl) (Ex.h (h_load (by rfl) (by rfl) (by rfl)) (by rfl) ?_)) | (refine WL.yes (by rfl) (Ex.q (q_load (by rfl) (by rfl) (by rfl)) (by rfl) ?_)) | (refine WL.yes (by rfl) (Ex.q (q_load_rop (by rfl) (by rfl)) (by rfl) ?_)) | (refine WL.yes (by rfl) (Ex.h (h_load_pel (by rfl) (by rfl) ?_ (by rfl)) (by rfl) ?_); (· omega)) | (refine WL.yes (by rfl) (Ex.q (q_load_pel (by rfl) (by rfl) ?_ (by rfl)) (by rfl) ?_); (· omega))
    refine WL.yes (by rfl) (Ex.q (q_int (by rfl) (by rfl) (by rfl)) (by rfl) ?_)
    refine WL.yes (by rfl) (Ex.q (q_pick_t (by rfl) (by rfl)) (by rfl) ?_)
    refine WL.yes (by rfl) (Ex.q (q_move (by rfl)) (by rfl) ?_)
    refine WL.split 15 (by rfl) (fun g15 => ?_) (fun g15 => ?_)
    · skip
      first | (refine WL.yes (by rfl) (Ex.h (h_load (by rfl) (by rfl) (by rfl)) (by rfl) ?_)) | (refine WL.yes (by rfl) (Ex.q (q_load (by rfl) (by rfl) (by rfl)) (by rfl) ?_)) | (refine WL.yes (by rfl) (Ex.q (q_load_rop (by rfl) (by rfl)) (by rfl) ?_)) | (refine WL.yes (by rfl) (Ex.h (h_load_pel (by rfl) (by rfl) ?_ (by rfl)) (by rfl) ?_); (· omega)) | (refine WL.yes (by rfl) (Ex.q (q_load_pel (by rfl) (by rfl) ?_ (by rfl)) (by rfl) ?_); (· omega))
      first | (refine WL.yes (by rfl) (Ex.q (q_fieldAddr (by rfl)) (by rfl) ?_)) | (refine WL.yes (by rfl) (Ex.q (q_fieldAddr_rop (by rfl) (by rfl)) (by rfl) ?_)) | (refine WL.yes (by rfl) (Ex.q (q_fieldAddr_pel (by rfl)) (by rfl) ?_))
      first | (refine WL.yes (by rfl) (Ex.h (h_load (by rfl) (by rfl) (by rfl)) (by rfl) ?_)) | (refine WL.yes (by rfl) (Ex.q (q_load (by rfl) (by rfl) (by rfl)) (by rfl) ?_)) | (refine WL.yes (by rfl) (Ex.q (q_load_rop (by rfl) (by rfl)) (by rfl) ?_)) | (refine WL.yes (by rfl) (Ex.h (h_load_pel (by rfl) (by rfl) ?_ (by rfl)) (by rfl) ?_); (· omega)) | (refine WL.yes (by rfl) (Ex.q (q_load_pel (by rfl) (by rfl) ?_ (by rfl)) (by rfl) ?_); (· omega))
      refine WL.yes (by rfl) (Ex.callq (containsR_spec _ ?_ ?_) (by rfl) (by rfl) rfl (fun _ h => h) ?_); (· assumption); (· assumption)
      refine WL.yes (by rfl) (Ex.q (q_pick_t (by rfl) (by rfl)) (by rfl) ?_)
      refine WL.yes (by rfl) (Ex.q (q_assign (by rfl)) (by rfl) ?_)
      refine WL.nil ?_
      (repeat refine J.seq ?_)
      refine J.ret ?_
      (repeat (with_reducible first | refine Kseq.ret ?_ | refine Kblock.ret ?_ | refine Kloop.ret ?_))
      refine Kret.mk [] (.tmp (by rfl) .nil) (by rfl) trivial (HLe.nil _ _) ?_
      refine ⟨?_, rfl⟩
      simp only [tupV, cv]
      (try simp_all [covers]) <;> (intro _; omega)
    · skip
      refine WL.no (by rfl) (by rfl) ?_
      refine WL.no (by rfl) (by rfl) ?_
      refine WL.no (by rfl) (by rfl) ?_
      refine WL.no (by rfl) (by rfl) ?_
      refine WL.yes (by rfl) (Ex.q (q_pick_f (by rfl) (by rfl)) (by rfl) ?_)
      refine WL.yes (by rfl) (Ex.q (q_assign (by rfl)) (by rfl) ?_)
      refine WL.nil ?_
      (repeat refine J.seq ?_)
      refine J.ret ?_
      (repeat (with_reducible first | refine Kseq.ret ?_ | refine Kblock.ret ?_ | refine Kloop.ret ?_))
      refine Kret.mk [] (.tmp (by rfl) .nil) (by rfl) trivial (HLe.nil _ _) ?_
      refine ⟨?_, rfl⟩
      simp only [tupV, cv]
      (try simp_all [covers]) <;> (intro _; omega)
  · skip
    have h1 := okp_not g8
    refine WL.no (by rfl) (by rfl) ?_
    refine WL.no (by rfl) (by rfl) ?_
    refine WL.no (by rfl) (by rfl) ?_
    refine WL.no (by rfl) (by rfl) ?_
    refine WL.no (by rfl) (by rfl) ?_
    refine WL.yes (by rfl) (Ex.q (q_pick_f (by rfl) (by rfl)) (by rfl) ?_)
    refine WL.yes (by rfl) (Ex.q (q_move (by rfl)) (by rfl) ?_)
    refine WL.no (by rfl) (by rfl) ?_
    refine WL.no (by rfl) (by rfl) ?_
    refine WL.no (by rfl) (by rfl) ?_
    refine WL.no (by rfl) (by rfl) ?_
    refine WL.yes (by rfl) (Ex.q (q_pick_f (by rfl) (by rfl)) (by rfl) ?_)
    refine WL.yes (by rfl) (Ex.q (q_assign (by rfl)) (by rfl) ?_)
    refine WL.nil ?_
    (repeat refine J.seq ?_)
    refine J.ret ?_
    (repeat (with_reducible first | refine Kseq.ret ?_ | refine Kblock.ret ?_ | refine Kloop.ret ?_))
    refine Kret.mk [] (.tmp (by rfl) .nil) (by rfl) trivial (HLe.nil _ _) ?_
    refine ⟨?_, rfl⟩
    simp only [tupV, cv]
    (try simp_all [covers]) <;> (intro _; omega)

set_option maxHeartbeats 4000000 in
set_option maxRecDepth 100000 in
theorem checkPairR_spec {da sa : List Int} (dn sn : Int) (hd : AdOk da) (hs : AdOk sa) : SpecQ Try.prog 55 [prV da dn sa sn] (iV (if okpair da dn sa sn then 0 else 21)) := by
  refine Spec.of_J Try.func55 rfl Try.ntmps55 Try.results55 rfl ?_
  intro A F hAF
  (repeat refine J.seq ?_)
  refine J.region ?_
  refine WL.yes (by rfl) (Ex.box (by rfl) (by rfl) (by rfl) ?_)
  intro b1
  refine WL.yes (by rfl) (Ex.q (q_assign (by rfl)) (by rfl) ?_)
  refine WL.nil ?_
  (repeat refine J.seq ?_)
  refine J.draw [1] 9999 [(0, true), (1, true), (2, false), (3, true), (4, true), (5, true), (6, true), (7, false), (8, true), (9, true), (10, true), (11, true), (12, true), (14, true), (15, true), (13, false), (16, false), (17, true), (18, true)] (by kernel_rfl) rfl (by kernel_rfl) ?_
  intro F1 hF1
  first | (refine WS.take rfl (by rfl) (by rfl) (q_fieldAddr (by rfl)) ?_) | (refine WS.take rfl (by rfl) (by rfl) (q_fieldAddr_rop (by rfl) (by rfl)) ?_) | (refine WS.take rfl (by rfl) (by rfl) (q_fieldAddr_pel (by rfl)) ?_)
  first | (refine WS.take rfl (by rfl) (by rfl) (q_load (by rfl) (by rfl) (by rfl)) ?_) | (refine WS.take rfl (by rfl) (by rfl) (q_load_rop (by rfl) (by rfl)) ?_) | (refine WS.take rfl (by rfl) (by rfl) (q_load_pel (by rfl) (by rfl) ?_ (by rfl)) ?_; (· omega))
  refine WS.ex rfl (by rfl) (Ex.callq (checkR_spec _ ?_) (by rfl) (by rfl) rfl (fun _ h => h) ?_); (· assumption)
  first | (refine WS.take rfl (by rfl) (by rfl) (q_int (by rfl) (by rfl) (by rfl)) ?_) | (refine WS.take rfl (by rfl) (by rfl) (q_neb (by rfl) (by rfl)) ?_) | (refine WS.take rfl (by rfl) (by rfl) (q_nep rfl rfl (by rfl) (by rfl) ?_) ?_; (· rfl)) | (refine WS.take rfl (by rfl) (by rfl) (q_eqs (by rfl) (by rfl)) ?_)
  refine WS.take rfl (by rfl) (by rfl) (q_move (by rfl)) ?_
  refine WS.split 7 (by rfl) (fun g7 => ?_) (fun g7 => ?_)
  · skip
    have h1 := okp_nnot g7
    refine WS.takeNo rfl (by rfl) (by rfl) ?_
    refine WS.takeNo rfl (by rfl) (by rfl) ?_
    refine WS.takeNo rfl (by rfl) (by rfl) ?_
    refine WS.takeNo rfl (by rfl) (by rfl) ?_
    refine WS.take rfl (by rfl) (by rfl) (q_pick_t (by rfl) (by rfl)) ?_
    refine WS.take rfl (by rfl) (by rfl) (q_move (by rfl)) ?_
    refine WS.takeNo rfl (by rfl) (by rfl) ?_
    refine WS.takeNo rfl (by rfl) (by rfl) ?_
    refine WS.takeNo rfl (by rfl) (by rfl) ?_
    refine WS.takeNo rfl (by rfl) (by rfl) ?_
    refine WS.takeNo rfl (by rfl) (by rfl) ?_
    refine WS.takeNo rfl (by rfl) (by rfl) ?_
    refine WS.takeNo rfl (by rfl) (by rfl) ?_
    refine WS.take rfl (by rfl) (by rfl) (q_pick_t (by rfl) (by rfl)) ?_
    refine WS.nil ?_
    (repeat refine J.seq ?_)
    refine J.condT (by rfl) ?_
    (repeat refine J.seq ?_)
    refine J.region ?_
    refine WL.yes (by rfl) (Ex.q (q_assign (by rfl)) (by rfl) ?_)
    refine WL.nil ?_
    (repeat refine J.seq ?_)
    refine J.ret ?_
    (repeat (with_reducible first | refine Kseq.ret ?_ | refine Kblock.ret ?_ | refine Kloop.ret ?_))
    refine Kret.mk [] (.tmp (by rfl) .nil) (by rfl) trivial (HLe.nil _ _) ?_
    refine ⟨?_, rfl⟩
    simp only [tupV, cv]
    simp_all [okpair]
  · skip
    have h1 := okp_nof g7
    first | (refine WS.take rfl (by rfl) (by rfl) (q_fieldAddr (by rfl)) ?_) | (refine WS.take rfl (by rfl) (by rfl) (q_fieldAddr_rop (by rfl) (by rfl)) ?_) | (refine WS.take rfl (by rfl) (by rfl) (q_fieldAddr_pel (by rfl)) ?_)
    first | (refine WS.take rfl (by rfl) (by rfl) (q_load (by rfl) (by rfl) (by rfl)) ?_) | (refine WS.take rfl (by rfl) (by rfl) (q_load_rop (by rfl) (by rfl)) ?_) | (refine WS.take rfl (by rfl) (by rfl) (q_load_pel (by rfl) (by rfl) ?_ (by rfl)) ?_; (· omega))
    refine WS.ex rfl (by rfl) (Ex.callq (checkR_spec _ ?_) (by rfl) (by rfl) rfl (fun _ h => h) ?_); (· assumption)
    first | (refine WS.take rfl (by rfl) (by rfl) (q_int (by rfl) (by rfl) (by rfl)) ?_) | (refine WS.take rfl (by rfl) (by rfl) (q_neb (by rfl) (by rfl)) ?_) | (refine WS.take rfl (by rfl) (by rfl) (q_nep rfl rfl (by rfl) (by rfl) ?_) ?_; (· rfl)) | (refine WS.take rfl (by rfl) (by rfl) (q_eqs (by rfl) (by rfl)) ?_)
    refine WS.take rfl (by rfl) (by rfl) (q_pick_f (by rfl) (by rfl)) ?_
    refine WS.take rfl (by rfl) (by rfl) (q_move (by rfl)) ?_
    refine WS.split 13 (by rfl) (fun g13 => ?_) (fun g13 => ?_)
    · skip
      have h2 := okp_nnot g13
      refine WS.takeNo rfl (by rfl) (by rfl) ?_
      refine WS.takeNo rfl (by rfl) (by rfl) ?_
      refine WS.takeNo rfl (by rfl) (by rfl) ?_
      refine WS.takeNo rfl (by rfl) (by rfl) ?_
      refine WS.takeNo rfl (by rfl) (by rfl) ?_
      refine WS.takeNo rfl (by rfl) (by rfl) ?_
      refine WS.takeNo rfl (by rfl) (by rfl) ?_
      refine WS.take rfl (by rfl) (by rfl) (q_pick_t (by rfl) (by rfl)) ?_
      refine WS.nil ?_
      (repeat refine J.seq ?_)
      refine J.condT (by rfl) ?_
      (repeat refine J.seq ?_)
      refine J.region ?_
      refine WL.yes (by rfl) (Ex.q (q_assign (by rfl)) (by rfl) ?_)
      refine WL.nil ?_
      (repeat refine J.seq ?_)
      refine J.ret ?_
      (repeat (with_reducible first | refine Kseq.ret ?_ | refine Kblock.ret ?_ | refine Kloop.ret ?_))
      refine Kret.mk [] (.tmp (by rfl) .nil) (by rfl) trivial (HLe.nil _ _) ?_
      refine ⟨?_, rfl⟩
      simp only [tupV, cv]
      simp_all [okpair]
    · skip
      have h2 := okp_nof g13
      first | (refine WS.take rfl (by rfl) (by rfl) (q_fieldAddr (by rfl)) ?_) | (refine WS.take rfl (by rfl) (by rfl) (q_fieldAddr_rop (by rfl) (by rfl)) ?_) | (refine WS.take rfl (by rfl) (by rfl) (q_fieldAddr_pel (by rfl)) ?_)
      first | (refine WS.take rfl (by rfl) (by rfl) (q_load (by rfl) (by rfl) (by rfl)) ?_) | (refine WS.take rfl (by rfl) (by rfl) (q_load_rop (by rfl) (by rfl)) ?_) | (refine WS.take rfl (by rfl) (by rfl) (q_load_pel (by rfl) (by rfl) ?_ (by rfl)) ?_; (· omega))
      first | (refine WS.take rfl (by rfl) (by rfl) (q_fieldAddr (by rfl)) ?_) | (refine WS.take rfl (by rfl) (by rfl) (q_fieldAddr_rop (by rfl) (by rfl)) ?_) | (refine WS.take rfl (by rfl) (by rfl) (q_fieldAddr_pel (by rfl)) ?_)
      first | (refine WS.take rfl (by rfl) (by rfl) (q_load (by rfl) (by rfl) (by rfl)) ?_) | (refine WS.take rfl (by rfl) (by rfl) (q_load_rop (by rfl) (by rfl)) ?_) | (refine WS.take rfl (by rfl) (by rfl) (q_load_pel (by rfl) (by rfl) ?_ (by rfl)) ?_; (· omega))
      refine WS.ex rfl (by rfl) (Ex.callq (famPR_spec _ ?_) (by rfl) (by rfl) rfl (fun _ h => h) ?_); (· assumption)
      refine WS.ex rfl (by rfl) (Ex.callq (famPR_spec _ ?_) (by rfl) (by rfl) rfl (fun _ h => h) ?_); (· assumption)
      first | (refine WS.take rfl (by rfl) (by rfl) (q_int (by rfl) (by rfl) (by rfl)) ?_) | (refine WS.take rfl (by rfl) (by rfl) (q_neb (by rfl) (by rfl)) ?_) | (refine WS.take rfl (by rfl) (by rfl) (q_nep rfl rfl (by rfl) (by rfl) ?_) ?_; (· rfl)) | (refine WS.take rfl (by rfl) (by rfl) (q_eqs (by rfl) (by rfl)) ?_)
      refine WS.take rfl (by rfl) (by rfl) (q_pick_f (by rfl) (by rfl)) ?_
      refine WS.nil ?_
      (repeat refine J.seq ?_)
      refine J.cond (by rfl) (fun c21 => ?_) (fun c21 => ?_)
      · skip
        (repeat refine J.seq ?_)
        refine J.region ?_
        refine WL.yes (by rfl) (Ex.q (q_assign (by rfl)) (by rfl) ?_)
        refine WL.nil ?_
        (repeat refine J.seq ?_)
        refine J.ret ?_
        (repeat (with_reducible first | refine Kseq.ret ?_ | refine Kblock.ret ?_ | refine Kloop.ret ?_))
        refine Kret.mk [] (.tmp (by rfl) .nil) (by rfl) trivial (HLe.nil _ _) ?_
        refine ⟨?_, rfl⟩
        simp only [tupV, cv]
        simp_all [okpair]
      · skip
        (repeat refine J.seq ?_)
        refine J.skip ?_
        (repeat refine J.seq ?_)
        refine J.region ?_
        refine WL.yes (by rfl) (Ex.q (q_assign (by rfl)) (by rfl) ?_)
        refine WL.nil ?_
        (repeat refine J.seq ?_)
        refine J.ret ?_
        (repeat (with_reducible first | refine Kseq.ret ?_ | refine Kblock.ret ?_ | refine Kloop.ret ?_))
        refine Kret.mk [] (.tmp (by rfl) .nil) (by rfl) trivial (HLe.nil _ _) ?_
        refine ⟨?_, rfl⟩
        simp only [tupV, cv]
        simp_all [okpair]

set_option maxHeartbeats 4000000 in
set_option maxRecDepth 100000 in
theorem cmpAR_spec {a b : List Int} (ha : AdOk a) (hb : AdOk b) : SpecQ Try.prog 91 [adV a, adV b] (iV (cmpA a b)) := by
  refine Spec.of_J Try.func91 rfl Try.ntmps91 Try.results91 rfl ?_
  intro A F hAF
  (repeat refine J.seq ?_)
  refine J.region ?_
  refine WL.yes (by rfl) (Ex.box (by rfl) (by rfl) (by rfl) ?_)
  intro b2
  refine WL.yes (by rfl) (Ex.box (by rfl) (by rfl) (by rfl) ?_)
  intro b3
  refine WL.yes (by rfl) (Ex.q (q_assign (by rfl)) (by rfl) ?_)
  refine WL.nil ?_
  (repeat refine J.seq ?_)
  refine J.region ?_
  refine WL.yes (by rfl) (Ex.q (q_assign (by rfl)) (by rfl) ?_)
  refine WL.nil ?_
  (repeat refine J.seq ?_)
  refine J.block ?_
  (repeat refine J.seq ?_)
  refine J.loop (fun k : Nat => k ≤ 16 ∧ ∀ j, j < k → a.getD j 0 = b.getD j 0) (fun k => ⟨[(2, .ptr 2 b2 0), (3, .ptr 3 b3 0), (5, iV k)], [(2, .box b2 31 (adV a)), (3, .box b3 31 (adV b))], []⟩) (fun k => 16 - k) 0 ?_ ?_ ?_
  · exact ⟨by omega, fun j h => absurd h (Nat.not_lt_zero j)⟩
  · exact Le.mk ⟨same rfl, same rfl, same rfl, trivial⟩ (HLe.sub (.cons (s := 2) rfl (CLe.refl _ _) rfl (.cons (s := 3) rfl (CLe.refl _ _) rfl .nil))) rfl
  intro k hk
  obtain ⟨hk, hz⟩ := hk
  (repeat refine J.seq ?_)
  refine J.region ?_
  refine WL.yes (by rfl) (Ex.q (q_move (by rfl)) (by rfl) ?_)
  refine WL.yes (by rfl) (Ex.q (q_int (by rfl) (by rfl) (by rfl)) (by rfl) ?_)
  refine WL.nil ?_
  (repeat refine J.seq ?_)
  refine J.cond (by rfl) (fun c7 => ?_) (fun c7 => ?_)
  · skip
    have hlt : k < 16 := by have := of_decide_eq_true c7; omega
    (repeat refine J.seq ?_)
    refine J.skip ?_
    (repeat refine J.seq ?_)
    refine J.block ?_
    (repeat refine J.seq ?_)
    refine J.draw [2, 3] 9999 [(0, true), (1, true), (2, true), (3, true), (4, true), (5, true), (6, true)] (by kernel_rfl) rfl (by kernel_rfl) ?_
    intro F1 hF1
    refine WS.take rfl (by rfl) (by rfl) (q_move (by rfl)) ?_
    first | (refine WS.take rfl (by rfl) (by rfl) (q_indexAddr_ros (by rfl) (by rfl) (by intro _; rfl) ?_ ?_) ?_; (· omega); (· omega)) | (refine WS.take rfl (by rfl) (by rfl) (q_indexAddr_sl (by rfl) (by rfl) ?_ ?_) ?_; (· omega); (· omega)) | (refine WS.take rfl (by rfl) (by rfl) (q_indexAddr_arr (by rfl) (by rfl) ?_ ?_) ?_; (· omega); (· omega))
    first | (refine WS.take rfl (by rfl) (by rfl) (q_load (by rfl) (by rfl) (at_byte (by omega))) ?_) | (refine WS.take rfl (by rfl) (by rfl) (q_load_rop (by rfl) (by rfl)) ?_) | (refine WS.take rfl (by rfl) (by rfl) (q_load_pel (by rfl) (by rfl) ?_ (by rfl)) ?_; (· omega))
    refine WS.take rfl (by rfl) (by rfl) (q_move (by rfl)) ?_
    first | (refine WS.take rfl (by rfl) (by rfl) (q_indexAddr_ros (by rfl) (by rfl) (by intro _; rfl) ?_ ?_) ?_; (· omega); (· omega)) | (refine WS.take rfl (by rfl) (by rfl) (q_indexAddr_sl (by rfl) (by rfl) ?_ ?_) ?_; (· omega); (· omega)) | (refine WS.take rfl (by rfl) (by rfl) (q_indexAddr_arr (by rfl) (by rfl) ?_ ?_) ?_; (· omega); (· omega))
    first | (refine WS.take rfl (by rfl) (by rfl) (q_load (by rfl) (by rfl) (at_byte (by omega))) ?_) | (refine WS.take rfl (by rfl) (by rfl) (q_load_rop (by rfl) (by rfl)) ?_) | (refine WS.take rfl (by rfl) (by rfl) (q_load_pel (by rfl) (by rfl) ?_ (by rfl)) ?_; (· omega))
    first | (refine WS.take rfl (by rfl) (by rfl) (q_int (by rfl) (by rfl) (by rfl)) ?_) | (refine WS.take rfl (by rfl) (by rfl) (q_neb (by rfl) (by rfl)) ?_) | (refine WS.take rfl (by rfl) (by rfl) (q_nep rfl rfl (by rfl) (by rfl) ?_) ?_; (· rfl)) | (refine WS.take rfl (by rfl) (by rfl) (q_eqs (by rfl) (by rfl)) ?_)
    refine WS.nil ?_
    (repeat refine J.seq ?_)
    refine J.cond (by rfl) (fun c16 => ?_) (fun c16 => ?_)
    · skip
      have hx : a.getD k 0 ≠ b.getD k 0 := by simpa using c16
      (repeat refine J.seq ?_)
      refine J.draw [2, 3] 9999 [(0, true), (1, true), (2, true), (3, true), (4, true), (5, true), (6, true)] (by kernel_rfl) rfl (by kernel_rfl) ?_
      intro F2 hF2
      refine WS.take rfl (by rfl) (by rfl) (q_move (by rfl)) ?_
      first | (refine WS.take rfl (by rfl) (by rfl) (q_indexAddr_ros (by rfl) (by rfl) (by intro _; rfl) ?_ ?_) ?_; (· omega); (· omega)) | (refine WS.take rfl (by rfl) (by rfl) (q_indexAddr_sl (by rfl) (by rfl) ?_ ?_) ?_; (· omega); (· omega)) | (refine WS.take rfl (by rfl) (by rfl) (q_indexAddr_arr (by rfl) (by rfl) ?_ ?_) ?_; (· omega); (· omega))
      first | (refine WS.take rfl (by rfl) (by rfl) (q_load (by rfl) (by rfl) (at_byte (by omega))) ?_) | (refine WS.take rfl (by rfl) (by rfl) (q_load_rop (by rfl) (by rfl)) ?_) | (refine WS.take rfl (by rfl) (by rfl) (q_load_pel (by rfl) (by rfl) ?_ (by rfl)) ?_; (· omega))
      refine WS.take rfl (by rfl) (by rfl) (q_move (by rfl)) ?_
      first | (refine WS.take rfl (by rfl) (by rfl) (q_indexAddr_ros (by rfl) (by rfl) (by intro _; rfl) ?_ ?_) ?_; (· omega); (· omega)) | (refine WS.take rfl (by rfl) (by rfl) (q_indexAddr_sl (by rfl) (by rfl) ?_ ?_) ?_; (· omega); (· omega)) | (refine WS.take rfl (by rfl) (by rfl) (q_indexAddr_arr (by rfl) (by rfl) ?_ ?_) ?_; (· omega); (· omega))
      first | (refine WS.take rfl (by rfl) (by rfl) (q_load (by rfl) (by rfl) (at_byte (by omega))) ?_) | (refine WS.take rfl (by rfl) (by rfl) (q_load_rop (by rfl) (by rfl)) ?_) | (refine WS.take rfl (by rfl) (by rfl) (q_load_pel (by rfl) (by rfl) ?_ (by rfl)) ?_; (· omega))
      refine WS.take rfl (by rfl) (by rfl) (q_int (by rfl) (by rfl) (by rfl)) ?_
      refine WS.nil ?_
      (repeat refine J.seq ?_)
      refine J.cond (by rfl) (fun c23 => ?_) (fun c23 => ?_)
      · skip
        have hy : a.getD k 0 < b.getD k 0 := by simpa using c23
        (repeat refine J.seq ?_)
        refine J.region ?_
        refine WL.yes (by rfl) (Ex.q (q_assign (by rfl)) (by rfl) ?_)
        refine WL.nil ?_
        (repeat refine J.seq ?_)
        refine J.ret ?_
        (repeat (with_reducible first | refine Kseq.ret ?_ | refine Kblock.ret ?_ | refine Kloop.ret ?_))
        refine Kret.mk [] (.tmp (by rfl) .nil) (by rfl) trivial (HLe.nil _ _) ?_
        refine ⟨?_, rfl⟩
        simp only [tupV, cv]
        refine congrArg iV ?_
        first
          | exact (cmpA_eq hz).symm
          | exact ((cmpA_at ha hb hlt hz hx).trans (if_pos hy)).symm
          | exact ((cmpA_at ha hb hlt hz hx).trans (if_neg hy)).symm
      · skip
        have hy : ¬ a.getD k 0 < b.getD k 0 := by simpa using c23
        (repeat refine J.seq ?_)
        refine J.skip ?_
        (repeat refine J.seq ?_)
        refine J.region ?_
        refine WL.yes (by rfl) (Ex.q (q_assign (by rfl)) (by rfl) ?_)
        refine WL.nil ?_
        (repeat refine J.seq ?_)
        refine J.ret ?_
        (repeat (with_reducible first | refine Kseq.ret ?_ | refine Kblock.ret ?_ | refine Kloop.ret ?_))
        refine Kret.mk [] (.tmp (by rfl) .nil) (by rfl) trivial (HLe.nil _ _) ?_
        refine ⟨?_, rfl⟩
        simp only [tupV, cv]
        refine congrArg iV ?_
        first
          | exact (cmpA_eq hz).symm
          | exact ((cmpA_at ha hb hlt hz hx).trans (if_pos hy)).symm
          | exact ((cmpA_at ha hb hlt hz hx).trans (if_neg hy)).symm
    · skip
      have hx : a.getD k 0 = b.getD k 0 := by simpa using c16
      (repeat refine J.seq ?_)
      refine J.skip ?_
      (repeat refine J.seq ?_)
      refine J.region ?_
      refine WL.yes (by rfl) (Ex.q (q_move (by rfl)) (by rfl) ?_)
      refine WL.yes (by rfl) (Ex.q (q_int (by rfl) (by rfl) (by rfl)) (by rfl) ?_)
      refine WL.yes (by rfl) (Ex.q (q_assign (by rfl)) (by rfl) ?_)
      refine WL.nil ?_
      refine Kloop.next (k + 1) ⟨by omega, fun j hj => ?_⟩ (by omega) (Le.mk ⟨same rfl, same rfl, same (by rw [← w64_nat (k := k) (by omega)]; rfl), trivial⟩ (HLe.sub (.cons (s := 2) rfl (CLe.refl _ _) rfl (.cons (s := 3) rfl (CLe.refl _ _) rfl .nil))) rfl)
      by_cases hjk : j < k
      · exact hz j hjk
      · have : j = k := by omega
        subst this
        exact hx
  · skip
    have he : k = 16 := by have := of_decide_eq_false c7; omega
    subst he
    (repeat refine J.seq ?_)
    refine J.exit ?_
    (repeat refine J.seq ?_)
    refine J.region ?_
    refine WL.yes (by rfl) (Ex.q (q_assign (by rfl)) (by rfl) ?_)
    refine WL.nil ?_
    (repeat refine J.seq ?_)
    refine J.ret ?_
    (repeat (with_reducible first | refine Kseq.ret ?_ | refine Kblock.ret ?_ | refine Kloop.ret ?_))
    refine Kret.mk [] (.tmp (by rfl) .nil) (by rfl) trivial (HLe.nil _ _) ?_
    refine ⟨?_, rfl⟩
    simp only [tupV, cv]
    refine congrArg iV ?_
    first
      | exact (cmpA_eq hz).symm
      | exact ((cmpA_at ha hb hlt hz hx).trans (if_pos hy)).symm
      | exact ((cmpA_at ha hb hlt hz hx).trans (if_neg hy)).symm

set_option maxHeartbeats 4000000 in
set_option maxRecDepth 100000 in
theorem cmpPR_spec {a b : List Int} (n m : Int) (ha : AdOk a) (hb : AdOk b) : SpecQ Try.prog 83 [pfV a n, pfV b m] (iV (cmpP a n b m)) := by
  refine Spec.of_J Try.func83 rfl Try.ntmps83 Try.results83 rfl ?_
  intro A F hAF
  (repeat refine J.seq ?_)
  refine J.region ?_
  refine WL.yes (by rfl) (Ex.box (by rfl) (by rfl) (by rfl) ?_)
  intro b2
  refine WL.yes (by rfl) (Ex.box (by rfl) (by rfl) (by rfl) ?_)
  intro b3
  refine WL.yes (by rfl) (Ex.q (q_assign (by rfl)) (by rfl) ?_)
  refine WL.nil ?_
  (repeat refine J.seq ?_)
  refine J.region ?_
  first | (refine WL.yes (by rfl) (Ex.q (q_fieldAddr (by rfl)) (by rfl) ?_)) | (refine WL.yes (by rfl) (Ex.q (q_fieldAddr_rop (by rfl) (by rfl)) (by rfl) ?_)) | (refine WL.yes (by rfl) (Ex.q (q_fieldAddr_pel (by rfl)) (by rfl) ?_))
  first | (refine WL.yes (by rfl) (Ex.h (h_load (by rfl) (by rfl) (by rfl)) (by rfl) ?_)) | (refine WL.yes (by rfl) (Ex.q (q_load (by rfl) (by rfl) (by rfl)) (by rfl) ?_)) | (refine WL.yes (by rfl) (Ex.q (q_load_rop (by rfl) (by rfl)) (by rfl) ?_)) | (refine WL.yes (by rfl) (Ex.h (h_load_pel (by rfl) (by rfl) ?_ (by rfl)) (by rfl) ?_); (· omega)) | (refine WL.yes (by rfl) (Ex.q (q_load_pel (by rfl) (by rfl) ?_ (by rfl)) (by rfl) ?_); (· omega))
  first | (refine WL.yes (by rfl) (Ex.q (q_fieldAddr (by rfl)) (by rfl) ?_)) | (refine WL.yes (by rfl) (Ex.q (q_fieldAddr_rop (by rfl) (by rfl)) (by rfl) ?_)) | (refine WL.yes (by rfl) (Ex.q (q_fieldAddr_pel (by rfl)) (by rfl) ?_))
  first | (refine WL.yes (by rfl) (Ex.h (h_load (by rfl) (by rfl) (by rfl)) (by rfl) ?_)) | (refine WL.yes (by rfl) (Ex.q (q_load (by rfl) (by rfl) (by rfl)) (by rfl) ?_)) | (refine WL.yes (by rfl) (Ex.q (q_load_rop (by rfl) (by rfl)) (by rfl) ?_)) | (refine WL.yes (by rfl) (Ex.h (h_load_pel (by rfl) (by rfl) ?_ (by rfl)) (by rfl) ?_); (· omega)) | (refine WL.yes (by rfl) (Ex.q (q_load_pel (by rfl) (by rfl) ?_ (by rfl)) (by rfl) ?_); (· omega))
  refine WL.yes (by rfl) (Ex.callq (cmpAR_spec ?_ ?_) (by rfl) (by rfl) rfl (fun _ h => h) ?_); (· assumption); (· assumption)
  refine WL.yes (by rfl) (Ex.q (q_assign (by rfl)) (by rfl) ?_)
  refine WL.nil ?_
  (repeat refine J.seq ?_)
  refine J.block ?_
  (repeat refine J.seq ?_)
  refine J.region ?_
  refine WL.yes (by rfl) (Ex.q (q_move (by rfl)) (by rfl) ?_)
  first | (refine WL.yes (by rfl) (Ex.q (q_int (by rfl) (by rfl) (by rfl)) (by rfl) ?_)) | (refine WL.yes (by rfl) (Ex.q (q_neb (by rfl) (by rfl)) (by rfl) ?_)) | (refine WL.yes (by rfl) (Ex.q (q_nep rfl rfl (by rfl) (by rfl) ?_) (by rfl) ?_); (· rfl)) | (refine WL.yes (by rfl) (Ex.q (q_eqs (by rfl) (by rfl)) (by rfl) ?_))
  refine WL.yes (by rfl) (Ex.q (q_assign (by rfl)) (by rfl) ?_)
  refine WL.nil ?_
  (repeat refine J.seq ?_)
  refine J.cond (by rfl) (fun c11 => ?_) (fun c11 => ?_)
  · skip
    (repeat refine J.seq ?_)
    refine J.region ?_
    refine WL.yes (by rfl) (Ex.q (q_move (by rfl)) (by rfl) ?_)
    refine WL.yes (by rfl) (Ex.q (q_assign (by rfl)) (by rfl) ?_)
    refine WL.nil ?_
    (repeat refine J.seq ?_)
    refine J.ret ?_
    (repeat (with_reducible first | refine Kseq.ret ?_ | refine Kblock.ret ?_ | refine Kloop.ret ?_))
    refine Kret.mk [] (.tmp (by rfl) .nil) (by rfl) trivial (HLe.nil _ _) ?_
    refine ⟨?_, rfl⟩
    simp only [tupV, cv]
    refine congrArg iV ?_
    unfold cmpP sgn
    rw [orL_two]
    simp_all
    (try omega)
  · skip
    (repeat refine J.seq ?_)
    refine J.region ?_
    first | (refine WL.yes (by rfl) (Ex.q (q_fieldAddr (by rfl)) (by rfl) ?_)) | (refine WL.yes (by rfl) (Ex.q (q_fieldAddr_rop (by rfl) (by rfl)) (by rfl) ?_)) | (refine WL.yes (by rfl) (Ex.q (q_fieldAddr_pel (by rfl)) (by rfl) ?_))
    first | (refine WL.yes (by rfl) (Ex.h (h_load (by rfl) (by rfl) (by rfl)) (by rfl) ?_)) | (refine WL.yes (by rfl) (Ex.q (q_load (by rfl) (by rfl) (by rfl)) (by rfl) ?_)) | (refine WL.yes (by rfl) (Ex.q (q_load_rop (by rfl) (by rfl)) (by rfl) ?_)) | (refine WL.yes (by rfl) (Ex.h (h_load_pel (by rfl) (by rfl) ?_ (by rfl)) (by rfl) ?_); (· omega)) | (refine WL.yes (by rfl) (Ex.q (q_load_pel (by rfl) (by rfl) ?_ (by rfl)) (by rfl) ?_); (· omega))
    first | (refine WL.yes (by rfl) (Ex.q (q_fieldAddr (by rfl)) (by rfl) ?_)) | (refine WL.yes (by rfl) (Ex.q (q_fieldAddr_rop (by rfl) (by rfl)) (by rfl) ?_)) | (refine WL.yes (by rfl) (Ex.q (q_fieldAddr_pel (by rfl)) (by rfl) ?_))
    first | (refine WL.yes (by rfl) (Ex.h (h_load (by rfl) (by rfl) (by rfl)) (by rfl) ?_)) | (refine WL.yes (by rfl) (Ex.q (q_load (by rfl) (by rfl) (by rfl)) (by rfl) ?_)) | (refine WL.yes (by rfl) (Ex.q (q_load_rop (by rfl) (by rfl)) (by rfl) ?_)) | (refine WL.yes (by rfl) (Ex.h (h_load_pel (by rfl) (by rfl) ?_ (by rfl)) (by rfl) ?_); (· omega)) | (refine WL.yes (by rfl) (Ex.q (q_load_pel (by rfl) (by rfl) ?_ (by rfl)) (by rfl) ?_); (· omega))
    refine WL.yes (by rfl) (Ex.q (q_int (by rfl) (by rfl) (by rfl)) (by rfl) ?_)
    refine WL.yes (by rfl) (Ex.q (q_assign (by rfl)) (by rfl) ?_)
    refine WL.nil ?_
    (repeat refine J.seq ?_)
    refine J.cond (by rfl) (fun c15 => ?_) (fun c15 => ?_)
    · skip
      (repeat refine J.seq ?_)
      refine J.region ?_
      refine WL.yes (by rfl) (Ex.q (q_assign (by rfl)) (by rfl) ?_)
      refine WL.nil ?_
      (repeat refine J.seq ?_)
      refine J.ret ?_
      (repeat (with_reducible first | refine Kseq.ret ?_ | refine Kblock.ret ?_ | refine Kloop.ret ?_))
      refine Kret.mk [] (.tmp (by rfl) .nil) (by rfl) trivial (HLe.nil _ _) ?_
      refine ⟨?_, rfl⟩
      simp only [tupV, cv]
      refine congrArg iV ?_
      unfold cmpP sgn
      rw [orL_two]
      simp_all
      (try omega)
    · skip
      (repeat refine J.seq ?_)
      refine J.region ?_
      first | (refine WL.yes (by rfl) (Ex.q (q_fieldAddr (by rfl)) (by rfl) ?_)) | (refine WL.yes (by rfl) (Ex.q (q_fieldAddr_rop (by rfl) (by rfl)) (by rfl) ?_)) | (refine WL.yes (by rfl) (Ex.q (q_fieldAddr_pel (by rfl)) (by rfl) ?_))
      first | (refine WL.yes (by rfl) (Ex.h (h_load (by rfl) (by rfl) (by rfl)) (by rfl) ?_)) | (refine WL.yes (by rfl) (Ex.q (q_load (by rfl) (by rfl) (by rfl)) (by rfl) ?_)) | (refine WL.yes (by rfl) (Ex.q (q_load_rop (by rfl) (by rfl)) (by rfl) ?_)) | (refine WL.yes (by rfl) (Ex.h (h_load_pel (by rfl) (by rfl) ?_ (by rfl)) (by rfl) ?_); (· omega)) | (refine WL.yes (by rfl) (Ex.q (q_load_pel (by rfl) (by rfl) ?_ (by rfl)) (by rfl) ?_); (· omega))
      first | (refine WL.yes (by rfl) (Ex.q (q_fieldAddr (by rfl)) (by rfl) ?_)) | (refine WL.yes (by rfl) (Ex.q (q_fieldAddr_rop (by rfl) (by rfl)) (by rfl) ?_)) | (refine WL.yes (by rfl) (Ex.q (q_fieldAddr_pel (by rfl)) (by rfl) ?_))
      first | (refine WL.yes (by rfl) (Ex.h (h_load (by rfl) (by rfl) (by rfl)) (by rfl) ?_)) | (refine WL.yes (by rfl) (Ex.q (q_load (by rfl) (by rfl) (by rfl)) (by rfl) ?_)) | (refine WL.yes (by rfl) (Ex.q (q_load_rop (by rfl) (by rfl)) (by rfl) ?_)) | (refine WL.yes (by rfl) (Ex.h (h_load_pel (by rfl) (by rfl) ?_ (by rfl)) (by rfl) ?_); (· omega)) | (refine WL.yes (by rfl) (Ex.q (q_load_pel (by rfl) (by rfl) ?_ (by rfl)) (by rfl) ?_); (· omega))
      refine WL.yes (by rfl) (Ex.q (q_int (by rfl) (by rfl) (by rfl)) (by rfl) ?_)
      refine WL.yes (by rfl) (Ex.q (q_assign (by rfl)) (by rfl) ?_)
      refine WL.nil ?_
      (repeat refine J.seq ?_)
      refine J.cond (by rfl) (fun c21 => ?_) (fun c21 => ?_)
      · skip
        (repeat refine J.seq ?_)
        refine J.region ?_
        refine WL.yes (by rfl) (Ex.q (q_assign (by rfl)) (by rfl) ?_)
        refine WL.nil ?_
        (repeat refine J.seq ?_)
        refine J.ret ?_
        (repeat (with_reducible first | refine Kseq.ret ?_ | refine Kblock.ret ?_ | refine Kloop.ret ?_))
        refine Kret.mk [] (.tmp (by rfl) .nil) (by rfl) trivial (HLe.nil _ _) ?_
        refine ⟨?_, rfl⟩
        simp only [tupV, cv]
        refine congrArg iV ?_
        unfold cmpP sgn
        rw [orL_two]
        simp_all
        (try omega)
      · skip
        (repeat refine J.seq ?_)
        refine J.skip ?_
        (repeat refine J.seq ?_)
        refine J.region ?_
        refine WL.yes (by rfl) (Ex.q (q_assign (by rfl)) (by rfl) ?_)
        refine WL.nil ?_
        (repeat refine J.seq ?_)
        refine J.ret ?_
        (repeat (with_reducible first | refine Kseq.ret ?_ | refine Kblock.ret ?_ | refine Kloop.ret ?_))
        refine Kret.mk [] (.tmp (by rfl) .nil) (by rfl) trivial (HLe.nil _ _) ?_
        refine ⟨?_, rfl⟩
        simp only [tupV, cv]
        refine congrArg iV ?_
        unfold cmpP sgn
        rw [orL_two]
        simp_all
        (try omega)

set_option maxHeartbeats 4000000 in
set_option maxRecDepth 100000 in
theorem cmpPrR_spec {da sa ea ta : List Int} (dn sn en tn : Int) (h1 : AdOk da) (h2 : AdOk sa) (h3 : AdOk ea) (h4 : AdOk ta) : SpecQ Try.prog 70 [prV da dn sa sn, prV ea en ta tn] (iV (cmpPr da dn sa sn ea en ta tn)) := by
  refine Spec.of_J Try.func70 rfl Try.ntmps70 Try.results70 rfl ?_
  intro A F hAF
  (repeat refine J.seq ?_)
  refine J.region ?_
  refine WL.yes (by rfl) (Ex.box (by rfl) (by rfl) (by rfl) ?_)
  intro b2
  refine WL.yes (by rfl) (Ex.box (by rfl) (by rfl) (by rfl) ?_)
  intro b3
  refine WL.yes (by rfl) (Ex.q (q_assign (by rfl)) (by rfl) ?_)
  refine WL.nil ?_
  (repeat refine J.seq ?_)
  refine J.region ?_
  first | (refine WL.yes (by rfl) (Ex.q (q_fieldAddr (by rfl)) (by rfl) ?_)) | (refine WL.yes (by rfl) (Ex.q (q_fieldAddr_rop (by rfl) (by rfl)) (by rfl) ?_)) | (refine WL.yes (by rfl) (Ex.q (q_fieldAddr_pel (by rfl)) (by rfl) ?_))
  first | (refine WL.yes (by rfl) (Ex.h (h_load (by rfl) (by rfl) (by rfl)) (by rfl) ?_)) | (refine WL.yes (by rfl) (Ex.q (q_load (by rfl) (by rfl) (by rfl)) (by rfl) ?_)) | (refine WL.yes (by rfl) (Ex.q (q_load_rop (by rfl) (by rfl)) (by rfl) ?_)) | (refine WL.yes (by rfl) (Ex.h (h_load_pel (by rfl) (by rfl) ?_ (by rfl)) (by rfl) ?_); (· omega)) | (refine WL.yes (by rfl) (Ex.q (q_load_pel (by rfl) (by rfl) ?_ (by rfl)) (by rfl) ?_); (· omega))
  first | (refine WL.yes (by rfl) (Ex.q (q_fieldAddr (by rfl)) (by rfl) ?_)) | (refine WL.yes (by rfl) (Ex.q (q_fieldAddr_rop (by rfl) (by rfl)) (by rfl) ?_)) | (refine WL.yes (by rfl) (Ex.q (q_fieldAddr_pel (by rfl)) (by rfl) ?_))
  first | (refine WL.yes (by rfl) (Ex.h (h_load (by rfl) (by rfl) (by rfl)) (by rfl) ?_)) | (refine WL.yes (by rfl) (Ex.q (q_load (by rfl) (by rfl) (by rfl)) (by rfl) ?_)) | (refine WL.yes (by rfl) (Ex.q (q_load_rop (by rfl) (by rfl)) (by rfl) ?_)) | (refine WL.yes (by rfl) (Ex.h (h_load_pel (by rfl) (by rfl) ?_ (by rfl)) (by rfl) ?_); (· omega)) | (refine WL.yes (by rfl) (Ex.q (q_load_pel (by rfl) (by rfl) ?_ (by rfl)) (by rfl) ?_); (· omega))
  refine WL.yes (by rfl) (Ex.callq (cmpPR_spec _ _ ?_ ?_) (by rfl) (by rfl) rfl (fun _ h => h) ?_); (· assumption); (· assumption)
  refine WL.yes (by rfl) (Ex.q (q_assign (by rfl)) (by rfl) ?_)
  refine WL.nil ?_
  (repeat refine J.seq ?_)
  refine J.region ?_
  refine WL.yes (by rfl) (Ex.q (q_move (by rfl)) (by rfl) ?_)
  first | (refine WL.yes (by rfl) (Ex.q (q_int (by rfl) (by rfl) (by rfl)) (by rfl) ?_)) | (refine WL.yes (by rfl) (Ex.q (q_neb (by rfl) (by rfl)) (by rfl) ?_)) | (refine WL.yes (by rfl) (Ex.q (q_nep rfl rfl (by rfl) (by rfl) ?_) (by rfl) ?_); (· rfl)) | (refine WL.yes (by rfl) (Ex.q (q_eqs (by rfl) (by rfl)) (by rfl) ?_))
  refine WL.nil ?_
  (repeat refine J.seq ?_)
  refine J.cond (by rfl) (fun c12 => ?_) (fun c12 => ?_)
  · skip
    (repeat refine J.seq ?_)
    refine J.region ?_
    refine WL.yes (by rfl) (Ex.q (q_move (by rfl)) (by rfl) ?_)
    refine WL.yes (by rfl) (Ex.q (q_assign (by rfl)) (by rfl) ?_)
    refine WL.nil ?_
    (repeat refine J.seq ?_)
    refine J.ret ?_
    (repeat (with_reducible first | refine Kseq.ret ?_ | refine Kblock.ret ?_ | refine Kloop.ret ?_))
    refine Kret.mk [] (.tmp (by rfl) .nil) (by rfl) trivial (HLe.nil _ _) ?_
    refine ⟨?_, rfl⟩
    simp only [tupV, cv]
    refine congrArg iV ?_
    unfold cmpPr
    rw [orL_two]
    simp_all
  · skip
    (repeat refine J.seq ?_)
    refine J.skip ?_
    (repeat refine J.seq ?_)
    refine J.region ?_
    first | (refine WL.yes (by rfl) (Ex.q (q_fieldAddr (by rfl)) (by rfl) ?_)) | (refine WL.yes (by rfl) (Ex.q (q_fieldAddr_rop (by rfl) (by rfl)) (by rfl) ?_)) | (refine WL.yes (by rfl) (Ex.q (q_fieldAddr_pel (by rfl)) (by rfl) ?_))
    first | (refine WL.yes (by rfl) (Ex.h (h_load (by rfl) (by rfl) (by rfl)) (by rfl) ?_)) | (refine WL.yes (by rfl) (Ex.q (q_load (by rfl) (by rfl) (by rfl)) (by rfl) ?_)) | (refine WL.yes (by rfl) (Ex.q (q_load_rop (by rfl) (by rfl)) (by rfl) ?_)) | (refine WL.yes (by rfl) (Ex.h (h_load_pel (by rfl) (by rfl) ?_ (by rfl)) (by rfl) ?_); (· omega)) | (refine WL.yes (by rfl) (Ex.q (q_load_pel (by rfl) (by rfl) ?_ (by rfl)) (by rfl) ?_); (· omega))
    first | (refine WL.yes (by rfl) (Ex.q (q_fieldAddr (by rfl)) (by rfl) ?_)) | (refine WL.yes (by rfl) (Ex.q (q_fieldAddr_rop (by rfl) (by rfl)) (by rfl) ?_)) | (refine WL.yes (by rfl) (Ex.q (q_fieldAddr_pel (by rfl)) (by rfl) ?_))
    first | (refine WL.yes (by rfl) (Ex.h (h_load (by rfl) (by rfl) (by rfl)) (by rfl) ?_)) | (refine WL.yes (by rfl) (Ex.q (q_load (by rfl) (by rfl) (by rfl)) (by rfl) ?_)) | (refine WL.yes (by rfl) (Ex.q (q_load_rop (by rfl) (by rfl)) (by rfl) ?_)) | (refine WL.yes (by rfl) (Ex.h (h_load_pel (by rfl) (by rfl) ?_ (by rfl)) (by rfl) ?_); (· omega)) | (refine WL.yes (by rfl) (Ex.q (q_load_pel (by rfl) (by rfl) ?_ (by rfl)) (by rfl) ?_); (· omega))
    refine WL.yes (by rfl) (Ex.callq (cmpPR_spec _ _ ?_ ?_) (by rfl) (by rfl) rfl (fun _ h => h) ?_); (· assumption); (· assumption)
    refine WL.yes (by rfl) (Ex.q (q_assign (by rfl)) (by rfl) ?_)
    refine WL.nil ?_
    (repeat refine J.seq ?_)
    refine J.ret ?_
    (repeat (with_reducible first | refine Kseq.ret ?_ | refine Kblock.ret ?_ | refine Kloop.ret ?_))
    refine Kret.mk [] (.tmp (by rfl) .nil) (by rfl) trivial (HLe.nil _ _) ?_
    refine ⟨?_, rfl⟩
    simp only [tupV, cv]
    refine congrArg iV ?_
    unfold cmpPr
    rw [orL_two]
    simp_all

set_option maxHeartbeats 4000000 in
set_option maxRecDepth 100000 in
theorem anyR_spec (f : Int) : SpecQ Try.prog 54 [iV f] (if f = 4 then pfV ad4 96 else pfV ad0 0) := by
  refine Spec.of_J Try.func54 rfl Try.ntmps54 Try.results54 rfl ?_
  intro A F hAF
  (repeat refine J.seq ?_)
  refine J.region ?_
  refine WL.yes (by rfl) (Ex.alloc (by rfl) ?_)
  intro b2
  refine WL.nil ?_
  (repeat refine J.seq ?_)
  refine J.region ?_
  refine WL.yes (by rfl) (Ex.q (q_move (by rfl)) (by rfl) ?_)
  first | (refine WL.yes (by rfl) (Ex.q (q_int (by rfl) (by rfl) (by rfl)) (by rfl) ?_)) | (refine WL.yes (by rfl) (Ex.q (q_eqb (by rfl) (by rfl)) (by rfl) ?_)) | (refine WL.yes (by rfl) (Ex.q (q_eqp rfl rfl (by rfl) (by rfl) ?_) (by rfl) ?_); (· rfl)) | (refine WL.yes (by rfl) (Ex.q (q_eqs (by rfl) (by rfl)) (by rfl) ?_))
  refine WL.nil ?_
  (repeat refine J.seq ?_)
  refine J.cond (by rfl) (fun c4 => ?_) (fun c4 => ?_)
  · skip
    have hf : f = 4 := of_decide_eq_true c4
    (repeat refine J.seq ?_)
    refine J.region ?_
    refine WL.yes (by rfl) (Ex.q (q_build (parts := [(10, .const (.int .u8 255)), (11, .const (.int .u8 255))]) (by rfl) (by rfl)) (by rfl) ?_)
    refine WL.yes (by rfl) (Ex.q (q_build (parts := [(0, .tmp 5), (1, .const (.int .i64 96))]) (by rfl) (by rfl)) (by rfl) ?_)
    first | (refine WL.yes (by rfl) (Ex.store (by rfl) (by rfl) (by rfl) (by rfl) (by rfl) (by rfl) ?_)) | (refine WL.yes (by rfl) (Ex.store_pel (by rfl) (by rfl) (by rfl) (by rfl) (by rfl) ?_ (by rfl) ?_); (· omega))
    refine WL.nil ?_
    (repeat refine J.seq ?_)
    refine J.ret ?_
    (repeat (with_reducible first | refine Kseq.ret ?_ | refine Kblock.ret ?_ | refine Kloop.ret ?_))
    refine Kret.mk [] (.cell inferInstance (by rfl) (by rfl) (by rfl) .nil) (by rfl) trivial (HLe.nil _ _) ?_
    refine ⟨?_, rfl⟩
    first
      | (rw [if_pos hf]; rfl)
      | (rw [if_neg hf]; rfl)
  · skip
    have hf : ¬ f = 4 := of_decide_eq_false c4
    (repeat refine J.seq ?_)
    refine J.skip ?_
    (repeat refine J.seq ?_)
    refine J.region ?_
    refine WL.yes (by rfl) (Ex.q (q_build (parts := []) (by rfl) (by rfl)) (by rfl) ?_)
    first | (refine WL.yes (by rfl) (Ex.store (by rfl) (by rfl) (by rfl) (by rfl) (by rfl) (by rfl) ?_)) | (refine WL.yes (by rfl) (Ex.store_pel (by rfl) (by rfl) (by rfl) (by rfl) (by rfl) ?_ (by rfl) ?_); (· omega))
    refine WL.nil ?_
    (repeat refine J.seq ?_)
    refine J.ret ?_
    (repeat (with_reducible first | refine Kseq.ret ?_ | refine Kblock.ret ?_ | refine Kloop.ret ?_))
    refine Kret.mk [] (.cell inferInstance (by rfl) (by rfl) (by rfl) .nil) (by rfl) trivial (HLe.nil _ _) ?_
    refine ⟨?_, rfl⟩
    first
      | (rw [if_pos hf]; rfl)
      | (rw [if_neg hf]; rfl)

set_option maxHeartbeats 4000000 in
set_option maxRecDepth 100000 in
theorem func4_spec (a b c d : Int) : SpecQ Try.prog 53 [.int .u8 a, .int .u8 b, .int .u8 c, .int .u8 d] (adV [0, 0, 0, 0, 0, 0, 0, 0, 0, 0, 255, 255, a, b, c, d]) := by
  refine Spec.of_J Try.func53 rfl Try.ntmps53 Try.results53 rfl ?_
  intro A F hAF
  (repeat refine J.seq ?_)
  refine J.region ?_
  refine WL.yes (by rfl) (Ex.alloc (by rfl) ?_)
  intro b8
  refine WL.nil ?_
  (repeat refine J.seq ?_)
  refine J.region ?_
  refine WL.yes (by rfl) (Ex.q (q_move (by rfl)) (by rfl) ?_)
  refine WL.yes (by rfl) (Ex.q (q_move (by rfl)) (by rfl) ?_)
  refine WL.yes (by rfl) (Ex.q (q_move (by rfl)) (by rfl) ?_)
  refine WL.yes (by rfl) (Ex.q (q_move (by rfl)) (by rfl) ?_)
  refine WL.yes (by rfl) (Ex.q (q_build (parts := [(10, .const (.int .u8 255)), (11, .const (.int .u8 255)), (12, .tmp 9), (13, .tmp 10), (14, .tmp 11), (15, .tmp 12)]) (by rfl) (by rfl)) (by rfl) ?_)
  first | (refine WL.yes (by rfl) (Ex.store (by rfl) (by rfl) (by rfl) (by rfl) (by rfl) (by rfl) ?_)) | (refine WL.yes (by rfl) (Ex.store_pel (by rfl) (by rfl) (by rfl) (by rfl) (by rfl) ?_ (by rfl) ?_); (· omega))
  refine WL.nil ?_
  (repeat refine J.seq ?_)
  refine J.ret ?_
  (repeat (with_reducible first | refine Kseq.ret ?_ | refine Kblock.ret ?_ | refine Kloop.ret ?_))
  refine Kret.mk [] (.cell inferInstance (by rfl) (by rfl) (by rfl) .nil) (by rfl) trivial (HLe.nil _ _) ?_
  refine ⟨?_, rfl⟩
  rfl

set_option maxHeartbeats 4000000 in
set_option maxRecDepth 100000 in
theorem num_spec (n : Int) : SpecQ Try.prog 34 [iV n] (iV n) := by
  refine Spec.of_J Try.func34 rfl Try.ntmps34 Try.results34 rfl ?_
  intro A F hAF
  (repeat refine J.seq ?_)
  refine J.region ?_
  refine WL.yes (by rfl) (Ex.q (q_assign (by rfl)) (by rfl) ?_)
  refine WL.nil ?_
  (repeat refine J.seq ?_)
  refine J.region ?_
  refine WL.yes (by rfl) (Ex.q (q_move (by rfl)) (by rfl) ?_)
  refine WL.yes (by rfl) (Ex.q (q_assign (by rfl)) (by rfl) ?_)
  refine WL.nil ?_
  (repeat refine J.seq ?_)
  refine J.ret ?_
  (repeat (with_reducible first | refine Kseq.ret ?_ | refine Kblock.ret ?_ | refine Kloop.ret ?_))
  refine Kret.mk [] (.tmp (by rfl) .nil) (by rfl) trivial (HLe.nil _ _) ?_
  refine ⟨?_, rfl⟩
  rfl

end Go.Vm
