/- The stand-in for the kernel: the walks. -/
import Derived.Test.YtimkkhefemnkpaaN0
namespace Go.Vm
open Go Go.Proofs

set_option maxHeartbeats 4000000 in
set_option maxRecDepth 100000 in
theorem kNew_spec  : Spec Try.prog 13 [] [] (fun r H' => ∃ kb b1 b2, r = .ptr 1060 kb 0 ∧ H' = KO kb b1 b2 ⟨[], [], 0⟩) := by
  refine Spec.of_J Try.func13 rfl Try.ntmps13 Try.results13 rfl ?_
  intro A F hAF
  (repeat refine J.seq ?_)
  refine J.region ?_
  refine WL.yes (by rfl) (Ex.q (q_assign (by rfl)) (by rfl) ?_)
  refine WL.nil ?_
  (repeat refine J.seq ?_)
  refine J.region ?_
  refine WL.yes (by rfl) (Ex.makeMap prE enE (by rfl) ?_)
  intro b1
  refine WL.yes (by rfl) (Ex.makeMap prE enE (by rfl) ?_)
  intro b2
  refine WL.yes (by rfl) (Ex.q (q_build (parts := [(0, .tmp 1), (1, .tmp 2)]) (by rfl) (by rfl)) (by rfl) ?_)
  refine WL.yes (by rfl) (Ex.box (by rfl) (by rfl) (by rfl) ?_)
  intro b4
  refine WL.yes (by rfl) (Ex.q (q_assign (by rfl)) (by rfl) ?_)
  refine WL.nil ?_
  (repeat refine J.seq ?_)
  refine J.ret ?_
  (repeat (with_reducible first | refine Kseq.ret ?_ | refine Kblock.ret ?_ | refine Kloop.ret ?_))
  exact Kret.mk2 (vs := [.ptr 4 b4 0]) (.ptr 1060 b4 0) (KO b4 b1 b2 ⟨[], [], 0⟩) (.tmp (by rfl) .nil) (by rfl) trivial rfl (fun _ h => h) (HLe.sub (.cons (s := 4) rfl (CLe.cells rfl (fun _ => rfl) (fun _ => ⟨trivial, trivial, trivial⟩)) rfl (.cons (s := 1) rfl (CLe.refl _ _) rfl (.cons (s := 2) rfl (CLe.refl _ _) rfl .nil)))) ⟨b4, b1, b2, rfl, rfl⟩

set_option maxHeartbeats 4000000 in
set_option maxRecDepth 100000 in
theorem kFail_spec (kb b1 b2 : Nat) (s : KS) (n : Int) : Spec Try.prog 16 [.ptr 1060 kb 0, iV n] (KO kb b1 b2 s) (fun r H' => r = .tup0 ∧ H' = KO kb b1 b2 { s with n := max n 0 }) := by
  refine Spec.of_J Try.func16 rfl Try.ntmps16 Try.results16 rfl ?_
  intro A F hAF
  (repeat refine J.seq ?_)
  refine J.region ?_
  refine WL.yes (by rfl) (Ex.q (q_move (by rfl)) (by rfl) ?_)
  refine WL.yes (by rfl) (Ex.q (q_nenil (by rfl) (by rfl) (by rfl)) (by rfl) ?_)
  refine WL.nil ?_
  (repeat refine J.seq ?_)
  refine J.cond (by rfl) (fun c5 => ?_) (fun c5 => ?_)
  · skip
    (repeat refine J.seq ?_)
    refine J.region ?_
    refine WL.yes (by rfl) (Ex.q (q_move (by rfl)) (by rfl) ?_)
    refine WL.yes (by rfl) (Ex.q (q_move (by rfl)) (by rfl) ?_)
    refine WL.yes (by rfl) (Ex.q (q_max (by rfl)) (by rfl) ?_)
    refine WL.yes (by rfl) (Ex.q (q_nilCheck (by rfl) (by rfl)) (by rfl) ?_)
    first | (refine WL.yes (by rfl) (Ex.q (q_fieldAddr (by rfl)) (by rfl) ?_)) | (refine WL.yes (by rfl) (Ex.q (q_fieldAddr_rop (by rfl) (by rfl)) (by rfl) ?_)) | (refine WL.yes (by rfl) (Ex.q (q_fieldAddr_pel (by rfl)) (by rfl) ?_))
    first | (refine WL.yes (by rfl) (Ex.store (by rfl) (by rfl) (by rfl) (by rfl) (by rfl) (by rfl) ?_)) | (refine WL.yes (by rfl) (Ex.store_pel (by rfl) (by rfl) (by rfl) (by rfl) (by rfl) ?_ (by rfl) ?_); (· omega))
    refine WL.nil ?_
    exact Kret.mk (KO kb b1 b2 { s with n := max n 0 }) .nil (by rfl) trivial (HLe.sub (.cons (s := 1060) rfl (CLe.refl _ _) rfl (.cons (s := 1051) rfl (CLe.refl _ _) rfl (.cons (s := 1052) rfl (CLe.refl _ _) rfl .nil)))) ⟨rfl, rfl⟩
  · skip
    cases c5

set_option maxHeartbeats 4000000 in
set_option maxRecDepth 100000 in
theorem kFailNil_spec (n : Int) : Spec Try.prog 16 [.nilp, iV n] [] (fun r H' => r = .tup0 ∧ H' = []) := by
  refine Spec.of_J Try.func16 rfl Try.ntmps16 Try.results16 rfl ?_
  intro A F hAF
  (repeat refine J.seq ?_)
  refine J.region ?_
  refine WL.yes (by rfl) (Ex.q (q_move (by rfl)) (by rfl) ?_)
  refine WL.yes (by rfl) (Ex.q (q_nenil (by rfl) (by rfl) (by rfl)) (by rfl) ?_)
  refine WL.nil ?_
  (repeat refine J.seq ?_)
  refine J.cond (by rfl) (fun c5 => ?_) (fun c5 => ?_)
  · skip
    cases c5
  · skip
    (repeat refine J.seq ?_)
    refine J.skip ?_
    exact Kret.mk [] .nil (by rfl) trivial (HLe.nil _ _) ⟨rfl, rfl⟩

set_option maxHeartbeats 4000000 in
set_option maxRecDepth 100000 in
theorem kDo_spec (kb b1 b2 : Nat) {s : KS} {o : Opn} (hs : KOk' s) (ho : o.e.ok) : Spec Try.prog 14 [.ptr 1060 kb 0, opE o] (KO kb b1 b2 s) (fun r H' => r = .bool (kdo s o).1 ∧ H' = KO kb b1 b2 (kdo s o).2) := by
  refine Spec.of_J Try.func14 rfl Try.ntmps14 Try.results14 rfl ?_
  intro A F hAF
  (repeat refine J.seq ?_)
  refine J.region ?_
  refine WL.yes (by rfl) (Ex.box (by rfl) (by rfl) (by rfl) ?_)
  intro b3
  refine WL.yes (by rfl) (Ex.q (q_assign (by rfl)) (by rfl) ?_)
  refine WL.nil ?_
  (repeat refine J.seq ?_)
  refine J.region ?_
  refine WL.yes (by rfl) (Ex.q (q_move (by rfl)) (by rfl) ?_)
  refine WL.yes (by rfl) (Ex.q (q_eqnil (by rfl) (by rfl) (by rfl)) (by rfl) ?_)
  refine WL.nil ?_
  (repeat refine J.seq ?_)
  refine J.cond (by rfl) (fun c11 => ?_) (fun c11 => ?_)
  · skip
    cases c11
  · skip
    (repeat refine J.seq ?_)
    refine J.skip ?_
    (repeat refine J.seq ?_)
    refine J.region ?_
    refine WL.yes (by rfl) (Ex.q (q_move (by rfl)) (by rfl) ?_)
    refine WL.yes (by rfl) (Ex.q (q_nilCheck (by rfl) (by rfl)) (by rfl) ?_)
    first | (refine WL.yes (by rfl) (Ex.q (q_fieldAddr (by rfl)) (by rfl) ?_)) | (refine WL.yes (by rfl) (Ex.q (q_fieldAddr_rop (by rfl) (by rfl)) (by rfl) ?_)) | (refine WL.yes (by rfl) (Ex.q (q_fieldAddr_pel (by rfl)) (by rfl) ?_))
    first | (refine WL.yes (by rfl) (Ex.h (h_load (by rfl) (by rfl) (by rfl)) (by rfl) ?_)) | (refine WL.yes (by rfl) (Ex.q (q_load (by rfl) (by rfl) (by rfl)) (by rfl) ?_)) | (refine WL.yes (by rfl) (Ex.q (q_load_rop (by rfl) (by rfl)) (by rfl) ?_)) | (refine WL.yes (by rfl) (Ex.h (h_load_pel (by rfl) (by rfl) ?_ (by rfl)) (by rfl) ?_); (· omega)) | (refine WL.yes (by rfl) (Ex.q (q_load_pel (by rfl) (by rfl) ?_ (by rfl)) (by rfl) ?_); (· omega))
    refine WL.yes (by rfl) (Ex.q (q_int (by rfl) (by rfl) (by rfl)) (by rfl) ?_)
    refine WL.nil ?_
    (repeat refine J.seq ?_)
    refine J.cond (by rfl) (fun c16 => ?_) (fun c16 => ?_)
    · skip
      have h16 : 0 < s.n := of_decide_eq_true c16
      have hw : IntKind.i64.wrap (s.n - 1) = s.n - 1 := w64 (by have := hs.n; omega) (by have := hs.n; omega)
      (repeat refine J.seq ?_)
      refine J.region ?_
      refine WL.yes (by rfl) (Ex.q (q_move (by rfl)) (by rfl) ?_)
      refine WL.yes (by rfl) (Ex.q (q_nilCheck (by rfl) (by rfl)) (by rfl) ?_)
      first | (refine WL.yes (by rfl) (Ex.q (q_fieldAddr (by rfl)) (by rfl) ?_)) | (refine WL.yes (by rfl) (Ex.q (q_fieldAddr_rop (by rfl) (by rfl)) (by rfl) ?_)) | (refine WL.yes (by rfl) (Ex.q (q_fieldAddr_pel (by rfl)) (by rfl) ?_))
      first | (refine WL.yes (by rfl) (Ex.h (h_load (by rfl) (by rfl) (by rfl)) (by rfl) ?_)) | (refine WL.yes (by rfl) (Ex.q (q_load (by rfl) (by rfl) (by rfl)) (by rfl) ?_)) | (refine WL.yes (by rfl) (Ex.q (q_load_rop (by rfl) (by rfl)) (by rfl) ?_)) | (refine WL.yes (by rfl) (Ex.h (h_load_pel (by rfl) (by rfl) ?_ (by rfl)) (by rfl) ?_); (· omega)) | (refine WL.yes (by rfl) (Ex.q (q_load_pel (by rfl) (by rfl) ?_ (by rfl)) (by rfl) ?_); (· omega))
      refine WL.yes (by rfl) (Ex.q (q_int (by rfl) (by rfl) (by rfl)) (by rfl) ?_)
      refine WL.yes (by rfl) (Ex.q (q_nilCheck (by rfl) (by rfl)) (by rfl) ?_)
      first | (refine WL.yes (by rfl) (Ex.q (q_fieldAddr (by rfl)) (by rfl) ?_)) | (refine WL.yes (by rfl) (Ex.q (q_fieldAddr_rop (by rfl) (by rfl)) (by rfl) ?_)) | (refine WL.yes (by rfl) (Ex.q (q_fieldAddr_pel (by rfl)) (by rfl) ?_))
      first | (refine WL.yes (by rfl) (Ex.store (by rfl) (by rfl) (by rfl) (by rfl) (by rfl) (by rfl) ?_)) | (refine WL.yes (by rfl) (Ex.store_pel (by rfl) (by rfl) (by rfl) (by rfl) (by rfl) ?_ (by rfl) ?_); (· omega))
      refine WL.nil ?_
      (repeat refine J.seq ?_)
      refine J.region ?_
      refine WL.yes (by rfl) (Ex.q (q_assign (by rfl)) (by rfl) ?_)
      refine WL.nil ?_
      (repeat refine J.seq ?_)
      refine J.ret ?_
      (repeat (with_reducible first | refine Kseq.ret ?_ | refine Kblock.ret ?_ | refine Kloop.ret ?_))
      first
        | (rw [kdo_fail h16]; exact Kret.mk (KO kb b1 b2 { s with n := s.n - 1 }) (.tmp (by rfl) .nil) (by rfl) trivial (HLe.sub (.cons (s := 1060) rfl (CLe.box (by rw [hw])) rfl (.cons (s := 1051) rfl (CLe.refl _ _) rfl (.cons (s := 1052) rfl (CLe.refl _ _) rfl .nil)))) ⟨rfl, rfl⟩)
        | (rw [kdo_bad h16 h45]; exact Kret.mk (KO kb b1 b2 s) (.tmp (by rfl) .nil) (by rfl) trivial (HLe.sub (.cons (s := 1060) rfl (CLe.refl _ _) rfl (.cons (s := 1051) rfl (CLe.refl _ _) rfl (.cons (s := 1052) rfl (CLe.refl _ _) rfl .nil)))) ⟨rfl, rfl⟩)
        | (rw [kdo_add h16 h45 k1 t1 f49]; exact Kret.mk (KO kb b1 b2 { s with T := tput o.e s.T }) (.tmp (by rfl) .nil) (by rfl) trivial (HLe.sub (.cons (s := 1060) rfl (CLe.refl _ _) rfl (.cons (s := 1051) rfl (CLe.mp (aput_tput hs.t o.e).symm) rfl (.cons (s := 1052) rfl (CLe.refl _ _) rfl .nil)))) ⟨rfl, rfl⟩)
        | (rw [kdo_chg h16 h45 k2 f49]; exact Kret.mk (KO kb b1 b2 { s with T := tput o.e s.T }) (.tmp (by rfl) .nil) (by rfl) trivial (HLe.sub (.cons (s := 1060) rfl (CLe.refl _ _) rfl (.cons (s := 1051) rfl (CLe.mp (aput_tput hs.t o.e).symm) rfl (.cons (s := 1052) rfl (CLe.refl _ _) rfl .nil)))) ⟨rfl, rfl⟩)
        | (rw [kdo_rem h16 h45 k3 f74]; exact Kret.mk (KO kb b1 b2 { s with T := tdel o.e.p s.T }) (.tmp (by rfl) .nil) (by rfl) trivial (HLe.sub (.cons (s := 1060) rfl (CLe.refl _ _) rfl (.cons (s := 1051) rfl (by rw [adel_tdel]; exact CLe.refl _ _) rfl (.cons (s := 1052) rfl (CLe.refl _ _) rfl .nil)))) ⟨rfl, rfl⟩)
        | (rw [kdo_no h16 h45 (by rintro ⟨x1, x2⟩; first | omega | (obtain ⟨x3, x4⟩ := x2; simp_all only [Bool.false_eq_true, Bool.true_eq_false, not_true_eq_false, reduceCtorEq]) | simp_all only [Bool.false_eq_true, Bool.true_eq_false, not_true_eq_false, reduceCtorEq]) (by rintro ⟨x1, x2⟩; first | omega | (obtain ⟨x3, x4⟩ := x2; simp_all only [Bool.false_eq_true, Bool.true_eq_false, not_true_eq_false, reduceCtorEq]) | simp_all only [Bool.false_eq_true, Bool.true_eq_false, not_true_eq_false, reduceCtorEq]) (by rintro ⟨x1, x2⟩; first | omega | (obtain ⟨x3, x4⟩ := x2; simp_all only [Bool.false_eq_true, Bool.true_eq_false, not_true_eq_false, reduceCtorEq]) | simp_all only [Bool.false_eq_true, Bool.true_eq_false, not_true_eq_false, reduceCtorEq])]; exact Kret.mk (KO kb b1 b2 s) (.tmp (by rfl) .nil) (by rfl) trivial (HLe.sub (.cons (s := 1060) rfl (CLe.refl _ _) rfl (.cons (s := 1051) rfl (CLe.refl _ _) rfl (.cons (s := 1052) rfl (CLe.refl _ _) rfl .nil)))) ⟨rfl, rfl⟩)
    · skip
      have h16 : ¬ 0 < s.n := of_decide_eq_false c16
      (repeat refine J.seq ?_)
      refine J.skip ?_
      (repeat refine J.seq ?_)
      refine J.region ?_
      first | (refine WL.yes (by rfl) (Ex.q (q_fieldAddr (by rfl)) (by rfl) ?_)) | (refine WL.yes (by rfl) (Ex.q (q_fieldAddr_rop (by rfl) (by rfl)) (by rfl) ?_)) | (refine WL.yes (by rfl) (Ex.q (q_fieldAddr_pel (by rfl)) (by rfl) ?_))
      first | (refine WL.yes (by rfl) (Ex.q (q_fieldAddr (by rfl)) (by rfl) ?_)) | (refine WL.yes (by rfl) (Ex.q (q_fieldAddr_rop (by rfl) (by rfl)) (by rfl) ?_)) | (refine WL.yes (by rfl) (Ex.q (q_fieldAddr_pel (by rfl)) (by rfl) ?_))
      first | (refine WL.yes (by rfl) (Ex.h (h_load (by rfl) (by rfl) (by rfl)) (by rfl) ?_)) | (refine WL.yes (by rfl) (Ex.q (q_load (by rfl) (by rfl) (by rfl)) (by rfl) ?_)) | (refine WL.yes (by rfl) (Ex.q (q_load_rop (by rfl) (by rfl)) (by rfl) ?_)) | (refine WL.yes (by rfl) (Ex.h (h_load_pel (by rfl) (by rfl) ?_ (by rfl)) (by rfl) ?_); (· omega)) | (refine WL.yes (by rfl) (Ex.q (q_load_pel (by rfl) (by rfl) ?_ (by rfl)) (by rfl) ?_); (· omega))
      refine WL.yes (by rfl) (Ex.alloc (by rfl) ?_)
      intro b5
      first | (refine WL.yes (by rfl) (Ex.store (by rfl) (by rfl) (by rfl) (by rfl) (by rfl) (by rfl) ?_)) | (refine WL.yes (by rfl) (Ex.store_pel (by rfl) (by rfl) (by rfl) (by rfl) (by rfl) ?_ (by rfl) ?_); (· omega))
      refine WL.nil ?_
      (repeat refine J.seq ?_)
      refine J.draw [3, 5, 1051, 1052, 1060] 9999 [(0, true), (1, true), (2, true), (3, true), (4, true), (5, true), (6, true), (7, true), (8, true), (9, false), (10, false), (11, true)] (by kernel_rfl) rfl (by kernel_rfl) ?_
      intro F1 hF1
      refine WS.take rfl (by rfl) (by rfl) (q_move (by rfl)) ?_
      refine WS.take rfl (by rfl) (by rfl) (q_nilCheck (by rfl) (by rfl)) ?_
      first | (refine WS.take rfl (by rfl) (by rfl) (q_fieldAddr (by rfl)) ?_) | (refine WS.take rfl (by rfl) (by rfl) (q_fieldAddr_rop (by rfl) (by rfl)) ?_) | (refine WS.take rfl (by rfl) (by rfl) (q_fieldAddr_pel (by rfl)) ?_)
      first | (refine WS.take rfl (by rfl) (by rfl) (q_load (by rfl) (by rfl) (by rfl)) ?_) | (refine WS.take rfl (by rfl) (by rfl) (q_load_rop (by rfl) (by rfl)) ?_) | (refine WS.take rfl (by rfl) (by rfl) (q_load_pel (by rfl) (by rfl) ?_ (by rfl)) ?_; (· omega))
      first | (refine WS.take rfl (by rfl) (by rfl) (q_load (by rfl) (by rfl) (by rfl)) ?_) | (refine WS.take rfl (by rfl) (by rfl) (q_load_rop (by rfl) (by rfl)) ?_) | (refine WS.take rfl (by rfl) (by rfl) (q_load_pel (by rfl) (by rfl) ?_ (by rfl)) ?_; (· omega))
      refine WS.take rfl (by rfl) (by rfl) (q_lookup_ok (e := prE) (f := enE) rfl (by rfl) (by rfl) (by rfl) hs.t.keys ho.1) ?_
      refine WS.take rfl (by rfl) (by rfl) (q_move (by rfl)) ?_
      first | (refine WS.take rfl (by rfl) (by rfl) (q_extract2 (by rfl) (by rfl)) ?_) | (refine WS.take rfl (by rfl) (by rfl) (q_extract3 (by rfl) (by rfl)) ?_)
      first | (refine WS.take rfl (by rfl) (by rfl) (q_extract2 (by rfl) (by rfl)) ?_) | (refine WS.take rfl (by rfl) (by rfl) (q_extract3 (by rfl) (by rfl)) ?_)
      refine WS.ex rfl (by rfl) (Ex.alloc (by rfl) ?_)
      intro b6
      first | (refine WS.ex rfl (by rfl) (Ex.store (by rfl) (by rfl) (by rfl) (by rfl) (by rfl) (by rfl) ?_)) | (refine WS.ex rfl (by rfl) (Ex.store_pel (by rfl) (by rfl) (by rfl) (by rfl) (by rfl) ?_ (by rfl) ?_); (· omega))
      refine WS.take rfl (by rfl) (by rfl) (q_assign (by rfl)) ?_
      refine WS.nil ?_
      (repeat refine J.seq ?_)
      refine J.draw [3, 5, 6, 1051, 1052, 1060] 9999 [(0, true), (1, true), (2, true), (3, true), (4, true), (5, true), (6, true), (7, true), (8, true), (9, false), (10, false), (11, true)] (by kernel_rfl) rfl (by kernel_rfl) ?_
      intro F2 hF2
      refine WS.take rfl (by rfl) (by rfl) (q_move (by rfl)) ?_
      refine WS.take rfl (by rfl) (by rfl) (q_nilCheck (by rfl) (by rfl)) ?_
      first | (refine WS.take rfl (by rfl) (by rfl) (q_fieldAddr (by rfl)) ?_) | (refine WS.take rfl (by rfl) (by rfl) (q_fieldAddr_rop (by rfl) (by rfl)) ?_) | (refine WS.take rfl (by rfl) (by rfl) (q_fieldAddr_pel (by rfl)) ?_)
      first | (refine WS.take rfl (by rfl) (by rfl) (q_load (by rfl) (by rfl) (by rfl)) ?_) | (refine WS.take rfl (by rfl) (by rfl) (q_load_rop (by rfl) (by rfl)) ?_) | (refine WS.take rfl (by rfl) (by rfl) (q_load_pel (by rfl) (by rfl) ?_ (by rfl)) ?_; (· omega))
      first | (refine WS.take rfl (by rfl) (by rfl) (q_load (by rfl) (by rfl) (by rfl)) ?_) | (refine WS.take rfl (by rfl) (by rfl) (q_load_rop (by rfl) (by rfl)) ?_) | (refine WS.take rfl (by rfl) (by rfl) (q_load_pel (by rfl) (by rfl) ?_ (by rfl)) ?_; (· omega))
      refine WS.take rfl (by rfl) (by rfl) (q_lookup_ok (e := prE) (f := enE) rfl (by rfl) (by rfl) (by rfl) hs.u.keys ho.1) ?_
      refine WS.take rfl (by rfl) (by rfl) (q_move (by rfl)) ?_
      first | (refine WS.take rfl (by rfl) (by rfl) (q_extract2 (by rfl) (by rfl)) ?_) | (refine WS.take rfl (by rfl) (by rfl) (q_extract3 (by rfl) (by rfl)) ?_)
      first | (refine WS.take rfl (by rfl) (by rfl) (q_extract2 (by rfl) (by rfl)) ?_) | (refine WS.take rfl (by rfl) (by rfl) (q_extract3 (by rfl) (by rfl)) ?_)
      refine WS.ex rfl (by rfl) (Ex.alloc (by rfl) ?_)
      intro b8
      first | (refine WS.ex rfl (by rfl) (Ex.store (by rfl) (by rfl) (by rfl) (by rfl) (by rfl) (by rfl) ?_)) | (refine WS.ex rfl (by rfl) (Ex.store_pel (by rfl) (by rfl) (by rfl) (by rfl) (by rfl) ?_ (by rfl) ?_); (· omega))
      refine WS.take rfl (by rfl) (by rfl) (q_assign (by rfl)) ?_
      refine WS.nil ?_
      (repeat refine J.seq ?_)
      refine J.block ?_
      (repeat refine J.seq ?_)
      refine J.region ?_
      first | (refine WL.yes (by rfl) (Ex.h (h_load (by rfl) (by rfl) (by rfl)) (by rfl) ?_)) | (refine WL.yes (by rfl) (Ex.q (q_load (by rfl) (by rfl) (by rfl)) (by rfl) ?_)) | (refine WL.yes (by rfl) (Ex.q (q_load_rop (by rfl) (by rfl)) (by rfl) ?_)) | (refine WL.yes (by rfl) (Ex.h (h_load_pel (by rfl) (by rfl) ?_ (by rfl)) (by rfl) ?_); (· omega)) | (refine WL.yes (by rfl) (Ex.q (q_load_pel (by rfl) (by rfl) ?_ (by rfl)) (by rfl) ?_); (· omega))
      refine WL.yes (by rfl) (Ex.callq (checkPair_spec _ _ _ _) (by rfl) (by rfl) rfl (fun _ h => h) ?_)
      first | (refine WL.yes (by rfl) (Ex.q (q_int (by rfl) (by rfl) (by rfl)) (by rfl) ?_)) | (refine WL.yes (by rfl) (Ex.q (q_neb (by rfl) (by rfl)) (by rfl) ?_)) | (refine WL.yes (by rfl) (Ex.q (q_nep rfl rfl (by rfl) (by rfl) ?_) (by rfl) ?_); (· rfl)) | (refine WL.yes (by rfl) (Ex.q (q_eqs (by rfl) (by rfl)) (by rfl) ?_))
      refine WL.yes (by rfl) (Ex.q (q_assign (by rfl)) (by rfl) ?_)
      refine WL.nil ?_
      (repeat refine J.seq ?_)
      refine J.cond (by rfl) (fun c45 => ?_) (fun c45 => ?_)
      · skip
        have h45 := okR_nnot c45
        (repeat refine J.seq ?_)
        refine J.region ?_
        refine WL.yes (by rfl) (Ex.q (q_assign (by rfl)) (by rfl) ?_)
        refine WL.nil ?_
        (repeat refine J.seq ?_)
        refine J.ret ?_
        (repeat (with_reducible first | refine Kseq.ret ?_ | refine Kblock.ret ?_ | refine Kloop.ret ?_))
        first
          | (rw [kdo_fail h16]; exact Kret.mk (KO kb b1 b2 { s with n := s.n - 1 }) (.tmp (by rfl) .nil) (by rfl) trivial (HLe.sub (.cons (s := 1060) rfl (CLe.box (by rw [hw])) rfl (.cons (s := 1051) rfl (CLe.refl _ _) rfl (.cons (s := 1052) rfl (CLe.refl _ _) rfl .nil)))) ⟨rfl, rfl⟩)
          | (rw [kdo_bad h16 h45]; exact Kret.mk (KO kb b1 b2 s) (.tmp (by rfl) .nil) (by rfl) trivial (HLe.sub (.cons (s := 1060) rfl (CLe.refl _ _) rfl (.cons (s := 1051) rfl (CLe.refl _ _) rfl (.cons (s := 1052) rfl (CLe.refl _ _) rfl .nil)))) ⟨rfl, rfl⟩)
          | (rw [kdo_add h16 h45 k1 t1 f49]; exact Kret.mk (KO kb b1 b2 { s with T := tput o.e s.T }) (.tmp (by rfl) .nil) (by rfl) trivial (HLe.sub (.cons (s := 1060) rfl (CLe.refl _ _) rfl (.cons (s := 1051) rfl (CLe.mp (aput_tput hs.t o.e).symm) rfl (.cons (s := 1052) rfl (CLe.refl _ _) rfl .nil)))) ⟨rfl, rfl⟩)
          | (rw [kdo_chg h16 h45 k2 f49]; exact Kret.mk (KO kb b1 b2 { s with T := tput o.e s.T }) (.tmp (by rfl) .nil) (by rfl) trivial (HLe.sub (.cons (s := 1060) rfl (CLe.refl _ _) rfl (.cons (s := 1051) rfl (CLe.mp (aput_tput hs.t o.e).symm) rfl (.cons (s := 1052) rfl (CLe.refl _ _) rfl .nil)))) ⟨rfl, rfl⟩)
          | (rw [kdo_rem h16 h45 k3 f74]; exact Kret.mk (KO kb b1 b2 { s with T := tdel o.e.p s.T }) (.tmp (by rfl) .nil) (by rfl) trivial (HLe.sub (.cons (s := 1060) rfl (CLe.refl _ _) rfl (.cons (s := 1051) rfl (by rw [adel_tdel]; exact CLe.refl _ _) rfl (.cons (s := 1052) rfl (CLe.refl _ _) rfl .nil)))) ⟨rfl, rfl⟩)
          | (rw [kdo_no h16 h45 (by rintro ⟨x1, x2⟩; first | omega | (obtain ⟨x3, x4⟩ := x2; simp_all only [Bool.false_eq_true, Bool.true_eq_false, not_true_eq_false, reduceCtorEq]) | simp_all only [Bool.false_eq_true, Bool.true_eq_false, not_true_eq_false, reduceCtorEq]) (by rintro ⟨x1, x2⟩; first | omega | (obtain ⟨x3, x4⟩ := x2; simp_all only [Bool.false_eq_true, Bool.true_eq_false, not_true_eq_false, reduceCtorEq]) | simp_all only [Bool.false_eq_true, Bool.true_eq_false, not_true_eq_false, reduceCtorEq]) (by rintro ⟨x1, x2⟩; first | omega | (obtain ⟨x3, x4⟩ := x2; simp_all only [Bool.false_eq_true, Bool.true_eq_false, not_true_eq_false, reduceCtorEq]) | simp_all only [Bool.false_eq_true, Bool.true_eq_false, not_true_eq_false, reduceCtorEq])]; exact Kret.mk (KO kb b1 b2 s) (.tmp (by rfl) .nil) (by rfl) trivial (HLe.sub (.cons (s := 1060) rfl (CLe.refl _ _) rfl (.cons (s := 1051) rfl (CLe.refl _ _) rfl (.cons (s := 1052) rfl (CLe.refl _ _) rfl .nil)))) ⟨rfl, rfl⟩)
      · skip
        have h45 := okR_nof c45
        (repeat refine J.seq ?_)
        refine J.region ?_
        first | (refine WL.yes (by rfl) (Ex.q (q_fieldAddr (by rfl)) (by rfl) ?_)) | (refine WL.yes (by rfl) (Ex.q (q_fieldAddr_rop (by rfl) (by rfl)) (by rfl) ?_)) | (refine WL.yes (by rfl) (Ex.q (q_fieldAddr_pel (by rfl)) (by rfl) ?_))
        first | (refine WL.yes (by rfl) (Ex.h (h_load (by rfl) (by rfl) (by rfl)) (by rfl) ?_)) | (refine WL.yes (by rfl) (Ex.q (q_load (by rfl) (by rfl) (by rfl)) (by rfl) ?_)) | (refine WL.yes (by rfl) (Ex.q (q_load_rop (by rfl) (by rfl)) (by rfl) ?_)) | (refine WL.yes (by rfl) (Ex.h (h_load_pel (by rfl) (by rfl) ?_ (by rfl)) (by rfl) ?_); (· omega)) | (refine WL.yes (by rfl) (Ex.q (q_load_pel (by rfl) (by rfl) ?_ (by rfl)) (by rfl) ?_); (· omega))
        first | (refine WL.yes (by rfl) (Ex.q (q_int (by rfl) (by rfl) (by rfl)) (by rfl) ?_)) | (refine WL.yes (by rfl) (Ex.q (q_eqb (by rfl) (by rfl)) (by rfl) ?_)) | (refine WL.yes (by rfl) (Ex.q (q_eqp rfl rfl (by rfl) (by rfl) ?_) (by rfl) ?_); (· rfl)) | (refine WL.yes (by rfl) (Ex.q (q_eqs (by rfl) (by rfl)) (by rfl) ?_))
        refine WL.yes (by rfl) (Ex.q (q_move (by rfl)) (by rfl) ?_)
        refine WL.split 53 (by rfl) (fun g53 => ?_) (fun g53 => ?_)
        · skip
          have k1 : o.k = 1 := of_decide_eq_true g53
          refine WL.yes (by rfl) (Ex.q (q_move (by rfl)) (by rfl) ?_)
          refine WL.yes (by rfl) (Ex.q (q_not (by rfl)) (by rfl) ?_)
          refine WL.yes (by rfl) (Ex.q (q_pick_t (by rfl) (by rfl)) (by rfl) ?_)
          refine WL.yes (by rfl) (Ex.q (q_move (by rfl)) (by rfl) ?_)
          refine WL.split 57 (by rfl) (fun g57 => ?_) (fun g57 => ?_)
          · skip
            have t1 : has o.e.p s.T = false := by rw [isSome_has] at g57; simpa using g57
            refine WL.yes (by rfl) (Ex.q (q_move (by rfl)) (by rfl) ?_)
            refine WL.yes (by rfl) (Ex.q (q_not (by rfl)) (by rfl) ?_)
            refine WL.yes (by rfl) (Ex.q (q_pick_t (by rfl) (by rfl)) (by rfl) ?_)
            refine WL.yes (by rfl) (Ex.q (q_assign (by rfl)) (by rfl) ?_)
            refine WL.nil ?_
            (repeat refine J.seq ?_)
            refine J.cond (by rfl) (fun c49 => ?_) (fun c49 => ?_)
            · skip
              first | (have f49 : has o.e.p s.U = false := by rw [isSome_has] at c49; simpa using c49) | (have f49 : has o.e.p s.T = true := by rw [isSome_has] at c49; exact c49)
              (repeat refine J.seq ?_)
              refine J.skip ?_
              (repeat refine J.seq ?_)
              refine J.cond (by rfl) (fun c49 => ?_) (fun c49 => ?_)
              · skip
                first | (have f49 : has o.e.p s.U = false := by rw [isSome_has] at c49; simpa using c49) | (have f49 : has o.e.p s.T = true := by rw [isSome_has] at c49; exact c49)
                (repeat refine J.seq ?_)
                refine J.draw [3, 5, 6, 8, 1060] 7 [(0, true), (1, true), (2, true), (3, true), (4, true), (5, true), (6, true), (7, false)] (by kernel_rfl) rfl (by kernel_rfl) ?_
                intro F3 hF3
                refine WS.take rfl (by rfl) (by rfl) (q_move (by rfl)) ?_
                refine WS.take rfl (by rfl) (by rfl) (q_nilCheck (by rfl) (by rfl)) ?_
                first | (refine WS.take rfl (by rfl) (by rfl) (q_fieldAddr (by rfl)) ?_) | (refine WS.take rfl (by rfl) (by rfl) (q_fieldAddr_rop (by rfl) (by rfl)) ?_) | (refine WS.take rfl (by rfl) (by rfl) (q_fieldAddr_pel (by rfl)) ?_)
                first | (refine WS.take rfl (by rfl) (by rfl) (q_load (by rfl) (by rfl) (by rfl)) ?_) | (refine WS.take rfl (by rfl) (by rfl) (q_load_rop (by rfl) (by rfl)) ?_) | (refine WS.take rfl (by rfl) (by rfl) (q_load_pel (by rfl) (by rfl) ?_ (by rfl)) ?_; (· omega))
                first | (refine WS.take rfl (by rfl) (by rfl) (q_load (by rfl) (by rfl) (by rfl)) ?_) | (refine WS.take rfl (by rfl) (by rfl) (q_load_rop (by rfl) (by rfl)) ?_) | (refine WS.take rfl (by rfl) (by rfl) (q_load_pel (by rfl) (by rfl) ?_ (by rfl)) ?_; (· omega))
                first | (refine WS.take rfl (by rfl) (by rfl) (q_fieldAddr (by rfl)) ?_) | (refine WS.take rfl (by rfl) (by rfl) (q_fieldAddr_rop (by rfl) (by rfl)) ?_) | (refine WS.take rfl (by rfl) (by rfl) (q_fieldAddr_pel (by rfl)) ?_)
                first | (refine WS.take rfl (by rfl) (by rfl) (q_load (by rfl) (by rfl) (by rfl)) ?_) | (refine WS.take rfl (by rfl) (by rfl) (q_load_rop (by rfl) (by rfl)) ?_) | (refine WS.take rfl (by rfl) (by rfl) (q_load_pel (by rfl) (by rfl) ?_ (by rfl)) ?_; (· omega))
                refine WS.last rfl (by rfl) (by rfl) (Ex.mapUpdate o.e.p o.e (by rfl) (by rfl) (by rfl) (by rfl) hs.t.keys ho.1 ?_)
                (repeat refine J.seq ?_)
                refine J.region ?_
                refine WL.yes (by rfl) (Ex.q (q_assign (by rfl)) (by rfl) ?_)
                refine WL.nil ?_
                (repeat refine J.seq ?_)
                refine J.ret ?_
                (repeat (with_reducible first | refine Kseq.ret ?_ | refine Kblock.ret ?_ | refine Kloop.ret ?_))
                first
                  | (rw [kdo_fail h16]; exact Kret.mk (KO kb b1 b2 { s with n := s.n - 1 }) (.tmp (by rfl) .nil) (by rfl) trivial (HLe.sub (.cons (s := 1060) rfl (CLe.box (by rw [hw])) rfl (.cons (s := 1051) rfl (CLe.refl _ _) rfl (.cons (s := 1052) rfl (CLe.refl _ _) rfl .nil)))) ⟨rfl, rfl⟩)
                  | (rw [kdo_bad h16 h45]; exact Kret.mk (KO kb b1 b2 s) (.tmp (by rfl) .nil) (by rfl) trivial (HLe.sub (.cons (s := 1060) rfl (CLe.refl _ _) rfl (.cons (s := 1051) rfl (CLe.refl _ _) rfl (.cons (s := 1052) rfl (CLe.refl _ _) rfl .nil)))) ⟨rfl, rfl⟩)
                  | (rw [kdo_add h16 h45 k1 t1 f49]; exact Kret.mk (KO kb b1 b2 { s with T := tput o.e s.T }) (.tmp (by rfl) .nil) (by rfl) trivial (HLe.sub (.cons (s := 1060) rfl (CLe.refl _ _) rfl (.cons (s := 1051) rfl (CLe.mp (aput_tput hs.t o.e).symm) rfl (.cons (s := 1052) rfl (CLe.refl _ _) rfl .nil)))) ⟨rfl, rfl⟩)
                  | (rw [kdo_chg h16 h45 k2 f49]; exact Kret.mk (KO kb b1 b2 { s with T := tput o.e s.T }) (.tmp (by rfl) .nil) (by rfl) trivial (HLe.sub (.cons (s := 1060) rfl (CLe.refl _ _) rfl (.cons (s := 1051) rfl (CLe.mp (aput_tput hs.t o.e).symm) rfl (.cons (s := 1052) rfl (CLe.refl _ _) rfl .nil)))) ⟨rfl, rfl⟩)
                  | (rw [kdo_rem h16 h45 k3 f74]; exact Kret.mk (KO kb b1 b2 { s with T := tdel o.e.p s.T }) (.tmp (by rfl) .nil) (by rfl) trivial (HLe.sub (.cons (s := 1060) rfl (CLe.refl _ _) rfl (.cons (s := 1051) rfl (by rw [adel_tdel]; exact CLe.refl _ _) rfl (.cons (s := 1052) rfl (CLe.refl _ _) rfl .nil)))) ⟨rfl, rfl⟩)
                  | (rw [kdo_no h16 h45 (by rintro ⟨x1, x2⟩; first | omega | (obtain ⟨x3, x4⟩ := x2; simp_all only [Bool.false_eq_true, Bool.true_eq_false, not_true_eq_false, reduceCtorEq]) | simp_all only [Bool.false_eq_true, Bool.true_eq_false, not_true_eq_false, reduceCtorEq]) (by rintro ⟨x1, x2⟩; first | omega | (obtain ⟨x3, x4⟩ := x2; simp_all only [Bool.false_eq_true, Bool.true_eq_false, not_true_eq_false, reduceCtorEq]) | simp_all only [Bool.false_eq_true, Bool.true_eq_false, not_true_eq_false, reduceCtorEq]) (by rintro ⟨x1, x2⟩; first | omega | (obtain ⟨x3, x4⟩ := x2; simp_all only [Bool.false_eq_true, Bool.true_eq_false, not_true_eq_false, reduceCtorEq]) | simp_all only [Bool.false_eq_true, Bool.true_eq_false, not_true_eq_false, reduceCtorEq])]; exact Kret.mk (KO kb b1 b2 s) (.tmp (by rfl) .nil) (by rfl) trivial (HLe.sub (.cons (s := 1060) rfl (CLe.refl _ _) rfl (.cons (s := 1051) rfl (CLe.refl _ _) rfl (.cons (s := 1052) rfl (CLe.refl _ _) rfl .nil)))) ⟨rfl, rfl⟩)
              · skip
                first | (have f49 : ¬ has o.e.p s.U = false := by rw [isSome_has] at c49; simpa using c49) | (have f49 : ¬ has o.e.p s.T = true := by rw [isSome_has] at c49; simpa using c49)
                (repeat refine J.seq ?_)
                refine J.region ?_
                first | (refine WL.yes (by rfl) (Ex.q (q_fieldAddr (by rfl)) (by rfl) ?_)) | (refine WL.yes (by rfl) (Ex.q (q_fieldAddr_rop (by rfl) (by rfl)) (by rfl) ?_)) | (refine WL.yes (by rfl) (Ex.q (q_fieldAddr_pel (by rfl)) (by rfl) ?_))
                first | (refine WL.yes (by rfl) (Ex.h (h_load (by rfl) (by rfl) (by rfl)) (by rfl) ?_)) | (refine WL.yes (by rfl) (Ex.q (q_load (by rfl) (by rfl) (by rfl)) (by rfl) ?_)) | (refine WL.yes (by rfl) (Ex.q (q_load_rop (by rfl) (by rfl)) (by rfl) ?_)) | (refine WL.yes (by rfl) (Ex.h (h_load_pel (by rfl) (by rfl) ?_ (by rfl)) (by rfl) ?_); (· omega)) | (refine WL.yes (by rfl) (Ex.q (q_load_pel (by rfl) (by rfl) ?_ (by rfl)) (by rfl) ?_); (· omega))
                first | (refine WL.yes (by rfl) (Ex.q (q_int (by rfl) (by rfl) (by rfl)) (by rfl) ?_)) | (refine WL.yes (by rfl) (Ex.q (q_eqb (by rfl) (by rfl)) (by rfl) ?_)) | (refine WL.yes (by rfl) (Ex.q (q_eqp rfl rfl (by rfl) (by rfl) ?_) (by rfl) ?_); (· rfl)) | (refine WL.yes (by rfl) (Ex.q (q_eqs (by rfl) (by rfl)) (by rfl) ?_))
                refine WL.yes (by rfl) (Ex.q (q_move (by rfl)) (by rfl) ?_)
                refine WL.split 78 (by rfl) (fun g78 => ?_) (fun g78 => ?_)
                · skip
                  have k3 : o.k = 3 := of_decide_eq_true g78
                  refine WL.yes (by rfl) (Ex.q (q_move (by rfl)) (by rfl) ?_)
                  refine WL.yes (by rfl) (Ex.q (q_pick_t (by rfl) (by rfl)) (by rfl) ?_)
                  refine WL.yes (by rfl) (Ex.q (q_assign (by rfl)) (by rfl) ?_)
                  refine WL.nil ?_
                  (repeat refine J.seq ?_)
                  refine J.cond (by rfl) (fun c74 => ?_) (fun c74 => ?_)
                  · skip
                    have f74 : has o.e.p s.T = true := by rw [isSome_has] at c74; exact c74
                    (repeat refine J.seq ?_)
                    refine J.draw [3, 5, 6, 8, 1060] 5 [(0, true), (1, true), (2, true), (3, true), (4, true), (5, false)] (by kernel_rfl) rfl (by kernel_rfl) ?_
                    intro F4 hF4
                    refine WS.take rfl (by rfl) (by rfl) (q_move (by rfl)) ?_
                    refine WS.take rfl (by rfl) (by rfl) (q_nilCheck (by rfl) (by rfl)) ?_
                    first | (refine WS.take rfl (by rfl) (by rfl) (q_fieldAddr (by rfl)) ?_) | (refine WS.take rfl (by rfl) (by rfl) (q_fieldAddr_rop (by rfl) (by rfl)) ?_) | (refine WS.take rfl (by rfl) (by rfl) (q_fieldAddr_pel (by rfl)) ?_)
                    first | (refine WS.take rfl (by rfl) (by rfl) (q_load (by rfl) (by rfl) (by rfl)) ?_) | (refine WS.take rfl (by rfl) (by rfl) (q_load_rop (by rfl) (by rfl)) ?_) | (refine WS.take rfl (by rfl) (by rfl) (q_load_pel (by rfl) (by rfl) ?_ (by rfl)) ?_; (· omega))
                    first | (refine WS.take rfl (by rfl) (by rfl) (q_load (by rfl) (by rfl) (by rfl)) ?_) | (refine WS.take rfl (by rfl) (by rfl) (q_load_rop (by rfl) (by rfl)) ?_) | (refine WS.take rfl (by rfl) (by rfl) (q_load_pel (by rfl) (by rfl) ?_ (by rfl)) ?_; (· omega))
                    refine WS.last rfl (by rfl) (by rfl) (Ex.delete o.e.p (by rfl) (by rfl) (by rfl) hs.t.keys ho.1 ?_)
                    (repeat refine J.seq ?_)
                    refine J.region ?_
                    refine WL.yes (by rfl) (Ex.q (q_assign (by rfl)) (by rfl) ?_)
                    refine WL.nil ?_
                    (repeat refine J.seq ?_)
                    refine J.ret ?_
                    (repeat (with_reducible first | refine Kseq.ret ?_ | refine Kblock.ret ?_ | refine Kloop.ret ?_))
                    first
                      | (rw [kdo_fail h16]; exact Kret.mk (KO kb b1 b2 { s with n := s.n - 1 }) (.tmp (by rfl) .nil) (by rfl) trivial (HLe.sub (.cons (s := 1060) rfl (CLe.box (by rw [hw])) rfl (.cons (s := 1051) rfl (CLe.refl _ _) rfl (.cons (s := 1052) rfl (CLe.refl _ _) rfl .nil)))) ⟨rfl, rfl⟩)
                      | (rw [kdo_bad h16 h45]; exact Kret.mk (KO kb b1 b2 s) (.tmp (by rfl) .nil) (by rfl) trivial (HLe.sub (.cons (s := 1060) rfl (CLe.refl _ _) rfl (.cons (s := 1051) rfl (CLe.refl _ _) rfl (.cons (s := 1052) rfl (CLe.refl _ _) rfl .nil)))) ⟨rfl, rfl⟩)
                      | (rw [kdo_add h16 h45 k1 t1 f49]; exact Kret.mk (KO kb b1 b2 { s with T := tput o.e s.T }) (.tmp (by rfl) .nil) (by rfl) trivial (HLe.sub (.cons (s := 1060) rfl (CLe.refl _ _) rfl (.cons (s := 1051) rfl (CLe.mp (aput_tput hs.t o.e).symm) rfl (.cons (s := 1052) rfl (CLe.refl _ _) rfl .nil)))) ⟨rfl, rfl⟩)
                      | (rw [kdo_chg h16 h45 k2 f49]; exact Kret.mk (KO kb b1 b2 { s with T := tput o.e s.T }) (.tmp (by rfl) .nil) (by rfl) trivial (HLe.sub (.cons (s := 1060) rfl (CLe.refl _ _) rfl (.cons (s := 1051) rfl (CLe.mp (aput_tput hs.t o.e).symm) rfl (.cons (s := 1052) rfl (CLe.refl _ _) rfl .nil)))) ⟨rfl, rfl⟩)
                      | (rw [kdo_rem h16 h45 k3 f74]; exact Kret.mk (KO kb b1 b2 { s with T := tdel o.e.p s.T }) (.tmp (by rfl) .nil) (by rfl) trivial (HLe.sub (.cons (s := 1060) rfl (CLe.refl _ _) rfl (.cons (s := 1051) rfl (by rw [adel_tdel]; exact CLe.refl _ _) rfl (.cons (s := 1052) rfl (CLe.refl _ _) rfl .nil)))) ⟨rfl, rfl⟩)
                      | (rw [kdo_no h16 h45 (by rintro ⟨x1, x2⟩; first | omega | (obtain ⟨x3, x4⟩ := x2; simp_all only [Bool.false_eq_true, Bool.true_eq_false, not_true_eq_false, reduceCtorEq]) | simp_all only [Bool.false_eq_true, Bool.true_eq_false, not_true_eq_false, reduceCtorEq]) (by rintro ⟨x1, x2⟩; first | omega | (obtain ⟨x3, x4⟩ := x2; simp_all only [Bool.false_eq_true, Bool.true_eq_false, not_true_eq_false, reduceCtorEq]) | simp_all only [Bool.false_eq_true, Bool.true_eq_false, not_true_eq_false, reduceCtorEq]) (by rintro ⟨x1, x2⟩; first | omega | (obtain ⟨x3, x4⟩ := x2; simp_all only [Bool.false_eq_true, Bool.true_eq_false, not_true_eq_false, reduceCtorEq]) | simp_all only [Bool.false_eq_true, Bool.true_eq_false, not_true_eq_false, reduceCtorEq])]; exact Kret.mk (KO kb b1 b2 s) (.tmp (by rfl) .nil) (by rfl) trivial (HLe.sub (.cons (s := 1060) rfl (CLe.refl _ _) rfl (.cons (s := 1051) rfl (CLe.refl _ _) rfl (.cons (s := 1052) rfl (CLe.refl _ _) rfl .nil)))) ⟨rfl, rfl⟩)
                  · skip
                    have f74 : ¬ has o.e.p s.T = true := by rw [isSome_has] at c74; simpa using c74
                    (repeat refine J.seq ?_)
                    refine J.skip ?_
                    (repeat refine J.seq ?_)
                    refine J.region ?_
                    refine WL.yes (by rfl) (Ex.q (q_assign (by rfl)) (by rfl) ?_)
                    refine WL.nil ?_
                    (repeat refine J.seq ?_)
                    refine J.ret ?_
                    (repeat (with_reducible first | refine Kseq.ret ?_ | refine Kblock.ret ?_ | refine Kloop.ret ?_))
                    first
                      | (rw [kdo_fail h16]; exact Kret.mk (KO kb b1 b2 { s with n := s.n - 1 }) (.tmp (by rfl) .nil) (by rfl) trivial (HLe.sub (.cons (s := 1060) rfl (CLe.box (by rw [hw])) rfl (.cons (s := 1051) rfl (CLe.refl _ _) rfl (.cons (s := 1052) rfl (CLe.refl _ _) rfl .nil)))) ⟨rfl, rfl⟩)
                      | (rw [kdo_bad h16 h45]; exact Kret.mk (KO kb b1 b2 s) (.tmp (by rfl) .nil) (by rfl) trivial (HLe.sub (.cons (s := 1060) rfl (CLe.refl _ _) rfl (.cons (s := 1051) rfl (CLe.refl _ _) rfl (.cons (s := 1052) rfl (CLe.refl _ _) rfl .nil)))) ⟨rfl, rfl⟩)
                      | (rw [kdo_add h16 h45 k1 t1 f49]; exact Kret.mk (KO kb b1 b2 { s with T := tput o.e s.T }) (.tmp (by rfl) .nil) (by rfl) trivial (HLe.sub (.cons (s := 1060) rfl (CLe.refl _ _) rfl (.cons (s := 1051) rfl (CLe.mp (aput_tput hs.t o.e).symm) rfl (.cons (s := 1052) rfl (CLe.refl _ _) rfl .nil)))) ⟨rfl, rfl⟩)
                      | (rw [kdo_chg h16 h45 k2 f49]; exact Kret.mk (KO kb b1 b2 { s with T := tput o.e s.T }) (.tmp (by rfl) .nil) (by rfl) trivial (HLe.sub (.cons (s := 1060) rfl (CLe.refl _ _) rfl (.cons (s := 1051) rfl (CLe.mp (aput_tput hs.t o.e).symm) rfl (.cons (s := 1052) rfl (CLe.refl _ _) rfl .nil)))) ⟨rfl, rfl⟩)
                      | (rw [kdo_rem h16 h45 k3 f74]; exact Kret.mk (KO kb b1 b2 { s with T := tdel o.e.p s.T }) (.tmp (by rfl) .nil) (by rfl) trivial (HLe.sub (.cons (s := 1060) rfl (CLe.refl _ _) rfl (.cons (s := 1051) rfl (by rw [adel_tdel]; exact CLe.refl _ _) rfl (.cons (s := 1052) rfl (CLe.refl _ _) rfl .nil)))) ⟨rfl, rfl⟩)
                      | (rw [kdo_no h16 h45 (by rintro ⟨x1, x2⟩; first | omega | (obtain ⟨x3, x4⟩ := x2; simp_all only [Bool.false_eq_true, Bool.true_eq_false, not_true_eq_false, reduceCtorEq]) | simp_all only [Bool.false_eq_true, Bool.true_eq_false, not_true_eq_false, reduceCtorEq]) (by rintro ⟨x1, x2⟩; first | omega | (obtain ⟨x3, x4⟩ := x2; simp_all only [Bool.false_eq_true, Bool.true_eq_false, not_true_eq_false, reduceCtorEq]) | simp_all only [Bool.false_eq_true, Bool.true_eq_false, not_true_eq_false, reduceCtorEq]) (by rintro ⟨x1, x2⟩; first | omega | (obtain ⟨x3, x4⟩ := x2; simp_all only [Bool.false_eq_true, Bool.true_eq_false, not_true_eq_false, reduceCtorEq]) | simp_all only [Bool.false_eq_true, Bool.true_eq_false, not_true_eq_false, reduceCtorEq])]; exact Kret.mk (KO kb b1 b2 s) (.tmp (by rfl) .nil) (by rfl) trivial (HLe.sub (.cons (s := 1060) rfl (CLe.refl _ _) rfl (.cons (s := 1051) rfl (CLe.refl _ _) rfl (.cons (s := 1052) rfl (CLe.refl _ _) rfl .nil)))) ⟨rfl, rfl⟩)
                · skip
                  have k3 : ¬ o.k = 3 := of_decide_eq_false g78
                  refine WL.no (by rfl) (by rfl) ?_
                  refine WL.yes (by rfl) (Ex.q (q_pick_f (by rfl) (by rfl)) (by rfl) ?_)
                  refine WL.yes (by rfl) (Ex.q (q_assign (by rfl)) (by rfl) ?_)
                  refine WL.nil ?_
                  (repeat refine J.seq ?_)
                  refine J.condF (by rfl) ?_
                  (repeat refine J.seq ?_)
                  refine J.skip ?_
                  (repeat refine J.seq ?_)
                  refine J.region ?_
                  refine WL.yes (by rfl) (Ex.q (q_assign (by rfl)) (by rfl) ?_)
                  refine WL.nil ?_
                  (repeat refine J.seq ?_)
                  refine J.ret ?_
                  (repeat (with_reducible first | refine Kseq.ret ?_ | refine Kblock.ret ?_ | refine Kloop.ret ?_))
                  first
                    | (rw [kdo_fail h16]; exact Kret.mk (KO kb b1 b2 { s with n := s.n - 1 }) (.tmp (by rfl) .nil) (by rfl) trivial (HLe.sub (.cons (s := 1060) rfl (CLe.box (by rw [hw])) rfl (.cons (s := 1051) rfl (CLe.refl _ _) rfl (.cons (s := 1052) rfl (CLe.refl _ _) rfl .nil)))) ⟨rfl, rfl⟩)
                    | (rw [kdo_bad h16 h45]; exact Kret.mk (KO kb b1 b2 s) (.tmp (by rfl) .nil) (by rfl) trivial (HLe.sub (.cons (s := 1060) rfl (CLe.refl _ _) rfl (.cons (s := 1051) rfl (CLe.refl _ _) rfl (.cons (s := 1052) rfl (CLe.refl _ _) rfl .nil)))) ⟨rfl, rfl⟩)
                    | (rw [kdo_add h16 h45 k1 t1 f49]; exact Kret.mk (KO kb b1 b2 { s with T := tput o.e s.T }) (.tmp (by rfl) .nil) (by rfl) trivial (HLe.sub (.cons (s := 1060) rfl (CLe.refl _ _) rfl (.cons (s := 1051) rfl (CLe.mp (aput_tput hs.t o.e).symm) rfl (.cons (s := 1052) rfl (CLe.refl _ _) rfl .nil)))) ⟨rfl, rfl⟩)
                    | (rw [kdo_chg h16 h45 k2 f49]; exact Kret.mk (KO kb b1 b2 { s with T := tput o.e s.T }) (.tmp (by rfl) .nil) (by rfl) trivial (HLe.sub (.cons (s := 1060) rfl (CLe.refl _ _) rfl (.cons (s := 1051) rfl (CLe.mp (aput_tput hs.t o.e).symm) rfl (.cons (s := 1052) rfl (CLe.refl _ _) rfl .nil)))) ⟨rfl, rfl⟩)
                    | (rw [kdo_rem h16 h45 k3 f74]; exact Kret.mk (KO kb b1 b2 { s with T := tdel o.e.p s.T }) (.tmp (by rfl) .nil) (by rfl) trivial (HLe.sub (.cons (s := 1060) rfl (CLe.refl _ _) rfl (.cons (s := 1051) rfl (by rw [adel_tdel]; exact CLe.refl _ _) rfl (.cons (s := 1052) rfl (CLe.refl _ _) rfl .nil)))) ⟨rfl, rfl⟩)
                    | (rw [kdo_no h16 h45 (by rintro ⟨x1, x2⟩; first | omega | (obtain ⟨x3, x4⟩ := x2; simp_all only [Bool.false_eq_true, Bool.true_eq_false, not_true_eq_false, reduceCtorEq]) | simp_all only [Bool.false_eq_true, Bool.true_eq_false, not_true_eq_false, reduceCtorEq]) (by rintro ⟨x1, x2⟩; first | omega | (obtain ⟨x3, x4⟩ := x2; simp_all only [Bool.false_eq_true, Bool.true_eq_false, not_true_eq_false, reduceCtorEq]) | simp_all only [Bool.false_eq_true, Bool.true_eq_false, not_true_eq_false, reduceCtorEq]) (by rintro ⟨x1, x2⟩; first | omega | (obtain ⟨x3, x4⟩ := x2; simp_all only [Bool.false_eq_true, Bool.true_eq_false, not_true_eq_false, reduceCtorEq]) | simp_all only [Bool.false_eq_true, Bool.true_eq_false, not_true_eq_false, reduceCtorEq])]; exact Kret.mk (KO kb b1 b2 s) (.tmp (by rfl) .nil) (by rfl) trivial (HLe.sub (.cons (s := 1060) rfl (CLe.refl _ _) rfl (.cons (s := 1051) rfl (CLe.refl _ _) rfl (.cons (s := 1052) rfl (CLe.refl _ _) rfl .nil)))) ⟨rfl, rfl⟩)
            · skip
              first | (have f49 : ¬ has o.e.p s.U = false := by rw [isSome_has] at c49; simpa using c49) | (have f49 : ¬ has o.e.p s.T = true := by rw [isSome_has] at c49; simpa using c49)
              (repeat refine J.seq ?_)
              refine J.region ?_
              first | (refine WL.yes (by rfl) (Ex.q (q_fieldAddr (by rfl)) (by rfl) ?_)) | (refine WL.yes (by rfl) (Ex.q (q_fieldAddr_rop (by rfl) (by rfl)) (by rfl) ?_)) | (refine WL.yes (by rfl) (Ex.q (q_fieldAddr_pel (by rfl)) (by rfl) ?_))
              first | (refine WL.yes (by rfl) (Ex.h (h_load (by rfl) (by rfl) (by rfl)) (by rfl) ?_)) | (refine WL.yes (by rfl) (Ex.q (q_load (by rfl) (by rfl) (by rfl)) (by rfl) ?_)) | (refine WL.yes (by rfl) (Ex.q (q_load_rop (by rfl) (by rfl)) (by rfl) ?_)) | (refine WL.yes (by rfl) (Ex.h (h_load_pel (by rfl) (by rfl) ?_ (by rfl)) (by rfl) ?_); (· omega)) | (refine WL.yes (by rfl) (Ex.q (q_load_pel (by rfl) (by rfl) ?_ (by rfl)) (by rfl) ?_); (· omega))
              first | (refine WL.yes (by rfl) (Ex.q (q_int (by rfl) (by rfl) (by rfl)) (by rfl) ?_)) | (refine WL.yes (by rfl) (Ex.q (q_eqb (by rfl) (by rfl)) (by rfl) ?_)) | (refine WL.yes (by rfl) (Ex.q (q_eqp rfl rfl (by rfl) (by rfl) ?_) (by rfl) ?_); (· rfl)) | (refine WL.yes (by rfl) (Ex.q (q_eqs (by rfl) (by rfl)) (by rfl) ?_))
              refine WL.yes (by rfl) (Ex.q (q_move (by rfl)) (by rfl) ?_)
              refine WL.split 64 (by rfl) (fun g64 => ?_) (fun g64 => ?_)
              · skip
                have k2 : o.k = 2 := of_decide_eq_true g64
                refine WL.yes (by rfl) (Ex.q (q_move (by rfl)) (by rfl) ?_)
                refine WL.yes (by rfl) (Ex.q (q_pick_t (by rfl) (by rfl)) (by rfl) ?_)
                refine WL.yes (by rfl) (Ex.q (q_assign (by rfl)) (by rfl) ?_)
                refine WL.nil ?_
                (repeat refine J.seq ?_)
                refine J.cond (by rfl) (fun c49 => ?_) (fun c49 => ?_)
                · skip
                  first | (have f49 : has o.e.p s.U = false := by rw [isSome_has] at c49; simpa using c49) | (have f49 : has o.e.p s.T = true := by rw [isSome_has] at c49; exact c49)
                  (repeat refine J.seq ?_)
                  refine J.draw [3, 5, 6, 8, 1060] 7 [(0, true), (1, true), (2, true), (3, true), (4, true), (5, true), (6, true), (7, false)] (by kernel_rfl) rfl (by kernel_rfl) ?_
                  intro F5 hF5
                  refine WS.take rfl (by rfl) (by rfl) (q_move (by rfl)) ?_
                  refine WS.take rfl (by rfl) (by rfl) (q_nilCheck (by rfl) (by rfl)) ?_
                  first | (refine WS.take rfl (by rfl) (by rfl) (q_fieldAddr (by rfl)) ?_) | (refine WS.take rfl (by rfl) (by rfl) (q_fieldAddr_rop (by rfl) (by rfl)) ?_) | (refine WS.take rfl (by rfl) (by rfl) (q_fieldAddr_pel (by rfl)) ?_)
                  first | (refine WS.take rfl (by rfl) (by rfl) (q_load (by rfl) (by rfl) (by rfl)) ?_) | (refine WS.take rfl (by rfl) (by rfl) (q_load_rop (by rfl) (by rfl)) ?_) | (refine WS.take rfl (by rfl) (by rfl) (q_load_pel (by rfl) (by rfl) ?_ (by rfl)) ?_; (· omega))
                  first | (refine WS.take rfl (by rfl) (by rfl) (q_load (by rfl) (by rfl) (by rfl)) ?_) | (refine WS.take rfl (by rfl) (by rfl) (q_load_rop (by rfl) (by rfl)) ?_) | (refine WS.take rfl (by rfl) (by rfl) (q_load_pel (by rfl) (by rfl) ?_ (by rfl)) ?_; (· omega))
                  first | (refine WS.take rfl (by rfl) (by rfl) (q_fieldAddr (by rfl)) ?_) | (refine WS.take rfl (by rfl) (by rfl) (q_fieldAddr_rop (by rfl) (by rfl)) ?_) | (refine WS.take rfl (by rfl) (by rfl) (q_fieldAddr_pel (by rfl)) ?_)
                  first | (refine WS.take rfl (by rfl) (by rfl) (q_load (by rfl) (by rfl) (by rfl)) ?_) | (refine WS.take rfl (by rfl) (by rfl) (q_load_rop (by rfl) (by rfl)) ?_) | (refine WS.take rfl (by rfl) (by rfl) (q_load_pel (by rfl) (by rfl) ?_ (by rfl)) ?_; (· omega))
                  refine WS.last rfl (by rfl) (by rfl) (Ex.mapUpdate o.e.p o.e (by rfl) (by rfl) (by rfl) (by rfl) hs.t.keys ho.1 ?_)
                  (repeat refine J.seq ?_)
                  refine J.region ?_
                  refine WL.yes (by rfl) (Ex.q (q_assign (by rfl)) (by rfl) ?_)
                  refine WL.nil ?_
                  (repeat refine J.seq ?_)
                  refine J.ret ?_
                  (repeat (with_reducible first | refine Kseq.ret ?_ | refine Kblock.ret ?_ | refine Kloop.ret ?_))
                  first
                    | (rw [kdo_fail h16]; exact Kret.mk (KO kb b1 b2 { s with n := s.n - 1 }) (.tmp (by rfl) .nil) (by rfl) trivial (HLe.sub (.cons (s := 1060) rfl (CLe.box (by rw [hw])) rfl (.cons (s := 1051) rfl (CLe.refl _ _) rfl (.cons (s := 1052) rfl (CLe.refl _ _) rfl .nil)))) ⟨rfl, rfl⟩)
                    | (rw [kdo_bad h16 h45]; exact Kret.mk (KO kb b1 b2 s) (.tmp (by rfl) .nil) (by rfl) trivial (HLe.sub (.cons (s := 1060) rfl (CLe.refl _ _) rfl (.cons (s := 1051) rfl (CLe.refl _ _) rfl (.cons (s := 1052) rfl (CLe.refl _ _) rfl .nil)))) ⟨rfl, rfl⟩)
                    | (rw [kdo_add h16 h45 k1 t1 f49]; exact Kret.mk (KO kb b1 b2 { s with T := tput o.e s.T }) (.tmp (by rfl) .nil) (by rfl) trivial (HLe.sub (.cons (s := 1060) rfl (CLe.refl _ _) rfl (.cons (s := 1051) rfl (CLe.mp (aput_tput hs.t o.e).symm) rfl (.cons (s := 1052) rfl (CLe.refl _ _) rfl .nil)))) ⟨rfl, rfl⟩)
                    | (rw [kdo_chg h16 h45 k2 f49]; exact Kret.mk (KO kb b1 b2 { s with T := tput o.e s.T }) (.tmp (by rfl) .nil) (by rfl) trivial (HLe.sub (.cons (s := 1060) rfl (CLe.refl _ _) rfl (.cons (s := 1051) rfl (CLe.mp (aput_tput hs.t o.e).symm) rfl (.cons (s := 1052) rfl (CLe.refl _ _) rfl .nil)))) ⟨rfl, rfl⟩)
                    | (rw [kdo_rem h16 h45 k3 f74]; exact Kret.mk (KO kb b1 b2 { s with T := tdel o.e.p s.T }) (.tmp (by rfl) .nil) (by rfl) trivial (HLe.sub (.cons (s := 1060) rfl (CLe.refl _ _) rfl (.cons (s := 1051) rfl (by rw [adel_tdel]; exact CLe.refl _ _) rfl (.cons (s := 1052) rfl (CLe.refl _ _) rfl .nil)))) ⟨rfl, rfl⟩)
                    | (rw [kdo_no h16 h45 (by rintro ⟨x1, x2⟩; first | omega | (obtain ⟨x3, x4⟩ := x2; simp_all only [Bool.false_eq_true, Bool.true_eq_false, not_true_eq_false, reduceCtorEq]) | simp_all only [Bool.false_eq_true, Bool.true_eq_false, not_true_eq_false, reduceCtorEq]) (by rintro ⟨x1, x2⟩; first | omega | (obtain ⟨x3, x4⟩ := x2; simp_all only [Bool.false_eq_true, Bool.true_eq_false, not_true_eq_false, reduceCtorEq]) | simp_all only [Bool.false_eq_true, Bool.true_eq_false, not_true_eq_false, reduceCtorEq]) (by rintro ⟨x1, x2⟩; first | omega | (obtain ⟨x3, x4⟩ := x2; simp_all only [Bool.false_eq_true, Bool.true_eq_false, not_true_eq_false, reduceCtorEq]) | simp_all only [Bool.false_eq_true, Bool.true_eq_false, not_true_eq_false, reduceCtorEq])]; exact Kret.mk (KO kb b1 b2 s) (.tmp (by rfl) .nil) (by rfl) trivial (HLe.sub (.cons (s := 1060) rfl (CLe.refl _ _) rfl (.cons (s := 1051) rfl (CLe.refl _ _) rfl (.cons (s := 1052) rfl (CLe.refl _ _) rfl .nil)))) ⟨rfl, rfl⟩)
                · skip
                  first | (have f49 : ¬ has o.e.p s.U = false := by rw [isSome_has] at c49; simpa using c49) | (have f49 : ¬ has o.e.p s.T = true := by rw [isSome_has] at c49; simpa using c49)
                  (repeat refine J.seq ?_)
                  refine J.region ?_
                  first | (refine WL.yes (by rfl) (Ex.q (q_fieldAddr (by rfl)) (by rfl) ?_)) | (refine WL.yes (by rfl) (Ex.q (q_fieldAddr_rop (by rfl) (by rfl)) (by rfl) ?_)) | (refine WL.yes (by rfl) (Ex.q (q_fieldAddr_pel (by rfl)) (by rfl) ?_))
                  first | (refine WL.yes (by rfl) (Ex.h (h_load (by rfl) (by rfl) (by rfl)) (by rfl) ?_)) | (refine WL.yes (by rfl) (Ex.q (q_load (by rfl) (by rfl) (by rfl)) (by rfl) ?_)) | (refine WL.yes (by rfl) (Ex.q (q_load_rop (by rfl) (by rfl)) (by rfl) ?_)) | (refine WL.yes (by rfl) (Ex.h (h_load_pel (by rfl) (by rfl) ?_ (by rfl)) (by rfl) ?_); (· omega)) | (refine WL.yes (by rfl) (Ex.q (q_load_pel (by rfl) (by rfl) ?_ (by rfl)) (by rfl) ?_); (· omega))
                  first | (refine WL.yes (by rfl) (Ex.q (q_int (by rfl) (by rfl) (by rfl)) (by rfl) ?_)) | (refine WL.yes (by rfl) (Ex.q (q_eqb (by rfl) (by rfl)) (by rfl) ?_)) | (refine WL.yes (by rfl) (Ex.q (q_eqp rfl rfl (by rfl) (by rfl) ?_) (by rfl) ?_); (· rfl)) | (refine WL.yes (by rfl) (Ex.q (q_eqs (by rfl) (by rfl)) (by rfl) ?_))
                  refine WL.yes (by rfl) (Ex.q (q_move (by rfl)) (by rfl) ?_)
                  refine WL.split 78 (by rfl) (fun g78 => ?_) (fun g78 => ?_)
                  · skip
                    have k3 : o.k = 3 := of_decide_eq_true g78
                    refine WL.yes (by rfl) (Ex.q (q_move (by rfl)) (by rfl) ?_)
                    refine WL.yes (by rfl) (Ex.q (q_pick_t (by rfl) (by rfl)) (by rfl) ?_)
                    refine WL.yes (by rfl) (Ex.q (q_assign (by rfl)) (by rfl) ?_)
                    refine WL.nil ?_
                    (repeat refine J.seq ?_)
                    refine J.cond (by rfl) (fun c74 => ?_) (fun c74 => ?_)
                    · skip
                      have f74 : has o.e.p s.T = true := by rw [isSome_has] at c74; exact c74
                      (repeat refine J.seq ?_)
                      refine J.draw [3, 5, 6, 8, 1060] 5 [(0, true), (1, true), (2, true), (3, true), (4, true), (5, false)] (by kernel_rfl) rfl (by kernel_rfl) ?_
                      intro F6 hF6
                      refine WS.take rfl (by rfl) (by rfl) (q_move (by rfl)) ?_
                      refine WS.take rfl (by rfl) (by rfl) (q_nilCheck (by rfl) (by rfl)) ?_
                      first | (refine WS.take rfl (by rfl) (by rfl) (q_fieldAddr (by rfl)) ?_) | (refine WS.take rfl (by rfl) (by rfl) (q_fieldAddr_rop (by rfl) (by rfl)) ?_) | (refine WS.take rfl (by rfl) (by rfl) (q_fieldAddr_pel (by rfl)) ?_)
                      first | (refine WS.take rfl (by rfl) (by rfl) (q_load (by rfl) (by rfl) (by rfl)) ?_) | (refine WS.take rfl (by rfl) (by rfl) (q_load_rop (by rfl) (by rfl)) ?_) | (refine WS.take rfl (by rfl) (by rfl) (q_load_pel (by rfl) (by rfl) ?_ (by rfl)) ?_; (· omega))
                      first | (refine WS.take rfl (by rfl) (by rfl) (q_load (by rfl) (by rfl) (by rfl)) ?_) | (refine WS.take rfl (by rfl) (by rfl) (q_load_rop (by rfl) (by rfl)) ?_) | (refine WS.take rfl (by rfl) (by rfl) (q_load_pel (by rfl) (by rfl) ?_ (by rfl)) ?_; (· omega))
                      refine WS.last rfl (by rfl) (by rfl) (Ex.delete o.e.p (by rfl) (by rfl) (by rfl) hs.t.keys ho.1 ?_)
                      (repeat refine J.seq ?_)
                      refine J.region ?_
                      refine WL.yes (by rfl) (Ex.q (q_assign (by rfl)) (by rfl) ?_)
                      refine WL.nil ?_
                      (repeat refine J.seq ?_)
                      refine J.ret ?_
                      (repeat (with_reducible first | refine Kseq.ret ?_ | refine Kblock.ret ?_ | refine Kloop.ret ?_))
                      first
                        | (rw [kdo_fail h16]; exact Kret.mk (KO kb b1 b2 { s with n := s.n - 1 }) (.tmp (by rfl) .nil) (by rfl) trivial (HLe.sub (.cons (s := 1060) rfl (CLe.box (by rw [hw])) rfl (.cons (s := 1051) rfl (CLe.refl _ _) rfl (.cons (s := 1052) rfl (CLe.refl _ _) rfl .nil)))) ⟨rfl, rfl⟩)
                        | (rw [kdo_bad h16 h45]; exact Kret.mk (KO kb b1 b2 s) (.tmp (by rfl) .nil) (by rfl) trivial (HLe.sub (.cons (s := 1060) rfl (CLe.refl _ _) rfl (.cons (s := 1051) rfl (CLe.refl _ _) rfl (.cons (s := 1052) rfl (CLe.refl _ _) rfl .nil)))) ⟨rfl, rfl⟩)
                        | (rw [kdo_add h16 h45 k1 t1 f49]; exact Kret.mk (KO kb b1 b2 { s with T := tput o.e s.T }) (.tmp (by rfl) .nil) (by rfl) trivial (HLe.sub (.cons (s := 1060) rfl (CLe.refl _ _) rfl (.cons (s := 1051) rfl (CLe.mp (aput_tput hs.t o.e).symm) rfl (.cons (s := 1052) rfl (CLe.refl _ _) rfl .nil)))) ⟨rfl, rfl⟩)
                        | (rw [kdo_chg h16 h45 k2 f49]; exact Kret.mk (KO kb b1 b2 { s with T := tput o.e s.T }) (.tmp (by rfl) .nil) (by rfl) trivial (HLe.sub (.cons (s := 1060) rfl (CLe.refl _ _) rfl (.cons (s := 1051) rfl (CLe.mp (aput_tput hs.t o.e).symm) rfl (.cons (s := 1052) rfl (CLe.refl _ _) rfl .nil)))) ⟨rfl, rfl⟩)
                        | (rw [kdo_rem h16 h45 k3 f74]; exact Kret.mk (KO kb b1 b2 { s with T := tdel o.e.p s.T }) (.tmp (by rfl) .nil) (by rfl) trivial (HLe.sub (.cons (s := 1060) rfl (CLe.refl _ _) rfl (.cons (s := 1051) rfl (by rw [adel_tdel]; exact CLe.refl _ _) rfl (.cons (s := 1052) rfl (CLe.refl _ _) rfl .nil)))) ⟨rfl, rfl⟩)
                        | (rw [kdo_no h16 h45 (by rintro ⟨x1, x2⟩; first | omega | (obtain ⟨x3, x4⟩ := x2; simp_all only [Bool.false_eq_true, Bool.true_eq_false, not_true_eq_false, reduceCtorEq]) | simp_all only [Bool.false_eq_true, Bool.true_eq_false, not_true_eq_false, reduceCtorEq]) (by rintro ⟨x1, x2⟩; first | omega | (obtain ⟨x3, x4⟩ := x2; simp_all only [Bool.false_eq_true, Bool.true_eq_false, not_true_eq_false, reduceCtorEq]) | simp_all only [Bool.false_eq_true, Bool.true_eq_false, not_true_eq_false, reduceCtorEq]) (by rintro ⟨x1, x2⟩; first | omega | (obtain ⟨x3, x4⟩ := x2; simp_all only [Bool.false_eq_true, Bool.true_eq_false, not_true_eq_false, reduceCtorEq]) | simp_all only [Bool.false_eq_true, Bool.true_eq_false, not_true_eq_false, reduceCtorEq])]; exact Kret.mk (KO kb b1 b2 s) (.tmp (by rfl) .nil) (by rfl) trivial (HLe.sub (.cons (s := 1060) rfl (CLe.refl _ _) rfl (.cons (s := 1051) rfl (CLe.refl _ _) rfl (.cons (s := 1052) rfl (CLe.refl _ _) rfl .nil)))) ⟨rfl, rfl⟩)
                    · skip
                      have f74 : ¬ has o.e.p s.T = true := by rw [isSome_has] at c74; simpa using c74
                      (repeat refine J.seq ?_)
                      refine J.skip ?_
                      (repeat refine J.seq ?_)
                      refine J.region ?_
                      refine WL.yes (by rfl) (Ex.q (q_assign (by rfl)) (by rfl) ?_)
                      refine WL.nil ?_
                      (repeat refine J.seq ?_)
                      refine J.ret ?_
                      (repeat (with_reducible first | refine Kseq.ret ?_ | refine Kblock.ret ?_ | refine Kloop.ret ?_))
                      first
                        | (rw [kdo_fail h16]; exact Kret.mk (KO kb b1 b2 { s with n := s.n - 1 }) (.tmp (by rfl) .nil) (by rfl) trivial (HLe.sub (.cons (s := 1060) rfl (CLe.box (by rw [hw])) rfl (.cons (s := 1051) rfl (CLe.refl _ _) rfl (.cons (s := 1052) rfl (CLe.refl _ _) rfl .nil)))) ⟨rfl, rfl⟩)
                        | (rw [kdo_bad h16 h45]; exact Kret.mk (KO kb b1 b2 s) (.tmp (by rfl) .nil) (by rfl) trivial (HLe.sub (.cons (s := 1060) rfl (CLe.refl _ _) rfl (.cons (s := 1051) rfl (CLe.refl _ _) rfl (.cons (s := 1052) rfl (CLe.refl _ _) rfl .nil)))) ⟨rfl, rfl⟩)
                        | (rw [kdo_add h16 h45 k1 t1 f49]; exact Kret.mk (KO kb b1 b2 { s with T := tput o.e s.T }) (.tmp (by rfl) .nil) (by rfl) trivial (HLe.sub (.cons (s := 1060) rfl (CLe.refl _ _) rfl (.cons (s := 1051) rfl (CLe.mp (aput_tput hs.t o.e).symm) rfl (.cons (s := 1052) rfl (CLe.refl _ _) rfl .nil)))) ⟨rfl, rfl⟩)
                        | (rw [kdo_chg h16 h45 k2 f49]; exact Kret.mk (KO kb b1 b2 { s with T := tput o.e s.T }) (.tmp (by rfl) .nil) (by rfl) trivial (HLe.sub (.cons (s := 1060) rfl (CLe.refl _ _) rfl (.cons (s := 1051) rfl (CLe.mp (aput_tput hs.t o.e).symm) rfl (.cons (s := 1052) rfl (CLe.refl _ _) rfl .nil)))) ⟨rfl, rfl⟩)
                        | (rw [kdo_rem h16 h45 k3 f74]; exact Kret.mk (KO kb b1 b2 { s with T := tdel o.e.p s.T }) (.tmp (by rfl) .nil) (by rfl) trivial (HLe.sub (.cons (s := 1060) rfl (CLe.refl _ _) rfl (.cons (s := 1051) rfl (by rw [adel_tdel]; exact CLe.refl _ _) rfl (.cons (s := 1052) rfl (CLe.refl _ _) rfl .nil)))) ⟨rfl, rfl⟩)
                        | (rw [kdo_no h16 h45 (by rintro ⟨x1, x2⟩; first | omega | (obtain ⟨x3, x4⟩ := x2; simp_all only [Bool.false_eq_true, Bool.true_eq_false, not_true_eq_false, reduceCtorEq]) | simp_all only [Bool.false_eq_true, Bool.true_eq_false, not_true_eq_false, reduceCtorEq]) (by rintro ⟨x1, x2⟩; first | omega | (obtain ⟨x3, x4⟩ := x2; simp_all only [Bool.false_eq_true, Bool.true_eq_false, not_true_eq_false, reduceCtorEq]) | simp_all only [Bool.false_eq_true, Bool.true_eq_false, not_true_eq_false, reduceCtorEq]) (by rintro ⟨x1, x2⟩; first | omega | (obtain ⟨x3, x4⟩ := x2; simp_all only [Bool.false_eq_true, Bool.true_eq_false, not_true_eq_false, reduceCtorEq]) | simp_all only [Bool.false_eq_true, Bool.true_eq_false, not_true_eq_false, reduceCtorEq])]; exact Kret.mk (KO kb b1 b2 s) (.tmp (by rfl) .nil) (by rfl) trivial (HLe.sub (.cons (s := 1060) rfl (CLe.refl _ _) rfl (.cons (s := 1051) rfl (CLe.refl _ _) rfl (.cons (s := 1052) rfl (CLe.refl _ _) rfl .nil)))) ⟨rfl, rfl⟩)
                  · skip
                    have k3 : ¬ o.k = 3 := of_decide_eq_false g78
                    refine WL.no (by rfl) (by rfl) ?_
                    refine WL.yes (by rfl) (Ex.q (q_pick_f (by rfl) (by rfl)) (by rfl) ?_)
                    refine WL.yes (by rfl) (Ex.q (q_assign (by rfl)) (by rfl) ?_)
                    refine WL.nil ?_
                    (repeat refine J.seq ?_)
                    refine J.condF (by rfl) ?_
                    (repeat refine J.seq ?_)
                    refine J.skip ?_
                    (repeat refine J.seq ?_)
                    refine J.region ?_
                    refine WL.yes (by rfl) (Ex.q (q_assign (by rfl)) (by rfl) ?_)
                    refine WL.nil ?_
                    (repeat refine J.seq ?_)
                    refine J.ret ?_
                    (repeat (with_reducible first | refine Kseq.ret ?_ | refine Kblock.ret ?_ | refine Kloop.ret ?_))
                    first
                      | (rw [kdo_fail h16]; exact Kret.mk (KO kb b1 b2 { s with n := s.n - 1 }) (.tmp (by rfl) .nil) (by rfl) trivial (HLe.sub (.cons (s := 1060) rfl (CLe.box (by rw [hw])) rfl (.cons (s := 1051) rfl (CLe.refl _ _) rfl (.cons (s := 1052) rfl (CLe.refl _ _) rfl .nil)))) ⟨rfl, rfl⟩)
                      | (rw [kdo_bad h16 h45]; exact Kret.mk (KO kb b1 b2 s) (.tmp (by rfl) .nil) (by rfl) trivial (HLe.sub (.cons (s := 1060) rfl (CLe.refl _ _) rfl (.cons (s := 1051) rfl (CLe.refl _ _) rfl (.cons (s := 1052) rfl (CLe.refl _ _) rfl .nil)))) ⟨rfl, rfl⟩)
                      | (rw [kdo_add h16 h45 k1 t1 f49]; exact Kret.mk (KO kb b1 b2 { s with T := tput o.e s.T }) (.tmp (by rfl) .nil) (by rfl) trivial (HLe.sub (.cons (s := 1060) rfl (CLe.refl _ _) rfl (.cons (s := 1051) rfl (CLe.mp (aput_tput hs.t o.e).symm) rfl (.cons (s := 1052) rfl (CLe.refl _ _) rfl .nil)))) ⟨rfl, rfl⟩)
                      | (rw [kdo_chg h16 h45 k2 f49]; exact Kret.mk (KO kb b1 b2 { s with T := tput o.e s.T }) (.tmp (by rfl) .nil) (by rfl) trivial (HLe.sub (.cons (s := 1060) rfl (CLe.refl _ _) rfl (.cons (s := 1051) rfl (CLe.mp (aput_tput hs.t o.e).symm) rfl (.cons (s := 1052) rfl (CLe.refl _ _) rfl .nil)))) ⟨rfl, rfl⟩)
                      | (rw [kdo_rem h16 h45 k3 f74]; exact Kret.mk (KO kb b1 b2 { s with T := tdel o.e.p s.T }) (.tmp (by rfl) .nil) (by rfl) trivial (HLe.sub (.cons (s := 1060) rfl (CLe.refl _ _) rfl (.cons (s := 1051) rfl (by rw [adel_tdel]; exact CLe.refl _ _) rfl (.cons (s := 1052) rfl (CLe.refl _ _) rfl .nil)))) ⟨rfl, rfl⟩)
                      | (rw [kdo_no h16 h45 (by rintro ⟨x1, x2⟩; first | omega | (obtain ⟨x3, x4⟩ := x2; simp_all only [Bool.false_eq_true, Bool.true_eq_false, not_true_eq_false, reduceCtorEq]) | simp_all only [Bool.false_eq_true, Bool.true_eq_false, not_true_eq_false, reduceCtorEq]) (by rintro ⟨x1, x2⟩; first | omega | (obtain ⟨x3, x4⟩ := x2; simp_all only [Bool.false_eq_true, Bool.true_eq_false, not_true_eq_false, reduceCtorEq]) | simp_all only [Bool.false_eq_true, Bool.true_eq_false, not_true_eq_false, reduceCtorEq]) (by rintro ⟨x1, x2⟩; first | omega | (obtain ⟨x3, x4⟩ := x2; simp_all only [Bool.false_eq_true, Bool.true_eq_false, not_true_eq_false, reduceCtorEq]) | simp_all only [Bool.false_eq_true, Bool.true_eq_false, not_true_eq_false, reduceCtorEq])]; exact Kret.mk (KO kb b1 b2 s) (.tmp (by rfl) .nil) (by rfl) trivial (HLe.sub (.cons (s := 1060) rfl (CLe.refl _ _) rfl (.cons (s := 1051) rfl (CLe.refl _ _) rfl (.cons (s := 1052) rfl (CLe.refl _ _) rfl .nil)))) ⟨rfl, rfl⟩)
              · skip
                have k2 : ¬ o.k = 2 := of_decide_eq_false g64
                refine WL.no (by rfl) (by rfl) ?_
                refine WL.yes (by rfl) (Ex.q (q_pick_f (by rfl) (by rfl)) (by rfl) ?_)
                refine WL.yes (by rfl) (Ex.q (q_assign (by rfl)) (by rfl) ?_)
                refine WL.nil ?_
                (repeat refine J.seq ?_)
                refine J.condF (by rfl) ?_
                (repeat refine J.seq ?_)
                refine J.region ?_
                first | (refine WL.yes (by rfl) (Ex.q (q_fieldAddr (by rfl)) (by rfl) ?_)) | (refine WL.yes (by rfl) (Ex.q (q_fieldAddr_rop (by rfl) (by rfl)) (by rfl) ?_)) | (refine WL.yes (by rfl) (Ex.q (q_fieldAddr_pel (by rfl)) (by rfl) ?_))
                first | (refine WL.yes (by rfl) (Ex.h (h_load (by rfl) (by rfl) (by rfl)) (by rfl) ?_)) | (refine WL.yes (by rfl) (Ex.q (q_load (by rfl) (by rfl) (by rfl)) (by rfl) ?_)) | (refine WL.yes (by rfl) (Ex.q (q_load_rop (by rfl) (by rfl)) (by rfl) ?_)) | (refine WL.yes (by rfl) (Ex.h (h_load_pel (by rfl) (by rfl) ?_ (by rfl)) (by rfl) ?_); (· omega)) | (refine WL.yes (by rfl) (Ex.q (q_load_pel (by rfl) (by rfl) ?_ (by rfl)) (by rfl) ?_); (· omega))
                first | (refine WL.yes (by rfl) (Ex.q (q_int (by rfl) (by rfl) (by rfl)) (by rfl) ?_)) | (refine WL.yes (by rfl) (Ex.q (q_eqb (by rfl) (by rfl)) (by rfl) ?_)) | (refine WL.yes (by rfl) (Ex.q (q_eqp rfl rfl (by rfl) (by rfl) ?_) (by rfl) ?_); (· rfl)) | (refine WL.yes (by rfl) (Ex.q (q_eqs (by rfl) (by rfl)) (by rfl) ?_))
                refine WL.yes (by rfl) (Ex.q (q_move (by rfl)) (by rfl) ?_)
                refine WL.split 78 (by rfl) (fun g78 => ?_) (fun g78 => ?_)
                · skip
                  have k3 : o.k = 3 := of_decide_eq_true g78
                  refine WL.yes (by rfl) (Ex.q (q_move (by rfl)) (by rfl) ?_)
                  refine WL.yes (by rfl) (Ex.q (q_pick_t (by rfl) (by rfl)) (by rfl) ?_)
                  refine WL.yes (by rfl) (Ex.q (q_assign (by rfl)) (by rfl) ?_)
                  refine WL.nil ?_
                  (repeat refine J.seq ?_)
                  refine J.cond (by rfl) (fun c74 => ?_) (fun c74 => ?_)
                  · skip
                    have f74 : has o.e.p s.T = true := by rw [isSome_has] at c74; exact c74
                    (repeat refine J.seq ?_)
                    refine J.draw [3, 5, 6, 8, 1060] 5 [(0, true), (1, true), (2, true), (3, true), (4, true), (5, false)] (by kernel_rfl) rfl (by kernel_rfl) ?_
                    intro F7 hF7
                    refine WS.take rfl (by rfl) (by rfl) (q_move (by rfl)) ?_
                    refine WS.take rfl (by rfl) (by rfl) (q_nilCheck (by rfl) (by rfl)) ?_
                    first | (refine WS.take rfl (by rfl) (by rfl) (q_fieldAddr (by rfl)) ?_) | (refine WS.take rfl (by rfl) (by rfl) (q_fieldAddr_rop (by rfl) (by rfl)) ?_) | (refine WS.take rfl (by rfl) (by rfl) (q_fieldAddr_pel (by rfl)) ?_)
                    first | (refine WS.take rfl (by rfl) (by rfl) (q_load (by rfl) (by rfl) (by rfl)) ?_) | (refine WS.take rfl (by rfl) (by rfl) (q_load_rop (by rfl) (by rfl)) ?_) | (refine WS.take rfl (by rfl) (by rfl) (q_load_pel (by rfl) (by rfl) ?_ (by rfl)) ?_; (· omega))
                    first | (refine WS.take rfl (by rfl) (by rfl) (q_load (by rfl) (by rfl) (by rfl)) ?_) | (refine WS.take rfl (by rfl) (by rfl) (q_load_rop (by rfl) (by rfl)) ?_) | (refine WS.take rfl (by rfl) (by rfl) (q_load_pel (by rfl) (by rfl) ?_ (by rfl)) ?_; (· omega))
                    refine WS.last rfl (by rfl) (by rfl) (Ex.delete o.e.p (by rfl) (by rfl) (by rfl) hs.t.keys ho.1 ?_)
                    (repeat refine J.seq ?_)
                    refine J.region ?_
                    refine WL.yes (by rfl) (Ex.q (q_assign (by rfl)) (by rfl) ?_)
                    refine WL.nil ?_
                    (repeat refine J.seq ?_)
                    refine J.ret ?_
                    (repeat (with_reducible first | refine Kseq.ret ?_ | refine Kblock.ret ?_ | refine Kloop.ret ?_))
                    first
                      | (rw [kdo_fail h16]; exact Kret.mk (KO kb b1 b2 { s with n := s.n - 1 }) (.tmp (by rfl) .nil) (by rfl) trivial (HLe.sub (.cons (s := 1060) rfl (CLe.box (by rw [hw])) rfl (.cons (s := 1051) rfl (CLe.refl _ _) rfl (.cons (s := 1052) rfl (CLe.refl _ _) rfl .nil)))) ⟨rfl, rfl⟩)
                      | (rw [kdo_bad h16 h45]; exact Kret.mk (KO kb b1 b2 s) (.tmp (by rfl) .nil) (by rfl) trivial (HLe.sub (.cons (s := 1060) rfl (CLe.refl _ _) rfl (.cons (s := 1051) rfl (CLe.refl _ _) rfl (.cons (s := 1052) rfl (CLe.refl _ _) rfl .nil)))) ⟨rfl, rfl⟩)
                      | (rw [kdo_add h16 h45 k1 t1 f49]; exact Kret.mk (KO kb b1 b2 { s with T := tput o.e s.T }) (.tmp (by rfl) .nil) (by rfl) trivial (HLe.sub (.cons (s := 1060) rfl (CLe.refl _ _) rfl (.cons (s := 1051) rfl (CLe.mp (aput_tput hs.t o.e).symm) rfl (.cons (s := 1052) rfl (CLe.refl _ _) rfl .nil)))) ⟨rfl, rfl⟩)
                      | (rw [kdo_chg h16 h45 k2 f49]; exact Kret.mk (KO kb b1 b2 { s with T := tput o.e s.T }) (.tmp (by rfl) .nil) (by rfl) trivial (HLe.sub (.cons (s := 1060) rfl (CLe.refl _ _) rfl (.cons (s := 1051) rfl (CLe.mp (aput_tput hs.t o.e).symm) rfl (.cons (s := 1052) rfl (CLe.refl _ _) rfl .nil)))) ⟨rfl, rfl⟩)
                      | (rw [kdo_rem h16 h45 k3 f74]; exact Kret.mk (KO kb b1 b2 { s with T := tdel o.e.p s.T }) (.tmp (by rfl) .nil) (by rfl) trivial (HLe.sub (.cons (s := 1060) rfl (CLe.refl _ _) rfl (.cons (s := 1051) rfl (by rw [adel_tdel]; exact CLe.refl _ _) rfl (.cons (s := 1052) rfl (CLe.refl _ _) rfl .nil)))) ⟨rfl, rfl⟩)
                      | (rw [kdo_no h16 h45 (by rintro ⟨x1, x2⟩; first | omega | (obtain ⟨x3, x4⟩ := x2; simp_all only [Bool.false_eq_true, Bool.true_eq_false, not_true_eq_false, reduceCtorEq]) | simp_all only [Bool.false_eq_true, Bool.true_eq_false, not_true_eq_false, reduceCtorEq]) (by rintro ⟨x1, x2⟩; first | omega | (obtain ⟨x3, x4⟩ := x2; simp_all only [Bool.false_eq_true, Bool.true_eq_false, not_true_eq_false, reduceCtorEq]) | simp_all only [Bool.false_eq_true, Bool.true_eq_false, not_true_eq_false, reduceCtorEq]) (by rintro ⟨x1, x2⟩; first | omega | (obtain ⟨x3, x4⟩ := x2; simp_all only [Bool.false_eq_true, Bool.true_eq_false, not_true_eq_false, reduceCtorEq]) | simp_all only [Bool.false_eq_true, Bool.true_eq_false, not_true_eq_false, reduceCtorEq])]; exact Kret.mk (KO kb b1 b2 s) (.tmp (by rfl) .nil) (by rfl) trivial (HLe.sub (.cons (s := 1060) rfl (CLe.refl _ _) rfl (.cons (s := 1051) rfl (CLe.refl _ _) rfl (.cons (s := 1052) rfl (CLe.refl _ _) rfl .nil)))) ⟨rfl, rfl⟩)
                  · skip
                    have f74 : ¬ has o.e.p s.T = true := by rw [isSome_has] at c74; simpa using c74
                    (repeat refine J.seq ?_)
                    refine J.skip ?_
                    (repeat refine J.seq ?_)
                    refine J.region ?_
                    refine WL.yes (by rfl) (Ex.q (q_assign (by rfl)) (by rfl) ?_)
                    refine WL.nil ?_
                    (repeat refine J.seq ?_)
                    refine J.ret ?_
                    (repeat (with_reducible first | refine Kseq.ret ?_ | refine Kblock.ret ?_ | refine Kloop.ret ?_))
                    first
                      | (rw [kdo_fail h16]; exact Kret.mk (KO kb b1 b2 { s with n := s.n - 1 }) (.tmp (by rfl) .nil) (by rfl) trivial (HLe.sub (.cons (s := 1060) rfl (CLe.box (by rw [hw])) rfl (.cons (s := 1051) rfl (CLe.refl _ _) rfl (.cons (s := 1052) rfl (CLe.refl _ _) rfl .nil)))) ⟨rfl, rfl⟩)
                      | (rw [kdo_bad h16 h45]; exact Kret.mk (KO kb b1 b2 s) (.tmp (by rfl) .nil) (by rfl) trivial (HLe.sub (.cons (s := 1060) rfl (CLe.refl _ _) rfl (.cons (s := 1051) rfl (CLe.refl _ _) rfl (.cons (s := 1052) rfl (CLe.refl _ _) rfl .nil)))) ⟨rfl, rfl⟩)
                      | (rw [kdo_add h16 h45 k1 t1 f49]; exact Kret.mk (KO kb b1 b2 { s with T := tput o.e s.T }) (.tmp (by rfl) .nil) (by rfl) trivial (HLe.sub (.cons (s := 1060) rfl (CLe.refl _ _) rfl (.cons (s := 1051) rfl (CLe.mp (aput_tput hs.t o.e).symm) rfl (.cons (s := 1052) rfl (CLe.refl _ _) rfl .nil)))) ⟨rfl, rfl⟩)
                      | (rw [kdo_chg h16 h45 k2 f49]; exact Kret.mk (KO kb b1 b2 { s with T := tput o.e s.T }) (.tmp (by rfl) .nil) (by rfl) trivial (HLe.sub (.cons (s := 1060) rfl (CLe.refl _ _) rfl (.cons (s := 1051) rfl (CLe.mp (aput_tput hs.t o.e).symm) rfl (.cons (s := 1052) rfl (CLe.refl _ _) rfl .nil)))) ⟨rfl, rfl⟩)
                      | (rw [kdo_rem h16 h45 k3 f74]; exact Kret.mk (KO kb b1 b2 { s with T := tdel o.e.p s.T }) (.tmp (by rfl) .nil) (by rfl) trivial (HLe.sub (.cons (s := 1060) rfl (CLe.refl _ _) rfl (.cons (s := 1051) rfl (by rw [adel_tdel]; exact CLe.refl _ _) rfl (.cons (s := 1052) rfl (CLe.refl _ _) rfl .nil)))) ⟨rfl, rfl⟩)
                      | (rw [kdo_no h16 h45 (by rintro ⟨x1, x2⟩; first | omega | (obtain ⟨x3, x4⟩ := x2; simp_all only [Bool.false_eq_true, Bool.true_eq_false, not_true_eq_false, reduceCtorEq]) | simp_all only [Bool.false_eq_true, Bool.true_eq_false, not_true_eq_false, reduceCtorEq]) (by rintro ⟨x1, x2⟩; first | omega | (obtain ⟨x3, x4⟩ := x2; simp_all only [Bool.false_eq_true, Bool.true_eq_false, not_true_eq_false, reduceCtorEq]) | simp_all only [Bool.false_eq_true, Bool.true_eq_false, not_true_eq_false, reduceCtorEq]) (by rintro ⟨x1, x2⟩; first | omega | (obtain ⟨x3, x4⟩ := x2; simp_all only [Bool.false_eq_true, Bool.true_eq_false, not_true_eq_false, reduceCtorEq]) | simp_all only [Bool.false_eq_true, Bool.true_eq_false, not_true_eq_false, reduceCtorEq])]; exact Kret.mk (KO kb b1 b2 s) (.tmp (by rfl) .nil) (by rfl) trivial (HLe.sub (.cons (s := 1060) rfl (CLe.refl _ _) rfl (.cons (s := 1051) rfl (CLe.refl _ _) rfl (.cons (s := 1052) rfl (CLe.refl _ _) rfl .nil)))) ⟨rfl, rfl⟩)
                · skip
                  have k3 : ¬ o.k = 3 := of_decide_eq_false g78
                  refine WL.no (by rfl) (by rfl) ?_
                  refine WL.yes (by rfl) (Ex.q (q_pick_f (by rfl) (by rfl)) (by rfl) ?_)
                  refine WL.yes (by rfl) (Ex.q (q_assign (by rfl)) (by rfl) ?_)
                  refine WL.nil ?_
                  (repeat refine J.seq ?_)
                  refine J.condF (by rfl) ?_
                  (repeat refine J.seq ?_)
                  refine J.skip ?_
                  (repeat refine J.seq ?_)
                  refine J.region ?_
                  refine WL.yes (by rfl) (Ex.q (q_assign (by rfl)) (by rfl) ?_)
                  refine WL.nil ?_
                  (repeat refine J.seq ?_)
                  refine J.ret ?_
                  (repeat (with_reducible first | refine Kseq.ret ?_ | refine Kblock.ret ?_ | refine Kloop.ret ?_))
                  first
                    | (rw [kdo_fail h16]; exact Kret.mk (KO kb b1 b2 { s with n := s.n - 1 }) (.tmp (by rfl) .nil) (by rfl) trivial (HLe.sub (.cons (s := 1060) rfl (CLe.box (by rw [hw])) rfl (.cons (s := 1051) rfl (CLe.refl _ _) rfl (.cons (s := 1052) rfl (CLe.refl _ _) rfl .nil)))) ⟨rfl, rfl⟩)
                    | (rw [kdo_bad h16 h45]; exact Kret.mk (KO kb b1 b2 s) (.tmp (by rfl) .nil) (by rfl) trivial (HLe.sub (.cons (s := 1060) rfl (CLe.refl _ _) rfl (.cons (s := 1051) rfl (CLe.refl _ _) rfl (.cons (s := 1052) rfl (CLe.refl _ _) rfl .nil)))) ⟨rfl, rfl⟩)
                    | (rw [kdo_add h16 h45 k1 t1 f49]; exact Kret.mk (KO kb b1 b2 { s with T := tput o.e s.T }) (.tmp (by rfl) .nil) (by rfl) trivial (HLe.sub (.cons (s := 1060) rfl (CLe.refl _ _) rfl (.cons (s := 1051) rfl (CLe.mp (aput_tput hs.t o.e).symm) rfl (.cons (s := 1052) rfl (CLe.refl _ _) rfl .nil)))) ⟨rfl, rfl⟩)
                    | (rw [kdo_chg h16 h45 k2 f49]; exact Kret.mk (KO kb b1 b2 { s with T := tput o.e s.T }) (.tmp (by rfl) .nil) (by rfl) trivial (HLe.sub (.cons (s := 1060) rfl (CLe.refl _ _) rfl (.cons (s := 1051) rfl (CLe.mp (aput_tput hs.t o.e).symm) rfl (.cons (s := 1052) rfl (CLe.refl _ _) rfl .nil)))) ⟨rfl, rfl⟩)
                    | (rw [kdo_rem h16 h45 k3 f74]; exact Kret.mk (KO kb b1 b2 { s with T := tdel o.e.p s.T }) (.tmp (by rfl) .nil) (by rfl) trivial (HLe.sub (.cons (s := 1060) rfl (CLe.refl _ _) rfl (.cons (s := 1051) rfl (by rw [adel_tdel]; exact CLe.refl _ _) rfl (.cons (s := 1052) rfl (CLe.refl _ _) rfl .nil)))) ⟨rfl, rfl⟩)
                    | (rw [kdo_no h16 h45 (by rintro ⟨x1, x2⟩; first | omega | (obtain ⟨x3, x4⟩ := x2; simp_all only [Bool.false_eq_true, Bool.true_eq_false, not_true_eq_false, reduceCtorEq]) | simp_all only [Bool.false_eq_true, Bool.true_eq_false, not_true_eq_false, reduceCtorEq]) (by rintro ⟨x1, x2⟩; first | omega | (obtain ⟨x3, x4⟩ := x2; simp_all only [Bool.false_eq_true, Bool.true_eq_false, not_true_eq_false, reduceCtorEq]) | simp_all only [Bool.false_eq_true, Bool.true_eq_false, not_true_eq_false, reduceCtorEq]) (by rintro ⟨x1, x2⟩; first | omega | (obtain ⟨x3, x4⟩ := x2; simp_all only [Bool.false_eq_true, Bool.true_eq_false, not_true_eq_false, reduceCtorEq]) | simp_all only [Bool.false_eq_true, Bool.true_eq_false, not_true_eq_false, reduceCtorEq])]; exact Kret.mk (KO kb b1 b2 s) (.tmp (by rfl) .nil) (by rfl) trivial (HLe.sub (.cons (s := 1060) rfl (CLe.refl _ _) rfl (.cons (s := 1051) rfl (CLe.refl _ _) rfl (.cons (s := 1052) rfl (CLe.refl _ _) rfl .nil)))) ⟨rfl, rfl⟩)
          · skip
            have t1 : ¬ has o.e.p s.T = false := by rw [isSome_has] at g57; simpa using g57
            refine WL.no (by rfl) (by rfl) ?_
            refine WL.no (by rfl) (by rfl) ?_
            refine WL.yes (by rfl) (Ex.q (q_pick_f (by rfl) (by rfl)) (by rfl) ?_)
            refine WL.yes (by rfl) (Ex.q (q_assign (by rfl)) (by rfl) ?_)
            refine WL.nil ?_
            (repeat refine J.seq ?_)
            refine J.condF (by rfl) ?_
            (repeat refine J.seq ?_)
            refine J.region ?_
            first | (refine WL.yes (by rfl) (Ex.q (q_fieldAddr (by rfl)) (by rfl) ?_)) | (refine WL.yes (by rfl) (Ex.q (q_fieldAddr_rop (by rfl) (by rfl)) (by rfl) ?_)) | (refine WL.yes (by rfl) (Ex.q (q_fieldAddr_pel (by rfl)) (by rfl) ?_))
            first | (refine WL.yes (by rfl) (Ex.h (h_load (by rfl) (by rfl) (by rfl)) (by rfl) ?_)) | (refine WL.yes (by rfl) (Ex.q (q_load (by rfl) (by rfl) (by rfl)) (by rfl) ?_)) | (refine WL.yes (by rfl) (Ex.q (q_load_rop (by rfl) (by rfl)) (by rfl) ?_)) | (refine WL.yes (by rfl) (Ex.h (h_load_pel (by rfl) (by rfl) ?_ (by rfl)) (by rfl) ?_); (· omega)) | (refine WL.yes (by rfl) (Ex.q (q_load_pel (by rfl) (by rfl) ?_ (by rfl)) (by rfl) ?_); (· omega))
            first | (refine WL.yes (by rfl) (Ex.q (q_int (by rfl) (by rfl) (by rfl)) (by rfl) ?_)) | (refine WL.yes (by rfl) (Ex.q (q_eqb (by rfl) (by rfl)) (by rfl) ?_)) | (refine WL.yes (by rfl) (Ex.q (q_eqp rfl rfl (by rfl) (by rfl) ?_) (by rfl) ?_); (· rfl)) | (refine WL.yes (by rfl) (Ex.q (q_eqs (by rfl) (by rfl)) (by rfl) ?_))
            refine WL.yes (by rfl) (Ex.q (q_move (by rfl)) (by rfl) ?_)
            refine WL.split 64 (by rfl) (fun g64 => ?_) (fun g64 => ?_)
            · skip
              have k2 : o.k = 2 := of_decide_eq_true g64
              refine WL.yes (by rfl) (Ex.q (q_move (by rfl)) (by rfl) ?_)
              refine WL.yes (by rfl) (Ex.q (q_pick_t (by rfl) (by rfl)) (by rfl) ?_)
              refine WL.yes (by rfl) (Ex.q (q_assign (by rfl)) (by rfl) ?_)
              refine WL.nil ?_
              (repeat refine J.seq ?_)
              refine J.cond (by rfl) (fun c49 => ?_) (fun c49 => ?_)
              · skip
                first | (have f49 : has o.e.p s.U = false := by rw [isSome_has] at c49; simpa using c49) | (have f49 : has o.e.p s.T = true := by rw [isSome_has] at c49; exact c49)
                (repeat refine J.seq ?_)
                refine J.draw [3, 5, 6, 8, 1060] 7 [(0, true), (1, true), (2, true), (3, true), (4, true), (5, true), (6, true), (7, false)] (by kernel_rfl) rfl (by kernel_rfl) ?_
                intro F8 hF8
                refine WS.take rfl (by rfl) (by rfl) (q_move (by rfl)) ?_
                refine WS.take rfl (by rfl) (by rfl) (q_nilCheck (by rfl) (by rfl)) ?_
                first | (refine WS.take rfl (by rfl) (by rfl) (q_fieldAddr (by rfl)) ?_) | (refine WS.take rfl (by rfl) (by rfl) (q_fieldAddr_rop (by rfl) (by rfl)) ?_) | (refine WS.take rfl (by rfl) (by rfl) (q_fieldAddr_pel (by rfl)) ?_)
                first | (refine WS.take rfl (by rfl) (by rfl) (q_load (by rfl) (by rfl) (by rfl)) ?_) | (refine WS.take rfl (by rfl) (by rfl) (q_load_rop (by rfl) (by rfl)) ?_) | (refine WS.take rfl (by rfl) (by rfl) (q_load_pel (by rfl) (by rfl) ?_ (by rfl)) ?_; (· omega))
                first | (refine WS.take rfl (by rfl) (by rfl) (q_load (by rfl) (by rfl) (by rfl)) ?_) | (refine WS.take rfl (by rfl) (by rfl) (q_load_rop (by rfl) (by rfl)) ?_) | (refine WS.take rfl (by rfl) (by rfl) (q_load_pel (by rfl) (by rfl) ?_ (by rfl)) ?_; (· omega))
                first | (refine WS.take rfl (by rfl) (by rfl) (q_fieldAddr (by rfl)) ?_) | (refine WS.take rfl (by rfl) (by rfl) (q_fieldAddr_rop (by rfl) (by rfl)) ?_) | (refine WS.take rfl (by rfl) (by rfl) (q_fieldAddr_pel (by rfl)) ?_)
                first | (refine WS.take rfl (by rfl) (by rfl) (q_load (by rfl) (by rfl) (by rfl)) ?_) | (refine WS.take rfl (by rfl) (by rfl) (q_load_rop (by rfl) (by rfl)) ?_) | (refine WS.take rfl (by rfl) (by rfl) (q_load_pel (by rfl) (by rfl) ?_ (by rfl)) ?_; (· omega))
                refine WS.last rfl (by rfl) (by rfl) (Ex.mapUpdate o.e.p o.e (by rfl) (by rfl) (by rfl) (by rfl) hs.t.keys ho.1 ?_)
                (repeat refine J.seq ?_)
                refine J.region ?_
                refine WL.yes (by rfl) (Ex.q (q_assign (by rfl)) (by rfl) ?_)
                refine WL.nil ?_
                (repeat refine J.seq ?_)
                refine J.ret ?_
                (repeat (with_reducible first | refine Kseq.ret ?_ | refine Kblock.ret ?_ | refine Kloop.ret ?_))
                first
                  | (rw [kdo_fail h16]; exact Kret.mk (KO kb b1 b2 { s with n := s.n - 1 }) (.tmp (by rfl) .nil) (by rfl) trivial (HLe.sub (.cons (s := 1060) rfl (CLe.box (by rw [hw])) rfl (.cons (s := 1051) rfl (CLe.refl _ _) rfl (.cons (s := 1052) rfl (CLe.refl _ _) rfl .nil)))) ⟨rfl, rfl⟩)
                  | (rw [kdo_bad h16 h45]; exact Kret.mk (KO kb b1 b2 s) (.tmp (by rfl) .nil) (by rfl) trivial (HLe.sub (.cons (s := 1060) rfl (CLe.refl _ _) rfl (.cons (s := 1051) rfl (CLe.refl _ _) rfl (.cons (s := 1052) rfl (CLe.refl _ _) rfl .nil)))) ⟨rfl, rfl⟩)
                  | (rw [kdo_add h16 h45 k1 t1 f49]; exact Kret.mk (KO kb b1 b2 { s with T := tput o.e s.T }) (.tmp (by rfl) .nil) (by rfl) trivial (HLe.sub (.cons (s := 1060) rfl (CLe.refl _ _) rfl (.cons (s := 1051) rfl (CLe.mp (aput_tput hs.t o.e).symm) rfl (.cons (s := 1052) rfl (CLe.refl _ _) rfl .nil)))) ⟨rfl, rfl⟩)
                  | (rw [kdo_chg h16 h45 k2 f49]; exact Kret.mk (KO kb b1 b2 { s with T := tput o.e s.T }) (.tmp (by rfl) .nil) (by rfl) trivial (HLe.sub (.cons (s := 1060) rfl (CLe.refl _ _) rfl (.cons (s := 1051) rfl (CLe.mp (aput_tput hs.t o.e).symm) rfl (.cons (s := 1052) rfl (CLe.refl _ _) rfl .nil)))) ⟨rfl, rfl⟩)
                  | (rw [kdo_rem h16 h45 k3 f74]; exact Kret.mk (KO kb b1 b2 { s with T := tdel o.e.p s.T }) (.tmp (by rfl) .nil) (by rfl) trivial (HLe.sub (.cons (s := 1060) rfl (CLe.refl _ _) rfl (.cons (s := 1051) rfl (by rw [adel_tdel]; exact CLe.refl _ _) rfl (.cons (s := 1052) rfl (CLe.refl _ _) rfl .nil)))) ⟨rfl, rfl⟩)
                  | (rw [kdo_no h16 h45 (by rintro ⟨x1, x2⟩; first | omega | (obtain ⟨x3, x4⟩ := x2; simp_all only [Bool.false_eq_true, Bool.true_eq_false, not_true_eq_false, reduceCtorEq]) | simp_all only [Bool.false_eq_true, Bool.true_eq_false, not_true_eq_false, reduceCtorEq]) (by rintro ⟨x1, x2⟩; first | omega | (obtain ⟨x3, x4⟩ := x2; simp_all only [Bool.false_eq_true, Bool.true_eq_false, not_true_eq_false, reduceCtorEq]) | simp_all only [Bool.false_eq_true, Bool.true_eq_false, not_true_eq_false, reduceCtorEq]) (by rintro ⟨x1, x2⟩; first | omega | (obtain ⟨x3, x4⟩ := x2; simp_all only [Bool.false_eq_true, Bool.true_eq_false, not_true_eq_false, reduceCtorEq]) | simp_all only [Bool.false_eq_true, Bool.true_eq_false, not_true_eq_false, reduceCtorEq])]; exact Kret.mk (KO kb b1 b2 s) (.tmp (by rfl) .nil) (by rfl) trivial (HLe.sub (.cons (s := 1060) rfl (CLe.refl _ _) rfl (.cons (s := 1051) rfl (CLe.refl _ _) rfl (.cons (s := 1052) rfl (CLe.refl _ _) rfl .nil)))) ⟨rfl, rfl⟩)
              · skip
                first | (have f49 : ¬ has o.e.p s.U = false := by rw [isSome_has] at c49; simpa using c49) | (have f49 : ¬ has o.e.p s.T = true := by rw [isSome_has] at c49; simpa using c49)
                (repeat refine J.seq ?_)
                refine J.region ?_
                first | (refine WL.yes (by rfl) (Ex.q (q_fieldAddr (by rfl)) (by rfl) ?_)) | (refine WL.yes (by rfl) (Ex.q (q_fieldAddr_rop (by rfl) (by rfl)) (by rfl) ?_)) | (refine WL.yes (by rfl) (Ex.q (q_fieldAddr_pel (by rfl)) (by rfl) ?_))
                first | (refine WL.yes (by rfl) (Ex.h (h_load (by rfl) (by rfl) (by rfl)) (by rfl) ?_)) | (refine WL.yes (by rfl) (Ex.q (q_load (by rfl) (by rfl) (by rfl)) (by rfl) ?_)) | (refine WL.yes (by rfl) (Ex.q (q_load_rop (by rfl) (by rfl)) (by rfl) ?_)) | (refine WL.yes (by rfl) (Ex.h (h_load_pel (by rfl) (by rfl) ?_ (by rfl)) (by rfl) ?_); (· omega)) | (refine WL.yes (by rfl) (Ex.q (q_load_pel (by rfl) (by rfl) ?_ (by rfl)) (by rfl) ?_); (· omega))
                first | (refine WL.yes (by rfl) (Ex.q (q_int (by rfl) (by rfl) (by rfl)) (by rfl) ?_)) | (refine WL.yes (by rfl) (Ex.q (q_eqb (by rfl) (by rfl)) (by rfl) ?_)) | (refine WL.yes (by rfl) (Ex.q (q_eqp rfl rfl (by rfl) (by rfl) ?_) (by rfl) ?_); (· rfl)) | (refine WL.yes (by rfl) (Ex.q (q_eqs (by rfl) (by rfl)) (by rfl) ?_))
                refine WL.yes (by rfl) (Ex.q (q_move (by rfl)) (by rfl) ?_)
                refine WL.split 78 (by rfl) (fun g78 => ?_) (fun g78 => ?_)
                · skip
                  have k3 : o.k = 3 := of_decide_eq_true g78
                  refine WL.yes (by rfl) (Ex.q (q_move (by rfl)) (by rfl) ?_)
                  refine WL.yes (by rfl) (Ex.q (q_pick_t (by rfl) (by rfl)) (by rfl) ?_)
                  refine WL.yes (by rfl) (Ex.q (q_assign (by rfl)) (by rfl) ?_)
                  refine WL.nil ?_
                  (repeat refine J.seq ?_)
                  refine J.cond (by rfl) (fun c74 => ?_) (fun c74 => ?_)
                  · skip
                    have f74 : has o.e.p s.T = true := by rw [isSome_has] at c74; exact c74
                    (repeat refine J.seq ?_)
                    refine J.draw [3, 5, 6, 8, 1060] 5 [(0, true), (1, true), (2, true), (3, true), (4, true), (5, false)] (by kernel_rfl) rfl (by kernel_rfl) ?_
                    intro F9 hF9
                    refine WS.take rfl (by rfl) (by rfl) (q_move (by rfl)) ?_
                    refine WS.take rfl (by rfl) (by rfl) (q_nilCheck (by rfl) (by rfl)) ?_
                    first | (refine WS.take rfl (by rfl) (by rfl) (q_fieldAddr (by rfl)) ?_) | (refine WS.take rfl (by rfl) (by rfl) (q_fieldAddr_rop (by rfl) (by rfl)) ?_) | (refine WS.take rfl (by rfl) (by rfl) (q_fieldAddr_pel (by rfl)) ?_)
                    first | (refine WS.take rfl (by rfl) (by rfl) (q_load (by rfl) (by rfl) (by rfl)) ?_) | (refine WS.take rfl (by rfl) (by rfl) (q_load_rop (by rfl) (by rfl)) ?_) | (refine WS.take rfl (by rfl) (by rfl) (q_load_pel (by rfl) (by rfl) ?_ (by rfl)) ?_; (· omega))
                    first | (refine WS.take rfl (by rfl) (by rfl) (q_load (by rfl) (by rfl) (by rfl)) ?_) | (refine WS.take rfl (by rfl) (by rfl) (q_load_rop (by rfl) (by rfl)) ?_) | (refine WS.take rfl (by rfl) (by rfl) (q_load_pel (by rfl) (by rfl) ?_ (by rfl)) ?_; (· omega))
                    refine WS.last rfl (by rfl) (by rfl) (Ex.delete o.e.p (by rfl) (by rfl) (by rfl) hs.t.keys ho.1 ?_)
                    (repeat refine J.seq ?_)
                    refine J.region ?_
                    refine WL.yes (by rfl) (Ex.q (q_assign (by rfl)) (by rfl) ?_)
                    refine WL.nil ?_
                    (repeat refine J.seq ?_)
                    refine J.ret ?_
                    (repeat (with_reducible first | refine Kseq.ret ?_ | refine Kblock.ret ?_ | refine Kloop.ret ?_))
                    first
                      | (rw [kdo_fail h16]; exact Kret.mk (KO kb b1 b2 { s with n := s.n - 1 }) (.tmp (by rfl) .nil) (by rfl) trivial (HLe.sub (.cons (s := 1060) rfl (CLe.box (by rw [hw])) rfl (.cons (s := 1051) rfl (CLe.refl _ _) rfl (.cons (s := 1052) rfl (CLe.refl _ _) rfl .nil)))) ⟨rfl, rfl⟩)
                      | (rw [kdo_bad h16 h45]; exact Kret.mk (KO kb b1 b2 s) (.tmp (by rfl) .nil) (by rfl) trivial (HLe.sub (.cons (s := 1060) rfl (CLe.refl _ _) rfl (.cons (s := 1051) rfl (CLe.refl _ _) rfl (.cons (s := 1052) rfl (CLe.refl _ _) rfl .nil)))) ⟨rfl, rfl⟩)
                      | (rw [kdo_add h16 h45 k1 t1 f49]; exact Kret.mk (KO kb b1 b2 { s with T := tput o.e s.T }) (.tmp (by rfl) .nil) (by rfl) trivial (HLe.sub (.cons (s := 1060) rfl (CLe.refl _ _) rfl (.cons (s := 1051) rfl (CLe.mp (aput_tput hs.t o.e).symm) rfl (.cons (s := 1052) rfl (CLe.refl _ _) rfl .nil)))) ⟨rfl, rfl⟩)
                      | (rw [kdo_chg h16 h45 k2 f49]; exact Kret.mk (KO kb b1 b2 { s with T := tput o.e s.T }) (.tmp (by rfl) .nil) (by rfl) trivial (HLe.sub (.cons (s := 1060) rfl (CLe.refl _ _) rfl (.cons (s := 1051) rfl (CLe.mp (aput_tput hs.t o.e).symm) rfl (.cons (s := 1052) rfl (CLe.refl _ _) rfl .nil)))) ⟨rfl, rfl⟩)
                      | (rw [kdo_rem h16 h45 k3 f74]; exact Kret.mk (KO kb b1 b2 { s with T := tdel o.e.p s.T }) (.tmp (by rfl) .nil) (by rfl) trivial (HLe.sub (.cons (s := 1060) rfl (CLe.refl _ _) rfl (.cons (s := 1051) rfl (by rw [adel_tdel]; exact CLe.refl _ _) rfl (.cons (s := 1052) rfl (CLe.refl _ _) rfl .nil)))) ⟨rfl, rfl⟩)
                      | (rw [kdo_no h16 h45 (by rintro ⟨x1, x2⟩; first | omega | (obtain ⟨x3, x4⟩ := x2; simp_all only [Bool.false_eq_true, Bool.true_eq_false, not_true_eq_false, reduceCtorEq]) | simp_all only [Bool.false_eq_true, Bool.true_eq_false, not_true_eq_false, reduceCtorEq]) (by rintro ⟨x1, x2⟩; first | omega | (obtain ⟨x3, x4⟩ := x2; simp_all only [Bool.false_eq_true, Bool.true_eq_false, not_true_eq_false, reduceCtorEq]) | simp_all only [Bool.false_eq_true, Bool.true_eq_false, not_true_eq_false, reduceCtorEq]) (by rintro ⟨x1, x2⟩; first | omega | (obtain ⟨x3, x4⟩ := x2; simp_all only [Bool.false_eq_true, Bool.true_eq_false, not_true_eq_false, reduceCtorEq]) | simp_all only [Bool.false_eq_true, Bool.true_eq_false, not_true_eq_false, reduceCtorEq])]; exact Kret.mk (KO kb b1 b2 s) (.tmp (by rfl) .nil) (by rfl) trivial (HLe.sub (.cons (s := 1060) rfl (CLe.refl _ _) rfl (.cons (s := 1051) rfl (CLe.refl _ _) rfl (.cons (s := 1052) rfl (CLe.refl _ _) rfl .nil)))) ⟨rfl, rfl⟩)
                  · skip
                    have f74 : ¬ has o.e.p s.T = true := by rw [isSome_has] at c74; simpa using c74
                    (repeat refine J.seq ?_)
                    refine J.skip ?_
                    (repeat refine J.seq ?_)
                    refine J.region ?_
                    refine WL.yes (by rfl) (Ex.q (q_assign (by rfl)) (by rfl) ?_)
                    refine WL.nil ?_
                    (repeat refine J.seq ?_)
                    refine J.ret ?_
                    (repeat (with_reducible first | refine Kseq.ret ?_ | refine Kblock.ret ?_ | refine Kloop.ret ?_))
                    first
                      | (rw [kdo_fail h16]; exact Kret.mk (KO kb b1 b2 { s with n := s.n - 1 }) (.tmp (by rfl) .nil) (by rfl) trivial (HLe.sub (.cons (s := 1060) rfl (CLe.box (by rw [hw])) rfl (.cons (s := 1051) rfl (CLe.refl _ _) rfl (.cons (s := 1052) rfl (CLe.refl _ _) rfl .nil)))) ⟨rfl, rfl⟩)
                      | (rw [kdo_bad h16 h45]; exact Kret.mk (KO kb b1 b2 s) (.tmp (by rfl) .nil) (by rfl) trivial (HLe.sub (.cons (s := 1060) rfl (CLe.refl _ _) rfl (.cons (s := 1051) rfl (CLe.refl _ _) rfl (.cons (s := 1052) rfl (CLe.refl _ _) rfl .nil)))) ⟨rfl, rfl⟩)
                      | (rw [kdo_add h16 h45 k1 t1 f49]; exact Kret.mk (KO kb b1 b2 { s with T := tput o.e s.T }) (.tmp (by rfl) .nil) (by rfl) trivial (HLe.sub (.cons (s := 1060) rfl (CLe.refl _ _) rfl (.cons (s := 1051) rfl (CLe.mp (aput_tput hs.t o.e).symm) rfl (.cons (s := 1052) rfl (CLe.refl _ _) rfl .nil)))) ⟨rfl, rfl⟩)
                      | (rw [kdo_chg h16 h45 k2 f49]; exact Kret.mk (KO kb b1 b2 { s with T := tput o.e s.T }) (.tmp (by rfl) .nil) (by rfl) trivial (HLe.sub (.cons (s := 1060) rfl (CLe.refl _ _) rfl (.cons (s := 1051) rfl (CLe.mp (aput_tput hs.t o.e).symm) rfl (.cons (s := 1052) rfl (CLe.refl _ _) rfl .nil)))) ⟨rfl, rfl⟩)
                      | (rw [kdo_rem h16 h45 k3 f74]; exact Kret.mk (KO kb b1 b2 { s with T := tdel o.e.p s.T }) (.tmp (by rfl) .nil) (by rfl) trivial (HLe.sub (.cons (s := 1060) rfl (CLe.refl _ _) rfl (.cons (s := 1051) rfl (by rw [adel_tdel]; exact CLe.refl _ _) rfl (.cons (s := 1052) rfl (CLe.refl _ _) rfl .nil)))) ⟨rfl, rfl⟩)
                      | (rw [kdo_no h16 h45 (by rintro ⟨x1, x2⟩; first | omega | (obtain ⟨x3, x4⟩ := x2; simp_all only [Bool.false_eq_true, Bool.true_eq_false, not_true_eq_false, reduceCtorEq]) | simp_all only [Bool.false_eq_true, Bool.true_eq_false, not_true_eq_false, reduceCtorEq]) (by rintro ⟨x1, x2⟩; first | omega | (obtain ⟨x3, x4⟩ := x2; simp_all only [Bool.false_eq_true, Bool.true_eq_false, not_true_eq_false, reduceCtorEq]) | simp_all only [Bool.false_eq_true, Bool.true_eq_false, not_true_eq_false, reduceCtorEq]) (by rintro ⟨x1, x2⟩; first | omega | (obtain ⟨x3, x4⟩ := x2; simp_all only [Bool.false_eq_true, Bool.true_eq_false, not_true_eq_false, reduceCtorEq]) | simp_all only [Bool.false_eq_true, Bool.true_eq_false, not_true_eq_false, reduceCtorEq])]; exact Kret.mk (KO kb b1 b2 s) (.tmp (by rfl) .nil) (by rfl) trivial (HLe.sub (.cons (s := 1060) rfl (CLe.refl _ _) rfl (.cons (s := 1051) rfl (CLe.refl _ _) rfl (.cons (s := 1052) rfl (CLe.refl _ _) rfl .nil)))) ⟨rfl, rfl⟩)
                · skip
                  have k3 : ¬ o.k = 3 := of_decide_eq_false g78
                  refine WL.no (by rfl) (by rfl) ?_
                  refine WL.yes (by rfl) (Ex.q (q_pick_f (by rfl) (by rfl)) (by rfl) ?_)
                  refine WL.yes (by rfl) (Ex.q (q_assign (by rfl)) (by rfl) ?_)
                  refine WL.nil ?_
                  (repeat refine J.seq ?_)
                  refine J.condF (by rfl) ?_
                  (repeat refine J.seq ?_)
                  refine J.skip ?_
                  (repeat refine J.seq ?_)
                  refine J.region ?_
                  refine WL.yes (by rfl) (Ex.q (q_assign (by rfl)) (by rfl) ?_)
                  refine WL.nil ?_
                  (repeat refine J.seq ?_)
                  refine J.ret ?_
                  (repeat (with_reducible first | refine Kseq.ret ?_ | refine Kblock.ret ?_ | refine Kloop.ret ?_))
                  first
                    | (rw [kdo_fail h16]; exact Kret.mk (KO kb b1 b2 { s with n := s.n - 1 }) (.tmp (by rfl) .nil) (by rfl) trivial (HLe.sub (.cons (s := 1060) rfl (CLe.box (by rw [hw])) rfl (.cons (s := 1051) rfl (CLe.refl _ _) rfl (.cons (s := 1052) rfl (CLe.refl _ _) rfl .nil)))) ⟨rfl, rfl⟩)
                    | (rw [kdo_bad h16 h45]; exact Kret.mk (KO kb b1 b2 s) (.tmp (by rfl) .nil) (by rfl) trivial (HLe.sub (.cons (s := 1060) rfl (CLe.refl _ _) rfl (.cons (s := 1051) rfl (CLe.refl _ _) rfl (.cons (s := 1052) rfl (CLe.refl _ _) rfl .nil)))) ⟨rfl, rfl⟩)
                    | (rw [kdo_add h16 h45 k1 t1 f49]; exact Kret.mk (KO kb b1 b2 { s with T := tput o.e s.T }) (.tmp (by rfl) .nil) (by rfl) trivial (HLe.sub (.cons (s := 1060) rfl (CLe.refl _ _) rfl (.cons (s := 1051) rfl (CLe.mp (aput_tput hs.t o.e).symm) rfl (.cons (s := 1052) rfl (CLe.refl _ _) rfl .nil)))) ⟨rfl, rfl⟩)
                    | (rw [kdo_chg h16 h45 k2 f49]; exact Kret.mk (KO kb b1 b2 { s with T := tput o.e s.T }) (.tmp (by rfl) .nil) (by rfl) trivial (HLe.sub (.cons (s := 1060) rfl (CLe.refl _ _) rfl (.cons (s := 1051) rfl (CLe.mp (aput_tput hs.t o.e).symm) rfl (.cons (s := 1052) rfl (CLe.refl _ _) rfl .nil)))) ⟨rfl, rfl⟩)
                    | (rw [kdo_rem h16 h45 k3 f74]; exact Kret.mk (KO kb b1 b2 { s with T := tdel o.e.p s.T }) (.tmp (by rfl) .nil) (by rfl) trivial (HLe.sub (.cons (s := 1060) rfl (CLe.refl _ _) rfl (.cons (s := 1051) rfl (by rw [adel_tdel]; exact CLe.refl _ _) rfl (.cons (s := 1052) rfl (CLe.refl _ _) rfl .nil)))) ⟨rfl, rfl⟩)
                    | (rw [kdo_no h16 h45 (by rintro ⟨x1, x2⟩; first | omega | (obtain ⟨x3, x4⟩ := x2; simp_all only [Bool.false_eq_true, Bool.true_eq_false, not_true_eq_false, reduceCtorEq]) | simp_all only [Bool.false_eq_true, Bool.true_eq_false, not_true_eq_false, reduceCtorEq]) (by rintro ⟨x1, x2⟩; first | omega | (obtain ⟨x3, x4⟩ := x2; simp_all only [Bool.false_eq_true, Bool.true_eq_false, not_true_eq_false, reduceCtorEq]) | simp_all only [Bool.false_eq_true, Bool.true_eq_false, not_true_eq_false, reduceCtorEq]) (by rintro ⟨x1, x2⟩; first | omega | (obtain ⟨x3, x4⟩ := x2; simp_all only [Bool.false_eq_true, Bool.true_eq_false, not_true_eq_false, reduceCtorEq]) | simp_all only [Bool.false_eq_true, Bool.true_eq_false, not_true_eq_false, reduceCtorEq])]; exact Kret.mk (KO kb b1 b2 s) (.tmp (by rfl) .nil) (by rfl) trivial (HLe.sub (.cons (s := 1060) rfl (CLe.refl _ _) rfl (.cons (s := 1051) rfl (CLe.refl _ _) rfl (.cons (s := 1052) rfl (CLe.refl _ _) rfl .nil)))) ⟨rfl, rfl⟩)
            · skip
              have k2 : ¬ o.k = 2 := of_decide_eq_false g64
              refine WL.no (by rfl) (by rfl) ?_
              refine WL.yes (by rfl) (Ex.q (q_pick_f (by rfl) (by rfl)) (by rfl) ?_)
              refine WL.yes (by rfl) (Ex.q (q_assign (by rfl)) (by rfl) ?_)
              refine WL.nil ?_
              (repeat refine J.seq ?_)
              refine J.condF (by rfl) ?_
              (repeat refine J.seq ?_)
              refine J.region ?_
              first | (refine WL.yes (by rfl) (Ex.q (q_fieldAddr (by rfl)) (by rfl) ?_)) | (refine WL.yes (by rfl) (Ex.q (q_fieldAddr_rop (by rfl) (by rfl)) (by rfl) ?_)) | (refine WL.yes (by rfl) (Ex.q (q_fieldAddr_pel (by rfl)) (by rfl) ?_))
              first | (refine WL.yes (by rfl) (Ex.h (h_load (by rfl) (by rfl) (by rfl)) (by rfl) ?_)) | (refine WL.yes (by rfl) (Ex.q (q_load (by rfl) (by rfl) (by rfl)) (by rfl) ?_)) | (refine WL.yes (by rfl) (Ex.q (q_load_rop (by rfl) (by rfl)) (by rfl) ?_)) | (refine WL.yes (by rfl) (Ex.h (h_load_pel (by rfl) (by rfl) ?_ (by rfl)) (by rfl) ?_); (· omega)) | (refine WL.yes (by rfl) (Ex.q (q_load_pel (by rfl) (by rfl) ?_ (by rfl)) (by rfl) ?_); (· omega))
              first | (refine WL.yes (by rfl) (Ex.q (q_int (by rfl) (by rfl) (by rfl)) (by rfl) ?_)) | (refine WL.yes (by rfl) (Ex.q (q_eqb (by rfl) (by rfl)) (by rfl) ?_)) | (refine WL.yes (by rfl) (Ex.q (q_eqp rfl rfl (by rfl) (by rfl) ?_) (by rfl) ?_); (· rfl)) | (refine WL.yes (by rfl) (Ex.q (q_eqs (by rfl) (by rfl)) (by rfl) ?_))
              refine WL.yes (by rfl) (Ex.q (q_move (by rfl)) (by rfl) ?_)
              refine WL.split 78 (by rfl) (fun g78 => ?_) (fun g78 => ?_)
              · skip
                have k3 : o.k = 3 := of_decide_eq_true g78
                refine WL.yes (by rfl) (Ex.q (q_move (by rfl)) (by rfl) ?_)
                refine WL.yes (by rfl) (Ex.q (q_pick_t (by rfl) (by rfl)) (by rfl) ?_)
                refine WL.yes (by rfl) (Ex.q (q_assign (by rfl)) (by rfl) ?_)
                refine WL.nil ?_
                (repeat refine J.seq ?_)
                refine J.cond (by rfl) (fun c74 => ?_) (fun c74 => ?_)
                · skip
                  have f74 : has o.e.p s.T = true := by rw [isSome_has] at c74; exact c74
                  (repeat refine J.seq ?_)
                  refine J.draw [3, 5, 6, 8, 1060] 5 [(0, true), (1, true), (2, true), (3, true), (4, true), (5, false)] (by kernel_rfl) rfl (by kernel_rfl) ?_
                  intro F10 hF10
                  refine WS.take rfl (by rfl) (by rfl) (q_move (by rfl)) ?_
                  refine WS.take rfl (by rfl) (by rfl) (q_nilCheck (by rfl) (by rfl)) ?_
                  first | (refine WS.take rfl (by rfl) (by rfl) (q_fieldAddr (by rfl)) ?_) | (refine WS.take rfl (by rfl) (by rfl) (q_fieldAddr_rop (by rfl) (by rfl)) ?_) | (refine WS.take rfl (by rfl) (by rfl) (q_fieldAddr_pel (by rfl)) ?_)
                  first | (refine WS.take rfl (by rfl) (by rfl) (q_load (by rfl) (by rfl) (by rfl)) ?_) | (refine WS.take rfl (by rfl) (by rfl) (q_load_rop (by rfl) (by rfl)) ?_) | (refine WS.take rfl (by rfl) (by rfl) (q_load_pel (by rfl) (by rfl) ?_ (by rfl)) ?_; (· omega))
                  first | (refine WS.take rfl (by rfl) (by rfl) (q_load (by rfl) (by rfl) (by rfl)) ?_) | (refine WS.take rfl (by rfl) (by rfl) (q_load_rop (by rfl) (by rfl)) ?_) | (refine WS.take rfl (by rfl) (by rfl) (q_load_pel (by rfl) (by rfl) ?_ (by rfl)) ?_; (· omega))
                  refine WS.last rfl (by rfl) (by rfl) (Ex.delete o.e.p (by rfl) (by rfl) (by rfl) hs.t.keys ho.1 ?_)
                  (repeat refine J.seq ?_)
                  refine J.region ?_
                  refine WL.yes (by rfl) (Ex.q (q_assign (by rfl)) (by rfl) ?_)
                  refine WL.nil ?_
                  (repeat refine J.seq ?_)
                  refine J.ret ?_
                  (repeat (with_reducible first | refine Kseq.ret ?_ | refine Kblock.ret ?_ | refine Kloop.ret ?_))
                  first
                    | (rw [kdo_fail h16]; exact Kret.mk (KO kb b1 b2 { s with n := s.n - 1 }) (.tmp (by rfl) .nil) (by rfl) trivial (HLe.sub (.cons (s := 1060) rfl (CLe.box (by rw [hw])) rfl (.cons (s := 1051) rfl (CLe.refl _ _) rfl (.cons (s := 1052) rfl (CLe.refl _ _) rfl .nil)))) ⟨rfl, rfl⟩)
                    | (rw [kdo_bad h16 h45]; exact Kret.mk (KO kb b1 b2 s) (.tmp (by rfl) .nil) (by rfl) trivial (HLe.sub (.cons (s := 1060) rfl (CLe.refl _ _) rfl (.cons (s := 1051) rfl (CLe.refl _ _) rfl (.cons (s := 1052) rfl (CLe.refl _ _) rfl .nil)))) ⟨rfl, rfl⟩)
                    | (rw [kdo_add h16 h45 k1 t1 f49]; exact Kret.mk (KO kb b1 b2 { s with T := tput o.e s.T }) (.tmp (by rfl) .nil) (by rfl) trivial (HLe.sub (.cons (s := 1060) rfl (CLe.refl _ _) rfl (.cons (s := 1051) rfl (CLe.mp (aput_tput hs.t o.e).symm) rfl (.cons (s := 1052) rfl (CLe.refl _ _) rfl .nil)))) ⟨rfl, rfl⟩)
                    | (rw [kdo_chg h16 h45 k2 f49]; exact Kret.mk (KO kb b1 b2 { s with T := tput o.e s.T }) (.tmp (by rfl) .nil) (by rfl) trivial (HLe.sub (.cons (s := 1060) rfl (CLe.refl _ _) rfl (.cons (s := 1051) rfl (CLe.mp (aput_tput hs.t o.e).symm) rfl (.cons (s := 1052) rfl (CLe.refl _ _) rfl .nil)))) ⟨rfl, rfl⟩)
                    | (rw [kdo_rem h16 h45 k3 f74]; exact Kret.mk (KO kb b1 b2 { s with T := tdel o.e.p s.T }) (.tmp (by rfl) .nil) (by rfl) trivial (HLe.sub (.cons (s := 1060) rfl (CLe.refl _ _) rfl (.cons (s := 1051) rfl (by rw [adel_tdel]; exact CLe.refl _ _) rfl (.cons (s := 1052) rfl (CLe.refl _ _) rfl .nil)))) ⟨rfl, rfl⟩)
                    | (rw [kdo_no h16 h45 (by rintro ⟨x1, x2⟩; first | omega | (obtain ⟨x3, x4⟩ := x2; simp_all only [Bool.false_eq_true, Bool.true_eq_false, not_true_eq_false, reduceCtorEq]) | simp_all only [Bool.false_eq_true, Bool.true_eq_false, not_true_eq_false, reduceCtorEq]) (by rintro ⟨x1, x2⟩; first | omega | (obtain ⟨x3, x4⟩ := x2; simp_all only [Bool.false_eq_true, Bool.true_eq_false, not_true_eq_false, reduceCtorEq]) | simp_all only [Bool.false_eq_true, Bool.true_eq_false, not_true_eq_false, reduceCtorEq]) (by rintro ⟨x1, x2⟩; first | omega | (obtain ⟨x3, x4⟩ := x2; simp_all only [Bool.false_eq_true, Bool.true_eq_false, not_true_eq_false, reduceCtorEq]) | simp_all only [Bool.false_eq_true, Bool.true_eq_false, not_true_eq_false, reduceCtorEq])]; exact Kret.mk (KO kb b1 b2 s) (.tmp (by rfl) .nil) (by rfl) trivial (HLe.sub (.cons (s := 1060) rfl (CLe.refl _ _) rfl (.cons (s := 1051) rfl (CLe.refl _ _) rfl (.cons (s := 1052) rfl (CLe.refl _ _) rfl .nil)))) ⟨rfl, rfl⟩)
                · skip
                  have f74 : ¬ has o.e.p s.T = true := by rw [isSome_has] at c74; simpa using c74
                  (repeat refine J.seq ?_)
                  refine J.skip ?_
                  (repeat refine J.seq ?_)
                  refine J.region ?_
                  refine WL.yes (by rfl) (Ex.q (q_assign (by rfl)) (by rfl) ?_)
                  refine WL.nil ?_
                  (repeat refine J.seq ?_)
                  refine J.ret ?_
                  (repeat (with_reducible first | refine Kseq.ret ?_ | refine Kblock.ret ?_ | refine Kloop.ret ?_))
                  first
                    | (rw [kdo_fail h16]; exact Kret.mk (KO kb b1 b2 { s with n := s.n - 1 }) (.tmp (by rfl) .nil) (by rfl) trivial (HLe.sub (.cons (s := 1060) rfl (CLe.box (by rw [hw])) rfl (.cons (s := 1051) rfl (CLe.refl _ _) rfl (.cons (s := 1052) rfl (CLe.refl _ _) rfl .nil)))) ⟨rfl, rfl⟩)
                    | (rw [kdo_bad h16 h45]; exact Kret.mk (KO kb b1 b2 s) (.tmp (by rfl) .nil) (by rfl) trivial (HLe.sub (.cons (s := 1060) rfl (CLe.refl _ _) rfl (.cons (s := 1051) rfl (CLe.refl _ _) rfl (.cons (s := 1052) rfl (CLe.refl _ _) rfl .nil)))) ⟨rfl, rfl⟩)
                    | (rw [kdo_add h16 h45 k1 t1 f49]; exact Kret.mk (KO kb b1 b2 { s with T := tput o.e s.T }) (.tmp (by rfl) .nil) (by rfl) trivial (HLe.sub (.cons (s := 1060) rfl (CLe.refl _ _) rfl (.cons (s := 1051) rfl (CLe.mp (aput_tput hs.t o.e).symm) rfl (.cons (s := 1052) rfl (CLe.refl _ _) rfl .nil)))) ⟨rfl, rfl⟩)
                    | (rw [kdo_chg h16 h45 k2 f49]; exact Kret.mk (KO kb b1 b2 { s with T := tput o.e s.T }) (.tmp (by rfl) .nil) (by rfl) trivial (HLe.sub (.cons (s := 1060) rfl (CLe.refl _ _) rfl (.cons (s := 1051) rfl (CLe.mp (aput_tput hs.t o.e).symm) rfl (.cons (s := 1052) rfl (CLe.refl _ _) rfl .nil)))) ⟨rfl, rfl⟩)
                    | (rw [kdo_rem h16 h45 k3 f74]; exact Kret.mk (KO kb b1 b2 { s with T := tdel o.e.p s.T }) (.tmp (by rfl) .nil) (by rfl) trivial (HLe.sub (.cons (s := 1060) rfl (CLe.refl _ _) rfl (.cons (s := 1051) rfl (by rw [adel_tdel]; exact CLe.refl _ _) rfl (.cons (s := 1052) rfl (CLe.refl _ _) rfl .nil)))) ⟨rfl, rfl⟩)
                    | (rw [kdo_no h16 h45 (by rintro ⟨x1, x2⟩; first | omega | (obtain ⟨x3, x4⟩ := x2; simp_all only [Bool.false_eq_true, Bool.true_eq_false, not_true_eq_false, reduceCtorEq]) | simp_all only [Bool.false_eq_true, Bool.true_eq_false, not_true_eq_false, reduceCtorEq]) (by rintro ⟨x1, x2⟩; first | omega | (obtain ⟨x3, x4⟩ := x2; simp_all only [Bool.false_eq_true, Bool.true_eq_false, not_true_eq_false, reduceCtorEq]) | simp_all only [Bool.false_eq_true, Bool.true_eq_false, not_true_eq_false, reduceCtorEq]) (by rintro ⟨x1, x2⟩; first | omega | (obtain ⟨x3, x4⟩ := x2; simp_all only [Bool.false_eq_true, Bool.true_eq_false, not_true_eq_false, reduceCtorEq]) | simp_all only [Bool.false_eq_true, Bool.true_eq_false, not_true_eq_false, reduceCtorEq])]; exact Kret.mk (KO kb b1 b2 s) (.tmp (by rfl) .nil) (by rfl) trivial (HLe.sub (.cons (s := 1060) rfl (CLe.refl _ _) rfl (.cons (s := 1051) rfl (CLe.refl _ _) rfl (.cons (s := 1052) rfl (CLe.refl _ _) rfl .nil)))) ⟨rfl, rfl⟩)
              · skip
                have k3 : ¬ o.k = 3 := of_decide_eq_false g78
                refine WL.no (by rfl) (by rfl) ?_
                refine WL.yes (by rfl) (Ex.q (q_pick_f (by rfl) (by rfl)) (by rfl) ?_)
                refine WL.yes (by rfl) (Ex.q (q_assign (by rfl)) (by rfl) ?_)
                refine WL.nil ?_
                (repeat refine J.seq ?_)
                refine J.condF (by rfl) ?_
                (repeat refine J.seq ?_)
                refine J.skip ?_
                (repeat refine J.seq ?_)
                refine J.region ?_
                refine WL.yes (by rfl) (Ex.q (q_assign (by rfl)) (by rfl) ?_)
                refine WL.nil ?_
                (repeat refine J.seq ?_)
                refine J.ret ?_
                (repeat (with_reducible first | refine Kseq.ret ?_ | refine Kblock.ret ?_ | refine Kloop.ret ?_))
                first
                  | (rw [kdo_fail h16]; exact Kret.mk (KO kb b1 b2 { s with n := s.n - 1 }) (.tmp (by rfl) .nil) (by rfl) trivial (HLe.sub (.cons (s := 1060) rfl (CLe.box (by rw [hw])) rfl (.cons (s := 1051) rfl (CLe.refl _ _) rfl (.cons (s := 1052) rfl (CLe.refl _ _) rfl .nil)))) ⟨rfl, rfl⟩)
                  | (rw [kdo_bad h16 h45]; exact Kret.mk (KO kb b1 b2 s) (.tmp (by rfl) .nil) (by rfl) trivial (HLe.sub (.cons (s := 1060) rfl (CLe.refl _ _) rfl (.cons (s := 1051) rfl (CLe.refl _ _) rfl (.cons (s := 1052) rfl (CLe.refl _ _) rfl .nil)))) ⟨rfl, rfl⟩)
                  | (rw [kdo_add h16 h45 k1 t1 f49]; exact Kret.mk (KO kb b1 b2 { s with T := tput o.e s.T }) (.tmp (by rfl) .nil) (by rfl) trivial (HLe.sub (.cons (s := 1060) rfl (CLe.refl _ _) rfl (.cons (s := 1051) rfl (CLe.mp (aput_tput hs.t o.e).symm) rfl (.cons (s := 1052) rfl (CLe.refl _ _) rfl .nil)))) ⟨rfl, rfl⟩)
                  | (rw [kdo_chg h16 h45 k2 f49]; exact Kret.mk (KO kb b1 b2 { s with T := tput o.e s.T }) (.tmp (by rfl) .nil) (by rfl) trivial (HLe.sub (.cons (s := 1060) rfl (CLe.refl _ _) rfl (.cons (s := 1051) rfl (CLe.mp (aput_tput hs.t o.e).symm) rfl (.cons (s := 1052) rfl (CLe.refl _ _) rfl .nil)))) ⟨rfl, rfl⟩)
                  | (rw [kdo_rem h16 h45 k3 f74]; exact Kret.mk (KO kb b1 b2 { s with T := tdel o.e.p s.T }) (.tmp (by rfl) .nil) (by rfl) trivial (HLe.sub (.cons (s := 1060) rfl (CLe.refl _ _) rfl (.cons (s := 1051) rfl (by rw [adel_tdel]; exact CLe.refl _ _) rfl (.cons (s := 1052) rfl (CLe.refl _ _) rfl .nil)))) ⟨rfl, rfl⟩)
                  | (rw [kdo_no h16 h45 (by rintro ⟨x1, x2⟩; first | omega | (obtain ⟨x3, x4⟩ := x2; simp_all only [Bool.false_eq_true, Bool.true_eq_false, not_true_eq_false, reduceCtorEq]) | simp_all only [Bool.false_eq_true, Bool.true_eq_false, not_true_eq_false, reduceCtorEq]) (by rintro ⟨x1, x2⟩; first | omega | (obtain ⟨x3, x4⟩ := x2; simp_all only [Bool.false_eq_true, Bool.true_eq_false, not_true_eq_false, reduceCtorEq]) | simp_all only [Bool.false_eq_true, Bool.true_eq_false, not_true_eq_false, reduceCtorEq]) (by rintro ⟨x1, x2⟩; first | omega | (obtain ⟨x3, x4⟩ := x2; simp_all only [Bool.false_eq_true, Bool.true_eq_false, not_true_eq_false, reduceCtorEq]) | simp_all only [Bool.false_eq_true, Bool.true_eq_false, not_true_eq_false, reduceCtorEq])]; exact Kret.mk (KO kb b1 b2 s) (.tmp (by rfl) .nil) (by rfl) trivial (HLe.sub (.cons (s := 1060) rfl (CLe.refl _ _) rfl (.cons (s := 1051) rfl (CLe.refl _ _) rfl (.cons (s := 1052) rfl (CLe.refl _ _) rfl .nil)))) ⟨rfl, rfl⟩)
        · skip
          have k1 : ¬ o.k = 1 := of_decide_eq_false g53
          refine WL.no (by rfl) (by rfl) ?_
          refine WL.no (by rfl) (by rfl) ?_
          refine WL.yes (by rfl) (Ex.q (q_pick_f (by rfl) (by rfl)) (by rfl) ?_)
          refine WL.yes (by rfl) (Ex.q (q_move (by rfl)) (by rfl) ?_)
          refine WL.no (by rfl) (by rfl) ?_
          refine WL.no (by rfl) (by rfl) ?_
          refine WL.yes (by rfl) (Ex.q (q_pick_f (by rfl) (by rfl)) (by rfl) ?_)
          refine WL.yes (by rfl) (Ex.q (q_assign (by rfl)) (by rfl) ?_)
          refine WL.nil ?_
          (repeat refine J.seq ?_)
          refine J.condF (by rfl) ?_
          (repeat refine J.seq ?_)
          refine J.region ?_
          first | (refine WL.yes (by rfl) (Ex.q (q_fieldAddr (by rfl)) (by rfl) ?_)) | (refine WL.yes (by rfl) (Ex.q (q_fieldAddr_rop (by rfl) (by rfl)) (by rfl) ?_)) | (refine WL.yes (by rfl) (Ex.q (q_fieldAddr_pel (by rfl)) (by rfl) ?_))
          first | (refine WL.yes (by rfl) (Ex.h (h_load (by rfl) (by rfl) (by rfl)) (by rfl) ?_)) | (refine WL.yes (by rfl) (Ex.q (q_load (by rfl) (by rfl) (by rfl)) (by rfl) ?_)) | (refine WL.yes (by rfl) (Ex.q (q_load_rop (by rfl) (by rfl)) (by rfl) ?_)) | (refine WL.yes (by rfl) (Ex.h (h_load_pel (by rfl) (by rfl) ?_ (by rfl)) (by rfl) ?_); (· omega)) | (refine WL.yes (by rfl) (Ex.q (q_load_pel (by rfl) (by rfl) ?_ (by rfl)) (by rfl) ?_); (· omega))
          first | (refine WL.yes (by rfl) (Ex.q (q_int (by rfl) (by rfl) (by rfl)) (by rfl) ?_)) | (refine WL.yes (by rfl) (Ex.q (q_eqb (by rfl) (by rfl)) (by rfl) ?_)) | (refine WL.yes (by rfl) (Ex.q (q_eqp rfl rfl (by rfl) (by rfl) ?_) (by rfl) ?_); (· rfl)) | (refine WL.yes (by rfl) (Ex.q (q_eqs (by rfl) (by rfl)) (by rfl) ?_))
          refine WL.yes (by rfl) (Ex.q (q_move (by rfl)) (by rfl) ?_)
          refine WL.split 64 (by rfl) (fun g64 => ?_) (fun g64 => ?_)
          · skip
            have k2 : o.k = 2 := of_decide_eq_true g64
            refine WL.yes (by rfl) (Ex.q (q_move (by rfl)) (by rfl) ?_)
            refine WL.yes (by rfl) (Ex.q (q_pick_t (by rfl) (by rfl)) (by rfl) ?_)
            refine WL.yes (by rfl) (Ex.q (q_assign (by rfl)) (by rfl) ?_)
            refine WL.nil ?_
            (repeat refine J.seq ?_)
            refine J.cond (by rfl) (fun c49 => ?_) (fun c49 => ?_)
            · skip
              first | (have f49 : has o.e.p s.U = false := by rw [isSome_has] at c49; simpa using c49) | (have f49 : has o.e.p s.T = true := by rw [isSome_has] at c49; exact c49)
              (repeat refine J.seq ?_)
              refine J.draw [3, 5, 6, 8, 1060] 7 [(0, true), (1, true), (2, true), (3, true), (4, true), (5, true), (6, true), (7, false)] (by kernel_rfl) rfl (by kernel_rfl) ?_
              intro F11 hF11
              refine WS.take rfl (by rfl) (by rfl) (q_move (by rfl)) ?_
              refine WS.take rfl (by rfl) (by rfl) (q_nilCheck (by rfl) (by rfl)) ?_
              first | (refine WS.take rfl (by rfl) (by rfl) (q_fieldAddr (by rfl)) ?_) | (refine WS.take rfl (by rfl) (by rfl) (q_fieldAddr_rop (by rfl) (by rfl)) ?_) | (refine WS.take rfl (by rfl) (by rfl) (q_fieldAddr_pel (by rfl)) ?_)
              first | (refine WS.take rfl (by rfl) (by rfl) (q_load (by rfl) (by rfl) (by rfl)) ?_) | (refine WS.take rfl (by rfl) (by rfl) (q_load_rop (by rfl) (by rfl)) ?_) | (refine WS.take rfl (by rfl) (by rfl) (q_load_pel (by rfl) (by rfl) ?_ (by rfl)) ?_; (· omega))
              first | (refine WS.take rfl (by rfl) (by rfl) (q_load (by rfl) (by rfl) (by rfl)) ?_) | (refine WS.take rfl (by rfl) (by rfl) (q_load_rop (by rfl) (by rfl)) ?_) | (refine WS.take rfl (by rfl) (by rfl) (q_load_pel (by rfl) (by rfl) ?_ (by rfl)) ?_; (· omega))
              first | (refine WS.take rfl (by rfl) (by rfl) (q_fieldAddr (by rfl)) ?_) | (refine WS.take rfl (by rfl) (by rfl) (q_fieldAddr_rop (by rfl) (by rfl)) ?_) | (refine WS.take rfl (by rfl) (by rfl) (q_fieldAddr_pel (by rfl)) ?_)
              first | (refine WS.take rfl (by rfl) (by rfl) (q_load (by rfl) (by rfl) (by rfl)) ?_) | (refine WS.take rfl (by rfl) (by rfl) (q_load_rop (by rfl) (by rfl)) ?_) | (refine WS.take rfl (by rfl) (by rfl) (q_load_pel (by rfl) (by rfl) ?_ (by rfl)) ?_; (· omega))
              refine WS.last rfl (by rfl) (by rfl) (Ex.mapUpdate o.e.p o.e (by rfl) (by rfl) (by rfl) (by rfl) hs.t.keys ho.1 ?_)
              (repeat refine J.seq ?_)
              refine J.region ?_
              refine WL.yes (by rfl) (Ex.q (q_assign (by rfl)) (by rfl) ?_)
              refine WL.nil ?_
              (repeat refine J.seq ?_)
              refine J.ret ?_
              (repeat (with_reducible first | refine Kseq.ret ?_ | refine Kblock.ret ?_ | refine Kloop.ret ?_))
              first
                | (rw [kdo_fail h16]; exact Kret.mk (KO kb b1 b2 { s with n := s.n - 1 }) (.tmp (by rfl) .nil) (by rfl) trivial (HLe.sub (.cons (s := 1060) rfl (CLe.box (by rw [hw])) rfl (.cons (s := 1051) rfl (CLe.refl _ _) rfl (.cons (s := 1052) rfl (CLe.refl _ _) rfl .nil)))) ⟨rfl, rfl⟩)
                | (rw [kdo_bad h16 h45]; exact Kret.mk (KO kb b1 b2 s) (.tmp (by rfl) .nil) (by rfl) trivial (HLe.sub (.cons (s := 1060) rfl (CLe.refl _ _) rfl (.cons (s := 1051) rfl (CLe.refl _ _) rfl (.cons (s := 1052) rfl (CLe.refl _ _) rfl .nil)))) ⟨rfl, rfl⟩)
                | (rw [kdo_add h16 h45 k1 t1 f49]; exact Kret.mk (KO kb b1 b2 { s with T := tput o.e s.T }) (.tmp (by rfl) .nil) (by rfl) trivial (HLe.sub (.cons (s := 1060) rfl (CLe.refl _ _) rfl (.cons (s := 1051) rfl (CLe.mp (aput_tput hs.t o.e).symm) rfl (.cons (s := 1052) rfl (CLe.refl _ _) rfl .nil)))) ⟨rfl, rfl⟩)
                | (rw [kdo_chg h16 h45 k2 f49]; exact Kret.mk (KO kb b1 b2 { s with T := tput o.e s.T }) (.tmp (by rfl) .nil) (by rfl) trivial (HLe.sub (.cons (s := 1060) rfl (CLe.refl _ _) rfl (.cons (s := 1051) rfl (CLe.mp (aput_tput hs.t o.e).symm) rfl (.cons (s := 1052) rfl (CLe.refl _ _) rfl .nil)))) ⟨rfl, rfl⟩)
                | (rw [kdo_rem h16 h45 k3 f74]; exact Kret.mk (KO kb b1 b2 { s with T := tdel o.e.p s.T }) (.tmp (by rfl) .nil) (by rfl) trivial (HLe.sub (.cons (s := 1060) rfl (CLe.refl _ _) rfl (.cons (s := 1051) rfl (by rw [adel_tdel]; exact CLe.refl _ _) rfl (.cons (s := 1052) rfl (CLe.refl _ _) rfl .nil)))) ⟨rfl, rfl⟩)
                | (rw [kdo_no h16 h45 (by rintro ⟨x1, x2⟩; first | omega | (obtain ⟨x3, x4⟩ := x2; simp_all only [Bool.false_eq_true, Bool.true_eq_false, not_true_eq_false, reduceCtorEq]) | simp_all only [Bool.false_eq_true, Bool.true_eq_false, not_true_eq_false, reduceCtorEq]) (by rintro ⟨x1, x2⟩; first | omega | (obtain ⟨x3, x4⟩ := x2; simp_all only [Bool.false_eq_true, Bool.true_eq_false, not_true_eq_false, reduceCtorEq]) | simp_all only [Bool.false_eq_true, Bool.true_eq_false, not_true_eq_false, reduceCtorEq]) (by rintro ⟨x1, x2⟩; first | omega | (obtain ⟨x3, x4⟩ := x2; simp_all only [Bool.false_eq_true, Bool.true_eq_false, not_true_eq_false, reduceCtorEq]) | simp_all only [Bool.false_eq_true, Bool.true_eq_false, not_true_eq_false, reduceCtorEq])]; exact Kret.mk (KO kb b1 b2 s) (.tmp (by rfl) .nil) (by rfl) trivial (HLe.sub (.cons (s := 1060) rfl (CLe.refl _ _) rfl (.cons (s := 1051) rfl (CLe.refl _ _) rfl (.cons (s := 1052) rfl (CLe.refl _ _) rfl .nil)))) ⟨rfl, rfl⟩)
            · skip
              first | (have f49 : ¬ has o.e.p s.U = false := by rw [isSome_has] at c49; simpa using c49) | (have f49 : ¬ has o.e.p s.T = true := by rw [isSome_has] at c49; simpa using c49)
              (repeat refine J.seq ?_)
              refine J.region ?_
              first | (refine WL.yes (by rfl) (Ex.q (q_fieldAddr (by rfl)) (by rfl) ?_)) | (refine WL.yes (by rfl) (Ex.q (q_fieldAddr_rop (by rfl) (by rfl)) (by rfl) ?_)) | (refine WL.yes (by rfl) (Ex.q (q_fieldAddr_pel (by rfl)) (by rfl) ?_))
              first | (refine WL.yes (by rfl) (Ex.h (h_load (by rfl) (by rfl) (by rfl)) (by rfl) ?_)) | (refine WL.yes (by rfl) (Ex.q (q_load (by rfl) (by rfl) (by rfl)) (by rfl) ?_)) | (refine WL.yes (by rfl) (Ex.q (q_load_rop (by rfl) (by rfl)) (by rfl) ?_)) | (refine WL.yes (by rfl) (Ex.h (h_load_pel (by rfl) (by rfl) ?_ (by rfl)) (by rfl) ?_); (· omega)) | (refine WL.yes (by rfl) (Ex.q (q_load_pel (by rfl) (by rfl) ?_ (by rfl)) (by rfl) ?_); (· omega))
              first | (refine WL.yes (by rfl) (Ex.q (q_int (by rfl) (by rfl) (by rfl)) (by rfl) ?_)) | (refine WL.yes (by rfl) (Ex.q (q_eqb (by rfl) (by rfl)) (by rfl) ?_)) | (refine WL.yes (by rfl) (Ex.q (q_eqp rfl rfl (by rfl) (by rfl) ?_) (by rfl) ?_); (· rfl)) | (refine WL.yes (by rfl) (Ex.q (q_eqs (by rfl) (by rfl)) (by rfl) ?_))
              refine WL.yes (by rfl) (Ex.q (q_move (by rfl)) (by rfl) ?_)
              refine WL.split 78 (by rfl) (fun g78 => ?_) (fun g78 => ?_)
              · skip
                have k3 : o.k = 3 := of_decide_eq_true g78
                refine WL.yes (by rfl) (Ex.q (q_move (by rfl)) (by rfl) ?_)
                refine WL.yes (by rfl) (Ex.q (q_pick_t (by rfl) (by rfl)) (by rfl) ?_)
                refine WL.yes (by rfl) (Ex.q (q_assign (by rfl)) (by rfl) ?_)
                refine WL.nil ?_
                (repeat refine J.seq ?_)
                refine J.cond (by rfl) (fun c74 => ?_) (fun c74 => ?_)
                · skip
                  have f74 : has o.e.p s.T = true := by rw [isSome_has] at c74; exact c74
                  (repeat refine J.seq ?_)
                  refine J.draw [3, 5, 6, 8, 1060] 5 [(0, true), (1, true), (2, true), (3, true), (4, true), (5, false)] (by kernel_rfl) rfl (by kernel_rfl) ?_
                  intro F12 hF12
                  refine WS.take rfl (by rfl) (by rfl) (q_move (by rfl)) ?_
                  refine WS.take rfl (by rfl) (by rfl) (q_nilCheck (by rfl) (by rfl)) ?_
                  first | (refine WS.take rfl (by rfl) (by rfl) (q_fieldAddr (by rfl)) ?_) | (refine WS.take rfl (by rfl) (by rfl) (q_fieldAddr_rop (by rfl) (by rfl)) ?_) | (refine WS.take rfl (by rfl) (by rfl) (q_fieldAddr_pel (by rfl)) ?_)
                  first | (refine WS.take rfl (by rfl) (by rfl) (q_load (by rfl) (by rfl) (by rfl)) ?_) | (refine WS.take rfl (by rfl) (by rfl) (q_load_rop (by rfl) (by rfl)) ?_) | (refine WS.take rfl (by rfl) (by rfl) (q_load_pel (by rfl) (by rfl) ?_ (by rfl)) ?_; (· omega))
                  first | (refine WS.take rfl (by rfl) (by rfl) (q_load (by rfl) (by rfl) (by rfl)) ?_) | (refine WS.take rfl (by rfl) (by rfl) (q_load_rop (by rfl) (by rfl)) ?_) | (refine WS.take rfl (by rfl) (by rfl) (q_load_pel (by rfl) (by rfl) ?_ (by rfl)) ?_; (· omega))
                  refine WS.last rfl (by rfl) (by rfl) (Ex.delete o.e.p (by rfl) (by rfl) (by rfl) hs.t.keys ho.1 ?_)
                  (repeat refine J.seq ?_)
                  refine J.region ?_
                  refine WL.yes (by rfl) (Ex.q (q_assign (by rfl)) (by rfl) ?_)
                  refine WL.nil ?_
                  (repeat refine J.seq ?_)
                  refine J.ret ?_
                  (repeat (with_reducible first | refine Kseq.ret ?_ | refine Kblock.ret ?_ | refine Kloop.ret ?_))
                  first
                    | (rw [kdo_fail h16]; exact Kret.mk (KO kb b1 b2 { s with n := s.n - 1 }) (.tmp (by rfl) .nil) (by rfl) trivial (HLe.sub (.cons (s := 1060) rfl (CLe.box (by rw [hw])) rfl (.cons (s := 1051) rfl (CLe.refl _ _) rfl (.cons (s := 1052) rfl (CLe.refl _ _) rfl .nil)))) ⟨rfl, rfl⟩)
                    | (rw [kdo_bad h16 h45]; exact Kret.mk (KO kb b1 b2 s) (.tmp (by rfl) .nil) (by rfl) trivial (HLe.sub (.cons (s := 1060) rfl (CLe.refl _ _) rfl (.cons (s := 1051) rfl (CLe.refl _ _) rfl (.cons (s := 1052) rfl (CLe.refl _ _) rfl .nil)))) ⟨rfl, rfl⟩)
                    | (rw [kdo_add h16 h45 k1 t1 f49]; exact Kret.mk (KO kb b1 b2 { s with T := tput o.e s.T }) (.tmp (by rfl) .nil) (by rfl) trivial (HLe.sub (.cons (s := 1060) rfl (CLe.refl _ _) rfl (.cons (s := 1051) rfl (CLe.mp (aput_tput hs.t o.e).symm) rfl (.cons (s := 1052) rfl (CLe.refl _ _) rfl .nil)))) ⟨rfl, rfl⟩)
                    | (rw [kdo_chg h16 h45 k2 f49]; exact Kret.mk (KO kb b1 b2 { s with T := tput o.e s.T }) (.tmp (by rfl) .nil) (by rfl) trivial (HLe.sub (.cons (s := 1060) rfl (CLe.refl _ _) rfl (.cons (s := 1051) rfl (CLe.mp (aput_tput hs.t o.e).symm) rfl (.cons (s := 1052) rfl (CLe.refl _ _) rfl .nil)))) ⟨rfl, rfl⟩)
                    | (rw [kdo_rem h16 h45 k3 f74]; exact Kret.mk (KO kb b1 b2 { s with T := tdel o.e.p s.T }) (.tmp (by rfl) .nil) (by rfl) trivial (HLe.sub (.cons (s := 1060) rfl (CLe.refl _ _) rfl (.cons (s := 1051) rfl (by rw [adel_tdel]; exact CLe.refl _ _) rfl (.cons (s := 1052) rfl (CLe.refl _ _) rfl .nil)))) ⟨rfl, rfl⟩)
                    | (rw [kdo_no h16 h45 (by rintro ⟨x1, x2⟩; first | omega | (obtain ⟨x3, x4⟩ := x2; simp_all only [Bool.false_eq_true, Bool.true_eq_false, not_true_eq_false, reduceCtorEq]) | simp_all only [Bool.false_eq_true, Bool.true_eq_false, not_true_eq_false, reduceCtorEq]) (by rintro ⟨x1, x2⟩; first | omega | (obtain ⟨x3, x4⟩ := x2; simp_all only [Bool.false_eq_true, Bool.true_eq_false, not_true_eq_false, reduceCtorEq]) | simp_all only [Bool.false_eq_true, Bool.true_eq_false, not_true_eq_false, reduceCtorEq]) (by rintro ⟨x1, x2⟩; first | omega | (obtain ⟨x3, x4⟩ := x2; simp_all only [Bool.false_eq_true, Bool.true_eq_false, not_true_eq_false, reduceCtorEq]) | simp_all only [Bool.false_eq_true, Bool.true_eq_false, not_true_eq_false, reduceCtorEq])]; exact Kret.mk (KO kb b1 b2 s) (.tmp (by rfl) .nil) (by rfl) trivial (HLe.sub (.cons (s := 1060) rfl (CLe.refl _ _) rfl (.cons (s := 1051) rfl (CLe.refl _ _) rfl (.cons (s := 1052) rfl (CLe.refl _ _) rfl .nil)))) ⟨rfl, rfl⟩)
                · skip
                  have f74 : ¬ has o.e.p s.T = true := by rw [isSome_has] at c74; simpa using c74
                  (repeat refine J.seq ?_)
                  refine J.skip ?_
                  (repeat refine J.seq ?_)
                  refine J.region ?_
                  refine WL.yes (by rfl) (Ex.q (q_assign (by rfl)) (by rfl) ?_)
                  refine WL.nil ?_
                  (repeat refine J.seq ?_)
                  refine J.ret ?_
                  (repeat (with_reducible first | refine Kseq.ret ?_ | refine Kblock.ret ?_ | refine Kloop.ret ?_))
                  first
                    | (rw [kdo_fail h16]; exact Kret.mk (KO kb b1 b2 { s with n := s.n - 1 }) (.tmp (by rfl) .nil) (by rfl) trivial (HLe.sub (.cons (s := 1060) rfl (CLe.box (by rw [hw])) rfl (.cons (s := 1051) rfl (CLe.refl _ _) rfl (.cons (s := 1052) rfl (CLe.refl _ _) rfl .nil)))) ⟨rfl, rfl⟩)
                    | (rw [kdo_bad h16 h45]; exact Kret.mk (KO kb b1 b2 s) (.tmp (by rfl) .nil) (by rfl) trivial (HLe.sub (.cons (s := 1060) rfl (CLe.refl _ _) rfl (.cons (s := 1051) rfl (CLe.refl _ _) rfl (.cons (s := 1052) rfl (CLe.refl _ _) rfl .nil)))) ⟨rfl, rfl⟩)
                    | (rw [kdo_add h16 h45 k1 t1 f49]; exact Kret.mk (KO kb b1 b2 { s with T := tput o.e s.T }) (.tmp (by rfl) .nil) (by rfl) trivial (HLe.sub (.cons (s := 1060) rfl (CLe.refl _ _) rfl (.cons (s := 1051) rfl (CLe.mp (aput_tput hs.t o.e).symm) rfl (.cons (s := 1052) rfl (CLe.refl _ _) rfl .nil)))) ⟨rfl, rfl⟩)
                    | (rw [kdo_chg h16 h45 k2 f49]; exact Kret.mk (KO kb b1 b2 { s with T := tput o.e s.T }) (.tmp (by rfl) .nil) (by rfl) trivial (HLe.sub (.cons (s := 1060) rfl (CLe.refl _ _) rfl (.cons (s := 1051) rfl (CLe.mp (aput_tput hs.t o.e).symm) rfl (.cons (s := 1052) rfl (CLe.refl _ _) rfl .nil)))) ⟨rfl, rfl⟩)
                    | (rw [kdo_rem h16 h45 k3 f74]; exact Kret.mk (KO kb b1 b2 { s with T := tdel o.e.p s.T }) (.tmp (by rfl) .nil) (by rfl) trivial (HLe.sub (.cons (s := 1060) rfl (CLe.refl _ _) rfl (.cons (s := 1051) rfl (by rw [adel_tdel]; exact CLe.refl _ _) rfl (.cons (s := 1052) rfl (CLe.refl _ _) rfl .nil)))) ⟨rfl, rfl⟩)
                    | (rw [kdo_no h16 h45 (by rintro ⟨x1, x2⟩; first | omega | (obtain ⟨x3, x4⟩ := x2; simp_all only [Bool.false_eq_true, Bool.true_eq_false, not_true_eq_false, reduceCtorEq]) | simp_all only [Bool.false_eq_true, Bool.true_eq_false, not_true_eq_false, reduceCtorEq]) (by rintro ⟨x1, x2⟩; first | omega | (obtain ⟨x3, x4⟩ := x2; simp_all only [Bool.false_eq_true, Bool.true_eq_false, not_true_eq_false, reduceCtorEq]) | simp_all only [Bool.false_eq_true, Bool.true_eq_false, not_true_eq_false, reduceCtorEq]) (by rintro ⟨x1, x2⟩; first | omega | (obtain ⟨x3, x4⟩ := x2; simp_all only [Bool.false_eq_true, Bool.true_eq_false, not_true_eq_false, reduceCtorEq]) | simp_all only [Bool.false_eq_true, Bool.true_eq_false, not_true_eq_false, reduceCtorEq])]; exact Kret.mk (KO kb b1 b2 s) (.tmp (by rfl) .nil) (by rfl) trivial (HLe.sub (.cons (s := 1060) rfl (CLe.refl _ _) rfl (.cons (s := 1051) rfl (CLe.refl _ _) rfl (.cons (s := 1052) rfl (CLe.refl _ _) rfl .nil)))) ⟨rfl, rfl⟩)
              · skip
                have k3 : ¬ o.k = 3 := of_decide_eq_false g78
                refine WL.no (by rfl) (by rfl) ?_
                refine WL.yes (by rfl) (Ex.q (q_pick_f (by rfl) (by rfl)) (by rfl) ?_)
                refine WL.yes (by rfl) (Ex.q (q_assign (by rfl)) (by rfl) ?_)
                refine WL.nil ?_
                (repeat refine J.seq ?_)
                refine J.condF (by rfl) ?_
                (repeat refine J.seq ?_)
                refine J.skip ?_
                (repeat refine J.seq ?_)
                refine J.region ?_
                refine WL.yes (by rfl) (Ex.q (q_assign (by rfl)) (by rfl) ?_)
                refine WL.nil ?_
                (repeat refine J.seq ?_)
                refine J.ret ?_
                (repeat (with_reducible first | refine Kseq.ret ?_ | refine Kblock.ret ?_ | refine Kloop.ret ?_))
                first
                  | (rw [kdo_fail h16]; exact Kret.mk (KO kb b1 b2 { s with n := s.n - 1 }) (.tmp (by rfl) .nil) (by rfl) trivial (HLe.sub (.cons (s := 1060) rfl (CLe.box (by rw [hw])) rfl (.cons (s := 1051) rfl (CLe.refl _ _) rfl (.cons (s := 1052) rfl (CLe.refl _ _) rfl .nil)))) ⟨rfl, rfl⟩)
                  | (rw [kdo_bad h16 h45]; exact Kret.mk (KO kb b1 b2 s) (.tmp (by rfl) .nil) (by rfl) trivial (HLe.sub (.cons (s := 1060) rfl (CLe.refl _ _) rfl (.cons (s := 1051) rfl (CLe.refl _ _) rfl (.cons (s := 1052) rfl (CLe.refl _ _) rfl .nil)))) ⟨rfl, rfl⟩)
                  | (rw [kdo_add h16 h45 k1 t1 f49]; exact Kret.mk (KO kb b1 b2 { s with T := tput o.e s.T }) (.tmp (by rfl) .nil) (by rfl) trivial (HLe.sub (.cons (s := 1060) rfl (CLe.refl _ _) rfl (.cons (s := 1051) rfl (CLe.mp (aput_tput hs.t o.e).symm) rfl (.cons (s := 1052) rfl (CLe.refl _ _) rfl .nil)))) ⟨rfl, rfl⟩)
                  | (rw [kdo_chg h16 h45 k2 f49]; exact Kret.mk (KO kb b1 b2 { s with T := tput o.e s.T }) (.tmp (by rfl) .nil) (by rfl) trivial (HLe.sub (.cons (s := 1060) rfl (CLe.refl _ _) rfl (.cons (s := 1051) rfl (CLe.mp (aput_tput hs.t o.e).symm) rfl (.cons (s := 1052) rfl (CLe.refl _ _) rfl .nil)))) ⟨rfl, rfl⟩)
                  | (rw [kdo_rem h16 h45 k3 f74]; exact Kret.mk (KO kb b1 b2 { s with T := tdel o.e.p s.T }) (.tmp (by rfl) .nil) (by rfl) trivial (HLe.sub (.cons (s := 1060) rfl (CLe.refl _ _) rfl (.cons (s := 1051) rfl (by rw [adel_tdel]; exact CLe.refl _ _) rfl (.cons (s := 1052) rfl (CLe.refl _ _) rfl .nil)))) ⟨rfl, rfl⟩)
                  | (rw [kdo_no h16 h45 (by rintro ⟨x1, x2⟩; first | omega | (obtain ⟨x3, x4⟩ := x2; simp_all only [Bool.false_eq_true, Bool.true_eq_false, not_true_eq_false, reduceCtorEq]) | simp_all only [Bool.false_eq_true, Bool.true_eq_false, not_true_eq_false, reduceCtorEq]) (by rintro ⟨x1, x2⟩; first | omega | (obtain ⟨x3, x4⟩ := x2; simp_all only [Bool.false_eq_true, Bool.true_eq_false, not_true_eq_false, reduceCtorEq]) | simp_all only [Bool.false_eq_true, Bool.true_eq_false, not_true_eq_false, reduceCtorEq]) (by rintro ⟨x1, x2⟩; first | omega | (obtain ⟨x3, x4⟩ := x2; simp_all only [Bool.false_eq_true, Bool.true_eq_false, not_true_eq_false, reduceCtorEq]) | simp_all only [Bool.false_eq_true, Bool.true_eq_false, not_true_eq_false, reduceCtorEq])]; exact Kret.mk (KO kb b1 b2 s) (.tmp (by rfl) .nil) (by rfl) trivial (HLe.sub (.cons (s := 1060) rfl (CLe.refl _ _) rfl (.cons (s := 1051) rfl (CLe.refl _ _) rfl (.cons (s := 1052) rfl (CLe.refl _ _) rfl .nil)))) ⟨rfl, rfl⟩)
          · skip
            have k2 : ¬ o.k = 2 := of_decide_eq_false g64
            refine WL.no (by rfl) (by rfl) ?_
            refine WL.yes (by rfl) (Ex.q (q_pick_f (by rfl) (by rfl)) (by rfl) ?_)
            refine WL.yes (by rfl) (Ex.q (q_assign (by rfl)) (by rfl) ?_)
            refine WL.nil ?_
            (repeat refine J.seq ?_)
            refine J.condF (by rfl) ?_
            (repeat refine J.seq ?_)
            refine J.region ?_
            first | (refine WL.yes (by rfl) (Ex.q (q_fieldAddr (by rfl)) (by rfl) ?_)) | (refine WL.yes (by rfl) (Ex.q (q_fieldAddr_rop (by rfl) (by rfl)) (by rfl) ?_)) | (refine WL.yes (by rfl) (Ex.q (q_fieldAddr_pel (by rfl)) (by rfl) ?_))
            first | (refine WL.yes (by rfl) (Ex.h (h_load (by rfl) (by rfl) (by rfl)) (by rfl) ?_)) | (refine WL.yes (by rfl) (Ex.q (q_load (by rfl) (by rfl) (by rfl)) (by rfl) ?_)) | (refine WL.yes (by rfl) (Ex.q (q_load_rop (by rfl) (by rfl)) (by rfl) ?_)) | (refine WL.yes (by rfl) (Ex.h (h_load_pel (by rfl) (by rfl) ?_ (by rfl)) (by rfl) ?_); (· omega)) | (refine WL.yes (by rfl) (Ex.q (q_load_pel (by rfl) (by rfl) ?_ (by rfl)) (by rfl) ?_); (· omega))
            first | (refine WL.yes (by rfl) (Ex.q (q_int (by rfl) (by rfl) (by rfl)) (by rfl) ?_)) | (refine WL.yes (by rfl) (Ex.q (q_eqb (by rfl) (by rfl)) (by rfl) ?_)) | (refine WL.yes (by rfl) (Ex.q (q_eqp rfl rfl (by rfl) (by rfl) ?_) (by rfl) ?_); (· rfl)) | (refine WL.yes (by rfl) (Ex.q (q_eqs (by rfl) (by rfl)) (by rfl) ?_))
            refine WL.yes (by rfl) (Ex.q (q_move (by rfl)) (by rfl) ?_)
            refine WL.split 78 (by rfl) (fun g78 => ?_) (fun g78 => ?_)
            · skip
              have k3 : o.k = 3 := of_decide_eq_true g78
              refine WL.yes (by rfl) (Ex.q (q_move (by rfl)) (by rfl) ?_)
              refine WL.yes (by rfl) (Ex.q (q_pick_t (by rfl) (by rfl)) (by rfl) ?_)
              refine WL.yes (by rfl) (Ex.q (q_assign (by rfl)) (by rfl) ?_)
              refine WL.nil ?_
              (repeat refine J.seq ?_)
              refine J.cond (by rfl) (fun c74 => ?_) (fun c74 => ?_)
              · skip
                have f74 : has o.e.p s.T = true := by rw [isSome_has] at c74; exact c74
                (repeat refine J.seq ?_)
                refine J.draw [3, 5, 6, 8, 1060] 5 [(0, true), (1, true), (2, true), (3, true), (4, true), (5, false)] (by kernel_rfl) rfl (by kernel_rfl) ?_
                intro F13 hF13
                refine WS.take rfl (by rfl) (by rfl) (q_move (by rfl)) ?_
                refine WS.take rfl (by rfl) (by rfl) (q_nilCheck (by rfl) (by rfl)) ?_
                first | (refine WS.take rfl (by rfl) (by rfl) (q_fieldAddr (by rfl)) ?_) | (refine WS.take rfl (by rfl) (by rfl) (q_fieldAddr_rop (by rfl) (by rfl)) ?_) | (refine WS.take rfl (by rfl) (by rfl) (q_fieldAddr_pel (by rfl)) ?_)
                first | (refine WS.take rfl (by rfl) (by rfl) (q_load (by rfl) (by rfl) (by rfl)) ?_) | (refine WS.take rfl (by rfl) (by rfl) (q_load_rop (by rfl) (by rfl)) ?_) | (refine WS.take rfl (by rfl) (by rfl) (q_load_pel (by rfl) (by rfl) ?_ (by rfl)) ?_; (· omega))
                first | (refine WS.take rfl (by rfl) (by rfl) (q_load (by rfl) (by rfl) (by rfl)) ?_) | (refine WS.take rfl (by rfl) (by rfl) (q_load_rop (by rfl) (by rfl)) ?_) | (refine WS.take rfl (by rfl) (by rfl) (q_load_pel (by rfl) (by rfl) ?_ (by rfl)) ?_; (· omega))
                refine WS.last rfl (by rfl) (by rfl) (Ex.delete o.e.p (by rfl) (by rfl) (by rfl) hs.t.keys ho.1 ?_)
                (repeat refine J.seq ?_)
                refine J.region ?_
                refine WL.yes (by rfl) (Ex.q (q_assign (by rfl)) (by rfl) ?_)
                refine WL.nil ?_
                (repeat refine J.seq ?_)
                refine J.ret ?_
                (repeat (with_reducible first | refine Kseq.ret ?_ | refine Kblock.ret ?_ | refine Kloop.ret ?_))
                first
                  | (rw [kdo_fail h16]; exact Kret.mk (KO kb b1 b2 { s with n := s.n - 1 }) (.tmp (by rfl) .nil) (by rfl) trivial (HLe.sub (.cons (s := 1060) rfl (CLe.box (by rw [hw])) rfl (.cons (s := 1051) rfl (CLe.refl _ _) rfl (.cons (s := 1052) rfl (CLe.refl _ _) rfl .nil)))) ⟨rfl, rfl⟩)
                  | (rw [kdo_bad h16 h45]; exact Kret.mk (KO kb b1 b2 s) (.tmp (by rfl) .nil) (by rfl) trivial (HLe.sub (.cons (s := 1060) rfl (CLe.refl _ _) rfl (.cons (s := 1051) rfl (CLe.refl _ _) rfl (.cons (s := 1052) rfl (CLe.refl _ _) rfl .nil)))) ⟨rfl, rfl⟩)
                  | (rw [kdo_add h16 h45 k1 t1 f49]; exact Kret.mk (KO kb b1 b2 { s with T := tput o.e s.T }) (.tmp (by rfl) .nil) (by rfl) trivial (HLe.sub (.cons (s := 1060) rfl (CLe.refl _ _) rfl (.cons (s := 1051) rfl (CLe.mp (aput_tput hs.t o.e).symm) rfl (.cons (s := 1052) rfl (CLe.refl _ _) rfl .nil)))) ⟨rfl, rfl⟩)
                  | (rw [kdo_chg h16 h45 k2 f49]; exact Kret.mk (KO kb b1 b2 { s with T := tput o.e s.T }) (.tmp (by rfl) .nil) (by rfl) trivial (HLe.sub (.cons (s := 1060) rfl (CLe.refl _ _) rfl (.cons (s := 1051) rfl (CLe.mp (aput_tput hs.t o.e).symm) rfl (.cons (s := 1052) rfl (CLe.refl _ _) rfl .nil)))) ⟨rfl, rfl⟩)
                  | (rw [kdo_rem h16 h45 k3 f74]; exact Kret.mk (KO kb b1 b2 { s with T := tdel o.e.p s.T }) (.tmp (by rfl) .nil) (by rfl) trivial (HLe.sub (.cons (s := 1060) rfl (CLe.refl _ _) rfl (.cons (s := 1051) rfl (by rw [adel_tdel]; exact CLe.refl _ _) rfl (.cons (s := 1052) rfl (CLe.refl _ _) rfl .nil)))) ⟨rfl, rfl⟩)
                  | (rw [kdo_no h16 h45 (by rintro ⟨x1, x2⟩; first | omega | (obtain ⟨x3, x4⟩ := x2; simp_all only [Bool.false_eq_true, Bool.true_eq_false, not_true_eq_false, reduceCtorEq]) | simp_all only [Bool.false_eq_true, Bool.true_eq_false, not_true_eq_false, reduceCtorEq]) (by rintro ⟨x1, x2⟩; first | omega | (obtain ⟨x3, x4⟩ := x2; simp_all only [Bool.false_eq_true, Bool.true_eq_false, not_true_eq_false, reduceCtorEq]) | simp_all only [Bool.false_eq_true, Bool.true_eq_false, not_true_eq_false, reduceCtorEq]) (by rintro ⟨x1, x2⟩; first | omega | (obtain ⟨x3, x4⟩ := x2; simp_all only [Bool.false_eq_true, Bool.true_eq_false, not_true_eq_false, reduceCtorEq]) | simp_all only [Bool.false_eq_true, Bool.true_eq_false, not_true_eq_false, reduceCtorEq])]; exact Kret.mk (KO kb b1 b2 s) (.tmp (by rfl) .nil) (by rfl) trivial (HLe.sub (.cons (s := 1060) rfl (CLe.refl _ _) rfl (.cons (s := 1051) rfl (CLe.refl _ _) rfl (.cons (s := 1052) rfl (CLe.refl _ _) rfl .nil)))) ⟨rfl, rfl⟩)
              · skip
                have f74 : ¬ has o.e.p s.T = true := by rw [isSome_has] at c74; simpa using c74
                (repeat refine J.seq ?_)
                refine J.skip ?_
                (repeat refine J.seq ?_)
                refine J.region ?_
                refine WL.yes (by rfl) (Ex.q (q_assign (by rfl)) (by rfl) ?_)
                refine WL.nil ?_
                (repeat refine J.seq ?_)
                refine J.ret ?_
                (repeat (with_reducible first | refine Kseq.ret ?_ | refine Kblock.ret ?_ | refine Kloop.ret ?_))
                first
                  | (rw [kdo_fail h16]; exact Kret.mk (KO kb b1 b2 { s with n := s.n - 1 }) (.tmp (by rfl) .nil) (by rfl) trivial (HLe.sub (.cons (s := 1060) rfl (CLe.box (by rw [hw])) rfl (.cons (s := 1051) rfl (CLe.refl _ _) rfl (.cons (s := 1052) rfl (CLe.refl _ _) rfl .nil)))) ⟨rfl, rfl⟩)
                  | (rw [kdo_bad h16 h45]; exact Kret.mk (KO kb b1 b2 s) (.tmp (by rfl) .nil) (by rfl) trivial (HLe.sub (.cons (s := 1060) rfl (CLe.refl _ _) rfl (.cons (s := 1051) rfl (CLe.refl _ _) rfl (.cons (s := 1052) rfl (CLe.refl _ _) rfl .nil)))) ⟨rfl, rfl⟩)
                  | (rw [kdo_add h16 h45 k1 t1 f49]; exact Kret.mk (KO kb b1 b2 { s with T := tput o.e s.T }) (.tmp (by rfl) .nil) (by rfl) trivial (HLe.sub (.cons (s := 1060) rfl (CLe.refl _ _) rfl (.cons (s := 1051) rfl (CLe.mp (aput_tput hs.t o.e).symm) rfl (.cons (s := 1052) rfl (CLe.refl _ _) rfl .nil)))) ⟨rfl, rfl⟩)
                  | (rw [kdo_chg h16 h45 k2 f49]; exact Kret.mk (KO kb b1 b2 { s with T := tput o.e s.T }) (.tmp (by rfl) .nil) (by rfl) trivial (HLe.sub (.cons (s := 1060) rfl (CLe.refl _ _) rfl (.cons (s := 1051) rfl (CLe.mp (aput_tput hs.t o.e).symm) rfl (.cons (s := 1052) rfl (CLe.refl _ _) rfl .nil)))) ⟨rfl, rfl⟩)
                  | (rw [kdo_rem h16 h45 k3 f74]; exact Kret.mk (KO kb b1 b2 { s with T := tdel o.e.p s.T }) (.tmp (by rfl) .nil) (by rfl) trivial (HLe.sub (.cons (s := 1060) rfl (CLe.refl _ _) rfl (.cons (s := 1051) rfl (by rw [adel_tdel]; exact CLe.refl _ _) rfl (.cons (s := 1052) rfl (CLe.refl _ _) rfl .nil)))) ⟨rfl, rfl⟩)
                  | (rw [kdo_no h16 h45 (by rintro ⟨x1, x2⟩; first | omega | (obtain ⟨x3, x4⟩ := x2; simp_all only [Bool.false_eq_true, Bool.true_eq_false, not_true_eq_false, reduceCtorEq]) | simp_all only [Bool.false_eq_true, Bool.true_eq_false, not_true_eq_false, reduceCtorEq]) (by rintro ⟨x1, x2⟩; first | omega | (obtain ⟨x3, x4⟩ := x2; simp_all only [Bool.false_eq_true, Bool.true_eq_false, not_true_eq_false, reduceCtorEq]) | simp_all only [Bool.false_eq_true, Bool.true_eq_false, not_true_eq_false, reduceCtorEq]) (by rintro ⟨x1, x2⟩; first | omega | (obtain ⟨x3, x4⟩ := x2; simp_all only [Bool.false_eq_true, Bool.true_eq_false, not_true_eq_false, reduceCtorEq]) | simp_all only [Bool.false_eq_true, Bool.true_eq_false, not_true_eq_false, reduceCtorEq])]; exact Kret.mk (KO kb b1 b2 s) (.tmp (by rfl) .nil) (by rfl) trivial (HLe.sub (.cons (s := 1060) rfl (CLe.refl _ _) rfl (.cons (s := 1051) rfl (CLe.refl _ _) rfl (.cons (s := 1052) rfl (CLe.refl _ _) rfl .nil)))) ⟨rfl, rfl⟩)
            · skip
              have k3 : ¬ o.k = 3 := of_decide_eq_false g78
              refine WL.no (by rfl) (by rfl) ?_
              refine WL.yes (by rfl) (Ex.q (q_pick_f (by rfl) (by rfl)) (by rfl) ?_)
              refine WL.yes (by rfl) (Ex.q (q_assign (by rfl)) (by rfl) ?_)
              refine WL.nil ?_
              (repeat refine J.seq ?_)
              refine J.condF (by rfl) ?_
              (repeat refine J.seq ?_)
              refine J.skip ?_
              (repeat refine J.seq ?_)
              refine J.region ?_
              refine WL.yes (by rfl) (Ex.q (q_assign (by rfl)) (by rfl) ?_)
              refine WL.nil ?_
              (repeat refine J.seq ?_)
              refine J.ret ?_
              (repeat (with_reducible first | refine Kseq.ret ?_ | refine Kblock.ret ?_ | refine Kloop.ret ?_))
              first
                | (rw [kdo_fail h16]; exact Kret.mk (KO kb b1 b2 { s with n := s.n - 1 }) (.tmp (by rfl) .nil) (by rfl) trivial (HLe.sub (.cons (s := 1060) rfl (CLe.box (by rw [hw])) rfl (.cons (s := 1051) rfl (CLe.refl _ _) rfl (.cons (s := 1052) rfl (CLe.refl _ _) rfl .nil)))) ⟨rfl, rfl⟩)
                | (rw [kdo_bad h16 h45]; exact Kret.mk (KO kb b1 b2 s) (.tmp (by rfl) .nil) (by rfl) trivial (HLe.sub (.cons (s := 1060) rfl (CLe.refl _ _) rfl (.cons (s := 1051) rfl (CLe.refl _ _) rfl (.cons (s := 1052) rfl (CLe.refl _ _) rfl .nil)))) ⟨rfl, rfl⟩)
                | (rw [kdo_add h16 h45 k1 t1 f49]; exact Kret.mk (KO kb b1 b2 { s with T := tput o.e s.T }) (.tmp (by rfl) .nil) (by rfl) trivial (HLe.sub (.cons (s := 1060) rfl (CLe.refl _ _) rfl (.cons (s := 1051) rfl (CLe.mp (aput_tput hs.t o.e).symm) rfl (.cons (s := 1052) rfl (CLe.refl _ _) rfl .nil)))) ⟨rfl, rfl⟩)
                | (rw [kdo_chg h16 h45 k2 f49]; exact Kret.mk (KO kb b1 b2 { s with T := tput o.e s.T }) (.tmp (by rfl) .nil) (by rfl) trivial (HLe.sub (.cons (s := 1060) rfl (CLe.refl _ _) rfl (.cons (s := 1051) rfl (CLe.mp (aput_tput hs.t o.e).symm) rfl (.cons (s := 1052) rfl (CLe.refl _ _) rfl .nil)))) ⟨rfl, rfl⟩)
                | (rw [kdo_rem h16 h45 k3 f74]; exact Kret.mk (KO kb b1 b2 { s with T := tdel o.e.p s.T }) (.tmp (by rfl) .nil) (by rfl) trivial (HLe.sub (.cons (s := 1060) rfl (CLe.refl _ _) rfl (.cons (s := 1051) rfl (by rw [adel_tdel]; exact CLe.refl _ _) rfl (.cons (s := 1052) rfl (CLe.refl _ _) rfl .nil)))) ⟨rfl, rfl⟩)
                | (rw [kdo_no h16 h45 (by rintro ⟨x1, x2⟩; first | omega | (obtain ⟨x3, x4⟩ := x2; simp_all only [Bool.false_eq_true, Bool.true_eq_false, not_true_eq_false, reduceCtorEq]) | simp_all only [Bool.false_eq_true, Bool.true_eq_false, not_true_eq_false, reduceCtorEq]) (by rintro ⟨x1, x2⟩; first | omega | (obtain ⟨x3, x4⟩ := x2; simp_all only [Bool.false_eq_true, Bool.true_eq_false, not_true_eq_false, reduceCtorEq]) | simp_all only [Bool.false_eq_true, Bool.true_eq_false, not_true_eq_false, reduceCtorEq]) (by rintro ⟨x1, x2⟩; first | omega | (obtain ⟨x3, x4⟩ := x2; simp_all only [Bool.false_eq_true, Bool.true_eq_false, not_true_eq_false, reduceCtorEq]) | simp_all only [Bool.false_eq_true, Bool.true_eq_false, not_true_eq_false, reduceCtorEq])]; exact Kret.mk (KO kb b1 b2 s) (.tmp (by rfl) .nil) (by rfl) trivial (HLe.sub (.cons (s := 1060) rfl (CLe.refl _ _) rfl (.cons (s := 1051) rfl (CLe.refl _ _) rfl (.cons (s := 1052) rfl (CLe.refl _ _) rfl .nil)))) ⟨rfl, rfl⟩)

set_option maxHeartbeats 4000000 in
set_option maxRecDepth 100000 in
theorem kDoNil_spec (o : Opn) : Spec Try.prog 14 [.nilp, opE o] [] (fun r H' => r = .bool false ∧ H' = []) := by
  refine Spec.of_J Try.func14 rfl Try.ntmps14 Try.results14 rfl ?_
  intro A F hAF
  (repeat refine J.seq ?_)
  refine J.region ?_
  refine WL.yes (by rfl) (Ex.box (by rfl) (by rfl) (by rfl) ?_)
  intro b3
  refine WL.yes (by rfl) (Ex.q (q_assign (by rfl)) (by rfl) ?_)
  refine WL.nil ?_
  (repeat refine J.seq ?_)
  refine J.region ?_
  refine WL.yes (by rfl) (Ex.q (q_move (by rfl)) (by rfl) ?_)
  refine WL.yes (by rfl) (Ex.q (q_eqnil (by rfl) (by rfl) (by rfl)) (by rfl) ?_)
  refine WL.nil ?_
  (repeat refine J.seq ?_)
  refine J.cond (by rfl) (fun c11 => ?_) (fun c11 => ?_)
  · skip
    (repeat refine J.seq ?_)
    refine J.region ?_
    refine WL.yes (by rfl) (Ex.q (q_assign (by rfl)) (by rfl) ?_)
    refine WL.nil ?_
    (repeat refine J.seq ?_)
    refine J.ret ?_
    (repeat (with_reducible first | refine Kseq.ret ?_ | refine Kblock.ret ?_ | refine Kloop.ret ?_))
    exact Kret.mk [] (.tmp (by rfl) .nil) (by rfl) trivial (HLe.nil _ _) ⟨rfl, rfl⟩
  · skip
    cases c11

set_option maxHeartbeats 4000000 in
set_option maxRecDepth 100000 in
theorem kList_spec (kb b1 b2 : Nat) {s : KS} (hs : KOk' s) (hn : s.T.length ≤ 1000000) : Spec Try.prog 21 [.ptr 1060 kb 0] (KO kb b1 b2 s) (fun r H' => ∃ a cap, r = .sl 1104 a 51 0 cap s.T.length ∧ H' = KO kb b1 b2 s ++ [(1104, lvec a 37 51 cap enE s.T)]) := by
  refine Spec.of_J Try.func21 rfl Try.ntmps21 Try.results21 rfl ?_
  intro A F hAF
  (repeat refine J.seq ?_)
  refine J.region ?_
  refine WL.yes (by rfl) (Ex.q (q_assign (by rfl)) (by rfl) ?_)
  refine WL.nil ?_
  (repeat refine J.seq ?_)
  refine J.region ?_
  refine WL.yes (by rfl) (Ex.q (q_move (by rfl)) (by rfl) ?_)
  refine WL.yes (by rfl) (Ex.q (q_eqnil (by rfl) (by rfl) (by rfl)) (by rfl) ?_)
  refine WL.nil ?_
  (repeat refine J.seq ?_)
  refine J.cond (by rfl) (fun c4 => ?_) (fun c4 => ?_)
  · skip
    cases c4
  · skip
    (repeat refine J.seq ?_)
    refine J.skip ?_
    (repeat refine J.seq ?_)
    refine J.region ?_
    refine WL.yes (by rfl) (Ex.q (q_move (by rfl)) (by rfl) ?_)
    refine WL.yes (by rfl) (Ex.q (q_nilCheck (by rfl) (by rfl)) (by rfl) ?_)
    first | (refine WL.yes (by rfl) (Ex.q (q_fieldAddr (by rfl)) (by rfl) ?_)) | (refine WL.yes (by rfl) (Ex.q (q_fieldAddr_rop (by rfl) (by rfl)) (by rfl) ?_)) | (refine WL.yes (by rfl) (Ex.q (q_fieldAddr_pel (by rfl)) (by rfl) ?_))
    first | (refine WL.yes (by rfl) (Ex.h (h_load (by rfl) (by rfl) (by rfl)) (by rfl) ?_)) | (refine WL.yes (by rfl) (Ex.q (q_load (by rfl) (by rfl) (by rfl)) (by rfl) ?_)) | (refine WL.yes (by rfl) (Ex.q (q_load_rop (by rfl) (by rfl)) (by rfl) ?_)) | (refine WL.yes (by rfl) (Ex.h (h_load_pel (by rfl) (by rfl) ?_ (by rfl)) (by rfl) ?_); (· omega)) | (refine WL.yes (by rfl) (Ex.q (q_load_pel (by rfl) (by rfl) ?_ (by rfl)) (by rfl) ?_); (· omega))
    refine WL.yes (by rfl) (Ex.call [.map 1051 (some b1)] [(1051, tbl b1 s.T)] [1051] (list57 1051 1104 b1 (by decide) hs.t hn) (by rfl) (by rfl) rfl (fun _ h => h) (fun t c hg => ⟨tags_of hg, by obtain ⟨rfl, rfl⟩ := get1 hg; rfl⟩) ?_)
    rintro _ _ ⟨a, cap, rfl, rfl⟩
    refine WL.yes (by rfl) (Ex.q (q_assign (by rfl)) (by rfl) ?_)
    refine WL.nil ?_
    (repeat refine J.seq ?_)
    refine J.ret ?_
    (repeat (with_reducible first | refine Kseq.ret ?_ | refine Kblock.ret ?_ | refine Kloop.ret ?_))
    exact Kret.mk _ (.tmp (by rfl) .nil) (by rfl) trivial (HLe.sub (.cons (s := 1060) rfl (CLe.refl _ _) rfl (.cons (s := 1051) rfl (CLe.refl _ _) rfl (.cons (s := 1052) rfl (CLe.refl _ _) rfl (.cons (s := 1104) rfl (CLe.refl _ _) rfl .nil))))) ⟨a, cap, rfl, rfl⟩

set_option maxHeartbeats 4000000 in
set_option maxRecDepth 100000 in
theorem kListNil_spec  : Spec Try.prog 21 [.nilp] [] (fun r H' => r = .sl 0 none 0 0 0 0 ∧ H' = []) := by
  refine Spec.of_J Try.func21 rfl Try.ntmps21 Try.results21 rfl ?_
  intro A F hAF
  (repeat refine J.seq ?_)
  refine J.region ?_
  refine WL.yes (by rfl) (Ex.q (q_assign (by rfl)) (by rfl) ?_)
  refine WL.nil ?_
  (repeat refine J.seq ?_)
  refine J.region ?_
  refine WL.yes (by rfl) (Ex.q (q_move (by rfl)) (by rfl) ?_)
  refine WL.yes (by rfl) (Ex.q (q_eqnil (by rfl) (by rfl) (by rfl)) (by rfl) ?_)
  refine WL.nil ?_
  (repeat refine J.seq ?_)
  refine J.cond (by rfl) (fun c4 => ?_) (fun c4 => ?_)
  · skip
    (repeat refine J.seq ?_)
    refine J.region ?_
    refine WL.yes (by rfl) (Ex.q (q_assign (by rfl)) (by rfl) ?_)
    refine WL.nil ?_
    (repeat refine J.seq ?_)
    refine J.ret ?_
    (repeat (with_reducible first | refine Kseq.ret ?_ | refine Kblock.ret ?_ | refine Kloop.ret ?_))
    exact Kret.mk [] (.tmp (by rfl) .nil) (by rfl) trivial (HLe.nil _ _) ⟨rfl, rfl⟩
  · skip
    cases c4

set_option maxHeartbeats 4000000 in
set_option maxRecDepth 100000 in
theorem kImported_spec (kb b1 b2 : Nat) {s : KS} (hs : KOk' s) (hn : s.U.length ≤ 1000000) : Spec Try.prog 22 [.ptr 1060 kb 0] (KO kb b1 b2 s) (fun r H' => ∃ a cap, r = .sl 1104 a 51 0 cap s.U.length ∧ H' = KO kb b1 b2 s ++ [(1104, lvec a 37 51 cap enE s.U)]) := by
  refine Spec.of_J Try.func22 rfl Try.ntmps22 Try.results22 rfl ?_
  intro A F hAF
  (repeat refine J.seq ?_)
  refine J.region ?_
  refine WL.yes (by rfl) (Ex.q (q_assign (by rfl)) (by rfl) ?_)
  refine WL.nil ?_
  (repeat refine J.seq ?_)
  refine J.region ?_
  refine WL.yes (by rfl) (Ex.q (q_move (by rfl)) (by rfl) ?_)
  refine WL.yes (by rfl) (Ex.q (q_eqnil (by rfl) (by rfl) (by rfl)) (by rfl) ?_)
  refine WL.nil ?_
  (repeat refine J.seq ?_)
  refine J.cond (by rfl) (fun c4 => ?_) (fun c4 => ?_)
  · skip
    cases c4
  · skip
    (repeat refine J.seq ?_)
    refine J.skip ?_
    (repeat refine J.seq ?_)
    refine J.region ?_
    refine WL.yes (by rfl) (Ex.q (q_move (by rfl)) (by rfl) ?_)
    refine WL.yes (by rfl) (Ex.q (q_nilCheck (by rfl) (by rfl)) (by rfl) ?_)
    first | (refine WL.yes (by rfl) (Ex.q (q_fieldAddr (by rfl)) (by rfl) ?_)) | (refine WL.yes (by rfl) (Ex.q (q_fieldAddr_rop (by rfl) (by rfl)) (by rfl) ?_)) | (refine WL.yes (by rfl) (Ex.q (q_fieldAddr_pel (by rfl)) (by rfl) ?_))
    first | (refine WL.yes (by rfl) (Ex.h (h_load (by rfl) (by rfl) (by rfl)) (by rfl) ?_)) | (refine WL.yes (by rfl) (Ex.q (q_load (by rfl) (by rfl) (by rfl)) (by rfl) ?_)) | (refine WL.yes (by rfl) (Ex.q (q_load_rop (by rfl) (by rfl)) (by rfl) ?_)) | (refine WL.yes (by rfl) (Ex.h (h_load_pel (by rfl) (by rfl) ?_ (by rfl)) (by rfl) ?_); (· omega)) | (refine WL.yes (by rfl) (Ex.q (q_load_pel (by rfl) (by rfl) ?_ (by rfl)) (by rfl) ?_); (· omega))
    refine WL.yes (by rfl) (Ex.call [.map 1052 (some b2)] [(1052, tbl b2 s.U)] [1052] (list57 1052 1104 b2 (by decide) hs.u hn) (by rfl) (by rfl) rfl (fun _ h => h) (fun t c hg => ⟨tags_of hg, by obtain ⟨rfl, rfl⟩ := get1 hg; rfl⟩) ?_)
    rintro _ _ ⟨a, cap, rfl, rfl⟩
    refine WL.yes (by rfl) (Ex.q (q_assign (by rfl)) (by rfl) ?_)
    refine WL.nil ?_
    (repeat refine J.seq ?_)
    refine J.ret ?_
    (repeat (with_reducible first | refine Kseq.ret ?_ | refine Kblock.ret ?_ | refine Kloop.ret ?_))
    exact Kret.mk _ (.tmp (by rfl) .nil) (by rfl) trivial (HLe.sub (.cons (s := 1060) rfl (CLe.refl _ _) rfl (.cons (s := 1051) rfl (CLe.refl _ _) rfl (.cons (s := 1052) rfl (CLe.refl _ _) rfl (.cons (s := 1104) rfl (CLe.refl _ _) rfl .nil))))) ⟨a, cap, rfl, rfl⟩

set_option maxHeartbeats 4000000 in
set_option maxRecDepth 100000 in
theorem kImportedNil_spec  : Spec Try.prog 22 [.nilp] [] (fun r H' => r = .sl 0 none 0 0 0 0 ∧ H' = []) := by
  refine Spec.of_J Try.func22 rfl Try.ntmps22 Try.results22 rfl ?_
  intro A F hAF
  (repeat refine J.seq ?_)
  refine J.region ?_
  refine WL.yes (by rfl) (Ex.q (q_assign (by rfl)) (by rfl) ?_)
  refine WL.nil ?_
  (repeat refine J.seq ?_)
  refine J.region ?_
  refine WL.yes (by rfl) (Ex.q (q_move (by rfl)) (by rfl) ?_)
  refine WL.yes (by rfl) (Ex.q (q_eqnil (by rfl) (by rfl) (by rfl)) (by rfl) ?_)
  refine WL.nil ?_
  (repeat refine J.seq ?_)
  refine J.cond (by rfl) (fun c4 => ?_) (fun c4 => ?_)
  · skip
    (repeat refine J.seq ?_)
    refine J.region ?_
    refine WL.yes (by rfl) (Ex.q (q_assign (by rfl)) (by rfl) ?_)
    refine WL.nil ?_
    (repeat refine J.seq ?_)
    refine J.ret ?_
    (repeat (with_reducible first | refine Kseq.ret ?_ | refine Kblock.ret ?_ | refine Kloop.ret ?_))
    exact Kret.mk [] (.tmp (by rfl) .nil) (by rfl) trivial (HLe.nil _ _) ⟨rfl, rfl⟩
  · skip
    cases c4

end Go.Vm
