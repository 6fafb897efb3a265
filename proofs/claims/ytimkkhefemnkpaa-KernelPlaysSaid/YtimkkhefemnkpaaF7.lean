/- The document's kernel: the walks. -/
import Derived.Test.YtimkkhefemnkpaaF6
namespace Go.Vm
open Go Go.Proofs

set_option maxHeartbeats 16000000 in
set_option maxRecDepth 100000 in
theorem rDo_spec (wb : Nat) (a1 : Option Nat) (c1 : Nat) (a2 : Option Nat) (c2 : Nat) {s : KS} {o : Opn} (hs : KOk' s) (ho : o.e.ok) (hl : s.T.length ≤ 1000) (hl2 : s.U.length ≤ 1000) : Spec Try.prog 15 [.ptr 3060 wb 0, opE o] [(3060, .box wb 29 (rVv a1 a2 c1 c2 s)), (3051, lvec a1 37 51 c1 enE s.T), (3052, lvec a2 37 51 c2 enE s.U)] (fun r H' => ∃ a1' c1' a2' c2', r = .bool (kdo s o).1 ∧ H' = RO wb a1' c1' a2' c2' (kdo s o).2) := by
  refine Spec.of_J Try.func15 rfl Try.ntmps15 Try.results15 rfl ?_
  intro A F hAF
  (repeat refine J.seq ?_)
  refine J.region ?_
  refine WL.yes (by rfl) (Ex.box (by rfl) (by rfl) (by rfl) ?_)
  intro b3
  refine WL.yes (by rfl) (Ex.q (q_assign (by rfl)) (by rfl) ?_)
  refine WL.nil ?_
  (repeat refine J.seq ?_)
  refine J.region ?_
  refine WL.yes (by rfl) (Ex.q (q_move (by rfl)) (by rfl) ?_)
  refine WL.yes (by rfl) (Ex.q (q_nilCheck (by rfl) (by rfl)) (by rfl) ?_)
  first | (refine WL.yes (by rfl) (Ex.q (q_fieldAddr (by rfl)) (by rfl) ?_)) | (refine WL.yes (by rfl) (Ex.q (q_fieldAddr_rop (by rfl) (by rfl)) (by rfl) ?_)) | (refine WL.yes (by rfl) (Ex.q (q_fieldAddr_pel (by rfl)) (by rfl) ?_))
  first | (refine WL.yes (by rfl) (Ex.h (h_load (by rfl) (by rfl) (by rfl)) (by rfl) ?_)) | (refine WL.yes (by rfl) (Ex.q (q_load (by rfl) (by rfl) (by rfl)) (by rfl) ?_)) | (refine WL.yes (by rfl) (Ex.q (q_load_rop (by rfl) (by rfl)) (by rfl) ?_)) | (refine WL.yes (by rfl) (Ex.h (h_load_pel (by rfl) (by rfl) ?_ (by rfl)) (by rfl) ?_); (· (omega))) | (refine WL.yes (by rfl) (Ex.q (q_load_pel (by rfl) (by rfl) ?_ (by rfl)) (by rfl) ?_); (· (omega)))
  refine WL.yes (by rfl) (Ex.q (q_int (by rfl) (by rfl) (by rfl)) (by rfl) ?_)
  refine WL.nil ?_
  (repeat refine J.seq ?_)
  refine J.cond (by rfl) (fun c11 => ?_) (fun c11 => ?_)
  · skip
    (first | have e11 := of_decide_eq_true c11 | have e11 := of_decide_eq_false c11 | have e11 := ndec_t c11 | have e11 := ndec_f c11 | skip)
    have h16 : 0 < s.n := e11
    have hw : IntKind.i64.wrap (s.n - 1) = s.n - 1 := w64 (by have := hs.n; omega) (by have := hs.n; omega)
    (repeat refine J.seq ?_)
    refine J.region ?_
    refine WL.yes (by rfl) (Ex.q (q_move (by rfl)) (by rfl) ?_)
    refine WL.yes (by rfl) (Ex.q (q_nilCheck (by rfl) (by rfl)) (by rfl) ?_)
    first | (refine WL.yes (by rfl) (Ex.q (q_fieldAddr (by rfl)) (by rfl) ?_)) | (refine WL.yes (by rfl) (Ex.q (q_fieldAddr_rop (by rfl) (by rfl)) (by rfl) ?_)) | (refine WL.yes (by rfl) (Ex.q (q_fieldAddr_pel (by rfl)) (by rfl) ?_))
    first | (refine WL.yes (by rfl) (Ex.h (h_load (by rfl) (by rfl) (by rfl)) (by rfl) ?_)) | (refine WL.yes (by rfl) (Ex.q (q_load (by rfl) (by rfl) (by rfl)) (by rfl) ?_)) | (refine WL.yes (by rfl) (Ex.q (q_load_rop (by rfl) (by rfl)) (by rfl) ?_)) | (refine WL.yes (by rfl) (Ex.h (h_load_pel (by rfl) (by rfl) ?_ (by rfl)) (by rfl) ?_); (· (omega))) | (refine WL.yes (by rfl) (Ex.q (q_load_pel (by rfl) (by rfl) ?_ (by rfl)) (by rfl) ?_); (· (omega)))
    refine WL.yes (by rfl) (Ex.q (q_int (by rfl) (by rfl) (by rfl)) (by rfl) ?_)
    refine WL.yes (by rfl) (Ex.q (q_nilCheck (by rfl) (by rfl)) (by rfl) ?_)
    first | (refine WL.yes (by rfl) (Ex.q (q_fieldAddr (by rfl)) (by rfl) ?_)) | (refine WL.yes (by rfl) (Ex.q (q_fieldAddr_rop (by rfl) (by rfl)) (by rfl) ?_)) | (refine WL.yes (by rfl) (Ex.q (q_fieldAddr_pel (by rfl)) (by rfl) ?_))
    first | (refine WL.yes (by rfl) (Ex.store (by rfl) (by rfl) (by rfl) (by rfl) (by rfl) (by rfl) ?_)) | (refine WL.yes (by rfl) (Ex.store_pel (by rfl) (by rfl) (by rfl) (by rfl) (by rfl) ?_ (by rfl) ?_); (· (omega)))
    refine WL.nil ?_
    (repeat refine J.seq ?_)
    refine J.region ?_
    refine WL.yes (by rfl) (Ex.q (q_assign (by rfl)) (by rfl) ?_)
    refine WL.nil ?_
    (repeat refine J.seq ?_)
    refine J.ret ?_
    (repeat (with_reducible first | refine Kseq.ret ?_ | refine Kblock.ret ?_ | refine Kloop.ret ?_ | refine Kcut.ret ?_))
    first
      | (have hk := kdo_fail (o := o) h16; rw [hk]; exact Kret.mk (RO wb a1 c1 a2 c2 { s with n := s.n - 1 }) (.tmp (by rfl) .nil) (by rfl) trivial (HLe.sub (.cons (s := 3060) rfl (CLe.box (by rw [hw])) rfl (.cons (s := 3051) rfl (CLe.refl _ _) rfl (.cons (s := 3052) rfl (CLe.refl _ _) rfl .nil)))) ⟨a1, c1, a2, c2, rfl, rfl⟩)
      | (have hk := kdo_bad (o := o) h16 h45; rw [hk]; exact Kret.mk (RO wb a1 c1 a2 c2 s) (.tmp (by rfl) .nil) (by rfl) trivial (HLe.sub (.cons (s := 3060) rfl (CLe.refl _ _) rfl (.cons (s := 3051) rfl (CLe.refl _ _) rfl (.cons (s := 3052) rfl (CLe.refl _ _) rfl .nil)))) ⟨a1, c1, a2, c2, rfl, rfl⟩)
      | (have hk := kdo_add h16 h45 e33 t1 u1; rw [hk]; exact Kret.mk (RO wb a53 cap53 a2 c2 { s with T := tput o.e s.T }) (.tmp (by rfl) .nil) (by rfl) trivial (HLe.sub (.cons (s := 3060) rfl (CLe.cells (by cases a53 <;> rfl) (fun _ => rfl) (fun _ => ⟨trivial, trivial, trivial⟩)) rfl (.cons (s := 2044) rfl (CLe.refl _ _) rfl (.cons (s := 3052) rfl (CLe.refl _ _) rfl .nil)))) ⟨a53, cap53, a2, c2, rfl, rfl⟩)
      | (have hk := kdo_chg h16 h45 e56 t1; rw [hk]; exact Kret.mk (RO wb a67 cap67 a2 c2 { s with T := tput o.e s.T }) (.tmp (by rfl) .nil) (by rfl) trivial (HLe.sub (.cons (s := 3060) rfl (CLe.cells (by cases a67 <;> rfl) (fun _ => rfl) (fun _ => ⟨trivial, trivial, trivial⟩)) rfl (.cons (s := 2044) rfl (CLe.refl _ _) rfl (.cons (s := 3052) rfl (CLe.refl _ _) rfl .nil)))) ⟨a67, cap67, a2, c2, rfl, rfl⟩)
      | (have hk := kdo_rem h16 h45 e70 t1; rw [hk]; exact Kret.mk (RO wb a90 cap90 a2 c2 { s with T := tdel o.e.p s.T }) (.tmp (by rfl) .nil) (by rfl) trivial (HLe.sub (.cons (s := 3060) rfl (CLe.cells (by rw [← tdel_at hs.t hk1 hk2]; cases a90 <;> rfl) (fun _ => rfl) (fun _ => ⟨trivial, trivial, trivial⟩)) rfl (.cons (s := 90) rfl (by rw [← tdel_at hs.t hk1 hk2]; exact CLe.refl _ _) rfl (.cons (s := 3052) rfl (CLe.refl _ _) rfl .nil)))) ⟨a90, cap90, a2, c2, rfl, rfl⟩)
      | (have hk := kdo_no h16 h45 (by rintro ⟨x1, x2⟩; first | omega | (obtain ⟨x3, x4⟩ := x2; simp_all only [Bool.false_eq_true, Bool.true_eq_false, not_true_eq_false, reduceCtorEq]) | simp_all only [Bool.false_eq_true, Bool.true_eq_false, not_true_eq_false, reduceCtorEq]) (by rintro ⟨x1, x2⟩; first | omega | (obtain ⟨x3, x4⟩ := x2; simp_all only [Bool.false_eq_true, Bool.true_eq_false, not_true_eq_false, reduceCtorEq]) | simp_all only [Bool.false_eq_true, Bool.true_eq_false, not_true_eq_false, reduceCtorEq]) (by rintro ⟨x1, x2⟩; first | omega | (obtain ⟨x3, x4⟩ := x2; simp_all only [Bool.false_eq_true, Bool.true_eq_false, not_true_eq_false, reduceCtorEq]) | simp_all only [Bool.false_eq_true, Bool.true_eq_false, not_true_eq_false, reduceCtorEq]); rw [hk]; exact Kret.mk (RO wb a1 c1 a2 c2 s) (.tmp (by rfl) .nil) (by rfl) trivial (HLe.sub (.cons (s := 3060) rfl (CLe.refl _ _) rfl (.cons (s := 3051) rfl (CLe.refl _ _) rfl (.cons (s := 3052) rfl (CLe.refl _ _) rfl .nil)))) ⟨a1, c1, a2, c2, rfl, rfl⟩)
  · skip
    (first | have e11 := of_decide_eq_true c11 | have e11 := of_decide_eq_false c11 | have e11 := ndec_t c11 | have e11 := ndec_f c11 | skip)
    have h16 : ¬ 0 < s.n := e11
    (repeat refine J.seq ?_)
    refine J.skip ?_
    (repeat refine J.seq ?_)
    refine J.region ?_
    first | (refine WL.yes (by rfl) (Ex.q (q_fieldAddr (by rfl)) (by rfl) ?_)) | (refine WL.yes (by rfl) (Ex.q (q_fieldAddr_rop (by rfl) (by rfl)) (by rfl) ?_)) | (refine WL.yes (by rfl) (Ex.q (q_fieldAddr_pel (by rfl)) (by rfl) ?_))
    first | (refine WL.yes (by rfl) (Ex.q (q_fieldAddr (by rfl)) (by rfl) ?_)) | (refine WL.yes (by rfl) (Ex.q (q_fieldAddr_rop (by rfl) (by rfl)) (by rfl) ?_)) | (refine WL.yes (by rfl) (Ex.q (q_fieldAddr_pel (by rfl)) (by rfl) ?_))
    first | (refine WL.yes (by rfl) (Ex.h (h_load (by rfl) (by rfl) (by rfl)) (by rfl) ?_)) | (refine WL.yes (by rfl) (Ex.q (q_load (by rfl) (by rfl) (by rfl)) (by rfl) ?_)) | (refine WL.yes (by rfl) (Ex.q (q_load_rop (by rfl) (by rfl)) (by rfl) ?_)) | (refine WL.yes (by rfl) (Ex.h (h_load_pel (by rfl) (by rfl) ?_ (by rfl)) (by rfl) ?_); (· (omega))) | (refine WL.yes (by rfl) (Ex.q (q_load_pel (by rfl) (by rfl) ?_ (by rfl)) (by rfl) ?_); (· (omega)))
    refine WL.yes (by rfl) (Ex.alloc (by rfl) ?_)
    intro b5
    first | (refine WL.yes (by rfl) (Ex.store (by rfl) (by rfl) (by rfl) (by rfl) (by rfl) (by rfl) ?_)) | (refine WL.yes (by rfl) (Ex.store_pel (by rfl) (by rfl) (by rfl) (by rfl) (by rfl) ?_ (by rfl) ?_); (· (omega)))
    refine WL.nil ?_
    (repeat refine J.seq ?_)
    refine J.region ?_
    first | (refine WL.yes (by rfl) (Ex.h (h_load (by rfl) (by rfl) (by rfl)) (by rfl) ?_)) | (refine WL.yes (by rfl) (Ex.q (q_load (by rfl) (by rfl) (by rfl)) (by rfl) ?_)) | (refine WL.yes (by rfl) (Ex.q (q_load_rop (by rfl) (by rfl)) (by rfl) ?_)) | (refine WL.yes (by rfl) (Ex.h (h_load_pel (by rfl) (by rfl) ?_ (by rfl)) (by rfl) ?_); (· (omega))) | (refine WL.yes (by rfl) (Ex.q (q_load_pel (by rfl) (by rfl) ?_ (by rfl)) (by rfl) ?_); (· (omega)))
    refine WL.yes (by rfl) (Ex.callq (checkPairR_spec _ _ ?_ ?_) (by rfl) (by rfl) rfl (fun _ h => h) ?_); (· (exact ho.1.1)); (· (exact ho.1.2))
    first | (refine WL.yes (by rfl) (Ex.q (q_int (by rfl) (by rfl) (by rfl)) (by rfl) ?_)) | (refine WL.yes (by rfl) (Ex.q (q_neb (by rfl) (by rfl)) (by rfl) ?_)) | (refine WL.yes (by rfl) (Ex.q (q_nep rfl rfl (by rfl) (by rfl) ?_) (by rfl) ?_); (· (rfl))) | (refine WL.yes (by rfl) (Ex.q (q_eqs (by rfl) (by rfl)) (by rfl) ?_))
    refine WL.nil ?_
    (repeat refine J.seq ?_)
    refine J.cond (by rfl) (fun c24 => ?_) (fun c24 => ?_)
    · skip
      (first | have e24 := of_decide_eq_true c24 | have e24 := of_decide_eq_false c24 | have e24 := ndec_t c24 | have e24 := ndec_f c24 | skip)
      have h45 := okR_nnot c24
      (repeat refine J.seq ?_)
      refine J.region ?_
      refine WL.yes (by rfl) (Ex.q (q_assign (by rfl)) (by rfl) ?_)
      refine WL.nil ?_
      (repeat refine J.seq ?_)
      refine J.ret ?_
      (repeat (with_reducible first | refine Kseq.ret ?_ | refine Kblock.ret ?_ | refine Kloop.ret ?_ | refine Kcut.ret ?_))
      first
        | (have hk := kdo_fail (o := o) h16; rw [hk]; exact Kret.mk (RO wb a1 c1 a2 c2 { s with n := s.n - 1 }) (.tmp (by rfl) .nil) (by rfl) trivial (HLe.sub (.cons (s := 3060) rfl (CLe.box (by rw [hw])) rfl (.cons (s := 3051) rfl (CLe.refl _ _) rfl (.cons (s := 3052) rfl (CLe.refl _ _) rfl .nil)))) ⟨a1, c1, a2, c2, rfl, rfl⟩)
        | (have hk := kdo_bad (o := o) h16 h45; rw [hk]; exact Kret.mk (RO wb a1 c1 a2 c2 s) (.tmp (by rfl) .nil) (by rfl) trivial (HLe.sub (.cons (s := 3060) rfl (CLe.refl _ _) rfl (.cons (s := 3051) rfl (CLe.refl _ _) rfl (.cons (s := 3052) rfl (CLe.refl _ _) rfl .nil)))) ⟨a1, c1, a2, c2, rfl, rfl⟩)
        | (have hk := kdo_add h16 h45 e33 t1 u1; rw [hk]; exact Kret.mk (RO wb a53 cap53 a2 c2 { s with T := tput o.e s.T }) (.tmp (by rfl) .nil) (by rfl) trivial (HLe.sub (.cons (s := 3060) rfl (CLe.cells (by cases a53 <;> rfl) (fun _ => rfl) (fun _ => ⟨trivial, trivial, trivial⟩)) rfl (.cons (s := 2044) rfl (CLe.refl _ _) rfl (.cons (s := 3052) rfl (CLe.refl _ _) rfl .nil)))) ⟨a53, cap53, a2, c2, rfl, rfl⟩)
        | (have hk := kdo_chg h16 h45 e56 t1; rw [hk]; exact Kret.mk (RO wb a67 cap67 a2 c2 { s with T := tput o.e s.T }) (.tmp (by rfl) .nil) (by rfl) trivial (HLe.sub (.cons (s := 3060) rfl (CLe.cells (by cases a67 <;> rfl) (fun _ => rfl) (fun _ => ⟨trivial, trivial, trivial⟩)) rfl (.cons (s := 2044) rfl (CLe.refl _ _) rfl (.cons (s := 3052) rfl (CLe.refl _ _) rfl .nil)))) ⟨a67, cap67, a2, c2, rfl, rfl⟩)
        | (have hk := kdo_rem h16 h45 e70 t1; rw [hk]; exact Kret.mk (RO wb a90 cap90 a2 c2 { s with T := tdel o.e.p s.T }) (.tmp (by rfl) .nil) (by rfl) trivial (HLe.sub (.cons (s := 3060) rfl (CLe.cells (by rw [← tdel_at hs.t hk1 hk2]; cases a90 <;> rfl) (fun _ => rfl) (fun _ => ⟨trivial, trivial, trivial⟩)) rfl (.cons (s := 90) rfl (by rw [← tdel_at hs.t hk1 hk2]; exact CLe.refl _ _) rfl (.cons (s := 3052) rfl (CLe.refl _ _) rfl .nil)))) ⟨a90, cap90, a2, c2, rfl, rfl⟩)
        | (have hk := kdo_no h16 h45 (by rintro ⟨x1, x2⟩; first | omega | (obtain ⟨x3, x4⟩ := x2; simp_all only [Bool.false_eq_true, Bool.true_eq_false, not_true_eq_false, reduceCtorEq]) | simp_all only [Bool.false_eq_true, Bool.true_eq_false, not_true_eq_false, reduceCtorEq]) (by rintro ⟨x1, x2⟩; first | omega | (obtain ⟨x3, x4⟩ := x2; simp_all only [Bool.false_eq_true, Bool.true_eq_false, not_true_eq_false, reduceCtorEq]) | simp_all only [Bool.false_eq_true, Bool.true_eq_false, not_true_eq_false, reduceCtorEq]) (by rintro ⟨x1, x2⟩; first | omega | (obtain ⟨x3, x4⟩ := x2; simp_all only [Bool.false_eq_true, Bool.true_eq_false, not_true_eq_false, reduceCtorEq]) | simp_all only [Bool.false_eq_true, Bool.true_eq_false, not_true_eq_false, reduceCtorEq]); rw [hk]; exact Kret.mk (RO wb a1 c1 a2 c2 s) (.tmp (by rfl) .nil) (by rfl) trivial (HLe.sub (.cons (s := 3060) rfl (CLe.refl _ _) rfl (.cons (s := 3051) rfl (CLe.refl _ _) rfl (.cons (s := 3052) rfl (CLe.refl _ _) rfl .nil)))) ⟨a1, c1, a2, c2, rfl, rfl⟩)
    · skip
      (first | have e24 := of_decide_eq_true c24 | have e24 := of_decide_eq_false c24 | have e24 := ndec_t c24 | have e24 := ndec_f c24 | skip)
      have h45 := okR_nof c24
      (repeat refine J.seq ?_)
      refine J.skip ?_
      (repeat refine J.seq ?_)
      refine J.draw [3, 5, 3051, 3052, 3060] 9999 [(0, true), (1, true), (2, true), (3, true), (4, true), (5, false), (6, true)] (by kernel_rfl) rfl (by kernel_rfl) ?_
      intro F1 hF1
      refine WS.take rfl (by rfl) (by rfl) (q_move (by rfl)) ?_
      refine WS.take rfl (by rfl) (by rfl) (q_nilCheck (by rfl) (by rfl)) ?_
      first | (refine WS.take rfl (by rfl) (by rfl) (q_fieldAddr (by rfl)) ?_) | (refine WS.take rfl (by rfl) (by rfl) (q_fieldAddr_rop (by rfl) (by rfl)) ?_) | (refine WS.take rfl (by rfl) (by rfl) (q_fieldAddr_pel (by rfl)) ?_)
      first | (refine WS.take rfl (by rfl) (by rfl) (q_load (by rfl) (by rfl) (by rfl)) ?_) | (refine WS.take rfl (by rfl) (by rfl) (q_load_rop (by rfl) (by rfl)) ?_) | (refine WS.take rfl (by rfl) (by rfl) (q_load_pel (by rfl) (by rfl) ?_ (by rfl)) ?_; (· (omega)))
      first | (refine WS.take rfl (by rfl) (by rfl) (q_load (by rfl) (by rfl) (by rfl)) ?_) | (refine WS.take rfl (by rfl) (by rfl) (q_load_rop (by rfl) (by rfl)) ?_) | (refine WS.take rfl (by rfl) (by rfl) (q_load_pel (by rfl) (by rfl) ?_ (by rfl)) ?_; (· (omega)))
      refine WS.ex rfl (by rfl) (Ex.callqz (find_spec ?_ ?_ ?_) (by rfl) (by rfl) (.cons (.sla (by rfl)) (.cons (.same _) .nil)) (fun _ => trivial) ?_); (· (omega)); (· (first | exact hs.t.ok | exact hs.u.ok)); (· (exact ho.1))
      refine WS.take rfl (by rfl) (by rfl) (q_assign (by rfl)) ?_
      refine WS.nil ?_
      (repeat refine J.seq ?_)
      refine J.region ?_
      first | (refine WL.yes (by rfl) (Ex.q (q_fieldAddr (by rfl)) (by rfl) ?_)) | (refine WL.yes (by rfl) (Ex.q (q_fieldAddr_rop (by rfl) (by rfl)) (by rfl) ?_)) | (refine WL.yes (by rfl) (Ex.q (q_fieldAddr_pel (by rfl)) (by rfl) ?_))
      first | (refine WL.yes (by rfl) (Ex.h (h_load (by rfl) (by rfl) (by rfl)) (by rfl) ?_)) | (refine WL.yes (by rfl) (Ex.q (q_load (by rfl) (by rfl) (by rfl)) (by rfl) ?_)) | (refine WL.yes (by rfl) (Ex.q (q_load_rop (by rfl) (by rfl)) (by rfl) ?_)) | (refine WL.yes (by rfl) (Ex.h (h_load_pel (by rfl) (by rfl) ?_ (by rfl)) (by rfl) ?_); (· (omega))) | (refine WL.yes (by rfl) (Ex.q (q_load_pel (by rfl) (by rfl) ?_ (by rfl)) (by rfl) ?_); (· (omega)))
      refine WL.nil ?_
      (repeat refine J.seq ?_)
      refine J.block ?_
      (repeat refine J.seq ?_)
      refine J.region ?_
      first | (refine WL.yes (by rfl) (Ex.q (q_int (by rfl) (by rfl) (by rfl)) (by rfl) ?_)) | (refine WL.yes (by rfl) (Ex.q (q_eqb (by rfl) (by rfl)) (by rfl) ?_)) | (refine WL.yes (by rfl) (Ex.q (q_eqp rfl rfl (by rfl) (by rfl) ?_) (by rfl) ?_); (· (rfl))) | (refine WL.yes (by rfl) (Ex.q (q_eqs (by rfl) (by rfl)) (by rfl) ?_))
      refine WL.yes (by rfl) (Ex.q (q_assign (by rfl)) (by rfl) ?_)
      refine WL.nil ?_
      (repeat refine J.seq ?_)
      refine J.cond (by rfl) (fun c33 => ?_) (fun c33 => ?_)
      · skip
        (first | have e33 := of_decide_eq_true c33 | have e33 := of_decide_eq_false c33 | have e33 := ndec_t c33 | have e33 := ndec_f c33 | skip)
        (repeat refine J.seq ?_)
        refine J.draw [3, 5, 3051, 3052, 3060] 9999 [(0, true), (1, true), (2, true), (3, true), (4, true), (5, true), (6, true), (7, true), (8, false), (9, true), (10, true)] (by kernel_rfl) rfl (by kernel_rfl) ?_
        intro F2 hF2
        refine WS.take rfl (by rfl) (by rfl) (q_move (by rfl)) ?_
        refine WS.take rfl (by rfl) (by rfl) (q_int (by rfl) (by rfl) (by rfl)) ?_
        refine WS.take rfl (by rfl) (by rfl) (q_move (by rfl)) ?_
        refine WS.split 37 (by rfl) (fun g37 => ?_) (fun g37 => ?_)
        · skip
          (first | have eg37 := of_decide_eq_true g37 | have eg37 := of_decide_eq_false g37 | have eg37 := ndec_t g37 | have eg37 := ndec_f g37 | skip)
          have t1 := has_t eg37
          refine WS.takeNo rfl (by rfl) (by rfl) ?_
          refine WS.takeNo rfl (by rfl) (by rfl) ?_
          refine WS.takeNo rfl (by rfl) (by rfl) ?_
          refine WS.takeNo rfl (by rfl) (by rfl) ?_
          refine WS.takeNo rfl (by rfl) (by rfl) ?_
          refine WS.takeNo rfl (by rfl) (by rfl) ?_
          refine WS.takeNo rfl (by rfl) (by rfl) ?_
          refine WS.take rfl (by rfl) (by rfl) (q_pick_t (by rfl) (by rfl)) ?_
          refine WS.nil ?_
          (repeat refine J.seq ?_)
          refine J.condT (by rfl) ?_
          (repeat refine J.seq ?_)
          refine J.region ?_
          refine WL.yes (by rfl) (Ex.q (q_assign (by rfl)) (by rfl) ?_)
          refine WL.nil ?_
          (repeat refine J.seq ?_)
          refine J.ret ?_
          (repeat (with_reducible first | refine Kseq.ret ?_ | refine Kblock.ret ?_ | refine Kloop.ret ?_ | refine Kcut.ret ?_))
          first
            | (have hk := kdo_fail (o := o) h16; rw [hk]; exact Kret.mk (RO wb a1 c1 a2 c2 { s with n := s.n - 1 }) (.tmp (by rfl) .nil) (by rfl) trivial (HLe.sub (.cons (s := 3060) rfl (CLe.box (by rw [hw])) rfl (.cons (s := 3051) rfl (CLe.refl _ _) rfl (.cons (s := 3052) rfl (CLe.refl _ _) rfl .nil)))) ⟨a1, c1, a2, c2, rfl, rfl⟩)
            | (have hk := kdo_bad (o := o) h16 h45; rw [hk]; exact Kret.mk (RO wb a1 c1 a2 c2 s) (.tmp (by rfl) .nil) (by rfl) trivial (HLe.sub (.cons (s := 3060) rfl (CLe.refl _ _) rfl (.cons (s := 3051) rfl (CLe.refl _ _) rfl (.cons (s := 3052) rfl (CLe.refl _ _) rfl .nil)))) ⟨a1, c1, a2, c2, rfl, rfl⟩)
            | (have hk := kdo_add h16 h45 e33 t1 u1; rw [hk]; exact Kret.mk (RO wb a53 cap53 a2 c2 { s with T := tput o.e s.T }) (.tmp (by rfl) .nil) (by rfl) trivial (HLe.sub (.cons (s := 3060) rfl (CLe.cells (by cases a53 <;> rfl) (fun _ => rfl) (fun _ => ⟨trivial, trivial, trivial⟩)) rfl (.cons (s := 2044) rfl (CLe.refl _ _) rfl (.cons (s := 3052) rfl (CLe.refl _ _) rfl .nil)))) ⟨a53, cap53, a2, c2, rfl, rfl⟩)
            | (have hk := kdo_chg h16 h45 e56 t1; rw [hk]; exact Kret.mk (RO wb a67 cap67 a2 c2 { s with T := tput o.e s.T }) (.tmp (by rfl) .nil) (by rfl) trivial (HLe.sub (.cons (s := 3060) rfl (CLe.cells (by cases a67 <;> rfl) (fun _ => rfl) (fun _ => ⟨trivial, trivial, trivial⟩)) rfl (.cons (s := 2044) rfl (CLe.refl _ _) rfl (.cons (s := 3052) rfl (CLe.refl _ _) rfl .nil)))) ⟨a67, cap67, a2, c2, rfl, rfl⟩)
            | (have hk := kdo_rem h16 h45 e70 t1; rw [hk]; exact Kret.mk (RO wb a90 cap90 a2 c2 { s with T := tdel o.e.p s.T }) (.tmp (by rfl) .nil) (by rfl) trivial (HLe.sub (.cons (s := 3060) rfl (CLe.cells (by rw [← tdel_at hs.t hk1 hk2]; cases a90 <;> rfl) (fun _ => rfl) (fun _ => ⟨trivial, trivial, trivial⟩)) rfl (.cons (s := 90) rfl (by rw [← tdel_at hs.t hk1 hk2]; exact CLe.refl _ _) rfl (.cons (s := 3052) rfl (CLe.refl _ _) rfl .nil)))) ⟨a90, cap90, a2, c2, rfl, rfl⟩)
            | (have hk := kdo_no h16 h45 (by rintro ⟨x1, x2⟩; first | omega | (obtain ⟨x3, x4⟩ := x2; simp_all only [Bool.false_eq_true, Bool.true_eq_false, not_true_eq_false, reduceCtorEq]) | simp_all only [Bool.false_eq_true, Bool.true_eq_false, not_true_eq_false, reduceCtorEq]) (by rintro ⟨x1, x2⟩; first | omega | (obtain ⟨x3, x4⟩ := x2; simp_all only [Bool.false_eq_true, Bool.true_eq_false, not_true_eq_false, reduceCtorEq]) | simp_all only [Bool.false_eq_true, Bool.true_eq_false, not_true_eq_false, reduceCtorEq]) (by rintro ⟨x1, x2⟩; first | omega | (obtain ⟨x3, x4⟩ := x2; simp_all only [Bool.false_eq_true, Bool.true_eq_false, not_true_eq_false, reduceCtorEq]) | simp_all only [Bool.false_eq_true, Bool.true_eq_false, not_true_eq_false, reduceCtorEq]); rw [hk]; exact Kret.mk (RO wb a1 c1 a2 c2 s) (.tmp (by rfl) .nil) (by rfl) trivial (HLe.sub (.cons (s := 3060) rfl (CLe.refl _ _) rfl (.cons (s := 3051) rfl (CLe.refl _ _) rfl (.cons (s := 3052) rfl (CLe.refl _ _) rfl .nil)))) ⟨a1, c1, a2, c2, rfl, rfl⟩)
        · skip
          (first | have eg37 := of_decide_eq_true g37 | have eg37 := of_decide_eq_false g37 | have eg37 := ndec_t g37 | have eg37 := ndec_f g37 | skip)
          have t1 := has_f eg37
          refine WS.take rfl (by rfl) (by rfl) (q_move (by rfl)) ?_
          refine WS.take rfl (by rfl) (by rfl) (q_nilCheck (by rfl) (by rfl)) ?_
          first | (refine WS.take rfl (by rfl) (by rfl) (q_fieldAddr (by rfl)) ?_) | (refine WS.take rfl (by rfl) (by rfl) (q_fieldAddr_rop (by rfl) (by rfl)) ?_) | (refine WS.take rfl (by rfl) (by rfl) (q_fieldAddr_pel (by rfl)) ?_)
          first | (refine WS.take rfl (by rfl) (by rfl) (q_load (by rfl) (by rfl) (by rfl)) ?_) | (refine WS.take rfl (by rfl) (by rfl) (q_load_rop (by rfl) (by rfl)) ?_) | (refine WS.take rfl (by rfl) (by rfl) (q_load_pel (by rfl) (by rfl) ?_ (by rfl)) ?_; (· (omega)))
          first | (refine WS.take rfl (by rfl) (by rfl) (q_load (by rfl) (by rfl) (by rfl)) ?_) | (refine WS.take rfl (by rfl) (by rfl) (q_load_rop (by rfl) (by rfl)) ?_) | (refine WS.take rfl (by rfl) (by rfl) (q_load_pel (by rfl) (by rfl) ?_ (by rfl)) ?_; (· (omega)))
          refine WS.ex rfl (by rfl) (Ex.callqz (find_spec ?_ ?_ ?_) (by rfl) (by rfl) (.cons (.sla (by rfl)) (.cons (.same _) .nil)) (fun _ => trivial) ?_); (· (omega)); (· (first | exact hs.t.ok | exact hs.u.ok)); (· (exact ho.1))
          refine WS.take rfl (by rfl) (by rfl) (q_int (by rfl) (by rfl) (by rfl)) ?_
          refine WS.take rfl (by rfl) (by rfl) (q_pick_f (by rfl) (by rfl)) ?_
          refine WS.nil ?_
          (repeat refine J.seq ?_)
          refine J.cond (by rfl) (fun c45 => ?_) (fun c45 => ?_)
          · skip
            (first | have e45 := of_decide_eq_true c45 | have e45 := of_decide_eq_false c45 | have e45 := ndec_t c45 | have e45 := ndec_f c45 | skip)
            have u1 := has_t e45
            (repeat refine J.seq ?_)
            refine J.region ?_
            refine WL.yes (by rfl) (Ex.q (q_assign (by rfl)) (by rfl) ?_)
            refine WL.nil ?_
            (repeat refine J.seq ?_)
            refine J.ret ?_
            (repeat (with_reducible first | refine Kseq.ret ?_ | refine Kblock.ret ?_ | refine Kloop.ret ?_ | refine Kcut.ret ?_))
            first
              | (have hk := kdo_fail (o := o) h16; rw [hk]; exact Kret.mk (RO wb a1 c1 a2 c2 { s with n := s.n - 1 }) (.tmp (by rfl) .nil) (by rfl) trivial (HLe.sub (.cons (s := 3060) rfl (CLe.box (by rw [hw])) rfl (.cons (s := 3051) rfl (CLe.refl _ _) rfl (.cons (s := 3052) rfl (CLe.refl _ _) rfl .nil)))) ⟨a1, c1, a2, c2, rfl, rfl⟩)
              | (have hk := kdo_bad (o := o) h16 h45; rw [hk]; exact Kret.mk (RO wb a1 c1 a2 c2 s) (.tmp (by rfl) .nil) (by rfl) trivial (HLe.sub (.cons (s := 3060) rfl (CLe.refl _ _) rfl (.cons (s := 3051) rfl (CLe.refl _ _) rfl (.cons (s := 3052) rfl (CLe.refl _ _) rfl .nil)))) ⟨a1, c1, a2, c2, rfl, rfl⟩)
              | (have hk := kdo_add h16 h45 e33 t1 u1; rw [hk]; exact Kret.mk (RO wb a53 cap53 a2 c2 { s with T := tput o.e s.T }) (.tmp (by rfl) .nil) (by rfl) trivial (HLe.sub (.cons (s := 3060) rfl (CLe.cells (by cases a53 <;> rfl) (fun _ => rfl) (fun _ => ⟨trivial, trivial, trivial⟩)) rfl (.cons (s := 2044) rfl (CLe.refl _ _) rfl (.cons (s := 3052) rfl (CLe.refl _ _) rfl .nil)))) ⟨a53, cap53, a2, c2, rfl, rfl⟩)
              | (have hk := kdo_chg h16 h45 e56 t1; rw [hk]; exact Kret.mk (RO wb a67 cap67 a2 c2 { s with T := tput o.e s.T }) (.tmp (by rfl) .nil) (by rfl) trivial (HLe.sub (.cons (s := 3060) rfl (CLe.cells (by cases a67 <;> rfl) (fun _ => rfl) (fun _ => ⟨trivial, trivial, trivial⟩)) rfl (.cons (s := 2044) rfl (CLe.refl _ _) rfl (.cons (s := 3052) rfl (CLe.refl _ _) rfl .nil)))) ⟨a67, cap67, a2, c2, rfl, rfl⟩)
              | (have hk := kdo_rem h16 h45 e70 t1; rw [hk]; exact Kret.mk (RO wb a90 cap90 a2 c2 { s with T := tdel o.e.p s.T }) (.tmp (by rfl) .nil) (by rfl) trivial (HLe.sub (.cons (s := 3060) rfl (CLe.cells (by rw [← tdel_at hs.t hk1 hk2]; cases a90 <;> rfl) (fun _ => rfl) (fun _ => ⟨trivial, trivial, trivial⟩)) rfl (.cons (s := 90) rfl (by rw [← tdel_at hs.t hk1 hk2]; exact CLe.refl _ _) rfl (.cons (s := 3052) rfl (CLe.refl _ _) rfl .nil)))) ⟨a90, cap90, a2, c2, rfl, rfl⟩)
              | (have hk := kdo_no h16 h45 (by rintro ⟨x1, x2⟩; first | omega | (obtain ⟨x3, x4⟩ := x2; simp_all only [Bool.false_eq_true, Bool.true_eq_false, not_true_eq_false, reduceCtorEq]) | simp_all only [Bool.false_eq_true, Bool.true_eq_false, not_true_eq_false, reduceCtorEq]) (by rintro ⟨x1, x2⟩; first | omega | (obtain ⟨x3, x4⟩ := x2; simp_all only [Bool.false_eq_true, Bool.true_eq_false, not_true_eq_false, reduceCtorEq]) | simp_all only [Bool.false_eq_true, Bool.true_eq_false, not_true_eq_false, reduceCtorEq]) (by rintro ⟨x1, x2⟩; first | omega | (obtain ⟨x3, x4⟩ := x2; simp_all only [Bool.false_eq_true, Bool.true_eq_false, not_true_eq_false, reduceCtorEq]) | simp_all only [Bool.false_eq_true, Bool.true_eq_false, not_true_eq_false, reduceCtorEq]); rw [hk]; exact Kret.mk (RO wb a1 c1 a2 c2 s) (.tmp (by rfl) .nil) (by rfl) trivial (HLe.sub (.cons (s := 3060) rfl (CLe.refl _ _) rfl (.cons (s := 3051) rfl (CLe.refl _ _) rfl (.cons (s := 3052) rfl (CLe.refl _ _) rfl .nil)))) ⟨a1, c1, a2, c2, rfl, rfl⟩)
          · skip
            (first | have e45 := of_decide_eq_true c45 | have e45 := of_decide_eq_false c45 | have e45 := ndec_t c45 | have e45 := ndec_f c45 | skip)
            have u1 := has_f e45
            (repeat refine J.seq ?_)
            refine J.skip ?_
            (repeat refine J.seq ?_)
            refine J.draw [3, 5, 3051, 3052, 3060] 10 [(0, true), (1, true), (2, true), (3, true), (4, true), (5, true), (6, true), (7, false), (8, true), (9, true), (10, false)] (by kernel_rfl) rfl (by kernel_rfl) ?_
            intro F3 hF3
            refine WS.take rfl (by rfl) (by rfl) (q_move (by rfl)) ?_
            refine WS.take rfl (by rfl) (by rfl) (q_move (by rfl)) ?_
            refine WS.take rfl (by rfl) (by rfl) (q_nilCheck (by rfl) (by rfl)) ?_
            first | (refine WS.take rfl (by rfl) (by rfl) (q_fieldAddr (by rfl)) ?_) | (refine WS.take rfl (by rfl) (by rfl) (q_fieldAddr_rop (by rfl) (by rfl)) ?_) | (refine WS.take rfl (by rfl) (by rfl) (q_fieldAddr_pel (by rfl)) ?_)
            first | (refine WS.take rfl (by rfl) (by rfl) (q_load (by rfl) (by rfl) (by rfl)) ?_) | (refine WS.take rfl (by rfl) (by rfl) (q_load_rop (by rfl) (by rfl)) ?_) | (refine WS.take rfl (by rfl) (by rfl) (q_load_pel (by rfl) (by rfl) ?_ (by rfl)) ?_; (· (omega)))
            first | (refine WS.take rfl (by rfl) (by rfl) (q_fieldAddr (by rfl)) ?_) | (refine WS.take rfl (by rfl) (by rfl) (q_fieldAddr_rop (by rfl) (by rfl)) ?_) | (refine WS.take rfl (by rfl) (by rfl) (q_fieldAddr_pel (by rfl)) ?_)
            first | (refine WS.take rfl (by rfl) (by rfl) (q_load (by rfl) (by rfl) (by rfl)) ?_) | (refine WS.take rfl (by rfl) (by rfl) (q_load_rop (by rfl) (by rfl)) ?_) | (refine WS.take rfl (by rfl) (by rfl) (q_load_pel (by rfl) (by rfl) ?_ (by rfl)) ?_; (· (omega)))
            refine WS.ex rfl (by rfl) (Ex.callz _ [] [] (put_spec ?_ ?_ ?_) (by rfl) (by rfl) (.cons (.sla (by rfl)) (.cons (.same _) .nil)) (fun t c hg => by simp [get] at hg) plain_put ?_); (· (omega)); (· (exact hs.t)); (· (exact ho))
            rintro _ _ ⟨a53, cap53, rfl, rfl⟩
            refine WS.take rfl (by rfl) (by rfl) (q_nilCheck (by rfl) (by rfl)) ?_
            first | (refine WS.take rfl (by rfl) (by rfl) (q_fieldAddr (by rfl)) ?_) | (refine WS.take rfl (by rfl) (by rfl) (q_fieldAddr_rop (by rfl) (by rfl)) ?_) | (refine WS.take rfl (by rfl) (by rfl) (q_fieldAddr_pel (by rfl)) ?_)
            first | (refine WS.last rfl (by rfl) (by rfl) (Ex.store (by rfl) (by rfl) (by rfl) (by rfl) (by rfl) (by rfl) ?_)) | (refine WS.last rfl (by rfl) (by rfl) (Ex.store_pel (by rfl) (by rfl) (by rfl) (by rfl) (by rfl) ?_ (by rfl) ?_); (· (omega)))
            (repeat refine J.seq ?_)
            refine J.region ?_
            refine WL.yes (by rfl) (Ex.q (q_assign (by rfl)) (by rfl) ?_)
            refine WL.nil ?_
            (repeat refine J.seq ?_)
            refine J.ret ?_
            (repeat (with_reducible first | refine Kseq.ret ?_ | refine Kblock.ret ?_ | refine Kloop.ret ?_ | refine Kcut.ret ?_))
            first
              | (have hk := kdo_fail (o := o) h16; rw [hk]; exact Kret.mk (RO wb a1 c1 a2 c2 { s with n := s.n - 1 }) (.tmp (by rfl) .nil) (by rfl) trivial (HLe.sub (.cons (s := 3060) rfl (CLe.box (by rw [hw])) rfl (.cons (s := 3051) rfl (CLe.refl _ _) rfl (.cons (s := 3052) rfl (CLe.refl _ _) rfl .nil)))) ⟨a1, c1, a2, c2, rfl, rfl⟩)
              | (have hk := kdo_bad (o := o) h16 h45; rw [hk]; exact Kret.mk (RO wb a1 c1 a2 c2 s) (.tmp (by rfl) .nil) (by rfl) trivial (HLe.sub (.cons (s := 3060) rfl (CLe.refl _ _) rfl (.cons (s := 3051) rfl (CLe.refl _ _) rfl (.cons (s := 3052) rfl (CLe.refl _ _) rfl .nil)))) ⟨a1, c1, a2, c2, rfl, rfl⟩)
              | (have hk := kdo_add h16 h45 e33 t1 u1; rw [hk]; exact Kret.mk (RO wb a53 cap53 a2 c2 { s with T := tput o.e s.T }) (.tmp (by rfl) .nil) (by rfl) trivial (HLe.sub (.cons (s := 3060) rfl (CLe.cells (by cases a53 <;> rfl) (fun _ => rfl) (fun _ => ⟨trivial, trivial, trivial⟩)) rfl (.cons (s := 2044) rfl (CLe.refl _ _) rfl (.cons (s := 3052) rfl (CLe.refl _ _) rfl .nil)))) ⟨a53, cap53, a2, c2, rfl, rfl⟩)
              | (have hk := kdo_chg h16 h45 e56 t1; rw [hk]; exact Kret.mk (RO wb a67 cap67 a2 c2 { s with T := tput o.e s.T }) (.tmp (by rfl) .nil) (by rfl) trivial (HLe.sub (.cons (s := 3060) rfl (CLe.cells (by cases a67 <;> rfl) (fun _ => rfl) (fun _ => ⟨trivial, trivial, trivial⟩)) rfl (.cons (s := 2044) rfl (CLe.refl _ _) rfl (.cons (s := 3052) rfl (CLe.refl _ _) rfl .nil)))) ⟨a67, cap67, a2, c2, rfl, rfl⟩)
              | (have hk := kdo_rem h16 h45 e70 t1; rw [hk]; exact Kret.mk (RO wb a90 cap90 a2 c2 { s with T := tdel o.e.p s.T }) (.tmp (by rfl) .nil) (by rfl) trivial (HLe.sub (.cons (s := 3060) rfl (CLe.cells (by rw [← tdel_at hs.t hk1 hk2]; cases a90 <;> rfl) (fun _ => rfl) (fun _ => ⟨trivial, trivial, trivial⟩)) rfl (.cons (s := 90) rfl (by rw [← tdel_at hs.t hk1 hk2]; exact CLe.refl _ _) rfl (.cons (s := 3052) rfl (CLe.refl _ _) rfl .nil)))) ⟨a90, cap90, a2, c2, rfl, rfl⟩)
              | (have hk := kdo_no h16 h45 (by rintro ⟨x1, x2⟩; first | omega | (obtain ⟨x3, x4⟩ := x2; simp_all only [Bool.false_eq_true, Bool.true_eq_false, not_true_eq_false, reduceCtorEq]) | simp_all only [Bool.false_eq_true, Bool.true_eq_false, not_true_eq_false, reduceCtorEq]) (by rintro ⟨x1, x2⟩; first | omega | (obtain ⟨x3, x4⟩ := x2; simp_all only [Bool.false_eq_true, Bool.true_eq_false, not_true_eq_false, reduceCtorEq]) | simp_all only [Bool.false_eq_true, Bool.true_eq_false, not_true_eq_false, reduceCtorEq]) (by rintro ⟨x1, x2⟩; first | omega | (obtain ⟨x3, x4⟩ := x2; simp_all only [Bool.false_eq_true, Bool.true_eq_false, not_true_eq_false, reduceCtorEq]) | simp_all only [Bool.false_eq_true, Bool.true_eq_false, not_true_eq_false, reduceCtorEq]); rw [hk]; exact Kret.mk (RO wb a1 c1 a2 c2 s) (.tmp (by rfl) .nil) (by rfl) trivial (HLe.sub (.cons (s := 3060) rfl (CLe.refl _ _) rfl (.cons (s := 3051) rfl (CLe.refl _ _) rfl (.cons (s := 3052) rfl (CLe.refl _ _) rfl .nil)))) ⟨a1, c1, a2, c2, rfl, rfl⟩)
      · skip
        (first | have e33 := of_decide_eq_true c33 | have e33 := of_decide_eq_false c33 | have e33 := ndec_t c33 | have e33 := ndec_f c33 | skip)
        (repeat refine J.seq ?_)
        refine J.region ?_
        first | (refine WL.yes (by rfl) (Ex.q (q_int (by rfl) (by rfl) (by rfl)) (by rfl) ?_)) | (refine WL.yes (by rfl) (Ex.q (q_eqb (by rfl) (by rfl)) (by rfl) ?_)) | (refine WL.yes (by rfl) (Ex.q (q_eqp rfl rfl (by rfl) (by rfl) ?_) (by rfl) ?_); (· (rfl))) | (refine WL.yes (by rfl) (Ex.q (q_eqs (by rfl) (by rfl)) (by rfl) ?_))
        refine WL.yes (by rfl) (Ex.q (q_assign (by rfl)) (by rfl) ?_)
        refine WL.nil ?_
        (repeat refine J.seq ?_)
        refine J.cond (by rfl) (fun c56 => ?_) (fun c56 => ?_)
        · skip
          (first | have e56 := of_decide_eq_true c56 | have e56 := of_decide_eq_false c56 | have e56 := ndec_t c56 | have e56 := ndec_f c56 | skip)
          (repeat refine J.seq ?_)
          refine J.region ?_
          refine WL.yes (by rfl) (Ex.q (q_move (by rfl)) (by rfl) ?_)
          refine WL.yes (by rfl) (Ex.q (q_int (by rfl) (by rfl) (by rfl)) (by rfl) ?_)
          refine WL.nil ?_
          (repeat refine J.seq ?_)
          refine J.cond (by rfl) (fun c59 => ?_) (fun c59 => ?_)
          · skip
            (first | have e59 := of_decide_eq_true c59 | have e59 := of_decide_eq_false c59 | have e59 := ndec_t c59 | have e59 := ndec_f c59 | skip)
            have t1 := has_f' e59
            (repeat refine J.seq ?_)
            refine J.region ?_
            refine WL.yes (by rfl) (Ex.q (q_assign (by rfl)) (by rfl) ?_)
            refine WL.nil ?_
            (repeat refine J.seq ?_)
            refine J.ret ?_
            (repeat (with_reducible first | refine Kseq.ret ?_ | refine Kblock.ret ?_ | refine Kloop.ret ?_ | refine Kcut.ret ?_))
            first
              | (have hk := kdo_fail (o := o) h16; rw [hk]; exact Kret.mk (RO wb a1 c1 a2 c2 { s with n := s.n - 1 }) (.tmp (by rfl) .nil) (by rfl) trivial (HLe.sub (.cons (s := 3060) rfl (CLe.box (by rw [hw])) rfl (.cons (s := 3051) rfl (CLe.refl _ _) rfl (.cons (s := 3052) rfl (CLe.refl _ _) rfl .nil)))) ⟨a1, c1, a2, c2, rfl, rfl⟩)
              | (have hk := kdo_bad (o := o) h16 h45; rw [hk]; exact Kret.mk (RO wb a1 c1 a2 c2 s) (.tmp (by rfl) .nil) (by rfl) trivial (HLe.sub (.cons (s := 3060) rfl (CLe.refl _ _) rfl (.cons (s := 3051) rfl (CLe.refl _ _) rfl (.cons (s := 3052) rfl (CLe.refl _ _) rfl .nil)))) ⟨a1, c1, a2, c2, rfl, rfl⟩)
              | (have hk := kdo_add h16 h45 e33 t1 u1; rw [hk]; exact Kret.mk (RO wb a53 cap53 a2 c2 { s with T := tput o.e s.T }) (.tmp (by rfl) .nil) (by rfl) trivial (HLe.sub (.cons (s := 3060) rfl (CLe.cells (by cases a53 <;> rfl) (fun _ => rfl) (fun _ => ⟨trivial, trivial, trivial⟩)) rfl (.cons (s := 2044) rfl (CLe.refl _ _) rfl (.cons (s := 3052) rfl (CLe.refl _ _) rfl .nil)))) ⟨a53, cap53, a2, c2, rfl, rfl⟩)
              | (have hk := kdo_chg h16 h45 e56 t1; rw [hk]; exact Kret.mk (RO wb a67 cap67 a2 c2 { s with T := tput o.e s.T }) (.tmp (by rfl) .nil) (by rfl) trivial (HLe.sub (.cons (s := 3060) rfl (CLe.cells (by cases a67 <;> rfl) (fun _ => rfl) (fun _ => ⟨trivial, trivial, trivial⟩)) rfl (.cons (s := 2044) rfl (CLe.refl _ _) rfl (.cons (s := 3052) rfl (CLe.refl _ _) rfl .nil)))) ⟨a67, cap67, a2, c2, rfl, rfl⟩)
              | (have hk := kdo_rem h16 h45 e70 t1; rw [hk]; exact Kret.mk (RO wb a90 cap90 a2 c2 { s with T := tdel o.e.p s.T }) (.tmp (by rfl) .nil) (by rfl) trivial (HLe.sub (.cons (s := 3060) rfl (CLe.cells (by rw [← tdel_at hs.t hk1 hk2]; cases a90 <;> rfl) (fun _ => rfl) (fun _ => ⟨trivial, trivial, trivial⟩)) rfl (.cons (s := 90) rfl (by rw [← tdel_at hs.t hk1 hk2]; exact CLe.refl _ _) rfl (.cons (s := 3052) rfl (CLe.refl _ _) rfl .nil)))) ⟨a90, cap90, a2, c2, rfl, rfl⟩)
              | (have hk := kdo_no h16 h45 (by rintro ⟨x1, x2⟩; first | omega | (obtain ⟨x3, x4⟩ := x2; simp_all only [Bool.false_eq_true, Bool.true_eq_false, not_true_eq_false, reduceCtorEq]) | simp_all only [Bool.false_eq_true, Bool.true_eq_false, not_true_eq_false, reduceCtorEq]) (by rintro ⟨x1, x2⟩; first | omega | (obtain ⟨x3, x4⟩ := x2; simp_all only [Bool.false_eq_true, Bool.true_eq_false, not_true_eq_false, reduceCtorEq]) | simp_all only [Bool.false_eq_true, Bool.true_eq_false, not_true_eq_false, reduceCtorEq]) (by rintro ⟨x1, x2⟩; first | omega | (obtain ⟨x3, x4⟩ := x2; simp_all only [Bool.false_eq_true, Bool.true_eq_false, not_true_eq_false, reduceCtorEq]) | simp_all only [Bool.false_eq_true, Bool.true_eq_false, not_true_eq_false, reduceCtorEq]); rw [hk]; exact Kret.mk (RO wb a1 c1 a2 c2 s) (.tmp (by rfl) .nil) (by rfl) trivial (HLe.sub (.cons (s := 3060) rfl (CLe.refl _ _) rfl (.cons (s := 3051) rfl (CLe.refl _ _) rfl (.cons (s := 3052) rfl (CLe.refl _ _) rfl .nil)))) ⟨a1, c1, a2, c2, rfl, rfl⟩)
          · skip
            (first | have e59 := of_decide_eq_true c59 | have e59 := of_decide_eq_false c59 | have e59 := ndec_t c59 | have e59 := ndec_f c59 | skip)
            have t1 := has_t' e59
            (repeat refine J.seq ?_)
            refine J.skip ?_
            (repeat refine J.seq ?_)
            refine J.draw [3, 5, 3051, 3052, 3060] 10 [(0, true), (1, true), (2, true), (3, true), (4, true), (5, true), (6, true), (7, false), (8, true), (9, true), (10, false)] (by kernel_rfl) rfl (by kernel_rfl) ?_
            intro F4 hF4
            refine WS.take rfl (by rfl) (by rfl) (q_move (by rfl)) ?_
            refine WS.take rfl (by rfl) (by rfl) (q_move (by rfl)) ?_
            refine WS.take rfl (by rfl) (by rfl) (q_nilCheck (by rfl) (by rfl)) ?_
            first | (refine WS.take rfl (by rfl) (by rfl) (q_fieldAddr (by rfl)) ?_) | (refine WS.take rfl (by rfl) (by rfl) (q_fieldAddr_rop (by rfl) (by rfl)) ?_) | (refine WS.take rfl (by rfl) (by rfl) (q_fieldAddr_pel (by rfl)) ?_)
            first | (refine WS.take rfl (by rfl) (by rfl) (q_load (by rfl) (by rfl) (by rfl)) ?_) | (refine WS.take rfl (by rfl) (by rfl) (q_load_rop (by rfl) (by rfl)) ?_) | (refine WS.take rfl (by rfl) (by rfl) (q_load_pel (by rfl) (by rfl) ?_ (by rfl)) ?_; (· (omega)))
            first | (refine WS.take rfl (by rfl) (by rfl) (q_fieldAddr (by rfl)) ?_) | (refine WS.take rfl (by rfl) (by rfl) (q_fieldAddr_rop (by rfl) (by rfl)) ?_) | (refine WS.take rfl (by rfl) (by rfl) (q_fieldAddr_pel (by rfl)) ?_)
            first | (refine WS.take rfl (by rfl) (by rfl) (q_load (by rfl) (by rfl) (by rfl)) ?_) | (refine WS.take rfl (by rfl) (by rfl) (q_load_rop (by rfl) (by rfl)) ?_) | (refine WS.take rfl (by rfl) (by rfl) (q_load_pel (by rfl) (by rfl) ?_ (by rfl)) ?_; (· (omega)))
            refine WS.ex rfl (by rfl) (Ex.callz _ [] [] (put_spec ?_ ?_ ?_) (by rfl) (by rfl) (.cons (.sla (by rfl)) (.cons (.same _) .nil)) (fun t c hg => by simp [get] at hg) plain_put ?_); (· (omega)); (· (exact hs.t)); (· (exact ho))
            rintro _ _ ⟨a67, cap67, rfl, rfl⟩
            refine WS.take rfl (by rfl) (by rfl) (q_nilCheck (by rfl) (by rfl)) ?_
            first | (refine WS.take rfl (by rfl) (by rfl) (q_fieldAddr (by rfl)) ?_) | (refine WS.take rfl (by rfl) (by rfl) (q_fieldAddr_rop (by rfl) (by rfl)) ?_) | (refine WS.take rfl (by rfl) (by rfl) (q_fieldAddr_pel (by rfl)) ?_)
            first | (refine WS.last rfl (by rfl) (by rfl) (Ex.store (by rfl) (by rfl) (by rfl) (by rfl) (by rfl) (by rfl) ?_)) | (refine WS.last rfl (by rfl) (by rfl) (Ex.store_pel (by rfl) (by rfl) (by rfl) (by rfl) (by rfl) ?_ (by rfl) ?_); (· (omega)))
            (repeat refine J.seq ?_)
            refine J.region ?_
            refine WL.yes (by rfl) (Ex.q (q_assign (by rfl)) (by rfl) ?_)
            refine WL.nil ?_
            (repeat refine J.seq ?_)
            refine J.ret ?_
            (repeat (with_reducible first | refine Kseq.ret ?_ | refine Kblock.ret ?_ | refine Kloop.ret ?_ | refine Kcut.ret ?_))
            first
              | (have hk := kdo_fail (o := o) h16; rw [hk]; exact Kret.mk (RO wb a1 c1 a2 c2 { s with n := s.n - 1 }) (.tmp (by rfl) .nil) (by rfl) trivial (HLe.sub (.cons (s := 3060) rfl (CLe.box (by rw [hw])) rfl (.cons (s := 3051) rfl (CLe.refl _ _) rfl (.cons (s := 3052) rfl (CLe.refl _ _) rfl .nil)))) ⟨a1, c1, a2, c2, rfl, rfl⟩)
              | (have hk := kdo_bad (o := o) h16 h45; rw [hk]; exact Kret.mk (RO wb a1 c1 a2 c2 s) (.tmp (by rfl) .nil) (by rfl) trivial (HLe.sub (.cons (s := 3060) rfl (CLe.refl _ _) rfl (.cons (s := 3051) rfl (CLe.refl _ _) rfl (.cons (s := 3052) rfl (CLe.refl _ _) rfl .nil)))) ⟨a1, c1, a2, c2, rfl, rfl⟩)
              | (have hk := kdo_add h16 h45 e33 t1 u1; rw [hk]; exact Kret.mk (RO wb a53 cap53 a2 c2 { s with T := tput o.e s.T }) (.tmp (by rfl) .nil) (by rfl) trivial (HLe.sub (.cons (s := 3060) rfl (CLe.cells (by cases a53 <;> rfl) (fun _ => rfl) (fun _ => ⟨trivial, trivial, trivial⟩)) rfl (.cons (s := 2044) rfl (CLe.refl _ _) rfl (.cons (s := 3052) rfl (CLe.refl _ _) rfl .nil)))) ⟨a53, cap53, a2, c2, rfl, rfl⟩)
              | (have hk := kdo_chg h16 h45 e56 t1; rw [hk]; exact Kret.mk (RO wb a67 cap67 a2 c2 { s with T := tput o.e s.T }) (.tmp (by rfl) .nil) (by rfl) trivial (HLe.sub (.cons (s := 3060) rfl (CLe.cells (by cases a67 <;> rfl) (fun _ => rfl) (fun _ => ⟨trivial, trivial, trivial⟩)) rfl (.cons (s := 2044) rfl (CLe.refl _ _) rfl (.cons (s := 3052) rfl (CLe.refl _ _) rfl .nil)))) ⟨a67, cap67, a2, c2, rfl, rfl⟩)
              | (have hk := kdo_rem h16 h45 e70 t1; rw [hk]; exact Kret.mk (RO wb a90 cap90 a2 c2 { s with T := tdel o.e.p s.T }) (.tmp (by rfl) .nil) (by rfl) trivial (HLe.sub (.cons (s := 3060) rfl (CLe.cells (by rw [← tdel_at hs.t hk1 hk2]; cases a90 <;> rfl) (fun _ => rfl) (fun _ => ⟨trivial, trivial, trivial⟩)) rfl (.cons (s := 90) rfl (by rw [← tdel_at hs.t hk1 hk2]; exact CLe.refl _ _) rfl (.cons (s := 3052) rfl (CLe.refl _ _) rfl .nil)))) ⟨a90, cap90, a2, c2, rfl, rfl⟩)
              | (have hk := kdo_no h16 h45 (by rintro ⟨x1, x2⟩; first | omega | (obtain ⟨x3, x4⟩ := x2; simp_all only [Bool.false_eq_true, Bool.true_eq_false, not_true_eq_false, reduceCtorEq]) | simp_all only [Bool.false_eq_true, Bool.true_eq_false, not_true_eq_false, reduceCtorEq]) (by rintro ⟨x1, x2⟩; first | omega | (obtain ⟨x3, x4⟩ := x2; simp_all only [Bool.false_eq_true, Bool.true_eq_false, not_true_eq_false, reduceCtorEq]) | simp_all only [Bool.false_eq_true, Bool.true_eq_false, not_true_eq_false, reduceCtorEq]) (by rintro ⟨x1, x2⟩; first | omega | (obtain ⟨x3, x4⟩ := x2; simp_all only [Bool.false_eq_true, Bool.true_eq_false, not_true_eq_false, reduceCtorEq]) | simp_all only [Bool.false_eq_true, Bool.true_eq_false, not_true_eq_false, reduceCtorEq]); rw [hk]; exact Kret.mk (RO wb a1 c1 a2 c2 s) (.tmp (by rfl) .nil) (by rfl) trivial (HLe.sub (.cons (s := 3060) rfl (CLe.refl _ _) rfl (.cons (s := 3051) rfl (CLe.refl _ _) rfl (.cons (s := 3052) rfl (CLe.refl _ _) rfl .nil)))) ⟨a1, c1, a2, c2, rfl, rfl⟩)
        · skip
          (first | have e56 := of_decide_eq_true c56 | have e56 := of_decide_eq_false c56 | have e56 := ndec_t c56 | have e56 := ndec_f c56 | skip)
          (repeat refine J.seq ?_)
          refine J.region ?_
          first | (refine WL.yes (by rfl) (Ex.q (q_int (by rfl) (by rfl) (by rfl)) (by rfl) ?_)) | (refine WL.yes (by rfl) (Ex.q (q_eqb (by rfl) (by rfl)) (by rfl) ?_)) | (refine WL.yes (by rfl) (Ex.q (q_eqp rfl rfl (by rfl) (by rfl) ?_) (by rfl) ?_); (· (rfl))) | (refine WL.yes (by rfl) (Ex.q (q_eqs (by rfl) (by rfl)) (by rfl) ?_))
          refine WL.yes (by rfl) (Ex.q (q_assign (by rfl)) (by rfl) ?_)
          refine WL.nil ?_
          (repeat refine J.seq ?_)
          refine J.cond (by rfl) (fun c70 => ?_) (fun c70 => ?_)
          · skip
            (first | have e70 := of_decide_eq_true c70 | have e70 := of_decide_eq_false c70 | have e70 := ndec_t c70 | have e70 := ndec_f c70 | skip)
            (repeat refine J.seq ?_)
            refine J.region ?_
            refine WL.yes (by rfl) (Ex.q (q_move (by rfl)) (by rfl) ?_)
            refine WL.yes (by rfl) (Ex.q (q_int (by rfl) (by rfl) (by rfl)) (by rfl) ?_)
            refine WL.nil ?_
            (repeat refine J.seq ?_)
            refine J.cond (by rfl) (fun c73 => ?_) (fun c73 => ?_)
            · skip
              (first | have e73 := of_decide_eq_true c73 | have e73 := of_decide_eq_false c73 | have e73 := ndec_t c73 | have e73 := ndec_f c73 | skip)
              have t1 := has_f' e73
              (repeat refine J.seq ?_)
              refine J.region ?_
              refine WL.yes (by rfl) (Ex.q (q_assign (by rfl)) (by rfl) ?_)
              refine WL.nil ?_
              (repeat refine J.seq ?_)
              refine J.ret ?_
              (repeat (with_reducible first | refine Kseq.ret ?_ | refine Kblock.ret ?_ | refine Kloop.ret ?_ | refine Kcut.ret ?_))
              first
                | (have hk := kdo_fail (o := o) h16; rw [hk]; exact Kret.mk (RO wb a1 c1 a2 c2 { s with n := s.n - 1 }) (.tmp (by rfl) .nil) (by rfl) trivial (HLe.sub (.cons (s := 3060) rfl (CLe.box (by rw [hw])) rfl (.cons (s := 3051) rfl (CLe.refl _ _) rfl (.cons (s := 3052) rfl (CLe.refl _ _) rfl .nil)))) ⟨a1, c1, a2, c2, rfl, rfl⟩)
                | (have hk := kdo_bad (o := o) h16 h45; rw [hk]; exact Kret.mk (RO wb a1 c1 a2 c2 s) (.tmp (by rfl) .nil) (by rfl) trivial (HLe.sub (.cons (s := 3060) rfl (CLe.refl _ _) rfl (.cons (s := 3051) rfl (CLe.refl _ _) rfl (.cons (s := 3052) rfl (CLe.refl _ _) rfl .nil)))) ⟨a1, c1, a2, c2, rfl, rfl⟩)
                | (have hk := kdo_add h16 h45 e33 t1 u1; rw [hk]; exact Kret.mk (RO wb a53 cap53 a2 c2 { s with T := tput o.e s.T }) (.tmp (by rfl) .nil) (by rfl) trivial (HLe.sub (.cons (s := 3060) rfl (CLe.cells (by cases a53 <;> rfl) (fun _ => rfl) (fun _ => ⟨trivial, trivial, trivial⟩)) rfl (.cons (s := 2044) rfl (CLe.refl _ _) rfl (.cons (s := 3052) rfl (CLe.refl _ _) rfl .nil)))) ⟨a53, cap53, a2, c2, rfl, rfl⟩)
                | (have hk := kdo_chg h16 h45 e56 t1; rw [hk]; exact Kret.mk (RO wb a67 cap67 a2 c2 { s with T := tput o.e s.T }) (.tmp (by rfl) .nil) (by rfl) trivial (HLe.sub (.cons (s := 3060) rfl (CLe.cells (by cases a67 <;> rfl) (fun _ => rfl) (fun _ => ⟨trivial, trivial, trivial⟩)) rfl (.cons (s := 2044) rfl (CLe.refl _ _) rfl (.cons (s := 3052) rfl (CLe.refl _ _) rfl .nil)))) ⟨a67, cap67, a2, c2, rfl, rfl⟩)
                | (have hk := kdo_rem h16 h45 e70 t1; rw [hk]; exact Kret.mk (RO wb a90 cap90 a2 c2 { s with T := tdel o.e.p s.T }) (.tmp (by rfl) .nil) (by rfl) trivial (HLe.sub (.cons (s := 3060) rfl (CLe.cells (by rw [← tdel_at hs.t hk1 hk2]; cases a90 <;> rfl) (fun _ => rfl) (fun _ => ⟨trivial, trivial, trivial⟩)) rfl (.cons (s := 90) rfl (by rw [← tdel_at hs.t hk1 hk2]; exact CLe.refl _ _) rfl (.cons (s := 3052) rfl (CLe.refl _ _) rfl .nil)))) ⟨a90, cap90, a2, c2, rfl, rfl⟩)
                | (have hk := kdo_no h16 h45 (by rintro ⟨x1, x2⟩; first | omega | (obtain ⟨x3, x4⟩ := x2; simp_all only [Bool.false_eq_true, Bool.true_eq_false, not_true_eq_false, reduceCtorEq]) | simp_all only [Bool.false_eq_true, Bool.true_eq_false, not_true_eq_false, reduceCtorEq]) (by rintro ⟨x1, x2⟩; first | omega | (obtain ⟨x3, x4⟩ := x2; simp_all only [Bool.false_eq_true, Bool.true_eq_false, not_true_eq_false, reduceCtorEq]) | simp_all only [Bool.false_eq_true, Bool.true_eq_false, not_true_eq_false, reduceCtorEq]) (by rintro ⟨x1, x2⟩; first | omega | (obtain ⟨x3, x4⟩ := x2; simp_all only [Bool.false_eq_true, Bool.true_eq_false, not_true_eq_false, reduceCtorEq]) | simp_all only [Bool.false_eq_true, Bool.true_eq_false, not_true_eq_false, reduceCtorEq]); rw [hk]; exact Kret.mk (RO wb a1 c1 a2 c2 s) (.tmp (by rfl) .nil) (by rfl) trivial (HLe.sub (.cons (s := 3060) rfl (CLe.refl _ _) rfl (.cons (s := 3051) rfl (CLe.refl _ _) rfl (.cons (s := 3052) rfl (CLe.refl _ _) rfl .nil)))) ⟨a1, c1, a2, c2, rfl, rfl⟩)
            · skip
              (first | have e73 := of_decide_eq_true c73 | have e73 := of_decide_eq_false c73 | have e73 := ndec_t c73 | have e73 := ndec_f c73 | skip)
              have t1 := has_t' e73
              obtain ⟨k0, hk0, hk1, hk2⟩ := fnd_ge (p := o.e.p) (l := s.T) (by omega)
              refine J.veccap (t := 3051) rfl (fun hcap1 => ?_)
              rw [hk0]
              (repeat refine J.seq ?_)
              refine J.skip ?_
              (repeat refine J.seq ?_)
              refine J.draw [3, 5, 3051, 3052, 3060] 19 [(0, true), (2, true), (3, true), (4, true), (5, true), (6, true), (7, true), (9, true), (10, true), (11, true), (12, true), (13, true), (14, true), (15, true), (1, false), (8, false), (16, false), (17, true), (18, true), (19, false)] (by kernel_rfl) rfl (by kernel_rfl) ?_
              intro F5 hF5
              refine WS.take rfl (by rfl) (by rfl) (q_move (by rfl)) ?_
              refine WS.take rfl (by rfl) (by rfl) (q_move (by rfl)) ?_
              refine WS.take rfl (by rfl) (by rfl) (q_nilCheck (by rfl) (by rfl)) ?_
              first | (refine WS.take rfl (by rfl) (by rfl) (q_fieldAddr (by rfl)) ?_) | (refine WS.take rfl (by rfl) (by rfl) (q_fieldAddr_rop (by rfl) (by rfl)) ?_) | (refine WS.take rfl (by rfl) (by rfl) (q_fieldAddr_pel (by rfl)) ?_)
              first | (refine WS.take rfl (by rfl) (by rfl) (q_load (by rfl) (by rfl) (by rfl)) ?_) | (refine WS.take rfl (by rfl) (by rfl) (q_load_rop (by rfl) (by rfl)) ?_) | (refine WS.take rfl (by rfl) (by rfl) (q_load_pel (by rfl) (by rfl) ?_ (by rfl)) ?_; (· (omega)))
              refine WS.take rfl (by rfl) (by rfl) (q_move (by rfl)) ?_
              first | (refine WS.take rfl (by rfl) (by rfl) (q_slice_arr (by rfl) (by rfl) (by rfl) ?_ ?_ ?_) ?_; (· (omega)); (· (omega)); (· (omega))) | (refine WS.take rfl (by rfl) (by rfl) (q_slice_ros (by rfl) (by intro _; rfl) (by rfl) (by rfl) ?_ ?_ ?_) ?_; (· (omega)); (· (omega)); (· (omega))) | (refine WS.take rfl (by rfl) (by rfl) (q_slice_sl (by rfl) (by rfl) (by rfl) ?_ ?_ ?_) ?_; (· (omega)); (· (omega)); (· (omega))) | (refine WS.take rfl (by rfl) (by rfl) (q_slice_sla (by rfl) (by rfl) (Nat.le_refl _) (by rfl) (by rfl) ?_ ?_ ?_) ?_; (· (omega)); (· (omega)); (· (omega)))
              refine WS.take rfl (by rfl) (by rfl) (q_move (by rfl)) ?_
              refine WS.take rfl (by rfl) (by rfl) (q_nilCheck (by rfl) (by rfl)) ?_
              first | (refine WS.take rfl (by rfl) (by rfl) (q_fieldAddr (by rfl)) ?_) | (refine WS.take rfl (by rfl) (by rfl) (q_fieldAddr_rop (by rfl) (by rfl)) ?_) | (refine WS.take rfl (by rfl) (by rfl) (q_fieldAddr_pel (by rfl)) ?_)
              first | (refine WS.take rfl (by rfl) (by rfl) (q_load (by rfl) (by rfl) (by rfl)) ?_) | (refine WS.take rfl (by rfl) (by rfl) (q_load_rop (by rfl) (by rfl)) ?_) | (refine WS.take rfl (by rfl) (by rfl) (q_load_pel (by rfl) (by rfl) ?_ (by rfl)) ?_; (· (omega)))
              refine WS.take rfl (by rfl) (by rfl) (q_move (by rfl)) ?_
              refine WS.take rfl (by rfl) (by rfl) (q_int (by rfl) (by rfl) (by rfl)) ?_
              refine WS.set 88 (iV ((k0 + 1 : Nat) : Int)) (by rfl) (congrArg iV (w64_nat (by omega)).symm) ?_
              first | (refine WS.take rfl (by rfl) (by rfl) (q_slice_arr (by rfl) (by rfl) (by rfl) ?_ ?_ ?_) ?_; (· (omega)); (· (omega)); (· (omega))) | (refine WS.take rfl (by rfl) (by rfl) (q_slice_ros (by rfl) (by intro _; rfl) (by rfl) (by rfl) ?_ ?_ ?_) ?_; (· (omega)); (· (omega)); (· (omega))) | (refine WS.take rfl (by rfl) (by rfl) (q_slice_sl (by rfl) (by rfl) (by rfl) ?_ ?_ ?_) ?_; (· (omega)); (· (omega)); (· (omega))) | (refine WS.take rfl (by rfl) (by rfl) (q_slice_sla (by rfl) (by rfl) (Nat.le_refl _) (by rfl) (by rfl) ?_ ?_ ?_) ?_; (· (omega)); (· (omega)); (· (omega)))
              refine WS.ex rfl (by rfl) (Ex.buildSlice (parts := []) (us := []) (by rfl) (by rfl) rfl (by rfl) (by rfl) ?_)
              intro b75
              refine WS.ex rfl (by rfl) (Ex.append0 enE (l' := s.T.take k0) (by rfl) (by rfl) (by rfl) (by rfl) (Rd.subR _ (by rfl) ?_ ?_) ?_ ?_); (· (exact take_in (by omega))); (· (exact take_sl)); (· (simp; omega))
              intro a82 cap82
              refine WS.ex rfl (by rfl) (Ex.append (e := enE) (l := (s.T.take k0)) (l' := s.T.drop (k0 + 1)) (by rfl) (by rfl) (by rfl) (by rfl) (Rd.subR _ (by rfl) ?_ ?_) ?_ ?_); (· (exact drop_in hcap1 (by omega))); (· (exact drop_sl hcap1 (by omega))); (· (simp; omega))
              intro a90 cap90
              refine WS.take rfl (by rfl) (by rfl) (q_nilCheck (by rfl) (by rfl)) ?_
              first | (refine WS.take rfl (by rfl) (by rfl) (q_fieldAddr (by rfl)) ?_) | (refine WS.take rfl (by rfl) (by rfl) (q_fieldAddr_rop (by rfl) (by rfl)) ?_) | (refine WS.take rfl (by rfl) (by rfl) (q_fieldAddr_pel (by rfl)) ?_)
              first | (refine WS.last rfl (by rfl) (by rfl) (Ex.store (by rfl) (by rfl) (by rfl) (by rfl) (by rfl) (by rfl) ?_)) | (refine WS.last rfl (by rfl) (by rfl) (Ex.store_pel (by rfl) (by rfl) (by rfl) (by rfl) (by rfl) ?_ (by rfl) ?_); (· (omega)))
              (repeat refine J.seq ?_)
              refine J.region ?_
              refine WL.yes (by rfl) (Ex.q (q_assign (by rfl)) (by rfl) ?_)
              refine WL.nil ?_
              (repeat refine J.seq ?_)
              refine J.ret ?_
              (repeat (with_reducible first | refine Kseq.ret ?_ | refine Kblock.ret ?_ | refine Kloop.ret ?_ | refine Kcut.ret ?_))
              first
                | (have hk := kdo_fail (o := o) h16; rw [hk]; exact Kret.mk (RO wb a1 c1 a2 c2 { s with n := s.n - 1 }) (.tmp (by rfl) .nil) (by rfl) trivial (HLe.sub (.cons (s := 3060) rfl (CLe.box (by rw [hw])) rfl (.cons (s := 3051) rfl (CLe.refl _ _) rfl (.cons (s := 3052) rfl (CLe.refl _ _) rfl .nil)))) ⟨a1, c1, a2, c2, rfl, rfl⟩)
                | (have hk := kdo_bad (o := o) h16 h45; rw [hk]; exact Kret.mk (RO wb a1 c1 a2 c2 s) (.tmp (by rfl) .nil) (by rfl) trivial (HLe.sub (.cons (s := 3060) rfl (CLe.refl _ _) rfl (.cons (s := 3051) rfl (CLe.refl _ _) rfl (.cons (s := 3052) rfl (CLe.refl _ _) rfl .nil)))) ⟨a1, c1, a2, c2, rfl, rfl⟩)
                | (have hk := kdo_add h16 h45 e33 t1 u1; rw [hk]; exact Kret.mk (RO wb a53 cap53 a2 c2 { s with T := tput o.e s.T }) (.tmp (by rfl) .nil) (by rfl) trivial (HLe.sub (.cons (s := 3060) rfl (CLe.cells (by cases a53 <;> rfl) (fun _ => rfl) (fun _ => ⟨trivial, trivial, trivial⟩)) rfl (.cons (s := 2044) rfl (CLe.refl _ _) rfl (.cons (s := 3052) rfl (CLe.refl _ _) rfl .nil)))) ⟨a53, cap53, a2, c2, rfl, rfl⟩)
                | (have hk := kdo_chg h16 h45 e56 t1; rw [hk]; exact Kret.mk (RO wb a67 cap67 a2 c2 { s with T := tput o.e s.T }) (.tmp (by rfl) .nil) (by rfl) trivial (HLe.sub (.cons (s := 3060) rfl (CLe.cells (by cases a67 <;> rfl) (fun _ => rfl) (fun _ => ⟨trivial, trivial, trivial⟩)) rfl (.cons (s := 2044) rfl (CLe.refl _ _) rfl (.cons (s := 3052) rfl (CLe.refl _ _) rfl .nil)))) ⟨a67, cap67, a2, c2, rfl, rfl⟩)
                | (have hk := kdo_rem h16 h45 e70 t1; rw [hk]; exact Kret.mk (RO wb a90 cap90 a2 c2 { s with T := tdel o.e.p s.T }) (.tmp (by rfl) .nil) (by rfl) trivial (HLe.sub (.cons (s := 3060) rfl (CLe.cells (by rw [← tdel_at hs.t hk1 hk2]; cases a90 <;> rfl) (fun _ => rfl) (fun _ => ⟨trivial, trivial, trivial⟩)) rfl (.cons (s := 90) rfl (by rw [← tdel_at hs.t hk1 hk2]; exact CLe.refl _ _) rfl (.cons (s := 3052) rfl (CLe.refl _ _) rfl .nil)))) ⟨a90, cap90, a2, c2, rfl, rfl⟩)
                | (have hk := kdo_no h16 h45 (by rintro ⟨x1, x2⟩; first | omega | (obtain ⟨x3, x4⟩ := x2; simp_all only [Bool.false_eq_true, Bool.true_eq_false, not_true_eq_false, reduceCtorEq]) | simp_all only [Bool.false_eq_true, Bool.true_eq_false, not_true_eq_false, reduceCtorEq]) (by rintro ⟨x1, x2⟩; first | omega | (obtain ⟨x3, x4⟩ := x2; simp_all only [Bool.false_eq_true, Bool.true_eq_false, not_true_eq_false, reduceCtorEq]) | simp_all only [Bool.false_eq_true, Bool.true_eq_false, not_true_eq_false, reduceCtorEq]) (by rintro ⟨x1, x2⟩; first | omega | (obtain ⟨x3, x4⟩ := x2; simp_all only [Bool.false_eq_true, Bool.true_eq_false, not_true_eq_false, reduceCtorEq]) | simp_all only [Bool.false_eq_true, Bool.true_eq_false, not_true_eq_false, reduceCtorEq]); rw [hk]; exact Kret.mk (RO wb a1 c1 a2 c2 s) (.tmp (by rfl) .nil) (by rfl) trivial (HLe.sub (.cons (s := 3060) rfl (CLe.refl _ _) rfl (.cons (s := 3051) rfl (CLe.refl _ _) rfl (.cons (s := 3052) rfl (CLe.refl _ _) rfl .nil)))) ⟨a1, c1, a2, c2, rfl, rfl⟩)
          · skip
            (first | have e70 := of_decide_eq_true c70 | have e70 := of_decide_eq_false c70 | have e70 := ndec_t c70 | have e70 := ndec_f c70 | skip)
            (repeat refine J.seq ?_)
            refine J.skip ?_
            (repeat refine J.seq ?_)
            refine J.region ?_
            refine WL.yes (by rfl) (Ex.q (q_assign (by rfl)) (by rfl) ?_)
            refine WL.nil ?_
            (repeat refine J.seq ?_)
            refine J.ret ?_
            (repeat (with_reducible first | refine Kseq.ret ?_ | refine Kblock.ret ?_ | refine Kloop.ret ?_ | refine Kcut.ret ?_))
            first
              | (have hk := kdo_fail (o := o) h16; rw [hk]; exact Kret.mk (RO wb a1 c1 a2 c2 { s with n := s.n - 1 }) (.tmp (by rfl) .nil) (by rfl) trivial (HLe.sub (.cons (s := 3060) rfl (CLe.box (by rw [hw])) rfl (.cons (s := 3051) rfl (CLe.refl _ _) rfl (.cons (s := 3052) rfl (CLe.refl _ _) rfl .nil)))) ⟨a1, c1, a2, c2, rfl, rfl⟩)
              | (have hk := kdo_bad (o := o) h16 h45; rw [hk]; exact Kret.mk (RO wb a1 c1 a2 c2 s) (.tmp (by rfl) .nil) (by rfl) trivial (HLe.sub (.cons (s := 3060) rfl (CLe.refl _ _) rfl (.cons (s := 3051) rfl (CLe.refl _ _) rfl (.cons (s := 3052) rfl (CLe.refl _ _) rfl .nil)))) ⟨a1, c1, a2, c2, rfl, rfl⟩)
              | (have hk := kdo_add h16 h45 e33 t1 u1; rw [hk]; exact Kret.mk (RO wb a53 cap53 a2 c2 { s with T := tput o.e s.T }) (.tmp (by rfl) .nil) (by rfl) trivial (HLe.sub (.cons (s := 3060) rfl (CLe.cells (by cases a53 <;> rfl) (fun _ => rfl) (fun _ => ⟨trivial, trivial, trivial⟩)) rfl (.cons (s := 2044) rfl (CLe.refl _ _) rfl (.cons (s := 3052) rfl (CLe.refl _ _) rfl .nil)))) ⟨a53, cap53, a2, c2, rfl, rfl⟩)
              | (have hk := kdo_chg h16 h45 e56 t1; rw [hk]; exact Kret.mk (RO wb a67 cap67 a2 c2 { s with T := tput o.e s.T }) (.tmp (by rfl) .nil) (by rfl) trivial (HLe.sub (.cons (s := 3060) rfl (CLe.cells (by cases a67 <;> rfl) (fun _ => rfl) (fun _ => ⟨trivial, trivial, trivial⟩)) rfl (.cons (s := 2044) rfl (CLe.refl _ _) rfl (.cons (s := 3052) rfl (CLe.refl _ _) rfl .nil)))) ⟨a67, cap67, a2, c2, rfl, rfl⟩)
              | (have hk := kdo_rem h16 h45 e70 t1; rw [hk]; exact Kret.mk (RO wb a90 cap90 a2 c2 { s with T := tdel o.e.p s.T }) (.tmp (by rfl) .nil) (by rfl) trivial (HLe.sub (.cons (s := 3060) rfl (CLe.cells (by rw [← tdel_at hs.t hk1 hk2]; cases a90 <;> rfl) (fun _ => rfl) (fun _ => ⟨trivial, trivial, trivial⟩)) rfl (.cons (s := 90) rfl (by rw [← tdel_at hs.t hk1 hk2]; exact CLe.refl _ _) rfl (.cons (s := 3052) rfl (CLe.refl _ _) rfl .nil)))) ⟨a90, cap90, a2, c2, rfl, rfl⟩)
              | (have hk := kdo_no h16 h45 (by rintro ⟨x1, x2⟩; first | omega | (obtain ⟨x3, x4⟩ := x2; simp_all only [Bool.false_eq_true, Bool.true_eq_false, not_true_eq_false, reduceCtorEq]) | simp_all only [Bool.false_eq_true, Bool.true_eq_false, not_true_eq_false, reduceCtorEq]) (by rintro ⟨x1, x2⟩; first | omega | (obtain ⟨x3, x4⟩ := x2; simp_all only [Bool.false_eq_true, Bool.true_eq_false, not_true_eq_false, reduceCtorEq]) | simp_all only [Bool.false_eq_true, Bool.true_eq_false, not_true_eq_false, reduceCtorEq]) (by rintro ⟨x1, x2⟩; first | omega | (obtain ⟨x3, x4⟩ := x2; simp_all only [Bool.false_eq_true, Bool.true_eq_false, not_true_eq_false, reduceCtorEq]) | simp_all only [Bool.false_eq_true, Bool.true_eq_false, not_true_eq_false, reduceCtorEq]); rw [hk]; exact Kret.mk (RO wb a1 c1 a2 c2 s) (.tmp (by rfl) .nil) (by rfl) trivial (HLe.sub (.cons (s := 3060) rfl (CLe.refl _ _) rfl (.cons (s := 3051) rfl (CLe.refl _ _) rfl (.cons (s := 3052) rfl (CLe.refl _ _) rfl .nil)))) ⟨a1, c1, a2, c2, rfl, rfl⟩)

end Go.Vm
