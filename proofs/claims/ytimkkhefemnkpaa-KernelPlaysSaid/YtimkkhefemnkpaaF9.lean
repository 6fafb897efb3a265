/- The document's kernel: Import, Lookup; nil kernels: the walks. -/
import Derived.Test.YtimkkhefemnkpaaF8
namespace Go.Vm
open Go Go.Proofs

set_option maxHeartbeats 16000000 in
set_option maxRecDepth 100000 in
theorem rImport_spec (wb : Nat) (a1 : Option Nat) (c1 : Nat) (a2 : Option Nat) (c2 : Nat) {s : KS} {e : En} (hs : KOk' s) (ho : e.ok) (hl : s.T.length ≤ 1000) (hl2 : s.U.length ≤ 1000) : Spec Try.prog 18 [.ptr 3060 wb 0, enE e] [(3060, .box wb 29 (rVv a1 a2 c1 c2 s)), (3051, lvec a1 37 51 c1 enE s.T), (3052, lvec a2 37 51 c2 enE s.U)] (fun r H' => ∃ a1' c1' a2' c2', r = iV (kimp s e).1 ∧ H' = RO wb a1' c1' a2' c2' (kimp s e).2) := by
  refine Spec.of_J Try.func18 rfl Try.ntmps18 Try.results18 rfl ?_
  intro A F hAF
  (repeat refine J.seq ?_)
  refine J.region ?_
  refine WL.yes (by rfl) (Ex.box (by rfl) (by rfl) (by rfl) ?_)
  intro b3
  refine WL.yes (by rfl) (Ex.q (q_assign (by rfl)) (by rfl) ?_)
  refine WL.nil ?_
  (repeat refine J.seq ?_)
  refine J.draw [3, 3051, 3052, 3060] 9999 [(0, true), (1, true), (2, false), (3, true), (4, true), (5, true), (6, true), (7, true), (8, true), (9, true), (10, true), (11, false), (12, true), (13, true), (14, true), (15, true), (16, true), (17, true), (18, true), (19, true), (20, true), (21, false), (22, true), (23, true)] (by kernel_rfl) rfl (by kernel_rfl) ?_
  intro F1 hF1
  first | (refine WS.take rfl (by rfl) (by rfl) (q_fieldAddr (by rfl)) ?_) | (refine WS.take rfl (by rfl) (by rfl) (q_fieldAddr_rop (by rfl) (by rfl)) ?_) | (refine WS.take rfl (by rfl) (by rfl) (q_fieldAddr_pel (by rfl)) ?_)
  first | (refine WS.take rfl (by rfl) (by rfl) (q_load (by rfl) (by rfl) (by rfl)) ?_) | (refine WS.take rfl (by rfl) (by rfl) (q_load_rop (by rfl) (by rfl)) ?_) | (refine WS.take rfl (by rfl) (by rfl) (q_load_pel (by rfl) (by rfl) ?_ (by rfl)) ?_; (· (omega)))
  refine WS.ex rfl (by rfl) (Ex.callq (checkPairR_spec _ _ ?_ ?_) (by rfl) (by rfl) rfl (fun _ h => h) ?_); (· (exact ho.1.1)); (· (exact ho.1.2))
  first | (refine WS.take rfl (by rfl) (by rfl) (q_int (by rfl) (by rfl) (by rfl)) ?_) | (refine WS.take rfl (by rfl) (by rfl) (q_neb (by rfl) (by rfl)) ?_) | (refine WS.take rfl (by rfl) (by rfl) (q_nep rfl rfl (by rfl) (by rfl) ?_) ?_; (· (rfl))) | (refine WS.take rfl (by rfl) (by rfl) (q_eqs (by rfl) (by rfl)) ?_)
  refine WS.take rfl (by rfl) (by rfl) (q_move (by rfl)) ?_
  refine WS.split 9 (by rfl) (fun g9 => ?_) (fun g9 => ?_)
  · skip
    (first | have eg9 := of_decide_eq_true g9 | have eg9 := of_decide_eq_false g9 | have eg9 := ndec_t g9 | have eg9 := ndec_f g9 | skip)
    have h45 := okR_nnot g9
    refine WS.takeNo rfl (by rfl) (by rfl) ?_
    refine WS.takeNo rfl (by rfl) (by rfl) ?_
    refine WS.takeNo rfl (by rfl) (by rfl) ?_
    refine WS.takeNo rfl (by rfl) (by rfl) ?_
    refine WS.takeNo rfl (by rfl) (by rfl) ?_
    refine WS.takeNo rfl (by rfl) (by rfl) ?_
    refine WS.takeNo rfl (by rfl) (by rfl) ?_
    refine WS.takeNo rfl (by rfl) (by rfl) ?_
    refine WS.take rfl (by rfl) (by rfl) (q_pick_t (by rfl) (by rfl)) ?_
    refine WS.take rfl (by rfl) (by rfl) (q_move (by rfl)) ?_
    refine WS.takeNo rfl (by rfl) (by rfl) ?_
    refine WS.takeNo rfl (by rfl) (by rfl) ?_
    refine WS.takeNo rfl (by rfl) (by rfl) ?_
    refine WS.takeNo rfl (by rfl) (by rfl) ?_
    refine WS.takeNo rfl (by rfl) (by rfl) ?_
    refine WS.takeNo rfl (by rfl) (by rfl) ?_
    refine WS.takeNo rfl (by rfl) (by rfl) ?_
    refine WS.takeNo rfl (by rfl) (by rfl) ?_
    refine WS.take rfl (by rfl) (by rfl) (q_pick_t (by rfl) (by rfl)) ?_
    refine WS.nil ?_
    (repeat refine J.seq ?_)
    refine J.condT (by rfl) ?_
    (repeat refine J.seq ?_)
    refine J.region ?_
    refine WL.yes (by rfl) (Ex.q (q_assign (by rfl)) (by rfl) ?_)
    refine WL.nil ?_
    (repeat refine J.seq ?_)
    refine J.ret ?_
    (repeat (with_reducible first | refine Kseq.ret ?_ | refine Kblock.ret ?_ | refine Kloop.ret ?_ | refine Kcut.ret ?_))
    first
      | (have hk := kimp_no (s := s) (e := e) (fun x => Bool.false_ne_true (h45.symm.trans x.2.2)); rw [hk]; exact Kret.mk (RO wb a1 c1 a2 c2 s) (.tmp (by rfl) .nil) (by rfl) trivial (HLe.sub (.cons (s := 3060) rfl (CLe.refl _ _) rfl (.cons (s := 3051) rfl (CLe.refl _ _) rfl (.cons (s := 3052) rfl (CLe.refl _ _) rfl .nil)))) ⟨a1, c1, a2, c2, rfl, rfl⟩)
      | (have hk := kimp_no (s := s) (e := e) (fun x => Bool.false_ne_true (x.1.symm.trans t1)); rw [hk]; exact Kret.mk (RO wb a1 c1 a2 c2 s) (.tmp (by rfl) .nil) (by rfl) trivial (HLe.sub (.cons (s := 3060) rfl (CLe.refl _ _) rfl (.cons (s := 3051) rfl (CLe.refl _ _) rfl (.cons (s := 3052) rfl (CLe.refl _ _) rfl .nil)))) ⟨a1, c1, a2, c2, rfl, rfl⟩)
      | (have hk := kimp_no (s := s) (e := e) (fun x => Bool.false_ne_true (x.2.1.symm.trans u1)); rw [hk]; exact Kret.mk (RO wb a1 c1 a2 c2 s) (.tmp (by rfl) .nil) (by rfl) trivial (HLe.sub (.cons (s := 3060) rfl (CLe.refl _ _) rfl (.cons (s := 3051) rfl (CLe.refl _ _) rfl (.cons (s := 3052) rfl (CLe.refl _ _) rfl .nil)))) ⟨a1, c1, a2, c2, rfl, rfl⟩)
      | (have hk := kimp_yes t1 u1 h45; rw [hk]; exact Kret.mk (RO wb a1 c1 a35 cap35 { s with U := tput e s.U }) (.tmp (by rfl) .nil) (by rfl) trivial (HLe.sub (.cons (s := 3060) rfl (CLe.cells (by cases a35 <;> rfl) (fun _ => rfl) (fun _ => ⟨trivial, trivial, trivial⟩)) rfl (.cons (s := 3051) rfl (CLe.refl _ _) rfl (.cons (s := 2044) rfl (CLe.refl _ _) rfl .nil)))) ⟨a1, c1, a35, cap35, rfl, rfl⟩)
  · skip
    (first | have eg9 := of_decide_eq_true g9 | have eg9 := of_decide_eq_false g9 | have eg9 := ndec_t g9 | have eg9 := ndec_f g9 | skip)
    have h45 := okR_nof g9
    refine WS.take rfl (by rfl) (by rfl) (q_move (by rfl)) ?_
    refine WS.take rfl (by rfl) (by rfl) (q_nilCheck (by rfl) (by rfl)) ?_
    first | (refine WS.take rfl (by rfl) (by rfl) (q_fieldAddr (by rfl)) ?_) | (refine WS.take rfl (by rfl) (by rfl) (q_fieldAddr_rop (by rfl) (by rfl)) ?_) | (refine WS.take rfl (by rfl) (by rfl) (q_fieldAddr_pel (by rfl)) ?_)
    first | (refine WS.take rfl (by rfl) (by rfl) (q_load (by rfl) (by rfl) (by rfl)) ?_) | (refine WS.take rfl (by rfl) (by rfl) (q_load_rop (by rfl) (by rfl)) ?_) | (refine WS.take rfl (by rfl) (by rfl) (q_load_pel (by rfl) (by rfl) ?_ (by rfl)) ?_; (· (omega)))
    first | (refine WS.take rfl (by rfl) (by rfl) (q_fieldAddr (by rfl)) ?_) | (refine WS.take rfl (by rfl) (by rfl) (q_fieldAddr_rop (by rfl) (by rfl)) ?_) | (refine WS.take rfl (by rfl) (by rfl) (q_fieldAddr_pel (by rfl)) ?_)
    first | (refine WS.take rfl (by rfl) (by rfl) (q_load (by rfl) (by rfl) (by rfl)) ?_) | (refine WS.take rfl (by rfl) (by rfl) (q_load_rop (by rfl) (by rfl)) ?_) | (refine WS.take rfl (by rfl) (by rfl) (q_load_pel (by rfl) (by rfl) ?_ (by rfl)) ?_; (· (omega)))
    refine WS.ex rfl (by rfl) (Ex.callqz (find_spec ?_ ?_ ?_) (by rfl) (by rfl) (.cons (.sla (by rfl)) (.cons (.same _) .nil)) (fun _ => trivial) ?_); (· (omega)); (· (first | exact hs.t.ok | exact hs.u.ok)); (· (exact ho.1))
    refine WS.take rfl (by rfl) (by rfl) (q_int (by rfl) (by rfl) (by rfl)) ?_
    refine WS.take rfl (by rfl) (by rfl) (q_pick_f (by rfl) (by rfl)) ?_
    refine WS.take rfl (by rfl) (by rfl) (q_move (by rfl)) ?_
    refine WS.split 19 (by rfl) (fun g19 => ?_) (fun g19 => ?_)
    · skip
      (first | have eg19 := of_decide_eq_true g19 | have eg19 := of_decide_eq_false g19 | have eg19 := ndec_t g19 | have eg19 := ndec_f g19 | skip)
      have t1 := has_t (of_decide_eq_true g19)
      refine WS.takeNo rfl (by rfl) (by rfl) ?_
      refine WS.takeNo rfl (by rfl) (by rfl) ?_
      refine WS.takeNo rfl (by rfl) (by rfl) ?_
      refine WS.takeNo rfl (by rfl) (by rfl) ?_
      refine WS.takeNo rfl (by rfl) (by rfl) ?_
      refine WS.takeNo rfl (by rfl) (by rfl) ?_
      refine WS.takeNo rfl (by rfl) (by rfl) ?_
      refine WS.takeNo rfl (by rfl) (by rfl) ?_
      refine WS.take rfl (by rfl) (by rfl) (q_pick_t (by rfl) (by rfl)) ?_
      refine WS.nil ?_
      (repeat refine J.seq ?_)
      refine J.condT (by rfl) ?_
      (repeat refine J.seq ?_)
      refine J.region ?_
      refine WL.yes (by rfl) (Ex.q (q_assign (by rfl)) (by rfl) ?_)
      refine WL.nil ?_
      (repeat refine J.seq ?_)
      refine J.ret ?_
      (repeat (with_reducible first | refine Kseq.ret ?_ | refine Kblock.ret ?_ | refine Kloop.ret ?_ | refine Kcut.ret ?_))
      first
        | (have hk := kimp_no (s := s) (e := e) (fun x => Bool.false_ne_true (h45.symm.trans x.2.2)); rw [hk]; exact Kret.mk (RO wb a1 c1 a2 c2 s) (.tmp (by rfl) .nil) (by rfl) trivial (HLe.sub (.cons (s := 3060) rfl (CLe.refl _ _) rfl (.cons (s := 3051) rfl (CLe.refl _ _) rfl (.cons (s := 3052) rfl (CLe.refl _ _) rfl .nil)))) ⟨a1, c1, a2, c2, rfl, rfl⟩)
        | (have hk := kimp_no (s := s) (e := e) (fun x => Bool.false_ne_true (x.1.symm.trans t1)); rw [hk]; exact Kret.mk (RO wb a1 c1 a2 c2 s) (.tmp (by rfl) .nil) (by rfl) trivial (HLe.sub (.cons (s := 3060) rfl (CLe.refl _ _) rfl (.cons (s := 3051) rfl (CLe.refl _ _) rfl (.cons (s := 3052) rfl (CLe.refl _ _) rfl .nil)))) ⟨a1, c1, a2, c2, rfl, rfl⟩)
        | (have hk := kimp_no (s := s) (e := e) (fun x => Bool.false_ne_true (x.2.1.symm.trans u1)); rw [hk]; exact Kret.mk (RO wb a1 c1 a2 c2 s) (.tmp (by rfl) .nil) (by rfl) trivial (HLe.sub (.cons (s := 3060) rfl (CLe.refl _ _) rfl (.cons (s := 3051) rfl (CLe.refl _ _) rfl (.cons (s := 3052) rfl (CLe.refl _ _) rfl .nil)))) ⟨a1, c1, a2, c2, rfl, rfl⟩)
        | (have hk := kimp_yes t1 u1 h45; rw [hk]; exact Kret.mk (RO wb a1 c1 a35 cap35 { s with U := tput e s.U }) (.tmp (by rfl) .nil) (by rfl) trivial (HLe.sub (.cons (s := 3060) rfl (CLe.cells (by cases a35 <;> rfl) (fun _ => rfl) (fun _ => ⟨trivial, trivial, trivial⟩)) rfl (.cons (s := 3051) rfl (CLe.refl _ _) rfl (.cons (s := 2044) rfl (CLe.refl _ _) rfl .nil)))) ⟨a1, c1, a35, cap35, rfl, rfl⟩)
    · skip
      (first | have eg19 := of_decide_eq_true g19 | have eg19 := of_decide_eq_false g19 | have eg19 := ndec_t g19 | have eg19 := ndec_f g19 | skip)
      have t1 := has_f (of_decide_eq_false g19)
      refine WS.take rfl (by rfl) (by rfl) (q_move (by rfl)) ?_
      refine WS.take rfl (by rfl) (by rfl) (q_nilCheck (by rfl) (by rfl)) ?_
      first | (refine WS.take rfl (by rfl) (by rfl) (q_fieldAddr (by rfl)) ?_) | (refine WS.take rfl (by rfl) (by rfl) (q_fieldAddr_rop (by rfl) (by rfl)) ?_) | (refine WS.take rfl (by rfl) (by rfl) (q_fieldAddr_pel (by rfl)) ?_)
      first | (refine WS.take rfl (by rfl) (by rfl) (q_load (by rfl) (by rfl) (by rfl)) ?_) | (refine WS.take rfl (by rfl) (by rfl) (q_load_rop (by rfl) (by rfl)) ?_) | (refine WS.take rfl (by rfl) (by rfl) (q_load_pel (by rfl) (by rfl) ?_ (by rfl)) ?_; (· (omega)))
      first | (refine WS.take rfl (by rfl) (by rfl) (q_fieldAddr (by rfl)) ?_) | (refine WS.take rfl (by rfl) (by rfl) (q_fieldAddr_rop (by rfl) (by rfl)) ?_) | (refine WS.take rfl (by rfl) (by rfl) (q_fieldAddr_pel (by rfl)) ?_)
      first | (refine WS.take rfl (by rfl) (by rfl) (q_load (by rfl) (by rfl) (by rfl)) ?_) | (refine WS.take rfl (by rfl) (by rfl) (q_load_rop (by rfl) (by rfl)) ?_) | (refine WS.take rfl (by rfl) (by rfl) (q_load_pel (by rfl) (by rfl) ?_ (by rfl)) ?_; (· (omega)))
      refine WS.ex rfl (by rfl) (Ex.callqz (find_spec ?_ ?_ ?_) (by rfl) (by rfl) (.cons (.sla (by rfl)) (.cons (.same _) .nil)) (fun _ => trivial) ?_); (· (omega)); (· (first | exact hs.t.ok | exact hs.u.ok)); (· (exact ho.1))
      refine WS.take rfl (by rfl) (by rfl) (q_int (by rfl) (by rfl) (by rfl)) ?_
      refine WS.take rfl (by rfl) (by rfl) (q_pick_f (by rfl) (by rfl)) ?_
      refine WS.nil ?_
      (repeat refine J.seq ?_)
      refine J.cond (by rfl) (fun c28 => ?_) (fun c28 => ?_)
      · skip
        (first | have e28 := of_decide_eq_true c28 | have e28 := of_decide_eq_false c28 | have e28 := ndec_t c28 | have e28 := ndec_f c28 | skip)
        have u1 := has_t e28
        (repeat refine J.seq ?_)
        refine J.region ?_
        refine WL.yes (by rfl) (Ex.q (q_assign (by rfl)) (by rfl) ?_)
        refine WL.nil ?_
        (repeat refine J.seq ?_)
        refine J.ret ?_
        (repeat (with_reducible first | refine Kseq.ret ?_ | refine Kblock.ret ?_ | refine Kloop.ret ?_ | refine Kcut.ret ?_))
        first
          | (have hk := kimp_no (s := s) (e := e) (fun x => Bool.false_ne_true (h45.symm.trans x.2.2)); rw [hk]; exact Kret.mk (RO wb a1 c1 a2 c2 s) (.tmp (by rfl) .nil) (by rfl) trivial (HLe.sub (.cons (s := 3060) rfl (CLe.refl _ _) rfl (.cons (s := 3051) rfl (CLe.refl _ _) rfl (.cons (s := 3052) rfl (CLe.refl _ _) rfl .nil)))) ⟨a1, c1, a2, c2, rfl, rfl⟩)
          | (have hk := kimp_no (s := s) (e := e) (fun x => Bool.false_ne_true (x.1.symm.trans t1)); rw [hk]; exact Kret.mk (RO wb a1 c1 a2 c2 s) (.tmp (by rfl) .nil) (by rfl) trivial (HLe.sub (.cons (s := 3060) rfl (CLe.refl _ _) rfl (.cons (s := 3051) rfl (CLe.refl _ _) rfl (.cons (s := 3052) rfl (CLe.refl _ _) rfl .nil)))) ⟨a1, c1, a2, c2, rfl, rfl⟩)
          | (have hk := kimp_no (s := s) (e := e) (fun x => Bool.false_ne_true (x.2.1.symm.trans u1)); rw [hk]; exact Kret.mk (RO wb a1 c1 a2 c2 s) (.tmp (by rfl) .nil) (by rfl) trivial (HLe.sub (.cons (s := 3060) rfl (CLe.refl _ _) rfl (.cons (s := 3051) rfl (CLe.refl _ _) rfl (.cons (s := 3052) rfl (CLe.refl _ _) rfl .nil)))) ⟨a1, c1, a2, c2, rfl, rfl⟩)
          | (have hk := kimp_yes t1 u1 h45; rw [hk]; exact Kret.mk (RO wb a1 c1 a35 cap35 { s with U := tput e s.U }) (.tmp (by rfl) .nil) (by rfl) trivial (HLe.sub (.cons (s := 3060) rfl (CLe.cells (by cases a35 <;> rfl) (fun _ => rfl) (fun _ => ⟨trivial, trivial, trivial⟩)) rfl (.cons (s := 3051) rfl (CLe.refl _ _) rfl (.cons (s := 2044) rfl (CLe.refl _ _) rfl .nil)))) ⟨a1, c1, a35, cap35, rfl, rfl⟩)
      · skip
        (first | have e28 := of_decide_eq_true c28 | have e28 := of_decide_eq_false c28 | have e28 := ndec_t c28 | have e28 := ndec_f c28 | skip)
        have u1 := has_f e28
        (repeat refine J.seq ?_)
        refine J.skip ?_
        (repeat refine J.seq ?_)
        refine J.draw [3, 3051, 3052, 3060] 9 [(0, true), (1, true), (2, true), (3, true), (4, true), (5, true), (6, false), (7, true), (8, true), (9, false)] (by kernel_rfl) rfl (by kernel_rfl) ?_
        intro F2 hF2
        refine WS.take rfl (by rfl) (by rfl) (q_move (by rfl)) ?_
        refine WS.take rfl (by rfl) (by rfl) (q_move (by rfl)) ?_
        refine WS.take rfl (by rfl) (by rfl) (q_nilCheck (by rfl) (by rfl)) ?_
        first | (refine WS.take rfl (by rfl) (by rfl) (q_fieldAddr (by rfl)) ?_) | (refine WS.take rfl (by rfl) (by rfl) (q_fieldAddr_rop (by rfl) (by rfl)) ?_) | (refine WS.take rfl (by rfl) (by rfl) (q_fieldAddr_pel (by rfl)) ?_)
        first | (refine WS.take rfl (by rfl) (by rfl) (q_load (by rfl) (by rfl) (by rfl)) ?_) | (refine WS.take rfl (by rfl) (by rfl) (q_load_rop (by rfl) (by rfl)) ?_) | (refine WS.take rfl (by rfl) (by rfl) (q_load_pel (by rfl) (by rfl) ?_ (by rfl)) ?_; (· (omega)))
        first | (refine WS.take rfl (by rfl) (by rfl) (q_load (by rfl) (by rfl) (by rfl)) ?_) | (refine WS.take rfl (by rfl) (by rfl) (q_load_rop (by rfl) (by rfl)) ?_) | (refine WS.take rfl (by rfl) (by rfl) (q_load_pel (by rfl) (by rfl) ?_ (by rfl)) ?_; (· (omega)))
        refine WS.ex rfl (by rfl) (Ex.callz _ [] [] (put_spec ?_ ?_ ?_) (by rfl) (by rfl) (.cons (.sla (by rfl)) (.cons (.same _) .nil)) (fun t c hg => by simp [get] at hg) plain_put ?_); (· (omega)); (· (exact hs.u)); (· (exact ho))
        rintro _ _ ⟨a35, cap35, rfl, rfl⟩
        refine WS.take rfl (by rfl) (by rfl) (q_nilCheck (by rfl) (by rfl)) ?_
        first | (refine WS.take rfl (by rfl) (by rfl) (q_fieldAddr (by rfl)) ?_) | (refine WS.take rfl (by rfl) (by rfl) (q_fieldAddr_rop (by rfl) (by rfl)) ?_) | (refine WS.take rfl (by rfl) (by rfl) (q_fieldAddr_pel (by rfl)) ?_)
        first | (refine WS.last rfl (by rfl) (by rfl) (Ex.store (by rfl) (by rfl) (by rfl) (by rfl) (by rfl) (by rfl) ?_)) | (refine WS.last rfl (by rfl) (by rfl) (Ex.store_pel (by rfl) (by rfl) (by rfl) (by rfl) (by rfl) ?_ (by rfl) ?_); (· (omega)))
        (repeat refine J.seq ?_)
        refine J.region ?_
        refine WL.yes (by rfl) (Ex.q (q_assign (by rfl)) (by rfl) ?_)
        refine WL.nil ?_
        (repeat refine J.seq ?_)
        refine J.ret ?_
        (repeat (with_reducible first | refine Kseq.ret ?_ | refine Kblock.ret ?_ | refine Kloop.ret ?_ | refine Kcut.ret ?_))
        first
          | (have hk := kimp_no (s := s) (e := e) (fun x => Bool.false_ne_true (h45.symm.trans x.2.2)); rw [hk]; exact Kret.mk (RO wb a1 c1 a2 c2 s) (.tmp (by rfl) .nil) (by rfl) trivial (HLe.sub (.cons (s := 3060) rfl (CLe.refl _ _) rfl (.cons (s := 3051) rfl (CLe.refl _ _) rfl (.cons (s := 3052) rfl (CLe.refl _ _) rfl .nil)))) ⟨a1, c1, a2, c2, rfl, rfl⟩)
          | (have hk := kimp_no (s := s) (e := e) (fun x => Bool.false_ne_true (x.1.symm.trans t1)); rw [hk]; exact Kret.mk (RO wb a1 c1 a2 c2 s) (.tmp (by rfl) .nil) (by rfl) trivial (HLe.sub (.cons (s := 3060) rfl (CLe.refl _ _) rfl (.cons (s := 3051) rfl (CLe.refl _ _) rfl (.cons (s := 3052) rfl (CLe.refl _ _) rfl .nil)))) ⟨a1, c1, a2, c2, rfl, rfl⟩)
          | (have hk := kimp_no (s := s) (e := e) (fun x => Bool.false_ne_true (x.2.1.symm.trans u1)); rw [hk]; exact Kret.mk (RO wb a1 c1 a2 c2 s) (.tmp (by rfl) .nil) (by rfl) trivial (HLe.sub (.cons (s := 3060) rfl (CLe.refl _ _) rfl (.cons (s := 3051) rfl (CLe.refl _ _) rfl (.cons (s := 3052) rfl (CLe.refl _ _) rfl .nil)))) ⟨a1, c1, a2, c2, rfl, rfl⟩)
          | (have hk := kimp_yes t1 u1 h45; rw [hk]; exact Kret.mk (RO wb a1 c1 a35 cap35 { s with U := tput e s.U }) (.tmp (by rfl) .nil) (by rfl) trivial (HLe.sub (.cons (s := 3060) rfl (CLe.cells (by cases a35 <;> rfl) (fun _ => rfl) (fun _ => ⟨trivial, trivial, trivial⟩)) rfl (.cons (s := 3051) rfl (CLe.refl _ _) rfl (.cons (s := 2044) rfl (CLe.refl _ _) rfl .nil)))) ⟨a1, c1, a35, cap35, rfl, rfl⟩)

set_option maxHeartbeats 16000000 in
set_option maxRecDepth 100000 in
theorem rLookup_spec (wb : Nat) (a1 : Option Nat) (c1 : Nat) (a2 : Option Nat) (c2 : Nat) {s : KS} {src dst : List Int} (hs : KInv s) (h1 : AdOk src) (h2 : AdOk dst) : Spec Try.prog 24 [.ptr 3060 wb 0, adV src, adV dst] [(3060, .box wb 29 (rVv a1 a2 c1 c2 s)), (3051, lvec a1 37 51 c1 enE s.T), (3052, lvec a2 37 51 c2 enE s.U)] (fun r H' => r = .tup2 (enE (klook s src dst).1) (.bool (klook s src dst).2) ∧ H' = RO wb a1 c1 a2 c2 s) := by
  refine Spec.of_J Try.func24 rfl Try.ntmps24 Try.results24 rfl ?_
  intro A F hAF
  obtain ⟨V, hV⟩ : ∃ V, V = s.T ++ s.U := ⟨_, rfl⟩
  have hlt := hs.lt
  have hlu := hs.lu
  have hVl : V.length ≤ 2000 := by rw [hV, List.length_append]; omega
  have hap : Apart V := hV ▸ hs.apart
  (repeat refine J.seq ?_)
  refine J.region ?_
  refine WL.yes (by rfl) (Ex.box (by rfl) (by rfl) (by rfl) ?_)
  intro b4
  refine WL.yes (by rfl) (Ex.box (by rfl) (by rfl) (by rfl) ?_)
  intro b5
  refine WL.yes (by rfl) (Ex.alloc (by rfl) ?_)
  intro b6
  refine WL.yes (by rfl) (Ex.q (q_assign (by rfl)) (by rfl) ?_)
  refine WL.nil ?_
  (repeat refine J.seq ?_)
  refine J.draw [4, 5, 6, 3051, 3052, 3060] 9999 [(0, true), (2, true), (1, false), (3, false), (4, true)] (by kernel_rfl) rfl (by kernel_rfl) ?_
  intro F1 hF1
  first | (refine WS.take rfl (by rfl) (by rfl) (q_load (by rfl) (by rfl) (by rfl)) ?_) | (refine WS.take rfl (by rfl) (by rfl) (q_load_rop (by rfl) (by rfl)) ?_) | (refine WS.take rfl (by rfl) (by rfl) (q_load_pel (by rfl) (by rfl) ?_ (by rfl)) ?_; (· (omega)))
  first | (refine WS.take rfl (by rfl) (by rfl) (q_load (by rfl) (by rfl) (by rfl)) ?_) | (refine WS.take rfl (by rfl) (by rfl) (q_load_rop (by rfl) (by rfl)) ?_) | (refine WS.take rfl (by rfl) (by rfl) (q_load_pel (by rfl) (by rfl) ?_ (by rfl)) ?_; (· (omega)))
  refine WS.ex rfl (by rfl) (Ex.callq (famR_spec ?_) (by rfl) (by rfl) rfl (fun _ h => h) ?_); (· (assumption))
  refine WS.ex rfl (by rfl) (Ex.callq (famR_spec ?_) (by rfl) (by rfl) rfl (fun _ h => h) ?_); (· (assumption))
  first | (refine WS.take rfl (by rfl) (by rfl) (q_int (by rfl) (by rfl) (by rfl)) ?_) | (refine WS.take rfl (by rfl) (by rfl) (q_neb (by rfl) (by rfl)) ?_) | (refine WS.take rfl (by rfl) (by rfl) (q_nep rfl rfl (by rfl) (by rfl) ?_) ?_; (· (rfl))) | (refine WS.take rfl (by rfl) (by rfl) (q_eqs (by rfl) (by rfl)) ?_)
  refine WS.nil ?_
  (repeat refine J.seq ?_)
  refine J.cond (by rfl) (fun c20 => ?_) (fun c20 => ?_)
  · skip
    (first | have e20 := of_decide_eq_true c20 | have e20 := of_decide_eq_false c20 | have e20 := ndec_t c20 | have e20 := ndec_f c20 | skip)
    have hne : ¬ famA src = famA dst := by simpa using c20
    have hk0 : klook s src dst = (default, false) := if_neg hne
    (repeat refine J.seq ?_)
    refine J.region ?_
    refine WL.yes (by rfl) (Ex.q (q_build (parts := []) (by rfl) (by rfl)) (by rfl) ?_)
    first | (refine WL.yes (by rfl) (Ex.store (by rfl) (by rfl) (by rfl) (by rfl) (by rfl) (by rfl) ?_)) | (refine WL.yes (by rfl) (Ex.store_pel (by rfl) (by rfl) (by rfl) (by rfl) (by rfl) ?_ (by rfl) ?_); (· (omega)))
    refine WL.yes (by rfl) (Ex.q (q_assign (by rfl)) (by rfl) ?_)
    refine WL.nil ?_
    (repeat refine J.seq ?_)
    refine J.ret ?_
    (repeat (with_reducible first | refine Kseq.ret ?_ | refine Kblock.ret ?_ | refine Kloop.ret ?_ | refine Kcut.ret ?_))
    refine Kret.mk [(3060, .box wb 29 (rVv a1 a2 c1 c2 s)), (3051, lvec a1 37 51 c1 enE s.T), (3052, lvec a2 37 51 c2 enE s.U)] (.cell inferInstance (by rfl) (by rfl) (by rfl) (.tmp (by rfl) (.nil))) (by rfl) trivial (HLe.sub (.cons (s := 3060) rfl (by first | exact CLe.refl _ _ | exact CLe.box rfl) rfl (.cons (s := 3051) rfl (by first | exact CLe.refl _ _ | exact CLe.box rfl) rfl (.cons (s := 3052) rfl (by first | exact CLe.refl _ _ | exact CLe.box rfl) rfl .nil)))) ?_
    first
      | (rw [hk0, hres]; exact ⟨rfl, rfl⟩)
      | (rw [hk0]; exact ⟨rfl, rfl⟩)
  · skip
    (first | have e20 := of_decide_eq_true c20 | have e20 := of_decide_eq_false c20 | have e20 := ndec_t c20 | have e20 := ndec_f c20 | skip)
    have hfe : famA src = famA dst := by simpa using c20
    have hk0 : klook s src dst = klookL src dst V := by rw [hV]; exact if_pos hfe
    (repeat refine J.seq ?_)
    refine J.skip ?_
    (repeat refine J.seq ?_)
    refine J.draw [3060] 9999 [(1, true), (2, true), (3, true), (4, true), (6, true), (7, true), (8, true), (9, true), (0, false), (5, false), (10, false), (11, true)] (by kernel_rfl) rfl (by kernel_rfl) ?_
    intro F2 hF2
    refine WS.take rfl (by rfl) (by rfl) (q_move (by rfl)) ?_
    refine WS.take rfl (by rfl) (by rfl) (q_nilCheck (by rfl) (by rfl)) ?_
    first | (refine WS.take rfl (by rfl) (by rfl) (q_fieldAddr (by rfl)) ?_) | (refine WS.take rfl (by rfl) (by rfl) (q_fieldAddr_rop (by rfl) (by rfl)) ?_) | (refine WS.take rfl (by rfl) (by rfl) (q_fieldAddr_pel (by rfl)) ?_)
    first | (refine WS.take rfl (by rfl) (by rfl) (q_load (by rfl) (by rfl) (by rfl)) ?_) | (refine WS.take rfl (by rfl) (by rfl) (q_load_rop (by rfl) (by rfl)) ?_) | (refine WS.take rfl (by rfl) (by rfl) (q_load_pel (by rfl) (by rfl) ?_ (by rfl)) ?_; (· (omega)))
    refine WS.take rfl (by rfl) (by rfl) (q_move (by rfl)) ?_
    refine WS.take rfl (by rfl) (by rfl) (q_nilCheck (by rfl) (by rfl)) ?_
    first | (refine WS.take rfl (by rfl) (by rfl) (q_fieldAddr (by rfl)) ?_) | (refine WS.take rfl (by rfl) (by rfl) (q_fieldAddr_rop (by rfl) (by rfl)) ?_) | (refine WS.take rfl (by rfl) (by rfl) (q_fieldAddr_pel (by rfl)) ?_)
    first | (refine WS.take rfl (by rfl) (by rfl) (q_load (by rfl) (by rfl) (by rfl)) ?_) | (refine WS.take rfl (by rfl) (by rfl) (q_load_rop (by rfl) (by rfl)) ?_) | (refine WS.take rfl (by rfl) (by rfl) (q_load_pel (by rfl) (by rfl) ?_ (by rfl)) ?_; (· (omega)))
    refine WS.ex rfl (by rfl) (Ex.buildSlice (parts := []) (us := []) (by rfl) (by rfl) rfl (by rfl) (by rfl) ?_)
    intro b22
    refine WS.ex rfl (by rfl) (Ex.append0 enE (l' := s.T) (by rfl) (by rfl) (by rfl) (by rfl) (.any (by rfl) rfl (fun _ _ => rfl)) ?_ ?_); (· (omega))
    intro a27 cap27
    refine WS.ex rfl (by rfl) (Ex.append (e := enE) (l := s.T) (l' := s.U) (by rfl) (by rfl) (by rfl) (by rfl) (.any (by rfl) rfl (fun _ _ => rfl)) ?_ ?_); (· (omega))
    intro a32 cap32
    refine WS.take rfl (by rfl) (by rfl) (q_assign (by rfl)) ?_
    refine WS.nil ?_
    (repeat refine J.seq ?_)
    rw [← hV]
    refine J.region ?_
    refine WL.yes (by rfl) (Ex.q (q_assign (by rfl)) (by rfl) ?_)
    refine WL.yes (by rfl) (Ex.q (q_assign (by rfl)) (by rfl) ?_)
    refine WL.yes (by rfl) (Ex.q (q_assign (by rfl)) (by rfl) ?_)
    refine WL.nil ?_
    (repeat refine J.seq ?_)
    refine J.region ?_
    refine WL.yes (by rfl) (Ex.q (q_assign (by rfl)) (by rfl) ?_)
    refine WL.nil ?_
    (repeat refine J.seq ?_)
    refine J.block ?_
    (repeat refine J.seq ?_)
    refine J.loopP (fun x : Nat × Int => D1 dst V x.1 x.2) (fun x => [(9, iV x.2), (12, iV x.1)]) (fun x => []) (fun x => V.length - x.1) (0, -1) [(4, _), (5, _), (6, _), (8, _), (10, _), (11, _)] [(4, _), (5, _), (6, _), (32, _), (3051, _), (3052, _), (3060, _)] ⟨same rfl, same rfl, same rfl, same rfl, same rfl, same rfl, trivial⟩ ⟨same rfl, same rfl, trivial⟩ (.cons (s := 4) rfl (CLe.refl _ _) rfl (.cons (s := 5) rfl (CLe.refl _ _) rfl (.cons (s := 6) rfl (CLe.refl _ _) rfl (.cons (s := 32) rfl (CLe.refl _ _) rfl (.cons (s := 3051) rfl (CLe.refl _ _) rfl (.cons (s := 3052) rfl (CLe.refl _ _) rfl (.cons (s := 3060) rfl (CLe.refl _ _) rfl .nil))))))) ?_ ?_
    · (exact D1.zero _ _)
    rintro ⟨k, d⟩ hx
    (try dsimp only at hx)
    (try dsimp only)
    have hk := hx.1
    (repeat refine J.seq ?_)
    refine J.region ?_
    refine WL.yes (by rfl) (Ex.q (q_move (by rfl)) (by rfl) ?_)
    refine WL.yes (by rfl) (Ex.q (q_move (by rfl)) (by rfl) ?_)
    first | (refine WL.yes (by rfl) (Ex.q (q_len_slice (by rfl) (by rfl)) (by rfl) ?_)) | (refine WL.yes (by rfl) (Ex.q (q_len_string (by rfl)) (by rfl) ?_))
    refine WL.yes (by rfl) (Ex.q (q_int (by rfl) (by rfl) (by rfl)) (by rfl) ?_)
    refine WL.nil ?_
    (repeat refine J.seq ?_)
    refine J.cond (by rfl) (fun c36 => ?_) (fun c36 => ?_)
    · skip
      (first | have e36 := of_decide_eq_true c36 | have e36 := of_decide_eq_false c36 | have e36 := ndec_t c36 | have e36 := ndec_f c36 | skip)
      (repeat refine J.seq ?_)
      refine J.skip ?_
      (repeat refine J.seq ?_)
      refine J.block ?_
      (repeat refine J.seq ?_)
      have hk2 : k < V.length := by omega
      have hk3 : (lat V k).ok := hap.1 _ (lat_mem hk2)
      refine J.vecsome (t := 32) rfl (by omega) ?_
      intro b32 hb32
      subst hb32
      refine J.region ?_
      refine WL.yes (by rfl) (Ex.q (q_move (by rfl)) (by rfl) ?_)
      refine WL.yes (by rfl) (Ex.q (q_move (by rfl)) (by rfl) ?_)
      first | (refine WL.yes (by rfl) (Ex.q (q_indexAddr_ros (by rfl) (by rfl) (by intro _; rfl) ?_ ?_) (by rfl) ?_); (· (omega)); (· (omega))) | (refine WL.yes (by rfl) (Ex.q (q_indexAddr_sl (by rfl) (by rfl) ?_ ?_) (by rfl) ?_); (· (omega)); (· (omega))) | (refine WL.yes (by rfl) (Ex.q (q_indexAddr_arr (by rfl) (by rfl) ?_ ?_) (by rfl) ?_); (· (omega)); (· (omega)))
      first | (refine WL.yes (by rfl) (Ex.q (q_fieldAddr (by rfl)) (by rfl) ?_)) | (refine WL.yes (by rfl) (Ex.q (q_fieldAddr_rop (by rfl) (by rfl)) (by rfl) ?_)) | (refine WL.yes (by rfl) (Ex.q (q_fieldAddr_pel (by rfl)) (by rfl) ?_))
      first | (refine WL.yes (by rfl) (Ex.h (h_load (by rfl) (by rfl) (by rfl)) (by rfl) ?_)) | (refine WL.yes (by rfl) (Ex.q (q_load (by rfl) (by rfl) (by rfl)) (by rfl) ?_)) | (refine WL.yes (by rfl) (Ex.q (q_load_rop (by rfl) (by rfl)) (by rfl) ?_)) | (refine WL.yes (by rfl) (Ex.h (h_load_pel (by rfl) (by rfl) ?_ (by rfl)) (by rfl) ?_); (· (omega))) | (refine WL.yes (by rfl) (Ex.q (q_load_pel (by rfl) (by rfl) ?_ (by rfl)) (by rfl) ?_); (· (omega)))
      refine WL.set 43 (prE (lat V k).p) (by rfl) (by rw [Nat.zero_add, Int.toNat_natCast]) ?_
      refine WL.yes (by rfl) (Ex.alloc (by rfl) ?_)
      intro b13
      first | (refine WL.yes (by rfl) (Ex.store (by rfl) (by rfl) (by rfl) (by rfl) (by rfl) (by rfl) ?_)) | (refine WL.yes (by rfl) (Ex.store_pel (by rfl) (by rfl) (by rfl) (by rfl) (by rfl) ?_ (by rfl) ?_); (· (omega)))
      refine WL.nil ?_
      (repeat refine J.seq ?_)
      refine J.draw [4, 5, 6, 13, 32, 3051, 3052, 3060] 9999 [(0, true), (1, true), (3, true), (2, false), (4, false), (5, true), (6, true), (7, true), (8, true), (9, true), (10, false), (11, true)] (by kernel_rfl) rfl (by kernel_rfl) ?_
      intro F3 hF3
      first | (refine WS.take rfl (by rfl) (by rfl) (q_fieldAddr (by rfl)) ?_) | (refine WS.take rfl (by rfl) (by rfl) (q_fieldAddr_rop (by rfl) (by rfl)) ?_) | (refine WS.take rfl (by rfl) (by rfl) (q_fieldAddr_pel (by rfl)) ?_)
      first | (refine WS.take rfl (by rfl) (by rfl) (q_load (by rfl) (by rfl) (by rfl)) ?_) | (refine WS.take rfl (by rfl) (by rfl) (q_load_rop (by rfl) (by rfl)) ?_) | (refine WS.take rfl (by rfl) (by rfl) (q_load_pel (by rfl) (by rfl) ?_ (by rfl)) ?_; (· (omega)))
      first | (refine WS.take rfl (by rfl) (by rfl) (q_load (by rfl) (by rfl) (by rfl)) ?_) | (refine WS.take rfl (by rfl) (by rfl) (q_load_rop (by rfl) (by rfl)) ?_) | (refine WS.take rfl (by rfl) (by rfl) (q_load_pel (by rfl) (by rfl) ?_ (by rfl)) ?_; (· (omega)))
      refine WS.ex rfl (by rfl) (Ex.callq (famPR_spec _ ?_) (by rfl) (by rfl) rfl (fun _ h => h) ?_); (· (exact hk3.1.1))
      refine WS.ex rfl (by rfl) (Ex.callq (famR_spec ?_) (by rfl) (by rfl) rfl (fun _ h => h) ?_); (· (assumption))
      first | (refine WS.take rfl (by rfl) (by rfl) (q_int (by rfl) (by rfl) (by rfl)) ?_) | (refine WS.take rfl (by rfl) (by rfl) (q_eqb (by rfl) (by rfl)) ?_) | (refine WS.take rfl (by rfl) (by rfl) (q_eqp rfl rfl (by rfl) (by rfl) ?_) ?_; (· (rfl))) | (refine WS.take rfl (by rfl) (by rfl) (q_eqs (by rfl) (by rfl)) ?_)
      refine WS.take rfl (by rfl) (by rfl) (q_move (by rfl)) ?_
      refine WS.split 50 (by rfl) (fun g50 => ?_) (fun g50 => ?_)
      · skip
        (first | have eg50 := of_decide_eq_true g50 | have eg50 := of_decide_eq_false g50 | have eg50 := ndec_t g50 | have eg50 := ndec_f g50 | skip)
        have f1 : decide (famP (lat V k).p.d.a (lat V k).p.d.n = famA dst) = true := g50
        first | (refine WS.take rfl (by rfl) (by rfl) (q_fieldAddr (by rfl)) ?_) | (refine WS.take rfl (by rfl) (by rfl) (q_fieldAddr_rop (by rfl) (by rfl)) ?_) | (refine WS.take rfl (by rfl) (by rfl) (q_fieldAddr_pel (by rfl)) ?_)
        first | (refine WS.take rfl (by rfl) (by rfl) (q_load (by rfl) (by rfl) (by rfl)) ?_) | (refine WS.take rfl (by rfl) (by rfl) (q_load_rop (by rfl) (by rfl)) ?_) | (refine WS.take rfl (by rfl) (by rfl) (q_load_pel (by rfl) (by rfl) ?_ (by rfl)) ?_; (· (omega)))
        first | (refine WS.take rfl (by rfl) (by rfl) (q_load (by rfl) (by rfl) (by rfl)) ?_) | (refine WS.take rfl (by rfl) (by rfl) (q_load_rop (by rfl) (by rfl)) ?_) | (refine WS.take rfl (by rfl) (by rfl) (q_load_pel (by rfl) (by rfl) ?_ (by rfl)) ?_; (· (omega)))
        refine WS.ex rfl (by rfl) (Ex.callq (containsR_spec _ ?_ ?_) (by rfl) (by rfl) rfl (fun _ h => h) ?_); (· (first | exact hk3.1.1 | exact hk3.1.2)); (· (assumption))
        refine WS.take rfl (by rfl) (by rfl) (q_pick_t (by rfl) (by rfl)) ?_
        refine WS.nil ?_
        (repeat refine J.seq ?_)
        refine J.cond (by rfl) (fun c55 => ?_) (fun c55 => ?_)
        · skip
          (first | have e55 := of_decide_eq_true c55 | have e55 := of_decide_eq_false c55 | have e55 := ndec_t c55 | have e55 := ndec_f c55 | skip)
          have hc : cand dst (lat V k) = true := by unfold cand; rw [f1, c55]; rfl
          (repeat refine J.seq ?_)
          refine J.region ?_
          refine WL.yes (by rfl) (Ex.q (q_move (by rfl)) (by rfl) ?_)
          first | (refine WL.yes (by rfl) (Ex.q (q_fieldAddr (by rfl)) (by rfl) ?_)) | (refine WL.yes (by rfl) (Ex.q (q_fieldAddr_rop (by rfl) (by rfl)) (by rfl) ?_)) | (refine WL.yes (by rfl) (Ex.q (q_fieldAddr_pel (by rfl)) (by rfl) ?_))
          first | (refine WL.yes (by rfl) (Ex.q (q_fieldAddr (by rfl)) (by rfl) ?_)) | (refine WL.yes (by rfl) (Ex.q (q_fieldAddr_rop (by rfl) (by rfl)) (by rfl) ?_)) | (refine WL.yes (by rfl) (Ex.q (q_fieldAddr_pel (by rfl)) (by rfl) ?_))
          first | (refine WL.yes (by rfl) (Ex.h (h_load (by rfl) (by rfl) (by rfl)) (by rfl) ?_)) | (refine WL.yes (by rfl) (Ex.q (q_load (by rfl) (by rfl) (by rfl)) (by rfl) ?_)) | (refine WL.yes (by rfl) (Ex.q (q_load_rop (by rfl) (by rfl)) (by rfl) ?_)) | (refine WL.yes (by rfl) (Ex.h (h_load_pel (by rfl) (by rfl) ?_ (by rfl)) (by rfl) ?_); (· (omega))) | (refine WL.yes (by rfl) (Ex.q (q_load_pel (by rfl) (by rfl) ?_ (by rfl)) (by rfl) ?_); (· (omega)))
          refine WL.yes (by rfl) (Ex.q (q_max (by rfl)) (by rfl) ?_)
          refine WL.yes (by rfl) (Ex.q (q_assign (by rfl)) (by rfl) ?_)
          refine WL.nil ?_
          (repeat refine J.seq ?_)
          refine J.region ?_
          refine WL.yes (by rfl) (Ex.q (q_move (by rfl)) (by rfl) ?_)
          refine WL.yes (by rfl) (Ex.q (q_int (by rfl) (by rfl) (by rfl)) (by rfl) ?_)
          refine WL.yes (by rfl) (Ex.q (q_assign (by rfl)) (by rfl) ?_)
          refine WL.nil ?_
          first | (refine Kloop.nextP (k + 1, max d (lat V k).p.d.n) ?_ ?_ ⟨same rfl, same (by rw [← w64_nat (k := k) (by omega)]; rfl), trivial⟩ ⟨same rfl, same rfl, same rfl, same rfl, same rfl, same rfl, trivial⟩ (.cons (s := 4) rfl (CLe.refl _ _) rfl (.cons (s := 5) rfl (CLe.refl _ _) rfl (.cons (s := 6) rfl (CLe.refl _ _) rfl (.cons (s := 32) rfl (CLe.refl _ _) rfl (.cons (s := 3051) rfl (CLe.refl _ _) rfl (.cons (s := 3052) rfl (CLe.refl _ _) rfl (.cons (s := 3060) rfl (CLe.refl _ _) rfl .nil))))))); (· (exact hx.yes hk2 hc)); (· ((try dsimp only) <;> omega))) | (refine Kloop.nextP (k + 1, d) ?_ ?_ ⟨same rfl, same (by rw [← w64_nat (k := k) (by omega)]; rfl), trivial⟩ ⟨same rfl, same rfl, same rfl, same rfl, same rfl, same rfl, trivial⟩ (.cons (s := 4) rfl (CLe.refl _ _) rfl (.cons (s := 5) rfl (CLe.refl _ _) rfl (.cons (s := 6) rfl (CLe.refl _ _) rfl (.cons (s := 32) rfl (CLe.refl _ _) rfl (.cons (s := 3051) rfl (CLe.refl _ _) rfl (.cons (s := 3052) rfl (CLe.refl _ _) rfl (.cons (s := 3060) rfl (CLe.refl _ _) rfl .nil))))))); (· (exact hx.no hk2 hcn)); (· ((try dsimp only) <;> omega)))
        · skip
          (first | have e55 := of_decide_eq_true c55 | have e55 := of_decide_eq_false c55 | have e55 := ndec_t c55 | have e55 := ndec_f c55 | skip)
          have hcn : ¬ cand dst (lat V k) = true := by unfold cand; rw [f1, c55]; exact Bool.false_ne_true
          (repeat refine J.seq ?_)
          refine J.skip ?_
          (repeat refine J.seq ?_)
          refine J.region ?_
          refine WL.yes (by rfl) (Ex.q (q_move (by rfl)) (by rfl) ?_)
          refine WL.yes (by rfl) (Ex.q (q_int (by rfl) (by rfl) (by rfl)) (by rfl) ?_)
          refine WL.yes (by rfl) (Ex.q (q_assign (by rfl)) (by rfl) ?_)
          refine WL.nil ?_
          first | (refine Kloop.nextP (k + 1, max d (lat V k).p.d.n) ?_ ?_ ⟨same rfl, same (by rw [← w64_nat (k := k) (by omega)]; rfl), trivial⟩ ⟨same rfl, same rfl, same rfl, same rfl, same rfl, same rfl, trivial⟩ (.cons (s := 4) rfl (CLe.refl _ _) rfl (.cons (s := 5) rfl (CLe.refl _ _) rfl (.cons (s := 6) rfl (CLe.refl _ _) rfl (.cons (s := 32) rfl (CLe.refl _ _) rfl (.cons (s := 3051) rfl (CLe.refl _ _) rfl (.cons (s := 3052) rfl (CLe.refl _ _) rfl (.cons (s := 3060) rfl (CLe.refl _ _) rfl .nil))))))); (· (exact hx.yes hk2 hc)); (· ((try dsimp only) <;> omega))) | (refine Kloop.nextP (k + 1, d) ?_ ?_ ⟨same rfl, same (by rw [← w64_nat (k := k) (by omega)]; rfl), trivial⟩ ⟨same rfl, same rfl, same rfl, same rfl, same rfl, same rfl, trivial⟩ (.cons (s := 4) rfl (CLe.refl _ _) rfl (.cons (s := 5) rfl (CLe.refl _ _) rfl (.cons (s := 6) rfl (CLe.refl _ _) rfl (.cons (s := 32) rfl (CLe.refl _ _) rfl (.cons (s := 3051) rfl (CLe.refl _ _) rfl (.cons (s := 3052) rfl (CLe.refl _ _) rfl (.cons (s := 3060) rfl (CLe.refl _ _) rfl .nil))))))); (· (exact hx.no hk2 hcn)); (· ((try dsimp only) <;> omega)))
      · skip
        (first | have eg50 := of_decide_eq_true g50 | have eg50 := of_decide_eq_false g50 | have eg50 := ndec_t g50 | have eg50 := ndec_f g50 | skip)
        have hcn : ¬ cand dst (lat V k) = true := by unfold cand; rw [g50]; exact Bool.false_ne_true
        refine WS.takeNo rfl (by rfl) (by rfl) ?_
        refine WS.takeNo rfl (by rfl) (by rfl) ?_
        refine WS.takeNo rfl (by rfl) (by rfl) ?_
        refine WS.takeNo rfl (by rfl) (by rfl) ?_
        refine WS.take rfl (by rfl) (by rfl) (q_pick_f (by rfl) (by rfl)) ?_
        refine WS.nil ?_
        (repeat refine J.seq ?_)
        refine J.condF (by rfl) ?_
        (repeat refine J.seq ?_)
        refine J.skip ?_
        (repeat refine J.seq ?_)
        refine J.region ?_
        refine WL.yes (by rfl) (Ex.q (q_move (by rfl)) (by rfl) ?_)
        refine WL.yes (by rfl) (Ex.q (q_int (by rfl) (by rfl) (by rfl)) (by rfl) ?_)
        refine WL.yes (by rfl) (Ex.q (q_assign (by rfl)) (by rfl) ?_)
        refine WL.nil ?_
        first | (refine Kloop.nextP (k + 1, max d (lat V k).p.d.n) ?_ ?_ ⟨same rfl, same (by rw [← w64_nat (k := k) (by omega)]; rfl), trivial⟩ ⟨same rfl, same rfl, same rfl, same rfl, same rfl, same rfl, trivial⟩ (.cons (s := 4) rfl (CLe.refl _ _) rfl (.cons (s := 5) rfl (CLe.refl _ _) rfl (.cons (s := 6) rfl (CLe.refl _ _) rfl (.cons (s := 32) rfl (CLe.refl _ _) rfl (.cons (s := 3051) rfl (CLe.refl _ _) rfl (.cons (s := 3052) rfl (CLe.refl _ _) rfl (.cons (s := 3060) rfl (CLe.refl _ _) rfl .nil))))))); (· (exact hx.yes hk2 hc)); (· ((try dsimp only) <;> omega))) | (refine Kloop.nextP (k + 1, d) ?_ ?_ ⟨same rfl, same (by rw [← w64_nat (k := k) (by omega)]; rfl), trivial⟩ ⟨same rfl, same rfl, same rfl, same rfl, same rfl, same rfl, trivial⟩ (.cons (s := 4) rfl (CLe.refl _ _) rfl (.cons (s := 5) rfl (CLe.refl _ _) rfl (.cons (s := 6) rfl (CLe.refl _ _) rfl (.cons (s := 32) rfl (CLe.refl _ _) rfl (.cons (s := 3051) rfl (CLe.refl _ _) rfl (.cons (s := 3052) rfl (CLe.refl _ _) rfl (.cons (s := 3060) rfl (CLe.refl _ _) rfl .nil))))))); (· (exact hx.no hk2 hcn)); (· ((try dsimp only) <;> omega)))
    · skip
      (first | have e36 := of_decide_eq_true c36 | have e36 := of_decide_eq_false c36 | have e36 := ndec_t c36 | have e36 := ndec_f c36 | skip)
      (repeat refine J.seq ?_)
      refine J.exit ?_
      (repeat refine J.seq ?_)
      have hkn : k = V.length := by omega
      have hD : D1 dst V V.length d := hkn ▸ hx
      refine J.region ?_
      refine WL.yes (by rfl) (Ex.q (q_assign (by rfl)) (by rfl) ?_)
      refine WL.nil ?_
      (repeat refine J.seq ?_)
      refine J.block ?_
      (repeat refine J.seq ?_)
      refine J.loopP (fun x : Nat × Int × Int => S1 src dst V d x.1 x.2.1 x.2.2) (fun x => [(10, iV x.2.1), (11, iV x.2.2), (14, iV x.1)]) (fun x => []) (fun x => V.length - x.1) (0, -1, -1) [(4, _), (5, _), (6, _), (8, _), (9, _)] [(4, _), (5, _), (6, _), (32, _), (3051, _), (3052, _), (3060, _)] ⟨same rfl, same rfl, same rfl, same rfl, same rfl, trivial⟩ ⟨same rfl, same rfl, same rfl, trivial⟩ (.cons (s := 4) rfl (CLe.refl _ _) rfl (.cons (s := 5) rfl (CLe.refl _ _) rfl (.cons (s := 6) rfl (CLe.refl _ _) rfl (.cons (s := 32) rfl (CLe.refl _ _) rfl (.cons (s := 3051) rfl (CLe.refl _ _) rfl (.cons (s := 3052) rfl (CLe.refl _ _) rfl (.cons (s := 3060) rfl (CLe.refl _ _) rfl .nil))))))) ?_ ?_
      · (exact S1.zero _ _ _ _)
      rintro ⟨k, sv, bv⟩ hx
      (try dsimp only at hx)
      (try dsimp only)
      have hk := hx.1
      (repeat refine J.seq ?_)
      refine J.region ?_
      refine WL.yes (by rfl) (Ex.q (q_move (by rfl)) (by rfl) ?_)
      refine WL.yes (by rfl) (Ex.q (q_move (by rfl)) (by rfl) ?_)
      first | (refine WL.yes (by rfl) (Ex.q (q_len_slice (by rfl) (by rfl)) (by rfl) ?_)) | (refine WL.yes (by rfl) (Ex.q (q_len_string (by rfl)) (by rfl) ?_))
      refine WL.yes (by rfl) (Ex.q (q_int (by rfl) (by rfl) (by rfl)) (by rfl) ?_)
      refine WL.nil ?_
      (repeat refine J.seq ?_)
      refine J.cond (by rfl) (fun c64 => ?_) (fun c64 => ?_)
      · skip
        (first | have e64 := of_decide_eq_true c64 | have e64 := of_decide_eq_false c64 | have e64 := ndec_t c64 | have e64 := ndec_f c64 | skip)
        (repeat refine J.seq ?_)
        refine J.skip ?_
        (repeat refine J.seq ?_)
        refine J.block ?_
        (repeat refine J.seq ?_)
        have hk2 : k < V.length := by omega
        have hk3 : (lat V k).ok := hap.1 _ (lat_mem hk2)
        refine J.vecsome (t := 32) rfl (by omega) ?_
        intro b32 hb32
        subst hb32
        refine J.region ?_
        refine WL.yes (by rfl) (Ex.q (q_move (by rfl)) (by rfl) ?_)
        refine WL.yes (by rfl) (Ex.q (q_move (by rfl)) (by rfl) ?_)
        first | (refine WL.yes (by rfl) (Ex.q (q_indexAddr_ros (by rfl) (by rfl) (by intro _; rfl) ?_ ?_) (by rfl) ?_); (· (omega)); (· (omega))) | (refine WL.yes (by rfl) (Ex.q (q_indexAddr_sl (by rfl) (by rfl) ?_ ?_) (by rfl) ?_); (· (omega)); (· (omega))) | (refine WL.yes (by rfl) (Ex.q (q_indexAddr_arr (by rfl) (by rfl) ?_ ?_) (by rfl) ?_); (· (omega)); (· (omega)))
        first | (refine WL.yes (by rfl) (Ex.q (q_fieldAddr (by rfl)) (by rfl) ?_)) | (refine WL.yes (by rfl) (Ex.q (q_fieldAddr_rop (by rfl) (by rfl)) (by rfl) ?_)) | (refine WL.yes (by rfl) (Ex.q (q_fieldAddr_pel (by rfl)) (by rfl) ?_))
        first | (refine WL.yes (by rfl) (Ex.h (h_load (by rfl) (by rfl) (by rfl)) (by rfl) ?_)) | (refine WL.yes (by rfl) (Ex.q (q_load (by rfl) (by rfl) (by rfl)) (by rfl) ?_)) | (refine WL.yes (by rfl) (Ex.q (q_load_rop (by rfl) (by rfl)) (by rfl) ?_)) | (refine WL.yes (by rfl) (Ex.h (h_load_pel (by rfl) (by rfl) ?_ (by rfl)) (by rfl) ?_); (· (omega))) | (refine WL.yes (by rfl) (Ex.q (q_load_pel (by rfl) (by rfl) ?_ (by rfl)) (by rfl) ?_); (· (omega)))
        refine WL.set 71 (prE (lat V k).p) (by rfl) (by rw [Nat.zero_add, Int.toNat_natCast]) ?_
        refine WL.yes (by rfl) (Ex.alloc (by rfl) ?_)
        intro b15
        first | (refine WL.yes (by rfl) (Ex.store (by rfl) (by rfl) (by rfl) (by rfl) (by rfl) (by rfl) ?_)) | (refine WL.yes (by rfl) (Ex.store_pel (by rfl) (by rfl) (by rfl) (by rfl) (by rfl) ?_ (by rfl) ?_); (· (omega)))
        refine WL.nil ?_
        (repeat refine J.seq ?_)
        refine J.draw [4, 5, 6, 15, 32, 3051, 3052, 3060] 9999 [(0, true), (1, true), (3, true), (2, false), (4, false), (5, true), (6, true), (7, true), (8, true), (9, true), (10, false), (11, true), (12, true), (13, true), (14, true), (15, true), (16, true), (17, true), (18, true), (19, true), (20, true), (21, true), (22, true), (23, false), (24, true), (25, true), (26, true), (27, true), (28, true), (29, true), (30, true), (31, true)] (by kernel_rfl) rfl (by kernel_rfl) ?_
        intro F4 hF4
        first | (refine WS.take rfl (by rfl) (by rfl) (q_fieldAddr (by rfl)) ?_) | (refine WS.take rfl (by rfl) (by rfl) (q_fieldAddr_rop (by rfl) (by rfl)) ?_) | (refine WS.take rfl (by rfl) (by rfl) (q_fieldAddr_pel (by rfl)) ?_)
        first | (refine WS.take rfl (by rfl) (by rfl) (q_load (by rfl) (by rfl) (by rfl)) ?_) | (refine WS.take rfl (by rfl) (by rfl) (q_load_rop (by rfl) (by rfl)) ?_) | (refine WS.take rfl (by rfl) (by rfl) (q_load_pel (by rfl) (by rfl) ?_ (by rfl)) ?_; (· (omega)))
        first | (refine WS.take rfl (by rfl) (by rfl) (q_load (by rfl) (by rfl) (by rfl)) ?_) | (refine WS.take rfl (by rfl) (by rfl) (q_load_rop (by rfl) (by rfl)) ?_) | (refine WS.take rfl (by rfl) (by rfl) (q_load_pel (by rfl) (by rfl) ?_ (by rfl)) ?_; (· (omega)))
        refine WS.ex rfl (by rfl) (Ex.callq (famPR_spec _ ?_) (by rfl) (by rfl) rfl (fun _ h => h) ?_); (· (exact hk3.1.1))
        refine WS.ex rfl (by rfl) (Ex.callq (famR_spec ?_) (by rfl) (by rfl) rfl (fun _ h => h) ?_); (· (assumption))
        first | (refine WS.take rfl (by rfl) (by rfl) (q_int (by rfl) (by rfl) (by rfl)) ?_) | (refine WS.take rfl (by rfl) (by rfl) (q_eqb (by rfl) (by rfl)) ?_) | (refine WS.take rfl (by rfl) (by rfl) (q_eqp rfl rfl (by rfl) (by rfl) ?_) ?_; (· (rfl))) | (refine WS.take rfl (by rfl) (by rfl) (q_eqs (by rfl) (by rfl)) ?_)
        refine WS.take rfl (by rfl) (by rfl) (q_move (by rfl)) ?_
        refine WS.split 78 (by rfl) (fun g78 => ?_) (fun g78 => ?_)
        · skip
          (first | have eg78 := of_decide_eq_true g78 | have eg78 := of_decide_eq_false g78 | have eg78 := ndec_t g78 | have eg78 := ndec_f g78 | skip)
          have f1 : decide (famP (lat V k).p.d.a (lat V k).p.d.n = famA dst) = true := g78
          first | (refine WS.take rfl (by rfl) (by rfl) (q_fieldAddr (by rfl)) ?_) | (refine WS.take rfl (by rfl) (by rfl) (q_fieldAddr_rop (by rfl) (by rfl)) ?_) | (refine WS.take rfl (by rfl) (by rfl) (q_fieldAddr_pel (by rfl)) ?_)
          first | (refine WS.take rfl (by rfl) (by rfl) (q_load (by rfl) (by rfl) (by rfl)) ?_) | (refine WS.take rfl (by rfl) (by rfl) (q_load_rop (by rfl) (by rfl)) ?_) | (refine WS.take rfl (by rfl) (by rfl) (q_load_pel (by rfl) (by rfl) ?_ (by rfl)) ?_; (· (omega)))
          first | (refine WS.take rfl (by rfl) (by rfl) (q_load (by rfl) (by rfl) (by rfl)) ?_) | (refine WS.take rfl (by rfl) (by rfl) (q_load_rop (by rfl) (by rfl)) ?_) | (refine WS.take rfl (by rfl) (by rfl) (q_load_pel (by rfl) (by rfl) ?_ (by rfl)) ?_; (· (omega)))
          refine WS.ex rfl (by rfl) (Ex.callq (containsR_spec _ ?_ ?_) (by rfl) (by rfl) rfl (fun _ h => h) ?_); (· (first | exact hk3.1.1 | exact hk3.1.2)); (· (assumption))
          refine WS.take rfl (by rfl) (by rfl) (q_pick_t (by rfl) (by rfl)) ?_
          refine WS.take rfl (by rfl) (by rfl) (q_move (by rfl)) ?_
          refine WS.split 84 (by rfl) (fun g84 => ?_) (fun g84 => ?_)
          · skip
            (first | have eg84 := of_decide_eq_true g84 | have eg84 := of_decide_eq_false g84 | have eg84 := ndec_t g84 | have eg84 := ndec_f g84 | skip)
            have f2 : cand dst (lat V k) = true := by unfold cand; rw [f1, g84]; rfl
            first | (refine WS.take rfl (by rfl) (by rfl) (q_fieldAddr (by rfl)) ?_) | (refine WS.take rfl (by rfl) (by rfl) (q_fieldAddr_rop (by rfl) (by rfl)) ?_) | (refine WS.take rfl (by rfl) (by rfl) (q_fieldAddr_pel (by rfl)) ?_)
            first | (refine WS.take rfl (by rfl) (by rfl) (q_fieldAddr (by rfl)) ?_) | (refine WS.take rfl (by rfl) (by rfl) (q_fieldAddr_rop (by rfl) (by rfl)) ?_) | (refine WS.take rfl (by rfl) (by rfl) (q_fieldAddr_pel (by rfl)) ?_)
            first | (refine WS.take rfl (by rfl) (by rfl) (q_load (by rfl) (by rfl) (by rfl)) ?_) | (refine WS.take rfl (by rfl) (by rfl) (q_load_rop (by rfl) (by rfl)) ?_) | (refine WS.take rfl (by rfl) (by rfl) (q_load_pel (by rfl) (by rfl) ?_ (by rfl)) ?_; (· (omega)))
            refine WS.take rfl (by rfl) (by rfl) (q_move (by rfl)) ?_
            first | (refine WS.take rfl (by rfl) (by rfl) (q_int (by rfl) (by rfl) (by rfl)) ?_) | (refine WS.take rfl (by rfl) (by rfl) (q_eqb (by rfl) (by rfl)) ?_) | (refine WS.take rfl (by rfl) (by rfl) (q_eqp rfl rfl (by rfl) (by rfl) ?_) ?_; (· (rfl))) | (refine WS.take rfl (by rfl) (by rfl) (q_eqs (by rfl) (by rfl)) ?_)
            refine WS.take rfl (by rfl) (by rfl) (q_pick_t (by rfl) (by rfl)) ?_
            refine WS.take rfl (by rfl) (by rfl) (q_move (by rfl)) ?_
            refine WS.split 91 (by rfl) (fun g91 => ?_) (fun g91 => ?_)
            · skip
              (first | have eg91 := of_decide_eq_true g91 | have eg91 := of_decide_eq_false g91 | have eg91 := ndec_t g91 | have eg91 := ndec_f g91 | skip)
              first | (refine WS.take rfl (by rfl) (by rfl) (q_fieldAddr (by rfl)) ?_) | (refine WS.take rfl (by rfl) (by rfl) (q_fieldAddr_rop (by rfl) (by rfl)) ?_) | (refine WS.take rfl (by rfl) (by rfl) (q_fieldAddr_pel (by rfl)) ?_)
              first | (refine WS.take rfl (by rfl) (by rfl) (q_load (by rfl) (by rfl) (by rfl)) ?_) | (refine WS.take rfl (by rfl) (by rfl) (q_load_rop (by rfl) (by rfl)) ?_) | (refine WS.take rfl (by rfl) (by rfl) (q_load_pel (by rfl) (by rfl) ?_ (by rfl)) ?_; (· (omega)))
              first | (refine WS.take rfl (by rfl) (by rfl) (q_load (by rfl) (by rfl) (by rfl)) ?_) | (refine WS.take rfl (by rfl) (by rfl) (q_load_rop (by rfl) (by rfl)) ?_) | (refine WS.take rfl (by rfl) (by rfl) (q_load_pel (by rfl) (by rfl) ?_ (by rfl)) ?_; (· (omega)))
              refine WS.ex rfl (by rfl) (Ex.callq (containsR_spec _ ?_ ?_) (by rfl) (by rfl) rfl (fun _ h => h) ?_); (· (first | exact hk3.1.1 | exact hk3.1.2)); (· (assumption))
              refine WS.take rfl (by rfl) (by rfl) (q_pick_t (by rfl) (by rfl)) ?_
              refine WS.take rfl (by rfl) (by rfl) (q_move (by rfl)) ?_
              refine WS.split 97 (by rfl) (fun g97 => ?_) (fun g97 => ?_)
              · skip
                (first | have eg97 := of_decide_eq_true g97 | have eg97 := of_decide_eq_false g97 | have eg97 := ndec_t g97 | have eg97 := ndec_f g97 | skip)
                have f3 : mt src dst d (lat V k) := ⟨f2, eg91, g97⟩
                first | (refine WS.take rfl (by rfl) (by rfl) (q_fieldAddr (by rfl)) ?_) | (refine WS.take rfl (by rfl) (by rfl) (q_fieldAddr_rop (by rfl) (by rfl)) ?_) | (refine WS.take rfl (by rfl) (by rfl) (q_fieldAddr_pel (by rfl)) ?_)
                first | (refine WS.take rfl (by rfl) (by rfl) (q_fieldAddr (by rfl)) ?_) | (refine WS.take rfl (by rfl) (by rfl) (q_fieldAddr_rop (by rfl) (by rfl)) ?_) | (refine WS.take rfl (by rfl) (by rfl) (q_fieldAddr_pel (by rfl)) ?_)
                first | (refine WS.take rfl (by rfl) (by rfl) (q_load (by rfl) (by rfl) (by rfl)) ?_) | (refine WS.take rfl (by rfl) (by rfl) (q_load_rop (by rfl) (by rfl)) ?_) | (refine WS.take rfl (by rfl) (by rfl) (q_load_pel (by rfl) (by rfl) ?_ (by rfl)) ?_; (· (omega)))
                refine WS.take rfl (by rfl) (by rfl) (q_move (by rfl)) ?_
                refine WS.take rfl (by rfl) (by rfl) (q_int (by rfl) (by rfl) (by rfl)) ?_
                refine WS.take rfl (by rfl) (by rfl) (q_pick_t (by rfl) (by rfl)) ?_
                refine WS.nil ?_
                (repeat refine J.seq ?_)
                refine J.cond (by rfl) (fun c103 => ?_) (fun c103 => ?_)
                · skip
                  (first | have e103 := of_decide_eq_true c103 | have e103 := of_decide_eq_false c103 | have e103 := ndec_t c103 | have e103 := ndec_f c103 | skip)
                  have hyes : sv < (lat V k).p.s.n := e103
                  (repeat refine J.seq ?_)
                  refine J.region ?_
                  first | (refine WL.yes (by rfl) (Ex.q (q_fieldAddr (by rfl)) (by rfl) ?_)) | (refine WL.yes (by rfl) (Ex.q (q_fieldAddr_rop (by rfl) (by rfl)) (by rfl) ?_)) | (refine WL.yes (by rfl) (Ex.q (q_fieldAddr_pel (by rfl)) (by rfl) ?_))
                  first | (refine WL.yes (by rfl) (Ex.q (q_fieldAddr (by rfl)) (by rfl) ?_)) | (refine WL.yes (by rfl) (Ex.q (q_fieldAddr_rop (by rfl) (by rfl)) (by rfl) ?_)) | (refine WL.yes (by rfl) (Ex.q (q_fieldAddr_pel (by rfl)) (by rfl) ?_))
                  first | (refine WL.yes (by rfl) (Ex.h (h_load (by rfl) (by rfl) (by rfl)) (by rfl) ?_)) | (refine WL.yes (by rfl) (Ex.q (q_load (by rfl) (by rfl) (by rfl)) (by rfl) ?_)) | (refine WL.yes (by rfl) (Ex.q (q_load_rop (by rfl) (by rfl)) (by rfl) ?_)) | (refine WL.yes (by rfl) (Ex.h (h_load_pel (by rfl) (by rfl) ?_ (by rfl)) (by rfl) ?_); (· (omega))) | (refine WL.yes (by rfl) (Ex.q (q_load_pel (by rfl) (by rfl) ?_ (by rfl)) (by rfl) ?_); (· (omega)))
                  refine WL.yes (by rfl) (Ex.q (q_assign (by rfl)) (by rfl) ?_)
                  refine WL.nil ?_
                  (repeat refine J.seq ?_)
                  refine J.region ?_
                  refine WL.yes (by rfl) (Ex.q (q_move (by rfl)) (by rfl) ?_)
                  refine WL.yes (by rfl) (Ex.q (q_assign (by rfl)) (by rfl) ?_)
                  refine WL.nil ?_
                  (repeat refine J.seq ?_)
                  refine J.region ?_
                  refine WL.yes (by rfl) (Ex.q (q_move (by rfl)) (by rfl) ?_)
                  refine WL.yes (by rfl) (Ex.q (q_int (by rfl) (by rfl) (by rfl)) (by rfl) ?_)
                  refine WL.yes (by rfl) (Ex.q (q_assign (by rfl)) (by rfl) ?_)
                  refine WL.nil ?_
                  first | (refine Kloop.nextP (k + 1, (lat V k).p.s.n, (k : Int)) ?_ ?_ ⟨same rfl, same rfl, same (by rw [← w64_nat (k := k) (by omega)]; rfl), trivial⟩ ⟨same rfl, same rfl, same rfl, same rfl, same rfl, trivial⟩ (.cons (s := 4) rfl (CLe.refl _ _) rfl (.cons (s := 5) rfl (CLe.refl _ _) rfl (.cons (s := 6) rfl (CLe.refl _ _) rfl (.cons (s := 32) rfl (CLe.refl _ _) rfl (.cons (s := 3051) rfl (CLe.refl _ _) rfl (.cons (s := 3052) rfl (CLe.refl _ _) rfl (.cons (s := 3060) rfl (CLe.refl _ _) rfl .nil))))))); (· (exact hx.yes hk2 f3 hyes)); (· ((try dsimp only) <;> omega))) | (refine Kloop.nextP (k + 1, sv, bv) ?_ ?_ ⟨same rfl, same rfl, same (by rw [← w64_nat (k := k) (by omega)]; rfl), trivial⟩ ⟨same rfl, same rfl, same rfl, same rfl, same rfl, trivial⟩ (.cons (s := 4) rfl (CLe.refl _ _) rfl (.cons (s := 5) rfl (CLe.refl _ _) rfl (.cons (s := 6) rfl (CLe.refl _ _) rfl (.cons (s := 32) rfl (CLe.refl _ _) rfl (.cons (s := 3051) rfl (CLe.refl _ _) rfl (.cons (s := 3052) rfl (CLe.refl _ _) rfl (.cons (s := 3060) rfl (CLe.refl _ _) rfl .nil))))))); (· (exact hx.no hk2 hcn)); (· ((try dsimp only) <;> omega)))
                · skip
                  (first | have e103 := of_decide_eq_true c103 | have e103 := of_decide_eq_false c103 | have e103 := ndec_t c103 | have e103 := ndec_f c103 | skip)
                  have hcn : ¬ (mt src dst d (lat V k) ∧ sv < (lat V k).p.s.n) := fun x => e103 x.2
                  (repeat refine J.seq ?_)
                  refine J.skip ?_
                  (repeat refine J.seq ?_)
                  refine J.region ?_
                  refine WL.yes (by rfl) (Ex.q (q_move (by rfl)) (by rfl) ?_)
                  refine WL.yes (by rfl) (Ex.q (q_int (by rfl) (by rfl) (by rfl)) (by rfl) ?_)
                  refine WL.yes (by rfl) (Ex.q (q_assign (by rfl)) (by rfl) ?_)
                  refine WL.nil ?_
                  first | (refine Kloop.nextP (k + 1, (lat V k).p.s.n, (k : Int)) ?_ ?_ ⟨same rfl, same rfl, same (by rw [← w64_nat (k := k) (by omega)]; rfl), trivial⟩ ⟨same rfl, same rfl, same rfl, same rfl, same rfl, trivial⟩ (.cons (s := 4) rfl (CLe.refl _ _) rfl (.cons (s := 5) rfl (CLe.refl _ _) rfl (.cons (s := 6) rfl (CLe.refl _ _) rfl (.cons (s := 32) rfl (CLe.refl _ _) rfl (.cons (s := 3051) rfl (CLe.refl _ _) rfl (.cons (s := 3052) rfl (CLe.refl _ _) rfl (.cons (s := 3060) rfl (CLe.refl _ _) rfl .nil))))))); (· (exact hx.yes hk2 f3 hyes)); (· ((try dsimp only) <;> omega))) | (refine Kloop.nextP (k + 1, sv, bv) ?_ ?_ ⟨same rfl, same rfl, same (by rw [← w64_nat (k := k) (by omega)]; rfl), trivial⟩ ⟨same rfl, same rfl, same rfl, same rfl, same rfl, trivial⟩ (.cons (s := 4) rfl (CLe.refl _ _) rfl (.cons (s := 5) rfl (CLe.refl _ _) rfl (.cons (s := 6) rfl (CLe.refl _ _) rfl (.cons (s := 32) rfl (CLe.refl _ _) rfl (.cons (s := 3051) rfl (CLe.refl _ _) rfl (.cons (s := 3052) rfl (CLe.refl _ _) rfl (.cons (s := 3060) rfl (CLe.refl _ _) rfl .nil))))))); (· (exact hx.no hk2 hcn)); (· ((try dsimp only) <;> omega)))
              · skip
                (first | have eg97 := of_decide_eq_true g97 | have eg97 := of_decide_eq_false g97 | have eg97 := ndec_t g97 | have eg97 := ndec_f g97 | skip)
                have hcn : ¬ (mt src dst d (lat V k) ∧ sv < (lat V k).p.s.n) := fun x => by have := x.1.2.2; rw [g97] at this; cases this
                refine WS.takeNo rfl (by rfl) (by rfl) ?_
                refine WS.takeNo rfl (by rfl) (by rfl) ?_
                refine WS.takeNo rfl (by rfl) (by rfl) ?_
                refine WS.takeNo rfl (by rfl) (by rfl) ?_
                refine WS.takeNo rfl (by rfl) (by rfl) ?_
                refine WS.take rfl (by rfl) (by rfl) (q_pick_f (by rfl) (by rfl)) ?_
                refine WS.nil ?_
                (repeat refine J.seq ?_)
                refine J.condF (by rfl) ?_
                (repeat refine J.seq ?_)
                refine J.skip ?_
                (repeat refine J.seq ?_)
                refine J.region ?_
                refine WL.yes (by rfl) (Ex.q (q_move (by rfl)) (by rfl) ?_)
                refine WL.yes (by rfl) (Ex.q (q_int (by rfl) (by rfl) (by rfl)) (by rfl) ?_)
                refine WL.yes (by rfl) (Ex.q (q_assign (by rfl)) (by rfl) ?_)
                refine WL.nil ?_
                first | (refine Kloop.nextP (k + 1, (lat V k).p.s.n, (k : Int)) ?_ ?_ ⟨same rfl, same rfl, same (by rw [← w64_nat (k := k) (by omega)]; rfl), trivial⟩ ⟨same rfl, same rfl, same rfl, same rfl, same rfl, trivial⟩ (.cons (s := 4) rfl (CLe.refl _ _) rfl (.cons (s := 5) rfl (CLe.refl _ _) rfl (.cons (s := 6) rfl (CLe.refl _ _) rfl (.cons (s := 32) rfl (CLe.refl _ _) rfl (.cons (s := 3051) rfl (CLe.refl _ _) rfl (.cons (s := 3052) rfl (CLe.refl _ _) rfl (.cons (s := 3060) rfl (CLe.refl _ _) rfl .nil))))))); (· (exact hx.yes hk2 f3 hyes)); (· ((try dsimp only) <;> omega))) | (refine Kloop.nextP (k + 1, sv, bv) ?_ ?_ ⟨same rfl, same rfl, same (by rw [← w64_nat (k := k) (by omega)]; rfl), trivial⟩ ⟨same rfl, same rfl, same rfl, same rfl, same rfl, trivial⟩ (.cons (s := 4) rfl (CLe.refl _ _) rfl (.cons (s := 5) rfl (CLe.refl _ _) rfl (.cons (s := 6) rfl (CLe.refl _ _) rfl (.cons (s := 32) rfl (CLe.refl _ _) rfl (.cons (s := 3051) rfl (CLe.refl _ _) rfl (.cons (s := 3052) rfl (CLe.refl _ _) rfl (.cons (s := 3060) rfl (CLe.refl _ _) rfl .nil))))))); (· (exact hx.no hk2 hcn)); (· ((try dsimp only) <;> omega)))
            · skip
              (first | have eg91 := of_decide_eq_true g91 | have eg91 := of_decide_eq_false g91 | have eg91 := ndec_t g91 | have eg91 := ndec_f g91 | skip)
              have hcn : ¬ (mt src dst d (lat V k) ∧ sv < (lat V k).p.s.n) := fun x => eg91 x.1.2.1
              refine WS.takeNo rfl (by rfl) (by rfl) ?_
              refine WS.takeNo rfl (by rfl) (by rfl) ?_
              refine WS.takeNo rfl (by rfl) (by rfl) ?_
              refine WS.takeNo rfl (by rfl) (by rfl) ?_
              refine WS.take rfl (by rfl) (by rfl) (q_pick_f (by rfl) (by rfl)) ?_
              refine WS.take rfl (by rfl) (by rfl) (q_move (by rfl)) ?_
              refine WS.takeNo rfl (by rfl) (by rfl) ?_
              refine WS.takeNo rfl (by rfl) (by rfl) ?_
              refine WS.takeNo rfl (by rfl) (by rfl) ?_
              refine WS.takeNo rfl (by rfl) (by rfl) ?_
              refine WS.takeNo rfl (by rfl) (by rfl) ?_
              refine WS.take rfl (by rfl) (by rfl) (q_pick_f (by rfl) (by rfl)) ?_
              refine WS.nil ?_
              (repeat refine J.seq ?_)
              refine J.condF (by rfl) ?_
              (repeat refine J.seq ?_)
              refine J.skip ?_
              (repeat refine J.seq ?_)
              refine J.region ?_
              refine WL.yes (by rfl) (Ex.q (q_move (by rfl)) (by rfl) ?_)
              refine WL.yes (by rfl) (Ex.q (q_int (by rfl) (by rfl) (by rfl)) (by rfl) ?_)
              refine WL.yes (by rfl) (Ex.q (q_assign (by rfl)) (by rfl) ?_)
              refine WL.nil ?_
              first | (refine Kloop.nextP (k + 1, (lat V k).p.s.n, (k : Int)) ?_ ?_ ⟨same rfl, same rfl, same (by rw [← w64_nat (k := k) (by omega)]; rfl), trivial⟩ ⟨same rfl, same rfl, same rfl, same rfl, same rfl, trivial⟩ (.cons (s := 4) rfl (CLe.refl _ _) rfl (.cons (s := 5) rfl (CLe.refl _ _) rfl (.cons (s := 6) rfl (CLe.refl _ _) rfl (.cons (s := 32) rfl (CLe.refl _ _) rfl (.cons (s := 3051) rfl (CLe.refl _ _) rfl (.cons (s := 3052) rfl (CLe.refl _ _) rfl (.cons (s := 3060) rfl (CLe.refl _ _) rfl .nil))))))); (· (exact hx.yes hk2 f3 hyes)); (· ((try dsimp only) <;> omega))) | (refine Kloop.nextP (k + 1, sv, bv) ?_ ?_ ⟨same rfl, same rfl, same (by rw [← w64_nat (k := k) (by omega)]; rfl), trivial⟩ ⟨same rfl, same rfl, same rfl, same rfl, same rfl, trivial⟩ (.cons (s := 4) rfl (CLe.refl _ _) rfl (.cons (s := 5) rfl (CLe.refl _ _) rfl (.cons (s := 6) rfl (CLe.refl _ _) rfl (.cons (s := 32) rfl (CLe.refl _ _) rfl (.cons (s := 3051) rfl (CLe.refl _ _) rfl (.cons (s := 3052) rfl (CLe.refl _ _) rfl (.cons (s := 3060) rfl (CLe.refl _ _) rfl .nil))))))); (· (exact hx.no hk2 hcn)); (· ((try dsimp only) <;> omega)))
          · skip
            (first | have eg84 := of_decide_eq_true g84 | have eg84 := of_decide_eq_false g84 | have eg84 := ndec_t g84 | have eg84 := ndec_f g84 | skip)
            have hcn : ¬ (mt src dst d (lat V k) ∧ sv < (lat V k).p.s.n) := fun x => by have := x.1.1; unfold cand at this; rw [f1, g84] at this; cases this
            refine WS.takeNo rfl (by rfl) (by rfl) ?_
            refine WS.takeNo rfl (by rfl) (by rfl) ?_
            refine WS.takeNo rfl (by rfl) (by rfl) ?_
            refine WS.takeNo rfl (by rfl) (by rfl) ?_
            refine WS.takeNo rfl (by rfl) (by rfl) ?_
            refine WS.take rfl (by rfl) (by rfl) (q_pick_f (by rfl) (by rfl)) ?_
            refine WS.take rfl (by rfl) (by rfl) (q_move (by rfl)) ?_
            refine WS.takeNo rfl (by rfl) (by rfl) ?_
            refine WS.takeNo rfl (by rfl) (by rfl) ?_
            refine WS.takeNo rfl (by rfl) (by rfl) ?_
            refine WS.takeNo rfl (by rfl) (by rfl) ?_
            refine WS.take rfl (by rfl) (by rfl) (q_pick_f (by rfl) (by rfl)) ?_
            refine WS.take rfl (by rfl) (by rfl) (q_move (by rfl)) ?_
            refine WS.takeNo rfl (by rfl) (by rfl) ?_
            refine WS.takeNo rfl (by rfl) (by rfl) ?_
            refine WS.takeNo rfl (by rfl) (by rfl) ?_
            refine WS.takeNo rfl (by rfl) (by rfl) ?_
            refine WS.takeNo rfl (by rfl) (by rfl) ?_
            refine WS.take rfl (by rfl) (by rfl) (q_pick_f (by rfl) (by rfl)) ?_
            refine WS.nil ?_
            (repeat refine J.seq ?_)
            refine J.condF (by rfl) ?_
            (repeat refine J.seq ?_)
            refine J.skip ?_
            (repeat refine J.seq ?_)
            refine J.region ?_
            refine WL.yes (by rfl) (Ex.q (q_move (by rfl)) (by rfl) ?_)
            refine WL.yes (by rfl) (Ex.q (q_int (by rfl) (by rfl) (by rfl)) (by rfl) ?_)
            refine WL.yes (by rfl) (Ex.q (q_assign (by rfl)) (by rfl) ?_)
            refine WL.nil ?_
            first | (refine Kloop.nextP (k + 1, (lat V k).p.s.n, (k : Int)) ?_ ?_ ⟨same rfl, same rfl, same (by rw [← w64_nat (k := k) (by omega)]; rfl), trivial⟩ ⟨same rfl, same rfl, same rfl, same rfl, same rfl, trivial⟩ (.cons (s := 4) rfl (CLe.refl _ _) rfl (.cons (s := 5) rfl (CLe.refl _ _) rfl (.cons (s := 6) rfl (CLe.refl _ _) rfl (.cons (s := 32) rfl (CLe.refl _ _) rfl (.cons (s := 3051) rfl (CLe.refl _ _) rfl (.cons (s := 3052) rfl (CLe.refl _ _) rfl (.cons (s := 3060) rfl (CLe.refl _ _) rfl .nil))))))); (· (exact hx.yes hk2 f3 hyes)); (· ((try dsimp only) <;> omega))) | (refine Kloop.nextP (k + 1, sv, bv) ?_ ?_ ⟨same rfl, same rfl, same (by rw [← w64_nat (k := k) (by omega)]; rfl), trivial⟩ ⟨same rfl, same rfl, same rfl, same rfl, same rfl, trivial⟩ (.cons (s := 4) rfl (CLe.refl _ _) rfl (.cons (s := 5) rfl (CLe.refl _ _) rfl (.cons (s := 6) rfl (CLe.refl _ _) rfl (.cons (s := 32) rfl (CLe.refl _ _) rfl (.cons (s := 3051) rfl (CLe.refl _ _) rfl (.cons (s := 3052) rfl (CLe.refl _ _) rfl (.cons (s := 3060) rfl (CLe.refl _ _) rfl .nil))))))); (· (exact hx.no hk2 hcn)); (· ((try dsimp only) <;> omega)))
        · skip
          (first | have eg78 := of_decide_eq_true g78 | have eg78 := of_decide_eq_false g78 | have eg78 := ndec_t g78 | have eg78 := ndec_f g78 | skip)
          have hcn : ¬ (mt src dst d (lat V k) ∧ sv < (lat V k).p.s.n) := fun x => by have := x.1.1; unfold cand at this; rw [g78] at this; cases this
          refine WS.takeNo rfl (by rfl) (by rfl) ?_
          refine WS.takeNo rfl (by rfl) (by rfl) ?_
          refine WS.takeNo rfl (by rfl) (by rfl) ?_
          refine WS.takeNo rfl (by rfl) (by rfl) ?_
          refine WS.take rfl (by rfl) (by rfl) (q_pick_f (by rfl) (by rfl)) ?_
          refine WS.take rfl (by rfl) (by rfl) (q_move (by rfl)) ?_
          refine WS.takeNo rfl (by rfl) (by rfl) ?_
          refine WS.takeNo rfl (by rfl) (by rfl) ?_
          refine WS.takeNo rfl (by rfl) (by rfl) ?_
          refine WS.takeNo rfl (by rfl) (by rfl) ?_
          refine WS.takeNo rfl (by rfl) (by rfl) ?_
          refine WS.take rfl (by rfl) (by rfl) (q_pick_f (by rfl) (by rfl)) ?_
          refine WS.take rfl (by rfl) (by rfl) (q_move (by rfl)) ?_
          refine WS.takeNo rfl (by rfl) (by rfl) ?_
          refine WS.takeNo rfl (by rfl) (by rfl) ?_
          refine WS.takeNo rfl (by rfl) (by rfl) ?_
          refine WS.takeNo rfl (by rfl) (by rfl) ?_
          refine WS.take rfl (by rfl) (by rfl) (q_pick_f (by rfl) (by rfl)) ?_
          refine WS.take rfl (by rfl) (by rfl) (q_move (by rfl)) ?_
          refine WS.takeNo rfl (by rfl) (by rfl) ?_
          refine WS.takeNo rfl (by rfl) (by rfl) ?_
          refine WS.takeNo rfl (by rfl) (by rfl) ?_
          refine WS.takeNo rfl (by rfl) (by rfl) ?_
          refine WS.takeNo rfl (by rfl) (by rfl) ?_
          refine WS.take rfl (by rfl) (by rfl) (q_pick_f (by rfl) (by rfl)) ?_
          refine WS.nil ?_
          (repeat refine J.seq ?_)
          refine J.condF (by rfl) ?_
          (repeat refine J.seq ?_)
          refine J.skip ?_
          (repeat refine J.seq ?_)
          refine J.region ?_
          refine WL.yes (by rfl) (Ex.q (q_move (by rfl)) (by rfl) ?_)
          refine WL.yes (by rfl) (Ex.q (q_int (by rfl) (by rfl) (by rfl)) (by rfl) ?_)
          refine WL.yes (by rfl) (Ex.q (q_assign (by rfl)) (by rfl) ?_)
          refine WL.nil ?_
          first | (refine Kloop.nextP (k + 1, (lat V k).p.s.n, (k : Int)) ?_ ?_ ⟨same rfl, same rfl, same (by rw [← w64_nat (k := k) (by omega)]; rfl), trivial⟩ ⟨same rfl, same rfl, same rfl, same rfl, same rfl, trivial⟩ (.cons (s := 4) rfl (CLe.refl _ _) rfl (.cons (s := 5) rfl (CLe.refl _ _) rfl (.cons (s := 6) rfl (CLe.refl _ _) rfl (.cons (s := 32) rfl (CLe.refl _ _) rfl (.cons (s := 3051) rfl (CLe.refl _ _) rfl (.cons (s := 3052) rfl (CLe.refl _ _) rfl (.cons (s := 3060) rfl (CLe.refl _ _) rfl .nil))))))); (· (exact hx.yes hk2 f3 hyes)); (· ((try dsimp only) <;> omega))) | (refine Kloop.nextP (k + 1, sv, bv) ?_ ?_ ⟨same rfl, same rfl, same (by rw [← w64_nat (k := k) (by omega)]; rfl), trivial⟩ ⟨same rfl, same rfl, same rfl, same rfl, same rfl, trivial⟩ (.cons (s := 4) rfl (CLe.refl _ _) rfl (.cons (s := 5) rfl (CLe.refl _ _) rfl (.cons (s := 6) rfl (CLe.refl _ _) rfl (.cons (s := 32) rfl (CLe.refl _ _) rfl (.cons (s := 3051) rfl (CLe.refl _ _) rfl (.cons (s := 3052) rfl (CLe.refl _ _) rfl (.cons (s := 3060) rfl (CLe.refl _ _) rfl .nil))))))); (· (exact hx.no hk2 hcn)); (· ((try dsimp only) <;> omega)))
      · skip
        (first | have e64 := of_decide_eq_true c64 | have e64 := of_decide_eq_false c64 | have e64 := ndec_t c64 | have e64 := ndec_f c64 | skip)
        (repeat refine J.seq ?_)
        refine J.exit ?_
        (repeat refine J.seq ?_)
        have hkn : k = V.length := by omega
        have hS : S1 src dst V d V.length sv bv := hkn ▸ hx
        refine J.region ?_
        refine WL.yes (by rfl) (Ex.q (q_move (by rfl)) (by rfl) ?_)
        refine WL.yes (by rfl) (Ex.q (q_int (by rfl) (by rfl) (by rfl)) (by rfl) ?_)
        refine WL.nil ?_
        (repeat refine J.seq ?_)
        refine J.cond (by rfl) (fun c109 => ?_) (fun c109 => ?_)
        · skip
          (first | have e109 := of_decide_eq_true c109 | have e109 := of_decide_eq_false c109 | have e109 := ndec_t c109 | have e109 := ndec_f c109 | skip)
          have hres := (rlook_eq hap hD hS).1 e109
          (repeat refine J.seq ?_)
          refine J.region ?_
          refine WL.yes (by rfl) (Ex.q (q_build (parts := []) (by rfl) (by rfl)) (by rfl) ?_)
          first | (refine WL.yes (by rfl) (Ex.store (by rfl) (by rfl) (by rfl) (by rfl) (by rfl) (by rfl) ?_)) | (refine WL.yes (by rfl) (Ex.store_pel (by rfl) (by rfl) (by rfl) (by rfl) (by rfl) ?_ (by rfl) ?_); (· (omega)))
          refine WL.yes (by rfl) (Ex.q (q_assign (by rfl)) (by rfl) ?_)
          refine WL.nil ?_
          (repeat refine J.seq ?_)
          refine J.ret ?_
          (repeat (with_reducible first | refine Kseq.ret ?_ | refine Kblock.ret ?_ | refine Kloop.ret ?_ | refine Kcut.ret ?_))
          refine Kret.mk [(3060, .box wb 29 (rVv a1 a2 c1 c2 s)), (3051, lvec a1 37 51 c1 enE s.T), (3052, lvec a2 37 51 c2 enE s.U)] (.cell inferInstance (by rfl) (by rfl) (by rfl) (.tmp (by rfl) (.nil))) (by rfl) trivial (HLe.sub (.cons (s := 3060) rfl (by first | exact CLe.refl _ _ | exact CLe.box rfl) rfl (.cons (s := 3051) rfl (by first | exact CLe.refl _ _ | exact CLe.box rfl) rfl (.cons (s := 3052) rfl (by first | exact CLe.refl _ _ | exact CLe.box rfl) rfl .nil)))) ?_
          first
            | (rw [hk0, hres]; exact ⟨rfl, rfl⟩)
            | (rw [hk0]; exact ⟨rfl, rfl⟩)
        · skip
          (first | have e109 := of_decide_eq_true c109 | have e109 := of_decide_eq_false c109 | have e109 := ndec_t c109 | have e109 := ndec_f c109 | skip)
          obtain ⟨ib, hib, hib2, hres⟩ := (rlook_eq hap hD hS).2 (by omega)
          subst hib
          refine J.vecsome (t := 32) rfl (by omega) ?_
          intro b32 hb32
          subst hb32
          (repeat refine J.seq ?_)
          refine J.skip ?_
          (repeat refine J.seq ?_)
          refine J.region ?_
          refine WL.yes (by rfl) (Ex.q (q_move (by rfl)) (by rfl) ?_)
          refine WL.yes (by rfl) (Ex.q (q_move (by rfl)) (by rfl) ?_)
          first | (refine WL.yes (by rfl) (Ex.q (q_indexAddr_ros (by rfl) (by rfl) (by intro _; rfl) ?_ ?_) (by rfl) ?_); (· (omega)); (· (omega))) | (refine WL.yes (by rfl) (Ex.q (q_indexAddr_sl (by rfl) (by rfl) ?_ ?_) (by rfl) ?_); (· (omega)); (· (omega))) | (refine WL.yes (by rfl) (Ex.q (q_indexAddr_arr (by rfl) (by rfl) ?_ ?_) (by rfl) ?_); (· (omega)); (· (omega)))
          first | (refine WL.yes (by rfl) (Ex.h (h_load (by rfl) (by rfl) (by rfl)) (by rfl) ?_)) | (refine WL.yes (by rfl) (Ex.q (q_load (by rfl) (by rfl) (by rfl)) (by rfl) ?_)) | (refine WL.yes (by rfl) (Ex.q (q_load_rop (by rfl) (by rfl)) (by rfl) ?_)) | (refine WL.yes (by rfl) (Ex.h (h_load_pel (by rfl) (by rfl) ?_ (by rfl)) (by rfl) ?_); (· (omega))) | (refine WL.yes (by rfl) (Ex.q (q_load_pel (by rfl) (by rfl) ?_ (by rfl)) (by rfl) ?_); (· (omega)))
          refine WL.set 114 (enE (lat V ib)) (by rfl) (by rw [Nat.zero_add, Int.toNat_natCast]) ?_
          first | (refine WL.yes (by rfl) (Ex.store (by rfl) (by rfl) (by rfl) (by rfl) (by rfl) (by rfl) ?_)) | (refine WL.yes (by rfl) (Ex.store_pel (by rfl) (by rfl) (by rfl) (by rfl) (by rfl) ?_ (by rfl) ?_); (· (omega)))
          refine WL.yes (by rfl) (Ex.q (q_assign (by rfl)) (by rfl) ?_)
          refine WL.nil ?_
          (repeat refine J.seq ?_)
          refine J.ret ?_
          (repeat (with_reducible first | refine Kseq.ret ?_ | refine Kblock.ret ?_ | refine Kloop.ret ?_ | refine Kcut.ret ?_))
          refine Kret.mk [(3060, .box wb 29 (rVv a1 a2 c1 c2 s)), (3051, lvec a1 37 51 c1 enE s.T), (3052, lvec a2 37 51 c2 enE s.U)] (.cell inferInstance (by rfl) (by rfl) (by rfl) (.tmp (by rfl) (.nil))) (by rfl) trivial (HLe.sub (.cons (s := 3060) rfl (by first | exact CLe.refl _ _ | exact CLe.box rfl) rfl (.cons (s := 3051) rfl (by first | exact CLe.refl _ _ | exact CLe.box rfl) rfl (.cons (s := 3052) rfl (by first | exact CLe.refl _ _ | exact CLe.box rfl) rfl .nil)))) ?_
          first
            | (rw [hk0, hres]; exact ⟨rfl, rfl⟩)
            | (rw [hk0]; exact ⟨rfl, rfl⟩)

set_option maxHeartbeats 16000000 in
set_option maxRecDepth 100000 in
theorem kLookupNil_spec (src dst : List Int) : Spec Try.prog 23 [.nilp, adV src, adV dst] [] (fun r H' => r = .tup2 (enE default) (.bool false) ∧ H' = []) := by
  refine Spec.of_J Try.func23 rfl Try.ntmps23 Try.results23 rfl ?_
  intro A F hAF
  (repeat refine J.seq ?_)
  refine J.region ?_
  refine WL.yes (by rfl) (Ex.box (by rfl) (by rfl) (by rfl) ?_)
  intro b4
  refine WL.yes (by rfl) (Ex.box (by rfl) (by rfl) (by rfl) ?_)
  intro b5
  refine WL.yes (by rfl) (Ex.alloc (by rfl) ?_)
  intro b6
  refine WL.yes (by rfl) (Ex.q (q_assign (by rfl)) (by rfl) ?_)
  refine WL.nil ?_
  (repeat refine J.seq ?_)
  refine J.draw [4, 5, 6] 9999 [(0, true), (1, true), (2, true), (3, true), (5, true), (4, false), (6, false), (7, true), (8, true)] (by kernel_rfl) rfl (by kernel_rfl) ?_
  intro F1 hF1
  refine WS.take rfl (by rfl) (by rfl) (q_move (by rfl)) ?_
  refine WS.take rfl (by rfl) (by rfl) (q_eqnil (by rfl) (by rfl) (by rfl)) ?_
  refine WS.take rfl (by rfl) (by rfl) (q_move (by rfl)) ?_
  refine WS.split 18 (by rfl) (fun g18 => ?_) (fun g18 => ?_)
  · skip
    (first | have eg18 := of_decide_eq_true g18 | have eg18 := of_decide_eq_false g18 | have eg18 := ndec_t g18 | have eg18 := ndec_f g18 | skip)
    refine WS.takeNo rfl (by rfl) (by rfl) ?_
    refine WS.takeNo rfl (by rfl) (by rfl) ?_
    refine WS.takeNo rfl (by rfl) (by rfl) ?_
    refine WS.takeNo rfl (by rfl) (by rfl) ?_
    refine WS.takeNo rfl (by rfl) (by rfl) ?_
    refine WS.take rfl (by rfl) (by rfl) (q_pick_t (by rfl) (by rfl)) ?_
    refine WS.nil ?_
    (repeat refine J.seq ?_)
    refine J.condT (by rfl) ?_
    (repeat refine J.seq ?_)
    refine J.region ?_
    refine WL.yes (by rfl) (Ex.q (q_build (parts := []) (by rfl) (by rfl)) (by rfl) ?_)
    first | (refine WL.yes (by rfl) (Ex.store (by rfl) (by rfl) (by rfl) (by rfl) (by rfl) (by rfl) ?_)) | (refine WL.yes (by rfl) (Ex.store_pel (by rfl) (by rfl) (by rfl) (by rfl) (by rfl) ?_ (by rfl) ?_); (· (omega)))
    refine WL.yes (by rfl) (Ex.q (q_assign (by rfl)) (by rfl) ?_)
    refine WL.nil ?_
    (repeat refine J.seq ?_)
    refine J.ret ?_
    (repeat (with_reducible first | refine Kseq.ret ?_ | refine Kblock.ret ?_ | refine Kloop.ret ?_ | refine Kcut.ret ?_))
    refine Kret.mk [] (.cell inferInstance (by rfl) (by rfl) (by rfl) (.tmp (by rfl) (.nil))) (by rfl) trivial (HLe.nil _ _) ?_
    exact ⟨rfl, rfl⟩
  · skip
    cases g18

end Go.Vm
