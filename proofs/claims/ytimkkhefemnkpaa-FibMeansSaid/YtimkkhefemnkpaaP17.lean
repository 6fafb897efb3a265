/- addr.Best: the walk. -/
import Derived.Test.YtimkkhefemnkpaaP16
namespace Go.Vm
open Go Go.Proofs
theorem nbt {b : Bool} (h : (!b) = true) : b = false := by cases b <;> simp_all
theorem nbf {b : Bool} (h : (!b) = false) : b = true := by cases b <;> simp_all

set_option maxHeartbeats 16000000 in
set_option maxRecDepth 100000 in
theorem best51_spec {a : Option Addr} {cap : Nat} {ps : List Pr} {src dst : List Int} (hl : ps.length ≤ 1000) : Spec Try.prog 51 [adV src, adV dst, lros a cap prE ps] [] (fun r H' => (∃ b ok, r = .tup2 (iV b) (.bool ok) ∧ BB src dst ps ps.length b ok) ∧ H' = []) := by
  refine Spec.of_J Try.func51 rfl Try.ntmps51 Try.results51 rfl ?_
  intro A F hAF
  (repeat refine J.seq ?_)
  refine J.region ?_
  refine WL.yes (by rfl) (Ex.box (by rfl) (by rfl) (by rfl) ?_)
  intro b3
  refine WL.yes (by rfl) (Ex.box (by rfl) (by rfl) (by rfl) ?_)
  intro b4
  refine WL.yes (by rfl) (Ex.q (q_assign (by rfl)) (by rfl) ?_)
  refine WL.yes (by rfl) (Ex.q (q_assign (by rfl)) (by rfl) ?_)
  refine WL.nil ?_
  (repeat refine J.seq ?_)
  refine J.region ?_
  refine WL.yes (by rfl) (Ex.q (q_assign (by rfl)) (by rfl) ?_)
  refine WL.yes (by rfl) (Ex.q (q_assign (by rfl)) (by rfl) ?_)
  refine WL.nil ?_
  (repeat refine J.seq ?_)
  refine J.region ?_
  refine WL.yes (by rfl) (Ex.q (q_move (by rfl)) (by rfl) ?_)
  first | (refine WL.yes (by rfl) (Ex.q (q_len_slice (by rfl) (by rfl)) (by rfl) ?_)) | (refine WL.yes (by rfl) (Ex.q (q_len_string (by rfl)) (by rfl) ?_))
  refine WL.yes (by rfl) (Ex.q (q_move (by rfl)) (by rfl) ?_)
  refine WL.nil ?_
  (repeat refine J.seq ?_)
  refine J.block ?_
  (repeat refine J.seq ?_)
  refine J.loopP (fun x : Nat × Int × Bool => x.1 ≤ ps.length ∧ BB src dst ps x.1 x.2.1 x.2.2) (fun x => [(8, iV x.2.1), (9, .bool x.2.2), (14, iV x.1)]) (fun x => []) (fun x => ps.length - x.1) (0, 0, false) [(2, _), (3, _), (4, _), (12, _), (13, _)] [(3, _), (4, _)] ⟨same rfl, same rfl, same rfl, same rfl, same rfl, trivial⟩ ⟨same rfl, same rfl, same rfl, trivial⟩ (.cons (s := 3) rfl (CLe.refl _ _) rfl (.cons (s := 4) rfl (CLe.refl _ _) rfl .nil)) ?_ ?_
  · (exact ⟨Nat.zero_le _, BB.zero _ _ _⟩)
  rintro ⟨k, bi, ok⟩ hx
  (try dsimp only at hx)
  (try dsimp only)
  obtain ⟨hk, hBB⟩ := hx
  (repeat refine J.seq ?_)
  refine J.region ?_
  refine WL.yes (by rfl) (Ex.q (q_int (by rfl) (by rfl) (by rfl)) (by rfl) ?_)
  refine WL.nil ?_
  (repeat refine J.seq ?_)
  refine J.cond (by rfl) (fun c15 => ?_) (fun c15 => ?_)
  · skip
    (first | have e15 := of_decide_eq_true c15 | have e15 := of_decide_eq_false c15 | have e15 := ndec_t c15 | have e15 := ndec_f c15 | skip)
    (repeat refine J.seq ?_)
    refine J.skip ?_
    (repeat refine J.seq ?_)
    refine J.block ?_
    (repeat refine J.seq ?_)
    have hk2 : k < ps.length := by omega
    refine J.region ?_
    refine WL.yes (by rfl) (Ex.q (q_move (by rfl)) (by rfl) ?_)
    first | (refine WL.yes (by rfl) (Ex.q (q_indexAddr_ros (by rfl) (by rfl) (by intro _; rfl) ?_ ?_) (by rfl) ?_); (· (omega)); (· (omega))) | (refine WL.yes (by rfl) (Ex.q (q_indexAddr_sl (by rfl) (by rfl) ?_ ?_) (by rfl) ?_); (· (omega)); (· (omega))) | (refine WL.yes (by rfl) (Ex.q (q_indexAddr_arr (by rfl) (by rfl) ?_ ?_) (by rfl) ?_); (· (omega)); (· (omega)))
    first | (refine WL.yes (by rfl) (Ex.h (h_load (by rfl) (by rfl) (by rfl)) (by rfl) ?_)) | (refine WL.yes (by rfl) (Ex.q (q_load (by rfl) (by rfl) (by rfl)) (by rfl) ?_)) | (refine WL.yes (by rfl) (Ex.q (q_load_rop (by rfl) (by rfl)) (by rfl) ?_)) | (refine WL.yes (by rfl) (Ex.h (h_load_pel (by rfl) (by rfl) ?_ (by rfl)) (by rfl) ?_); (· (omega))) | (refine WL.yes (by rfl) (Ex.q (q_load_pel (by rfl) (by rfl) ?_ (by rfl)) (by rfl) ?_); (· (omega)))
    refine WL.set 18 (prE (lat ps k)) (by rfl) (by first | rfl | rw [Int.toNat_natCast] | rw [Nat.zero_add, Int.toNat_natCast]) ?_
    refine WL.yes (by rfl) (Ex.alloc (by rfl) ?_)
    intro b11
    refine WL.yes (by rfl) (Ex.q (q_assign (by rfl)) (by rfl) ?_)
    first | (refine WL.yes (by rfl) (Ex.store (by rfl) (by rfl) (by rfl) (by rfl) (by rfl) (by rfl) ?_)) | (refine WL.yes (by rfl) (Ex.store_pel (by rfl) (by rfl) (by rfl) (by rfl) (by rfl) ?_ (by rfl) ?_); (· (omega)))
    refine WL.nil ?_
    (repeat refine J.seq ?_)
    refine J.region ?_
    first | (refine WL.yes (by rfl) (Ex.h (h_load (by rfl) (by rfl) (by rfl)) (by rfl) ?_)) | (refine WL.yes (by rfl) (Ex.q (q_load (by rfl) (by rfl) (by rfl)) (by rfl) ?_)) | (refine WL.yes (by rfl) (Ex.q (q_load_rop (by rfl) (by rfl)) (by rfl) ?_)) | (refine WL.yes (by rfl) (Ex.h (h_load_pel (by rfl) (by rfl) ?_ (by rfl)) (by rfl) ?_); (· (omega))) | (refine WL.yes (by rfl) (Ex.q (q_load_pel (by rfl) (by rfl) ?_ (by rfl)) (by rfl) ?_); (· (omega)))
    first | (refine WL.yes (by rfl) (Ex.h (h_load (by rfl) (by rfl) (by rfl)) (by rfl) ?_)) | (refine WL.yes (by rfl) (Ex.q (q_load (by rfl) (by rfl) (by rfl)) (by rfl) ?_)) | (refine WL.yes (by rfl) (Ex.q (q_load_rop (by rfl) (by rfl)) (by rfl) ?_)) | (refine WL.yes (by rfl) (Ex.h (h_load_pel (by rfl) (by rfl) ?_ (by rfl)) (by rfl) ?_); (· (omega))) | (refine WL.yes (by rfl) (Ex.q (q_load_pel (by rfl) (by rfl) ?_ (by rfl)) (by rfl) ?_); (· (omega)))
    first | (refine WL.yes (by rfl) (Ex.h (h_load (by rfl) (by rfl) (by rfl)) (by rfl) ?_)) | (refine WL.yes (by rfl) (Ex.q (q_load (by rfl) (by rfl) (by rfl)) (by rfl) ?_)) | (refine WL.yes (by rfl) (Ex.q (q_load_rop (by rfl) (by rfl)) (by rfl) ?_)) | (refine WL.yes (by rfl) (Ex.h (h_load_pel (by rfl) (by rfl) ?_ (by rfl)) (by rfl) ?_); (· (omega))) | (refine WL.yes (by rfl) (Ex.q (q_load_pel (by rfl) (by rfl) ?_ (by rfl)) (by rfl) ?_); (· (omega)))
    refine WL.yes (by rfl) (Ex.callq (matches_spec _ _ _ _ _ _) (by rfl) (by rfl) rfl (fun _ h => h) ?_)
    refine WL.yes (by rfl) (Ex.q (q_not (by rfl)) (by rfl) ?_)
    refine WL.nil ?_
    (repeat refine J.seq ?_)
    refine J.cond (by rfl) (fun c23 => ?_) (fun c23 => ?_)
    · skip
      (first | have e23 := of_decide_eq_true c23 | have e23 := of_decide_eq_false c23 | have e23 := ndec_t c23 | have e23 := ndec_f c23 | skip)
      have hm : mt src dst (lat ps k) = false := nbt c23
      (repeat refine J.seq ?_)
      refine J.exit ?_
      (repeat refine J.seq ?_)
      refine J.region ?_
      refine WL.yes (by rfl) (Ex.q (q_int (by rfl) (by rfl) (by rfl)) (by rfl) ?_)
      refine WL.yes (by rfl) (Ex.q (q_move (by rfl)) (by rfl) ?_)
      refine WL.nil ?_
      first | (refine Kloop.nextP (k + 1, bi, ok) ?_ ?_ ⟨same rfl, same rfl, same (by rw [← w64_nat (k := k) (by omega)]; rfl), trivial⟩ ⟨same rfl, same rfl, same rfl, same rfl, same rfl, trivial⟩ (.cons (s := 3) rfl (CLe.refl _ _) rfl (.cons (s := 4) rfl (CLe.refl _ _) rfl .nil)); (· (exact ⟨by (try dsimp only); omega, hBB.skip hm⟩)); (· ((try dsimp only) <;> omega))) | (refine Kloop.nextP (k + 1, (k : Int), true) ?_ ?_ ⟨same rfl, same rfl, same (by rw [← w64_nat (k := k) (by omega)]; rfl), trivial⟩ ⟨same rfl, same rfl, same rfl, same rfl, same rfl, trivial⟩ (.cons (s := 3) rfl (CLe.refl _ _) rfl (.cons (s := 4) rfl (CLe.refl _ _) rfl .nil)); (· (exact ⟨by (try dsimp only); omega, hBB.first hm hok⟩)); (· ((try dsimp only) <;> omega))) | (refine Kloop.nextP (k + 1, (k : Int), true) ?_ ?_ ⟨same rfl, same rfl, same (by rw [← w64_nat (k := k) (by omega)]; rfl), trivial⟩ ⟨same rfl, same rfl, same rfl, same rfl, same rfl, trivial⟩ (.cons (s := 3) rfl (CLe.refl _ _) rfl (.cons (s := 4) rfl (CLe.refl _ _) rfl .nil)); (· (exact ⟨by (try dsimp only); omega, hBB.yes hm hok hb⟩)); (· ((try dsimp only) <;> omega))) | (refine Kloop.nextP (k + 1, (q : Int), ok) ?_ ?_ ⟨same rfl, same rfl, same (by rw [← w64_nat (k := k) (by omega)]; rfl), trivial⟩ ⟨same rfl, same rfl, same rfl, same rfl, same rfl, trivial⟩ (.cons (s := 3) rfl (CLe.refl _ _) rfl (.cons (s := 4) rfl (CLe.refl _ _) rfl .nil)); (· (exact ⟨by (try dsimp only); omega, hBB.no hok hb⟩)); (· ((try dsimp only) <;> omega)))
    · skip
      (first | have e23 := of_decide_eq_true c23 | have e23 := of_decide_eq_false c23 | have e23 := ndec_t c23 | have e23 := ndec_f c23 | skip)
      have hm : mt src dst (lat ps k) = true := nbf c23
      (repeat refine J.seq ?_)
      refine J.skip ?_
      (repeat refine J.seq ?_)
      refine J.draw [3, 4, 11] 9999 [(0, true), (1, true), (2, true), (3, true), (4, true), (5, true), (6, true), (7, true), (8, true), (9, true), (10, true), (11, true), (13, true), (14, true), (15, true), (16, true), (17, true), (18, true), (19, true), (20, true), (21, true), (12, false), (22, false), (23, false), (24, false), (25, true), (26, true)] (by kernel_rfl) rfl (by kernel_rfl) ?_
      intro F1 hF1
      refine WS.take rfl (by rfl) (by rfl) (q_move (by rfl)) ?_
      refine WS.take rfl (by rfl) (by rfl) (q_not (by rfl)) ?_
      refine WS.take rfl (by rfl) (by rfl) (q_move (by rfl)) ?_
      refine WS.split 26 (by rfl) (fun g26 => ?_) (fun g26 => ?_)
      · skip
        (first | have eg26 := of_decide_eq_true g26 | have eg26 := of_decide_eq_false g26 | have eg26 := ndec_t g26 | have eg26 := ndec_f g26 | skip)
        have hok : ok = false := nbt g26
        refine WS.takeNo rfl (by rfl) (by rfl) ?_
        refine WS.takeNo rfl (by rfl) (by rfl) ?_
        refine WS.takeNo rfl (by rfl) (by rfl) ?_
        refine WS.takeNo rfl (by rfl) (by rfl) ?_
        refine WS.takeNo rfl (by rfl) (by rfl) ?_
        refine WS.takeNo rfl (by rfl) (by rfl) ?_
        refine WS.takeNo rfl (by rfl) (by rfl) ?_
        refine WS.takeNo rfl (by rfl) (by rfl) ?_
        refine WS.takeNo rfl (by rfl) (by rfl) ?_
        refine WS.takeNo rfl (by rfl) (by rfl) ?_
        refine WS.takeNo rfl (by rfl) (by rfl) ?_
        refine WS.takeNo rfl (by rfl) (by rfl) ?_
        refine WS.takeNo rfl (by rfl) (by rfl) ?_
        refine WS.takeNo rfl (by rfl) (by rfl) ?_
        refine WS.takeNo rfl (by rfl) (by rfl) ?_
        refine WS.takeNo rfl (by rfl) (by rfl) ?_
        refine WS.takeNo rfl (by rfl) (by rfl) ?_
        refine WS.takeNo rfl (by rfl) (by rfl) ?_
        refine WS.takeNo rfl (by rfl) (by rfl) ?_
        refine WS.takeNo rfl (by rfl) (by rfl) ?_
        refine WS.takeNo rfl (by rfl) (by rfl) ?_
        refine WS.takeNo rfl (by rfl) (by rfl) ?_
        refine WS.takeNo rfl (by rfl) (by rfl) ?_
        refine WS.take rfl (by rfl) (by rfl) (q_pick_t (by rfl) (by rfl)) ?_
        refine WS.nil ?_
        (repeat refine J.seq ?_)
        refine J.condT (by rfl) ?_
        (repeat refine J.seq ?_)
        refine J.region ?_
        refine WL.yes (by rfl) (Ex.q (q_move (by rfl)) (by rfl) ?_)
        refine WL.yes (by rfl) (Ex.q (q_assign (by rfl)) (by rfl) ?_)
        refine WL.yes (by rfl) (Ex.q (q_assign (by rfl)) (by rfl) ?_)
        refine WL.nil ?_
        (repeat refine J.seq ?_)
        refine J.region ?_
        refine WL.yes (by rfl) (Ex.q (q_int (by rfl) (by rfl) (by rfl)) (by rfl) ?_)
        refine WL.yes (by rfl) (Ex.q (q_move (by rfl)) (by rfl) ?_)
        refine WL.nil ?_
        first | (refine Kloop.nextP (k + 1, bi, ok) ?_ ?_ ⟨same rfl, same rfl, same (by rw [← w64_nat (k := k) (by omega)]; rfl), trivial⟩ ⟨same rfl, same rfl, same rfl, same rfl, same rfl, trivial⟩ (.cons (s := 3) rfl (CLe.refl _ _) rfl (.cons (s := 4) rfl (CLe.refl _ _) rfl .nil)); (· (exact ⟨by (try dsimp only); omega, hBB.skip hm⟩)); (· ((try dsimp only) <;> omega))) | (refine Kloop.nextP (k + 1, (k : Int), true) ?_ ?_ ⟨same rfl, same rfl, same (by rw [← w64_nat (k := k) (by omega)]; rfl), trivial⟩ ⟨same rfl, same rfl, same rfl, same rfl, same rfl, trivial⟩ (.cons (s := 3) rfl (CLe.refl _ _) rfl (.cons (s := 4) rfl (CLe.refl _ _) rfl .nil)); (· (exact ⟨by (try dsimp only); omega, hBB.first hm hok⟩)); (· ((try dsimp only) <;> omega))) | (refine Kloop.nextP (k + 1, (k : Int), true) ?_ ?_ ⟨same rfl, same rfl, same (by rw [← w64_nat (k := k) (by omega)]; rfl), trivial⟩ ⟨same rfl, same rfl, same rfl, same rfl, same rfl, trivial⟩ (.cons (s := 3) rfl (CLe.refl _ _) rfl (.cons (s := 4) rfl (CLe.refl _ _) rfl .nil)); (· (exact ⟨by (try dsimp only); omega, hBB.yes hm hok hb⟩)); (· ((try dsimp only) <;> omega))) | (refine Kloop.nextP (k + 1, (q : Int), ok) ?_ ?_ ⟨same rfl, same rfl, same (by rw [← w64_nat (k := k) (by omega)]; rfl), trivial⟩ ⟨same rfl, same rfl, same rfl, same rfl, same rfl, trivial⟩ (.cons (s := 3) rfl (CLe.refl _ _) rfl (.cons (s := 4) rfl (CLe.refl _ _) rfl .nil)); (· (exact ⟨by (try dsimp only); omega, hBB.no hok hb⟩)); (· ((try dsimp only) <;> omega)))
      · skip
        (first | have eg26 := of_decide_eq_true g26 | have eg26 := of_decide_eq_false g26 | have eg26 := ndec_t g26 | have eg26 := ndec_f g26 | skip)
        have hok : ok = true := nbf g26
        obtain ⟨q, hq, hq2⟩ := hBB.at hok
        subst hq
        first | (refine WS.take rfl (by rfl) (by rfl) (q_fieldAddr (by rfl)) ?_) | (refine WS.take rfl (by rfl) (by rfl) (q_fieldAddr_rop (by rfl) (by rfl)) ?_) | (refine WS.take rfl (by rfl) (by rfl) (q_fieldAddr_pel (by rfl)) ?_)
        first | (refine WS.take rfl (by rfl) (by rfl) (q_fieldAddr (by rfl)) ?_) | (refine WS.take rfl (by rfl) (by rfl) (q_fieldAddr_rop (by rfl) (by rfl)) ?_) | (refine WS.take rfl (by rfl) (by rfl) (q_fieldAddr_pel (by rfl)) ?_)
        first | (refine WS.take rfl (by rfl) (by rfl) (q_load (by rfl) (by rfl) (by rfl)) ?_) | (refine WS.take rfl (by rfl) (by rfl) (q_load_rop (by rfl) (by rfl)) ?_) | (refine WS.take rfl (by rfl) (by rfl) (q_load_pel (by rfl) (by rfl) ?_ (by rfl)) ?_; (· (omega)))
        refine WS.take rfl (by rfl) (by rfl) (q_move (by rfl)) ?_
        refine WS.take rfl (by rfl) (by rfl) (q_move (by rfl)) ?_
        first | (refine WS.take rfl (by rfl) (by rfl) (q_indexAddr_ros (by rfl) (by rfl) (by intro _; rfl) ?_ ?_) ?_; (· (omega)); (· (omega))) | (refine WS.take rfl (by rfl) (by rfl) (q_indexAddr_sl (by rfl) (by rfl) ?_ ?_) ?_; (· (omega)); (· (omega))) | (refine WS.take rfl (by rfl) (by rfl) (q_indexAddr_arr (by rfl) (by rfl) ?_ ?_) ?_; (· (omega)); (· (omega)))
        first | (refine WS.take rfl (by rfl) (by rfl) (q_fieldAddr (by rfl)) ?_) | (refine WS.take rfl (by rfl) (by rfl) (q_fieldAddr_rop (by rfl) (by rfl)) ?_) | (refine WS.take rfl (by rfl) (by rfl) (q_fieldAddr_pel (by rfl)) ?_)
        first | (refine WS.take rfl (by rfl) (by rfl) (q_fieldAddr (by rfl)) ?_) | (refine WS.take rfl (by rfl) (by rfl) (q_fieldAddr_rop (by rfl) (by rfl)) ?_) | (refine WS.take rfl (by rfl) (by rfl) (q_fieldAddr_pel (by rfl)) ?_)
        first | (refine WS.take rfl (by rfl) (by rfl) (q_load (by rfl) (by rfl) (by rfl)) ?_) | (refine WS.take rfl (by rfl) (by rfl) (q_load_rop (by rfl) (by rfl)) ?_) | (refine WS.take rfl (by rfl) (by rfl) (q_load_pel (by rfl) (by rfl) ?_ (by rfl)) ?_; (· (omega)))
        refine WS.set 35 (iV (lat ps q).d.n) (by rfl) (by first | rfl | rw [Int.toNat_natCast] | rw [Nat.zero_add, Int.toNat_natCast]) ?_
        first | (refine WS.take rfl (by rfl) (by rfl) (q_fieldAddr (by rfl)) ?_) | (refine WS.take rfl (by rfl) (by rfl) (q_fieldAddr_rop (by rfl) (by rfl)) ?_) | (refine WS.take rfl (by rfl) (by rfl) (q_fieldAddr_pel (by rfl)) ?_)
        first | (refine WS.take rfl (by rfl) (by rfl) (q_fieldAddr (by rfl)) ?_) | (refine WS.take rfl (by rfl) (by rfl) (q_fieldAddr_rop (by rfl) (by rfl)) ?_) | (refine WS.take rfl (by rfl) (by rfl) (q_fieldAddr_pel (by rfl)) ?_)
        first | (refine WS.take rfl (by rfl) (by rfl) (q_load (by rfl) (by rfl) (by rfl)) ?_) | (refine WS.take rfl (by rfl) (by rfl) (q_load_rop (by rfl) (by rfl)) ?_) | (refine WS.take rfl (by rfl) (by rfl) (q_load_pel (by rfl) (by rfl) ?_ (by rfl)) ?_; (· (omega)))
        refine WS.take rfl (by rfl) (by rfl) (q_move (by rfl)) ?_
        refine WS.take rfl (by rfl) (by rfl) (q_move (by rfl)) ?_
        first | (refine WS.take rfl (by rfl) (by rfl) (q_indexAddr_ros (by rfl) (by rfl) (by intro _; rfl) ?_ ?_) ?_; (· (omega)); (· (omega))) | (refine WS.take rfl (by rfl) (by rfl) (q_indexAddr_sl (by rfl) (by rfl) ?_ ?_) ?_; (· (omega)); (· (omega))) | (refine WS.take rfl (by rfl) (by rfl) (q_indexAddr_arr (by rfl) (by rfl) ?_ ?_) ?_; (· (omega)); (· (omega)))
        first | (refine WS.take rfl (by rfl) (by rfl) (q_fieldAddr (by rfl)) ?_) | (refine WS.take rfl (by rfl) (by rfl) (q_fieldAddr_rop (by rfl) (by rfl)) ?_) | (refine WS.take rfl (by rfl) (by rfl) (q_fieldAddr_pel (by rfl)) ?_)
        first | (refine WS.take rfl (by rfl) (by rfl) (q_fieldAddr (by rfl)) ?_) | (refine WS.take rfl (by rfl) (by rfl) (q_fieldAddr_rop (by rfl) (by rfl)) ?_) | (refine WS.take rfl (by rfl) (by rfl) (q_fieldAddr_pel (by rfl)) ?_)
        first | (refine WS.take rfl (by rfl) (by rfl) (q_load (by rfl) (by rfl) (by rfl)) ?_) | (refine WS.take rfl (by rfl) (by rfl) (q_load_rop (by rfl) (by rfl)) ?_) | (refine WS.take rfl (by rfl) (by rfl) (q_load_pel (by rfl) (by rfl) ?_ (by rfl)) ?_; (· (omega)))
        refine WS.set 45 (iV (lat ps q).s.n) (by rfl) (by first | rfl | rw [Int.toNat_natCast] | rw [Nat.zero_add, Int.toNat_natCast]) ?_
        refine WS.ex rfl (by rfl) (Ex.callq (cmp_spec _ _) (by rfl) (by rfl) rfl (fun _ h => h) ?_)
        refine WS.ex rfl (by rfl) (Ex.callq (cmp_spec _ _) (by rfl) (by rfl) rfl (fun _ h => h) ?_)
        refine WS.ex rfl (by rfl) (Ex.buildSlice (parts := [(0, .tmp 36), (1, .tmp 46)]) (us := [_, _]) (by rfl) (by rfl) rfl (by rfl) (by rfl) ?_)
        intro b47
        refine WS.ex rfl (by rfl) (Ex.callqz (or2_spec _ _) (by rfl) (by rfl) (.cons (.sl (by rfl)) .nil) (fun _ => trivial) ?_)
        refine WS.take rfl (by rfl) (by rfl) (q_int (by rfl) (by rfl) (by rfl)) ?_
        refine WS.take rfl (by rfl) (by rfl) (q_pick_f (by rfl) (by rfl)) ?_
        refine WS.nil ?_
        (repeat refine J.seq ?_)
        refine J.cond (by rfl) (fun c50 => ?_) (fun c50 => ?_)
        · skip
          (first | have e50 := of_decide_eq_true c50 | have e50 := of_decide_eq_false c50 | have e50 := ndec_t c50 | have e50 := ndec_f c50 | skip)
          (first | have hb : pbt (lat ps k) (lat ps q) := orL_pbt.1 e50 | skip)
          (repeat refine J.seq ?_)
          refine J.region ?_
          refine WL.yes (by rfl) (Ex.q (q_move (by rfl)) (by rfl) ?_)
          refine WL.yes (by rfl) (Ex.q (q_assign (by rfl)) (by rfl) ?_)
          refine WL.yes (by rfl) (Ex.q (q_assign (by rfl)) (by rfl) ?_)
          refine WL.nil ?_
          (repeat refine J.seq ?_)
          refine J.region ?_
          refine WL.yes (by rfl) (Ex.q (q_int (by rfl) (by rfl) (by rfl)) (by rfl) ?_)
          refine WL.yes (by rfl) (Ex.q (q_move (by rfl)) (by rfl) ?_)
          refine WL.nil ?_
          first | (refine Kloop.nextP (k + 1, bi, ok) ?_ ?_ ⟨same rfl, same rfl, same (by rw [← w64_nat (k := k) (by omega)]; rfl), trivial⟩ ⟨same rfl, same rfl, same rfl, same rfl, same rfl, trivial⟩ (.cons (s := 3) rfl (CLe.refl _ _) rfl (.cons (s := 4) rfl (CLe.refl _ _) rfl .nil)); (· (exact ⟨by (try dsimp only); omega, hBB.skip hm⟩)); (· ((try dsimp only) <;> omega))) | (refine Kloop.nextP (k + 1, (k : Int), true) ?_ ?_ ⟨same rfl, same rfl, same (by rw [← w64_nat (k := k) (by omega)]; rfl), trivial⟩ ⟨same rfl, same rfl, same rfl, same rfl, same rfl, trivial⟩ (.cons (s := 3) rfl (CLe.refl _ _) rfl (.cons (s := 4) rfl (CLe.refl _ _) rfl .nil)); (· (exact ⟨by (try dsimp only); omega, hBB.first hm hok⟩)); (· ((try dsimp only) <;> omega))) | (refine Kloop.nextP (k + 1, (k : Int), true) ?_ ?_ ⟨same rfl, same rfl, same (by rw [← w64_nat (k := k) (by omega)]; rfl), trivial⟩ ⟨same rfl, same rfl, same rfl, same rfl, same rfl, trivial⟩ (.cons (s := 3) rfl (CLe.refl _ _) rfl (.cons (s := 4) rfl (CLe.refl _ _) rfl .nil)); (· (exact ⟨by (try dsimp only); omega, hBB.yes hm hok hb⟩)); (· ((try dsimp only) <;> omega))) | (refine Kloop.nextP (k + 1, (q : Int), ok) ?_ ?_ ⟨same rfl, same rfl, same (by rw [← w64_nat (k := k) (by omega)]; rfl), trivial⟩ ⟨same rfl, same rfl, same rfl, same rfl, same rfl, trivial⟩ (.cons (s := 3) rfl (CLe.refl _ _) rfl (.cons (s := 4) rfl (CLe.refl _ _) rfl .nil)); (· (exact ⟨by (try dsimp only); omega, hBB.no hok hb⟩)); (· ((try dsimp only) <;> omega)))
        · skip
          (first | have e50 := of_decide_eq_true c50 | have e50 := of_decide_eq_false c50 | have e50 := ndec_t c50 | have e50 := ndec_f c50 | skip)
          have hb : ¬ pbt (lat ps k) (lat ps q) := fun x => e50 (orL_pbt.2 x)
          (repeat refine J.seq ?_)
          refine J.skip ?_
          (repeat refine J.seq ?_)
          refine J.region ?_
          refine WL.yes (by rfl) (Ex.q (q_int (by rfl) (by rfl) (by rfl)) (by rfl) ?_)
          refine WL.yes (by rfl) (Ex.q (q_move (by rfl)) (by rfl) ?_)
          refine WL.nil ?_
          first | (refine Kloop.nextP (k + 1, bi, ok) ?_ ?_ ⟨same rfl, same rfl, same (by rw [← w64_nat (k := k) (by omega)]; rfl), trivial⟩ ⟨same rfl, same rfl, same rfl, same rfl, same rfl, trivial⟩ (.cons (s := 3) rfl (CLe.refl _ _) rfl (.cons (s := 4) rfl (CLe.refl _ _) rfl .nil)); (· (exact ⟨by (try dsimp only); omega, hBB.skip hm⟩)); (· ((try dsimp only) <;> omega))) | (refine Kloop.nextP (k + 1, (k : Int), true) ?_ ?_ ⟨same rfl, same rfl, same (by rw [← w64_nat (k := k) (by omega)]; rfl), trivial⟩ ⟨same rfl, same rfl, same rfl, same rfl, same rfl, trivial⟩ (.cons (s := 3) rfl (CLe.refl _ _) rfl (.cons (s := 4) rfl (CLe.refl _ _) rfl .nil)); (· (exact ⟨by (try dsimp only); omega, hBB.first hm hok⟩)); (· ((try dsimp only) <;> omega))) | (refine Kloop.nextP (k + 1, (k : Int), true) ?_ ?_ ⟨same rfl, same rfl, same (by rw [← w64_nat (k := k) (by omega)]; rfl), trivial⟩ ⟨same rfl, same rfl, same rfl, same rfl, same rfl, trivial⟩ (.cons (s := 3) rfl (CLe.refl _ _) rfl (.cons (s := 4) rfl (CLe.refl _ _) rfl .nil)); (· (exact ⟨by (try dsimp only); omega, hBB.yes hm hok hb⟩)); (· ((try dsimp only) <;> omega))) | (refine Kloop.nextP (k + 1, (q : Int), ok) ?_ ?_ ⟨same rfl, same rfl, same (by rw [← w64_nat (k := k) (by omega)]; rfl), trivial⟩ ⟨same rfl, same rfl, same rfl, same rfl, same rfl, trivial⟩ (.cons (s := 3) rfl (CLe.refl _ _) rfl (.cons (s := 4) rfl (CLe.refl _ _) rfl .nil)); (· (exact ⟨by (try dsimp only); omega, hBB.no hok hb⟩)); (· ((try dsimp only) <;> omega)))
  · skip
    (first | have e15 := of_decide_eq_true c15 | have e15 := of_decide_eq_false c15 | have e15 := ndec_t c15 | have e15 := ndec_f c15 | skip)
    (repeat refine J.seq ?_)
    refine J.exit ?_
    (repeat refine J.seq ?_)
    refine J.region ?_
    refine WL.yes (by rfl) (Ex.q (q_move (by rfl)) (by rfl) ?_)
    refine WL.yes (by rfl) (Ex.q (q_move (by rfl)) (by rfl) ?_)
    refine WL.yes (by rfl) (Ex.q (q_assign (by rfl)) (by rfl) ?_)
    refine WL.yes (by rfl) (Ex.q (q_assign (by rfl)) (by rfl) ?_)
    refine WL.nil ?_
    (repeat refine J.seq ?_)
    refine J.ret ?_
    (repeat (with_reducible first | refine Kseq.ret ?_ | refine Kblock.ret ?_ | refine Kloop.ret ?_ | refine Kcut.ret ?_))
    refine Kret.mk [] (.tmp (by rfl) (.tmp (by rfl) (.nil))) (by rfl) trivial (HLe.nil _ _) ?_
    have hk9 : k = ps.length := by omega
    rw [hk9] at hBB
    exact ⟨⟨_, _, rfl, hBB⟩, rfl⟩

end Go.Vm
