/- Expand, the document's: the walk. -/
import Derived.Test.YtimkkhefemnkpaaG3
namespace Go.Vm
open Go Go.Proofs

set_option maxHeartbeats 16000000 in
set_option maxRecDepth 100000 in
theorem expandR_spec {a : Option Addr} {cap : Nat} {l : List En} (ho : ∀ e ∈ l, e.ok) (hl : l.length ≤ 1000) : Spec Try.prog 27 [lros a cap enE l] [] (fun r H' => ∃ a' cap', r = .sl 2027 a' 51 0 cap' (expandL l).length ∧ H' = [(2027, lvec a' 37 51 cap' enE (expandL l))]) := by
  refine Spec.of_J Try.func27 rfl Try.ntmps27 Try.results27 rfl ?_
  intro A F hAF
  obtain ⟨G, hGe⟩ : ∃ G, G = cleanL l := ⟨_, rfl⟩
  have hG : GOk G := hGe ▸ clean_ok ho
  have hGl : G.length ≤ 1000 := by have := clean_len l; rw [hGe]; omega
  (repeat refine J.seq ?_)
  refine J.region ?_
  refine WL.yes (by rfl) (Ex.q (q_assign (by rfl)) (by rfl) ?_)
  refine WL.nil ?_
  (repeat refine J.seq ?_)
  refine J.region ?_
  refine WL.yes (by rfl) (Ex.q (q_move (by rfl)) (by rfl) ?_)
  refine WL.yes (by rfl) (Ex.callz _ [] [] (clean_spec (l := l) ?_ ?_) (by rfl) (by rfl) (.cons (.same _) .nil) (fun t c hg => by simp [get] at hg) plain_clean ?_); (· (exact ho)); (· (exact hl))
  rintro _ _ ⟨a12, cap12, rfl, rfl⟩
  rw [← hGe]
  refine WL.yes (by rfl) (Ex.q (q_assign (by rfl)) (by rfl) ?_)
  refine WL.nil ?_
  (repeat refine J.seq ?_)
  refine J.region ?_
  refine WL.yes (by rfl) (Ex.q (q_assign (by rfl)) (by rfl) ?_)
  refine WL.nil ?_
  (repeat refine J.seq ?_)
  refine J.region ?_
  refine WL.yes (by rfl) (Ex.q (q_assign (by rfl)) (by rfl) ?_)
  refine WL.nil ?_
  (repeat refine J.seq ?_)
  refine J.block ?_
  (repeat refine J.seq ?_)
  refine J.loopP (fun x : Nat × Option Nat × Nat => x.1 ≤ G.length) (fun x => [(3, .sl 3 x.2.1 51 0 x.2.2 ((G.take x.1).foldl (xstep G) []).length), (4, iV x.1)]) (fun x => [(3, lvec x.2.1 37 51 x.2.2 enE ((G.take x.1).foldl (xstep G) []))]) (fun x => G.length - x.1) (0, none, 0) [(0, _)] [(2064, _)] ⟨same rfl, trivial⟩ ⟨⟨_, rfl, rfl, fun _ => trivial⟩, same rfl, trivial⟩ (.non (.cons (s := 2064) rfl (CLe.refl _ _) rfl .nil)) ?_ ?_
  · (exact Nat.zero_le _)
  rintro ⟨i, a3, c3⟩ hx
  (try dsimp only at hx)
  (try dsimp only)
  (repeat refine J.seq ?_)
  refine J.region ?_
  refine WL.yes (by rfl) (Ex.q (q_move (by rfl)) (by rfl) ?_)
  refine WL.yes (by rfl) (Ex.q (q_move (by rfl)) (by rfl) ?_)
  first | (refine WL.yes (by rfl) (Ex.q (q_len_slice (by rfl) (by rfl)) (by rfl) ?_)) | (refine WL.yes (by rfl) (Ex.q (q_len_string (by rfl)) (by rfl) ?_))
  refine WL.yes (by rfl) (Ex.q (q_int (by rfl) (by rfl) (by rfl)) (by rfl) ?_)
  refine WL.nil ?_
  (repeat refine J.seq ?_)
  refine J.cond (by rfl) (fun c16 => ?_) (fun c16 => ?_)
  · skip
    (first | have e16 := of_decide_eq_true c16 | have e16 := of_decide_eq_false c16 | have e16 := ndec_t c16 | have e16 := ndec_f c16 | skip)
    (repeat refine J.seq ?_)
    refine J.skip ?_
    (repeat refine J.seq ?_)
    refine J.block ?_
    (repeat refine J.seq ?_)
    have hi2 : i < G.length := by omega
    have hix : lat G i ∈ G := lat_mem hi2
    refine J.region ?_
    refine WL.yes (by rfl) (Ex.q (q_assign (by rfl)) (by rfl) ?_)
    refine WL.nil ?_
    (repeat refine J.seq ?_)
    refine J.block ?_
    (repeat refine J.seq ?_)
    refine J.loopP (fun x : Nat × Option Nat × Nat => x.1 ≤ G.length) (fun x => [(3, .sl 3 x.2.1 51 0 x.2.2 ((G.take x.1).foldl (pstep G (lat G i)) ((G.take i).foldl (xstep G) [])).length), (5, iV x.1)]) (fun x => [(3, lvec x.2.1 37 51 x.2.2 enE ((G.take x.1).foldl (pstep G (lat G i)) ((G.take i).foldl (xstep G) [])))]) (fun x => G.length - x.1) (0, a3, c3) [(0, _), (4, _)] [(2064, _)] ⟨same rfl, same rfl, trivial⟩ ⟨same rfl, same rfl, trivial⟩ (.cons (s := 3) rfl (CLe.refl _ _) rfl (.cons (s := 2064) rfl (CLe.refl _ _) rfl .nil)) ?_ ?_
    · (exact Nat.zero_le _)
    rintro ⟨k, a3p, c3p⟩ hx
    (try dsimp only at hx)
    (try dsimp only)
    (repeat refine J.seq ?_)
    refine J.region ?_
    refine WL.yes (by rfl) (Ex.q (q_move (by rfl)) (by rfl) ?_)
    refine WL.yes (by rfl) (Ex.q (q_move (by rfl)) (by rfl) ?_)
    first | (refine WL.yes (by rfl) (Ex.q (q_len_slice (by rfl) (by rfl)) (by rfl) ?_)) | (refine WL.yes (by rfl) (Ex.q (q_len_string (by rfl)) (by rfl) ?_))
    refine WL.yes (by rfl) (Ex.q (q_int (by rfl) (by rfl) (by rfl)) (by rfl) ?_)
    refine WL.nil ?_
    (repeat refine J.seq ?_)
    refine J.cond (by rfl) (fun c22 => ?_) (fun c22 => ?_)
    · skip
      (first | have e22 := of_decide_eq_true c22 | have e22 := of_decide_eq_false c22 | have e22 := ndec_t c22 | have e22 := ndec_f c22 | skip)
      (repeat refine J.seq ?_)
      refine J.skip ?_
      (repeat refine J.seq ?_)
      refine J.block ?_
      (repeat refine J.seq ?_)
      have hk2 : k < G.length := by omega
      have hky : lat G k ∈ G := lat_mem hk2
      refine J.vecsome (t := 2064) rfl (by omega) ?_
      intro b12 hb12
      subst hb12
      refine J.cutP (fun x : Nat × Nat => True) (fun x => [(6, .ptr 6 x.1 0), (7, .ptr 7 x.2 0)]) (fun x => [(6, .box x.1 33 (pfE (lat G i).p.d)), (7, .box x.2 33 (pfE (lat G k).p.s))]) [(0, _), (3, _), (4, _), (5, _)] [(3, _), (2064, _)] ⟨same rfl, same rfl, same rfl, same rfl, trivial⟩ (.cons (s := 3) rfl (CLe.refl _ _) rfl (.cons (s := 2064) rfl (CLe.refl _ _) rfl .nil)) ?_ ?_
      · skip
        (repeat refine J.seq ?_)
        refine J.drawT [2064] 9999 (by kernel_rfl) (by kernel_rfl) ?_
        intro F1 hF1
        refine WT.take (i := 0) rfl (by rfl) (by rfl) (by kernel_rfl) (q_move (by rfl)) ?_
        refine WT.take (i := 1) rfl (by rfl) (by rfl) (by kernel_rfl) (q_move (by rfl)) ?_
        first | (refine WT.take (i := 2) rfl (by rfl) (by rfl) (by kernel_rfl) (q_indexAddr_ros (by rfl) (by rfl) (by intro _; rfl) ?_ ?_) ?_; (· (omega)); (· (omega))) | (refine WT.take (i := 2) rfl (by rfl) (by rfl) (by kernel_rfl) (q_indexAddr_sl (by rfl) (by rfl) ?_ ?_) ?_; (· (omega)); (· (omega))) | (refine WT.take (i := 2) rfl (by rfl) (by rfl) (by kernel_rfl) (q_indexAddr_arr (by rfl) (by rfl) ?_ ?_) ?_; (· (omega)); (· (omega)))
        first | (refine WT.take (i := 3) rfl (by rfl) (by rfl) (by kernel_rfl) (q_fieldAddr (by rfl)) ?_) | (refine WT.take (i := 3) rfl (by rfl) (by rfl) (by kernel_rfl) (q_fieldAddr_rop (by rfl) (by rfl)) ?_) | (refine WT.take (i := 3) rfl (by rfl) (by rfl) (by kernel_rfl) (q_fieldAddr_pel (by rfl)) ?_)
        first | (refine WT.take (i := 4) rfl (by rfl) (by rfl) (by kernel_rfl) (q_fieldAddr (by rfl)) ?_) | (refine WT.take (i := 4) rfl (by rfl) (by rfl) (by kernel_rfl) (q_fieldAddr_rop (by rfl) (by rfl)) ?_) | (refine WT.take (i := 4) rfl (by rfl) (by rfl) (by kernel_rfl) (q_fieldAddr_pel (by rfl)) ?_)
        first | (refine WT.take (i := 5) rfl (by rfl) (by rfl) (by kernel_rfl) (q_load (by rfl) (by rfl) (by rfl)) ?_) | (refine WT.take (i := 5) rfl (by rfl) (by rfl) (by kernel_rfl) (q_load_rop (by rfl) (by rfl)) ?_) | (refine WT.take (i := 5) rfl (by rfl) (by rfl) (by kernel_rfl) (q_load_pel (by rfl) (by rfl) ?_ (by rfl)) ?_; (· (omega)))
        refine WT.set 30 (pfE (lat G i).p.d) (by rfl) (by rw [Nat.zero_add, Int.toNat_natCast]) ?_
        refine WT.take (i := 6) rfl (by rfl) (by rfl) (by kernel_rfl) (q_move (by rfl)) ?_
        refine WT.take (i := 7) rfl (by rfl) (by rfl) (by kernel_rfl) (q_move (by rfl)) ?_
        first | (refine WT.take (i := 8) rfl (by rfl) (by rfl) (by kernel_rfl) (q_indexAddr_ros (by rfl) (by rfl) (by intro _; rfl) ?_ ?_) ?_; (· (omega)); (· (omega))) | (refine WT.take (i := 8) rfl (by rfl) (by rfl) (by kernel_rfl) (q_indexAddr_sl (by rfl) (by rfl) ?_ ?_) ?_; (· (omega)); (· (omega))) | (refine WT.take (i := 8) rfl (by rfl) (by rfl) (by kernel_rfl) (q_indexAddr_arr (by rfl) (by rfl) ?_ ?_) ?_; (· (omega)); (· (omega)))
        first | (refine WT.take (i := 9) rfl (by rfl) (by rfl) (by kernel_rfl) (q_fieldAddr (by rfl)) ?_) | (refine WT.take (i := 9) rfl (by rfl) (by rfl) (by kernel_rfl) (q_fieldAddr_rop (by rfl) (by rfl)) ?_) | (refine WT.take (i := 9) rfl (by rfl) (by rfl) (by kernel_rfl) (q_fieldAddr_pel (by rfl)) ?_)
        first | (refine WT.take (i := 10) rfl (by rfl) (by rfl) (by kernel_rfl) (q_fieldAddr (by rfl)) ?_) | (refine WT.take (i := 10) rfl (by rfl) (by rfl) (by kernel_rfl) (q_fieldAddr_rop (by rfl) (by rfl)) ?_) | (refine WT.take (i := 10) rfl (by rfl) (by rfl) (by kernel_rfl) (q_fieldAddr_pel (by rfl)) ?_)
        first | (refine WT.take (i := 11) rfl (by rfl) (by rfl) (by kernel_rfl) (q_load (by rfl) (by rfl) (by rfl)) ?_) | (refine WT.take (i := 11) rfl (by rfl) (by rfl) (by kernel_rfl) (q_load_rop (by rfl) (by rfl)) ?_) | (refine WT.take (i := 11) rfl (by rfl) (by rfl) (by kernel_rfl) (q_load_pel (by rfl) (by rfl) ?_ (by rfl)) ?_; (· (omega)))
        refine WT.set 36 (pfE (lat G k).p.s) (by rfl) (by rw [Nat.zero_add, Int.toNat_natCast]) ?_
        refine WT.two (i := 12) (j := 13) rfl rfl (by rfl) (by rfl) (by kernel_rfl) ?_ ?_
        · skip
          refine Ex.alloc (by rfl) ?_
          intro b6
          refine WT.one (i := 13) rfl (by rfl) (by kernel_rfl) (Ex.alloc (by rfl) ?_)
          intro b7
          first | (refine WT.one (i := 14) rfl (by rfl) (by kernel_rfl) (Ex.store (by rfl) (by rfl) (by rfl) (by rfl) (by rfl) (by rfl) ?_)) | (refine WT.one (i := 14) rfl (by rfl) (by kernel_rfl) (Ex.store_pel (by rfl) (by rfl) (by rfl) (by rfl) (by rfl) ?_ (by rfl) ?_); (· (omega)))
          first | (refine WT.one (i := 15) rfl (by rfl) (by kernel_rfl) (Ex.store (by rfl) (by rfl) (by rfl) (by rfl) (by rfl) (by rfl) ?_)) | (refine WT.one (i := 15) rfl (by rfl) (by kernel_rfl) (Ex.store_pel (by rfl) (by rfl) (by rfl) (by rfl) (by rfl) ?_ (by rfl) ?_); (· (omega)))
          refine WT.nil (by kernel_rfl) ?_
          refine Kcut.mkP (b6, b7) ?_ ⟨(by first | exact same rfl | exact ⟨_, rfl, by simp, fun _ => trivial⟩), (by first | exact same rfl | exact ⟨_, rfl, by simp, fun _ => trivial⟩), trivial⟩ ⟨same rfl, same rfl, same rfl, same rfl, trivial⟩ (.cons (s := 6) rfl (CLe.refl _ _) rfl (.cons (s := 7) rfl (CLe.refl _ _) rfl (.cons (s := 3) rfl (CLe.refl _ _) rfl (.cons (s := 2064) rfl (CLe.refl _ _) rfl .nil))))
          · (trivial)
        · skip
          refine Ex.alloc (by rfl) ?_
          intro b7
          refine WT.one (i := 12) rfl (by rfl) (by kernel_rfl) (Ex.alloc (by rfl) ?_)
          intro b6
          first | (refine WT.one (i := 14) rfl (by rfl) (by kernel_rfl) (Ex.store (by rfl) (by rfl) (by rfl) (by rfl) (by rfl) (by rfl) ?_)) | (refine WT.one (i := 14) rfl (by rfl) (by kernel_rfl) (Ex.store_pel (by rfl) (by rfl) (by rfl) (by rfl) (by rfl) ?_ (by rfl) ?_); (· (omega)))
          first | (refine WT.one (i := 15) rfl (by rfl) (by kernel_rfl) (Ex.store (by rfl) (by rfl) (by rfl) (by rfl) (by rfl) (by rfl) ?_)) | (refine WT.one (i := 15) rfl (by rfl) (by kernel_rfl) (Ex.store_pel (by rfl) (by rfl) (by rfl) (by rfl) (by rfl) ?_ (by rfl) ?_); (· (omega)))
          refine WT.nil (by kernel_rfl) ?_
          refine Kcut.mkP (b6, b7) ?_ ⟨(by first | exact same rfl | exact ⟨_, rfl, by simp, fun _ => trivial⟩), (by first | exact same rfl | exact ⟨_, rfl, by simp, fun _ => trivial⟩), trivial⟩ ⟨same rfl, same rfl, same rfl, same rfl, trivial⟩ (.cons (s := 6) rfl (CLe.refl _ _) rfl (.cons (s := 7) rfl (CLe.refl _ _) rfl (.cons (s := 3) rfl (CLe.refl _ _) rfl (.cons (s := 2064) rfl (CLe.refl _ _) rfl .nil))))
          · (trivial)
      rintro ⟨b6, b7⟩ hcut
      (try dsimp only at hcut ⊢)
      (repeat refine J.seq ?_)
      refine J.draw [6, 7, 2064] 9999 [(0, true), (1, true), (2, true), (3, true), (4, true), (5, true), (6, true), (7, false), (8, true), (9, true), (10, true), (12, true), (11, false), (13, false), (14, true), (15, true)] (by kernel_rfl) rfl (by kernel_rfl) ?_
      intro F2 hF2
      refine WS.take rfl (by rfl) (by rfl) (q_move (by rfl)) ?_
      refine WS.take rfl (by rfl) (by rfl) (q_move (by rfl)) ?_
      first | (refine WS.take rfl (by rfl) (by rfl) (q_indexAddr_ros (by rfl) (by rfl) (by intro _; rfl) ?_ ?_) ?_; (· (omega)); (· (omega))) | (refine WS.take rfl (by rfl) (by rfl) (q_indexAddr_sl (by rfl) (by rfl) ?_ ?_) ?_; (· (omega)); (· (omega))) | (refine WS.take rfl (by rfl) (by rfl) (q_indexAddr_arr (by rfl) (by rfl) ?_ ?_) ?_; (· (omega)); (· (omega)))
      first | (refine WS.take rfl (by rfl) (by rfl) (q_fieldAddr (by rfl)) ?_) | (refine WS.take rfl (by rfl) (by rfl) (q_fieldAddr_rop (by rfl) (by rfl)) ?_) | (refine WS.take rfl (by rfl) (by rfl) (q_fieldAddr_pel (by rfl)) ?_)
      first | (refine WS.take rfl (by rfl) (by rfl) (q_fieldAddr (by rfl)) ?_) | (refine WS.take rfl (by rfl) (by rfl) (q_fieldAddr_rop (by rfl) (by rfl)) ?_) | (refine WS.take rfl (by rfl) (by rfl) (q_fieldAddr_pel (by rfl)) ?_)
      first | (refine WS.take rfl (by rfl) (by rfl) (q_load (by rfl) (by rfl) (by rfl)) ?_) | (refine WS.take rfl (by rfl) (by rfl) (q_load_rop (by rfl) (by rfl)) ?_) | (refine WS.take rfl (by rfl) (by rfl) (q_load_pel (by rfl) (by rfl) ?_ (by rfl)) ?_; (· (omega)))
      refine WS.set 42 (pfE (lat G k).p.d) (by rfl) (by rw [Nat.zero_add, Int.toNat_natCast]) ?_
      first | (refine WS.take rfl (by rfl) (by rfl) (q_load (by rfl) (by rfl) (by rfl)) ?_) | (refine WS.take rfl (by rfl) (by rfl) (q_load_rop (by rfl) (by rfl)) ?_) | (refine WS.take rfl (by rfl) (by rfl) (q_load_pel (by rfl) (by rfl) ?_ (by rfl)) ?_; (· (omega)))
      refine WS.ex rfl (by rfl) (Ex.callq (coversR_spec _ _ ?_ ?_) (by rfl) (by rfl) rfl (fun _ h => h) ?_); (· (first | exact (hG.ok _ hix).1.1 | exact (hG.ok _ hky).1.1 | exact (hG.ok _ hky).1.2 | exact (hG.ok _ hjz).1.1 | exact (hG.ok _ hjz).1.2)); (· (first | exact (hG.ok _ hix).1.1 | exact (hG.ok _ hky).1.1 | exact (hG.ok _ hky).1.2 | exact (hG.ok _ hjz).1.1 | exact (hG.ok _ hjz).1.2))
      refine WS.take rfl (by rfl) (by rfl) (q_not (by rfl)) ?_
      refine WS.take rfl (by rfl) (by rfl) (q_move (by rfl)) ?_
      refine WS.split 46 (by rfl) (fun g46 => ?_) (fun g46 => ?_)
      · skip
        (first | have eg46 := of_decide_eq_true g46 | have eg46 := of_decide_eq_false g46 | have eg46 := ndec_t g46 | have eg46 := ndec_f g46 | skip)
        have hno := pstep_no (G := G) (x := lat G i) (y := lat G k) (out := ((G.take k).foldl (pstep G (lat G i)) ((G.take i).foldl (xstep G) []))) (fun x => by unfold pcond at x; rw [show covers (lat G k).p.d.a (lat G k).p.d.n (lat G i).p.d.a (lat G i).p.d.n = false by simpa using g46] at x; cases x)
        refine WS.takeNo rfl (by rfl) (by rfl) ?_
        refine WS.takeNo rfl (by rfl) (by rfl) ?_
        refine WS.takeNo rfl (by rfl) (by rfl) ?_
        refine WS.takeNo rfl (by rfl) (by rfl) ?_
        refine WS.takeNo rfl (by rfl) (by rfl) ?_
        refine WS.take rfl (by rfl) (by rfl) (q_pick_t (by rfl) (by rfl)) ?_
        refine WS.nil ?_
        (repeat refine J.seq ?_)
        refine J.condT (by rfl) ?_
        (repeat refine J.seq ?_)
        refine J.exit ?_
        (repeat refine J.seq ?_)
        refine J.region ?_
        refine WL.yes (by rfl) (Ex.q (q_move (by rfl)) (by rfl) ?_)
        refine WL.yes (by rfl) (Ex.q (q_int (by rfl) (by rfl) (by rfl)) (by rfl) ?_)
        refine WL.yes (by rfl) (Ex.q (q_assign (by rfl)) (by rfl) ?_)
        refine WL.nil ?_
        first | ((have hs1 := pfold_step (x := lat G i) (out := ((G.take i).foldl (xstep G) [])) hk2; rw [pstep_yes hpc] at hs1); refine Kloop.nextP (k + 1, a141, cap141) ?_ ?_ ⟨⟨_, rfl, by rw [hs1]; cases a141 <;> rfl, fun _ => trivial⟩, same (by rw [← w64_nat (k := k) (by omega)]; rfl), trivial⟩ ⟨same rfl, same rfl, trivial⟩ (.cons (s := 2044) rfl (by rw [hs1]; exact CLe.refl _ _) rfl (.cons (s := 2064) rfl (CLe.refl _ _) rfl .nil)); (· ((try dsimp only) <;> omega)); (· ((try dsimp only) <;> omega))) | ((have hs1 := pfold_step (x := lat G i) (out := ((G.take i).foldl (xstep G) [])) hk2; rw [hno] at hs1); refine Kloop.nextP (k + 1, a3p, c3p) ?_ ?_ ⟨⟨_, rfl, by rw [hs1], fun _ => trivial⟩, same (by rw [← w64_nat (k := k) (by omega)]; rfl), trivial⟩ ⟨same rfl, same rfl, trivial⟩ (.cons (s := 3) rfl (by rw [hs1]; exact CLe.refl _ _) rfl (.cons (s := 2064) rfl (CLe.refl _ _) rfl .nil)); (· ((try dsimp only) <;> omega)); (· ((try dsimp only) <;> omega)))
      · skip
        (first | have eg46 := of_decide_eq_true g46 | have eg46 := of_decide_eq_false g46 | have eg46 := ndec_t g46 | have eg46 := ndec_f g46 | skip)
        have q1 : covers (lat G k).p.d.a (lat G k).p.d.n (lat G i).p.d.a (lat G i).p.d.n = true := by simpa using g46
        first | (refine WS.take rfl (by rfl) (by rfl) (q_load (by rfl) (by rfl) (by rfl)) ?_) | (refine WS.take rfl (by rfl) (by rfl) (q_load_rop (by rfl) (by rfl)) ?_) | (refine WS.take rfl (by rfl) (by rfl) (q_load_pel (by rfl) (by rfl) ?_ (by rfl)) ?_; (· (omega)))
        first | (refine WS.take rfl (by rfl) (by rfl) (q_load (by rfl) (by rfl) (by rfl)) ?_) | (refine WS.take rfl (by rfl) (by rfl) (q_load_rop (by rfl) (by rfl)) ?_) | (refine WS.take rfl (by rfl) (by rfl) (q_load_pel (by rfl) (by rfl) ?_ (by rfl)) ?_; (· (omega)))
        refine WS.ex rfl (by rfl) (Ex.callq (family_spec _ ?_) (by rfl) (by rfl) rfl (fun _ h => h) ?_); (· (first | exact (hG.ok _ hix).1.1 | exact (hG.ok _ hky).1.1 | exact (hG.ok _ hky).1.2 | exact (hG.ok _ hjz).1.1 | exact (hG.ok _ hjz).1.2))
        refine WS.ex rfl (by rfl) (Ex.callq (family_spec _ ?_) (by rfl) (by rfl) rfl (fun _ h => h) ?_); (· (first | exact (hG.ok _ hix).1.1 | exact (hG.ok _ hky).1.1 | exact (hG.ok _ hky).1.2 | exact (hG.ok _ hjz).1.1 | exact (hG.ok _ hjz).1.2))
        first | (refine WS.take rfl (by rfl) (by rfl) (q_int (by rfl) (by rfl) (by rfl)) ?_) | (refine WS.take rfl (by rfl) (by rfl) (q_neb (by rfl) (by rfl)) ?_) | (refine WS.take rfl (by rfl) (by rfl) (q_nep rfl rfl (by rfl) (by rfl) ?_) ?_; (· (rfl))) | (refine WS.take rfl (by rfl) (by rfl) (q_eqs (by rfl) (by rfl)) ?_)
        refine WS.take rfl (by rfl) (by rfl) (q_pick_f (by rfl) (by rfl)) ?_
        refine WS.nil ?_
        (repeat refine J.seq ?_)
        refine J.cond (by rfl) (fun c52 => ?_) (fun c52 => ?_)
        · skip
          (first | have e52 := of_decide_eq_true c52 | have e52 := of_decide_eq_false c52 | have e52 := ndec_t c52 | have e52 := ndec_f c52 | skip)
          (first | (have hno := pstep_no (G := G) (x := lat G i) (y := lat G k) (out := ((G.take k).foldl (pstep G (lat G i)) ((G.take i).foldl (xstep G) []))) (fun x => e52 (okpair_iff.1 (pcond_ok x)).2.2.symm)) | skip)
          (repeat refine J.seq ?_)
          refine J.exit ?_
          (repeat refine J.seq ?_)
          refine J.region ?_
          refine WL.yes (by rfl) (Ex.q (q_move (by rfl)) (by rfl) ?_)
          refine WL.yes (by rfl) (Ex.q (q_int (by rfl) (by rfl) (by rfl)) (by rfl) ?_)
          refine WL.yes (by rfl) (Ex.q (q_assign (by rfl)) (by rfl) ?_)
          refine WL.nil ?_
          first | ((have hs1 := pfold_step (x := lat G i) (out := ((G.take i).foldl (xstep G) [])) hk2; rw [pstep_yes hpc] at hs1); refine Kloop.nextP (k + 1, a141, cap141) ?_ ?_ ⟨⟨_, rfl, by rw [hs1]; cases a141 <;> rfl, fun _ => trivial⟩, same (by rw [← w64_nat (k := k) (by omega)]; rfl), trivial⟩ ⟨same rfl, same rfl, trivial⟩ (.cons (s := 2044) rfl (by rw [hs1]; exact CLe.refl _ _) rfl (.cons (s := 2064) rfl (CLe.refl _ _) rfl .nil)); (· ((try dsimp only) <;> omega)); (· ((try dsimp only) <;> omega))) | ((have hs1 := pfold_step (x := lat G i) (out := ((G.take i).foldl (xstep G) [])) hk2; rw [hno] at hs1); refine Kloop.nextP (k + 1, a3p, c3p) ?_ ?_ ⟨⟨_, rfl, by rw [hs1], fun _ => trivial⟩, same (by rw [← w64_nat (k := k) (by omega)]; rfl), trivial⟩ ⟨same rfl, same rfl, trivial⟩ (.cons (s := 3) rfl (by rw [hs1]; exact CLe.refl _ _) rfl (.cons (s := 2064) rfl (CLe.refl _ _) rfl .nil)); (· ((try dsimp only) <;> omega)); (· ((try dsimp only) <;> omega)))
        · skip
          (first | have e52 := of_decide_eq_true c52 | have e52 := of_decide_eq_false c52 | have e52 := ndec_t c52 | have e52 := ndec_f c52 | skip)
          have hpc : pcond (lat G i) (lat G k) = true := pcond_of hG hix hky q1 e52
          have hPo : GOk ((G.take k).foldl (pstep G (lat G i)) ((G.take i).foldl (xstep G) [])) := pfold_ok hG (hG.ok _ hix) _ _ (fun y hy => hG.ok y (List.take_subset _ _ hy)) (xfold_ok hG _ _ (fun y hy => hG.ok y (List.take_subset _ _ hy)) GOk.nil)
          have hEo := mkE_ok hG (hG.ok _ hix) (hG.ok _ hky)
          (repeat refine J.seq ?_)
          refine J.skip ?_
          (repeat refine J.seq ?_)
          refine J.region ?_
          refine WL.yes (by rfl) (Ex.q (q_assign (by rfl)) (by rfl) ?_)
          refine WL.nil ?_
          (repeat refine J.seq ?_)
          refine J.region ?_
          refine WL.yes (by rfl) (Ex.q (q_assign (by rfl)) (by rfl) ?_)
          refine WL.nil ?_
          (repeat refine J.seq ?_)
          refine J.block ?_
          (repeat refine J.seq ?_)
          refine J.loopP (fun x : Nat × Int => BI ⟨(lat G i).p.d, (lat G k).p.s⟩ G x.1 x.2) (fun x => [(8, iV x.2), (9, iV x.1)]) (fun x => []) (fun x => G.length - x.1) (0, -1) [(0, _), (3, _), (4, _), (5, _), (6, _), (7, _)] [(3, _), (6, _), (7, _), (2064, _)] ⟨same rfl, same rfl, same rfl, same rfl, same rfl, same rfl, trivial⟩ ⟨same rfl, same rfl, trivial⟩ (.cons (s := 3) rfl (CLe.refl _ _) rfl (.cons (s := 6) rfl (CLe.refl _ _) rfl (.cons (s := 7) rfl (CLe.refl _ _) rfl (.cons (s := 2064) rfl (CLe.refl _ _) rfl .nil)))) ?_ ?_
          · (exact BI.zero _ _)
          rintro ⟨j, bi⟩ hx
          (try dsimp only at hx)
          (try dsimp only)
          have hj := hx.1
          (repeat refine J.seq ?_)
          refine J.region ?_
          refine WL.yes (by rfl) (Ex.q (q_move (by rfl)) (by rfl) ?_)
          refine WL.yes (by rfl) (Ex.q (q_move (by rfl)) (by rfl) ?_)
          first | (refine WL.yes (by rfl) (Ex.q (q_len_slice (by rfl) (by rfl)) (by rfl) ?_)) | (refine WL.yes (by rfl) (Ex.q (q_len_string (by rfl)) (by rfl) ?_))
          refine WL.yes (by rfl) (Ex.q (q_int (by rfl) (by rfl) (by rfl)) (by rfl) ?_)
          refine WL.nil ?_
          (repeat refine J.seq ?_)
          refine J.cond (by rfl) (fun c56 => ?_) (fun c56 => ?_)
          · skip
            (first | have e56 := of_decide_eq_true c56 | have e56 := of_decide_eq_false c56 | have e56 := ndec_t c56 | have e56 := ndec_f c56 | skip)
            (repeat refine J.seq ?_)
            refine J.skip ?_
            (repeat refine J.seq ?_)
            refine J.block ?_
            (repeat refine J.seq ?_)
            have hj2 : j < G.length := by omega
            have hjz : lat G j ∈ G := lat_mem hj2
            refine J.region ?_
            refine WL.yes (by rfl) (Ex.q (q_move (by rfl)) (by rfl) ?_)
            refine WL.yes (by rfl) (Ex.q (q_move (by rfl)) (by rfl) ?_)
            first | (refine WL.yes (by rfl) (Ex.q (q_indexAddr_ros (by rfl) (by rfl) (by intro _; rfl) ?_ ?_) (by rfl) ?_); (· (omega)); (· (omega))) | (refine WL.yes (by rfl) (Ex.q (q_indexAddr_sl (by rfl) (by rfl) ?_ ?_) (by rfl) ?_); (· (omega)); (· (omega))) | (refine WL.yes (by rfl) (Ex.q (q_indexAddr_arr (by rfl) (by rfl) ?_ ?_) (by rfl) ?_); (· (omega)); (· (omega)))
            first | (refine WL.yes (by rfl) (Ex.q (q_fieldAddr (by rfl)) (by rfl) ?_)) | (refine WL.yes (by rfl) (Ex.q (q_fieldAddr_rop (by rfl) (by rfl)) (by rfl) ?_)) | (refine WL.yes (by rfl) (Ex.q (q_fieldAddr_pel (by rfl)) (by rfl) ?_))
            first | (refine WL.yes (by rfl) (Ex.h (h_load (by rfl) (by rfl) (by rfl)) (by rfl) ?_)) | (refine WL.yes (by rfl) (Ex.q (q_load (by rfl) (by rfl) (by rfl)) (by rfl) ?_)) | (refine WL.yes (by rfl) (Ex.q (q_load_rop (by rfl) (by rfl)) (by rfl) ?_)) | (refine WL.yes (by rfl) (Ex.h (h_load_pel (by rfl) (by rfl) ?_ (by rfl)) (by rfl) ?_); (· (omega))) | (refine WL.yes (by rfl) (Ex.q (q_load_pel (by rfl) (by rfl) ?_ (by rfl)) (by rfl) ?_); (· (omega)))
            refine WL.set 63 (prE (lat G j).p) (by rfl) (by rw [Nat.zero_add, Int.toNat_natCast]) ?_
            refine WL.yes (by rfl) (Ex.alloc (by rfl) ?_)
            intro b10
            first | (refine WL.yes (by rfl) (Ex.store (by rfl) (by rfl) (by rfl) (by rfl) (by rfl) (by rfl) ?_)) | (refine WL.yes (by rfl) (Ex.store_pel (by rfl) (by rfl) (by rfl) (by rfl) (by rfl) ?_ (by rfl) ?_); (· (omega)))
            refine WL.nil ?_
            (repeat refine J.seq ?_)
            refine J.draw [6, 7, 10, 2064] 9999 [(0, true), (1, true), (2, true), (3, false), (4, true), (5, true), (6, true), (7, true), (8, true), (9, false), (10, true), (11, true), (12, true), (13, true), (14, true), (16, true), (15, false), (17, false), (18, true), (19, true)] (by kernel_rfl) rfl (by kernel_rfl) ?_
            intro F3 hF3
            first | (refine WS.take rfl (by rfl) (by rfl) (q_fieldAddr (by rfl)) ?_) | (refine WS.take rfl (by rfl) (by rfl) (q_fieldAddr_rop (by rfl) (by rfl)) ?_) | (refine WS.take rfl (by rfl) (by rfl) (q_fieldAddr_pel (by rfl)) ?_)
            first | (refine WS.take rfl (by rfl) (by rfl) (q_load (by rfl) (by rfl) (by rfl)) ?_) | (refine WS.take rfl (by rfl) (by rfl) (q_load_rop (by rfl) (by rfl)) ?_) | (refine WS.take rfl (by rfl) (by rfl) (q_load_pel (by rfl) (by rfl) ?_ (by rfl)) ?_; (· (omega)))
            first | (refine WS.take rfl (by rfl) (by rfl) (q_load (by rfl) (by rfl) (by rfl)) ?_) | (refine WS.take rfl (by rfl) (by rfl) (q_load_rop (by rfl) (by rfl)) ?_) | (refine WS.take rfl (by rfl) (by rfl) (q_load_pel (by rfl) (by rfl) ?_ (by rfl)) ?_; (· (omega)))
            refine WS.ex rfl (by rfl) (Ex.callq (coversR_spec _ _ ?_ ?_) (by rfl) (by rfl) rfl (fun _ h => h) ?_); (· (first | exact (hG.ok _ hix).1.1 | exact (hG.ok _ hky).1.1 | exact (hG.ok _ hky).1.2 | exact (hG.ok _ hjz).1.1 | exact (hG.ok _ hjz).1.2)); (· (first | exact (hG.ok _ hix).1.1 | exact (hG.ok _ hky).1.1 | exact (hG.ok _ hky).1.2 | exact (hG.ok _ hjz).1.1 | exact (hG.ok _ hjz).1.2))
            refine WS.take rfl (by rfl) (by rfl) (q_not (by rfl)) ?_
            refine WS.take rfl (by rfl) (by rfl) (q_move (by rfl)) ?_
            refine WS.split 69 (by rfl) (fun g69 => ?_) (fun g69 => ?_)
            · skip
              (first | have eg69 := of_decide_eq_true g69 | have eg69 := of_decide_eq_false g69 | have eg69 := ndec_t g69 | have eg69 := ndec_f g69 | skip)
              have h0 : mtch ⟨(lat G i).p.d, (lat G k).p.s⟩ (lat G j) = false := mtch_c1 (by simpa using g69)
              refine WS.takeNo rfl (by rfl) (by rfl) ?_
              refine WS.takeNo rfl (by rfl) (by rfl) ?_
              refine WS.takeNo rfl (by rfl) (by rfl) ?_
              refine WS.takeNo rfl (by rfl) (by rfl) ?_
              refine WS.takeNo rfl (by rfl) (by rfl) ?_
              refine WS.take rfl (by rfl) (by rfl) (q_pick_t (by rfl) (by rfl)) ?_
              refine WS.take rfl (by rfl) (by rfl) (q_move (by rfl)) ?_
              refine WS.takeNo rfl (by rfl) (by rfl) ?_
              refine WS.takeNo rfl (by rfl) (by rfl) ?_
              refine WS.takeNo rfl (by rfl) (by rfl) ?_
              refine WS.takeNo rfl (by rfl) (by rfl) ?_
              refine WS.takeNo rfl (by rfl) (by rfl) ?_
              refine WS.takeNo rfl (by rfl) (by rfl) ?_
              refine WS.take rfl (by rfl) (by rfl) (q_pick_t (by rfl) (by rfl)) ?_
              refine WS.nil ?_
              (repeat refine J.seq ?_)
              refine J.condT (by rfl) ?_
              (repeat refine J.seq ?_)
              refine J.exit ?_
              (repeat refine J.seq ?_)
              refine J.region ?_
              refine WL.yes (by rfl) (Ex.q (q_move (by rfl)) (by rfl) ?_)
              refine WL.yes (by rfl) (Ex.q (q_int (by rfl) (by rfl) (by rfl)) (by rfl) ?_)
              refine WL.yes (by rfl) (Ex.q (q_assign (by rfl)) (by rfl) ?_)
              refine WL.nil ?_
              first | (refine Kloop.nextP (j + 1, bi) ?_ ?_ ⟨same rfl, same (by rw [← w64_nat (k := j) (by omega)]; rfl), trivial⟩ ⟨same rfl, same rfl, same rfl, same rfl, same rfl, same rfl, trivial⟩ (.cons (s := 3) rfl (CLe.refl _ _) rfl (.cons (s := 6) rfl (CLe.refl _ _) rfl (.cons (s := 7) rfl (CLe.refl _ _) rfl (.cons (s := 2064) rfl (CLe.refl _ _) rfl .nil)))); (· (exact hx.skip hj2 h0)); (· ((try dsimp only) <;> omega))) | (refine Kloop.nextP (j + 1, (j : Int)) ?_ ?_ ⟨same rfl, same (by rw [← w64_nat (k := j) (by omega)]; rfl), trivial⟩ ⟨same rfl, same rfl, same rfl, same rfl, same rfl, same rfl, trivial⟩ (.cons (s := 3) rfl (CLe.refl _ _) rfl (.cons (s := 6) rfl (CLe.refl _ _) rfl (.cons (s := 7) rfl (CLe.refl _ _) rfl (.cons (s := 2064) rfl (CLe.refl _ _) rfl .nil)))); (· (exact hx.first hj2 hm (by omega))); (· ((try dsimp only) <;> omega))) | (refine Kloop.nextP (j + 1, (j : Int)) ?_ ?_ ⟨same rfl, same (by rw [← w64_nat (k := j) (by omega)]; rfl), trivial⟩ ⟨same rfl, same rfl, same rfl, same rfl, same rfl, same rfl, trivial⟩ (.cons (s := 3) rfl (CLe.refl _ _) rfl (.cons (s := 6) rfl (CLe.refl _ _) rfl (.cons (s := 7) rfl (CLe.refl _ _) rfl (.cons (s := 2064) rfl (CLe.refl _ _) rfl .nil)))); (· (exact hx.yes hj2 hm hbt)); (· ((try dsimp only) <;> omega))) | (refine Kloop.nextP (j + 1, (q : Int)) ?_ ?_ ⟨same rfl, same (by rw [← w64_nat (k := j) (by omega)]; rfl), trivial⟩ ⟨same rfl, same rfl, same rfl, same rfl, same rfl, same rfl, trivial⟩ (.cons (s := 3) rfl (CLe.refl _ _) rfl (.cons (s := 6) rfl (CLe.refl _ _) rfl (.cons (s := 7) rfl (CLe.refl _ _) rfl (.cons (s := 2064) rfl (CLe.refl _ _) rfl .nil)))); (· (exact hx.no hj2 hm hbn2)); (· ((try dsimp only) <;> omega)))
            · skip
              (first | have eg69 := of_decide_eq_true g69 | have eg69 := of_decide_eq_false g69 | have eg69 := ndec_t g69 | have eg69 := ndec_f g69 | skip)
              have h1 : covers (lat G j).p.d.a (lat G j).p.d.n (lat G i).p.d.a (lat G i).p.d.n = true := by simpa using g69
              first | (refine WS.take rfl (by rfl) (by rfl) (q_fieldAddr (by rfl)) ?_) | (refine WS.take rfl (by rfl) (by rfl) (q_fieldAddr_rop (by rfl) (by rfl)) ?_) | (refine WS.take rfl (by rfl) (by rfl) (q_fieldAddr_pel (by rfl)) ?_)
              first | (refine WS.take rfl (by rfl) (by rfl) (q_load (by rfl) (by rfl) (by rfl)) ?_) | (refine WS.take rfl (by rfl) (by rfl) (q_load_rop (by rfl) (by rfl)) ?_) | (refine WS.take rfl (by rfl) (by rfl) (q_load_pel (by rfl) (by rfl) ?_ (by rfl)) ?_; (· (omega)))
              first | (refine WS.take rfl (by rfl) (by rfl) (q_load (by rfl) (by rfl) (by rfl)) ?_) | (refine WS.take rfl (by rfl) (by rfl) (q_load_rop (by rfl) (by rfl)) ?_) | (refine WS.take rfl (by rfl) (by rfl) (q_load_pel (by rfl) (by rfl) ?_ (by rfl)) ?_; (· (omega)))
              refine WS.ex rfl (by rfl) (Ex.callq (coversR_spec _ _ ?_ ?_) (by rfl) (by rfl) rfl (fun _ h => h) ?_); (· (first | exact (hG.ok _ hix).1.1 | exact (hG.ok _ hky).1.1 | exact (hG.ok _ hky).1.2 | exact (hG.ok _ hjz).1.1 | exact (hG.ok _ hjz).1.2)); (· (first | exact (hG.ok _ hix).1.1 | exact (hG.ok _ hky).1.1 | exact (hG.ok _ hky).1.2 | exact (hG.ok _ hjz).1.1 | exact (hG.ok _ hjz).1.2))
              refine WS.take rfl (by rfl) (by rfl) (q_not (by rfl)) ?_
              refine WS.take rfl (by rfl) (by rfl) (q_pick_f (by rfl) (by rfl)) ?_
              refine WS.take rfl (by rfl) (by rfl) (q_move (by rfl)) ?_
              refine WS.split 76 (by rfl) (fun g76 => ?_) (fun g76 => ?_)
              · skip
                (first | have eg76 := of_decide_eq_true g76 | have eg76 := of_decide_eq_false g76 | have eg76 := ndec_t g76 | have eg76 := ndec_f g76 | skip)
                have h0 : mtch ⟨(lat G i).p.d, (lat G k).p.s⟩ (lat G j) = false := mtch_c2 h1 (by simpa using g76)
                refine WS.takeNo rfl (by rfl) (by rfl) ?_
                refine WS.takeNo rfl (by rfl) (by rfl) ?_
                refine WS.takeNo rfl (by rfl) (by rfl) ?_
                refine WS.takeNo rfl (by rfl) (by rfl) ?_
                refine WS.takeNo rfl (by rfl) (by rfl) ?_
                refine WS.takeNo rfl (by rfl) (by rfl) ?_
                refine WS.take rfl (by rfl) (by rfl) (q_pick_t (by rfl) (by rfl)) ?_
                refine WS.nil ?_
                (repeat refine J.seq ?_)
                refine J.condT (by rfl) ?_
                (repeat refine J.seq ?_)
                refine J.exit ?_
                (repeat refine J.seq ?_)
                refine J.region ?_
                refine WL.yes (by rfl) (Ex.q (q_move (by rfl)) (by rfl) ?_)
                refine WL.yes (by rfl) (Ex.q (q_int (by rfl) (by rfl) (by rfl)) (by rfl) ?_)
                refine WL.yes (by rfl) (Ex.q (q_assign (by rfl)) (by rfl) ?_)
                refine WL.nil ?_
                first | (refine Kloop.nextP (j + 1, bi) ?_ ?_ ⟨same rfl, same (by rw [← w64_nat (k := j) (by omega)]; rfl), trivial⟩ ⟨same rfl, same rfl, same rfl, same rfl, same rfl, same rfl, trivial⟩ (.cons (s := 3) rfl (CLe.refl _ _) rfl (.cons (s := 6) rfl (CLe.refl _ _) rfl (.cons (s := 7) rfl (CLe.refl _ _) rfl (.cons (s := 2064) rfl (CLe.refl _ _) rfl .nil)))); (· (exact hx.skip hj2 h0)); (· ((try dsimp only) <;> omega))) | (refine Kloop.nextP (j + 1, (j : Int)) ?_ ?_ ⟨same rfl, same (by rw [← w64_nat (k := j) (by omega)]; rfl), trivial⟩ ⟨same rfl, same rfl, same rfl, same rfl, same rfl, same rfl, trivial⟩ (.cons (s := 3) rfl (CLe.refl _ _) rfl (.cons (s := 6) rfl (CLe.refl _ _) rfl (.cons (s := 7) rfl (CLe.refl _ _) rfl (.cons (s := 2064) rfl (CLe.refl _ _) rfl .nil)))); (· (exact hx.first hj2 hm (by omega))); (· ((try dsimp only) <;> omega))) | (refine Kloop.nextP (j + 1, (j : Int)) ?_ ?_ ⟨same rfl, same (by rw [← w64_nat (k := j) (by omega)]; rfl), trivial⟩ ⟨same rfl, same rfl, same rfl, same rfl, same rfl, same rfl, trivial⟩ (.cons (s := 3) rfl (CLe.refl _ _) rfl (.cons (s := 6) rfl (CLe.refl _ _) rfl (.cons (s := 7) rfl (CLe.refl _ _) rfl (.cons (s := 2064) rfl (CLe.refl _ _) rfl .nil)))); (· (exact hx.yes hj2 hm hbt)); (· ((try dsimp only) <;> omega))) | (refine Kloop.nextP (j + 1, (q : Int)) ?_ ?_ ⟨same rfl, same (by rw [← w64_nat (k := j) (by omega)]; rfl), trivial⟩ ⟨same rfl, same rfl, same rfl, same rfl, same rfl, same rfl, trivial⟩ (.cons (s := 3) rfl (CLe.refl _ _) rfl (.cons (s := 6) rfl (CLe.refl _ _) rfl (.cons (s := 7) rfl (CLe.refl _ _) rfl (.cons (s := 2064) rfl (CLe.refl _ _) rfl .nil)))); (· (exact hx.no hj2 hm hbn2)); (· ((try dsimp only) <;> omega)))
              · skip
                (first | have eg76 := of_decide_eq_true g76 | have eg76 := of_decide_eq_false g76 | have eg76 := ndec_t g76 | have eg76 := ndec_f g76 | skip)
                have h2 : covers (lat G j).p.s.a (lat G j).p.s.n (lat G k).p.s.a (lat G k).p.s.n = true := by simpa using g76
                first | (refine WS.take rfl (by rfl) (by rfl) (q_fieldAddr (by rfl)) ?_) | (refine WS.take rfl (by rfl) (by rfl) (q_fieldAddr_rop (by rfl) (by rfl)) ?_) | (refine WS.take rfl (by rfl) (by rfl) (q_fieldAddr_pel (by rfl)) ?_)
                first | (refine WS.take rfl (by rfl) (by rfl) (q_load (by rfl) (by rfl) (by rfl)) ?_) | (refine WS.take rfl (by rfl) (by rfl) (q_load_rop (by rfl) (by rfl)) ?_) | (refine WS.take rfl (by rfl) (by rfl) (q_load_pel (by rfl) (by rfl) ?_ (by rfl)) ?_; (· (omega)))
                first | (refine WS.take rfl (by rfl) (by rfl) (q_load (by rfl) (by rfl) (by rfl)) ?_) | (refine WS.take rfl (by rfl) (by rfl) (q_load_rop (by rfl) (by rfl)) ?_) | (refine WS.take rfl (by rfl) (by rfl) (q_load_pel (by rfl) (by rfl) ?_ (by rfl)) ?_; (· (omega)))
                refine WS.ex rfl (by rfl) (Ex.callq (family_spec _ ?_) (by rfl) (by rfl) rfl (fun _ h => h) ?_); (· (first | exact (hG.ok _ hix).1.1 | exact (hG.ok _ hky).1.1 | exact (hG.ok _ hky).1.2 | exact (hG.ok _ hjz).1.1 | exact (hG.ok _ hjz).1.2))
                refine WS.ex rfl (by rfl) (Ex.callq (family_spec _ ?_) (by rfl) (by rfl) rfl (fun _ h => h) ?_); (· (first | exact (hG.ok _ hix).1.1 | exact (hG.ok _ hky).1.1 | exact (hG.ok _ hky).1.2 | exact (hG.ok _ hjz).1.1 | exact (hG.ok _ hjz).1.2))
                first | (refine WS.take rfl (by rfl) (by rfl) (q_int (by rfl) (by rfl) (by rfl)) ?_) | (refine WS.take rfl (by rfl) (by rfl) (q_neb (by rfl) (by rfl)) ?_) | (refine WS.take rfl (by rfl) (by rfl) (q_nep rfl rfl (by rfl) (by rfl) ?_) ?_; (· (rfl))) | (refine WS.take rfl (by rfl) (by rfl) (q_eqs (by rfl) (by rfl)) ?_)
                refine WS.take rfl (by rfl) (by rfl) (q_pick_f (by rfl) (by rfl)) ?_
                refine WS.nil ?_
                (repeat refine J.seq ?_)
                refine J.cond (by rfl) (fun c83 => ?_) (fun c83 => ?_)
                · skip
                  (first | have e83 := of_decide_eq_true c83 | have e83 := of_decide_eq_false c83 | have e83 := ndec_t c83 | have e83 := ndec_f c83 | skip)
                  (first | (have h0 : mtch ⟨(lat G i).p.d, (lat G k).p.s⟩ (lat G j) = false := mtch_c3 h1 h2 e83) | skip)
                  (repeat refine J.seq ?_)
                  refine J.exit ?_
                  (repeat refine J.seq ?_)
                  refine J.region ?_
                  refine WL.yes (by rfl) (Ex.q (q_move (by rfl)) (by rfl) ?_)
                  refine WL.yes (by rfl) (Ex.q (q_int (by rfl) (by rfl) (by rfl)) (by rfl) ?_)
                  refine WL.yes (by rfl) (Ex.q (q_assign (by rfl)) (by rfl) ?_)
                  refine WL.nil ?_
                  first | (refine Kloop.nextP (j + 1, bi) ?_ ?_ ⟨same rfl, same (by rw [← w64_nat (k := j) (by omega)]; rfl), trivial⟩ ⟨same rfl, same rfl, same rfl, same rfl, same rfl, same rfl, trivial⟩ (.cons (s := 3) rfl (CLe.refl _ _) rfl (.cons (s := 6) rfl (CLe.refl _ _) rfl (.cons (s := 7) rfl (CLe.refl _ _) rfl (.cons (s := 2064) rfl (CLe.refl _ _) rfl .nil)))); (· (exact hx.skip hj2 h0)); (· ((try dsimp only) <;> omega))) | (refine Kloop.nextP (j + 1, (j : Int)) ?_ ?_ ⟨same rfl, same (by rw [← w64_nat (k := j) (by omega)]; rfl), trivial⟩ ⟨same rfl, same rfl, same rfl, same rfl, same rfl, same rfl, trivial⟩ (.cons (s := 3) rfl (CLe.refl _ _) rfl (.cons (s := 6) rfl (CLe.refl _ _) rfl (.cons (s := 7) rfl (CLe.refl _ _) rfl (.cons (s := 2064) rfl (CLe.refl _ _) rfl .nil)))); (· (exact hx.first hj2 hm (by omega))); (· ((try dsimp only) <;> omega))) | (refine Kloop.nextP (j + 1, (j : Int)) ?_ ?_ ⟨same rfl, same (by rw [← w64_nat (k := j) (by omega)]; rfl), trivial⟩ ⟨same rfl, same rfl, same rfl, same rfl, same rfl, same rfl, trivial⟩ (.cons (s := 3) rfl (CLe.refl _ _) rfl (.cons (s := 6) rfl (CLe.refl _ _) rfl (.cons (s := 7) rfl (CLe.refl _ _) rfl (.cons (s := 2064) rfl (CLe.refl _ _) rfl .nil)))); (· (exact hx.yes hj2 hm hbt)); (· ((try dsimp only) <;> omega))) | (refine Kloop.nextP (j + 1, (q : Int)) ?_ ?_ ⟨same rfl, same (by rw [← w64_nat (k := j) (by omega)]; rfl), trivial⟩ ⟨same rfl, same rfl, same rfl, same rfl, same rfl, same rfl, trivial⟩ (.cons (s := 3) rfl (CLe.refl _ _) rfl (.cons (s := 6) rfl (CLe.refl _ _) rfl (.cons (s := 7) rfl (CLe.refl _ _) rfl (.cons (s := 2064) rfl (CLe.refl _ _) rfl .nil)))); (· (exact hx.no hj2 hm hbn2)); (· ((try dsimp only) <;> omega)))
                · skip
                  (first | have e83 := of_decide_eq_true c83 | have e83 := of_decide_eq_false c83 | have e83 := ndec_t c83 | have e83 := ndec_f c83 | skip)
                  have hm : mtch ⟨(lat G i).p.d, (lat G k).p.s⟩ (lat G j) = true := mtch_yes h1 h2 e83
                  (repeat refine J.seq ?_)
                  refine J.skip ?_
                  (repeat refine J.seq ?_)
                  refine J.draw [10, 2064] 9999 [(0, true), (1, true), (2, true), (3, true), (4, true), (5, true), (6, true), (7, true), (8, true), (9, true), (10, true), (11, true), (12, true), (13, true), (14, true), (15, true), (16, true), (17, true), (18, true), (19, true), (20, true), (21, true), (22, true), (23, true), (24, true), (25, true), (26, true), (27, true), (28, true), (29, true), (30, true), (31, true), (32, true), (33, true), (34, true), (35, true), (36, true), (37, true), (38, true), (39, true), (40, true)] (by kernel_rfl) rfl (by kernel_rfl) ?_
                  intro F4 hF4
                  refine WS.take rfl (by rfl) (by rfl) (q_move (by rfl)) ?_
                  refine WS.take rfl (by rfl) (by rfl) (q_int (by rfl) (by rfl) (by rfl)) ?_
                  refine WS.take rfl (by rfl) (by rfl) (q_move (by rfl)) ?_
                  refine WS.split 86 (by rfl) (fun g86 => ?_) (fun g86 => ?_)
                  · skip
                    (first | have eg86 := of_decide_eq_true g86 | have eg86 := of_decide_eq_false g86 | have eg86 := ndec_t g86 | have eg86 := ndec_f g86 | skip)
                    refine WS.takeNo rfl (by rfl) (by rfl) ?_
                    refine WS.takeNo rfl (by rfl) (by rfl) ?_
                    refine WS.takeNo rfl (by rfl) (by rfl) ?_
                    refine WS.takeNo rfl (by rfl) (by rfl) ?_
                    refine WS.takeNo rfl (by rfl) (by rfl) ?_
                    refine WS.takeNo rfl (by rfl) (by rfl) ?_
                    refine WS.takeNo rfl (by rfl) (by rfl) ?_
                    refine WS.takeNo rfl (by rfl) (by rfl) ?_
                    refine WS.takeNo rfl (by rfl) (by rfl) ?_
                    refine WS.takeNo rfl (by rfl) (by rfl) ?_
                    refine WS.takeNo rfl (by rfl) (by rfl) ?_
                    refine WS.take rfl (by rfl) (by rfl) (q_pick_t (by rfl) (by rfl)) ?_
                    refine WS.take rfl (by rfl) (by rfl) (q_move (by rfl)) ?_
                    refine WS.takeNo rfl (by rfl) (by rfl) ?_
                    refine WS.takeNo rfl (by rfl) (by rfl) ?_
                    refine WS.takeNo rfl (by rfl) (by rfl) ?_
                    refine WS.takeNo rfl (by rfl) (by rfl) ?_
                    refine WS.takeNo rfl (by rfl) (by rfl) ?_
                    refine WS.takeNo rfl (by rfl) (by rfl) ?_
                    refine WS.takeNo rfl (by rfl) (by rfl) ?_
                    refine WS.takeNo rfl (by rfl) (by rfl) ?_
                    refine WS.takeNo rfl (by rfl) (by rfl) ?_
                    refine WS.takeNo rfl (by rfl) (by rfl) ?_
                    refine WS.takeNo rfl (by rfl) (by rfl) ?_
                    refine WS.takeNo rfl (by rfl) (by rfl) ?_
                    refine WS.takeNo rfl (by rfl) (by rfl) ?_
                    refine WS.takeNo rfl (by rfl) (by rfl) ?_
                    refine WS.takeNo rfl (by rfl) (by rfl) ?_
                    refine WS.takeNo rfl (by rfl) (by rfl) ?_
                    refine WS.takeNo rfl (by rfl) (by rfl) ?_
                    refine WS.takeNo rfl (by rfl) (by rfl) ?_
                    refine WS.takeNo rfl (by rfl) (by rfl) ?_
                    refine WS.takeNo rfl (by rfl) (by rfl) ?_
                    refine WS.takeNo rfl (by rfl) (by rfl) ?_
                    refine WS.takeNo rfl (by rfl) (by rfl) ?_
                    refine WS.takeNo rfl (by rfl) (by rfl) ?_
                    refine WS.takeNo rfl (by rfl) (by rfl) ?_
                    refine WS.take rfl (by rfl) (by rfl) (q_pick_t (by rfl) (by rfl)) ?_
                    refine WS.nil ?_
                    (repeat refine J.seq ?_)
                    refine J.condT (by rfl) ?_
                    (repeat refine J.seq ?_)
                    refine J.region ?_
                    refine WL.yes (by rfl) (Ex.q (q_move (by rfl)) (by rfl) ?_)
                    refine WL.yes (by rfl) (Ex.q (q_assign (by rfl)) (by rfl) ?_)
                    refine WL.nil ?_
                    (repeat refine J.seq ?_)
                    refine J.region ?_
                    refine WL.yes (by rfl) (Ex.q (q_move (by rfl)) (by rfl) ?_)
                    refine WL.yes (by rfl) (Ex.q (q_int (by rfl) (by rfl) (by rfl)) (by rfl) ?_)
                    refine WL.yes (by rfl) (Ex.q (q_assign (by rfl)) (by rfl) ?_)
                    refine WL.nil ?_
                    first | (refine Kloop.nextP (j + 1, bi) ?_ ?_ ⟨same rfl, same (by rw [← w64_nat (k := j) (by omega)]; rfl), trivial⟩ ⟨same rfl, same rfl, same rfl, same rfl, same rfl, same rfl, trivial⟩ (.cons (s := 3) rfl (CLe.refl _ _) rfl (.cons (s := 6) rfl (CLe.refl _ _) rfl (.cons (s := 7) rfl (CLe.refl _ _) rfl (.cons (s := 2064) rfl (CLe.refl _ _) rfl .nil)))); (· (exact hx.skip hj2 h0)); (· ((try dsimp only) <;> omega))) | (refine Kloop.nextP (j + 1, (j : Int)) ?_ ?_ ⟨same rfl, same (by rw [← w64_nat (k := j) (by omega)]; rfl), trivial⟩ ⟨same rfl, same rfl, same rfl, same rfl, same rfl, same rfl, trivial⟩ (.cons (s := 3) rfl (CLe.refl _ _) rfl (.cons (s := 6) rfl (CLe.refl _ _) rfl (.cons (s := 7) rfl (CLe.refl _ _) rfl (.cons (s := 2064) rfl (CLe.refl _ _) rfl .nil)))); (· (exact hx.first hj2 hm (by omega))); (· ((try dsimp only) <;> omega))) | (refine Kloop.nextP (j + 1, (j : Int)) ?_ ?_ ⟨same rfl, same (by rw [← w64_nat (k := j) (by omega)]; rfl), trivial⟩ ⟨same rfl, same rfl, same rfl, same rfl, same rfl, same rfl, trivial⟩ (.cons (s := 3) rfl (CLe.refl _ _) rfl (.cons (s := 6) rfl (CLe.refl _ _) rfl (.cons (s := 7) rfl (CLe.refl _ _) rfl (.cons (s := 2064) rfl (CLe.refl _ _) rfl .nil)))); (· (exact hx.yes hj2 hm hbt)); (· ((try dsimp only) <;> omega))) | (refine Kloop.nextP (j + 1, (q : Int)) ?_ ?_ ⟨same rfl, same (by rw [← w64_nat (k := j) (by omega)]; rfl), trivial⟩ ⟨same rfl, same rfl, same rfl, same rfl, same rfl, same rfl, trivial⟩ (.cons (s := 3) rfl (CLe.refl _ _) rfl (.cons (s := 6) rfl (CLe.refl _ _) rfl (.cons (s := 7) rfl (CLe.refl _ _) rfl (.cons (s := 2064) rfl (CLe.refl _ _) rfl .nil)))); (· (exact hx.no hj2 hm hbn2)); (· ((try dsimp only) <;> omega)))
                  · skip
                    (first | have eg86 := of_decide_eq_true g86 | have eg86 := of_decide_eq_false g86 | have eg86 := ndec_t g86 | have eg86 := ndec_f g86 | skip)
                    obtain ⟨q, hq, hq2⟩ : ∃ q : Nat, bi = q ∧ q < G.length := by
                      rcases hx.2 with ⟨hz1, _⟩ | ⟨q, hz1, hz2, _⟩
                      · omega
                      · exact ⟨q, hz1, hz2⟩
                    subst hq
                    first | (refine WS.take rfl (by rfl) (by rfl) (q_fieldAddr (by rfl)) ?_) | (refine WS.take rfl (by rfl) (by rfl) (q_fieldAddr_rop (by rfl) (by rfl)) ?_) | (refine WS.take rfl (by rfl) (by rfl) (q_fieldAddr_pel (by rfl)) ?_)
                    first | (refine WS.take rfl (by rfl) (by rfl) (q_fieldAddr (by rfl)) ?_) | (refine WS.take rfl (by rfl) (by rfl) (q_fieldAddr_rop (by rfl) (by rfl)) ?_) | (refine WS.take rfl (by rfl) (by rfl) (q_fieldAddr_pel (by rfl)) ?_)
                    first | (refine WS.take rfl (by rfl) (by rfl) (q_load (by rfl) (by rfl) (by rfl)) ?_) | (refine WS.take rfl (by rfl) (by rfl) (q_load_rop (by rfl) (by rfl)) ?_) | (refine WS.take rfl (by rfl) (by rfl) (q_load_pel (by rfl) (by rfl) ?_ (by rfl)) ?_; (· (omega)))
                    refine WS.take rfl (by rfl) (by rfl) (q_move (by rfl)) ?_
                    refine WS.take rfl (by rfl) (by rfl) (q_move (by rfl)) ?_
                    first | (refine WS.take rfl (by rfl) (by rfl) (q_indexAddr_ros (by rfl) (by rfl) (by intro _; rfl) ?_ ?_) ?_; (· (omega)); (· (omega))) | (refine WS.take rfl (by rfl) (by rfl) (q_indexAddr_sl (by rfl) (by rfl) ?_ ?_) ?_; (· (omega)); (· (omega))) | (refine WS.take rfl (by rfl) (by rfl) (q_indexAddr_arr (by rfl) (by rfl) ?_ ?_) ?_; (· (omega)); (· (omega)))
                    first | (refine WS.take rfl (by rfl) (by rfl) (q_fieldAddr (by rfl)) ?_) | (refine WS.take rfl (by rfl) (by rfl) (q_fieldAddr_rop (by rfl) (by rfl)) ?_) | (refine WS.take rfl (by rfl) (by rfl) (q_fieldAddr_pel (by rfl)) ?_)
                    first | (refine WS.take rfl (by rfl) (by rfl) (q_fieldAddr (by rfl)) ?_) | (refine WS.take rfl (by rfl) (by rfl) (q_fieldAddr_rop (by rfl) (by rfl)) ?_) | (refine WS.take rfl (by rfl) (by rfl) (q_fieldAddr_pel (by rfl)) ?_)
                    first | (refine WS.take rfl (by rfl) (by rfl) (q_fieldAddr (by rfl)) ?_) | (refine WS.take rfl (by rfl) (by rfl) (q_fieldAddr_rop (by rfl) (by rfl)) ?_) | (refine WS.take rfl (by rfl) (by rfl) (q_fieldAddr_pel (by rfl)) ?_)
                    first | (refine WS.take rfl (by rfl) (by rfl) (q_load (by rfl) (by rfl) (by rfl)) ?_) | (refine WS.take rfl (by rfl) (by rfl) (q_load_rop (by rfl) (by rfl)) ?_) | (refine WS.take rfl (by rfl) (by rfl) (q_load_pel (by rfl) (by rfl) ?_ (by rfl)) ?_; (· (omega)))
                    refine WS.set 96 (iV (lat G q).p.d.n) (by rfl) (by rw [Nat.zero_add, Int.toNat_natCast]) ?_
                    refine WS.take rfl (by rfl) (by rfl) (q_int (by rfl) (by rfl) (by rfl)) ?_
                    refine WS.take rfl (by rfl) (by rfl) (q_pick_f (by rfl) (by rfl)) ?_
                    refine WS.take rfl (by rfl) (by rfl) (q_move (by rfl)) ?_
                    refine WS.split 99 (by rfl) (fun g99 => ?_) (fun g99 => ?_)
                    · skip
                      (first | have eg99 := of_decide_eq_true g99 | have eg99 := of_decide_eq_false g99 | have eg99 := ndec_t g99 | have eg99 := ndec_f g99 | skip)
                      (first | (have hbt : better (lat G j) (lat G q) := .inl (of_decide_eq_true g99)) | skip)
                      refine WS.takeNo rfl (by rfl) (by rfl) ?_
                      refine WS.takeNo rfl (by rfl) (by rfl) ?_
                      refine WS.takeNo rfl (by rfl) (by rfl) ?_
                      refine WS.takeNo rfl (by rfl) (by rfl) ?_
                      refine WS.takeNo rfl (by rfl) (by rfl) ?_
                      refine WS.takeNo rfl (by rfl) (by rfl) ?_
                      refine WS.takeNo rfl (by rfl) (by rfl) ?_
                      refine WS.takeNo rfl (by rfl) (by rfl) ?_
                      refine WS.takeNo rfl (by rfl) (by rfl) ?_
                      refine WS.takeNo rfl (by rfl) (by rfl) ?_
                      refine WS.takeNo rfl (by rfl) (by rfl) ?_
                      refine WS.takeNo rfl (by rfl) (by rfl) ?_
                      refine WS.takeNo rfl (by rfl) (by rfl) ?_
                      refine WS.takeNo rfl (by rfl) (by rfl) ?_
                      refine WS.takeNo rfl (by rfl) (by rfl) ?_
                      refine WS.takeNo rfl (by rfl) (by rfl) ?_
                      refine WS.takeNo rfl (by rfl) (by rfl) ?_
                      refine WS.takeNo rfl (by rfl) (by rfl) ?_
                      refine WS.takeNo rfl (by rfl) (by rfl) ?_
                      refine WS.takeNo rfl (by rfl) (by rfl) ?_
                      refine WS.takeNo rfl (by rfl) (by rfl) ?_
                      refine WS.takeNo rfl (by rfl) (by rfl) ?_
                      refine WS.takeNo rfl (by rfl) (by rfl) ?_
                      refine WS.takeNo rfl (by rfl) (by rfl) ?_
                      refine WS.take rfl (by rfl) (by rfl) (q_pick_t (by rfl) (by rfl)) ?_
                      refine WS.nil ?_
                      (repeat refine J.seq ?_)
                      refine J.condT (by rfl) ?_
                      (repeat refine J.seq ?_)
                      refine J.region ?_
                      refine WL.yes (by rfl) (Ex.q (q_move (by rfl)) (by rfl) ?_)
                      refine WL.yes (by rfl) (Ex.q (q_assign (by rfl)) (by rfl) ?_)
                      refine WL.nil ?_
                      (repeat refine J.seq ?_)
                      refine J.region ?_
                      refine WL.yes (by rfl) (Ex.q (q_move (by rfl)) (by rfl) ?_)
                      refine WL.yes (by rfl) (Ex.q (q_int (by rfl) (by rfl) (by rfl)) (by rfl) ?_)
                      refine WL.yes (by rfl) (Ex.q (q_assign (by rfl)) (by rfl) ?_)
                      refine WL.nil ?_
                      first | (refine Kloop.nextP (j + 1, bi) ?_ ?_ ⟨same rfl, same (by rw [← w64_nat (k := j) (by omega)]; rfl), trivial⟩ ⟨same rfl, same rfl, same rfl, same rfl, same rfl, same rfl, trivial⟩ (.cons (s := 3) rfl (CLe.refl _ _) rfl (.cons (s := 6) rfl (CLe.refl _ _) rfl (.cons (s := 7) rfl (CLe.refl _ _) rfl (.cons (s := 2064) rfl (CLe.refl _ _) rfl .nil)))); (· (exact hx.skip hj2 h0)); (· ((try dsimp only) <;> omega))) | (refine Kloop.nextP (j + 1, (j : Int)) ?_ ?_ ⟨same rfl, same (by rw [← w64_nat (k := j) (by omega)]; rfl), trivial⟩ ⟨same rfl, same rfl, same rfl, same rfl, same rfl, same rfl, trivial⟩ (.cons (s := 3) rfl (CLe.refl _ _) rfl (.cons (s := 6) rfl (CLe.refl _ _) rfl (.cons (s := 7) rfl (CLe.refl _ _) rfl (.cons (s := 2064) rfl (CLe.refl _ _) rfl .nil)))); (· (exact hx.first hj2 hm (by omega))); (· ((try dsimp only) <;> omega))) | (refine Kloop.nextP (j + 1, (j : Int)) ?_ ?_ ⟨same rfl, same (by rw [← w64_nat (k := j) (by omega)]; rfl), trivial⟩ ⟨same rfl, same rfl, same rfl, same rfl, same rfl, same rfl, trivial⟩ (.cons (s := 3) rfl (CLe.refl _ _) rfl (.cons (s := 6) rfl (CLe.refl _ _) rfl (.cons (s := 7) rfl (CLe.refl _ _) rfl (.cons (s := 2064) rfl (CLe.refl _ _) rfl .nil)))); (· (exact hx.yes hj2 hm hbt)); (· ((try dsimp only) <;> omega))) | (refine Kloop.nextP (j + 1, (q : Int)) ?_ ?_ ⟨same rfl, same (by rw [← w64_nat (k := j) (by omega)]; rfl), trivial⟩ ⟨same rfl, same rfl, same rfl, same rfl, same rfl, same rfl, trivial⟩ (.cons (s := 3) rfl (CLe.refl _ _) rfl (.cons (s := 6) rfl (CLe.refl _ _) rfl (.cons (s := 7) rfl (CLe.refl _ _) rfl (.cons (s := 2064) rfl (CLe.refl _ _) rfl .nil)))); (· (exact hx.no hj2 hm hbn2)); (· ((try dsimp only) <;> omega)))
                    · skip
                      (first | have eg99 := of_decide_eq_true g99 | have eg99 := of_decide_eq_false g99 | have eg99 := ndec_t g99 | have eg99 := ndec_f g99 | skip)
                      have hb1 : ¬ (lat G q).p.d.n < (lat G j).p.d.n := eg99
                      first | (refine WS.take rfl (by rfl) (by rfl) (q_fieldAddr (by rfl)) ?_) | (refine WS.take rfl (by rfl) (by rfl) (q_fieldAddr_rop (by rfl) (by rfl)) ?_) | (refine WS.take rfl (by rfl) (by rfl) (q_fieldAddr_pel (by rfl)) ?_)
                      first | (refine WS.take rfl (by rfl) (by rfl) (q_fieldAddr (by rfl)) ?_) | (refine WS.take rfl (by rfl) (by rfl) (q_fieldAddr_rop (by rfl) (by rfl)) ?_) | (refine WS.take rfl (by rfl) (by rfl) (q_fieldAddr_pel (by rfl)) ?_)
                      first | (refine WS.take rfl (by rfl) (by rfl) (q_load (by rfl) (by rfl) (by rfl)) ?_) | (refine WS.take rfl (by rfl) (by rfl) (q_load_rop (by rfl) (by rfl)) ?_) | (refine WS.take rfl (by rfl) (by rfl) (q_load_pel (by rfl) (by rfl) ?_ (by rfl)) ?_; (· (omega)))
                      refine WS.take rfl (by rfl) (by rfl) (q_move (by rfl)) ?_
                      refine WS.take rfl (by rfl) (by rfl) (q_move (by rfl)) ?_
                      first | (refine WS.take rfl (by rfl) (by rfl) (q_indexAddr_ros (by rfl) (by rfl) (by intro _; rfl) ?_ ?_) ?_; (· (omega)); (· (omega))) | (refine WS.take rfl (by rfl) (by rfl) (q_indexAddr_sl (by rfl) (by rfl) ?_ ?_) ?_; (· (omega)); (· (omega))) | (refine WS.take rfl (by rfl) (by rfl) (q_indexAddr_arr (by rfl) (by rfl) ?_ ?_) ?_; (· (omega)); (· (omega)))
                      first | (refine WS.take rfl (by rfl) (by rfl) (q_fieldAddr (by rfl)) ?_) | (refine WS.take rfl (by rfl) (by rfl) (q_fieldAddr_rop (by rfl) (by rfl)) ?_) | (refine WS.take rfl (by rfl) (by rfl) (q_fieldAddr_pel (by rfl)) ?_)
                      first | (refine WS.take rfl (by rfl) (by rfl) (q_fieldAddr (by rfl)) ?_) | (refine WS.take rfl (by rfl) (by rfl) (q_fieldAddr_rop (by rfl) (by rfl)) ?_) | (refine WS.take rfl (by rfl) (by rfl) (q_fieldAddr_pel (by rfl)) ?_)
                      first | (refine WS.take rfl (by rfl) (by rfl) (q_fieldAddr (by rfl)) ?_) | (refine WS.take rfl (by rfl) (by rfl) (q_fieldAddr_rop (by rfl) (by rfl)) ?_) | (refine WS.take rfl (by rfl) (by rfl) (q_fieldAddr_pel (by rfl)) ?_)
                      first | (refine WS.take rfl (by rfl) (by rfl) (q_load (by rfl) (by rfl) (by rfl)) ?_) | (refine WS.take rfl (by rfl) (by rfl) (q_load_rop (by rfl) (by rfl)) ?_) | (refine WS.take rfl (by rfl) (by rfl) (q_load_pel (by rfl) (by rfl) ?_ (by rfl)) ?_; (· (omega)))
                      refine WS.set 109 (iV (lat G q).p.d.n) (by rfl) (by rw [Nat.zero_add, Int.toNat_natCast]) ?_
                      first | (refine WS.take rfl (by rfl) (by rfl) (q_int (by rfl) (by rfl) (by rfl)) ?_) | (refine WS.take rfl (by rfl) (by rfl) (q_eqb (by rfl) (by rfl)) ?_) | (refine WS.take rfl (by rfl) (by rfl) (q_eqp rfl rfl (by rfl) (by rfl) ?_) ?_; (· (rfl))) | (refine WS.take rfl (by rfl) (by rfl) (q_eqs (by rfl) (by rfl)) ?_)
                      refine WS.take rfl (by rfl) (by rfl) (q_move (by rfl)) ?_
                      refine WS.split 111 (by rfl) (fun g111 => ?_) (fun g111 => ?_)
                      · skip
                        (first | have eg111 := of_decide_eq_true g111 | have eg111 := of_decide_eq_false g111 | have eg111 := ndec_t g111 | have eg111 := ndec_f g111 | skip)
                        first | (refine WS.take rfl (by rfl) (by rfl) (q_fieldAddr (by rfl)) ?_) | (refine WS.take rfl (by rfl) (by rfl) (q_fieldAddr_rop (by rfl) (by rfl)) ?_) | (refine WS.take rfl (by rfl) (by rfl) (q_fieldAddr_pel (by rfl)) ?_)
                        first | (refine WS.take rfl (by rfl) (by rfl) (q_fieldAddr (by rfl)) ?_) | (refine WS.take rfl (by rfl) (by rfl) (q_fieldAddr_rop (by rfl) (by rfl)) ?_) | (refine WS.take rfl (by rfl) (by rfl) (q_fieldAddr_pel (by rfl)) ?_)
                        first | (refine WS.take rfl (by rfl) (by rfl) (q_load (by rfl) (by rfl) (by rfl)) ?_) | (refine WS.take rfl (by rfl) (by rfl) (q_load_rop (by rfl) (by rfl)) ?_) | (refine WS.take rfl (by rfl) (by rfl) (q_load_pel (by rfl) (by rfl) ?_ (by rfl)) ?_; (· (omega)))
                        refine WS.take rfl (by rfl) (by rfl) (q_move (by rfl)) ?_
                        refine WS.take rfl (by rfl) (by rfl) (q_move (by rfl)) ?_
                        first | (refine WS.take rfl (by rfl) (by rfl) (q_indexAddr_ros (by rfl) (by rfl) (by intro _; rfl) ?_ ?_) ?_; (· (omega)); (· (omega))) | (refine WS.take rfl (by rfl) (by rfl) (q_indexAddr_sl (by rfl) (by rfl) ?_ ?_) ?_; (· (omega)); (· (omega))) | (refine WS.take rfl (by rfl) (by rfl) (q_indexAddr_arr (by rfl) (by rfl) ?_ ?_) ?_; (· (omega)); (· (omega)))
                        first | (refine WS.take rfl (by rfl) (by rfl) (q_fieldAddr (by rfl)) ?_) | (refine WS.take rfl (by rfl) (by rfl) (q_fieldAddr_rop (by rfl) (by rfl)) ?_) | (refine WS.take rfl (by rfl) (by rfl) (q_fieldAddr_pel (by rfl)) ?_)
                        first | (refine WS.take rfl (by rfl) (by rfl) (q_fieldAddr (by rfl)) ?_) | (refine WS.take rfl (by rfl) (by rfl) (q_fieldAddr_rop (by rfl) (by rfl)) ?_) | (refine WS.take rfl (by rfl) (by rfl) (q_fieldAddr_pel (by rfl)) ?_)
                        first | (refine WS.take rfl (by rfl) (by rfl) (q_fieldAddr (by rfl)) ?_) | (refine WS.take rfl (by rfl) (by rfl) (q_fieldAddr_rop (by rfl) (by rfl)) ?_) | (refine WS.take rfl (by rfl) (by rfl) (q_fieldAddr_pel (by rfl)) ?_)
                        first | (refine WS.take rfl (by rfl) (by rfl) (q_load (by rfl) (by rfl) (by rfl)) ?_) | (refine WS.take rfl (by rfl) (by rfl) (q_load_rop (by rfl) (by rfl)) ?_) | (refine WS.take rfl (by rfl) (by rfl) (q_load_pel (by rfl) (by rfl) ?_ (by rfl)) ?_; (· (omega)))
                        refine WS.set 121 (iV (lat G q).p.s.n) (by rfl) (by rw [Nat.zero_add, Int.toNat_natCast]) ?_
                        refine WS.take rfl (by rfl) (by rfl) (q_int (by rfl) (by rfl) (by rfl)) ?_
                        refine WS.take rfl (by rfl) (by rfl) (q_pick_t (by rfl) (by rfl)) ?_
                        refine WS.take rfl (by rfl) (by rfl) (q_pick_f (by rfl) (by rfl)) ?_
                        refine WS.nil ?_
                        (repeat refine J.seq ?_)
                        refine J.cond (by rfl) (fun c124 => ?_) (fun c124 => ?_)
                        · skip
                          (first | have e124 := of_decide_eq_true c124 | have e124 := of_decide_eq_false c124 | have e124 := ndec_t c124 | have e124 := ndec_f c124 | skip)
                          (first | (have hbt : better (lat G j) (lat G q) := .inr ⟨eg111, e124⟩) | skip)
                          (repeat refine J.seq ?_)
                          refine J.region ?_
                          refine WL.yes (by rfl) (Ex.q (q_move (by rfl)) (by rfl) ?_)
                          refine WL.yes (by rfl) (Ex.q (q_assign (by rfl)) (by rfl) ?_)
                          refine WL.nil ?_
                          (repeat refine J.seq ?_)
                          refine J.region ?_
                          refine WL.yes (by rfl) (Ex.q (q_move (by rfl)) (by rfl) ?_)
                          refine WL.yes (by rfl) (Ex.q (q_int (by rfl) (by rfl) (by rfl)) (by rfl) ?_)
                          refine WL.yes (by rfl) (Ex.q (q_assign (by rfl)) (by rfl) ?_)
                          refine WL.nil ?_
                          first | (refine Kloop.nextP (j + 1, bi) ?_ ?_ ⟨same rfl, same (by rw [← w64_nat (k := j) (by omega)]; rfl), trivial⟩ ⟨same rfl, same rfl, same rfl, same rfl, same rfl, same rfl, trivial⟩ (.cons (s := 3) rfl (CLe.refl _ _) rfl (.cons (s := 6) rfl (CLe.refl _ _) rfl (.cons (s := 7) rfl (CLe.refl _ _) rfl (.cons (s := 2064) rfl (CLe.refl _ _) rfl .nil)))); (· (exact hx.skip hj2 h0)); (· ((try dsimp only) <;> omega))) | (refine Kloop.nextP (j + 1, (j : Int)) ?_ ?_ ⟨same rfl, same (by rw [← w64_nat (k := j) (by omega)]; rfl), trivial⟩ ⟨same rfl, same rfl, same rfl, same rfl, same rfl, same rfl, trivial⟩ (.cons (s := 3) rfl (CLe.refl _ _) rfl (.cons (s := 6) rfl (CLe.refl _ _) rfl (.cons (s := 7) rfl (CLe.refl _ _) rfl (.cons (s := 2064) rfl (CLe.refl _ _) rfl .nil)))); (· (exact hx.first hj2 hm (by omega))); (· ((try dsimp only) <;> omega))) | (refine Kloop.nextP (j + 1, (j : Int)) ?_ ?_ ⟨same rfl, same (by rw [← w64_nat (k := j) (by omega)]; rfl), trivial⟩ ⟨same rfl, same rfl, same rfl, same rfl, same rfl, same rfl, trivial⟩ (.cons (s := 3) rfl (CLe.refl _ _) rfl (.cons (s := 6) rfl (CLe.refl _ _) rfl (.cons (s := 7) rfl (CLe.refl _ _) rfl (.cons (s := 2064) rfl (CLe.refl _ _) rfl .nil)))); (· (exact hx.yes hj2 hm hbt)); (· ((try dsimp only) <;> omega))) | (refine Kloop.nextP (j + 1, (q : Int)) ?_ ?_ ⟨same rfl, same (by rw [← w64_nat (k := j) (by omega)]; rfl), trivial⟩ ⟨same rfl, same rfl, same rfl, same rfl, same rfl, same rfl, trivial⟩ (.cons (s := 3) rfl (CLe.refl _ _) rfl (.cons (s := 6) rfl (CLe.refl _ _) rfl (.cons (s := 7) rfl (CLe.refl _ _) rfl (.cons (s := 2064) rfl (CLe.refl _ _) rfl .nil)))); (· (exact hx.no hj2 hm hbn2)); (· ((try dsimp only) <;> omega)))
                        · skip
                          (first | have e124 := of_decide_eq_true c124 | have e124 := of_decide_eq_false c124 | have e124 := ndec_t c124 | have e124 := ndec_f c124 | skip)
                          (first | (have hbn2 : ¬ better (lat G j) (lat G q) := fun x => x.elim hb1 (fun y => e124 y.2)) | skip)
                          (repeat refine J.seq ?_)
                          refine J.skip ?_
                          (repeat refine J.seq ?_)
                          refine J.region ?_
                          refine WL.yes (by rfl) (Ex.q (q_move (by rfl)) (by rfl) ?_)
                          refine WL.yes (by rfl) (Ex.q (q_int (by rfl) (by rfl) (by rfl)) (by rfl) ?_)
                          refine WL.yes (by rfl) (Ex.q (q_assign (by rfl)) (by rfl) ?_)
                          refine WL.nil ?_
                          first | (refine Kloop.nextP (j + 1, bi) ?_ ?_ ⟨same rfl, same (by rw [← w64_nat (k := j) (by omega)]; rfl), trivial⟩ ⟨same rfl, same rfl, same rfl, same rfl, same rfl, same rfl, trivial⟩ (.cons (s := 3) rfl (CLe.refl _ _) rfl (.cons (s := 6) rfl (CLe.refl _ _) rfl (.cons (s := 7) rfl (CLe.refl _ _) rfl (.cons (s := 2064) rfl (CLe.refl _ _) rfl .nil)))); (· (exact hx.skip hj2 h0)); (· ((try dsimp only) <;> omega))) | (refine Kloop.nextP (j + 1, (j : Int)) ?_ ?_ ⟨same rfl, same (by rw [← w64_nat (k := j) (by omega)]; rfl), trivial⟩ ⟨same rfl, same rfl, same rfl, same rfl, same rfl, same rfl, trivial⟩ (.cons (s := 3) rfl (CLe.refl _ _) rfl (.cons (s := 6) rfl (CLe.refl _ _) rfl (.cons (s := 7) rfl (CLe.refl _ _) rfl (.cons (s := 2064) rfl (CLe.refl _ _) rfl .nil)))); (· (exact hx.first hj2 hm (by omega))); (· ((try dsimp only) <;> omega))) | (refine Kloop.nextP (j + 1, (j : Int)) ?_ ?_ ⟨same rfl, same (by rw [← w64_nat (k := j) (by omega)]; rfl), trivial⟩ ⟨same rfl, same rfl, same rfl, same rfl, same rfl, same rfl, trivial⟩ (.cons (s := 3) rfl (CLe.refl _ _) rfl (.cons (s := 6) rfl (CLe.refl _ _) rfl (.cons (s := 7) rfl (CLe.refl _ _) rfl (.cons (s := 2064) rfl (CLe.refl _ _) rfl .nil)))); (· (exact hx.yes hj2 hm hbt)); (· ((try dsimp only) <;> omega))) | (refine Kloop.nextP (j + 1, (q : Int)) ?_ ?_ ⟨same rfl, same (by rw [← w64_nat (k := j) (by omega)]; rfl), trivial⟩ ⟨same rfl, same rfl, same rfl, same rfl, same rfl, same rfl, trivial⟩ (.cons (s := 3) rfl (CLe.refl _ _) rfl (.cons (s := 6) rfl (CLe.refl _ _) rfl (.cons (s := 7) rfl (CLe.refl _ _) rfl (.cons (s := 2064) rfl (CLe.refl _ _) rfl .nil)))); (· (exact hx.no hj2 hm hbn2)); (· ((try dsimp only) <;> omega)))
                      · skip
                        (first | have eg111 := of_decide_eq_true g111 | have eg111 := of_decide_eq_false g111 | have eg111 := ndec_t g111 | have eg111 := ndec_f g111 | skip)
                        have hbn2 : ¬ better (lat G j) (lat G q) := fun x => x.elim hb1 (fun y => eg111 y.1)
                        refine WS.takeNo rfl (by rfl) (by rfl) ?_
                        refine WS.takeNo rfl (by rfl) (by rfl) ?_
                        refine WS.takeNo rfl (by rfl) (by rfl) ?_
                        refine WS.takeNo rfl (by rfl) (by rfl) ?_
                        refine WS.takeNo rfl (by rfl) (by rfl) ?_
                        refine WS.takeNo rfl (by rfl) (by rfl) ?_
                        refine WS.takeNo rfl (by rfl) (by rfl) ?_
                        refine WS.takeNo rfl (by rfl) (by rfl) ?_
                        refine WS.takeNo rfl (by rfl) (by rfl) ?_
                        refine WS.takeNo rfl (by rfl) (by rfl) ?_
                        refine WS.takeNo rfl (by rfl) (by rfl) ?_
                        refine WS.take rfl (by rfl) (by rfl) (q_pick_f (by rfl) (by rfl)) ?_
                        refine WS.take rfl (by rfl) (by rfl) (q_pick_f (by rfl) (by rfl)) ?_
                        refine WS.nil ?_
                        (repeat refine J.seq ?_)
                        refine J.condF (by rfl) ?_
                        (repeat refine J.seq ?_)
                        refine J.skip ?_
                        (repeat refine J.seq ?_)
                        refine J.region ?_
                        refine WL.yes (by rfl) (Ex.q (q_move (by rfl)) (by rfl) ?_)
                        refine WL.yes (by rfl) (Ex.q (q_int (by rfl) (by rfl) (by rfl)) (by rfl) ?_)
                        refine WL.yes (by rfl) (Ex.q (q_assign (by rfl)) (by rfl) ?_)
                        refine WL.nil ?_
                        first | (refine Kloop.nextP (j + 1, bi) ?_ ?_ ⟨same rfl, same (by rw [← w64_nat (k := j) (by omega)]; rfl), trivial⟩ ⟨same rfl, same rfl, same rfl, same rfl, same rfl, same rfl, trivial⟩ (.cons (s := 3) rfl (CLe.refl _ _) rfl (.cons (s := 6) rfl (CLe.refl _ _) rfl (.cons (s := 7) rfl (CLe.refl _ _) rfl (.cons (s := 2064) rfl (CLe.refl _ _) rfl .nil)))); (· (exact hx.skip hj2 h0)); (· ((try dsimp only) <;> omega))) | (refine Kloop.nextP (j + 1, (j : Int)) ?_ ?_ ⟨same rfl, same (by rw [← w64_nat (k := j) (by omega)]; rfl), trivial⟩ ⟨same rfl, same rfl, same rfl, same rfl, same rfl, same rfl, trivial⟩ (.cons (s := 3) rfl (CLe.refl _ _) rfl (.cons (s := 6) rfl (CLe.refl _ _) rfl (.cons (s := 7) rfl (CLe.refl _ _) rfl (.cons (s := 2064) rfl (CLe.refl _ _) rfl .nil)))); (· (exact hx.first hj2 hm (by omega))); (· ((try dsimp only) <;> omega))) | (refine Kloop.nextP (j + 1, (j : Int)) ?_ ?_ ⟨same rfl, same (by rw [← w64_nat (k := j) (by omega)]; rfl), trivial⟩ ⟨same rfl, same rfl, same rfl, same rfl, same rfl, same rfl, trivial⟩ (.cons (s := 3) rfl (CLe.refl _ _) rfl (.cons (s := 6) rfl (CLe.refl _ _) rfl (.cons (s := 7) rfl (CLe.refl _ _) rfl (.cons (s := 2064) rfl (CLe.refl _ _) rfl .nil)))); (· (exact hx.yes hj2 hm hbt)); (· ((try dsimp only) <;> omega))) | (refine Kloop.nextP (j + 1, (q : Int)) ?_ ?_ ⟨same rfl, same (by rw [← w64_nat (k := j) (by omega)]; rfl), trivial⟩ ⟨same rfl, same rfl, same rfl, same rfl, same rfl, same rfl, trivial⟩ (.cons (s := 3) rfl (CLe.refl _ _) rfl (.cons (s := 6) rfl (CLe.refl _ _) rfl (.cons (s := 7) rfl (CLe.refl _ _) rfl (.cons (s := 2064) rfl (CLe.refl _ _) rfl .nil)))); (· (exact hx.no hj2 hm hbn2)); (· ((try dsimp only) <;> omega)))
          · skip
            (first | have e56 := of_decide_eq_true c56 | have e56 := of_decide_eq_false c56 | have e56 := ndec_t c56 | have e56 := ndec_f c56 | skip)
            (repeat refine J.seq ?_)
            refine J.exit ?_
            (repeat refine J.seq ?_)
            have hjn : j = G.length := by omega
            subst hjn
            obtain ⟨q, hq, hq2, hqb⟩ := hx.fin hky (mtch_self hG hix hky hpc)
            subst hq
            refine J.draw [6, 7, 2064] 9999 [(0, true), (1, true), (2, true), (3, true), (4, true), (5, true), (6, true), (7, true), (8, true), (9, true), (10, true), (11, true), (12, true), (13, true), (14, true), (15, false), (16, true)] (by kernel_rfl) rfl (by kernel_rfl) ?_
            intro F5 hF5
            refine WS.take rfl (by rfl) (by rfl) (q_move (by rfl)) ?_
            first | (refine WS.take rfl (by rfl) (by rfl) (q_load (by rfl) (by rfl) (by rfl)) ?_) | (refine WS.take rfl (by rfl) (by rfl) (q_load_rop (by rfl) (by rfl)) ?_) | (refine WS.take rfl (by rfl) (by rfl) (q_load_pel (by rfl) (by rfl) ?_ (by rfl)) ?_; (· (omega)))
            first | (refine WS.take rfl (by rfl) (by rfl) (q_load (by rfl) (by rfl) (by rfl)) ?_) | (refine WS.take rfl (by rfl) (by rfl) (q_load_rop (by rfl) (by rfl)) ?_) | (refine WS.take rfl (by rfl) (by rfl) (q_load_pel (by rfl) (by rfl) ?_ (by rfl)) ?_; (· (omega)))
            refine WS.take rfl (by rfl) (by rfl) (q_build (parts := [(0, .tmp 127), (1, .tmp 128)]) (by rfl) (by rfl)) ?_
            refine WS.take rfl (by rfl) (by rfl) (q_move (by rfl)) ?_
            refine WS.take rfl (by rfl) (by rfl) (q_move (by rfl)) ?_
            first | (refine WS.take rfl (by rfl) (by rfl) (q_indexAddr_ros (by rfl) (by rfl) (by intro _; rfl) ?_ ?_) ?_; (· (omega)); (· (omega))) | (refine WS.take rfl (by rfl) (by rfl) (q_indexAddr_sl (by rfl) (by rfl) ?_ ?_) ?_; (· (omega)); (· (omega))) | (refine WS.take rfl (by rfl) (by rfl) (q_indexAddr_arr (by rfl) (by rfl) ?_ ?_) ?_; (· (omega)); (· (omega)))
            first | (refine WS.take rfl (by rfl) (by rfl) (q_fieldAddr (by rfl)) ?_) | (refine WS.take rfl (by rfl) (by rfl) (q_fieldAddr_rop (by rfl) (by rfl)) ?_) | (refine WS.take rfl (by rfl) (by rfl) (q_fieldAddr_pel (by rfl)) ?_)
            first | (refine WS.take rfl (by rfl) (by rfl) (q_load (by rfl) (by rfl) (by rfl)) ?_) | (refine WS.take rfl (by rfl) (by rfl) (q_load_rop (by rfl) (by rfl)) ?_) | (refine WS.take rfl (by rfl) (by rfl) (q_load_pel (by rfl) (by rfl) ?_ (by rfl)) ?_; (· (omega)))
            refine WS.set 134 (iV (bestL ⟨(lat G i).p.d, (lat G k).p.s⟩ G).i) (by rfl) (by rw [hqb, Nat.zero_add, Int.toNat_natCast]) ?_
            refine WS.take rfl (by rfl) (by rfl) (q_move (by rfl)) ?_
            refine WS.take rfl (by rfl) (by rfl) (q_move (by rfl)) ?_
            first | (refine WS.take rfl (by rfl) (by rfl) (q_indexAddr_ros (by rfl) (by rfl) (by intro _; rfl) ?_ ?_) ?_; (· (omega)); (· (omega))) | (refine WS.take rfl (by rfl) (by rfl) (q_indexAddr_sl (by rfl) (by rfl) ?_ ?_) ?_; (· (omega)); (· (omega))) | (refine WS.take rfl (by rfl) (by rfl) (q_indexAddr_arr (by rfl) (by rfl) ?_ ?_) ?_; (· (omega)); (· (omega)))
            first | (refine WS.take rfl (by rfl) (by rfl) (q_fieldAddr (by rfl)) ?_) | (refine WS.take rfl (by rfl) (by rfl) (q_fieldAddr_rop (by rfl) (by rfl)) ?_) | (refine WS.take rfl (by rfl) (by rfl) (q_fieldAddr_pel (by rfl)) ?_)
            first | (refine WS.take rfl (by rfl) (by rfl) (q_load (by rfl) (by rfl) (by rfl)) ?_) | (refine WS.take rfl (by rfl) (by rfl) (q_load_rop (by rfl) (by rfl)) ?_) | (refine WS.take rfl (by rfl) (by rfl) (q_load_pel (by rfl) (by rfl) ?_ (by rfl)) ?_; (· (omega)))
            refine WS.set 139 (adV (bestL ⟨(lat G i).p.d, (lat G k).p.s⟩ G).h) (by rfl) (by rw [hqb, Nat.zero_add, Int.toNat_natCast]) ?_
            refine WS.take rfl (by rfl) (by rfl) (q_build (parts := [(0, .tmp 129), (1, .tmp 134), (2, .tmp 139)]) (by rfl) (by rfl)) ?_
            refine WS.ex rfl (by rfl) (Ex.callz _ [] [] (put_spec (l := ((G.take k).foldl (pstep G (lat G i)) ((G.take i).foldl (xstep G) []))) (e := mkE G (lat G i) (lat G k)) ?_ ?_ ?_) (by rfl) (by rfl) (.cons (.sla (by rfl)) (.cons (.same _) .nil)) (fun t c hg => by simp [get] at hg) plain_put ?_); (· (exact pf_bound hGl hi2 (by omega))); (· (exact hPo.toTOk)); (· (exact hEo))
            rintro _ _ ⟨a141, cap141, rfl, rfl⟩
            refine WS.take rfl (by rfl) (by rfl) (q_assign (by rfl)) ?_
            refine WS.nil ?_
            (repeat refine J.seq ?_)
            refine J.region ?_
            refine WL.yes (by rfl) (Ex.q (q_move (by rfl)) (by rfl) ?_)
            refine WL.yes (by rfl) (Ex.q (q_int (by rfl) (by rfl) (by rfl)) (by rfl) ?_)
            refine WL.yes (by rfl) (Ex.q (q_assign (by rfl)) (by rfl) ?_)
            refine WL.nil ?_
            first | ((have hs1 := pfold_step (x := lat G i) (out := ((G.take i).foldl (xstep G) [])) hk2; rw [pstep_yes hpc] at hs1); refine Kloop.nextP (k + 1, a141, cap141) ?_ ?_ ⟨⟨_, rfl, by rw [hs1]; cases a141 <;> rfl, fun _ => trivial⟩, same (by rw [← w64_nat (k := k) (by omega)]; rfl), trivial⟩ ⟨same rfl, same rfl, trivial⟩ (.cons (s := 2044) rfl (by rw [hs1]; exact CLe.refl _ _) rfl (.cons (s := 2064) rfl (CLe.refl _ _) rfl .nil)); (· ((try dsimp only) <;> omega)); (· ((try dsimp only) <;> omega))) | ((have hs1 := pfold_step (x := lat G i) (out := ((G.take i).foldl (xstep G) [])) hk2; rw [hno] at hs1); refine Kloop.nextP (k + 1, a3p, c3p) ?_ ?_ ⟨⟨_, rfl, by rw [hs1], fun _ => trivial⟩, same (by rw [← w64_nat (k := k) (by omega)]; rfl), trivial⟩ ⟨same rfl, same rfl, trivial⟩ (.cons (s := 3) rfl (by rw [hs1]; exact CLe.refl _ _) rfl (.cons (s := 2064) rfl (CLe.refl _ _) rfl .nil)); (· ((try dsimp only) <;> omega)); (· ((try dsimp only) <;> omega)))
    · skip
      (first | have e22 := of_decide_eq_true c22 | have e22 := of_decide_eq_false c22 | have e22 := ndec_t c22 | have e22 := ndec_f c22 | skip)
      (repeat refine J.seq ?_)
      refine J.exit ?_
      (repeat refine J.seq ?_)
      have hkn : G.take k = G := List.take_of_length_le (by omega)
      have hxs := xfold_step hi2
      rw [hkn]
      refine J.region ?_
      refine WL.yes (by rfl) (Ex.q (q_move (by rfl)) (by rfl) ?_)
      refine WL.yes (by rfl) (Ex.q (q_int (by rfl) (by rfl) (by rfl)) (by rfl) ?_)
      refine WL.yes (by rfl) (Ex.q (q_assign (by rfl)) (by rfl) ?_)
      refine WL.nil ?_
      refine Kloop.nextP (i + 1, a3p, c3p) ?_ ?_ ⟨⟨_, rfl, by rw [hxs], fun _ => trivial⟩, same (by rw [← w64_nat (k := i) (by omega)]; rfl), trivial⟩ ⟨same rfl, trivial⟩ (.cons (s := 3) rfl (by rw [hxs]; exact CLe.refl _ _) rfl (.cons (s := 2064) rfl (CLe.refl _ _) rfl .nil))
      · ((try dsimp only) <;> omega)
      · ((try dsimp only) <;> omega)
  · skip
    (first | have e16 := of_decide_eq_true c16 | have e16 := of_decide_eq_false c16 | have e16 := ndec_t c16 | have e16 := ndec_f c16 | skip)
    (repeat refine J.seq ?_)
    refine J.exit ?_
    (repeat refine J.seq ?_)
    have hin : G.take i = G := List.take_of_length_le (by omega)
    rw [hin]
    refine J.region ?_
    refine WL.yes (by rfl) (Ex.q (q_move (by rfl)) (by rfl) ?_)
    refine WL.yes (by rfl) (Ex.q (q_assign (by rfl)) (by rfl) ?_)
    refine WL.nil ?_
    (repeat refine J.seq ?_)
    refine J.ret ?_
    (repeat (with_reducible first | refine Kseq.ret ?_ | refine Kblock.ret ?_ | refine Kloop.ret ?_ | refine Kcut.ret ?_))
    have hE : expandL l = expG G := by rw [hGe]; rfl
    rw [hE]
    refine Kret.mk2 (vs := [_]) (.sl 2027 a3 51 0 c3 (expG G).length) [(2027, lvec a3 37 51 c3 enE (expG G))] (.tmp (by rfl) .nil) (by rfl) trivial (by cases a3 <;> rfl) (fun _ _ => trivial) (HLe.sub (.cons (s := 3) rfl (CLe.refl _ _) rfl .nil)) ⟨_, _, rfl, rfl⟩

end Go.Vm
