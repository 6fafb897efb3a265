/- Clean, best, Expand: the walks. -/
import Derived.Test.YtimkkhefemnkpaaG1
namespace Go.Vm
open Go Go.Proofs

theorem plain_clean {l : List En} : ∀ (r : V) (H' : List (Nat × Cell)), (∃ a' cap', r = V.sl 2064 a' 51 0 cap' l.length ∧ H' = [(2064, lvec a' 37 51 cap' enE l)]) → Plain r H' := by
  rintro r H' ⟨a, cap, rfl, rfl⟩
  exact plain_enl fun _ => trivial
theorem mtch_c1 {p : Pr} {e : En} (h : covers e.p.d.a e.p.d.n p.d.a p.d.n = false) : mtch p e = false := by unfold mtch; rw [h]; rfl
theorem mtch_c2 {p : Pr} {e : En} (h1 : covers e.p.d.a e.p.d.n p.d.a p.d.n = true) (h : covers e.p.s.a e.p.s.n p.s.a p.s.n = false) : mtch p e = false := by unfold mtch; rw [h1, h]; rfl
theorem mtch_c3 {p : Pr} {e : En} (h1 : covers e.p.d.a e.p.d.n p.d.a p.d.n = true) (h2 : covers e.p.s.a e.p.s.n p.s.a p.s.n = true) (h : ¬ famP e.p.d.a e.p.d.n = famP p.d.a p.d.n) : mtch p e = false := by unfold mtch; rw [h1, h2, decide_eq_false h]; rfl
theorem mtch_yes {p : Pr} {e : En} (h1 : covers e.p.d.a e.p.d.n p.d.a p.d.n = true) (h2 : covers e.p.s.a e.p.s.n p.s.a p.s.n = true) (h : famP e.p.d.a e.p.d.n = famP p.d.a p.d.n) : mtch p e = true := by unfold mtch; rw [h1, h2, decide_eq_true h]; rfl
theorem okR_rng {p : Pr} (h : okR p = true) : 0 ≤ p.d.n ∧ p.d.n ≤ 128 ∧ 0 ≤ p.s.n ∧ p.s.n ≤ 128 := by
  have := okpair_iff.1 h
  have h1 := okp_rng this.1
  have h2 := okp_rng this.2.1
  omega
theorem best_rng {p : Pr} {l : List En} (h : ∀ e ∈ l, okR e.p = true) : 0 ≤ (bestL p l).p.d.n ∧ (bestL p l).p.d.n ≤ 128 := by
  unfold bestL
  rcases best_spec p l with ⟨h1, _⟩ | ⟨b, h1, h2, _⟩
  · rw [h1]; decide
  · rw [h1]; have := okR_rng (h b h2); exact ⟨this.1, this.2.1⟩

set_option maxHeartbeats 16000000 in
set_option maxRecDepth 100000 in
theorem clean_spec {a : Option Addr} {cap : Nat} {l : List En} (ho : ∀ e ∈ l, e.ok) (hl : l.length ≤ 1000) : Spec Try.prog 64 [lros a cap enE l] [] (fun r H' => ∃ a' cap', r = .sl 2064 a' 51 0 cap' (cleanL l).length ∧ H' = [(2064, lvec a' 37 51 cap' enE (cleanL l))]) := by
  refine Spec.of_J Try.func64 rfl Try.ntmps64 Try.results64 rfl ?_
  intro A F hAF
  (repeat refine J.seq ?_)
  refine J.region ?_
  refine WL.yes (by rfl) (Ex.q (q_assign (by rfl)) (by rfl) ?_)
  refine WL.nil ?_
  (repeat refine J.seq ?_)
  refine J.region ?_
  refine WL.yes (by rfl) (Ex.q (q_assign (by rfl)) (by rfl) ?_)
  refine WL.nil ?_
  (repeat refine J.seq ?_)
  refine J.region ?_
  refine WL.yes (by rfl) (Ex.q (q_assign (by rfl)) (by rfl) ?_)
  refine WL.nil ?_
  (repeat refine J.seq ?_)
  refine J.block ?_
  (repeat refine J.seq ?_)
  refine J.loopP (fun x : Nat × Option Nat × Nat => x.1 ≤ l.length) (fun x => [(3, .sl 3 x.2.1 51 0 x.2.2 (cleanL (l.take x.1)).length), (4, iV x.1)]) (fun x => [(3, lvec x.2.1 37 51 x.2.2 enE (cleanL (l.take x.1)))]) (fun x => l.length - x.1) (0, none, 0) [(0, _)] [] ⟨same rfl, trivial⟩ ⟨⟨_, rfl, rfl, fun _ => trivial⟩, same rfl, trivial⟩ (.non .nil) ?_ ?_
  · (exact Nat.zero_le _)
  rintro ⟨k, a3, c3⟩ hx
  (try dsimp only at hx)
  (try dsimp only)
  (repeat refine J.seq ?_)
  refine J.region ?_
  refine WL.yes (by rfl) (Ex.q (q_move (by rfl)) (by rfl) ?_)
  refine WL.yes (by rfl) (Ex.q (q_move (by rfl)) (by rfl) ?_)
  first | (refine WL.yes (by rfl) (Ex.q (q_len_slice (by rfl) (by rfl)) (by rfl) ?_)) | (refine WL.yes (by rfl) (Ex.q (q_len_string (by rfl)) (by rfl) ?_))
  refine WL.yes (by rfl) (Ex.q (q_int (by rfl) (by rfl) (by rfl)) (by rfl) ?_)
  refine WL.nil ?_
  (repeat refine J.seq ?_)
  refine J.cond (by rfl) (fun c8 => ?_) (fun c8 => ?_)
  · skip
    (first | have e8 := of_decide_eq_true c8 | have e8 := of_decide_eq_false c8 | have e8 := ndec_t c8 | have e8 := ndec_f c8 | skip)
    (repeat refine J.seq ?_)
    refine J.skip ?_
    (repeat refine J.seq ?_)
    refine J.block ?_
    (repeat refine J.seq ?_)
    have hk2 : k < l.length := by omega
    have hk3 : (lat l k).ok := lat_ok ho hk2
    have hG : GOk (cleanL (l.take k)) := clean_ok (fun x hx => ho x (List.take_subset _ _ hx))
    have hGl : (cleanL (l.take k)).length ≤ 1000 := by have := clean_len (l.take k); have := List.length_take_le k l; omega
    refine J.region ?_
    refine WL.yes (by rfl) (Ex.q (q_move (by rfl)) (by rfl) ?_)
    refine WL.yes (by rfl) (Ex.q (q_move (by rfl)) (by rfl) ?_)
    first | (refine WL.yes (by rfl) (Ex.q (q_indexAddr_ros (by rfl) (by rfl) (by intro _; rfl) ?_ ?_) (by rfl) ?_); (· (omega)); (· (omega))) | (refine WL.yes (by rfl) (Ex.q (q_indexAddr_sl (by rfl) (by rfl) ?_ ?_) (by rfl) ?_); (· (omega)); (· (omega))) | (refine WL.yes (by rfl) (Ex.q (q_indexAddr_arr (by rfl) (by rfl) ?_ ?_) (by rfl) ?_); (· (omega)); (· (omega)))
    first | (refine WL.yes (by rfl) (Ex.q (q_fieldAddr (by rfl)) (by rfl) ?_)) | (refine WL.yes (by rfl) (Ex.q (q_fieldAddr_rop (by rfl) (by rfl)) (by rfl) ?_)) | (refine WL.yes (by rfl) (Ex.q (q_fieldAddr_pel (by rfl)) (by rfl) ?_))
    first | (refine WL.yes (by rfl) (Ex.h (h_load (by rfl) (by rfl) (by rfl)) (by rfl) ?_)) | (refine WL.yes (by rfl) (Ex.q (q_load (by rfl) (by rfl) (by rfl)) (by rfl) ?_)) | (refine WL.yes (by rfl) (Ex.q (q_load_rop (by rfl) (by rfl)) (by rfl) ?_)) | (refine WL.yes (by rfl) (Ex.h (h_load_pel (by rfl) (by rfl) ?_ (by rfl)) (by rfl) ?_); (· (omega))) | (refine WL.yes (by rfl) (Ex.q (q_load_pel (by rfl) (by rfl) ?_ (by rfl)) (by rfl) ?_); (· (omega)))
    refine WL.yes (by rfl) (Ex.callq (checkPairR_spec _ _ ?_ ?_) (by rfl) (by rfl) rfl (fun _ h => h) ?_); (· (exact hk3.1.1)); (· (exact hk3.1.2))
    first | (refine WL.yes (by rfl) (Ex.q (q_int (by rfl) (by rfl) (by rfl)) (by rfl) ?_)) | (refine WL.yes (by rfl) (Ex.q (q_eqb (by rfl) (by rfl)) (by rfl) ?_)) | (refine WL.yes (by rfl) (Ex.q (q_eqp rfl rfl (by rfl) (by rfl) ?_) (by rfl) ?_); (· (rfl))) | (refine WL.yes (by rfl) (Ex.q (q_eqs (by rfl) (by rfl)) (by rfl) ?_))
    refine WL.yes (by rfl) (Ex.q (q_move (by rfl)) (by rfl) ?_)
    refine WL.split 18 (by rfl) (fun g18 => ?_) (fun g18 => ?_)
    · skip
      (first | have eg18 := of_decide_eq_true g18 | have eg18 := of_decide_eq_false g18 | have eg18 := ndec_t g18 | have eg18 := ndec_f g18 | skip)
      have h1 : okR (lat l k).p = true := okpair_of g18
      refine WL.yes (by rfl) (Ex.q (q_move (by rfl)) (by rfl) ?_)
      refine WL.yes (by rfl) (Ex.q (q_move (by rfl)) (by rfl) ?_)
      refine WL.yes (by rfl) (Ex.q (q_move (by rfl)) (by rfl) ?_)
      first | (refine WL.yes (by rfl) (Ex.q (q_indexAddr_ros (by rfl) (by rfl) (by intro _; rfl) ?_ ?_) (by rfl) ?_); (· (omega)); (· (omega))) | (refine WL.yes (by rfl) (Ex.q (q_indexAddr_sl (by rfl) (by rfl) ?_ ?_) (by rfl) ?_); (· (omega)); (· (omega))) | (refine WL.yes (by rfl) (Ex.q (q_indexAddr_arr (by rfl) (by rfl) ?_ ?_) (by rfl) ?_); (· (omega)); (· (omega)))
      first | (refine WL.yes (by rfl) (Ex.q (q_fieldAddr (by rfl)) (by rfl) ?_)) | (refine WL.yes (by rfl) (Ex.q (q_fieldAddr_rop (by rfl) (by rfl)) (by rfl) ?_)) | (refine WL.yes (by rfl) (Ex.q (q_fieldAddr_pel (by rfl)) (by rfl) ?_))
      first | (refine WL.yes (by rfl) (Ex.h (h_load (by rfl) (by rfl) (by rfl)) (by rfl) ?_)) | (refine WL.yes (by rfl) (Ex.q (q_load (by rfl) (by rfl) (by rfl)) (by rfl) ?_)) | (refine WL.yes (by rfl) (Ex.q (q_load_rop (by rfl) (by rfl)) (by rfl) ?_)) | (refine WL.yes (by rfl) (Ex.h (h_load_pel (by rfl) (by rfl) ?_ (by rfl)) (by rfl) ?_); (· (omega))) | (refine WL.yes (by rfl) (Ex.q (q_load_pel (by rfl) (by rfl) ?_ (by rfl)) (by rfl) ?_); (· (omega)))
      refine WL.yes (by rfl) (Ex.callqz (find_spec (l := cleanL (l.take k)) (p := (lat l k).p) ?_ ?_ ?_) (by rfl) (by rfl) (.cons (.sla (by rfl)) (.cons (.same _) .nil)) (fun _ => trivial) ?_); (· (omega)); (· (exact hG.ok)); (· (exact hk3.1))
      refine WL.yes (by rfl) (Ex.q (q_int (by rfl) (by rfl) (by rfl)) (by rfl) ?_)
      refine WL.yes (by rfl) (Ex.q (q_pick_t (by rfl) (by rfl)) (by rfl) ?_)
      refine WL.nil ?_
      (repeat refine J.seq ?_)
      refine J.cond (by rfl) (fun c27 => ?_) (fun c27 => ?_)
      · skip
        (first | have e27 := of_decide_eq_true c27 | have e27 := of_decide_eq_false c27 | have e27 := ndec_t c27 | have e27 := ndec_f c27 | skip)
        have h2 := has_f' e27
        (repeat refine J.seq ?_)
        refine J.region ?_
        refine WL.yes (by rfl) (Ex.q (q_move (by rfl)) (by rfl) ?_)
        refine WL.yes (by rfl) (Ex.q (q_move (by rfl)) (by rfl) ?_)
        refine WL.yes (by rfl) (Ex.q (q_move (by rfl)) (by rfl) ?_)
        first | (refine WL.yes (by rfl) (Ex.q (q_indexAddr_ros (by rfl) (by rfl) (by intro _; rfl) ?_ ?_) (by rfl) ?_); (· (omega)); (· (omega))) | (refine WL.yes (by rfl) (Ex.q (q_indexAddr_sl (by rfl) (by rfl) ?_ ?_) (by rfl) ?_); (· (omega)); (· (omega))) | (refine WL.yes (by rfl) (Ex.q (q_indexAddr_arr (by rfl) (by rfl) ?_ ?_) (by rfl) ?_); (· (omega)); (· (omega)))
        first | (refine WL.yes (by rfl) (Ex.h (h_load (by rfl) (by rfl) (by rfl)) (by rfl) ?_)) | (refine WL.yes (by rfl) (Ex.q (q_load (by rfl) (by rfl) (by rfl)) (by rfl) ?_)) | (refine WL.yes (by rfl) (Ex.q (q_load_rop (by rfl) (by rfl)) (by rfl) ?_)) | (refine WL.yes (by rfl) (Ex.h (h_load_pel (by rfl) (by rfl) ?_ (by rfl)) (by rfl) ?_); (· (omega))) | (refine WL.yes (by rfl) (Ex.q (q_load_pel (by rfl) (by rfl) ?_ (by rfl)) (by rfl) ?_); (· (omega)))
        refine WL.yes (by rfl) (Ex.callz _ [] [] (put_spec (l := cleanL (l.take k)) (e := lat l k) ?_ ?_ ?_) (by rfl) (by rfl) (.cons (.sla (by rfl)) (.cons (.same _) .nil)) (fun t c hg => by simp [get] at hg) plain_put ?_); (· (omega)); (· (exact hG.toTOk)); (· (exact hk3))
        rintro _ _ ⟨a33, cap33, rfl, rfl⟩
        refine WL.yes (by rfl) (Ex.q (q_assign (by rfl)) (by rfl) ?_)
        refine WL.nil ?_
        (repeat refine J.seq ?_)
        refine J.region ?_
        refine WL.yes (by rfl) (Ex.q (q_move (by rfl)) (by rfl) ?_)
        refine WL.yes (by rfl) (Ex.q (q_int (by rfl) (by rfl) (by rfl)) (by rfl) ?_)
        refine WL.yes (by rfl) (Ex.q (q_assign (by rfl)) (by rfl) ?_)
        refine WL.nil ?_
        first | ((have hs1 := clean_step hk2; rw [cstep_yes h1 h2] at hs1); refine Kloop.nextP (k + 1, a33, cap33) ?_ ?_ ⟨⟨_, rfl, by rw [hs1]; cases a33 <;> rfl, fun _ => trivial⟩, same (by rw [← w64_nat (k := k) (by omega)]; rfl), trivial⟩ ⟨same rfl, trivial⟩ (.cons (s := 2044) rfl (by rw [hs1]; exact CLe.refl _ _) rfl .nil); (· ((try dsimp only) <;> omega)); (· ((try dsimp only) <;> omega))) | ((have hs1 := clean_step hk2; rw [hno] at hs1); refine Kloop.nextP (k + 1, a3, c3) ?_ ?_ ⟨⟨_, rfl, by rw [hs1], fun _ => trivial⟩, same (by rw [← w64_nat (k := k) (by omega)]; rfl), trivial⟩ ⟨same rfl, trivial⟩ (.cons (s := 3) rfl (by rw [hs1]; exact CLe.refl _ _) rfl .nil); (· ((try dsimp only) <;> omega)); (· ((try dsimp only) <;> omega)))
      · skip
        (first | have e27 := of_decide_eq_true c27 | have e27 := of_decide_eq_false c27 | have e27 := ndec_t c27 | have e27 := ndec_f c27 | skip)
        have hno := cstep_no (out := cleanL (l.take k)) (e := lat l k) (fun x => Bool.false_ne_true (x.2.symm.trans (has_t' e27)))
        (repeat refine J.seq ?_)
        refine J.skip ?_
        (repeat refine J.seq ?_)
        refine J.region ?_
        refine WL.yes (by rfl) (Ex.q (q_move (by rfl)) (by rfl) ?_)
        refine WL.yes (by rfl) (Ex.q (q_int (by rfl) (by rfl) (by rfl)) (by rfl) ?_)
        refine WL.yes (by rfl) (Ex.q (q_assign (by rfl)) (by rfl) ?_)
        refine WL.nil ?_
        first | ((have hs1 := clean_step hk2; rw [cstep_yes h1 h2] at hs1); refine Kloop.nextP (k + 1, a33, cap33) ?_ ?_ ⟨⟨_, rfl, by rw [hs1]; cases a33 <;> rfl, fun _ => trivial⟩, same (by rw [← w64_nat (k := k) (by omega)]; rfl), trivial⟩ ⟨same rfl, trivial⟩ (.cons (s := 2044) rfl (by rw [hs1]; exact CLe.refl _ _) rfl .nil); (· ((try dsimp only) <;> omega)); (· ((try dsimp only) <;> omega))) | ((have hs1 := clean_step hk2; rw [hno] at hs1); refine Kloop.nextP (k + 1, a3, c3) ?_ ?_ ⟨⟨_, rfl, by rw [hs1], fun _ => trivial⟩, same (by rw [← w64_nat (k := k) (by omega)]; rfl), trivial⟩ ⟨same rfl, trivial⟩ (.cons (s := 3) rfl (by rw [hs1]; exact CLe.refl _ _) rfl .nil); (· ((try dsimp only) <;> omega)); (· ((try dsimp only) <;> omega)))
    · skip
      (first | have eg18 := of_decide_eq_true g18 | have eg18 := of_decide_eq_false g18 | have eg18 := ndec_t g18 | have eg18 := ndec_f g18 | skip)
      have hno := cstep_no (out := cleanL (l.take k)) (e := lat l k) (fun x => Bool.false_ne_true ((okpair_not g18).symm.trans x.1))
      refine WL.no (by rfl) (by rfl) ?_
      refine WL.no (by rfl) (by rfl) ?_
      refine WL.no (by rfl) (by rfl) ?_
      refine WL.no (by rfl) (by rfl) ?_
      refine WL.no (by rfl) (by rfl) ?_
      refine WL.no (by rfl) (by rfl) ?_
      refine WL.no (by rfl) (by rfl) ?_
      refine WL.no (by rfl) (by rfl) ?_
      refine WL.yes (by rfl) (Ex.q (q_pick_f (by rfl) (by rfl)) (by rfl) ?_)
      refine WL.nil ?_
      (repeat refine J.seq ?_)
      refine J.condF (by rfl) ?_
      (repeat refine J.seq ?_)
      refine J.skip ?_
      (repeat refine J.seq ?_)
      refine J.region ?_
      refine WL.yes (by rfl) (Ex.q (q_move (by rfl)) (by rfl) ?_)
      refine WL.yes (by rfl) (Ex.q (q_int (by rfl) (by rfl) (by rfl)) (by rfl) ?_)
      refine WL.yes (by rfl) (Ex.q (q_assign (by rfl)) (by rfl) ?_)
      refine WL.nil ?_
      first | ((have hs1 := clean_step hk2; rw [cstep_yes h1 h2] at hs1); refine Kloop.nextP (k + 1, a33, cap33) ?_ ?_ ⟨⟨_, rfl, by rw [hs1]; cases a33 <;> rfl, fun _ => trivial⟩, same (by rw [← w64_nat (k := k) (by omega)]; rfl), trivial⟩ ⟨same rfl, trivial⟩ (.cons (s := 2044) rfl (by rw [hs1]; exact CLe.refl _ _) rfl .nil); (· ((try dsimp only) <;> omega)); (· ((try dsimp only) <;> omega))) | ((have hs1 := clean_step hk2; rw [hno] at hs1); refine Kloop.nextP (k + 1, a3, c3) ?_ ?_ ⟨⟨_, rfl, by rw [hs1], fun _ => trivial⟩, same (by rw [← w64_nat (k := k) (by omega)]; rfl), trivial⟩ ⟨same rfl, trivial⟩ (.cons (s := 3) rfl (by rw [hs1]; exact CLe.refl _ _) rfl .nil); (· ((try dsimp only) <;> omega)); (· ((try dsimp only) <;> omega)))
  · skip
    (first | have e8 := of_decide_eq_true c8 | have e8 := of_decide_eq_false c8 | have e8 := ndec_t c8 | have e8 := ndec_f c8 | skip)
    (repeat refine J.seq ?_)
    refine J.exit ?_
    (repeat refine J.seq ?_)
    refine J.region ?_
    refine WL.yes (by rfl) (Ex.q (q_move (by rfl)) (by rfl) ?_)
    refine WL.yes (by rfl) (Ex.q (q_assign (by rfl)) (by rfl) ?_)
    refine WL.nil ?_
    (repeat refine J.seq ?_)
    refine J.ret ?_
    (repeat (with_reducible first | refine Kseq.ret ?_ | refine Kblock.ret ?_ | refine Kloop.ret ?_ | refine Kcut.ret ?_))
    have hkn : l.take k = l := List.take_of_length_le (by omega)
    refine Kret.mk2 (vs := [_]) (.sl 2064 a3 51 0 c3 (cleanL l).length) [(2064, lvec a3 37 51 c3 enE (cleanL l))] (.tmp (by rfl) .nil) (by rfl) trivial (by rw [hkn]; cases a3 <;> rfl) (fun _ _ => trivial) (HLe.sub (.cons (s := 3) rfl (by rw [hkn]; exact CLe.refl _ _) rfl .nil)) ⟨_, _, rfl, rfl⟩

set_option maxHeartbeats 16000000 in
set_option maxRecDepth 100000 in
theorem best_spec63 {a : Option Addr} {cap : Nat} {l : List En} {p : Pr} (ho : ∀ e ∈ l, okR e.p = true) (hl : l.length ≤ 1000) : Spec Try.prog 63 [lros a cap enE l, prE p] [] (fun r H' => r = enE (bestL p l) ∧ H' = []) := by
  refine Spec.of_J Try.func63 rfl Try.ntmps63 Try.results63 rfl ?_
  intro A F hAF
  (repeat refine J.seq ?_)
  refine J.region ?_
  refine WL.yes (by rfl) (Ex.box (by rfl) (by rfl) (by rfl) ?_)
  intro b3
  refine WL.yes (by rfl) (Ex.alloc (by rfl) ?_)
  intro b4
  refine WL.nil ?_
  (repeat refine J.seq ?_)
  refine J.region ?_
  refine WL.yes (by rfl) (Ex.q (q_assign (by rfl)) (by rfl) ?_)
  refine WL.nil ?_
  (repeat refine J.seq ?_)
  refine J.region ?_
  refine WL.yes (by rfl) (Ex.q (q_move (by rfl)) (by rfl) ?_)
  first | (refine WL.yes (by rfl) (Ex.q (q_len_slice (by rfl) (by rfl)) (by rfl) ?_)) | (refine WL.yes (by rfl) (Ex.q (q_len_string (by rfl)) (by rfl) ?_))
  refine WL.yes (by rfl) (Ex.q (q_move (by rfl)) (by rfl) ?_)
  refine WL.nil ?_
  (repeat refine J.seq ?_)
  refine J.block ?_
  (repeat refine J.seq ?_)
  refine J.loopP (fun x : Nat => x ≤ l.length) (fun x => [(5, .bool (bestO p (l.take x)).isSome), (11, iV x)]) (fun x => [(4, .box b4 37 (enE ((bestO p (l.take x)).getD default)))]) (fun x => l.length - x) (0) [(3, _), (4, _), (9, _), (10, _)] [(3, _)] ⟨same rfl, same rfl, same rfl, same rfl, trivial⟩ ⟨same rfl, same rfl, trivial⟩ (.cons (s := 4) rfl (CLe.refl _ _) rfl (.cons (s := 3) rfl (CLe.refl _ _) rfl .nil)) ?_ ?_
  · ((try dsimp only) <;> omega)
  rintro k hx
  (try dsimp only at hx)
  (repeat refine J.seq ?_)
  refine J.region ?_
  refine WL.yes (by rfl) (Ex.q (q_int (by rfl) (by rfl) (by rfl)) (by rfl) ?_)
  refine WL.nil ?_
  (repeat refine J.seq ?_)
  refine J.cond (by rfl) (fun c12 => ?_) (fun c12 => ?_)
  · skip
    (first | have e12 := of_decide_eq_true c12 | have e12 := of_decide_eq_false c12 | have e12 := ndec_t c12 | have e12 := ndec_f c12 | skip)
    (repeat refine J.seq ?_)
    refine J.skip ?_
    (repeat refine J.seq ?_)
    refine J.block ?_
    (repeat refine J.seq ?_)
    refine J.region ?_
    first | (refine WL.yes (by rfl) (Ex.q (q_indexAddr_ros (by rfl) (by rfl) (by intro _; rfl) ?_ ?_) (by rfl) ?_); (· (omega)); (· (omega))) | (refine WL.yes (by rfl) (Ex.q (q_indexAddr_sl (by rfl) (by rfl) ?_ ?_) (by rfl) ?_); (· (omega)); (· (omega))) | (refine WL.yes (by rfl) (Ex.q (q_indexAddr_arr (by rfl) (by rfl) ?_ ?_) (by rfl) ?_); (· (omega)); (· (omega)))
    first | (refine WL.yes (by rfl) (Ex.h (h_load (by rfl) (by rfl) (by rfl)) (by rfl) ?_)) | (refine WL.yes (by rfl) (Ex.q (q_load (by rfl) (by rfl) (by rfl)) (by rfl) ?_)) | (refine WL.yes (by rfl) (Ex.q (q_load_rop (by rfl) (by rfl)) (by rfl) ?_)) | (refine WL.yes (by rfl) (Ex.h (h_load_pel (by rfl) (by rfl) ?_ (by rfl)) (by rfl) ?_); (· (omega))) | (refine WL.yes (by rfl) (Ex.q (q_load_pel (by rfl) (by rfl) ?_ (by rfl)) (by rfl) ?_); (· (omega)))
    have hk2 : k < l.length := by omega
    have hrn := okR_rng (ho _ (lat_mem hk2))
    have hbn := best_rng (p := p) (l := l.take k) (fun x hx => ho x (List.take_subset _ _ hx))
    refine WL.set 14 (enE (lat l k)) (by rfl) (by rw [Int.toNat_natCast]) ?_
    refine WL.yes (by rfl) (Ex.alloc (by rfl) ?_)
    intro b7
    first | (refine WL.yes (by rfl) (Ex.store (by rfl) (by rfl) (by rfl) (by rfl) (by rfl) (by rfl) ?_)) | (refine WL.yes (by rfl) (Ex.store_pel (by rfl) (by rfl) (by rfl) (by rfl) (by rfl) ?_ (by rfl) ?_); (· (omega)))
    refine WL.nil ?_
    (repeat refine J.seq ?_)
    refine J.draw [3, 4, 7] 9999 [(0, true), (1, true), (2, true), (3, true), (4, true), (5, false), (6, true), (7, true), (8, true), (9, true), (10, true), (11, true), (12, true), (13, false), (14, true), (15, true), (16, true), (17, true), (18, true), (19, true), (21, true), (22, true), (20, false), (23, false), (24, true), (25, true)] (by kernel_rfl) rfl (by kernel_rfl) ?_
    intro F1 hF1
    first | (refine WS.take rfl (by rfl) (by rfl) (q_fieldAddr (by rfl)) ?_) | (refine WS.take rfl (by rfl) (by rfl) (q_fieldAddr_rop (by rfl) (by rfl)) ?_) | (refine WS.take rfl (by rfl) (by rfl) (q_fieldAddr_pel (by rfl)) ?_)
    first | (refine WS.take rfl (by rfl) (by rfl) (q_fieldAddr (by rfl)) ?_) | (refine WS.take rfl (by rfl) (by rfl) (q_fieldAddr_rop (by rfl) (by rfl)) ?_) | (refine WS.take rfl (by rfl) (by rfl) (q_fieldAddr_pel (by rfl)) ?_)
    first | (refine WS.take rfl (by rfl) (by rfl) (q_load (by rfl) (by rfl) (by rfl)) ?_) | (refine WS.take rfl (by rfl) (by rfl) (q_load_rop (by rfl) (by rfl)) ?_) | (refine WS.take rfl (by rfl) (by rfl) (q_load_pel (by rfl) (by rfl) ?_ (by rfl)) ?_; (· (omega)))
    first | (refine WS.take rfl (by rfl) (by rfl) (q_fieldAddr (by rfl)) ?_) | (refine WS.take rfl (by rfl) (by rfl) (q_fieldAddr_rop (by rfl) (by rfl)) ?_) | (refine WS.take rfl (by rfl) (by rfl) (q_fieldAddr_pel (by rfl)) ?_)
    first | (refine WS.take rfl (by rfl) (by rfl) (q_load (by rfl) (by rfl) (by rfl)) ?_) | (refine WS.take rfl (by rfl) (by rfl) (q_load_rop (by rfl) (by rfl)) ?_) | (refine WS.take rfl (by rfl) (by rfl) (q_load_pel (by rfl) (by rfl) ?_ (by rfl)) ?_; (· (omega)))
    refine WS.ex rfl (by rfl) (Ex.callq (covers_spec _ _ _ _) (by rfl) (by rfl) rfl (fun _ h => h) ?_)
    refine WS.take rfl (by rfl) (by rfl) (q_not (by rfl)) ?_
    refine WS.take rfl (by rfl) (by rfl) (q_move (by rfl)) ?_
    refine WS.split 22 (by rfl) (fun g22 => ?_) (fun g22 => ?_)
    · skip
      (first | have eg22 := of_decide_eq_true g22 | have eg22 := of_decide_eq_false g22 | have eg22 := ndec_t g22 | have eg22 := ndec_f g22 | skip)
      have h0 : mtch p (lat l k) = false := mtch_c1 (by simpa using g22)
      refine WS.takeNo rfl (by rfl) (by rfl) ?_
      refine WS.takeNo rfl (by rfl) (by rfl) ?_
      refine WS.takeNo rfl (by rfl) (by rfl) ?_
      refine WS.takeNo rfl (by rfl) (by rfl) ?_
      refine WS.takeNo rfl (by rfl) (by rfl) ?_
      refine WS.takeNo rfl (by rfl) (by rfl) ?_
      refine WS.takeNo rfl (by rfl) (by rfl) ?_
      refine WS.take rfl (by rfl) (by rfl) (q_pick_t (by rfl) (by rfl)) ?_
      refine WS.take rfl (by rfl) (by rfl) (q_move (by rfl)) ?_
      refine WS.takeNo rfl (by rfl) (by rfl) ?_
      refine WS.takeNo rfl (by rfl) (by rfl) ?_
      refine WS.takeNo rfl (by rfl) (by rfl) ?_
      refine WS.takeNo rfl (by rfl) (by rfl) ?_
      refine WS.takeNo rfl (by rfl) (by rfl) ?_
      refine WS.takeNo rfl (by rfl) (by rfl) ?_
      refine WS.takeNo rfl (by rfl) (by rfl) ?_
      refine WS.takeNo rfl (by rfl) (by rfl) ?_
      refine WS.take rfl (by rfl) (by rfl) (q_pick_t (by rfl) (by rfl)) ?_
      refine WS.nil ?_
      (repeat refine J.seq ?_)
      refine J.condT (by rfl) ?_
      (repeat refine J.seq ?_)
      refine J.exit ?_
      (repeat refine J.seq ?_)
      refine J.region ?_
      refine WL.yes (by rfl) (Ex.q (q_int (by rfl) (by rfl) (by rfl)) (by rfl) ?_)
      refine WL.yes (by rfl) (Ex.q (q_move (by rfl)) (by rfl) ?_)
      refine WL.nil ?_
      first | ((have hs1 := best_step (p := p) hk2; rw [bstep_skip h0] at hs1); refine Kloop.nextP (k + 1) ?_ ?_ ⟨same (by rw [hs1]; rfl), same (by rw [← w64_nat (k := k) (by omega)]; rfl), trivial⟩ ⟨same rfl, same rfl, same rfl, same rfl, trivial⟩ (.cons (s := 4) rfl (by rw [hs1]; exact CLe.refl _ _) rfl (.cons (s := 3) rfl (CLe.refl _ _) rfl .nil)); (· ((try dsimp only) <;> omega)); (· ((try dsimp only) <;> omega))) | ((have hs1 := best_step (p := p) hk2; rw [hb0, bstep_first hm] at hs1); refine Kloop.nextP (k + 1) ?_ ?_ ⟨same (by rw [hs1]; rfl), same (by rw [← w64_nat (k := k) (by omega)]; rfl), trivial⟩ ⟨same rfl, same rfl, same rfl, same rfl, trivial⟩ (.cons (s := 4) rfl (by rw [hs1]; exact CLe.box rfl) rfl (.cons (s := 3) rfl (CLe.refl _ _) rfl .nil)); (· ((try dsimp only) <;> omega)); (· ((try dsimp only) <;> omega))) | ((have hs1 := best_step (p := p) hk2; rw [hc, bstep_yes hm hbt] at hs1); refine Kloop.nextP (k + 1) ?_ ?_ ⟨same (by rw [hs1]; rfl), same (by rw [← w64_nat (k := k) (by omega)]; rfl), trivial⟩ ⟨same rfl, same rfl, same rfl, same rfl, trivial⟩ (.cons (s := 4) rfl (by rw [hs1]; exact CLe.box rfl) rfl (.cons (s := 3) rfl (CLe.refl _ _) rfl .nil)); (· ((try dsimp only) <;> omega)); (· ((try dsimp only) <;> omega))) | ((have hs1 := best_step (p := p) hk2; rw [hc, bstep_no hm hbn2, ← hc] at hs1); refine Kloop.nextP (k + 1) ?_ ?_ ⟨same (by rw [hs1]; rfl), same (by rw [← w64_nat (k := k) (by omega)]; rfl), trivial⟩ ⟨same rfl, same rfl, same rfl, same rfl, trivial⟩ (.cons (s := 4) rfl (by rw [hs1]; exact CLe.refl _ _) rfl (.cons (s := 3) rfl (CLe.refl _ _) rfl .nil)); (· ((try dsimp only) <;> omega)); (· ((try dsimp only) <;> omega)))
    · skip
      (first | have eg22 := of_decide_eq_true g22 | have eg22 := of_decide_eq_false g22 | have eg22 := ndec_t g22 | have eg22 := ndec_f g22 | skip)
      have h1 : covers (lat l k).p.d.a (lat l k).p.d.n p.d.a p.d.n = true := by simpa using g22
      first | (refine WS.take rfl (by rfl) (by rfl) (q_fieldAddr (by rfl)) ?_) | (refine WS.take rfl (by rfl) (by rfl) (q_fieldAddr_rop (by rfl) (by rfl)) ?_) | (refine WS.take rfl (by rfl) (by rfl) (q_fieldAddr_pel (by rfl)) ?_)
      first | (refine WS.take rfl (by rfl) (by rfl) (q_fieldAddr (by rfl)) ?_) | (refine WS.take rfl (by rfl) (by rfl) (q_fieldAddr_rop (by rfl) (by rfl)) ?_) | (refine WS.take rfl (by rfl) (by rfl) (q_fieldAddr_pel (by rfl)) ?_)
      first | (refine WS.take rfl (by rfl) (by rfl) (q_load (by rfl) (by rfl) (by rfl)) ?_) | (refine WS.take rfl (by rfl) (by rfl) (q_load_rop (by rfl) (by rfl)) ?_) | (refine WS.take rfl (by rfl) (by rfl) (q_load_pel (by rfl) (by rfl) ?_ (by rfl)) ?_; (· (omega)))
      first | (refine WS.take rfl (by rfl) (by rfl) (q_fieldAddr (by rfl)) ?_) | (refine WS.take rfl (by rfl) (by rfl) (q_fieldAddr_rop (by rfl) (by rfl)) ?_) | (refine WS.take rfl (by rfl) (by rfl) (q_fieldAddr_pel (by rfl)) ?_)
      first | (refine WS.take rfl (by rfl) (by rfl) (q_load (by rfl) (by rfl) (by rfl)) ?_) | (refine WS.take rfl (by rfl) (by rfl) (q_load_rop (by rfl) (by rfl)) ?_) | (refine WS.take rfl (by rfl) (by rfl) (q_load_pel (by rfl) (by rfl) ?_ (by rfl)) ?_; (· (omega)))
      refine WS.ex rfl (by rfl) (Ex.callq (covers_spec _ _ _ _) (by rfl) (by rfl) rfl (fun _ h => h) ?_)
      refine WS.take rfl (by rfl) (by rfl) (q_not (by rfl)) ?_
      refine WS.take rfl (by rfl) (by rfl) (q_pick_f (by rfl) (by rfl)) ?_
      refine WS.take rfl (by rfl) (by rfl) (q_move (by rfl)) ?_
      refine WS.split 31 (by rfl) (fun g31 => ?_) (fun g31 => ?_)
      · skip
        (first | have eg31 := of_decide_eq_true g31 | have eg31 := of_decide_eq_false g31 | have eg31 := ndec_t g31 | have eg31 := ndec_f g31 | skip)
        have h0 : mtch p (lat l k) = false := mtch_c2 h1 (by simpa using g31)
        refine WS.takeNo rfl (by rfl) (by rfl) ?_
        refine WS.takeNo rfl (by rfl) (by rfl) ?_
        refine WS.takeNo rfl (by rfl) (by rfl) ?_
        refine WS.takeNo rfl (by rfl) (by rfl) ?_
        refine WS.takeNo rfl (by rfl) (by rfl) ?_
        refine WS.takeNo rfl (by rfl) (by rfl) ?_
        refine WS.takeNo rfl (by rfl) (by rfl) ?_
        refine WS.takeNo rfl (by rfl) (by rfl) ?_
        refine WS.take rfl (by rfl) (by rfl) (q_pick_t (by rfl) (by rfl)) ?_
        refine WS.nil ?_
        (repeat refine J.seq ?_)
        refine J.condT (by rfl) ?_
        (repeat refine J.seq ?_)
        refine J.exit ?_
        (repeat refine J.seq ?_)
        refine J.region ?_
        refine WL.yes (by rfl) (Ex.q (q_int (by rfl) (by rfl) (by rfl)) (by rfl) ?_)
        refine WL.yes (by rfl) (Ex.q (q_move (by rfl)) (by rfl) ?_)
        refine WL.nil ?_
        first | ((have hs1 := best_step (p := p) hk2; rw [bstep_skip h0] at hs1); refine Kloop.nextP (k + 1) ?_ ?_ ⟨same (by rw [hs1]; rfl), same (by rw [← w64_nat (k := k) (by omega)]; rfl), trivial⟩ ⟨same rfl, same rfl, same rfl, same rfl, trivial⟩ (.cons (s := 4) rfl (by rw [hs1]; exact CLe.refl _ _) rfl (.cons (s := 3) rfl (CLe.refl _ _) rfl .nil)); (· ((try dsimp only) <;> omega)); (· ((try dsimp only) <;> omega))) | ((have hs1 := best_step (p := p) hk2; rw [hb0, bstep_first hm] at hs1); refine Kloop.nextP (k + 1) ?_ ?_ ⟨same (by rw [hs1]; rfl), same (by rw [← w64_nat (k := k) (by omega)]; rfl), trivial⟩ ⟨same rfl, same rfl, same rfl, same rfl, trivial⟩ (.cons (s := 4) rfl (by rw [hs1]; exact CLe.box rfl) rfl (.cons (s := 3) rfl (CLe.refl _ _) rfl .nil)); (· ((try dsimp only) <;> omega)); (· ((try dsimp only) <;> omega))) | ((have hs1 := best_step (p := p) hk2; rw [hc, bstep_yes hm hbt] at hs1); refine Kloop.nextP (k + 1) ?_ ?_ ⟨same (by rw [hs1]; rfl), same (by rw [← w64_nat (k := k) (by omega)]; rfl), trivial⟩ ⟨same rfl, same rfl, same rfl, same rfl, trivial⟩ (.cons (s := 4) rfl (by rw [hs1]; exact CLe.box rfl) rfl (.cons (s := 3) rfl (CLe.refl _ _) rfl .nil)); (· ((try dsimp only) <;> omega)); (· ((try dsimp only) <;> omega))) | ((have hs1 := best_step (p := p) hk2; rw [hc, bstep_no hm hbn2, ← hc] at hs1); refine Kloop.nextP (k + 1) ?_ ?_ ⟨same (by rw [hs1]; rfl), same (by rw [← w64_nat (k := k) (by omega)]; rfl), trivial⟩ ⟨same rfl, same rfl, same rfl, same rfl, trivial⟩ (.cons (s := 4) rfl (by rw [hs1]; exact CLe.refl _ _) rfl (.cons (s := 3) rfl (CLe.refl _ _) rfl .nil)); (· ((try dsimp only) <;> omega)); (· ((try dsimp only) <;> omega)))
      · skip
        (first | have eg31 := of_decide_eq_true g31 | have eg31 := of_decide_eq_false g31 | have eg31 := ndec_t g31 | have eg31 := ndec_f g31 | skip)
        have h2 : covers (lat l k).p.s.a (lat l k).p.s.n p.s.a p.s.n = true := by simpa using g31
        first | (refine WS.take rfl (by rfl) (by rfl) (q_fieldAddr (by rfl)) ?_) | (refine WS.take rfl (by rfl) (by rfl) (q_fieldAddr_rop (by rfl) (by rfl)) ?_) | (refine WS.take rfl (by rfl) (by rfl) (q_fieldAddr_pel (by rfl)) ?_)
        first | (refine WS.take rfl (by rfl) (by rfl) (q_fieldAddr (by rfl)) ?_) | (refine WS.take rfl (by rfl) (by rfl) (q_fieldAddr_rop (by rfl) (by rfl)) ?_) | (refine WS.take rfl (by rfl) (by rfl) (q_fieldAddr_pel (by rfl)) ?_)
        first | (refine WS.take rfl (by rfl) (by rfl) (q_load (by rfl) (by rfl) (by rfl)) ?_) | (refine WS.take rfl (by rfl) (by rfl) (q_load_rop (by rfl) (by rfl)) ?_) | (refine WS.take rfl (by rfl) (by rfl) (q_load_pel (by rfl) (by rfl) ?_ (by rfl)) ?_; (· (omega)))
        first | (refine WS.take rfl (by rfl) (by rfl) (q_fieldAddr (by rfl)) ?_) | (refine WS.take rfl (by rfl) (by rfl) (q_fieldAddr_rop (by rfl) (by rfl)) ?_) | (refine WS.take rfl (by rfl) (by rfl) (q_fieldAddr_pel (by rfl)) ?_)
        first | (refine WS.take rfl (by rfl) (by rfl) (q_load (by rfl) (by rfl) (by rfl)) ?_) | (refine WS.take rfl (by rfl) (by rfl) (q_load_rop (by rfl) (by rfl)) ?_) | (refine WS.take rfl (by rfl) (by rfl) (q_load_pel (by rfl) (by rfl) ?_ (by rfl)) ?_; (· (omega)))
        refine WS.ex rfl (by rfl) (Ex.callq (famP_spec _ _) (by rfl) (by rfl) rfl (fun _ h => h) ?_)
        refine WS.ex rfl (by rfl) (Ex.callq (famP_spec _ _) (by rfl) (by rfl) rfl (fun _ h => h) ?_)
        first | (refine WS.take rfl (by rfl) (by rfl) (q_int (by rfl) (by rfl) (by rfl)) ?_) | (refine WS.take rfl (by rfl) (by rfl) (q_neb (by rfl) (by rfl)) ?_) | (refine WS.take rfl (by rfl) (by rfl) (q_nep rfl rfl (by rfl) (by rfl) ?_) ?_; (· (rfl))) | (refine WS.take rfl (by rfl) (by rfl) (q_eqs (by rfl) (by rfl)) ?_)
        refine WS.take rfl (by rfl) (by rfl) (q_pick_f (by rfl) (by rfl)) ?_
        refine WS.nil ?_
        (repeat refine J.seq ?_)
        refine J.cond (by rfl) (fun c40 => ?_) (fun c40 => ?_)
        · skip
          (first | have e40 := of_decide_eq_true c40 | have e40 := of_decide_eq_false c40 | have e40 := ndec_t c40 | have e40 := ndec_f c40 | skip)
          (first | (have h0 : mtch p (lat l k) = false := mtch_c3 h1 h2 e40) | skip)
          (repeat refine J.seq ?_)
          refine J.exit ?_
          (repeat refine J.seq ?_)
          refine J.region ?_
          refine WL.yes (by rfl) (Ex.q (q_int (by rfl) (by rfl) (by rfl)) (by rfl) ?_)
          refine WL.yes (by rfl) (Ex.q (q_move (by rfl)) (by rfl) ?_)
          refine WL.nil ?_
          first | ((have hs1 := best_step (p := p) hk2; rw [bstep_skip h0] at hs1); refine Kloop.nextP (k + 1) ?_ ?_ ⟨same (by rw [hs1]; rfl), same (by rw [← w64_nat (k := k) (by omega)]; rfl), trivial⟩ ⟨same rfl, same rfl, same rfl, same rfl, trivial⟩ (.cons (s := 4) rfl (by rw [hs1]; exact CLe.refl _ _) rfl (.cons (s := 3) rfl (CLe.refl _ _) rfl .nil)); (· ((try dsimp only) <;> omega)); (· ((try dsimp only) <;> omega))) | ((have hs1 := best_step (p := p) hk2; rw [hb0, bstep_first hm] at hs1); refine Kloop.nextP (k + 1) ?_ ?_ ⟨same (by rw [hs1]; rfl), same (by rw [← w64_nat (k := k) (by omega)]; rfl), trivial⟩ ⟨same rfl, same rfl, same rfl, same rfl, trivial⟩ (.cons (s := 4) rfl (by rw [hs1]; exact CLe.box rfl) rfl (.cons (s := 3) rfl (CLe.refl _ _) rfl .nil)); (· ((try dsimp only) <;> omega)); (· ((try dsimp only) <;> omega))) | ((have hs1 := best_step (p := p) hk2; rw [hc, bstep_yes hm hbt] at hs1); refine Kloop.nextP (k + 1) ?_ ?_ ⟨same (by rw [hs1]; rfl), same (by rw [← w64_nat (k := k) (by omega)]; rfl), trivial⟩ ⟨same rfl, same rfl, same rfl, same rfl, trivial⟩ (.cons (s := 4) rfl (by rw [hs1]; exact CLe.box rfl) rfl (.cons (s := 3) rfl (CLe.refl _ _) rfl .nil)); (· ((try dsimp only) <;> omega)); (· ((try dsimp only) <;> omega))) | ((have hs1 := best_step (p := p) hk2; rw [hc, bstep_no hm hbn2, ← hc] at hs1); refine Kloop.nextP (k + 1) ?_ ?_ ⟨same (by rw [hs1]; rfl), same (by rw [← w64_nat (k := k) (by omega)]; rfl), trivial⟩ ⟨same rfl, same rfl, same rfl, same rfl, trivial⟩ (.cons (s := 4) rfl (by rw [hs1]; exact CLe.refl _ _) rfl (.cons (s := 3) rfl (CLe.refl _ _) rfl .nil)); (· ((try dsimp only) <;> omega)); (· ((try dsimp only) <;> omega)))
        · skip
          (first | have e40 := of_decide_eq_true c40 | have e40 := of_decide_eq_false c40 | have e40 := ndec_t c40 | have e40 := ndec_f c40 | skip)
          have hm : mtch p (lat l k) = true := mtch_yes h1 h2 e40
          (repeat refine J.seq ?_)
          refine J.skip ?_
          (repeat refine J.seq ?_)
          refine J.region ?_
          first | (refine WL.yes (by rfl) (Ex.q (q_fieldAddr (by rfl)) (by rfl) ?_)) | (refine WL.yes (by rfl) (Ex.q (q_fieldAddr_rop (by rfl) (by rfl)) (by rfl) ?_)) | (refine WL.yes (by rfl) (Ex.q (q_fieldAddr_pel (by rfl)) (by rfl) ?_))
          first | (refine WL.yes (by rfl) (Ex.q (q_fieldAddr (by rfl)) (by rfl) ?_)) | (refine WL.yes (by rfl) (Ex.q (q_fieldAddr_rop (by rfl) (by rfl)) (by rfl) ?_)) | (refine WL.yes (by rfl) (Ex.q (q_fieldAddr_pel (by rfl)) (by rfl) ?_))
          first | (refine WL.yes (by rfl) (Ex.q (q_fieldAddr (by rfl)) (by rfl) ?_)) | (refine WL.yes (by rfl) (Ex.q (q_fieldAddr_rop (by rfl) (by rfl)) (by rfl) ?_)) | (refine WL.yes (by rfl) (Ex.q (q_fieldAddr_pel (by rfl)) (by rfl) ?_))
          first | (refine WL.yes (by rfl) (Ex.h (h_load (by rfl) (by rfl) (by rfl)) (by rfl) ?_)) | (refine WL.yes (by rfl) (Ex.q (q_load (by rfl) (by rfl) (by rfl)) (by rfl) ?_)) | (refine WL.yes (by rfl) (Ex.q (q_load_rop (by rfl) (by rfl)) (by rfl) ?_)) | (refine WL.yes (by rfl) (Ex.h (h_load_pel (by rfl) (by rfl) ?_ (by rfl)) (by rfl) ?_); (· (omega))) | (refine WL.yes (by rfl) (Ex.q (q_load_pel (by rfl) (by rfl) ?_ (by rfl)) (by rfl) ?_); (· (omega)))
          first | (refine WL.yes (by rfl) (Ex.q (q_fieldAddr (by rfl)) (by rfl) ?_)) | (refine WL.yes (by rfl) (Ex.q (q_fieldAddr_rop (by rfl) (by rfl)) (by rfl) ?_)) | (refine WL.yes (by rfl) (Ex.q (q_fieldAddr_pel (by rfl)) (by rfl) ?_))
          first | (refine WL.yes (by rfl) (Ex.q (q_fieldAddr (by rfl)) (by rfl) ?_)) | (refine WL.yes (by rfl) (Ex.q (q_fieldAddr_rop (by rfl) (by rfl)) (by rfl) ?_)) | (refine WL.yes (by rfl) (Ex.q (q_fieldAddr_pel (by rfl)) (by rfl) ?_))
          first | (refine WL.yes (by rfl) (Ex.q (q_fieldAddr (by rfl)) (by rfl) ?_)) | (refine WL.yes (by rfl) (Ex.q (q_fieldAddr_rop (by rfl) (by rfl)) (by rfl) ?_)) | (refine WL.yes (by rfl) (Ex.q (q_fieldAddr_pel (by rfl)) (by rfl) ?_))
          first | (refine WL.yes (by rfl) (Ex.h (h_load (by rfl) (by rfl) (by rfl)) (by rfl) ?_)) | (refine WL.yes (by rfl) (Ex.q (q_load (by rfl) (by rfl) (by rfl)) (by rfl) ?_)) | (refine WL.yes (by rfl) (Ex.q (q_load_rop (by rfl) (by rfl)) (by rfl) ?_)) | (refine WL.yes (by rfl) (Ex.h (h_load_pel (by rfl) (by rfl) ?_ (by rfl)) (by rfl) ?_); (· (omega))) | (refine WL.yes (by rfl) (Ex.q (q_load_pel (by rfl) (by rfl) ?_ (by rfl)) (by rfl) ?_); (· (omega)))
          refine WL.yes (by rfl) (Ex.q (q_int (by rfl) (by rfl) (by rfl)) (by rfl) ?_)
          refine WL.set 49 (iV ((lat l k).p.d.n - ((bestO p (l.take k)).getD default).p.d.n)) (by rfl) (congrArg iV (w64 (by unfold bestL at hbn; omega) (by unfold bestL at hbn; omega)).symm) ?_
          refine WL.yes (by rfl) (Ex.q (q_assign (by rfl)) (by rfl) ?_)
          refine WL.nil ?_
          (repeat refine J.seq ?_)
          refine J.region ?_
          refine WL.yes (by rfl) (Ex.q (q_move (by rfl)) (by rfl) ?_)
          refine WL.yes (by rfl) (Ex.q (q_not (by rfl)) (by rfl) ?_)
          refine WL.yes (by rfl) (Ex.q (q_move (by rfl)) (by rfl) ?_)
          refine WL.split 52 (by rfl) (fun g52 => ?_) (fun g52 => ?_)
          · skip
            (first | have eg52 := of_decide_eq_true g52 | have eg52 := of_decide_eq_false g52 | have eg52 := ndec_t g52 | have eg52 := ndec_f g52 | skip)
            have hb0 : bestO p (l.take k) = none := by simpa using g52
            refine WL.no (by rfl) (by rfl) ?_
            refine WL.no (by rfl) (by rfl) ?_
            refine WL.yes (by rfl) (Ex.q (q_pick_t (by rfl) (by rfl)) (by rfl) ?_)
            refine WL.yes (by rfl) (Ex.q (q_move (by rfl)) (by rfl) ?_)
            refine WL.no (by rfl) (by rfl) ?_
            refine WL.no (by rfl) (by rfl) ?_
            refine WL.no (by rfl) (by rfl) ?_
            refine WL.no (by rfl) (by rfl) ?_
            refine WL.no (by rfl) (by rfl) ?_
            refine WL.no (by rfl) (by rfl) ?_
            refine WL.no (by rfl) (by rfl) ?_
            refine WL.no (by rfl) (by rfl) ?_
            refine WL.no (by rfl) (by rfl) ?_
            refine WL.no (by rfl) (by rfl) ?_
            refine WL.no (by rfl) (by rfl) ?_
            refine WL.no (by rfl) (by rfl) ?_
            refine WL.no (by rfl) (by rfl) ?_
            refine WL.yes (by rfl) (Ex.q (q_pick_t (by rfl) (by rfl)) (by rfl) ?_)
            refine WL.nil ?_
            (repeat refine J.seq ?_)
            refine J.condT (by rfl) ?_
            (repeat refine J.seq ?_)
            refine J.region ?_
            first | (refine WL.yes (by rfl) (Ex.h (h_load (by rfl) (by rfl) (by rfl)) (by rfl) ?_)) | (refine WL.yes (by rfl) (Ex.q (q_load (by rfl) (by rfl) (by rfl)) (by rfl) ?_)) | (refine WL.yes (by rfl) (Ex.q (q_load_rop (by rfl) (by rfl)) (by rfl) ?_)) | (refine WL.yes (by rfl) (Ex.h (h_load_pel (by rfl) (by rfl) ?_ (by rfl)) (by rfl) ?_); (· (omega))) | (refine WL.yes (by rfl) (Ex.q (q_load_pel (by rfl) (by rfl) ?_ (by rfl)) (by rfl) ?_); (· (omega)))
            first | (refine WL.yes (by rfl) (Ex.store (by rfl) (by rfl) (by rfl) (by rfl) (by rfl) (by rfl) ?_)) | (refine WL.yes (by rfl) (Ex.store_pel (by rfl) (by rfl) (by rfl) (by rfl) (by rfl) ?_ (by rfl) ?_); (· (omega)))
            refine WL.yes (by rfl) (Ex.q (q_assign (by rfl)) (by rfl) ?_)
            refine WL.nil ?_
            (repeat refine J.seq ?_)
            refine J.region ?_
            refine WL.yes (by rfl) (Ex.q (q_int (by rfl) (by rfl) (by rfl)) (by rfl) ?_)
            refine WL.yes (by rfl) (Ex.q (q_move (by rfl)) (by rfl) ?_)
            refine WL.nil ?_
            first | ((have hs1 := best_step (p := p) hk2; rw [bstep_skip h0] at hs1); refine Kloop.nextP (k + 1) ?_ ?_ ⟨same (by rw [hs1]; rfl), same (by rw [← w64_nat (k := k) (by omega)]; rfl), trivial⟩ ⟨same rfl, same rfl, same rfl, same rfl, trivial⟩ (.cons (s := 4) rfl (by rw [hs1]; exact CLe.refl _ _) rfl (.cons (s := 3) rfl (CLe.refl _ _) rfl .nil)); (· ((try dsimp only) <;> omega)); (· ((try dsimp only) <;> omega))) | ((have hs1 := best_step (p := p) hk2; rw [hb0, bstep_first hm] at hs1); refine Kloop.nextP (k + 1) ?_ ?_ ⟨same (by rw [hs1]; rfl), same (by rw [← w64_nat (k := k) (by omega)]; rfl), trivial⟩ ⟨same rfl, same rfl, same rfl, same rfl, trivial⟩ (.cons (s := 4) rfl (by rw [hs1]; exact CLe.box rfl) rfl (.cons (s := 3) rfl (CLe.refl _ _) rfl .nil)); (· ((try dsimp only) <;> omega)); (· ((try dsimp only) <;> omega))) | ((have hs1 := best_step (p := p) hk2; rw [hc, bstep_yes hm hbt] at hs1); refine Kloop.nextP (k + 1) ?_ ?_ ⟨same (by rw [hs1]; rfl), same (by rw [← w64_nat (k := k) (by omega)]; rfl), trivial⟩ ⟨same rfl, same rfl, same rfl, same rfl, trivial⟩ (.cons (s := 4) rfl (by rw [hs1]; exact CLe.box rfl) rfl (.cons (s := 3) rfl (CLe.refl _ _) rfl .nil)); (· ((try dsimp only) <;> omega)); (· ((try dsimp only) <;> omega))) | ((have hs1 := best_step (p := p) hk2; rw [hc, bstep_no hm hbn2, ← hc] at hs1); refine Kloop.nextP (k + 1) ?_ ?_ ⟨same (by rw [hs1]; rfl), same (by rw [← w64_nat (k := k) (by omega)]; rfl), trivial⟩ ⟨same rfl, same rfl, same rfl, same rfl, trivial⟩ (.cons (s := 4) rfl (by rw [hs1]; exact CLe.refl _ _) rfl (.cons (s := 3) rfl (CLe.refl _ _) rfl .nil)); (· ((try dsimp only) <;> omega)); (· ((try dsimp only) <;> omega)))
          · skip
            (first | have eg52 := of_decide_eq_true g52 | have eg52 := of_decide_eq_false g52 | have eg52 := ndec_t g52 | have eg52 := ndec_f g52 | skip)
            obtain ⟨c, hc⟩ : ∃ c, bestO p (l.take k) = some c := Option.isSome_iff_exists.1 (by simpa using g52)
            refine WL.yes (by rfl) (Ex.q (q_move (by rfl)) (by rfl) ?_)
            refine WL.yes (by rfl) (Ex.q (q_int (by rfl) (by rfl) (by rfl)) (by rfl) ?_)
            refine WL.yes (by rfl) (Ex.q (q_pick_f (by rfl) (by rfl)) (by rfl) ?_)
            refine WL.yes (by rfl) (Ex.q (q_move (by rfl)) (by rfl) ?_)
            refine WL.split 56 (by rfl) (fun g56 => ?_) (fun g56 => ?_)
            · skip
              (first | have eg56 := of_decide_eq_true g56 | have eg56 := of_decide_eq_false g56 | have eg56 := ndec_t g56 | have eg56 := ndec_f g56 | skip)
              (first | (have hbt : better (lat l k) c := .inl (by rw [hc] at eg56; simp only [Option.getD_some] at eg56; omega)) | skip)
              refine WL.no (by rfl) (by rfl) ?_
              refine WL.no (by rfl) (by rfl) ?_
              refine WL.no (by rfl) (by rfl) ?_
              refine WL.no (by rfl) (by rfl) ?_
              refine WL.no (by rfl) (by rfl) ?_
              refine WL.no (by rfl) (by rfl) ?_
              refine WL.no (by rfl) (by rfl) ?_
              refine WL.no (by rfl) (by rfl) ?_
              refine WL.no (by rfl) (by rfl) ?_
              refine WL.no (by rfl) (by rfl) ?_
              refine WL.no (by rfl) (by rfl) ?_
              refine WL.no (by rfl) (by rfl) ?_
              refine WL.no (by rfl) (by rfl) ?_
              refine WL.yes (by rfl) (Ex.q (q_pick_t (by rfl) (by rfl)) (by rfl) ?_)
              refine WL.nil ?_
              (repeat refine J.seq ?_)
              refine J.condT (by rfl) ?_
              (repeat refine J.seq ?_)
              refine J.region ?_
              first | (refine WL.yes (by rfl) (Ex.h (h_load (by rfl) (by rfl) (by rfl)) (by rfl) ?_)) | (refine WL.yes (by rfl) (Ex.q (q_load (by rfl) (by rfl) (by rfl)) (by rfl) ?_)) | (refine WL.yes (by rfl) (Ex.q (q_load_rop (by rfl) (by rfl)) (by rfl) ?_)) | (refine WL.yes (by rfl) (Ex.h (h_load_pel (by rfl) (by rfl) ?_ (by rfl)) (by rfl) ?_); (· (omega))) | (refine WL.yes (by rfl) (Ex.q (q_load_pel (by rfl) (by rfl) ?_ (by rfl)) (by rfl) ?_); (· (omega)))
              first | (refine WL.yes (by rfl) (Ex.store (by rfl) (by rfl) (by rfl) (by rfl) (by rfl) (by rfl) ?_)) | (refine WL.yes (by rfl) (Ex.store_pel (by rfl) (by rfl) (by rfl) (by rfl) (by rfl) ?_ (by rfl) ?_); (· (omega)))
              refine WL.yes (by rfl) (Ex.q (q_assign (by rfl)) (by rfl) ?_)
              refine WL.nil ?_
              (repeat refine J.seq ?_)
              refine J.region ?_
              refine WL.yes (by rfl) (Ex.q (q_int (by rfl) (by rfl) (by rfl)) (by rfl) ?_)
              refine WL.yes (by rfl) (Ex.q (q_move (by rfl)) (by rfl) ?_)
              refine WL.nil ?_
              first | ((have hs1 := best_step (p := p) hk2; rw [bstep_skip h0] at hs1); refine Kloop.nextP (k + 1) ?_ ?_ ⟨same (by rw [hs1]; rfl), same (by rw [← w64_nat (k := k) (by omega)]; rfl), trivial⟩ ⟨same rfl, same rfl, same rfl, same rfl, trivial⟩ (.cons (s := 4) rfl (by rw [hs1]; exact CLe.refl _ _) rfl (.cons (s := 3) rfl (CLe.refl _ _) rfl .nil)); (· ((try dsimp only) <;> omega)); (· ((try dsimp only) <;> omega))) | ((have hs1 := best_step (p := p) hk2; rw [hb0, bstep_first hm] at hs1); refine Kloop.nextP (k + 1) ?_ ?_ ⟨same (by rw [hs1]; rfl), same (by rw [← w64_nat (k := k) (by omega)]; rfl), trivial⟩ ⟨same rfl, same rfl, same rfl, same rfl, trivial⟩ (.cons (s := 4) rfl (by rw [hs1]; exact CLe.box rfl) rfl (.cons (s := 3) rfl (CLe.refl _ _) rfl .nil)); (· ((try dsimp only) <;> omega)); (· ((try dsimp only) <;> omega))) | ((have hs1 := best_step (p := p) hk2; rw [hc, bstep_yes hm hbt] at hs1); refine Kloop.nextP (k + 1) ?_ ?_ ⟨same (by rw [hs1]; rfl), same (by rw [← w64_nat (k := k) (by omega)]; rfl), trivial⟩ ⟨same rfl, same rfl, same rfl, same rfl, trivial⟩ (.cons (s := 4) rfl (by rw [hs1]; exact CLe.box rfl) rfl (.cons (s := 3) rfl (CLe.refl _ _) rfl .nil)); (· ((try dsimp only) <;> omega)); (· ((try dsimp only) <;> omega))) | ((have hs1 := best_step (p := p) hk2; rw [hc, bstep_no hm hbn2, ← hc] at hs1); refine Kloop.nextP (k + 1) ?_ ?_ ⟨same (by rw [hs1]; rfl), same (by rw [← w64_nat (k := k) (by omega)]; rfl), trivial⟩ ⟨same rfl, same rfl, same rfl, same rfl, trivial⟩ (.cons (s := 4) rfl (by rw [hs1]; exact CLe.refl _ _) rfl (.cons (s := 3) rfl (CLe.refl _ _) rfl .nil)); (· ((try dsimp only) <;> omega)); (· ((try dsimp only) <;> omega)))
            · skip
              (first | have eg56 := of_decide_eq_true g56 | have eg56 := of_decide_eq_false g56 | have eg56 := ndec_t g56 | have eg56 := ndec_f g56 | skip)
              have hb1 : ¬ c.p.d.n < (lat l k).p.d.n := by rw [hc] at eg56; simp only [Option.getD_some] at eg56; omega
              refine WL.yes (by rfl) (Ex.q (q_move (by rfl)) (by rfl) ?_)
              first | (refine WL.yes (by rfl) (Ex.q (q_int (by rfl) (by rfl) (by rfl)) (by rfl) ?_)) | (refine WL.yes (by rfl) (Ex.q (q_eqb (by rfl) (by rfl)) (by rfl) ?_)) | (refine WL.yes (by rfl) (Ex.q (q_eqp rfl rfl (by rfl) (by rfl) ?_) (by rfl) ?_); (· (rfl))) | (refine WL.yes (by rfl) (Ex.q (q_eqs (by rfl) (by rfl)) (by rfl) ?_))
              refine WL.yes (by rfl) (Ex.q (q_move (by rfl)) (by rfl) ?_)
              refine WL.split 59 (by rfl) (fun g59 => ?_) (fun g59 => ?_)
              · skip
                (first | have eg59 := of_decide_eq_true g59 | have eg59 := of_decide_eq_false g59 | have eg59 := ndec_t g59 | have eg59 := ndec_f g59 | skip)
                have hb2 : (lat l k).p.d.n = c.p.d.n := by rw [hc] at eg59; simp only [Option.getD_some] at eg59; omega
                first | (refine WL.yes (by rfl) (Ex.q (q_fieldAddr (by rfl)) (by rfl) ?_)) | (refine WL.yes (by rfl) (Ex.q (q_fieldAddr_rop (by rfl) (by rfl)) (by rfl) ?_)) | (refine WL.yes (by rfl) (Ex.q (q_fieldAddr_pel (by rfl)) (by rfl) ?_))
                first | (refine WL.yes (by rfl) (Ex.q (q_fieldAddr (by rfl)) (by rfl) ?_)) | (refine WL.yes (by rfl) (Ex.q (q_fieldAddr_rop (by rfl) (by rfl)) (by rfl) ?_)) | (refine WL.yes (by rfl) (Ex.q (q_fieldAddr_pel (by rfl)) (by rfl) ?_))
                first | (refine WL.yes (by rfl) (Ex.q (q_fieldAddr (by rfl)) (by rfl) ?_)) | (refine WL.yes (by rfl) (Ex.q (q_fieldAddr_rop (by rfl) (by rfl)) (by rfl) ?_)) | (refine WL.yes (by rfl) (Ex.q (q_fieldAddr_pel (by rfl)) (by rfl) ?_))
                first | (refine WL.yes (by rfl) (Ex.h (h_load (by rfl) (by rfl) (by rfl)) (by rfl) ?_)) | (refine WL.yes (by rfl) (Ex.q (q_load (by rfl) (by rfl) (by rfl)) (by rfl) ?_)) | (refine WL.yes (by rfl) (Ex.q (q_load_rop (by rfl) (by rfl)) (by rfl) ?_)) | (refine WL.yes (by rfl) (Ex.h (h_load_pel (by rfl) (by rfl) ?_ (by rfl)) (by rfl) ?_); (· (omega))) | (refine WL.yes (by rfl) (Ex.q (q_load_pel (by rfl) (by rfl) ?_ (by rfl)) (by rfl) ?_); (· (omega)))
                first | (refine WL.yes (by rfl) (Ex.q (q_fieldAddr (by rfl)) (by rfl) ?_)) | (refine WL.yes (by rfl) (Ex.q (q_fieldAddr_rop (by rfl) (by rfl)) (by rfl) ?_)) | (refine WL.yes (by rfl) (Ex.q (q_fieldAddr_pel (by rfl)) (by rfl) ?_))
                first | (refine WL.yes (by rfl) (Ex.q (q_fieldAddr (by rfl)) (by rfl) ?_)) | (refine WL.yes (by rfl) (Ex.q (q_fieldAddr_rop (by rfl) (by rfl)) (by rfl) ?_)) | (refine WL.yes (by rfl) (Ex.q (q_fieldAddr_pel (by rfl)) (by rfl) ?_))
                first | (refine WL.yes (by rfl) (Ex.q (q_fieldAddr (by rfl)) (by rfl) ?_)) | (refine WL.yes (by rfl) (Ex.q (q_fieldAddr_rop (by rfl) (by rfl)) (by rfl) ?_)) | (refine WL.yes (by rfl) (Ex.q (q_fieldAddr_pel (by rfl)) (by rfl) ?_))
                first | (refine WL.yes (by rfl) (Ex.h (h_load (by rfl) (by rfl) (by rfl)) (by rfl) ?_)) | (refine WL.yes (by rfl) (Ex.q (q_load (by rfl) (by rfl) (by rfl)) (by rfl) ?_)) | (refine WL.yes (by rfl) (Ex.q (q_load_rop (by rfl) (by rfl)) (by rfl) ?_)) | (refine WL.yes (by rfl) (Ex.h (h_load_pel (by rfl) (by rfl) ?_ (by rfl)) (by rfl) ?_); (· (omega))) | (refine WL.yes (by rfl) (Ex.q (q_load_pel (by rfl) (by rfl) ?_ (by rfl)) (by rfl) ?_); (· (omega)))
                refine WL.yes (by rfl) (Ex.q (q_int (by rfl) (by rfl) (by rfl)) (by rfl) ?_)
                refine WL.yes (by rfl) (Ex.q (q_pick_t (by rfl) (by rfl)) (by rfl) ?_)
                refine WL.yes (by rfl) (Ex.q (q_pick_f (by rfl) (by rfl)) (by rfl) ?_)
                refine WL.nil ?_
                (repeat refine J.seq ?_)
                refine J.cond (by rfl) (fun c70 => ?_) (fun c70 => ?_)
                · skip
                  (first | have e70 := of_decide_eq_true c70 | have e70 := of_decide_eq_false c70 | have e70 := ndec_t c70 | have e70 := ndec_f c70 | skip)
                  (first | (have hbt : better (lat l k) c := .inr ⟨hb2, by rw [hc] at e70; simpa only [Option.getD_some] using e70⟩) | skip)
                  (repeat refine J.seq ?_)
                  refine J.region ?_
                  first | (refine WL.yes (by rfl) (Ex.h (h_load (by rfl) (by rfl) (by rfl)) (by rfl) ?_)) | (refine WL.yes (by rfl) (Ex.q (q_load (by rfl) (by rfl) (by rfl)) (by rfl) ?_)) | (refine WL.yes (by rfl) (Ex.q (q_load_rop (by rfl) (by rfl)) (by rfl) ?_)) | (refine WL.yes (by rfl) (Ex.h (h_load_pel (by rfl) (by rfl) ?_ (by rfl)) (by rfl) ?_); (· (omega))) | (refine WL.yes (by rfl) (Ex.q (q_load_pel (by rfl) (by rfl) ?_ (by rfl)) (by rfl) ?_); (· (omega)))
                  first | (refine WL.yes (by rfl) (Ex.store (by rfl) (by rfl) (by rfl) (by rfl) (by rfl) (by rfl) ?_)) | (refine WL.yes (by rfl) (Ex.store_pel (by rfl) (by rfl) (by rfl) (by rfl) (by rfl) ?_ (by rfl) ?_); (· (omega)))
                  refine WL.yes (by rfl) (Ex.q (q_assign (by rfl)) (by rfl) ?_)
                  refine WL.nil ?_
                  (repeat refine J.seq ?_)
                  refine J.region ?_
                  refine WL.yes (by rfl) (Ex.q (q_int (by rfl) (by rfl) (by rfl)) (by rfl) ?_)
                  refine WL.yes (by rfl) (Ex.q (q_move (by rfl)) (by rfl) ?_)
                  refine WL.nil ?_
                  first | ((have hs1 := best_step (p := p) hk2; rw [bstep_skip h0] at hs1); refine Kloop.nextP (k + 1) ?_ ?_ ⟨same (by rw [hs1]; rfl), same (by rw [← w64_nat (k := k) (by omega)]; rfl), trivial⟩ ⟨same rfl, same rfl, same rfl, same rfl, trivial⟩ (.cons (s := 4) rfl (by rw [hs1]; exact CLe.refl _ _) rfl (.cons (s := 3) rfl (CLe.refl _ _) rfl .nil)); (· ((try dsimp only) <;> omega)); (· ((try dsimp only) <;> omega))) | ((have hs1 := best_step (p := p) hk2; rw [hb0, bstep_first hm] at hs1); refine Kloop.nextP (k + 1) ?_ ?_ ⟨same (by rw [hs1]; rfl), same (by rw [← w64_nat (k := k) (by omega)]; rfl), trivial⟩ ⟨same rfl, same rfl, same rfl, same rfl, trivial⟩ (.cons (s := 4) rfl (by rw [hs1]; exact CLe.box rfl) rfl (.cons (s := 3) rfl (CLe.refl _ _) rfl .nil)); (· ((try dsimp only) <;> omega)); (· ((try dsimp only) <;> omega))) | ((have hs1 := best_step (p := p) hk2; rw [hc, bstep_yes hm hbt] at hs1); refine Kloop.nextP (k + 1) ?_ ?_ ⟨same (by rw [hs1]; rfl), same (by rw [← w64_nat (k := k) (by omega)]; rfl), trivial⟩ ⟨same rfl, same rfl, same rfl, same rfl, trivial⟩ (.cons (s := 4) rfl (by rw [hs1]; exact CLe.box rfl) rfl (.cons (s := 3) rfl (CLe.refl _ _) rfl .nil)); (· ((try dsimp only) <;> omega)); (· ((try dsimp only) <;> omega))) | ((have hs1 := best_step (p := p) hk2; rw [hc, bstep_no hm hbn2, ← hc] at hs1); refine Kloop.nextP (k + 1) ?_ ?_ ⟨same (by rw [hs1]; rfl), same (by rw [← w64_nat (k := k) (by omega)]; rfl), trivial⟩ ⟨same rfl, same rfl, same rfl, same rfl, trivial⟩ (.cons (s := 4) rfl (by rw [hs1]; exact CLe.refl _ _) rfl (.cons (s := 3) rfl (CLe.refl _ _) rfl .nil)); (· ((try dsimp only) <;> omega)); (· ((try dsimp only) <;> omega)))
                · skip
                  (first | have e70 := of_decide_eq_true c70 | have e70 := of_decide_eq_false c70 | have e70 := ndec_t c70 | have e70 := ndec_f c70 | skip)
                  have hbn2 : ¬ better (lat l k) c := by
                    rw [hc] at e70
                    simp only [Option.getD_some] at e70
                    unfold better; omega
                  (repeat refine J.seq ?_)
                  refine J.skip ?_
                  (repeat refine J.seq ?_)
                  refine J.region ?_
                  refine WL.yes (by rfl) (Ex.q (q_int (by rfl) (by rfl) (by rfl)) (by rfl) ?_)
                  refine WL.yes (by rfl) (Ex.q (q_move (by rfl)) (by rfl) ?_)
                  refine WL.nil ?_
                  first | ((have hs1 := best_step (p := p) hk2; rw [bstep_skip h0] at hs1); refine Kloop.nextP (k + 1) ?_ ?_ ⟨same (by rw [hs1]; rfl), same (by rw [← w64_nat (k := k) (by omega)]; rfl), trivial⟩ ⟨same rfl, same rfl, same rfl, same rfl, trivial⟩ (.cons (s := 4) rfl (by rw [hs1]; exact CLe.refl _ _) rfl (.cons (s := 3) rfl (CLe.refl _ _) rfl .nil)); (· ((try dsimp only) <;> omega)); (· ((try dsimp only) <;> omega))) | ((have hs1 := best_step (p := p) hk2; rw [hb0, bstep_first hm] at hs1); refine Kloop.nextP (k + 1) ?_ ?_ ⟨same (by rw [hs1]; rfl), same (by rw [← w64_nat (k := k) (by omega)]; rfl), trivial⟩ ⟨same rfl, same rfl, same rfl, same rfl, trivial⟩ (.cons (s := 4) rfl (by rw [hs1]; exact CLe.box rfl) rfl (.cons (s := 3) rfl (CLe.refl _ _) rfl .nil)); (· ((try dsimp only) <;> omega)); (· ((try dsimp only) <;> omega))) | ((have hs1 := best_step (p := p) hk2; rw [hc, bstep_yes hm hbt] at hs1); refine Kloop.nextP (k + 1) ?_ ?_ ⟨same (by rw [hs1]; rfl), same (by rw [← w64_nat (k := k) (by omega)]; rfl), trivial⟩ ⟨same rfl, same rfl, same rfl, same rfl, trivial⟩ (.cons (s := 4) rfl (by rw [hs1]; exact CLe.box rfl) rfl (.cons (s := 3) rfl (CLe.refl _ _) rfl .nil)); (· ((try dsimp only) <;> omega)); (· ((try dsimp only) <;> omega))) | ((have hs1 := best_step (p := p) hk2; rw [hc, bstep_no hm hbn2, ← hc] at hs1); refine Kloop.nextP (k + 1) ?_ ?_ ⟨same (by rw [hs1]; rfl), same (by rw [← w64_nat (k := k) (by omega)]; rfl), trivial⟩ ⟨same rfl, same rfl, same rfl, same rfl, trivial⟩ (.cons (s := 4) rfl (by rw [hs1]; exact CLe.refl _ _) rfl (.cons (s := 3) rfl (CLe.refl _ _) rfl .nil)); (· ((try dsimp only) <;> omega)); (· ((try dsimp only) <;> omega)))
              · skip
                (first | have eg59 := of_decide_eq_true g59 | have eg59 := of_decide_eq_false g59 | have eg59 := ndec_t g59 | have eg59 := ndec_f g59 | skip)
                have hb2 : ¬ (lat l k).p.d.n = c.p.d.n := by rw [hc] at eg59; simp only [Option.getD_some] at eg59; omega
                have hbn2 : ¬ better (lat l k) c := by unfold better; omega
                refine WL.no (by rfl) (by rfl) ?_
                refine WL.no (by rfl) (by rfl) ?_
                refine WL.no (by rfl) (by rfl) ?_
                refine WL.no (by rfl) (by rfl) ?_
                refine WL.no (by rfl) (by rfl) ?_
                refine WL.no (by rfl) (by rfl) ?_
                refine WL.no (by rfl) (by rfl) ?_
                refine WL.no (by rfl) (by rfl) ?_
                refine WL.no (by rfl) (by rfl) ?_
                refine WL.yes (by rfl) (Ex.q (q_pick_f (by rfl) (by rfl)) (by rfl) ?_)
                refine WL.yes (by rfl) (Ex.q (q_pick_f (by rfl) (by rfl)) (by rfl) ?_)
                refine WL.nil ?_
                (repeat refine J.seq ?_)
                refine J.condF (by rfl) ?_
                (repeat refine J.seq ?_)
                refine J.skip ?_
                (repeat refine J.seq ?_)
                refine J.region ?_
                refine WL.yes (by rfl) (Ex.q (q_int (by rfl) (by rfl) (by rfl)) (by rfl) ?_)
                refine WL.yes (by rfl) (Ex.q (q_move (by rfl)) (by rfl) ?_)
                refine WL.nil ?_
                first | ((have hs1 := best_step (p := p) hk2; rw [bstep_skip h0] at hs1); refine Kloop.nextP (k + 1) ?_ ?_ ⟨same (by rw [hs1]; rfl), same (by rw [← w64_nat (k := k) (by omega)]; rfl), trivial⟩ ⟨same rfl, same rfl, same rfl, same rfl, trivial⟩ (.cons (s := 4) rfl (by rw [hs1]; exact CLe.refl _ _) rfl (.cons (s := 3) rfl (CLe.refl _ _) rfl .nil)); (· ((try dsimp only) <;> omega)); (· ((try dsimp only) <;> omega))) | ((have hs1 := best_step (p := p) hk2; rw [hb0, bstep_first hm] at hs1); refine Kloop.nextP (k + 1) ?_ ?_ ⟨same (by rw [hs1]; rfl), same (by rw [← w64_nat (k := k) (by omega)]; rfl), trivial⟩ ⟨same rfl, same rfl, same rfl, same rfl, trivial⟩ (.cons (s := 4) rfl (by rw [hs1]; exact CLe.box rfl) rfl (.cons (s := 3) rfl (CLe.refl _ _) rfl .nil)); (· ((try dsimp only) <;> omega)); (· ((try dsimp only) <;> omega))) | ((have hs1 := best_step (p := p) hk2; rw [hc, bstep_yes hm hbt] at hs1); refine Kloop.nextP (k + 1) ?_ ?_ ⟨same (by rw [hs1]; rfl), same (by rw [← w64_nat (k := k) (by omega)]; rfl), trivial⟩ ⟨same rfl, same rfl, same rfl, same rfl, trivial⟩ (.cons (s := 4) rfl (by rw [hs1]; exact CLe.box rfl) rfl (.cons (s := 3) rfl (CLe.refl _ _) rfl .nil)); (· ((try dsimp only) <;> omega)); (· ((try dsimp only) <;> omega))) | ((have hs1 := best_step (p := p) hk2; rw [hc, bstep_no hm hbn2, ← hc] at hs1); refine Kloop.nextP (k + 1) ?_ ?_ ⟨same (by rw [hs1]; rfl), same (by rw [← w64_nat (k := k) (by omega)]; rfl), trivial⟩ ⟨same rfl, same rfl, same rfl, same rfl, trivial⟩ (.cons (s := 4) rfl (by rw [hs1]; exact CLe.refl _ _) rfl (.cons (s := 3) rfl (CLe.refl _ _) rfl .nil)); (· ((try dsimp only) <;> omega)); (· ((try dsimp only) <;> omega)))
  · skip
    (first | have e12 := of_decide_eq_true c12 | have e12 := of_decide_eq_false c12 | have e12 := ndec_t c12 | have e12 := ndec_f c12 | skip)
    (repeat refine J.seq ?_)
    refine J.exit ?_
    (repeat refine J.seq ?_)
    refine J.region ?_
    first | (refine WL.yes (by rfl) (Ex.h (h_load (by rfl) (by rfl) (by rfl)) (by rfl) ?_)) | (refine WL.yes (by rfl) (Ex.q (q_load (by rfl) (by rfl) (by rfl)) (by rfl) ?_)) | (refine WL.yes (by rfl) (Ex.q (q_load_rop (by rfl) (by rfl)) (by rfl) ?_)) | (refine WL.yes (by rfl) (Ex.h (h_load_pel (by rfl) (by rfl) ?_ (by rfl)) (by rfl) ?_); (· (omega))) | (refine WL.yes (by rfl) (Ex.q (q_load_pel (by rfl) (by rfl) ?_ (by rfl)) (by rfl) ?_); (· (omega)))
    first | (refine WL.yes (by rfl) (Ex.store (by rfl) (by rfl) (by rfl) (by rfl) (by rfl) (by rfl) ?_)) | (refine WL.yes (by rfl) (Ex.store_pel (by rfl) (by rfl) (by rfl) (by rfl) (by rfl) ?_ (by rfl) ?_); (· (omega)))
    refine WL.nil ?_
    (repeat refine J.seq ?_)
    refine J.ret ?_
    (repeat (with_reducible first | refine Kseq.ret ?_ | refine Kblock.ret ?_ | refine Kloop.ret ?_ | refine Kcut.ret ?_))
    refine Kret.mk [] (.cell inferInstance (by rfl) (by rfl) (by rfl) (.nil)) (by rfl) trivial (HLe.nil _ _) ?_
    refine ⟨?_, rfl⟩
    rw [show l.take k = l from List.take_of_length_le (by omega)]
    rfl

end Go.Vm
