/- Put: the walk. -/
import Derived.Test.YtimkkhefemnkpaaF2
namespace Go.Vm
open Go Go.Proofs
theorem downto {P : Nat → Prop} {k n : Nat} (h : ∀ j, k ≤ j → j < n → P j) (hk : P (k - 1)) : ∀ j, k - 1 ≤ j → j < n → P j := fun j h1 h2 => by
  by_cases e : j = k - 1
  · subst e; exact hk
  · exact h j (by omega) h2
theorem w64_pred {k : Nat} (h : 0 < k) (h2 : k < 9223372036854775807) : IntKind.i64.wrap ((k : Int) - 1) = ((k - 1 : Nat) : Int) := by
  rw [w64 (by omega) (by omega)]; omega

set_option maxHeartbeats 16000000 in
set_option maxRecDepth 100000 in
theorem put_spec {a : Option Addr} {cap : Nat} {l : List En} {e : En} (hl : l.length ≤ 1000000) (ho : TOk l) (he : e.ok) : Spec Try.prog 44 [lros a cap enE l, enE e] [] (fun r H' => ∃ a' cap', r = .sl 2044 a' 51 0 cap' (tput e l).length ∧ H' = [(2044, lvec a' 37 51 cap' enE (tput e l))]) := by
  refine Spec.of_J Try.func44 rfl Try.ntmps44 Try.results44 rfl ?_
  intro A F hAF
  (repeat refine J.seq ?_)
  refine J.region ?_
  refine WL.yes (by rfl) (Ex.box (by rfl) (by rfl) (by rfl) ?_)
  intro b3
  refine WL.yes (by rfl) (Ex.q (q_assign (by rfl)) (by rfl) ?_)
  refine WL.nil ?_
  (repeat refine J.seq ?_)
  refine J.region ?_
  refine WL.yes (by rfl) (Ex.buildSlice (parts := []) (us := []) (by rfl) (by rfl) rfl (by rfl) (by rfl) ?_)
  intro b7
  refine WL.yes (by rfl) (Ex.q (q_move (by rfl)) (by rfl) ?_)
  refine WL.yes (by rfl) (Ex.append0 enE (l' := l) (by rfl) (by rfl) (by rfl) (by rfl) (.ros rfl (fun _ => rfl) (fun _ _ => rfl)) ?_ ?_); (· (omega))
  intro a9 cap9
  refine WL.yes (by rfl) (Ex.q (q_assign (by rfl)) (by rfl) ?_)
  refine WL.nil ?_
  (repeat refine J.seq ?_)
  refine J.region ?_
  refine WL.yes (by rfl) (Ex.q (q_move (by rfl)) (by rfl) ?_)
  first | (refine WL.yes (by rfl) (Ex.q (q_fieldAddr (by rfl)) (by rfl) ?_)) | (refine WL.yes (by rfl) (Ex.q (q_fieldAddr_rop (by rfl) (by rfl)) (by rfl) ?_)) | (refine WL.yes (by rfl) (Ex.q (q_fieldAddr_pel (by rfl)) (by rfl) ?_))
  first | (refine WL.yes (by rfl) (Ex.h (h_load (by rfl) (by rfl) (by rfl)) (by rfl) ?_)) | (refine WL.yes (by rfl) (Ex.q (q_load (by rfl) (by rfl) (by rfl)) (by rfl) ?_)) | (refine WL.yes (by rfl) (Ex.q (q_load_rop (by rfl) (by rfl)) (by rfl) ?_)) | (refine WL.yes (by rfl) (Ex.h (h_load_pel (by rfl) (by rfl) ?_ (by rfl)) (by rfl) ?_); (· (omega))) | (refine WL.yes (by rfl) (Ex.q (q_load_pel (by rfl) (by rfl) ?_ (by rfl)) (by rfl) ?_); (· (omega)))
  refine WL.yes (by rfl) (Ex.callqz (find_spec ?_ ?_ ?_) (by rfl) (by rfl) (.cons (.sla (by rfl)) (.cons (.same _) .nil)) (fun _ => trivial) ?_); (· (omega)); (· (exact ho.ok)); (· (exact he.1))
  refine WL.yes (by rfl) (Ex.q (q_assign (by rfl)) (by rfl) ?_)
  refine WL.nil ?_
  (repeat refine J.seq ?_)
  refine J.region ?_
  refine WL.yes (by rfl) (Ex.q (q_move (by rfl)) (by rfl) ?_)
  refine WL.yes (by rfl) (Ex.q (q_int (by rfl) (by rfl) (by rfl)) (by rfl) ?_)
  refine WL.nil ?_
  (repeat refine J.seq ?_)
  refine J.cond (by rfl) (fun c15 => ?_) (fun c15 => ?_)
  · skip
    (first | have e15 := of_decide_eq_true c15 | have e15 := of_decide_eq_false c15 | have e15 := ndec_t c15 | have e15 := ndec_f c15 | skip)
    obtain ⟨k0, hk0, hk1, hk2⟩ := fnd_ge (by omega)
    refine J.vecsome (t := 9) rfl (by omega) ?_
    intro b9 hb9
    subst hb9
    rw [hk0]
    (repeat refine J.seq ?_)
    refine J.region ?_
    refine WL.yes (by rfl) (Ex.q (q_move (by rfl)) (by rfl) ?_)
    refine WL.yes (by rfl) (Ex.q (q_move (by rfl)) (by rfl) ?_)
    first | (refine WL.yes (by rfl) (Ex.h (h_load (by rfl) (by rfl) (by rfl)) (by rfl) ?_)) | (refine WL.yes (by rfl) (Ex.q (q_load (by rfl) (by rfl) (by rfl)) (by rfl) ?_)) | (refine WL.yes (by rfl) (Ex.q (q_load_rop (by rfl) (by rfl)) (by rfl) ?_)) | (refine WL.yes (by rfl) (Ex.h (h_load_pel (by rfl) (by rfl) ?_ (by rfl)) (by rfl) ?_); (· (omega))) | (refine WL.yes (by rfl) (Ex.q (q_load_pel (by rfl) (by rfl) ?_ (by rfl)) (by rfl) ?_); (· (omega)))
    first | (refine WL.yes (by rfl) (Ex.q (q_indexAddr_ros (by rfl) (by rfl) (by intro _; rfl) ?_ ?_) (by rfl) ?_); (· (omega)); (· (omega))) | (refine WL.yes (by rfl) (Ex.q (q_indexAddr_sl (by rfl) (by rfl) ?_ ?_) (by rfl) ?_); (· (omega)); (· (omega))) | (refine WL.yes (by rfl) (Ex.q (q_indexAddr_arr (by rfl) (by rfl) ?_ ?_) (by rfl) ?_); (· (omega)); (· (omega)))
    first | (refine WL.yes (by rfl) (Ex.store (by rfl) (by rfl) (by rfl) (by rfl) (by rfl) (by rfl) ?_)) | (refine WL.yes (by rfl) (Ex.store_pel (by rfl) (by rfl) (by rfl) (by rfl) (by rfl) ?_ (by rfl) ?_); (· (omega)))
    refine WL.nil ?_
    (repeat refine J.seq ?_)
    refine J.region ?_
    refine WL.yes (by rfl) (Ex.q (q_move (by rfl)) (by rfl) ?_)
    refine WL.yes (by rfl) (Ex.q (q_assign (by rfl)) (by rfl) ?_)
    refine WL.nil ?_
    (repeat refine J.seq ?_)
    refine J.ret ?_
    (repeat (with_reducible first | refine Kseq.ret ?_ | refine Kblock.ret ?_ | refine Kloop.ret ?_ | refine Kcut.ret ?_))
    first
      | (have ht := tput_set ho hk1 hk2; refine Kret.mk2 (vs := [_]) (.sl 2044 (some b9) 51 0 cap9 (tput e l).length) [(2044, lvec (some b9) 37 51 cap9 enE (tput e l))] (.tmp (by rfl) .nil) (by rfl) trivial (by rw [← ht, List.length_set]; rfl) (fun _ _ => trivial) (HLe.sub (.cons (s := 9) rfl (by rw [← ht]; exact CLe.setv hk1) rfl .nil)) ⟨_, _, rfl, rfl⟩)
      | (have ht := tput_ins ho hk hneg hz hng; refine Kret.mk2 (vs := [_]) (.sl 2044 a50 51 0 cap50 (tput e l).length) [(2044, lvec a50 37 51 cap50 enE (tput e l))] (.tmp (by rfl) .nil) (by rfl) trivial (by rw [← ht]; cases a50 <;> rfl) (fun _ _ => trivial) (HLe.sub (.cons (s := 50) rfl (by rw [ht]; exact CLe.refl _ _) rfl .nil)) ⟨_, _, rfl, rfl⟩)
  · skip
    (first | have e15 := of_decide_eq_true c15 | have e15 := of_decide_eq_false c15 | have e15 := ndec_t c15 | have e15 := ndec_f c15 | skip)
    have hneg := fnd_neg (p := e.p) (l := l) (by omega)
    (repeat refine J.seq ?_)
    refine J.skip ?_
    (repeat refine J.seq ?_)
    refine J.region ?_
    refine WL.yes (by rfl) (Ex.q (q_move (by rfl)) (by rfl) ?_)
    first | (refine WL.yes (by rfl) (Ex.q (q_len_slice (by rfl) (by rfl)) (by rfl) ?_)) | (refine WL.yes (by rfl) (Ex.q (q_len_string (by rfl)) (by rfl) ?_))
    refine WL.yes (by rfl) (Ex.q (q_assign (by rfl)) (by rfl) ?_)
    refine WL.nil ?_
    (repeat refine J.seq ?_)
    refine J.block ?_
    (repeat refine J.seq ?_)
    refine J.loopP (fun x : Nat => x ≤ l.length ∧ ∀ j, x ≤ j → j < l.length → 0 < cmpR (lat l j).p e.p) (fun x => [(6, iV x)]) (fun x => []) (fun x => x) (l.length) [(0, _), (3, _)] [(3, _), (9, _)] ⟨same rfl, same rfl, trivial⟩ ⟨same rfl, trivial⟩ (.cons (s := 3) rfl (CLe.refl _ _) rfl (.cons (s := 9) rfl (CLe.refl _ _) rfl .nil)) ?_ ?_
    · (exact ⟨Nat.le_refl _, fun j h1 h2 => by omega⟩)
    rintro k hx
    (try dsimp only at hx)
    obtain ⟨hk, hz⟩ := hx
    (repeat refine J.seq ?_)
    refine J.draw [3, 9] 9999 [(0, true), (1, true), (2, true), (3, true), (4, true), (5, true), (6, true), (7, true), (8, true), (9, true), (10, true), (11, false), (12, true), (13, true)] (by kernel_rfl) rfl (by kernel_rfl) ?_
    intro F1 hF1
    refine WS.take rfl (by rfl) (by rfl) (q_move (by rfl)) ?_
    refine WS.take rfl (by rfl) (by rfl) (q_int (by rfl) (by rfl) (by rfl)) ?_
    refine WS.take rfl (by rfl) (by rfl) (q_move (by rfl)) ?_
    refine WS.split 25 (by rfl) (fun g25 => ?_) (fun g25 => ?_)
    · skip
      (first | have eg25 := of_decide_eq_true g25 | have eg25 := of_decide_eq_false g25 | have eg25 := ndec_t g25 | have eg25 := ndec_f g25 | skip)
      refine WS.take rfl (by rfl) (by rfl) (q_move (by rfl)) ?_
      refine WS.take rfl (by rfl) (by rfl) (q_move (by rfl)) ?_
      refine WS.take rfl (by rfl) (by rfl) (q_int (by rfl) (by rfl) (by rfl)) ?_
      refine WS.vecsome (t := 9) rfl (by omega) ?_
      intro b9 hb9
      subst hb9
      have hk3 : (lat l (0 + (((k - 1 : Nat) : Int)).toNat)).p.ok := (lat_ok ho.ok (by omega)).1
      refine WS.set 28 (iV ((k - 1 : Nat) : Int)) (by rfl) (congrArg iV (w64_pred (by omega) (by omega)).symm) ?_
      first | (refine WS.take rfl (by rfl) (by rfl) (q_indexAddr_ros (by rfl) (by rfl) (by intro _; rfl) ?_ ?_) ?_; (· (omega)); (· (omega))) | (refine WS.take rfl (by rfl) (by rfl) (q_indexAddr_sl (by rfl) (by rfl) ?_ ?_) ?_; (· (omega)); (· (omega))) | (refine WS.take rfl (by rfl) (by rfl) (q_indexAddr_arr (by rfl) (by rfl) ?_ ?_) ?_; (· (omega)); (· (omega)))
      first | (refine WS.take rfl (by rfl) (by rfl) (q_fieldAddr (by rfl)) ?_) | (refine WS.take rfl (by rfl) (by rfl) (q_fieldAddr_rop (by rfl) (by rfl)) ?_) | (refine WS.take rfl (by rfl) (by rfl) (q_fieldAddr_pel (by rfl)) ?_)
      first | (refine WS.take rfl (by rfl) (by rfl) (q_load (by rfl) (by rfl) (by rfl)) ?_) | (refine WS.take rfl (by rfl) (by rfl) (q_load_rop (by rfl) (by rfl)) ?_) | (refine WS.take rfl (by rfl) (by rfl) (q_load_pel (by rfl) (by rfl) ?_ (by rfl)) ?_; (· (omega)))
      first | (refine WS.take rfl (by rfl) (by rfl) (q_fieldAddr (by rfl)) ?_) | (refine WS.take rfl (by rfl) (by rfl) (q_fieldAddr_rop (by rfl) (by rfl)) ?_) | (refine WS.take rfl (by rfl) (by rfl) (q_fieldAddr_pel (by rfl)) ?_)
      first | (refine WS.take rfl (by rfl) (by rfl) (q_load (by rfl) (by rfl) (by rfl)) ?_) | (refine WS.take rfl (by rfl) (by rfl) (q_load_rop (by rfl) (by rfl)) ?_) | (refine WS.take rfl (by rfl) (by rfl) (q_load_pel (by rfl) (by rfl) ?_ (by rfl)) ?_; (· (omega)))
      refine WS.ex rfl (by rfl) (Ex.callq (cmpPrR_spec _ _ _ _ ?_ ?_ ?_ ?_) (by rfl) (by rfl) rfl (fun _ h => h) ?_); (· (exact hk3.1)); (· (exact hk3.2)); (· (exact he.1.1)); (· (exact he.1.2))
      refine WS.take rfl (by rfl) (by rfl) (q_int (by rfl) (by rfl) (by rfl)) ?_
      refine WS.take rfl (by rfl) (by rfl) (q_pick_t (by rfl) (by rfl)) ?_
      refine WS.nil ?_
      (repeat refine J.seq ?_)
      refine J.cond (by rfl) (fun c36 => ?_) (fun c36 => ?_)
      · skip
        (first | have e36 := of_decide_eq_true c36 | have e36 := of_decide_eq_false c36 | have e36 := ndec_t c36 | have e36 := ndec_f c36 | skip)
        have hgt : 0 < cmpR (lat l (k - 1)).p e.p := by
          have h9 := of_decide_eq_true c36
          rw [Int.toNat_natCast, Nat.zero_add] at h9
          exact h9
        (repeat refine J.seq ?_)
        refine J.skip ?_
        (repeat refine J.seq ?_)
        refine J.block ?_
        (repeat refine J.seq ?_)
        refine J.region ?_
        refine WL.yes (by rfl) (Ex.q (q_move (by rfl)) (by rfl) ?_)
        refine WL.yes (by rfl) (Ex.q (q_int (by rfl) (by rfl) (by rfl)) (by rfl) ?_)
        refine WL.yes (by rfl) (Ex.q (q_assign (by rfl)) (by rfl) ?_)
        refine WL.nil ?_
        refine Kloop.nextP (k - 1) ?_ ?_ ⟨(same (by rw [← w64_pred (k := k) (by omega) (by omega)]; rfl)), trivial⟩ ⟨same rfl, same rfl, trivial⟩ (.cons (s := 3) rfl (CLe.refl _ _) rfl (.cons (s := 9) rfl (CLe.refl _ _) rfl .nil))
        · (exact ⟨by omega, downto hz hgt⟩)
        · ((try dsimp only) <;> omega)
      · skip
        (first | have e36 := of_decide_eq_true c36 | have e36 := of_decide_eq_false c36 | have e36 := ndec_t c36 | have e36 := ndec_f c36 | skip)
        have hng : k = 0 ∨ ¬ 0 < cmpR (lat l (k - 1)).p e.p := .inr (by
          have h9 := of_decide_eq_false c36
          rw [Int.toNat_natCast, Nat.zero_add] at h9
          exact h9)
        (repeat refine J.seq ?_)
        refine J.exit ?_
        (repeat refine J.seq ?_)
        refine J.veccap (t := 9) rfl (fun hcap9 => ?_)
        refine J.drawT [3, 9] 9999 (by kernel_rfl) (by kernel_rfl) ?_
        intro F2 hF2
        refine WT.take (i := 1) rfl (by rfl) (by rfl) (by kernel_rfl) (q_move (by rfl)) ?_
        refine WT.take (i := 2) rfl (by rfl) (by rfl) (by kernel_rfl) (q_move (by rfl)) ?_
        first | (refine WT.take (i := 3) rfl (by rfl) (by rfl) (by kernel_rfl) (q_slice_arr (by rfl) (by rfl) (by rfl) ?_ ?_ ?_) ?_; (· (omega)); (· (omega)); (· (omega))) | (refine WT.take (i := 3) rfl (by rfl) (by rfl) (by kernel_rfl) (q_slice_ros (by rfl) (by intro _; rfl) (by rfl) (by rfl) ?_ ?_ ?_) ?_; (· (omega)); (· (omega)); (· (omega))) | (refine WT.take (i := 3) rfl (by rfl) (by rfl) (by kernel_rfl) (q_slice_sl (by rfl) (by rfl) (by rfl) ?_ ?_ ?_) ?_; (· (omega)); (· (omega)); (· (omega))) | (refine WT.take (i := 3) rfl (by rfl) (by rfl) (by kernel_rfl) (q_slice_sla (by rfl) (by rfl) (Nat.le_refl _) (by rfl) (by rfl) ?_ ?_ ?_) ?_; (· (omega)); (· (omega)); (· (omega)))
        first | (refine WT.take (i := 5) rfl (by rfl) (by rfl) (by kernel_rfl) (q_load (by rfl) (by rfl) (by rfl)) ?_) | (refine WT.take (i := 5) rfl (by rfl) (by rfl) (by kernel_rfl) (q_load_rop (by rfl) (by rfl)) ?_) | (refine WT.take (i := 5) rfl (by rfl) (by rfl) (by kernel_rfl) (q_load_pel (by rfl) (by rfl) ?_ (by rfl)) ?_; (· (omega)))
        refine WT.take (i := 8) rfl (by rfl) (by rfl) (by kernel_rfl) (q_move (by rfl)) ?_
        refine WT.take (i := 9) rfl (by rfl) (by rfl) (by kernel_rfl) (q_move (by rfl)) ?_
        first | (refine WT.take (i := 10) rfl (by rfl) (by rfl) (by kernel_rfl) (q_slice_arr (by rfl) (by rfl) (by rfl) ?_ ?_ ?_) ?_; (· (omega)); (· (omega)); (· (omega))) | (refine WT.take (i := 10) rfl (by rfl) (by rfl) (by kernel_rfl) (q_slice_ros (by rfl) (by intro _; rfl) (by rfl) (by rfl) ?_ ?_ ?_) ?_; (· (omega)); (· (omega)); (· (omega))) | (refine WT.take (i := 10) rfl (by rfl) (by rfl) (by kernel_rfl) (q_slice_sl (by rfl) (by rfl) (by rfl) ?_ ?_ ?_) ?_; (· (omega)); (· (omega)); (· (omega))) | (refine WT.take (i := 10) rfl (by rfl) (by rfl) (by kernel_rfl) (q_slice_sla (by rfl) (by rfl) (Nat.le_refl _) (by rfl) (by rfl) ?_ ?_ ?_) ?_; (· (omega)); (· (omega)); (· (omega)))
        refine WT.two (i := 0) (j := 6) rfl rfl (by rfl) (by rfl) (by kernel_rfl) ?_ ?_
        · skip
          refine Ex.buildSlice (parts := []) (us := []) (by rfl) (by rfl) rfl (by rfl) (by rfl) ?_
          intro b39
          refine WT.two (i := 4) (j := 6) rfl rfl (by rfl) (by rfl) (by kernel_rfl) ?_ ?_
          · skip
            refine Ex.append0 enE (l' := l.take k) (by rfl) (by rfl) (by rfl) (by rfl) (Rd.subR _ (by rfl) ?_ ?_) ?_ ?_
            · (exact take_in hk)
            · (exact take_sl)
            · (simp; omega)
            intro a43 cap43
            refine WT.one (i := 6) rfl (by rfl) (by kernel_rfl) (Ex.buildSlice (parts := [(0, .tmp 44)]) (us := [_]) (by rfl) (by rfl) rfl (by rfl) (by rfl) ?_)
            intro b45
            refine WT.one (i := 7) rfl (by rfl) (by kernel_rfl) (Ex.append (e := enE) (l := (l.take k)) (l' := [e]) (by rfl) (by rfl) (by rfl) (by rfl) (Rd.lit [e] rfl rfl rfl) ?_ ?_); (· (simp; omega))
            intro a46 cap46
            refine WT.one (i := 11) rfl (by rfl) (by kernel_rfl) (Ex.append (e := enE) (l := (l.take k ++ [e])) (l' := l.drop k) (by rfl) (by rfl) (by rfl) (by rfl) (Rd.subR _ (by rfl) ?_ ?_) ?_ ?_); (· (exact drop_in hcap9 hk)); (· (exact drop_sl hcap9 hk)); (· (simp; omega))
            intro a50 cap50
            refine WT.take (i := 12) rfl (by rfl) (by rfl) (by kernel_rfl) (q_assign (by rfl)) ?_
            refine WT.nil (by kernel_rfl) ?_
            (repeat refine J.seq ?_)
            refine J.ret ?_
            (repeat (with_reducible first | refine Kseq.ret ?_ | refine Kblock.ret ?_ | refine Kloop.ret ?_ | refine Kcut.ret ?_))
            first
              | (have ht := tput_set ho hk1 hk2; refine Kret.mk2 (vs := [_]) (.sl 2044 (some b9) 51 0 cap9 (tput e l).length) [(2044, lvec (some b9) 37 51 cap9 enE (tput e l))] (.tmp (by rfl) .nil) (by rfl) trivial (by rw [← ht, List.length_set]; rfl) (fun _ _ => trivial) (HLe.sub (.cons (s := 9) rfl (by rw [← ht]; exact CLe.setv hk1) rfl .nil)) ⟨_, _, rfl, rfl⟩)
              | (have ht := tput_ins ho hk hneg hz hng; refine Kret.mk2 (vs := [_]) (.sl 2044 a50 51 0 cap50 (tput e l).length) [(2044, lvec a50 37 51 cap50 enE (tput e l))] (.tmp (by rfl) .nil) (by rfl) trivial (by rw [← ht]; cases a50 <;> rfl) (fun _ _ => trivial) (HLe.sub (.cons (s := 50) rfl (by rw [ht]; exact CLe.refl _ _) rfl .nil)) ⟨_, _, rfl, rfl⟩)
          · skip
            refine Ex.buildSlice (parts := [(0, .tmp 44)]) (us := [_]) (by rfl) (by rfl) rfl (by rfl) (by rfl) ?_
            intro b45
            refine WT.one (i := 4) rfl (by rfl) (by kernel_rfl) (Ex.append0 enE (l' := l.take k) (by rfl) (by rfl) (by rfl) (by rfl) (Rd.subR _ (by rfl) ?_ ?_) ?_ ?_); (· (exact take_in hk)); (· (exact take_sl)); (· (simp; omega))
            intro a43 cap43
            refine WT.one (i := 7) rfl (by rfl) (by kernel_rfl) (Ex.append (e := enE) (l := (l.take k)) (l' := [e]) (by rfl) (by rfl) (by rfl) (by rfl) (Rd.lit [e] rfl rfl rfl) ?_ ?_); (· (simp; omega))
            intro a46 cap46
            refine WT.one (i := 11) rfl (by rfl) (by kernel_rfl) (Ex.append (e := enE) (l := (l.take k ++ [e])) (l' := l.drop k) (by rfl) (by rfl) (by rfl) (by rfl) (Rd.subR _ (by rfl) ?_ ?_) ?_ ?_); (· (exact drop_in hcap9 hk)); (· (exact drop_sl hcap9 hk)); (· (simp; omega))
            intro a50 cap50
            refine WT.take (i := 12) rfl (by rfl) (by rfl) (by kernel_rfl) (q_assign (by rfl)) ?_
            refine WT.nil (by kernel_rfl) ?_
            (repeat refine J.seq ?_)
            refine J.ret ?_
            (repeat (with_reducible first | refine Kseq.ret ?_ | refine Kblock.ret ?_ | refine Kloop.ret ?_ | refine Kcut.ret ?_))
            first
              | (have ht := tput_set ho hk1 hk2; refine Kret.mk2 (vs := [_]) (.sl 2044 (some b9) 51 0 cap9 (tput e l).length) [(2044, lvec (some b9) 37 51 cap9 enE (tput e l))] (.tmp (by rfl) .nil) (by rfl) trivial (by rw [← ht, List.length_set]; rfl) (fun _ _ => trivial) (HLe.sub (.cons (s := 9) rfl (by rw [← ht]; exact CLe.setv hk1) rfl .nil)) ⟨_, _, rfl, rfl⟩)
              | (have ht := tput_ins ho hk hneg hz hng; refine Kret.mk2 (vs := [_]) (.sl 2044 a50 51 0 cap50 (tput e l).length) [(2044, lvec a50 37 51 cap50 enE (tput e l))] (.tmp (by rfl) .nil) (by rfl) trivial (by rw [← ht]; cases a50 <;> rfl) (fun _ _ => trivial) (HLe.sub (.cons (s := 50) rfl (by rw [ht]; exact CLe.refl _ _) rfl .nil)) ⟨_, _, rfl, rfl⟩)
        · skip
          refine Ex.buildSlice (parts := [(0, .tmp 44)]) (us := [_]) (by rfl) (by rfl) rfl (by rfl) (by rfl) ?_
          intro b45
          refine WT.one (i := 0) rfl (by rfl) (by kernel_rfl) (Ex.buildSlice (parts := []) (us := []) (by rfl) (by rfl) rfl (by rfl) (by rfl) ?_)
          intro b39
          refine WT.one (i := 4) rfl (by rfl) (by kernel_rfl) (Ex.append0 enE (l' := l.take k) (by rfl) (by rfl) (by rfl) (by rfl) (Rd.subR _ (by rfl) ?_ ?_) ?_ ?_); (· (exact take_in hk)); (· (exact take_sl)); (· (simp; omega))
          intro a43 cap43
          refine WT.one (i := 7) rfl (by rfl) (by kernel_rfl) (Ex.append (e := enE) (l := (l.take k)) (l' := [e]) (by rfl) (by rfl) (by rfl) (by rfl) (Rd.lit [e] rfl rfl rfl) ?_ ?_); (· (simp; omega))
          intro a46 cap46
          refine WT.one (i := 11) rfl (by rfl) (by kernel_rfl) (Ex.append (e := enE) (l := (l.take k ++ [e])) (l' := l.drop k) (by rfl) (by rfl) (by rfl) (by rfl) (Rd.subR _ (by rfl) ?_ ?_) ?_ ?_); (· (exact drop_in hcap9 hk)); (· (exact drop_sl hcap9 hk)); (· (simp; omega))
          intro a50 cap50
          refine WT.take (i := 12) rfl (by rfl) (by rfl) (by kernel_rfl) (q_assign (by rfl)) ?_
          refine WT.nil (by kernel_rfl) ?_
          (repeat refine J.seq ?_)
          refine J.ret ?_
          (repeat (with_reducible first | refine Kseq.ret ?_ | refine Kblock.ret ?_ | refine Kloop.ret ?_ | refine Kcut.ret ?_))
          first
            | (have ht := tput_set ho hk1 hk2; refine Kret.mk2 (vs := [_]) (.sl 2044 (some b9) 51 0 cap9 (tput e l).length) [(2044, lvec (some b9) 37 51 cap9 enE (tput e l))] (.tmp (by rfl) .nil) (by rfl) trivial (by rw [← ht, List.length_set]; rfl) (fun _ _ => trivial) (HLe.sub (.cons (s := 9) rfl (by rw [← ht]; exact CLe.setv hk1) rfl .nil)) ⟨_, _, rfl, rfl⟩)
            | (have ht := tput_ins ho hk hneg hz hng; refine Kret.mk2 (vs := [_]) (.sl 2044 a50 51 0 cap50 (tput e l).length) [(2044, lvec a50 37 51 cap50 enE (tput e l))] (.tmp (by rfl) .nil) (by rfl) trivial (by rw [← ht]; cases a50 <;> rfl) (fun _ _ => trivial) (HLe.sub (.cons (s := 50) rfl (by rw [ht]; exact CLe.refl _ _) rfl .nil)) ⟨_, _, rfl, rfl⟩)
    · skip
      (first | have eg25 := of_decide_eq_true g25 | have eg25 := of_decide_eq_false g25 | have eg25 := ndec_t g25 | have eg25 := ndec_f g25 | skip)
      have hng : k = 0 ∨ ¬ 0 < cmpR (lat l (k - 1)).p e.p := .inl (by omega)
      refine WS.takeNo rfl (by rfl) (by rfl) ?_
      refine WS.takeNo rfl (by rfl) (by rfl) ?_
      refine WS.takeNo rfl (by rfl) (by rfl) ?_
      refine WS.takeNo rfl (by rfl) (by rfl) ?_
      refine WS.takeNo rfl (by rfl) (by rfl) ?_
      refine WS.takeNo rfl (by rfl) (by rfl) ?_
      refine WS.takeNo rfl (by rfl) (by rfl) ?_
      refine WS.takeNo rfl (by rfl) (by rfl) ?_
      refine WS.takeNo rfl (by rfl) (by rfl) ?_
      refine WS.takeNo rfl (by rfl) (by rfl) ?_
      refine WS.take rfl (by rfl) (by rfl) (q_pick_f (by rfl) (by rfl)) ?_
      refine WS.nil ?_
      (repeat refine J.seq ?_)
      refine J.condF (by rfl) ?_
      (repeat refine J.seq ?_)
      refine J.exit ?_
      (repeat refine J.seq ?_)
      refine J.veccap (t := 9) rfl (fun hcap9 => ?_)
      refine J.drawT [3, 9] 9999 (by kernel_rfl) (by kernel_rfl) ?_
      intro F3 hF3
      refine WT.take (i := 1) rfl (by rfl) (by rfl) (by kernel_rfl) (q_move (by rfl)) ?_
      refine WT.take (i := 2) rfl (by rfl) (by rfl) (by kernel_rfl) (q_move (by rfl)) ?_
      first | (refine WT.take (i := 3) rfl (by rfl) (by rfl) (by kernel_rfl) (q_slice_arr (by rfl) (by rfl) (by rfl) ?_ ?_ ?_) ?_; (· (omega)); (· (omega)); (· (omega))) | (refine WT.take (i := 3) rfl (by rfl) (by rfl) (by kernel_rfl) (q_slice_ros (by rfl) (by intro _; rfl) (by rfl) (by rfl) ?_ ?_ ?_) ?_; (· (omega)); (· (omega)); (· (omega))) | (refine WT.take (i := 3) rfl (by rfl) (by rfl) (by kernel_rfl) (q_slice_sl (by rfl) (by rfl) (by rfl) ?_ ?_ ?_) ?_; (· (omega)); (· (omega)); (· (omega))) | (refine WT.take (i := 3) rfl (by rfl) (by rfl) (by kernel_rfl) (q_slice_sla (by rfl) (by rfl) (Nat.le_refl _) (by rfl) (by rfl) ?_ ?_ ?_) ?_; (· (omega)); (· (omega)); (· (omega)))
      first | (refine WT.take (i := 5) rfl (by rfl) (by rfl) (by kernel_rfl) (q_load (by rfl) (by rfl) (by rfl)) ?_) | (refine WT.take (i := 5) rfl (by rfl) (by rfl) (by kernel_rfl) (q_load_rop (by rfl) (by rfl)) ?_) | (refine WT.take (i := 5) rfl (by rfl) (by rfl) (by kernel_rfl) (q_load_pel (by rfl) (by rfl) ?_ (by rfl)) ?_; (· (omega)))
      refine WT.take (i := 8) rfl (by rfl) (by rfl) (by kernel_rfl) (q_move (by rfl)) ?_
      refine WT.take (i := 9) rfl (by rfl) (by rfl) (by kernel_rfl) (q_move (by rfl)) ?_
      first | (refine WT.take (i := 10) rfl (by rfl) (by rfl) (by kernel_rfl) (q_slice_arr (by rfl) (by rfl) (by rfl) ?_ ?_ ?_) ?_; (· (omega)); (· (omega)); (· (omega))) | (refine WT.take (i := 10) rfl (by rfl) (by rfl) (by kernel_rfl) (q_slice_ros (by rfl) (by intro _; rfl) (by rfl) (by rfl) ?_ ?_ ?_) ?_; (· (omega)); (· (omega)); (· (omega))) | (refine WT.take (i := 10) rfl (by rfl) (by rfl) (by kernel_rfl) (q_slice_sl (by rfl) (by rfl) (by rfl) ?_ ?_ ?_) ?_; (· (omega)); (· (omega)); (· (omega))) | (refine WT.take (i := 10) rfl (by rfl) (by rfl) (by kernel_rfl) (q_slice_sla (by rfl) (by rfl) (Nat.le_refl _) (by rfl) (by rfl) ?_ ?_ ?_) ?_; (· (omega)); (· (omega)); (· (omega)))
      refine WT.two (i := 0) (j := 6) rfl rfl (by rfl) (by rfl) (by kernel_rfl) ?_ ?_
      · skip
        refine Ex.buildSlice (parts := []) (us := []) (by rfl) (by rfl) rfl (by rfl) (by rfl) ?_
        intro b39
        refine WT.two (i := 4) (j := 6) rfl rfl (by rfl) (by rfl) (by kernel_rfl) ?_ ?_
        · skip
          refine Ex.append0 enE (l' := l.take k) (by rfl) (by rfl) (by rfl) (by rfl) (Rd.subR _ (by rfl) ?_ ?_) ?_ ?_
          · (exact take_in hk)
          · (exact take_sl)
          · (simp; omega)
          intro a43 cap43
          refine WT.one (i := 6) rfl (by rfl) (by kernel_rfl) (Ex.buildSlice (parts := [(0, .tmp 44)]) (us := [_]) (by rfl) (by rfl) rfl (by rfl) (by rfl) ?_)
          intro b45
          refine WT.one (i := 7) rfl (by rfl) (by kernel_rfl) (Ex.append (e := enE) (l := (l.take k)) (l' := [e]) (by rfl) (by rfl) (by rfl) (by rfl) (Rd.lit [e] rfl rfl rfl) ?_ ?_); (· (simp; omega))
          intro a46 cap46
          refine WT.one (i := 11) rfl (by rfl) (by kernel_rfl) (Ex.append (e := enE) (l := (l.take k ++ [e])) (l' := l.drop k) (by rfl) (by rfl) (by rfl) (by rfl) (Rd.subR _ (by rfl) ?_ ?_) ?_ ?_); (· (exact drop_in hcap9 hk)); (· (exact drop_sl hcap9 hk)); (· (simp; omega))
          intro a50 cap50
          refine WT.take (i := 12) rfl (by rfl) (by rfl) (by kernel_rfl) (q_assign (by rfl)) ?_
          refine WT.nil (by kernel_rfl) ?_
          (repeat refine J.seq ?_)
          refine J.ret ?_
          (repeat (with_reducible first | refine Kseq.ret ?_ | refine Kblock.ret ?_ | refine Kloop.ret ?_ | refine Kcut.ret ?_))
          first
            | (have ht := tput_set ho hk1 hk2; refine Kret.mk2 (vs := [_]) (.sl 2044 (some b9) 51 0 cap9 (tput e l).length) [(2044, lvec (some b9) 37 51 cap9 enE (tput e l))] (.tmp (by rfl) .nil) (by rfl) trivial (by rw [← ht, List.length_set]; rfl) (fun _ _ => trivial) (HLe.sub (.cons (s := 9) rfl (by rw [← ht]; exact CLe.setv hk1) rfl .nil)) ⟨_, _, rfl, rfl⟩)
            | (have ht := tput_ins ho hk hneg hz hng; refine Kret.mk2 (vs := [_]) (.sl 2044 a50 51 0 cap50 (tput e l).length) [(2044, lvec a50 37 51 cap50 enE (tput e l))] (.tmp (by rfl) .nil) (by rfl) trivial (by rw [← ht]; cases a50 <;> rfl) (fun _ _ => trivial) (HLe.sub (.cons (s := 50) rfl (by rw [ht]; exact CLe.refl _ _) rfl .nil)) ⟨_, _, rfl, rfl⟩)
        · skip
          refine Ex.buildSlice (parts := [(0, .tmp 44)]) (us := [_]) (by rfl) (by rfl) rfl (by rfl) (by rfl) ?_
          intro b45
          refine WT.one (i := 4) rfl (by rfl) (by kernel_rfl) (Ex.append0 enE (l' := l.take k) (by rfl) (by rfl) (by rfl) (by rfl) (Rd.subR _ (by rfl) ?_ ?_) ?_ ?_); (· (exact take_in hk)); (· (exact take_sl)); (· (simp; omega))
          intro a43 cap43
          refine WT.one (i := 7) rfl (by rfl) (by kernel_rfl) (Ex.append (e := enE) (l := (l.take k)) (l' := [e]) (by rfl) (by rfl) (by rfl) (by rfl) (Rd.lit [e] rfl rfl rfl) ?_ ?_); (· (simp; omega))
          intro a46 cap46
          refine WT.one (i := 11) rfl (by rfl) (by kernel_rfl) (Ex.append (e := enE) (l := (l.take k ++ [e])) (l' := l.drop k) (by rfl) (by rfl) (by rfl) (by rfl) (Rd.subR _ (by rfl) ?_ ?_) ?_ ?_); (· (exact drop_in hcap9 hk)); (· (exact drop_sl hcap9 hk)); (· (simp; omega))
          intro a50 cap50
          refine WT.take (i := 12) rfl (by rfl) (by rfl) (by kernel_rfl) (q_assign (by rfl)) ?_
          refine WT.nil (by kernel_rfl) ?_
          (repeat refine J.seq ?_)
          refine J.ret ?_
          (repeat (with_reducible first | refine Kseq.ret ?_ | refine Kblock.ret ?_ | refine Kloop.ret ?_ | refine Kcut.ret ?_))
          first
            | (have ht := tput_set ho hk1 hk2; refine Kret.mk2 (vs := [_]) (.sl 2044 (some b9) 51 0 cap9 (tput e l).length) [(2044, lvec (some b9) 37 51 cap9 enE (tput e l))] (.tmp (by rfl) .nil) (by rfl) trivial (by rw [← ht, List.length_set]; rfl) (fun _ _ => trivial) (HLe.sub (.cons (s := 9) rfl (by rw [← ht]; exact CLe.setv hk1) rfl .nil)) ⟨_, _, rfl, rfl⟩)
            | (have ht := tput_ins ho hk hneg hz hng; refine Kret.mk2 (vs := [_]) (.sl 2044 a50 51 0 cap50 (tput e l).length) [(2044, lvec a50 37 51 cap50 enE (tput e l))] (.tmp (by rfl) .nil) (by rfl) trivial (by rw [← ht]; cases a50 <;> rfl) (fun _ _ => trivial) (HLe.sub (.cons (s := 50) rfl (by rw [ht]; exact CLe.refl _ _) rfl .nil)) ⟨_, _, rfl, rfl⟩)
      · skip
        refine Ex.buildSlice (parts := [(0, .tmp 44)]) (us := [_]) (by rfl) (by rfl) rfl (by rfl) (by rfl) ?_
        intro b45
        refine WT.one (i := 0) rfl (by rfl) (by kernel_rfl) (Ex.buildSlice (parts := []) (us := []) (by rfl) (by rfl) rfl (by rfl) (by rfl) ?_)
        intro b39
        refine WT.one (i := 4) rfl (by rfl) (by kernel_rfl) (Ex.append0 enE (l' := l.take k) (by rfl) (by rfl) (by rfl) (by rfl) (Rd.subR _ (by rfl) ?_ ?_) ?_ ?_); (· (exact take_in hk)); (· (exact take_sl)); (· (simp; omega))
        intro a43 cap43
        refine WT.one (i := 7) rfl (by rfl) (by kernel_rfl) (Ex.append (e := enE) (l := (l.take k)) (l' := [e]) (by rfl) (by rfl) (by rfl) (by rfl) (Rd.lit [e] rfl rfl rfl) ?_ ?_); (· (simp; omega))
        intro a46 cap46
        refine WT.one (i := 11) rfl (by rfl) (by kernel_rfl) (Ex.append (e := enE) (l := (l.take k ++ [e])) (l' := l.drop k) (by rfl) (by rfl) (by rfl) (by rfl) (Rd.subR _ (by rfl) ?_ ?_) ?_ ?_); (· (exact drop_in hcap9 hk)); (· (exact drop_sl hcap9 hk)); (· (simp; omega))
        intro a50 cap50
        refine WT.take (i := 12) rfl (by rfl) (by rfl) (by kernel_rfl) (q_assign (by rfl)) ?_
        refine WT.nil (by kernel_rfl) ?_
        (repeat refine J.seq ?_)
        refine J.ret ?_
        (repeat (with_reducible first | refine Kseq.ret ?_ | refine Kblock.ret ?_ | refine Kloop.ret ?_ | refine Kcut.ret ?_))
        first
          | (have ht := tput_set ho hk1 hk2; refine Kret.mk2 (vs := [_]) (.sl 2044 (some b9) 51 0 cap9 (tput e l).length) [(2044, lvec (some b9) 37 51 cap9 enE (tput e l))] (.tmp (by rfl) .nil) (by rfl) trivial (by rw [← ht, List.length_set]; rfl) (fun _ _ => trivial) (HLe.sub (.cons (s := 9) rfl (by rw [← ht]; exact CLe.setv hk1) rfl .nil)) ⟨_, _, rfl, rfl⟩)
          | (have ht := tput_ins ho hk hneg hz hng; refine Kret.mk2 (vs := [_]) (.sl 2044 a50 51 0 cap50 (tput e l).length) [(2044, lvec a50 37 51 cap50 enE (tput e l))] (.tmp (by rfl) .nil) (by rfl) trivial (by rw [← ht]; cases a50 <;> rfl) (fun _ _ => trivial) (HLe.sub (.cons (s := 50) rfl (by rw [ht]; exact CLe.refl _ _) rfl .nil)) ⟨_, _, rfl, rfl⟩)

end Go.Vm
