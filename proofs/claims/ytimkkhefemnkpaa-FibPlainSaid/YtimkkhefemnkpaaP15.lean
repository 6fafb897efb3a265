/- FibPlain: the walk. -/
import Derived.Test.YtimkkhefemnkpaaP14
namespace Go.Vm
open Go Go.Proofs
theorem okp_nt {a : List Int} {n : Int} (h : (!decide ((if okp a n = true then (0 : Int) else 21) = 0)) = true) : okp a n = false := by cases ho : okp a n <;> simp_all
theorem okp_nf {a : List Int} {n : Int} (h : (!decide ((if okp a n = true then (0 : Int) else 21) = 0)) = false) : okp a n = true := by cases ho : okp a n <;> simp_all
theorem w64_pred' {k : Nat} (h : 0 < k) (h2 : k < 9223372036854775807) : IntKind.i64.wrap ((k : Int) - 1) = ((k - 1 : Nat) : Int) := by
  rw [w64 (by omega) (by omega)]; omega

set_option maxHeartbeats 16000000 in
set_option maxRecDepth 100000 in
theorem fibPlain_spec {a : Option Addr} {cap : Nat} {l : List En} (ho : ∀ e ∈ l, e.ok) : Spec Try.prog 10 [lros a cap enE l] [] (fun r H' => r = .bool true ∧ H' = []) := by
  refine Spec.of_J Try.func10 rfl Try.ntmps10 Try.results10 rfl ?_
  intro A F hAF
  (repeat refine J.seq ?_)
  refine J.region ?_
  refine WL.yes (by rfl) (Ex.q (q_assign (by rfl)) (by rfl) ?_)
  refine WL.nil ?_
  (repeat refine J.seq ?_)
  refine J.region ?_
  refine WL.yes (by rfl) (Ex.q (q_move (by rfl)) (by rfl) ?_)
  first | (refine WL.yes (by rfl) (Ex.q (q_len_slice (by rfl) (by rfl)) (by rfl) ?_)) | (refine WL.yes (by rfl) (Ex.q (q_len_string (by rfl)) (by rfl) ?_))
  refine WL.yes (by rfl) (Ex.q (q_int (by rfl) (by rfl) (by rfl)) (by rfl) ?_)
  refine WL.nil ?_
  (repeat refine J.seq ?_)
  refine J.cond (by rfl) (fun c11 => ?_) (fun c11 => ?_)
  · skip
    (first | have e11 := of_decide_eq_true c11 | have e11 := of_decide_eq_false c11 | have e11 := ndec_t c11 | have e11 := ndec_f c11 | skip)
    (repeat refine J.seq ?_)
    refine J.region ?_
    refine WL.yes (by rfl) (Ex.callL (live19_spec) (by rfl) (by rfl) .nil ?_)
    rintro _ _ ⟨rfl, rfl⟩
    refine WL.yes (by rfl) (Ex.q (q_assign (by rfl)) (by rfl) ?_)
    refine WL.nil ?_
    (repeat refine J.seq ?_)
    refine J.ret ?_
    (repeat (with_reducible first | refine Kseq.ret ?_ | refine Kblock.ret ?_ | refine Kloop.ret ?_ | refine Kcut.ret ?_))
    refine Kret.mk [] (.tmp (by rfl) (.nil)) (by rfl) trivial (HLe.nil _ _) ?_
    exact ⟨rfl, rfl⟩
  · skip
    (first | have e11 := of_decide_eq_true c11 | have e11 := of_decide_eq_false c11 | have e11 := ndec_t c11 | have e11 := ndec_f c11 | skip)
    have hl : l.length ≤ 24 := by omega
    (repeat refine J.seq ?_)
    refine J.skip ?_
    (repeat refine J.seq ?_)
    refine J.region ?_
    refine WL.yes (by rfl) (Ex.q (q_assign (by rfl)) (by rfl) ?_)
    refine WL.nil ?_
    (repeat refine J.seq ?_)
    refine J.region ?_
    refine WL.yes (by rfl) (Ex.q (q_assign (by rfl)) (by rfl) ?_)
    refine WL.nil ?_
    (repeat refine J.seq ?_)
    refine J.block ?_
    (repeat refine J.seq ?_)
    refine J.loopP (fun x : Nat × Option Nat × Nat => x.1 ≤ l.length) (fun x => [(3, .sl 3 x.2.1 51 0 x.2.2 (plL (l.take x.1)).length), (4, iV x.1)]) (fun x => [(3, lvec x.2.1 37 51 x.2.2 enE (plL (l.take x.1)))]) (fun x => l.length - x.1) (0, none, 0) [(0, _)] [] ⟨same rfl, trivial⟩ ⟨⟨_, rfl, rfl, fun _ => trivial⟩, same rfl, trivial⟩ (.non .nil) ?_ ?_
    · (exact Nat.zero_le _)
    rintro ⟨k, a3, c3⟩ hx
    (try dsimp only at hx)
    (try dsimp only)
    (repeat refine J.seq ?_)
    refine J.region ?_
    refine WL.yes (by rfl) (Ex.q (q_move (by rfl)) (by rfl) ?_)
    refine WL.yes (by rfl) (Ex.q (q_move (by rfl)) (by rfl) ?_)
    first | (refine WL.yes (by rfl) (Ex.q (q_len_slice (by rfl) (by rfl)) (by rfl) ?_)) | (refine WL.yes (by rfl) (Ex.q (q_len_string (by rfl)) (by rfl) ?_))
    refine WL.yes (by rfl) (Ex.q (q_int (by rfl) (by rfl) (by rfl)) (by rfl) ?_)
    refine WL.nil ?_
    (repeat refine J.seq ?_)
    refine J.cond (by rfl) (fun c16 => ?_) (fun c16 => ?_)
    · skip
      (first | have e16 := of_decide_eq_true c16 | have e16 := of_decide_eq_false c16 | have e16 := ndec_t c16 | have e16 := ndec_f c16 | skip)
      (repeat refine J.seq ?_)
      refine J.skip ?_
      (repeat refine J.seq ?_)
      refine J.block ?_
      (repeat refine J.seq ?_)
      have hk2 : k < l.length := by omega
      have hk3 : (lat l k).ok := lat_ok ho hk2
      have hP : POk (plL (l.take k)) := plL_ok (fun x hx => ho x (List.take_subset _ _ hx))
      have hPl : (plL (l.take k)).length ≤ 24 := by have := plL_len (l.take k); have := List.length_take_le k l; omega
      refine J.region ?_
      refine WL.yes (by rfl) (Ex.q (q_move (by rfl)) (by rfl) ?_)
      refine WL.yes (by rfl) (Ex.q (q_move (by rfl)) (by rfl) ?_)
      first | (refine WL.yes (by rfl) (Ex.q (q_indexAddr_ros (by rfl) (by rfl) (by intro _; rfl) ?_ ?_) (by rfl) ?_); (· (omega)); (· (omega))) | (refine WL.yes (by rfl) (Ex.q (q_indexAddr_sl (by rfl) (by rfl) ?_ ?_) (by rfl) ?_); (· (omega)); (· (omega))) | (refine WL.yes (by rfl) (Ex.q (q_indexAddr_arr (by rfl) (by rfl) ?_ ?_) (by rfl) ?_); (· (omega)); (· (omega)))
      first | (refine WL.yes (by rfl) (Ex.h (h_load (by rfl) (by rfl) (by rfl)) (by rfl) ?_)) | (refine WL.yes (by rfl) (Ex.q (q_load (by rfl) (by rfl) (by rfl)) (by rfl) ?_)) | (refine WL.yes (by rfl) (Ex.q (q_load_rop (by rfl) (by rfl)) (by rfl) ?_)) | (refine WL.yes (by rfl) (Ex.h (h_load_pel (by rfl) (by rfl) ?_ (by rfl)) (by rfl) ?_); (· (omega))) | (refine WL.yes (by rfl) (Ex.q (q_load_pel (by rfl) (by rfl) ?_ (by rfl)) (by rfl) ?_); (· (omega)))
      refine WL.set 22 (enE (lat l k)) (by rfl) (by first | rfl | rw [Int.toNat_natCast] | rw [Nat.zero_add, Int.toNat_natCast]) ?_
      refine WL.yes (by rfl) (Ex.alloc (by rfl) ?_)
      intro b5
      first | (refine WL.yes (by rfl) (Ex.store (by rfl) (by rfl) (by rfl) (by rfl) (by rfl) (by rfl) ?_)) | (refine WL.yes (by rfl) (Ex.store_pel (by rfl) (by rfl) (by rfl) (by rfl) (by rfl) ?_ (by rfl) ?_); (· (omega)))
      refine WL.nil ?_
      (repeat refine J.seq ?_)
      refine J.region ?_
      first | (refine WL.yes (by rfl) (Ex.q (q_fieldAddr (by rfl)) (by rfl) ?_)) | (refine WL.yes (by rfl) (Ex.q (q_fieldAddr_rop (by rfl) (by rfl)) (by rfl) ?_)) | (refine WL.yes (by rfl) (Ex.q (q_fieldAddr_pel (by rfl)) (by rfl) ?_))
      first | (refine WL.yes (by rfl) (Ex.q (q_fieldAddr (by rfl)) (by rfl) ?_)) | (refine WL.yes (by rfl) (Ex.q (q_fieldAddr_rop (by rfl) (by rfl)) (by rfl) ?_)) | (refine WL.yes (by rfl) (Ex.q (q_fieldAddr_pel (by rfl)) (by rfl) ?_))
      first | (refine WL.yes (by rfl) (Ex.h (h_load (by rfl) (by rfl) (by rfl)) (by rfl) ?_)) | (refine WL.yes (by rfl) (Ex.q (q_load (by rfl) (by rfl) (by rfl)) (by rfl) ?_)) | (refine WL.yes (by rfl) (Ex.q (q_load_rop (by rfl) (by rfl)) (by rfl) ?_)) | (refine WL.yes (by rfl) (Ex.h (h_load_pel (by rfl) (by rfl) ?_ (by rfl)) (by rfl) ?_); (· (omega))) | (refine WL.yes (by rfl) (Ex.q (q_load_pel (by rfl) (by rfl) ?_ (by rfl)) (by rfl) ?_); (· (omega)))
      refine WL.yes (by rfl) (Ex.callq (check_spec _ _) (by rfl) (by rfl) rfl (fun _ h => h) ?_)
      refine WL.yes (by rfl) (Ex.callq (fnum_spec _) (by rfl) (by rfl) rfl (fun _ h => h) ?_)
      first | (refine WL.yes (by rfl) (Ex.q (q_int (by rfl) (by rfl) (by rfl)) (by rfl) ?_)) | (refine WL.yes (by rfl) (Ex.q (q_neb (by rfl) (by rfl)) (by rfl) ?_)) | (refine WL.yes (by rfl) (Ex.q (q_nep rfl rfl (by rfl) (by rfl) ?_) (by rfl) ?_); (· (rfl))) | (refine WL.yes (by rfl) (Ex.q (q_eqs (by rfl) (by rfl)) (by rfl) ?_))
      refine WL.nil ?_
      (repeat refine J.seq ?_)
      refine J.cond (by rfl) (fun c28 => ?_) (fun c28 => ?_)
      · skip
        (first | have e28 := of_decide_eq_true c28 | have e28 := of_decide_eq_false c28 | have e28 := ndec_t c28 | have e28 := ndec_f c28 | skip)
        have hno : plL (l.take (k + 1)) = (plL (l.take k)) := by rw [pl_step hk2]; exact plS_no (fun x => by rw [okp_nt c28] at x; cases x.1)
        (repeat refine J.seq ?_)
        refine J.exit ?_
        (repeat refine J.seq ?_)
        refine J.region ?_
        refine WL.yes (by rfl) (Ex.q (q_move (by rfl)) (by rfl) ?_)
        refine WL.yes (by rfl) (Ex.q (q_int (by rfl) (by rfl) (by rfl)) (by rfl) ?_)
        refine WL.yes (by rfl) (Ex.q (q_assign (by rfl)) (by rfl) ?_)
        refine WL.nil ?_
        first | ((have hz := hs1); refine Kloop.nextP (k + 1, a44, cap44) ?_ ?_ ⟨⟨_, rfl, by rw [hs1]; cases a44 <;> rfl, fun _ => trivial⟩, same (by rw [← w64_nat (k := k) (by omega)]; rfl), trivial⟩ ⟨same rfl, trivial⟩ (.cons (s := 44) rfl (by rw [hs1]; exact CLe.refl _ _) rfl .nil); (· ((try dsimp only) <;> omega)); (· ((try dsimp only) <;> omega))) | ((have hz := hno); refine Kloop.nextP (k + 1, a3, c3) ?_ ?_ ⟨⟨_, rfl, by rw [hno], fun _ => trivial⟩, same (by rw [← w64_nat (k := k) (by omega)]; rfl), trivial⟩ ⟨same rfl, trivial⟩ (.cons (s := 3) rfl (by rw [hno]; exact CLe.refl _ _) rfl .nil); (· ((try dsimp only) <;> omega)); (· ((try dsimp only) <;> omega)))
      · skip
        (first | have e28 := of_decide_eq_true c28 | have e28 := of_decide_eq_false c28 | have e28 := ndec_t c28 | have e28 := ndec_f c28 | skip)
        have hyes := okp_nf c28
        (repeat refine J.seq ?_)
        refine J.skip ?_
        (repeat refine J.seq ?_)
        refine J.region ?_
        first | (refine WL.yes (by rfl) (Ex.q (q_fieldAddr (by rfl)) (by rfl) ?_)) | (refine WL.yes (by rfl) (Ex.q (q_fieldAddr_rop (by rfl) (by rfl)) (by rfl) ?_)) | (refine WL.yes (by rfl) (Ex.q (q_fieldAddr_pel (by rfl)) (by rfl) ?_))
        first | (refine WL.yes (by rfl) (Ex.q (q_fieldAddr (by rfl)) (by rfl) ?_)) | (refine WL.yes (by rfl) (Ex.q (q_fieldAddr_rop (by rfl) (by rfl)) (by rfl) ?_)) | (refine WL.yes (by rfl) (Ex.q (q_fieldAddr_pel (by rfl)) (by rfl) ?_))
        first | (refine WL.yes (by rfl) (Ex.h (h_load (by rfl) (by rfl) (by rfl)) (by rfl) ?_)) | (refine WL.yes (by rfl) (Ex.q (q_load (by rfl) (by rfl) (by rfl)) (by rfl) ?_)) | (refine WL.yes (by rfl) (Ex.q (q_load_rop (by rfl) (by rfl)) (by rfl) ?_)) | (refine WL.yes (by rfl) (Ex.h (h_load_pel (by rfl) (by rfl) ?_ (by rfl)) (by rfl) ?_); (· (omega))) | (refine WL.yes (by rfl) (Ex.q (q_load_pel (by rfl) (by rfl) ?_ (by rfl)) (by rfl) ?_); (· (omega)))
        refine WL.yes (by rfl) (Ex.callq (famP_spec _ _) (by rfl) (by rfl) rfl (fun _ h => h) ?_)
        refine WL.yes (by rfl) (Ex.callq (any_spec _) (by rfl) (by rfl) rfl (fun _ h => h) ?_)
        refine WL.set 33 (pfE (anyP (famP (lat l k).p.d.a (lat l k).p.d.n))) (by rfl) (anyP_V _) ?_
        first | (refine WL.yes (by rfl) (Ex.q (q_fieldAddr (by rfl)) (by rfl) ?_)) | (refine WL.yes (by rfl) (Ex.q (q_fieldAddr_rop (by rfl) (by rfl)) (by rfl) ?_)) | (refine WL.yes (by rfl) (Ex.q (q_fieldAddr_pel (by rfl)) (by rfl) ?_))
        first | (refine WL.yes (by rfl) (Ex.q (q_fieldAddr (by rfl)) (by rfl) ?_)) | (refine WL.yes (by rfl) (Ex.q (q_fieldAddr_rop (by rfl) (by rfl)) (by rfl) ?_)) | (refine WL.yes (by rfl) (Ex.q (q_fieldAddr_pel (by rfl)) (by rfl) ?_))
        first | (refine WL.yes (by rfl) (Ex.store (by rfl) (by rfl) (by rfl) (by rfl) (by rfl) (by rfl) ?_)) | (refine WL.yes (by rfl) (Ex.store_pel (by rfl) (by rfl) (by rfl) (by rfl) (by rfl) ?_ (by rfl) ?_); (· (omega)))
        refine WL.nil ?_
        (repeat refine J.seq ?_)
        refine J.region ?_
        refine WL.yes (by rfl) (Ex.q (q_move (by rfl)) (by rfl) ?_)
        first | (refine WL.yes (by rfl) (Ex.q (q_fieldAddr (by rfl)) (by rfl) ?_)) | (refine WL.yes (by rfl) (Ex.q (q_fieldAddr_rop (by rfl) (by rfl)) (by rfl) ?_)) | (refine WL.yes (by rfl) (Ex.q (q_fieldAddr_pel (by rfl)) (by rfl) ?_))
        first | (refine WL.yes (by rfl) (Ex.h (h_load (by rfl) (by rfl) (by rfl)) (by rfl) ?_)) | (refine WL.yes (by rfl) (Ex.q (q_load (by rfl) (by rfl) (by rfl)) (by rfl) ?_)) | (refine WL.yes (by rfl) (Ex.q (q_load_rop (by rfl) (by rfl)) (by rfl) ?_)) | (refine WL.yes (by rfl) (Ex.h (h_load_pel (by rfl) (by rfl) ?_ (by rfl)) (by rfl) ?_); (· (omega))) | (refine WL.yes (by rfl) (Ex.q (q_load_pel (by rfl) (by rfl) ?_ (by rfl)) (by rfl) ?_); (· (omega)))
        refine WL.set 38 (prE (plE (lat l k)).p) (by rfl) (by rfl) ?_
        refine WL.yes (by rfl) (Ex.callqz (find_spec (l := (plL (l.take k))) (p := (plE (lat l k)).p) ?_ ?_ ?_) (by rfl) (by rfl) (.cons (.sla (by rfl)) (.cons (.same _) .nil)) (fun _ => trivial) ?_); (· (omega)); (· (exact hP.ok)); (· (exact (plE_ok hk3).1))
        refine WL.yes (by rfl) (Ex.q (q_int (by rfl) (by rfl) (by rfl)) (by rfl) ?_)
        refine WL.nil ?_
        (repeat refine J.seq ?_)
        refine J.cond (by rfl) (fun c40 => ?_) (fun c40 => ?_)
        · skip
          (first | have e40 := of_decide_eq_true c40 | have e40 := of_decide_eq_false c40 | have e40 := ndec_t c40 | have e40 := ndec_f c40 | skip)
          have hs1 : plL (l.take (k + 1)) = (plL (l.take k)) ++ [plE (lat l k)] := by rw [pl_step hk2]; exact plS_yes hyes e40
          (repeat refine J.seq ?_)
          refine J.region ?_
          refine WL.yes (by rfl) (Ex.q (q_move (by rfl)) (by rfl) ?_)
          first | (refine WL.yes (by rfl) (Ex.h (h_load (by rfl) (by rfl) (by rfl)) (by rfl) ?_)) | (refine WL.yes (by rfl) (Ex.q (q_load (by rfl) (by rfl) (by rfl)) (by rfl) ?_)) | (refine WL.yes (by rfl) (Ex.q (q_load_rop (by rfl) (by rfl)) (by rfl) ?_)) | (refine WL.yes (by rfl) (Ex.h (h_load_pel (by rfl) (by rfl) ?_ (by rfl)) (by rfl) ?_); (· (omega))) | (refine WL.yes (by rfl) (Ex.q (q_load_pel (by rfl) (by rfl) ?_ (by rfl)) (by rfl) ?_); (· (omega)))
          refine WL.set 42 (enE (plE (lat l k))) (by rfl) (by rfl) ?_
          refine WL.yes (by rfl) (Ex.buildSlice (parts := [(0, .tmp 42)]) (us := [_]) (by rfl) (by rfl) rfl (by rfl) (by rfl) ?_)
          intro b43
          refine WL.yes (by rfl) (Ex.append (e := enE) (l := (plL (l.take k))) (l' := [plE (lat l k)]) (by rfl) (by rfl) (by rfl) (by rfl) (Rd.lit [_] rfl rfl rfl) ?_ ?_); (· (simp only [List.length_singleton]; omega))
          intro a44 cap44
          refine WL.yes (by rfl) (Ex.q (q_assign (by rfl)) (by rfl) ?_)
          refine WL.nil ?_
          (repeat refine J.seq ?_)
          refine J.region ?_
          refine WL.yes (by rfl) (Ex.q (q_move (by rfl)) (by rfl) ?_)
          refine WL.yes (by rfl) (Ex.q (q_int (by rfl) (by rfl) (by rfl)) (by rfl) ?_)
          refine WL.yes (by rfl) (Ex.q (q_assign (by rfl)) (by rfl) ?_)
          refine WL.nil ?_
          first | ((have hz := hs1); refine Kloop.nextP (k + 1, a44, cap44) ?_ ?_ ⟨⟨_, rfl, by rw [hs1]; cases a44 <;> rfl, fun _ => trivial⟩, same (by rw [← w64_nat (k := k) (by omega)]; rfl), trivial⟩ ⟨same rfl, trivial⟩ (.cons (s := 44) rfl (by rw [hs1]; exact CLe.refl _ _) rfl .nil); (· ((try dsimp only) <;> omega)); (· ((try dsimp only) <;> omega))) | ((have hz := hno); refine Kloop.nextP (k + 1, a3, c3) ?_ ?_ ⟨⟨_, rfl, by rw [hno], fun _ => trivial⟩, same (by rw [← w64_nat (k := k) (by omega)]; rfl), trivial⟩ ⟨same rfl, trivial⟩ (.cons (s := 3) rfl (by rw [hno]; exact CLe.refl _ _) rfl .nil); (· ((try dsimp only) <;> omega)); (· ((try dsimp only) <;> omega)))
        · skip
          (first | have e40 := of_decide_eq_true c40 | have e40 := of_decide_eq_false c40 | have e40 := ndec_t c40 | have e40 := ndec_f c40 | skip)
          have hno : plL (l.take (k + 1)) = (plL (l.take k)) := by rw [pl_step hk2]; exact plS_no (fun x => e40 x.2)
          (repeat refine J.seq ?_)
          refine J.skip ?_
          (repeat refine J.seq ?_)
          refine J.region ?_
          refine WL.yes (by rfl) (Ex.q (q_move (by rfl)) (by rfl) ?_)
          refine WL.yes (by rfl) (Ex.q (q_int (by rfl) (by rfl) (by rfl)) (by rfl) ?_)
          refine WL.yes (by rfl) (Ex.q (q_assign (by rfl)) (by rfl) ?_)
          refine WL.nil ?_
          first | ((have hz := hs1); refine Kloop.nextP (k + 1, a44, cap44) ?_ ?_ ⟨⟨_, rfl, by rw [hs1]; cases a44 <;> rfl, fun _ => trivial⟩, same (by rw [← w64_nat (k := k) (by omega)]; rfl), trivial⟩ ⟨same rfl, trivial⟩ (.cons (s := 44) rfl (by rw [hs1]; exact CLe.refl _ _) rfl .nil); (· ((try dsimp only) <;> omega)); (· ((try dsimp only) <;> omega))) | ((have hz := hno); refine Kloop.nextP (k + 1, a3, c3) ?_ ?_ ⟨⟨_, rfl, by rw [hno], fun _ => trivial⟩, same (by rw [← w64_nat (k := k) (by omega)]; rfl), trivial⟩ ⟨same rfl, trivial⟩ (.cons (s := 3) rfl (by rw [hno]; exact CLe.refl _ _) rfl .nil); (· ((try dsimp only) <;> omega)); (· ((try dsimp only) <;> omega)))
    · skip
      (first | have e16 := of_decide_eq_true c16 | have e16 := of_decide_eq_false c16 | have e16 := ndec_t c16 | have e16 := ndec_f c16 | skip)
      (repeat refine J.seq ?_)
      refine J.exit ?_
      (repeat refine J.seq ?_)
      have hkn : l.take k = l := take_all (by omega)
      rw [hkn]
      have hPP := plL_ok ho
      have hPl2 : (plL l).length ≤ 24 := by have := plL_len l; omega
      have hE : GOk (expandL (plL l)) := exp_ok (clean_ok hPP.ok)
      obtain ⟨hmem, hlen⟩ := plain_law ho
      refine J.region ?_
      refine WL.yes (by rfl) (Ex.q (q_move (by rfl)) (by rfl) ?_)
      refine WL.yes (by rfl) (Ex.callz _ [] [] (expand_spec (l := (plL l)) hPP.ok (by omega)) (by rfl) (by rfl) (.cons (.sla (by rfl)) .nil) (fun t c hg => by simp [get] at hg) plain_expand ?_)
      rintro _ _ ⟨a46, cap46, rfl, rfl⟩
      refine WL.yes (by rfl) (Ex.q (q_assign (by rfl)) (by rfl) ?_)
      refine WL.nil ?_
      (repeat refine J.seq ?_)
      refine J.region ?_
      refine WL.yes (by rfl) (Ex.q (q_assign (by rfl)) (by rfl) ?_)
      refine WL.nil ?_
      (repeat refine J.seq ?_)
      refine J.block ?_
      (repeat refine J.seq ?_)
      refine J.loopP (fun x : Nat => x ≤ (expandL (plL l)).length) (fun x => [(7, iV x)]) (fun x => []) (fun x => (expandL (plL l)).length - x) (0) [(3, _), (6, _)] [(3, _), (2026, _)] ⟨same rfl, same rfl, trivial⟩ ⟨same rfl, trivial⟩ (.cons (s := 3) rfl (CLe.refl _ _) rfl (.cons (s := 2026) rfl (CLe.refl _ _) rfl .nil)) ?_ ?_
      · ((try dsimp only) <;> omega)
      rintro k hx
      (try dsimp only at hx)
      (repeat refine J.seq ?_)
      refine J.region ?_
      refine WL.yes (by rfl) (Ex.q (q_move (by rfl)) (by rfl) ?_)
      refine WL.yes (by rfl) (Ex.q (q_move (by rfl)) (by rfl) ?_)
      first | (refine WL.yes (by rfl) (Ex.q (q_len_slice (by rfl) (by rfl)) (by rfl) ?_)) | (refine WL.yes (by rfl) (Ex.q (q_len_string (by rfl)) (by rfl) ?_))
      refine WL.yes (by rfl) (Ex.q (q_int (by rfl) (by rfl) (by rfl)) (by rfl) ?_)
      refine WL.nil ?_
      (repeat refine J.seq ?_)
      refine J.cond (by rfl) (fun c50 => ?_) (fun c50 => ?_)
      · skip
        (first | have e50 := of_decide_eq_true c50 | have e50 := of_decide_eq_false c50 | have e50 := ndec_t c50 | have e50 := ndec_f c50 | skip)
        (repeat refine J.seq ?_)
        refine J.skip ?_
        (repeat refine J.seq ?_)
        refine J.block ?_
        (repeat refine J.seq ?_)
        have hk2 : k < (expandL (plL l)).length := by omega
        obtain ⟨q, hq1, hq2, hq3⟩ := plain_at ho hk2
        refine J.vecsome (t := 2026) rfl (by omega) ?_
        intro bE hbE
        subst hbE
        refine J.vecsome (t := 3) rfl (by omega) ?_
        intro bP hbP
        subst hbP
        refine J.region ?_
        refine WL.yes (by rfl) (Ex.q (q_move (by rfl)) (by rfl) ?_)
        refine WL.yes (by rfl) (Ex.q (q_move (by rfl)) (by rfl) ?_)
        refine WL.yes (by rfl) (Ex.q (q_move (by rfl)) (by rfl) ?_)
        first | (refine WL.yes (by rfl) (Ex.q (q_indexAddr_ros (by rfl) (by rfl) (by intro _; rfl) ?_ ?_) (by rfl) ?_); (· (omega)); (· (omega))) | (refine WL.yes (by rfl) (Ex.q (q_indexAddr_sl (by rfl) (by rfl) ?_ ?_) (by rfl) ?_); (· (omega)); (· (omega))) | (refine WL.yes (by rfl) (Ex.q (q_indexAddr_arr (by rfl) (by rfl) ?_ ?_) (by rfl) ?_); (· (omega)); (· (omega)))
        first | (refine WL.yes (by rfl) (Ex.q (q_fieldAddr (by rfl)) (by rfl) ?_)) | (refine WL.yes (by rfl) (Ex.q (q_fieldAddr_rop (by rfl) (by rfl)) (by rfl) ?_)) | (refine WL.yes (by rfl) (Ex.q (q_fieldAddr_pel (by rfl)) (by rfl) ?_))
        first | (refine WL.yes (by rfl) (Ex.h (h_load (by rfl) (by rfl) (by rfl)) (by rfl) ?_)) | (refine WL.yes (by rfl) (Ex.q (q_load (by rfl) (by rfl) (by rfl)) (by rfl) ?_)) | (refine WL.yes (by rfl) (Ex.q (q_load_rop (by rfl) (by rfl)) (by rfl) ?_)) | (refine WL.yes (by rfl) (Ex.h (h_load_pel (by rfl) (by rfl) ?_ (by rfl)) (by rfl) ?_); (· (omega))) | (refine WL.yes (by rfl) (Ex.q (q_load_pel (by rfl) (by rfl) ?_ (by rfl)) (by rfl) ?_); (· (omega)))
        refine WL.set 58 (prE (lat (expandL (plL l)) k).p) (by rfl) (by rw [Nat.zero_add, Int.toNat_natCast]) ?_
        refine WL.yes (by rfl) (Ex.callqz (find_spec (l := (plL l)) (p := (lat (expandL (plL l)) k).p) ?_ ?_ ?_) (by rfl) (by rfl) (.cons (.sla (by rfl)) (.cons (.same _) .nil)) (fun _ => trivial) ?_); (· (omega)); (· (exact hPP.ok)); (· (exact (lat_ok hE.ok hk2).1))
        refine WL.set 59 (iV (q : Nat)) (by rfl) (congrArg iV hq1.symm) ?_
        refine WL.yes (by rfl) (Ex.q (q_assign (by rfl)) (by rfl) ?_)
        refine WL.nil ?_
        (repeat refine J.seq ?_)
        refine J.draw [3, 2026] 9999 [(0, true), (1, true), (2, true), (3, true), (4, true), (5, true), (6, true), (7, true), (8, true), (9, true), (10, true), (11, true), (12, true), (13, true), (14, true), (15, true), (16, true), (17, true), (18, true), (19, true), (20, true), (21, true), (22, true), (23, true), (24, true), (25, true), (26, true), (27, true), (28, false), (29, true), (30, true), (31, true)] (by kernel_rfl) rfl (by kernel_rfl) ?_
        intro F1 hF1
        refine WS.take rfl (by rfl) (by rfl) (q_move (by rfl)) ?_
        refine WS.take rfl (by rfl) (by rfl) (q_int (by rfl) (by rfl) (by rfl)) ?_
        refine WS.set 61 (.bool false) (by rfl) (congrArg V.bool ((decide_eq_false (by omega)).symm : false = _)) ?_
        refine WS.take rfl (by rfl) (by rfl) (q_move (by rfl)) ?_
        refine WS.take rfl (by rfl) (by rfl) (q_move (by rfl)) ?_
        refine WS.take rfl (by rfl) (by rfl) (q_move (by rfl)) ?_
        first | (refine WS.take rfl (by rfl) (by rfl) (q_indexAddr_ros (by rfl) (by rfl) (by intro _; rfl) ?_ ?_) ?_; (· (omega)); (· (omega))) | (refine WS.take rfl (by rfl) (by rfl) (q_indexAddr_sl (by rfl) (by rfl) ?_ ?_) ?_; (· (omega)); (· (omega))) | (refine WS.take rfl (by rfl) (by rfl) (q_indexAddr_arr (by rfl) (by rfl) ?_ ?_) ?_; (· (omega)); (· (omega)))
        first | (refine WS.take rfl (by rfl) (by rfl) (q_load (by rfl) (by rfl) (by rfl)) ?_) | (refine WS.take rfl (by rfl) (by rfl) (q_load_rop (by rfl) (by rfl)) ?_) | (refine WS.take rfl (by rfl) (by rfl) (q_load_pel (by rfl) (by rfl) ?_ (by rfl)) ?_; (· (omega)))
        refine WS.set 66 (enE (lat (expandL (plL l)) k)) (by rfl) (by rw [Nat.zero_add, Int.toNat_natCast]) ?_
        refine WS.take rfl (by rfl) (by rfl) (q_move (by rfl)) ?_
        refine WS.take rfl (by rfl) (by rfl) (q_move (by rfl)) ?_
        first | (refine WS.take rfl (by rfl) (by rfl) (q_indexAddr_ros (by rfl) (by rfl) (by intro _; rfl) ?_ ?_) ?_; (· (omega)); (· (omega))) | (refine WS.take rfl (by rfl) (by rfl) (q_indexAddr_sl (by rfl) (by rfl) ?_ ?_) ?_; (· (omega)); (· (omega))) | (refine WS.take rfl (by rfl) (by rfl) (q_indexAddr_arr (by rfl) (by rfl) ?_ ?_) ?_; (· (omega)); (· (omega)))
        first | (refine WS.take rfl (by rfl) (by rfl) (q_load (by rfl) (by rfl) (by rfl)) ?_) | (refine WS.take rfl (by rfl) (by rfl) (q_load_rop (by rfl) (by rfl)) ?_) | (refine WS.take rfl (by rfl) (by rfl) (q_load_pel (by rfl) (by rfl) ?_ (by rfl)) ?_; (· (omega)))
        refine WS.set 70 (enE (lat (expandL (plL l)) k)) (by rfl) (by rw [Nat.zero_add, Int.toNat_natCast, hq3]) ?_
        first | (refine WS.take rfl (by rfl) (by rfl) (q_int (by rfl) (by rfl) (by rfl)) ?_) | (refine WS.take rfl (by rfl) (by rfl) (q_neb (by rfl) (by rfl)) ?_) | (refine WS.take rfl (by rfl) (by rfl) (q_nep rfl rfl (by rfl) (by rfl) ?_) ?_; (· (rfl))) | (refine WS.take rfl (by rfl) (by rfl) (q_eqs (by rfl) (by rfl)) ?_)
        refine WS.set 71 (.bool false) (by rfl) (congrArg V.bool ((by rw [eqEn (lat_ok hE.ok hk2) (lat_ok hE.ok hk2)]; simp) : false = _)) ?_
        refine WS.take rfl (by rfl) (by rfl) (q_pick_f (by rfl) (by rfl)) ?_
        refine WS.take rfl (by rfl) (by rfl) (q_move (by rfl)) ?_
        refine WS.take rfl (by rfl) (by rfl) (q_move (by rfl)) ?_
        refine WS.take rfl (by rfl) (by rfl) (q_int (by rfl) (by rfl) (by rfl)) ?_
        refine WS.take rfl (by rfl) (by rfl) (q_move (by rfl)) ?_
        refine WS.split 76 (by rfl) (fun g76 => ?_) (fun g76 => ?_)
        · skip
          (first | have eg76 := of_decide_eq_true g76 | have eg76 := of_decide_eq_false g76 | have eg76 := ndec_t g76 | have eg76 := ndec_f g76 | skip)
          refine WS.take rfl (by rfl) (by rfl) (q_move (by rfl)) ?_
          refine WS.take rfl (by rfl) (by rfl) (q_move (by rfl)) ?_
          refine WS.take rfl (by rfl) (by rfl) (q_int (by rfl) (by rfl) (by rfl)) ?_
          refine WS.set 79 (iV ((k - 1 : Nat) : Int)) (by rfl) (congrArg iV (w64_pred' (by omega) (by omega)).symm) ?_
          first | (refine WS.take rfl (by rfl) (by rfl) (q_indexAddr_ros (by rfl) (by rfl) (by intro _; rfl) ?_ ?_) ?_; (· (omega)); (· (omega))) | (refine WS.take rfl (by rfl) (by rfl) (q_indexAddr_sl (by rfl) (by rfl) ?_ ?_) ?_; (· (omega)); (· (omega))) | (refine WS.take rfl (by rfl) (by rfl) (q_indexAddr_arr (by rfl) (by rfl) ?_ ?_) ?_; (· (omega)); (· (omega)))
          first | (refine WS.take rfl (by rfl) (by rfl) (q_fieldAddr (by rfl)) ?_) | (refine WS.take rfl (by rfl) (by rfl) (q_fieldAddr_rop (by rfl) (by rfl)) ?_) | (refine WS.take rfl (by rfl) (by rfl) (q_fieldAddr_pel (by rfl)) ?_)
          first | (refine WS.take rfl (by rfl) (by rfl) (q_load (by rfl) (by rfl) (by rfl)) ?_) | (refine WS.take rfl (by rfl) (by rfl) (q_load_rop (by rfl) (by rfl)) ?_) | (refine WS.take rfl (by rfl) (by rfl) (q_load_pel (by rfl) (by rfl) ?_ (by rfl)) ?_; (· (omega)))
          refine WS.set 82 (prE (lat (expandL (plL l)) (k - 1)).p) (by rfl) (by rw [Nat.zero_add, Int.toNat_natCast]) ?_
          refine WS.take rfl (by rfl) (by rfl) (q_move (by rfl)) ?_
          refine WS.take rfl (by rfl) (by rfl) (q_move (by rfl)) ?_
          first | (refine WS.take rfl (by rfl) (by rfl) (q_indexAddr_ros (by rfl) (by rfl) (by intro _; rfl) ?_ ?_) ?_; (· (omega)); (· (omega))) | (refine WS.take rfl (by rfl) (by rfl) (q_indexAddr_sl (by rfl) (by rfl) ?_ ?_) ?_; (· (omega)); (· (omega))) | (refine WS.take rfl (by rfl) (by rfl) (q_indexAddr_arr (by rfl) (by rfl) ?_ ?_) ?_; (· (omega)); (· (omega)))
          first | (refine WS.take rfl (by rfl) (by rfl) (q_fieldAddr (by rfl)) ?_) | (refine WS.take rfl (by rfl) (by rfl) (q_fieldAddr_rop (by rfl) (by rfl)) ?_) | (refine WS.take rfl (by rfl) (by rfl) (q_fieldAddr_pel (by rfl)) ?_)
          first | (refine WS.take rfl (by rfl) (by rfl) (q_load (by rfl) (by rfl) (by rfl)) ?_) | (refine WS.take rfl (by rfl) (by rfl) (q_load_rop (by rfl) (by rfl)) ?_) | (refine WS.take rfl (by rfl) (by rfl) (q_load_pel (by rfl) (by rfl) ?_ (by rfl)) ?_; (· (omega)))
          refine WS.set 87 (prE (lat (expandL (plL l)) k).p) (by rfl) (by rw [Nat.zero_add, Int.toNat_natCast]) ?_
          refine WS.ex rfl (by rfl) (Ex.callq (cmpPr_spec _ _ _ _ _ _ _ _) (by rfl) (by rfl) rfl (fun _ h => h) ?_)
          refine WS.take rfl (by rfl) (by rfl) (q_int (by rfl) (by rfl) (by rfl)) ?_
          refine WS.set 89 (.bool false) (by rfl) (congrArg V.bool ((decide_eq_false (by have h7 : cmpPr _ _ _ _ _ _ _ _ < 0 := srt_at hE.toTOk hk2 (by omega); omega)).symm : false = _)) ?_
          refine WS.take rfl (by rfl) (by rfl) (q_pick_t (by rfl) (by rfl)) ?_
          refine WS.take rfl (by rfl) (by rfl) (q_pick_f (by rfl) (by rfl)) ?_
          refine WS.nil ?_
          (repeat refine J.seq ?_)
          refine J.condF (by rfl) ?_
          (repeat refine J.seq ?_)
          refine J.skip ?_
          (repeat refine J.seq ?_)
          refine J.region ?_
          refine WL.yes (by rfl) (Ex.q (q_move (by rfl)) (by rfl) ?_)
          refine WL.yes (by rfl) (Ex.q (q_int (by rfl) (by rfl) (by rfl)) (by rfl) ?_)
          refine WL.yes (by rfl) (Ex.q (q_assign (by rfl)) (by rfl) ?_)
          refine WL.nil ?_
          refine Kloop.nextP (k + 1) ?_ ?_ ⟨same (by rw [← w64_nat (k := k) (by omega)]; rfl), trivial⟩ ⟨same rfl, same rfl, trivial⟩ (.cons (s := 3) rfl (CLe.refl _ _) rfl (.cons (s := 2026) rfl (CLe.refl _ _) rfl .nil))
          · ((try dsimp only) <;> omega)
          · ((try dsimp only) <;> omega)
        · skip
          (first | have eg76 := of_decide_eq_true g76 | have eg76 := of_decide_eq_false g76 | have eg76 := ndec_t g76 | have eg76 := ndec_f g76 | skip)
          refine WS.takeNo rfl (by rfl) (by rfl) ?_
          refine WS.takeNo rfl (by rfl) (by rfl) ?_
          refine WS.takeNo rfl (by rfl) (by rfl) ?_
          refine WS.takeNo rfl (by rfl) (by rfl) ?_
          refine WS.takeNo rfl (by rfl) (by rfl) ?_
          refine WS.takeNo rfl (by rfl) (by rfl) ?_
          refine WS.takeNo rfl (by rfl) (by rfl) ?_
          refine WS.takeNo rfl (by rfl) (by rfl) ?_
          refine WS.takeNo rfl (by rfl) (by rfl) ?_
          refine WS.takeNo rfl (by rfl) (by rfl) ?_
          refine WS.takeNo rfl (by rfl) (by rfl) ?_
          refine WS.takeNo rfl (by rfl) (by rfl) ?_
          refine WS.takeNo rfl (by rfl) (by rfl) ?_
          refine WS.take rfl (by rfl) (by rfl) (q_pick_f (by rfl) (by rfl)) ?_
          refine WS.take rfl (by rfl) (by rfl) (q_pick_f (by rfl) (by rfl)) ?_
          refine WS.nil ?_
          (repeat refine J.seq ?_)
          refine J.condF (by rfl) ?_
          (repeat refine J.seq ?_)
          refine J.skip ?_
          (repeat refine J.seq ?_)
          refine J.region ?_
          refine WL.yes (by rfl) (Ex.q (q_move (by rfl)) (by rfl) ?_)
          refine WL.yes (by rfl) (Ex.q (q_int (by rfl) (by rfl) (by rfl)) (by rfl) ?_)
          refine WL.yes (by rfl) (Ex.q (q_assign (by rfl)) (by rfl) ?_)
          refine WL.nil ?_
          refine Kloop.nextP (k + 1) ?_ ?_ ⟨same (by rw [← w64_nat (k := k) (by omega)]; rfl), trivial⟩ ⟨same rfl, same rfl, trivial⟩ (.cons (s := 3) rfl (CLe.refl _ _) rfl (.cons (s := 2026) rfl (CLe.refl _ _) rfl .nil))
          · ((try dsimp only) <;> omega)
          · ((try dsimp only) <;> omega)
      · skip
        (first | have e50 := of_decide_eq_true c50 | have e50 := of_decide_eq_false c50 | have e50 := ndec_t c50 | have e50 := ndec_f c50 | skip)
        (repeat refine J.seq ?_)
        refine J.exit ?_
        (repeat refine J.seq ?_)
        refine J.region ?_
        refine WL.yes (by rfl) (Ex.q (q_move (by rfl)) (by rfl) ?_)
        first | (refine WL.yes (by rfl) (Ex.q (q_len_slice (by rfl) (by rfl)) (by rfl) ?_)) | (refine WL.yes (by rfl) (Ex.q (q_len_string (by rfl)) (by rfl) ?_))
        refine WL.yes (by rfl) (Ex.q (q_move (by rfl)) (by rfl) ?_)
        first | (refine WL.yes (by rfl) (Ex.q (q_len_slice (by rfl) (by rfl)) (by rfl) ?_)) | (refine WL.yes (by rfl) (Ex.q (q_len_string (by rfl)) (by rfl) ?_))
        first | (refine WL.yes (by rfl) (Ex.q (q_int (by rfl) (by rfl) (by rfl)) (by rfl) ?_)) | (refine WL.yes (by rfl) (Ex.q (q_eqb (by rfl) (by rfl)) (by rfl) ?_)) | (refine WL.yes (by rfl) (Ex.q (q_eqp rfl rfl (by rfl) (by rfl) ?_) (by rfl) ?_); (· (rfl))) | (refine WL.yes (by rfl) (Ex.q (q_eqs (by rfl) (by rfl)) (by rfl) ?_))
        refine WL.yes (by rfl) (Ex.q (q_move (by rfl)) (by rfl) ?_)
        refine WL.set 97 (.bool true) (by rfl) (congrArg V.bool ((decide_eq_true (by omega)).symm : true = _)) ?_
        refine WL.yes (by rfl) (Ex.callL (live19_spec) (by rfl) (by rfl) .nil ?_)
        rintro _ _ ⟨rfl, rfl⟩
        refine WL.yes (by rfl) (Ex.q (q_pick_t (by rfl) (by rfl)) (by rfl) ?_)
        refine WL.yes (by rfl) (Ex.q (q_assign (by rfl)) (by rfl) ?_)
        refine WL.nil ?_
        (repeat refine J.seq ?_)
        refine J.ret ?_
        (repeat (with_reducible first | refine Kseq.ret ?_ | refine Kblock.ret ?_ | refine Kloop.ret ?_ | refine Kcut.ret ?_))
        refine Kret.mk [] (.tmp (by rfl) (.nil)) (by rfl) trivial (HLe.nil _ _) ?_
        exact ⟨rfl, rfl⟩

end Go.Vm
