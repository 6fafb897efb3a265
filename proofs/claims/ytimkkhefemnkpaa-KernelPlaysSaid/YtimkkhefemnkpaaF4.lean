/- The stand-in for the kernel: Import, Copy: the walks. -/
import Derived.Test.YtimkkhefemnkpaaF3
import Derived.Test.YtimkkhefemnkpaaN1
import Derived.Test.YtimkkhefemnkpaaVm20
namespace Go.Vm
open Go Go.Proofs

def kimp (s : KS) (e : En) : Int × KS := if has e.p s.T = false ∧ has e.p s.U = false ∧ okR e.p = true then (1, { s with U := tput e s.U }) else (0, s)
def kimps (s : KS) : List En → Int × KS
  | [] => (0, s)
  | e :: l => ((kimp s e).1 + (kimps (kimp s e).2 l).1, (kimps (kimp s e).2 l).2)
theorem kimps_snoc {e : En} : ∀ {s : KS} {l : List En}, kimps s (l ++ [e]) = ((kimps s l).1 + (kimp (kimps s l).2 e).1, (kimp (kimps s l).2 e).2)
  | s, [] => by simp [kimps]
  | s, x :: l => by simp only [List.cons_append, kimps, kimps_snoc]; rw [Int.add_assoc]
theorem kimp_yes {s : KS} {e : En} (h1 : has e.p s.T = false) (h2 : has e.p s.U = false) (h3 : okR e.p = true) : kimp s e = (1, { s with U := tput e s.U }) := if_pos ⟨h1, h2, h3⟩
theorem kimp_no {s : KS} {e : En} (h : ¬ (has e.p s.T = false ∧ has e.p s.U = false ∧ okR e.p = true)) : kimp s e = (0, s) := if_neg h
theorem kimp_T {s : KS} {e : En} : (kimp s e).2.T = s.T := by unfold kimp; split <;> rfl
theorem kimp_n {s : KS} {e : En} : (kimp s e).2.n = s.n := by unfold kimp; split <;> rfl
theorem kimp_U {s : KS} {e : En} (he : e.ok) (h : TOk s.U) : TOk (kimp s e).2.U := by
  unfold kimp; split
  · exact h.put he
  · exact h
theorem kimps_T : ∀ {l : List En} {s : KS}, (kimps s l).2.T = s.T
  | [], _ => rfl
  | e :: l, s => by simp only [kimps]; rw [kimps_T, kimp_T]
theorem kimps_n : ∀ {l : List En} {s : KS}, (kimps s l).2.n = s.n
  | [], _ => rfl
  | e :: l, s => by simp only [kimps]; rw [kimps_n, kimp_n]
theorem kimps_U : ∀ {l : List En} {s : KS}, (∀ e ∈ l, e.ok) → TOk s.U → TOk (kimps s l).2.U
  | [], _, _, h => h
  | e :: l, s, ho, h => by simp only [kimps]; exact kimps_U (fun x hx => ho x (by simp [hx])) (kimp_U (ho e (by simp)) h)
theorem kimps_cnt : ∀ {l : List En} {s : KS}, 0 ≤ (kimps s l).1 ∧ (kimps s l).1 ≤ l.length
  | [], _ => by simp [kimps]
  | e :: l, s => by
    have h := kimps_cnt (l := l) (s := (kimp s e).2)
    have h2 : 0 ≤ (kimp s e).1 ∧ (kimp s e).1 ≤ 1 := by unfold kimp; split <;> simp
    simp only [kimps, List.length_cons]
    omega
theorem kimps_step {s : KS} {l : List En} {k : Nat} (h : k < l.length) : kimps s (l.take (k + 1)) = ((kimps s (l.take k)).1 + (kimp (kimps s (l.take k)).2 (lat l k)).1, (kimp (kimps s (l.take k)).2 (lat l k)).2) := by
  rw [take_succ_lat h, kimps_snoc]

set_option maxHeartbeats 16000000 in
set_option maxRecDepth 100000 in
theorem kImport_spec (kb b1 b2 : Nat) {s : KS} {a : Option Addr} {cap : Nat} {l : List En} (hs : KOk' s) (ho : ∀ e ∈ l, e.ok) (hl : l.length ≤ 1000) : Spec Try.prog 17 [.ptr 1060 kb 0, lros a cap enE l] [(1060, .box kb 93 (kV b1 b2 s.n)), (1051, tbl b1 s.T), (1052, tbl b2 s.U)] (fun r H' => r = iV (kimps s l).1 ∧ H' = KO kb b1 b2 (kimps s l).2) := by
  refine Spec.of_J Try.func17 rfl Try.ntmps17 Try.results17 rfl ?_
  intro A F hAF
  (repeat refine J.seq ?_)
  refine J.region ?_
  refine WL.yes (by rfl) (Ex.q (q_assign (by rfl)) (by rfl) ?_)
  refine WL.nil ?_
  (repeat refine J.seq ?_)
  refine J.region ?_
  refine WL.yes (by rfl) (Ex.q (q_move (by rfl)) (by rfl) ?_)
  refine WL.yes (by rfl) (Ex.q (q_eqnil (by rfl) (by rfl) (by rfl)) (by rfl) ?_)
  refine WL.nil ?_
  (repeat refine J.seq ?_)
  refine J.cond (by rfl) (fun c12 => ?_) (fun c12 => ?_)
  · skip
    cases c12
  · skip
    (first | have e12 := of_decide_eq_true c12 | have e12 := of_decide_eq_false c12 | have e12 := ndec_t c12 | have e12 := ndec_f c12 | skip)
    (repeat refine J.seq ?_)
    refine J.skip ?_
    (repeat refine J.seq ?_)
    refine J.region ?_
    refine WL.yes (by rfl) (Ex.q (q_move (by rfl)) (by rfl) ?_)
    first | (refine WL.yes (by rfl) (Ex.q (q_len_slice (by rfl) (by rfl)) (by rfl) ?_)) | (refine WL.yes (by rfl) (Ex.q (q_len_string (by rfl)) (by rfl) ?_))
    refine WL.yes (by rfl) (Ex.q (q_move (by rfl)) (by rfl) ?_)
    refine WL.nil ?_
    (repeat refine J.seq ?_)
    refine J.block ?_
    (repeat refine J.seq ?_)
    refine J.loopP (fun x : Nat => x ≤ l.length) (fun x => [(4, iV (kimps s (l.take x)).1), (15, iV x)]) (fun x => [(1060, .box kb 93 (kV b1 b2 s.n)), (1051, tbl b1 s.T), (1052, tbl b2 (kimps s (l.take x)).2.U)]) (fun x => l.length - x) (0) [(0, _), (13, _), (14, _)] [] ⟨same rfl, same rfl, same rfl, trivial⟩ ⟨same rfl, same rfl, trivial⟩ (.cons (s := 1060) rfl (CLe.refl _ _) rfl (.cons (s := 1051) rfl (CLe.refl _ _) rfl (.cons (s := 1052) rfl (CLe.refl _ _) rfl .nil))) ?_ ?_
    · ((try dsimp only) <;> omega)
    rintro k hx
    (try dsimp only at hx)
    (repeat refine J.seq ?_)
    refine J.region ?_
    refine WL.yes (by rfl) (Ex.q (q_int (by rfl) (by rfl) (by rfl)) (by rfl) ?_)
    refine WL.nil ?_
    (repeat refine J.seq ?_)
    refine J.cond (by rfl) (fun c16 => ?_) (fun c16 => ?_)
    · skip
      (first | have e16 := of_decide_eq_true c16 | have e16 := of_decide_eq_false c16 | have e16 := ndec_t c16 | have e16 := ndec_f c16 | skip)
      (repeat refine J.seq ?_)
      refine J.skip ?_
      (repeat refine J.seq ?_)
      refine J.block ?_
      (repeat refine J.seq ?_)
      refine J.region ?_
      first | (refine WL.yes (by rfl) (Ex.q (q_indexAddr_ros (by rfl) (by rfl) (by intro _; rfl) ?_ ?_) (by rfl) ?_); (· (omega)); (· (omega))) | (refine WL.yes (by rfl) (Ex.q (q_indexAddr_sl (by rfl) (by rfl) ?_ ?_) (by rfl) ?_); (· (omega)); (· (omega))) | (refine WL.yes (by rfl) (Ex.q (q_indexAddr_arr (by rfl) (by rfl) ?_ ?_) (by rfl) ?_); (· (omega)); (· (omega)))
      first | (refine WL.yes (by rfl) (Ex.h (h_load (by rfl) (by rfl) (by rfl)) (by rfl) ?_)) | (refine WL.yes (by rfl) (Ex.q (q_load (by rfl) (by rfl) (by rfl)) (by rfl) ?_)) | (refine WL.yes (by rfl) (Ex.q (q_load_rop (by rfl) (by rfl)) (by rfl) ?_)) | (refine WL.yes (by rfl) (Ex.h (h_load_pel (by rfl) (by rfl) ?_ (by rfl)) (by rfl) ?_); (· (omega))) | (refine WL.yes (by rfl) (Ex.q (q_load_pel (by rfl) (by rfl) ?_ (by rfl)) (by rfl) ?_); (· (omega)))
      have hk2 : k < l.length := by omega
      have hk3 : (lat l k).ok := lat_ok ho hk2
      have hU : TOk (kimps s (l.take k)).2.U := kimps_U (fun x hx => ho x (List.take_subset _ _ hx)) hs.u
      refine WL.set 18 (enE (lat l k)) (by rfl) rfl ?_
      refine WL.yes (by rfl) (Ex.alloc (by rfl) ?_)
      intro b6
      first | (refine WL.yes (by rfl) (Ex.store (by rfl) (by rfl) (by rfl) (by rfl) (by rfl) (by rfl) ?_)) | (refine WL.yes (by rfl) (Ex.store_pel (by rfl) (by rfl) (by rfl) (by rfl) (by rfl) ?_ (by rfl) ?_); (· (omega)))
      refine WL.nil ?_
      (repeat refine J.seq ?_)
      refine J.draw [6, 1051, 1052, 1060] 9999 [(0, true), (1, true), (2, true), (3, true), (4, true), (5, true), (6, true), (7, true), (8, true), (9, true), (10, false), (11, false), (12, true)] (by kernel_rfl) rfl (by kernel_rfl) ?_
      intro F1 hF1
      refine WS.take rfl (by rfl) (by rfl) (q_move (by rfl)) ?_
      refine WS.take rfl (by rfl) (by rfl) (q_nilCheck (by rfl) (by rfl)) ?_
      first | (refine WS.take rfl (by rfl) (by rfl) (q_fieldAddr (by rfl)) ?_) | (refine WS.take rfl (by rfl) (by rfl) (q_fieldAddr_rop (by rfl) (by rfl)) ?_) | (refine WS.take rfl (by rfl) (by rfl) (q_fieldAddr_pel (by rfl)) ?_)
      first | (refine WS.take rfl (by rfl) (by rfl) (q_load (by rfl) (by rfl) (by rfl)) ?_) | (refine WS.take rfl (by rfl) (by rfl) (q_load_rop (by rfl) (by rfl)) ?_) | (refine WS.take rfl (by rfl) (by rfl) (q_load_pel (by rfl) (by rfl) ?_ (by rfl)) ?_; (· (omega)))
      first | (refine WS.take rfl (by rfl) (by rfl) (q_fieldAddr (by rfl)) ?_) | (refine WS.take rfl (by rfl) (by rfl) (q_fieldAddr_rop (by rfl) (by rfl)) ?_) | (refine WS.take rfl (by rfl) (by rfl) (q_fieldAddr_pel (by rfl)) ?_)
      first | (refine WS.take rfl (by rfl) (by rfl) (q_load (by rfl) (by rfl) (by rfl)) ?_) | (refine WS.take rfl (by rfl) (by rfl) (q_load_rop (by rfl) (by rfl)) ?_) | (refine WS.take rfl (by rfl) (by rfl) (q_load_pel (by rfl) (by rfl) ?_ (by rfl)) ?_; (· (omega)))
      refine WS.take rfl (by rfl) (by rfl) (q_lookup_ok (e := prE) (f := enE) rfl (by rfl) (by rfl) (by rfl) hs.t.keys hk3.1) ?_
      refine WS.take rfl (by rfl) (by rfl) (q_move (by rfl)) ?_
      first | (refine WS.take rfl (by rfl) (by rfl) (q_extract2 (by rfl) (by rfl)) ?_) | (refine WS.take rfl (by rfl) (by rfl) (q_extract3 (by rfl) (by rfl)) ?_)
      first | (refine WS.take rfl (by rfl) (by rfl) (q_extract2 (by rfl) (by rfl)) ?_) | (refine WS.take rfl (by rfl) (by rfl) (q_extract3 (by rfl) (by rfl)) ?_)
      refine WS.ex rfl (by rfl) (Ex.alloc (by rfl) ?_)
      intro b7
      first | (refine WS.ex rfl (by rfl) (Ex.store (by rfl) (by rfl) (by rfl) (by rfl) (by rfl) (by rfl) ?_)) | (refine WS.ex rfl (by rfl) (Ex.store_pel (by rfl) (by rfl) (by rfl) (by rfl) (by rfl) ?_ (by rfl) ?_); (· (omega)))
      refine WS.take rfl (by rfl) (by rfl) (q_assign (by rfl)) ?_
      refine WS.nil ?_
      (repeat refine J.seq ?_)
      refine J.draw [6, 7, 1051, 1052, 1060] 9999 [(0, true), (1, true), (2, true), (3, true), (4, true), (5, true), (6, true), (7, true), (8, true), (9, true), (10, false), (11, false), (12, true)] (by kernel_rfl) rfl (by kernel_rfl) ?_
      intro F2 hF2
      refine WS.take rfl (by rfl) (by rfl) (q_move (by rfl)) ?_
      refine WS.take rfl (by rfl) (by rfl) (q_nilCheck (by rfl) (by rfl)) ?_
      first | (refine WS.take rfl (by rfl) (by rfl) (q_fieldAddr (by rfl)) ?_) | (refine WS.take rfl (by rfl) (by rfl) (q_fieldAddr_rop (by rfl) (by rfl)) ?_) | (refine WS.take rfl (by rfl) (by rfl) (q_fieldAddr_pel (by rfl)) ?_)
      first | (refine WS.take rfl (by rfl) (by rfl) (q_load (by rfl) (by rfl) (by rfl)) ?_) | (refine WS.take rfl (by rfl) (by rfl) (q_load_rop (by rfl) (by rfl)) ?_) | (refine WS.take rfl (by rfl) (by rfl) (q_load_pel (by rfl) (by rfl) ?_ (by rfl)) ?_; (· (omega)))
      first | (refine WS.take rfl (by rfl) (by rfl) (q_fieldAddr (by rfl)) ?_) | (refine WS.take rfl (by rfl) (by rfl) (q_fieldAddr_rop (by rfl) (by rfl)) ?_) | (refine WS.take rfl (by rfl) (by rfl) (q_fieldAddr_pel (by rfl)) ?_)
      first | (refine WS.take rfl (by rfl) (by rfl) (q_load (by rfl) (by rfl) (by rfl)) ?_) | (refine WS.take rfl (by rfl) (by rfl) (q_load_rop (by rfl) (by rfl)) ?_) | (refine WS.take rfl (by rfl) (by rfl) (q_load_pel (by rfl) (by rfl) ?_ (by rfl)) ?_; (· (omega)))
      refine WS.take rfl (by rfl) (by rfl) (q_lookup_ok (e := prE) (f := enE) rfl (by rfl) (by rfl) (by rfl) hU.keys hk3.1) ?_
      refine WS.take rfl (by rfl) (by rfl) (q_move (by rfl)) ?_
      first | (refine WS.take rfl (by rfl) (by rfl) (q_extract2 (by rfl) (by rfl)) ?_) | (refine WS.take rfl (by rfl) (by rfl) (q_extract3 (by rfl) (by rfl)) ?_)
      first | (refine WS.take rfl (by rfl) (by rfl) (q_extract2 (by rfl) (by rfl)) ?_) | (refine WS.take rfl (by rfl) (by rfl) (q_extract3 (by rfl) (by rfl)) ?_)
      refine WS.ex rfl (by rfl) (Ex.alloc (by rfl) ?_)
      intro b9
      first | (refine WS.ex rfl (by rfl) (Ex.store (by rfl) (by rfl) (by rfl) (by rfl) (by rfl) (by rfl) ?_)) | (refine WS.ex rfl (by rfl) (Ex.store_pel (by rfl) (by rfl) (by rfl) (by rfl) (by rfl) ?_ (by rfl) ?_); (· (omega)))
      refine WS.take rfl (by rfl) (by rfl) (q_assign (by rfl)) ?_
      refine WS.nil ?_
      (repeat refine J.seq ?_)
      refine J.region ?_
      refine WL.yes (by rfl) (Ex.q (q_move (by rfl)) (by rfl) ?_)
      refine WL.yes (by rfl) (Ex.q (q_not (by rfl)) (by rfl) ?_)
      refine WL.yes (by rfl) (Ex.q (q_move (by rfl)) (by rfl) ?_)
      refine WL.split 41 (by rfl) (fun g41 => ?_) (fun g41 => ?_)
      · skip
        (first | have eg41 := of_decide_eq_true g41 | have eg41 := of_decide_eq_false g41 | have eg41 := ndec_t g41 | have eg41 := ndec_f g41 | skip)
        have h39 : has (lat l k).p (kimps s (l.take k)).2.T = false := by rw [kimps_T, ← isSome_has]; simpa using g41
        refine WL.yes (by rfl) (Ex.q (q_move (by rfl)) (by rfl) ?_)
        refine WL.yes (by rfl) (Ex.q (q_not (by rfl)) (by rfl) ?_)
        refine WL.yes (by rfl) (Ex.q (q_pick_t (by rfl) (by rfl)) (by rfl) ?_)
        refine WL.yes (by rfl) (Ex.q (q_move (by rfl)) (by rfl) ?_)
        refine WL.split 45 (by rfl) (fun g45 => ?_) (fun g45 => ?_)
        · skip
          (first | have eg45 := of_decide_eq_true g45 | have eg45 := of_decide_eq_false g45 | have eg45 := ndec_t g45 | have eg45 := ndec_f g45 | skip)
          have h42 : has (lat l k).p (kimps s (l.take k)).2.U = false := by rw [← isSome_has]; simpa using g45
          first | (refine WL.yes (by rfl) (Ex.q (q_fieldAddr (by rfl)) (by rfl) ?_)) | (refine WL.yes (by rfl) (Ex.q (q_fieldAddr_rop (by rfl) (by rfl)) (by rfl) ?_)) | (refine WL.yes (by rfl) (Ex.q (q_fieldAddr_pel (by rfl)) (by rfl) ?_))
          first | (refine WL.yes (by rfl) (Ex.h (h_load (by rfl) (by rfl) (by rfl)) (by rfl) ?_)) | (refine WL.yes (by rfl) (Ex.q (q_load (by rfl) (by rfl) (by rfl)) (by rfl) ?_)) | (refine WL.yes (by rfl) (Ex.q (q_load_rop (by rfl) (by rfl)) (by rfl) ?_)) | (refine WL.yes (by rfl) (Ex.h (h_load_pel (by rfl) (by rfl) ?_ (by rfl)) (by rfl) ?_); (· (omega))) | (refine WL.yes (by rfl) (Ex.q (q_load_pel (by rfl) (by rfl) ?_ (by rfl)) (by rfl) ?_); (· (omega)))
          refine WL.yes (by rfl) (Ex.callq (checkPair_spec _ _ _ _) (by rfl) (by rfl) rfl (fun _ h => h) ?_)
          first | (refine WL.yes (by rfl) (Ex.q (q_int (by rfl) (by rfl) (by rfl)) (by rfl) ?_)) | (refine WL.yes (by rfl) (Ex.q (q_eqb (by rfl) (by rfl)) (by rfl) ?_)) | (refine WL.yes (by rfl) (Ex.q (q_eqp rfl rfl (by rfl) (by rfl) ?_) (by rfl) ?_); (· (rfl))) | (refine WL.yes (by rfl) (Ex.q (q_eqs (by rfl) (by rfl)) (by rfl) ?_))
          refine WL.yes (by rfl) (Ex.q (q_pick_t (by rfl) (by rfl)) (by rfl) ?_)
          refine WL.nil ?_
          (repeat refine J.seq ?_)
          refine J.cond (by rfl) (fun c50 => ?_) (fun c50 => ?_)
          · skip
            (first | have e50 := of_decide_eq_true c50 | have e50 := of_decide_eq_false c50 | have e50 := ndec_t c50 | have e50 := ndec_f c50 | skip)
            have h49 : okR (lat l k).p = true := okpair_of c50
            (repeat refine J.seq ?_)
            refine J.draw [6, 7, 9, 1051, 1060] 7 [(0, true), (1, true), (2, true), (3, true), (4, true), (5, true), (6, true), (7, false)] (by kernel_rfl) rfl (by kernel_rfl) ?_
            intro F3 hF3
            refine WS.take rfl (by rfl) (by rfl) (q_move (by rfl)) ?_
            refine WS.take rfl (by rfl) (by rfl) (q_nilCheck (by rfl) (by rfl)) ?_
            first | (refine WS.take rfl (by rfl) (by rfl) (q_fieldAddr (by rfl)) ?_) | (refine WS.take rfl (by rfl) (by rfl) (q_fieldAddr_rop (by rfl) (by rfl)) ?_) | (refine WS.take rfl (by rfl) (by rfl) (q_fieldAddr_pel (by rfl)) ?_)
            first | (refine WS.take rfl (by rfl) (by rfl) (q_load (by rfl) (by rfl) (by rfl)) ?_) | (refine WS.take rfl (by rfl) (by rfl) (q_load_rop (by rfl) (by rfl)) ?_) | (refine WS.take rfl (by rfl) (by rfl) (q_load_pel (by rfl) (by rfl) ?_ (by rfl)) ?_; (· (omega)))
            first | (refine WS.take rfl (by rfl) (by rfl) (q_fieldAddr (by rfl)) ?_) | (refine WS.take rfl (by rfl) (by rfl) (q_fieldAddr_rop (by rfl) (by rfl)) ?_) | (refine WS.take rfl (by rfl) (by rfl) (q_fieldAddr_pel (by rfl)) ?_)
            first | (refine WS.take rfl (by rfl) (by rfl) (q_load (by rfl) (by rfl) (by rfl)) ?_) | (refine WS.take rfl (by rfl) (by rfl) (q_load_rop (by rfl) (by rfl)) ?_) | (refine WS.take rfl (by rfl) (by rfl) (q_load_pel (by rfl) (by rfl) ?_ (by rfl)) ?_; (· (omega)))
            first | (refine WS.take rfl (by rfl) (by rfl) (q_load (by rfl) (by rfl) (by rfl)) ?_) | (refine WS.take rfl (by rfl) (by rfl) (q_load_rop (by rfl) (by rfl)) ?_) | (refine WS.take rfl (by rfl) (by rfl) (q_load_pel (by rfl) (by rfl) ?_ (by rfl)) ?_; (· (omega)))
            refine WS.last rfl (by rfl) (by rfl) (Ex.mapUpdate (lat l k).p (lat l k) (by rfl) (by rfl) (by rfl) (by rfl) hU.keys hk3.1 ?_)
            (repeat refine J.seq ?_)
            refine J.region ?_
            refine WL.yes (by rfl) (Ex.q (q_move (by rfl)) (by rfl) ?_)
            refine WL.yes (by rfl) (Ex.q (q_int (by rfl) (by rfl) (by rfl)) (by rfl) ?_)
            refine WL.yes (by rfl) (Ex.q (q_assign (by rfl)) (by rfl) ?_)
            refine WL.nil ?_
            (repeat refine J.seq ?_)
            refine J.region ?_
            refine WL.yes (by rfl) (Ex.q (q_int (by rfl) (by rfl) (by rfl)) (by rfl) ?_)
            refine WL.yes (by rfl) (Ex.q (q_move (by rfl)) (by rfl) ?_)
            refine WL.nil ?_
            first | ((have hy := kimp_yes (s := (kimps s (l.take k)).2) h39 h42 h49; have hs1 := kimps_step (s := s) hk2; rw [hy] at hs1); refine Kloop.nextP (k + 1) ?_ ?_ ⟨(same (by rw [hs1]; exact congrArg (fun z => some (iV z)) (w64 (by have := kimps_cnt (l := l.take k) (s := s); omega) (by have := kimps_cnt (l := l.take k) (s := s); have := List.length_take_le k l; omega)))), same (by rw [← w64_nat (k := k) (by omega)]; rfl), trivial⟩ ⟨same rfl, same rfl, same rfl, trivial⟩ (.cons (s := 1060) rfl (CLe.refl _ _) rfl (.cons (s := 1051) rfl (CLe.refl _ _) rfl (.cons (s := 1052) rfl (by rw [hs1]; exact CLe.mp (aput_tput hU (lat l k)).symm) rfl .nil))); (· ((try dsimp only) <;> omega)); (· ((try dsimp only) <;> omega))) | ((have hy := kimp_no (s := (kimps s (l.take k)).2) (e := lat l k) (by rintro ⟨x1, x2, x3⟩; simp_all); have hs1 := kimps_step (s := s) hk2; rw [hy] at hs1); refine Kloop.nextP (k + 1) ?_ ?_ ⟨(same (by rw [hs1, Int.add_zero]; rfl)), same (by rw [← w64_nat (k := k) (by omega)]; rfl), trivial⟩ ⟨same rfl, same rfl, same rfl, trivial⟩ (.cons (s := 1060) rfl (CLe.refl _ _) rfl (.cons (s := 1051) rfl (CLe.refl _ _) rfl (.cons (s := 1052) rfl (by rw [hs1]; exact CLe.refl _ _) rfl .nil))); (· ((try dsimp only) <;> omega)); (· ((try dsimp only) <;> omega)))
          · skip
            (first | have e50 := of_decide_eq_true c50 | have e50 := of_decide_eq_false c50 | have e50 := ndec_t c50 | have e50 := ndec_f c50 | skip)
            have h49 : ¬ okR (lat l k).p = true := by rw [Bool.not_eq_true]; exact okpair_not c50
            (repeat refine J.seq ?_)
            refine J.skip ?_
            (repeat refine J.seq ?_)
            refine J.region ?_
            refine WL.yes (by rfl) (Ex.q (q_int (by rfl) (by rfl) (by rfl)) (by rfl) ?_)
            refine WL.yes (by rfl) (Ex.q (q_move (by rfl)) (by rfl) ?_)
            refine WL.nil ?_
            first | ((have hy := kimp_yes (s := (kimps s (l.take k)).2) h39 h42 h49; have hs1 := kimps_step (s := s) hk2; rw [hy] at hs1); refine Kloop.nextP (k + 1) ?_ ?_ ⟨(same (by rw [hs1]; exact congrArg (fun z => some (iV z)) (w64 (by have := kimps_cnt (l := l.take k) (s := s); omega) (by have := kimps_cnt (l := l.take k) (s := s); have := List.length_take_le k l; omega)))), same (by rw [← w64_nat (k := k) (by omega)]; rfl), trivial⟩ ⟨same rfl, same rfl, same rfl, trivial⟩ (.cons (s := 1060) rfl (CLe.refl _ _) rfl (.cons (s := 1051) rfl (CLe.refl _ _) rfl (.cons (s := 1052) rfl (by rw [hs1]; exact CLe.mp (aput_tput hU (lat l k)).symm) rfl .nil))); (· ((try dsimp only) <;> omega)); (· ((try dsimp only) <;> omega))) | ((have hy := kimp_no (s := (kimps s (l.take k)).2) (e := lat l k) (by rintro ⟨x1, x2, x3⟩; simp_all); have hs1 := kimps_step (s := s) hk2; rw [hy] at hs1); refine Kloop.nextP (k + 1) ?_ ?_ ⟨(same (by rw [hs1, Int.add_zero]; rfl)), same (by rw [← w64_nat (k := k) (by omega)]; rfl), trivial⟩ ⟨same rfl, same rfl, same rfl, trivial⟩ (.cons (s := 1060) rfl (CLe.refl _ _) rfl (.cons (s := 1051) rfl (CLe.refl _ _) rfl (.cons (s := 1052) rfl (by rw [hs1]; exact CLe.refl _ _) rfl .nil))); (· ((try dsimp only) <;> omega)); (· ((try dsimp only) <;> omega)))
        · skip
          (first | have eg45 := of_decide_eq_true g45 | have eg45 := of_decide_eq_false g45 | have eg45 := ndec_t g45 | have eg45 := ndec_f g45 | skip)
          have h42 : ¬ has (lat l k).p (kimps s (l.take k)).2.U = false := fun h9 => by rw [← isSome_has] at h9; rw [h9] at g45; cases g45
          refine WL.no (by rfl) (by rfl) ?_
          refine WL.no (by rfl) (by rfl) ?_
          refine WL.no (by rfl) (by rfl) ?_
          refine WL.no (by rfl) (by rfl) ?_
          refine WL.yes (by rfl) (Ex.q (q_pick_f (by rfl) (by rfl)) (by rfl) ?_)
          refine WL.nil ?_
          (repeat refine J.seq ?_)
          refine J.condF (by rfl) ?_
          (repeat refine J.seq ?_)
          refine J.skip ?_
          (repeat refine J.seq ?_)
          refine J.region ?_
          refine WL.yes (by rfl) (Ex.q (q_int (by rfl) (by rfl) (by rfl)) (by rfl) ?_)
          refine WL.yes (by rfl) (Ex.q (q_move (by rfl)) (by rfl) ?_)
          refine WL.nil ?_
          first | ((have hy := kimp_yes (s := (kimps s (l.take k)).2) h39 h42 h49; have hs1 := kimps_step (s := s) hk2; rw [hy] at hs1); refine Kloop.nextP (k + 1) ?_ ?_ ⟨(same (by rw [hs1]; exact congrArg (fun z => some (iV z)) (w64 (by have := kimps_cnt (l := l.take k) (s := s); omega) (by have := kimps_cnt (l := l.take k) (s := s); have := List.length_take_le k l; omega)))), same (by rw [← w64_nat (k := k) (by omega)]; rfl), trivial⟩ ⟨same rfl, same rfl, same rfl, trivial⟩ (.cons (s := 1060) rfl (CLe.refl _ _) rfl (.cons (s := 1051) rfl (CLe.refl _ _) rfl (.cons (s := 1052) rfl (by rw [hs1]; exact CLe.mp (aput_tput hU (lat l k)).symm) rfl .nil))); (· ((try dsimp only) <;> omega)); (· ((try dsimp only) <;> omega))) | ((have hy := kimp_no (s := (kimps s (l.take k)).2) (e := lat l k) (by rintro ⟨x1, x2, x3⟩; simp_all); have hs1 := kimps_step (s := s) hk2; rw [hy] at hs1); refine Kloop.nextP (k + 1) ?_ ?_ ⟨(same (by rw [hs1, Int.add_zero]; rfl)), same (by rw [← w64_nat (k := k) (by omega)]; rfl), trivial⟩ ⟨same rfl, same rfl, same rfl, trivial⟩ (.cons (s := 1060) rfl (CLe.refl _ _) rfl (.cons (s := 1051) rfl (CLe.refl _ _) rfl (.cons (s := 1052) rfl (by rw [hs1]; exact CLe.refl _ _) rfl .nil))); (· ((try dsimp only) <;> omega)); (· ((try dsimp only) <;> omega)))
      · skip
        (first | have eg41 := of_decide_eq_true g41 | have eg41 := of_decide_eq_false g41 | have eg41 := ndec_t g41 | have eg41 := ndec_f g41 | skip)
        have h39 : ¬ has (lat l k).p (kimps s (l.take k)).2.T = false := fun h9 => by rw [kimps_T, ← isSome_has] at h9; rw [h9] at g41; cases g41
        refine WL.no (by rfl) (by rfl) ?_
        refine WL.no (by rfl) (by rfl) ?_
        refine WL.yes (by rfl) (Ex.q (q_pick_f (by rfl) (by rfl)) (by rfl) ?_)
        refine WL.yes (by rfl) (Ex.q (q_move (by rfl)) (by rfl) ?_)
        refine WL.no (by rfl) (by rfl) ?_
        refine WL.no (by rfl) (by rfl) ?_
        refine WL.no (by rfl) (by rfl) ?_
        refine WL.no (by rfl) (by rfl) ?_
        refine WL.yes (by rfl) (Ex.q (q_pick_f (by rfl) (by rfl)) (by rfl) ?_)
        refine WL.nil ?_
        (repeat refine J.seq ?_)
        refine J.condF (by rfl) ?_
        (repeat refine J.seq ?_)
        refine J.skip ?_
        (repeat refine J.seq ?_)
        refine J.region ?_
        refine WL.yes (by rfl) (Ex.q (q_int (by rfl) (by rfl) (by rfl)) (by rfl) ?_)
        refine WL.yes (by rfl) (Ex.q (q_move (by rfl)) (by rfl) ?_)
        refine WL.nil ?_
        first | ((have hy := kimp_yes (s := (kimps s (l.take k)).2) h39 h42 h49; have hs1 := kimps_step (s := s) hk2; rw [hy] at hs1); refine Kloop.nextP (k + 1) ?_ ?_ ⟨(same (by rw [hs1]; exact congrArg (fun z => some (iV z)) (w64 (by have := kimps_cnt (l := l.take k) (s := s); omega) (by have := kimps_cnt (l := l.take k) (s := s); have := List.length_take_le k l; omega)))), same (by rw [← w64_nat (k := k) (by omega)]; rfl), trivial⟩ ⟨same rfl, same rfl, same rfl, trivial⟩ (.cons (s := 1060) rfl (CLe.refl _ _) rfl (.cons (s := 1051) rfl (CLe.refl _ _) rfl (.cons (s := 1052) rfl (by rw [hs1]; exact CLe.mp (aput_tput hU (lat l k)).symm) rfl .nil))); (· ((try dsimp only) <;> omega)); (· ((try dsimp only) <;> omega))) | ((have hy := kimp_no (s := (kimps s (l.take k)).2) (e := lat l k) (by rintro ⟨x1, x2, x3⟩; simp_all); have hs1 := kimps_step (s := s) hk2; rw [hy] at hs1); refine Kloop.nextP (k + 1) ?_ ?_ ⟨(same (by rw [hs1, Int.add_zero]; rfl)), same (by rw [← w64_nat (k := k) (by omega)]; rfl), trivial⟩ ⟨same rfl, same rfl, same rfl, trivial⟩ (.cons (s := 1060) rfl (CLe.refl _ _) rfl (.cons (s := 1051) rfl (CLe.refl _ _) rfl (.cons (s := 1052) rfl (by rw [hs1]; exact CLe.refl _ _) rfl .nil))); (· ((try dsimp only) <;> omega)); (· ((try dsimp only) <;> omega)))
    · skip
      (first | have e16 := of_decide_eq_true c16 | have e16 := of_decide_eq_false c16 | have e16 := ndec_t c16 | have e16 := ndec_f c16 | skip)
      (repeat refine J.seq ?_)
      refine J.exit ?_
      (repeat refine J.seq ?_)
      refine J.region ?_
      refine WL.yes (by rfl) (Ex.q (q_move (by rfl)) (by rfl) ?_)
      refine WL.yes (by rfl) (Ex.q (q_assign (by rfl)) (by rfl) ?_)
      refine WL.nil ?_
      (repeat refine J.seq ?_)
      refine J.ret ?_
      (repeat (with_reducible first | refine Kseq.ret ?_ | refine Kblock.ret ?_ | refine Kloop.ret ?_ | refine Kcut.ret ?_))
      refine Kret.mk [(1060, .box kb 93 (kV b1 b2 (kimps s l).2.n)), (1051, tbl b1 (kimps s l).2.T), (1052, tbl b2 (kimps s l).2.U)] (.tmp (by rfl) (.nil)) (by rfl) trivial (HLe.sub (.cons (s := 1060) rfl (by rw [kimps_n]; exact CLe.refl _ _) rfl (.cons (s := 1051) rfl (by rw [kimps_T]; exact CLe.refl _ _) rfl (.cons (s := 1052) rfl (by rw [show l.take k = l from List.take_of_length_le (by omega)]; exact CLe.refl _ _) rfl .nil)))) ?_
      refine ⟨?_, rfl⟩
      rw [show l.take k = l from List.take_of_length_le (by omega)]
      rfl

set_option maxHeartbeats 16000000 in
set_option maxRecDepth 100000 in
theorem kImportNil_spec {a : Option Addr} {cap : Nat} {l : List En} : Spec Try.prog 17 [.nilp, lros a cap enE l] [] (fun r H' => r = iV 0 ∧ H' = []) := by
  refine Spec.of_J Try.func17 rfl Try.ntmps17 Try.results17 rfl ?_
  intro A F hAF
  (repeat refine J.seq ?_)
  refine J.region ?_
  refine WL.yes (by rfl) (Ex.q (q_assign (by rfl)) (by rfl) ?_)
  refine WL.nil ?_
  (repeat refine J.seq ?_)
  refine J.region ?_
  refine WL.yes (by rfl) (Ex.q (q_move (by rfl)) (by rfl) ?_)
  refine WL.yes (by rfl) (Ex.q (q_eqnil (by rfl) (by rfl) (by rfl)) (by rfl) ?_)
  refine WL.nil ?_
  (repeat refine J.seq ?_)
  refine J.cond (by rfl) (fun c12 => ?_) (fun c12 => ?_)
  · skip
    (first | have e12 := of_decide_eq_true c12 | have e12 := of_decide_eq_false c12 | have e12 := ndec_t c12 | have e12 := ndec_f c12 | skip)
    (repeat refine J.seq ?_)
    refine J.region ?_
    refine WL.yes (by rfl) (Ex.q (q_assign (by rfl)) (by rfl) ?_)
    refine WL.nil ?_
    (repeat refine J.seq ?_)
    refine J.ret ?_
    (repeat (with_reducible first | refine Kseq.ret ?_ | refine Kblock.ret ?_ | refine Kloop.ret ?_ | refine Kcut.ret ?_))
    refine Kret.mk [] (.tmp (by rfl) (.nil)) (by rfl) trivial (HLe.nil _ _) ?_
    exact ⟨rfl, rfl⟩
  · skip
    cases c12

set_option maxHeartbeats 16000000 in
set_option maxRecDepth 100000 in
theorem clone_spec (b : Nat) {T : List En} : Spec Try.prog 56 [.map 51 (some b)] [(51, tbl b T)] (fun r H' => ∃ b', r = .map 52 (some b') ∧ H' = [(51, tbl b T), (52, tbl b' T)]) := by
  refine Spec.of_J Try.func56 rfl Try.ntmps56 Try.results56 rfl ?_
  intro A F hAF
  (repeat refine J.seq ?_)
  refine J.region ?_
  refine WL.yes (by rfl) (Ex.q (q_assign (by rfl)) (by rfl) ?_)
  refine WL.nil ?_
  (repeat refine J.seq ?_)
  refine J.region ?_
  refine WL.yes (by rfl) (Ex.q (q_move (by rfl)) (by rfl) ?_)
  refine WL.yes (by rfl) (Ex.q (q_eqmapnil (by rfl) (by rfl)) (by rfl) ?_)
  refine WL.nil ?_
  (repeat refine J.seq ?_)
  refine J.cond (by rfl) (fun c4 => ?_) (fun c4 => ?_)
  · skip
    cases c4
  · skip
    (first | have e4 := of_decide_eq_true c4 | have e4 := of_decide_eq_false c4 | have e4 := ndec_t c4 | have e4 := ndec_f c4 | skip)
    (repeat refine J.seq ?_)
    refine J.skip ?_
    (repeat refine J.seq ?_)
    refine J.region ?_
    refine WL.yes (by rfl) (Ex.q (q_move (by rfl)) (by rfl) ?_)
    refine WL.yes (by rfl) (Ex.q (q_makeIface (by rfl)) (by rfl) ?_)
    refine WL.yes (by rfl) (Ex.clone (fn := Try.f78) (t := 51) (e := prE) (f := enE) (L := tblKV T) rfl (by kernel_rfl) (by kernel_rfl) (by kernel_rfl) (by kernel_rfl) (by rfl) (by rfl) (by rfl) ?_)
    intro b7
    refine WL.yes (by rfl) (Ex.q (q_typeAssertMap 7 (by rfl)) (by rfl) ?_)
    refine WL.yes (by rfl) (Ex.q (q_assign (by rfl)) (by rfl) ?_)
    refine WL.nil ?_
    (repeat refine J.seq ?_)
    refine J.ret ?_
    (repeat (with_reducible first | refine Kseq.ret ?_ | refine Kblock.ret ?_ | refine Kloop.ret ?_ | refine Kcut.ret ?_))
    exact Kret.mk2 (vs := [.map 7 (some b7)]) (.map 52 (some b7)) [(51, tbl b T), (52, tbl b7 T)] (.tmp (by rfl) .nil) (by rfl) trivial rfl (fun _ h => h) (HLe.sub (.cons (s := 51) rfl (CLe.refl _ _) rfl (.cons (s := 7) rfl (CLe.refl _ _) rfl .nil))) ⟨b7, rfl, rfl⟩

theorem clone56 (t u b : Nat) {T : List En} : Spec Try.prog 56 [.map t (some b)] [(t, tbl b T)] (fun r H' => ∃ b', r = .map u (some b') ∧ H' = [(t, tbl b T), (u, tbl b' T)]) := by
  refine (clone_spec b (T := T)).conseq rfl (fun _ h => by simp [VOk]) (fun A => HLe.sub (.cons (s := t) (by rw [get_cons, if_pos rfl]) (CLe.refl _ _) rfl .nil)) ?_
  rintro r H1 ⟨b', rfl, rfl⟩
  exact ⟨.map u (some b'), _, ⟨b', rfl, rfl⟩, rfl, fun _ _ => trivial, fun A => HLe.sub (.cons (s := 51) rfl (CLe.refl _ _) rfl (.cons (s := 52) rfl (CLe.refl _ _) rfl .nil))⟩

abbrev kVt (t1 t2 b1 b2 : Nat) (n : Int) : V := .pair (.map t1 (some b1)) (.pair (.map t2 (some b2)) (iV n))
abbrev KO2 (kb b1 b2 : Nat) (s : KS) : List (Nat × Cell) := [(2060, .box kb 93 (kVt 2051 2052 b1 b2 s.n)), (2051, tbl b1 s.T), (2052, tbl b2 s.U)]

theorem KO_of_KO2 (A : Fr) (kb b1 b2 : Nat) (s : KS) : HLe A (KO2 kb b1 b2 s) (KO kb b1 b2 s) :=
  HLe.sub (.cons (s := 2060) rfl (CLe.cells rfl (fun _ => rfl) (fun _ => ⟨trivial, trivial, trivial⟩)) rfl (.cons (s := 2051) rfl (CLe.refl _ _) rfl (.cons (s := 2052) rfl (CLe.refl _ _) rfl .nil)))
theorem KO2_of_KO (A : Fr) (kb b1 b2 : Nat) (s : KS) : HLe A (KO kb b1 b2 s) (KO2 kb b1 b2 s) :=
  HLe.sub (.cons (s := 1060) rfl (CLe.cells rfl (fun _ => rfl) (fun _ => ⟨trivial, trivial, trivial⟩)) rfl (.cons (s := 1051) rfl (CLe.refl _ _) rfl (.cons (s := 1052) rfl (CLe.refl _ _) rfl .nil)))

theorem Spec.second {f : FuncId} {kb b1 b2 : Nat} {s s' : KS} {vs : List V} {v : V} (h : Spec Try.prog f (.ptr 1060 kb 0 :: vs) (KO kb b1 b2 s) (fun r H' => r = v ∧ H' = KO kb b1 b2 s')) :
    Spec Try.prog f (.ptr 2060 kb 0 :: vs) (KO2 kb b1 b2 s) (fun r H' => r = v ∧ H' = KO2 kb b1 b2 s') := by
  refine h.conseq rfl (fun A hv v hm => ?_) (fun A => KO_of_KO2 A kb b1 b2 s) ?_
  · rcases List.mem_cons.1 hm with rfl | hm
    · trivial
    · exact hv v (by simp [hm])
  · rintro r H1 ⟨rfl, rfl⟩
    exact ⟨_, _, ⟨rfl, rfl⟩, rfl, fun _ h => h, fun A => KO2_of_KO A kb b1 b2 s'⟩

set_option maxHeartbeats 16000000 in
set_option maxRecDepth 100000 in
theorem kCopy_spec (kb b1 b2 : Nat) {s : KS} : Spec Try.prog 19 [.ptr 1060 kb 0] [(1060, .box kb 93 (kV b1 b2 s.n)), (1051, tbl b1 s.T), (1052, tbl b2 s.U)] (fun r H' => ∃ kb' b1' b2', r = .ptr 2060 kb' 0 ∧ H' = KO2 kb' b1' b2' s ++ KO kb b1 b2 s) := by
  refine Spec.of_J Try.func19 rfl Try.ntmps19 Try.results19 rfl ?_
  intro A F hAF
  (repeat refine J.seq ?_)
  refine J.region ?_
  refine WL.yes (by rfl) (Ex.q (q_assign (by rfl)) (by rfl) ?_)
  refine WL.nil ?_
  (repeat refine J.seq ?_)
  refine J.region ?_
  refine WL.yes (by rfl) (Ex.q (q_move (by rfl)) (by rfl) ?_)
  refine WL.yes (by rfl) (Ex.q (q_eqnil (by rfl) (by rfl) (by rfl)) (by rfl) ?_)
  refine WL.nil ?_
  (repeat refine J.seq ?_)
  refine J.cond (by rfl) (fun c4 => ?_) (fun c4 => ?_)
  · skip
    cases c4
  · skip
    (first | have e4 := of_decide_eq_true c4 | have e4 := of_decide_eq_false c4 | have e4 := ndec_t c4 | have e4 := ndec_f c4 | skip)
    (repeat refine J.seq ?_)
    refine J.skip ?_
    (repeat refine J.seq ?_)
    refine J.draw [1060] 9999 [(0, true), (1, true), (2, true), (3, true), (5, true), (6, true), (7, true), (8, true), (10, true), (11, true), (12, true), (13, true), (4, false), (9, false), (14, true), (15, false), (16, true)] (by kernel_rfl) rfl (by kernel_rfl) ?_
    intro F1 hF1
    refine WS.take rfl (by rfl) (by rfl) (q_move (by rfl)) ?_
    refine WS.take rfl (by rfl) (by rfl) (q_nilCheck (by rfl) (by rfl)) ?_
    first | (refine WS.take rfl (by rfl) (by rfl) (q_fieldAddr (by rfl)) ?_) | (refine WS.take rfl (by rfl) (by rfl) (q_fieldAddr_rop (by rfl) (by rfl)) ?_) | (refine WS.take rfl (by rfl) (by rfl) (q_fieldAddr_pel (by rfl)) ?_)
    first | (refine WS.take rfl (by rfl) (by rfl) (q_load (by rfl) (by rfl) (by rfl)) ?_) | (refine WS.take rfl (by rfl) (by rfl) (q_load_rop (by rfl) (by rfl)) ?_) | (refine WS.take rfl (by rfl) (by rfl) (q_load_pel (by rfl) (by rfl) ?_ (by rfl)) ?_; (· (omega)))
    refine WS.take rfl (by rfl) (by rfl) (q_move (by rfl)) ?_
    refine WS.take rfl (by rfl) (by rfl) (q_nilCheck (by rfl) (by rfl)) ?_
    first | (refine WS.take rfl (by rfl) (by rfl) (q_fieldAddr (by rfl)) ?_) | (refine WS.take rfl (by rfl) (by rfl) (q_fieldAddr_rop (by rfl) (by rfl)) ?_) | (refine WS.take rfl (by rfl) (by rfl) (q_fieldAddr_pel (by rfl)) ?_)
    first | (refine WS.take rfl (by rfl) (by rfl) (q_load (by rfl) (by rfl) (by rfl)) ?_) | (refine WS.take rfl (by rfl) (by rfl) (q_load_rop (by rfl) (by rfl)) ?_) | (refine WS.take rfl (by rfl) (by rfl) (q_load_pel (by rfl) (by rfl) ?_ (by rfl)) ?_; (· (omega)))
    refine WS.take rfl (by rfl) (by rfl) (q_move (by rfl)) ?_
    refine WS.take rfl (by rfl) (by rfl) (q_nilCheck (by rfl) (by rfl)) ?_
    first | (refine WS.take rfl (by rfl) (by rfl) (q_fieldAddr (by rfl)) ?_) | (refine WS.take rfl (by rfl) (by rfl) (q_fieldAddr_rop (by rfl) (by rfl)) ?_) | (refine WS.take rfl (by rfl) (by rfl) (q_fieldAddr_pel (by rfl)) ?_)
    first | (refine WS.take rfl (by rfl) (by rfl) (q_load (by rfl) (by rfl) (by rfl)) ?_) | (refine WS.take rfl (by rfl) (by rfl) (q_load_rop (by rfl) (by rfl)) ?_) | (refine WS.take rfl (by rfl) (by rfl) (q_load_pel (by rfl) (by rfl) ?_ (by rfl)) ?_; (· (omega)))
    refine WS.ex rfl (by rfl) (Ex.callL (clone56 1051 2051 b1) (by rfl) (by rfl) (.cons rfl .nil) ?_)
    rintro _ _ ⟨b3, rfl, rfl⟩
    refine WS.ex rfl (by rfl) (Ex.callL (clone56 1052 2052 b2) (by rfl) (by rfl) (.cons rfl .nil) ?_)
    rintro _ _ ⟨b4, rfl, rfl⟩
    refine WS.take rfl (by rfl) (by rfl) (q_build (parts := [(0, .tmp 9), (1, .tmp 14), (2, .tmp 18)]) (by rfl) (by rfl)) ?_
    refine WS.ex rfl (by rfl) (Ex.box (by rfl) (by rfl) (by rfl) ?_)
    intro b20
    refine WS.take rfl (by rfl) (by rfl) (q_assign (by rfl)) ?_
    refine WS.nil ?_
    (repeat refine J.seq ?_)
    refine J.ret ?_
    (repeat (with_reducible first | refine Kseq.ret ?_ | refine Kblock.ret ?_ | refine Kloop.ret ?_ | refine Kcut.ret ?_))
    refine Kret.mk2 (vs := [.ptr 20 b20 0]) (.ptr 2060 b20 0) (KO2 b20 b3 b4 s ++ KO kb b1 b2 s) (.tmp (by rfl) .nil) (by rfl) trivial rfl (fun _ h => h) (HLe.sub (.cons (s := 20) rfl (CLe.refl _ _) rfl (.cons (s := 2051) rfl (CLe.refl _ _) rfl (.cons (s := 2052) rfl (CLe.refl _ _) rfl (.cons (s := 1060) rfl (CLe.refl _ _) rfl (.cons (s := 1051) rfl (CLe.refl _ _) rfl (.cons (s := 1052) rfl (CLe.refl _ _) rfl .nil))))))) ⟨b20, b3, b4, rfl, rfl⟩

set_option maxHeartbeats 16000000 in
set_option maxRecDepth 100000 in
theorem kCopyNil_spec  : Spec Try.prog 19 [.nilp] [] (fun r H' => r = .nilp ∧ H' = []) := by
  refine Spec.of_J Try.func19 rfl Try.ntmps19 Try.results19 rfl ?_
  intro A F hAF
  (repeat refine J.seq ?_)
  refine J.region ?_
  refine WL.yes (by rfl) (Ex.q (q_assign (by rfl)) (by rfl) ?_)
  refine WL.nil ?_
  (repeat refine J.seq ?_)
  refine J.region ?_
  refine WL.yes (by rfl) (Ex.q (q_move (by rfl)) (by rfl) ?_)
  refine WL.yes (by rfl) (Ex.q (q_eqnil (by rfl) (by rfl) (by rfl)) (by rfl) ?_)
  refine WL.nil ?_
  (repeat refine J.seq ?_)
  refine J.cond (by rfl) (fun c4 => ?_) (fun c4 => ?_)
  · skip
    (first | have e4 := of_decide_eq_true c4 | have e4 := of_decide_eq_false c4 | have e4 := ndec_t c4 | have e4 := ndec_f c4 | skip)
    (repeat refine J.seq ?_)
    refine J.region ?_
    refine WL.yes (by rfl) (Ex.q (q_assign (by rfl)) (by rfl) ?_)
    refine WL.nil ?_
    (repeat refine J.seq ?_)
    refine J.ret ?_
    (repeat (with_reducible first | refine Kseq.ret ?_ | refine Kblock.ret ?_ | refine Kloop.ret ?_ | refine Kcut.ret ?_))
    refine Kret.mk [] (.tmp (by rfl) (.nil)) (by rfl) trivial (HLe.nil _ _) ?_
    exact ⟨rfl, rfl⟩
  · skip
    cases c4

end Go.Vm
