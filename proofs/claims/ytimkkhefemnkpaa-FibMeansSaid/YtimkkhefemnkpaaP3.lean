/- The Fib: Next, Reply, Drained, At: the walks. -/
import Derived.Test.YtimkkhefemnkpaaP2
namespace Go.Vm
open Go Go.Proofs

theorem next_busy {s : FS} {now : Int} (h : s.busy = true) : s.next now = ((default, false), s) := if_pos h
theorem next_no {s : FS} {now : Int} (h : s.busy = false) (hz : ∀ j, j < s.todo.length → rdy now s.F (lat s.todo j) = false) : s.next now = ((default, false), s) := by
  unfold FS.next; rw [if_neg (by simp [h]), nextO_no hz]
theorem next_yes {s : FS} {now : Int} {k : Nat} (h : s.busy = false) (hk : k < s.todo.length) (hz : ∀ j, j < k → rdy now s.F (lat s.todo j) = false) (hx : rdy now s.F (lat s.todo k) = true) : s.next now = ((lat s.todo k, true), { s with wo := lat s.todo k, busy := true }) := by
  unfold FS.next; rw [if_neg (by simp [h]), nextO_at hk hz hx]
theorem reply_no {s : FS} {now : Int} {ok : Bool} (h : s.busy = false) : s.reply now ok = (7, s) := if_pos h
theorem reply_fail {s : FS} {now : Int} (h : s.busy = true) : s.reply now false = (0, { s with busy := false, F := adel s.wo.e.p s.F ++ [(s.wo.e.p, now + 1000)] }) := by
  unfold FS.reply; rw [if_neg (by simp [h]), if_pos rfl]
theorem reply_rem {s : FS} {now : Int} (h : s.busy = true) (hk : s.wo.k = 3) : s.reply now true = (0, { s with busy := false, F := adel s.wo.e.p s.F, H := tdel s.wo.e.p s.H }) := by
  unfold FS.reply; rw [if_neg (by simp [h]), if_neg (by simp), if_pos hk]
theorem reply_put {s : FS} {now : Int} (h : s.busy = true) (hk : ¬ s.wo.k = 3) : s.reply now true = (0, { s with busy := false, F := adel s.wo.e.p s.F, H := tput s.wo.e s.H }) := by
  unfold FS.reply; rw [if_neg (by simp [h]), if_neg (by simp), if_neg hk]
theorem KOk.adel {F : List (Pr × Int)} (h : KOk Pr.ok F) (p : Pr) : KOk Pr.ok (Go.Vm.adel p F) := ⟨fun x hx => h.1 x (List.mem_filter.1 hx).1, h.2.sublist (List.filter_sublist.map _)⟩
theorem adel_idem {F : List (Pr × Int)} (p : Pr) : Go.Vm.adel p (Go.Vm.adel p F) = Go.Vm.adel p F := by unfold Go.Vm.adel; rw [List.filter_filter]; congr 1; funext x; simp
theorem aput_end {F : List (Pr × Int)} (p : Pr) (v : Int) : (Go.Vm.adel p F ++ [(p, v)]).Perm (aput p v (Go.Vm.adel p F)) := by
  unfold aput; rw [adel_idem]; exact List.perm_append_singleton _ _
theorem atS_step {s : FS} {k : Nat} (h : k < s.todo.length) : atL s.F (s.todo.take (k + 1)) = as1 s.F (atL s.F (s.todo.take k)) (lat s.todo k) := fold_step h

set_option maxHeartbeats 16000000 in
set_option maxRecDepth 100000 in
theorem fNext_n (fb mh mw mf wp : Nat) {s : FS} {now : Int} (hy : s.busy = false)(hs : FOk s) : Spec Try.prog 32 [.ptr 1060 fb 0, iV now] [(1060, .box fb 103 (fV mh mw mf .nilp)), (1051, tbl mh s.H), (1052, tbl mw s.W), (1053, mpc mf prE iV s.F), (1054, .vec none 39 52 0 0 (fun _ => opE default))] (fun r H' => ∃ wp', r = .tup2 (opE (s.next now).1.1) (.bool (s.next now).1.2) ∧ H' = FO fb mh mw mf wp' (s.next now).2) := by
  refine Spec.of_J Try.func32 rfl Try.ntmps32 Try.results32 rfl ?_
  intro A F hAF
  have htl := hs.todo_len
  (repeat refine J.seq ?_)
  refine J.region ?_
  refine WL.yes (by rfl) (Ex.alloc (by rfl) ?_)
  intro b4
  refine WL.yes (by rfl) (Ex.q (q_assign (by rfl)) (by rfl) ?_)
  refine WL.nil ?_
  (repeat refine J.seq ?_)
  refine J.region ?_
  refine WL.yes (by rfl) (Ex.q (q_move (by rfl)) (by rfl) ?_)
  refine WL.yes (by rfl) (Ex.q (q_eqnil (by rfl) (by rfl) (by rfl)) (by rfl) ?_)
  refine WL.yes (by rfl) (Ex.q (q_move (by rfl)) (by rfl) ?_)
  refine WL.yes (by rfl) (Ex.q (q_move (by rfl)) (by rfl) ?_)
  refine WL.yes (by rfl) (Ex.q (q_nilCheck (by rfl) (by rfl)) (by rfl) ?_)
  first | (refine WL.yes (by rfl) (Ex.q (q_fieldAddr (by rfl)) (by rfl) ?_)) | (refine WL.yes (by rfl) (Ex.q (q_fieldAddr_rop (by rfl) (by rfl)) (by rfl) ?_)) | (refine WL.yes (by rfl) (Ex.q (q_fieldAddr_pel (by rfl)) (by rfl) ?_))
  first | (refine WL.yes (by rfl) (Ex.h (h_load (by rfl) (by rfl) (by rfl)) (by rfl) ?_)) | (refine WL.yes (by rfl) (Ex.q (q_load (by rfl) (by rfl) (by rfl)) (by rfl) ?_)) | (refine WL.yes (by rfl) (Ex.q (q_load_rop (by rfl) (by rfl)) (by rfl) ?_)) | (refine WL.yes (by rfl) (Ex.h (h_load_pel (by rfl) (by rfl) ?_ (by rfl)) (by rfl) ?_); (· (omega))) | (refine WL.yes (by rfl) (Ex.q (q_load_pel (by rfl) (by rfl) ?_ (by rfl)) (by rfl) ?_); (· (omega)))
  refine WL.yes (by rfl) (Ex.q (q_nenil (by rfl) (by rfl) (by rfl)) (by rfl) ?_)
  refine WL.yes (by rfl) (Ex.q (q_pick_f (by rfl) (by rfl)) (by rfl) ?_)
  refine WL.nil ?_
  (repeat refine J.seq ?_)
  refine J.condF (by rfl) ?_
  (repeat refine J.seq ?_)
  refine J.skip ?_
  (repeat refine J.seq ?_)
  refine J.region ?_
  refine WL.yes (by rfl) (Ex.q (q_move (by rfl)) (by rfl) ?_)
  refine WL.yes (by rfl) (Ex.callL (fTodo_n fb mh mw mf wp hy hs) (by rfl) (by rfl) (.cons rfl (.cons rfl (.cons rfl (.cons rfl (.cons rfl .nil))))) ?_)
  rintro _ _ ⟨a21, cap21, rfl, rfl⟩
  rw [FO_n hy]
  first | (refine WL.yes (by rfl) (Ex.q (q_len_slice (by rfl) (by rfl)) (by rfl) ?_)) | (refine WL.yes (by rfl) (Ex.q (q_len_string (by rfl)) (by rfl) ?_))
  refine WL.yes (by rfl) (Ex.q (q_move (by rfl)) (by rfl) ?_)
  refine WL.nil ?_
  (repeat refine J.seq ?_)
  refine J.block ?_
  (repeat refine J.seq ?_)
  refine J.loopP (fun x : Nat => x ≤ s.todo.length ∧ ∀ j, j < x → rdy now s.F (lat s.todo j) = false) (fun x => [(23, iV x)]) (fun x => []) (fun x => s.todo.length - x) (0) [(0, _), (1, _), (4, _), (21, _), (22, _)] [(4, _), (1051, _), (1052, _), (1053, _), (1054, _), (1060, _), (2067, _)] ⟨same rfl, same rfl, same rfl, same rfl, same rfl, trivial⟩ ⟨same rfl, trivial⟩ (.cons (s := 4) rfl (CLe.refl _ _) rfl (.cons (s := 1051) rfl (CLe.refl _ _) rfl (.cons (s := 1052) rfl (CLe.refl _ _) rfl (.cons (s := 1053) rfl (CLe.refl _ _) rfl (.cons (s := 1054) rfl (CLe.refl _ _) rfl (.cons (s := 1060) rfl (CLe.refl _ _) rfl (.cons (s := 2067) rfl (CLe.refl _ _) rfl .nil))))))) ?_ ?_
  · (exact ⟨Nat.zero_le _, fun j hj => absurd hj (Nat.not_lt_zero j)⟩)
  rintro k hx
  (try dsimp only at hx)
  obtain ⟨hk, hz⟩ := hx
  (repeat refine J.seq ?_)
  refine J.region ?_
  refine WL.yes (by rfl) (Ex.q (q_int (by rfl) (by rfl) (by rfl)) (by rfl) ?_)
  refine WL.nil ?_
  (repeat refine J.seq ?_)
  refine J.cond (by rfl) (fun c24 => ?_) (fun c24 => ?_)
  · skip
    (first | have e24 := of_decide_eq_true c24 | have e24 := of_decide_eq_false c24 | have e24 := ndec_t c24 | have e24 := ndec_f c24 | skip)
    (repeat refine J.seq ?_)
    refine J.skip ?_
    (repeat refine J.seq ?_)
    refine J.block ?_
    (repeat refine J.seq ?_)
    have hk2 : k < s.todo.length := by omega
    have hk3 : (lat s.todo k).e.ok := hs.todo_ok _ (lat_mem hk2)
    refine J.vecsome (t := 2067) rfl (by omega) ?_
    intro b21 hb21
    subst hb21
    refine J.region ?_
    first | (refine WL.yes (by rfl) (Ex.q (q_indexAddr_ros (by rfl) (by rfl) (by intro _; rfl) ?_ ?_) (by rfl) ?_); (· (omega)); (· (omega))) | (refine WL.yes (by rfl) (Ex.q (q_indexAddr_sl (by rfl) (by rfl) ?_ ?_) (by rfl) ?_); (· (omega)); (· (omega))) | (refine WL.yes (by rfl) (Ex.q (q_indexAddr_arr (by rfl) (by rfl) ?_ ?_) (by rfl) ?_); (· (omega)); (· (omega)))
    first | (refine WL.yes (by rfl) (Ex.h (h_load (by rfl) (by rfl) (by rfl)) (by rfl) ?_)) | (refine WL.yes (by rfl) (Ex.q (q_load (by rfl) (by rfl) (by rfl)) (by rfl) ?_)) | (refine WL.yes (by rfl) (Ex.q (q_load_rop (by rfl) (by rfl)) (by rfl) ?_)) | (refine WL.yes (by rfl) (Ex.h (h_load_pel (by rfl) (by rfl) ?_ (by rfl)) (by rfl) ?_); (· (omega))) | (refine WL.yes (by rfl) (Ex.q (q_load_pel (by rfl) (by rfl) ?_ (by rfl)) (by rfl) ?_); (· (omega)))
    refine WL.set 26 (opE (lat s.todo k)) (by rfl) (by rw [Nat.zero_add, Int.toNat_natCast]) ?_
    refine WL.yes (by rfl) (Ex.alloc (by rfl) ?_)
    intro b7
    first | (refine WL.yes (by rfl) (Ex.store (by rfl) (by rfl) (by rfl) (by rfl) (by rfl) (by rfl) ?_)) | (refine WL.yes (by rfl) (Ex.store_pel (by rfl) (by rfl) (by rfl) (by rfl) (by rfl) ?_ (by rfl) ?_); (· (omega)))
    refine WL.nil ?_
    (repeat refine J.seq ?_)
    refine J.draw [4, 7, 1051, 1052, 1053, 1054, 1060, 2067] 9999 [(0, true), (1, true), (2, true), (3, true), (4, true), (5, true), (6, true), (7, true), (8, true), (9, true), (10, true), (11, true), (12, true)] (by kernel_rfl) rfl (by kernel_rfl) ?_
    intro F1 hF1
    refine WS.take rfl (by rfl) (by rfl) (q_move (by rfl)) ?_
    refine WS.take rfl (by rfl) (by rfl) (q_nilCheck (by rfl) (by rfl)) ?_
    first | (refine WS.take rfl (by rfl) (by rfl) (q_fieldAddr (by rfl)) ?_) | (refine WS.take rfl (by rfl) (by rfl) (q_fieldAddr_rop (by rfl) (by rfl)) ?_) | (refine WS.take rfl (by rfl) (by rfl) (q_fieldAddr_pel (by rfl)) ?_)
    first | (refine WS.take rfl (by rfl) (by rfl) (q_load (by rfl) (by rfl) (by rfl)) ?_) | (refine WS.take rfl (by rfl) (by rfl) (q_load_rop (by rfl) (by rfl)) ?_) | (refine WS.take rfl (by rfl) (by rfl) (q_load_pel (by rfl) (by rfl) ?_ (by rfl)) ?_; (· (omega)))
    first | (refine WS.take rfl (by rfl) (by rfl) (q_fieldAddr (by rfl)) ?_) | (refine WS.take rfl (by rfl) (by rfl) (q_fieldAddr_rop (by rfl) (by rfl)) ?_) | (refine WS.take rfl (by rfl) (by rfl) (q_fieldAddr_pel (by rfl)) ?_)
    first | (refine WS.take rfl (by rfl) (by rfl) (q_fieldAddr (by rfl)) ?_) | (refine WS.take rfl (by rfl) (by rfl) (q_fieldAddr_rop (by rfl) (by rfl)) ?_) | (refine WS.take rfl (by rfl) (by rfl) (q_fieldAddr_pel (by rfl)) ?_)
    first | (refine WS.take rfl (by rfl) (by rfl) (q_load (by rfl) (by rfl) (by rfl)) ?_) | (refine WS.take rfl (by rfl) (by rfl) (q_load_rop (by rfl) (by rfl)) ?_) | (refine WS.take rfl (by rfl) (by rfl) (q_load_pel (by rfl) (by rfl) ?_ (by rfl)) ?_; (· (omega)))
    refine WS.take rfl (by rfl) (by rfl) (q_lookup_ok (e := prE) (f := iV) rfl (by rfl) (by rfl) (by rfl) hs.f hk3.1) ?_
    refine WS.take rfl (by rfl) (by rfl) (q_move (by rfl)) ?_
    first | (refine WS.take rfl (by rfl) (by rfl) (q_extract2 (by rfl) (by rfl)) ?_) | (refine WS.take rfl (by rfl) (by rfl) (q_extract3 (by rfl) (by rfl)) ?_)
    first | (refine WS.take rfl (by rfl) (by rfl) (q_extract2 (by rfl) (by rfl)) ?_) | (refine WS.take rfl (by rfl) (by rfl) (q_extract3 (by rfl) (by rfl)) ?_)
    refine WS.take rfl (by rfl) (by rfl) (q_assign (by rfl)) ?_
    refine WS.take rfl (by rfl) (by rfl) (q_assign (by rfl)) ?_
    refine WS.nil ?_
    (repeat refine J.seq ?_)
    refine J.region ?_
    refine WL.yes (by rfl) (Ex.q (q_move (by rfl)) (by rfl) ?_)
    refine WL.yes (by rfl) (Ex.q (q_not (by rfl)) (by rfl) ?_)
    refine WL.yes (by rfl) (Ex.q (q_move (by rfl)) (by rfl) ?_)
    refine WL.split 40 (by rfl) (fun g40 => ?_) (fun g40 => ?_)
    · skip
      (first | have eg40 := of_decide_eq_true g40 | have eg40 := of_decide_eq_false g40 | have eg40 := ndec_t g40 | have eg40 := ndec_f g40 | skip)
      have h1 : rdy now s.F (lat s.todo k) = true := rdy_none (by simpa using g40)
      refine WL.no (by rfl) (by rfl) ?_
      refine WL.no (by rfl) (by rfl) ?_
      refine WL.no (by rfl) (by rfl) ?_
      refine WL.yes (by rfl) (Ex.q (q_pick_t (by rfl) (by rfl)) (by rfl) ?_)
      refine WL.nil ?_
      (repeat refine J.seq ?_)
      refine J.condT (by rfl) ?_
      (repeat refine J.seq ?_)
      refine J.region ?_
      refine WL.yes (by rfl) (Ex.q (q_move (by rfl)) (by rfl) ?_)
      refine WL.yes (by rfl) (Ex.q (q_nilCheck (by rfl) (by rfl)) (by rfl) ?_)
      first | (refine WL.yes (by rfl) (Ex.q (q_fieldAddr (by rfl)) (by rfl) ?_)) | (refine WL.yes (by rfl) (Ex.q (q_fieldAddr_rop (by rfl) (by rfl)) (by rfl) ?_)) | (refine WL.yes (by rfl) (Ex.q (q_fieldAddr_pel (by rfl)) (by rfl) ?_))
      first | (refine WL.yes (by rfl) (Ex.store (by rfl) (by rfl) (by rfl) (by rfl) (by rfl) (by rfl) ?_)) | (refine WL.yes (by rfl) (Ex.store_pel (by rfl) (by rfl) (by rfl) (by rfl) (by rfl) ?_ (by rfl) ?_); (· (omega)))
      refine WL.nil ?_
      (repeat refine J.seq ?_)
      refine J.region ?_
      first | (refine WL.yes (by rfl) (Ex.h (h_load (by rfl) (by rfl) (by rfl)) (by rfl) ?_)) | (refine WL.yes (by rfl) (Ex.q (q_load (by rfl) (by rfl) (by rfl)) (by rfl) ?_)) | (refine WL.yes (by rfl) (Ex.q (q_load_rop (by rfl) (by rfl)) (by rfl) ?_)) | (refine WL.yes (by rfl) (Ex.h (h_load_pel (by rfl) (by rfl) ?_ (by rfl)) (by rfl) ?_); (· (omega))) | (refine WL.yes (by rfl) (Ex.q (q_load_pel (by rfl) (by rfl) ?_ (by rfl)) (by rfl) ?_); (· (omega)))
      first | (refine WL.yes (by rfl) (Ex.store (by rfl) (by rfl) (by rfl) (by rfl) (by rfl) (by rfl) ?_)) | (refine WL.yes (by rfl) (Ex.store_pel (by rfl) (by rfl) (by rfl) (by rfl) (by rfl) ?_ (by rfl) ?_); (· (omega)))
      refine WL.yes (by rfl) (Ex.q (q_assign (by rfl)) (by rfl) ?_)
      refine WL.nil ?_
      (repeat refine J.seq ?_)
      refine J.ret ?_
      (repeat (with_reducible first | refine Kseq.ret ?_ | refine Kblock.ret ?_ | refine Kloop.ret ?_ | refine Kcut.ret ?_))
      first
        | (rw [next_yes hy hk2 hz h1]; exact Kret.mk [(1060, .box fb 103 (fV mh mw mf (.ptr 1054 b7 0))), (1051, tbl mh s.H), (1052, tbl mw s.W), (1053, mpc mf prE iV s.F), (1054, .box b7 39 (opE (lat s.todo k)))] (.cell inferInstance (by rfl) (by rfl) (by rfl) (.tmp (by rfl) .nil)) (by rfl) trivial (HLe.sub (.cons (s := 1060) rfl (CLe.cells rfl (fun h => h) (fun h => h)) rfl (.cons (s := 1051) rfl (CLe.refl _ _) rfl (.cons (s := 1052) rfl (CLe.refl _ _) rfl (.cons (s := 1053) rfl (CLe.refl _ _) rfl (.cons (s := 7) rfl (CLe.refl _ _) rfl .nil)))))) ⟨b7, rfl, (FO_p (s := { s with wo := lat s.todo k, busy := true }) rfl).symm⟩)
        | (rw [next_no hy (fun j hj => hz j (by omega))]; exact Kret.mk [(1060, .box fb 103 (fV mh mw mf .nilp)), (1051, tbl mh s.H), (1052, tbl mw s.W), (1053, mpc mf prE iV s.F), (1054, .vec none 39 52 0 0 (fun _ => opE default))] (.cell inferInstance (by rfl) (by rfl) (by rfl) (.tmp (by rfl) .nil)) (by rfl) trivial (HLe.sub (.cons (s := 1060) rfl (CLe.refl _ _) rfl (.cons (s := 1051) rfl (CLe.refl _ _) rfl (.cons (s := 1052) rfl (CLe.refl _ _) rfl (.cons (s := 1053) rfl (CLe.refl _ _) rfl (.non .nil)))))) ⟨wp, rfl, (FO_n hy).symm⟩)
    · skip
      (first | have eg40 := of_decide_eq_true g40 | have eg40 := of_decide_eq_false g40 | have eg40 := ndec_t g40 | have eg40 := ndec_f g40 | skip)
      refine WL.yes (by rfl) (Ex.q (q_move (by rfl)) (by rfl) ?_)
      refine WL.yes (by rfl) (Ex.q (q_move (by rfl)) (by rfl) ?_)
      refine WL.yes (by rfl) (Ex.q (q_int (by rfl) (by rfl) (by rfl)) (by rfl) ?_)
      refine WL.yes (by rfl) (Ex.q (q_pick_f (by rfl) (by rfl)) (by rfl) ?_)
      refine WL.nil ?_
      (repeat refine J.seq ?_)
      refine J.cond (by rfl) (fun c44 => ?_) (fun c44 => ?_)
      · skip
        (first | have e44 := of_decide_eq_true c44 | have e44 := of_decide_eq_false c44 | have e44 := ndec_t c44 | have e44 := ndec_f c44 | skip)
        (first | (have h1 : rdy now s.F (lat s.todo k) = true := by rw [rdy_some (by simpa using g40)]; exact c44) | skip)
        (repeat refine J.seq ?_)
        refine J.region ?_
        refine WL.yes (by rfl) (Ex.q (q_move (by rfl)) (by rfl) ?_)
        refine WL.yes (by rfl) (Ex.q (q_nilCheck (by rfl) (by rfl)) (by rfl) ?_)
        first | (refine WL.yes (by rfl) (Ex.q (q_fieldAddr (by rfl)) (by rfl) ?_)) | (refine WL.yes (by rfl) (Ex.q (q_fieldAddr_rop (by rfl) (by rfl)) (by rfl) ?_)) | (refine WL.yes (by rfl) (Ex.q (q_fieldAddr_pel (by rfl)) (by rfl) ?_))
        first | (refine WL.yes (by rfl) (Ex.store (by rfl) (by rfl) (by rfl) (by rfl) (by rfl) (by rfl) ?_)) | (refine WL.yes (by rfl) (Ex.store_pel (by rfl) (by rfl) (by rfl) (by rfl) (by rfl) ?_ (by rfl) ?_); (· (omega)))
        refine WL.nil ?_
        (repeat refine J.seq ?_)
        refine J.region ?_
        first | (refine WL.yes (by rfl) (Ex.h (h_load (by rfl) (by rfl) (by rfl)) (by rfl) ?_)) | (refine WL.yes (by rfl) (Ex.q (q_load (by rfl) (by rfl) (by rfl)) (by rfl) ?_)) | (refine WL.yes (by rfl) (Ex.q (q_load_rop (by rfl) (by rfl)) (by rfl) ?_)) | (refine WL.yes (by rfl) (Ex.h (h_load_pel (by rfl) (by rfl) ?_ (by rfl)) (by rfl) ?_); (· (omega))) | (refine WL.yes (by rfl) (Ex.q (q_load_pel (by rfl) (by rfl) ?_ (by rfl)) (by rfl) ?_); (· (omega)))
        first | (refine WL.yes (by rfl) (Ex.store (by rfl) (by rfl) (by rfl) (by rfl) (by rfl) (by rfl) ?_)) | (refine WL.yes (by rfl) (Ex.store_pel (by rfl) (by rfl) (by rfl) (by rfl) (by rfl) ?_ (by rfl) ?_); (· (omega)))
        refine WL.yes (by rfl) (Ex.q (q_assign (by rfl)) (by rfl) ?_)
        refine WL.nil ?_
        (repeat refine J.seq ?_)
        refine J.ret ?_
        (repeat (with_reducible first | refine Kseq.ret ?_ | refine Kblock.ret ?_ | refine Kloop.ret ?_ | refine Kcut.ret ?_))
        first
          | (rw [next_yes hy hk2 hz h1]; exact Kret.mk [(1060, .box fb 103 (fV mh mw mf (.ptr 1054 b7 0))), (1051, tbl mh s.H), (1052, tbl mw s.W), (1053, mpc mf prE iV s.F), (1054, .box b7 39 (opE (lat s.todo k)))] (.cell inferInstance (by rfl) (by rfl) (by rfl) (.tmp (by rfl) .nil)) (by rfl) trivial (HLe.sub (.cons (s := 1060) rfl (CLe.cells rfl (fun h => h) (fun h => h)) rfl (.cons (s := 1051) rfl (CLe.refl _ _) rfl (.cons (s := 1052) rfl (CLe.refl _ _) rfl (.cons (s := 1053) rfl (CLe.refl _ _) rfl (.cons (s := 7) rfl (CLe.refl _ _) rfl .nil)))))) ⟨b7, rfl, (FO_p (s := { s with wo := lat s.todo k, busy := true }) rfl).symm⟩)
          | (rw [next_no hy (fun j hj => hz j (by omega))]; exact Kret.mk [(1060, .box fb 103 (fV mh mw mf .nilp)), (1051, tbl mh s.H), (1052, tbl mw s.W), (1053, mpc mf prE iV s.F), (1054, .vec none 39 52 0 0 (fun _ => opE default))] (.cell inferInstance (by rfl) (by rfl) (by rfl) (.tmp (by rfl) .nil)) (by rfl) trivial (HLe.sub (.cons (s := 1060) rfl (CLe.refl _ _) rfl (.cons (s := 1051) rfl (CLe.refl _ _) rfl (.cons (s := 1052) rfl (CLe.refl _ _) rfl (.cons (s := 1053) rfl (CLe.refl _ _) rfl (.non .nil)))))) ⟨wp, rfl, (FO_n hy).symm⟩)
      · skip
        (first | have e44 := of_decide_eq_true c44 | have e44 := of_decide_eq_false c44 | have e44 := ndec_t c44 | have e44 := ndec_f c44 | skip)
        have h1 : rdy now s.F (lat s.todo k) = false := by rw [rdy_some (by simpa using g40)]; exact c44
        (repeat refine J.seq ?_)
        refine J.skip ?_
        (repeat refine J.seq ?_)
        refine J.region ?_
        refine WL.yes (by rfl) (Ex.q (q_int (by rfl) (by rfl) (by rfl)) (by rfl) ?_)
        refine WL.yes (by rfl) (Ex.q (q_move (by rfl)) (by rfl) ?_)
        refine WL.nil ?_
        refine Kloop.nextP (k + 1) ?_ ?_ ⟨same (by rw [← w64_nat (k := k) (by omega)]; rfl), trivial⟩ ⟨same rfl, same rfl, same rfl, same rfl, same rfl, trivial⟩ (.cons (s := 4) rfl (CLe.refl _ _) rfl (.cons (s := 1051) rfl (CLe.refl _ _) rfl (.cons (s := 1052) rfl (CLe.refl _ _) rfl (.cons (s := 1053) rfl (CLe.refl _ _) rfl (.cons (s := 1054) rfl (CLe.refl _ _) rfl (.cons (s := 1060) rfl (CLe.refl _ _) rfl (.cons (s := 2067) rfl (CLe.refl _ _) rfl .nil)))))))
        · (exact ⟨by (try dsimp only); omega, upto hz h1⟩)
        · ((try dsimp only) <;> omega)
  · skip
    (first | have e24 := of_decide_eq_true c24 | have e24 := of_decide_eq_false c24 | have e24 := ndec_t c24 | have e24 := ndec_f c24 | skip)
    (repeat refine J.seq ?_)
    refine J.exit ?_
    (repeat refine J.seq ?_)
    refine J.region ?_
    refine WL.yes (by rfl) (Ex.q (q_build (parts := []) (by rfl) (by rfl)) (by rfl) ?_)
    first | (refine WL.yes (by rfl) (Ex.store (by rfl) (by rfl) (by rfl) (by rfl) (by rfl) (by rfl) ?_)) | (refine WL.yes (by rfl) (Ex.store_pel (by rfl) (by rfl) (by rfl) (by rfl) (by rfl) ?_ (by rfl) ?_); (· (omega)))
    refine WL.yes (by rfl) (Ex.q (q_assign (by rfl)) (by rfl) ?_)
    refine WL.nil ?_
    (repeat refine J.seq ?_)
    refine J.ret ?_
    (repeat (with_reducible first | refine Kseq.ret ?_ | refine Kblock.ret ?_ | refine Kloop.ret ?_ | refine Kcut.ret ?_))
    first
      | (rw [next_yes hy hk2 hz h1]; exact Kret.mk [(1060, .box fb 103 (fV mh mw mf (.ptr 1054 b7 0))), (1051, tbl mh s.H), (1052, tbl mw s.W), (1053, mpc mf prE iV s.F), (1054, .box b7 39 (opE (lat s.todo k)))] (.cell inferInstance (by rfl) (by rfl) (by rfl) (.tmp (by rfl) .nil)) (by rfl) trivial (HLe.sub (.cons (s := 1060) rfl (CLe.cells rfl (fun h => h) (fun h => h)) rfl (.cons (s := 1051) rfl (CLe.refl _ _) rfl (.cons (s := 1052) rfl (CLe.refl _ _) rfl (.cons (s := 1053) rfl (CLe.refl _ _) rfl (.cons (s := 7) rfl (CLe.refl _ _) rfl .nil)))))) ⟨b7, rfl, (FO_p (s := { s with wo := lat s.todo k, busy := true }) rfl).symm⟩)
      | (rw [next_no hy (fun j hj => hz j (by omega))]; exact Kret.mk [(1060, .box fb 103 (fV mh mw mf .nilp)), (1051, tbl mh s.H), (1052, tbl mw s.W), (1053, mpc mf prE iV s.F), (1054, .vec none 39 52 0 0 (fun _ => opE default))] (.cell inferInstance (by rfl) (by rfl) (by rfl) (.tmp (by rfl) .nil)) (by rfl) trivial (HLe.sub (.cons (s := 1060) rfl (CLe.refl _ _) rfl (.cons (s := 1051) rfl (CLe.refl _ _) rfl (.cons (s := 1052) rfl (CLe.refl _ _) rfl (.cons (s := 1053) rfl (CLe.refl _ _) rfl (.non .nil)))))) ⟨wp, rfl, (FO_n hy).symm⟩)

set_option maxHeartbeats 16000000 in
set_option maxRecDepth 100000 in
theorem fNext_p (fb mh mw mf wp : Nat) {s : FS} {now : Int} (hy : s.busy = true)(hs : FOk s) : Spec Try.prog 32 [.ptr 1060 fb 0, iV now] [(1060, .box fb 103 (fV mh mw mf (.ptr 1054 wp 0))), (1051, tbl mh s.H), (1052, tbl mw s.W), (1053, mpc mf prE iV s.F), (1054, .box wp 39 (opE s.wo))] (fun r H' => ∃ wp', r = .tup2 (opE (s.next now).1.1) (.bool (s.next now).1.2) ∧ H' = FO fb mh mw mf wp' (s.next now).2) := by
  refine Spec.of_J Try.func32 rfl Try.ntmps32 Try.results32 rfl ?_
  intro A F hAF
  have htl := hs.todo_len
  (repeat refine J.seq ?_)
  refine J.region ?_
  refine WL.yes (by rfl) (Ex.alloc (by rfl) ?_)
  intro b4
  refine WL.yes (by rfl) (Ex.q (q_assign (by rfl)) (by rfl) ?_)
  refine WL.nil ?_
  (repeat refine J.seq ?_)
  refine J.region ?_
  refine WL.yes (by rfl) (Ex.q (q_move (by rfl)) (by rfl) ?_)
  refine WL.yes (by rfl) (Ex.q (q_eqnil (by rfl) (by rfl) (by rfl)) (by rfl) ?_)
  refine WL.yes (by rfl) (Ex.q (q_move (by rfl)) (by rfl) ?_)
  refine WL.yes (by rfl) (Ex.q (q_move (by rfl)) (by rfl) ?_)
  refine WL.yes (by rfl) (Ex.q (q_nilCheck (by rfl) (by rfl)) (by rfl) ?_)
  first | (refine WL.yes (by rfl) (Ex.q (q_fieldAddr (by rfl)) (by rfl) ?_)) | (refine WL.yes (by rfl) (Ex.q (q_fieldAddr_rop (by rfl) (by rfl)) (by rfl) ?_)) | (refine WL.yes (by rfl) (Ex.q (q_fieldAddr_pel (by rfl)) (by rfl) ?_))
  first | (refine WL.yes (by rfl) (Ex.h (h_load (by rfl) (by rfl) (by rfl)) (by rfl) ?_)) | (refine WL.yes (by rfl) (Ex.q (q_load (by rfl) (by rfl) (by rfl)) (by rfl) ?_)) | (refine WL.yes (by rfl) (Ex.q (q_load_rop (by rfl) (by rfl)) (by rfl) ?_)) | (refine WL.yes (by rfl) (Ex.h (h_load_pel (by rfl) (by rfl) ?_ (by rfl)) (by rfl) ?_); (· (omega))) | (refine WL.yes (by rfl) (Ex.q (q_load_pel (by rfl) (by rfl) ?_ (by rfl)) (by rfl) ?_); (· (omega)))
  refine WL.yes (by rfl) (Ex.q (q_nenil (by rfl) (by rfl) (by rfl)) (by rfl) ?_)
  refine WL.yes (by rfl) (Ex.q (q_pick_f (by rfl) (by rfl)) (by rfl) ?_)
  refine WL.nil ?_
  (repeat refine J.seq ?_)
  refine J.condT (by rfl) ?_
  (repeat refine J.seq ?_)
  refine J.region ?_
  refine WL.yes (by rfl) (Ex.q (q_build (parts := []) (by rfl) (by rfl)) (by rfl) ?_)
  first | (refine WL.yes (by rfl) (Ex.store (by rfl) (by rfl) (by rfl) (by rfl) (by rfl) (by rfl) ?_)) | (refine WL.yes (by rfl) (Ex.store_pel (by rfl) (by rfl) (by rfl) (by rfl) (by rfl) ?_ (by rfl) ?_); (· (omega)))
  refine WL.yes (by rfl) (Ex.q (q_assign (by rfl)) (by rfl) ?_)
  refine WL.nil ?_
  (repeat refine J.seq ?_)
  refine J.ret ?_
  (repeat (with_reducible first | refine Kseq.ret ?_ | refine Kblock.ret ?_ | refine Kloop.ret ?_ | refine Kcut.ret ?_))
  rw [next_busy hy]
  exact Kret.mk [(1060, .box fb 103 (fV mh mw mf (.ptr 1054 wp 0))), (1051, tbl mh s.H), (1052, tbl mw s.W), (1053, mpc mf prE iV s.F), (1054, .box wp 39 (opE s.wo))] (.cell inferInstance (by rfl) (by rfl) (by rfl) (.tmp (by rfl) .nil)) (by rfl) trivial (HLe.sub (.cons (s := 1060) rfl (CLe.refl _ _) rfl (.cons (s := 1051) rfl (CLe.refl _ _) rfl (.cons (s := 1052) rfl (CLe.refl _ _) rfl (.cons (s := 1053) rfl (CLe.refl _ _) rfl (.cons (s := 1054) rfl (CLe.refl _ _) rfl .nil)))))) ⟨wp, rfl, (FO_p hy).symm⟩

theorem fNext_spec (fb mh mw mf wp : Nat) {s : FS} {now : Int}(hs : FOk s) : Spec Try.prog 32 [.ptr 1060 fb 0, iV now] (FO fb mh mw mf wp s) (fun r H' => ∃ wp', r = .tup2 (opE (s.next now).1.1) (.bool (s.next now).1.2) ∧ H' = FO fb mh mw mf wp' (s.next now).2) := by
  cases hy : s.busy with
  | false => exact (congrArg (fun z => Spec Try.prog 32 [.ptr 1060 fb 0, iV now] z (fun r H' => ∃ wp', r = .tup2 (opE (s.next now).1.1) (.bool (s.next now).1.2) ∧ H' = FO fb mh mw mf wp' (s.next now).2)) (FO_n hy)).mpr (fNext_n fb mh mw mf wp hy hs)
  | true => exact (congrArg (fun z => Spec Try.prog 32 [.ptr 1060 fb 0, iV now] z (fun r H' => ∃ wp', r = .tup2 (opE (s.next now).1.1) (.bool (s.next now).1.2) ∧ H' = FO fb mh mw mf wp' (s.next now).2)) (FO_p hy)).mpr (fNext_p fb mh mw mf wp hy hs)

set_option maxHeartbeats 16000000 in
set_option maxRecDepth 100000 in
theorem fReply_n (fb mh mw mf wp : Nat) {s : FS} {now : Int} {ok : Bool} (hy : s.busy = false)(hs : FOk s) (hn : -4611686018427387904 ≤ now ∧ now ≤ 4611686018427387904) : Spec Try.prog 35 [.ptr 1060 fb 0, iV now, .bool ok] [(1060, .box fb 103 (fV mh mw mf .nilp)), (1051, tbl mh s.H), (1052, tbl mw s.W), (1053, mpc mf prE iV s.F), (1054, .vec none 39 52 0 0 (fun _ => opE default))] (fun r H' => r = iV (s.reply now ok).1 ∧ H' = FO fb mh mw mf wp (s.reply now ok).2) := by
  refine Spec.of_J Try.func35 rfl Try.ntmps35 Try.results35 rfl ?_
  intro A F hAF
  (repeat refine J.seq ?_)
  refine J.region ?_
  refine WL.yes (by rfl) (Ex.q (q_assign (by rfl)) (by rfl) ?_)
  refine WL.nil ?_
  (repeat refine J.seq ?_)
  refine J.region ?_
  refine WL.yes (by rfl) (Ex.q (q_move (by rfl)) (by rfl) ?_)
  refine WL.yes (by rfl) (Ex.q (q_eqnil (by rfl) (by rfl) (by rfl)) (by rfl) ?_)
  refine WL.yes (by rfl) (Ex.q (q_move (by rfl)) (by rfl) ?_)
  refine WL.yes (by rfl) (Ex.q (q_move (by rfl)) (by rfl) ?_)
  refine WL.yes (by rfl) (Ex.q (q_nilCheck (by rfl) (by rfl)) (by rfl) ?_)
  first | (refine WL.yes (by rfl) (Ex.q (q_fieldAddr (by rfl)) (by rfl) ?_)) | (refine WL.yes (by rfl) (Ex.q (q_fieldAddr_rop (by rfl) (by rfl)) (by rfl) ?_)) | (refine WL.yes (by rfl) (Ex.q (q_fieldAddr_pel (by rfl)) (by rfl) ?_))
  first | (refine WL.yes (by rfl) (Ex.h (h_load (by rfl) (by rfl) (by rfl)) (by rfl) ?_)) | (refine WL.yes (by rfl) (Ex.q (q_load (by rfl) (by rfl) (by rfl)) (by rfl) ?_)) | (refine WL.yes (by rfl) (Ex.q (q_load_rop (by rfl) (by rfl)) (by rfl) ?_)) | (refine WL.yes (by rfl) (Ex.h (h_load_pel (by rfl) (by rfl) ?_ (by rfl)) (by rfl) ?_); (· (omega))) | (refine WL.yes (by rfl) (Ex.q (q_load_pel (by rfl) (by rfl) ?_ (by rfl)) (by rfl) ?_); (· (omega)))
  refine WL.yes (by rfl) (Ex.q (q_eqnil (by rfl) (by rfl) (by rfl)) (by rfl) ?_)
  refine WL.yes (by rfl) (Ex.q (q_pick_f (by rfl) (by rfl)) (by rfl) ?_)
  refine WL.nil ?_
  (repeat refine J.seq ?_)
  refine J.condT (by rfl) ?_
  (repeat refine J.seq ?_)
  refine J.region ?_
  refine WL.yes (by rfl) (Ex.q (q_assign (by rfl)) (by rfl) ?_)
  refine WL.nil ?_
  (repeat refine J.seq ?_)
  refine J.ret ?_
  (repeat (with_reducible first | refine Kseq.ret ?_ | refine Kblock.ret ?_ | refine Kloop.ret ?_ | refine Kcut.ret ?_))
  rw [reply_no hy]
  exact Kret.mk [(1060, .box fb 103 (fV mh mw mf .nilp)), (1051, tbl mh s.H), (1052, tbl mw s.W), (1053, mpc mf prE iV s.F), (1054, .vec none 39 52 0 0 (fun _ => opE default))] (.tmp (by rfl) .nil) (by rfl) trivial (HLe.sub (.cons (s := 1060) rfl (CLe.refl _ _) rfl (.cons (s := 1051) rfl (CLe.refl _ _) rfl (.cons (s := 1052) rfl (CLe.refl _ _) rfl (.cons (s := 1053) rfl (CLe.refl _ _) rfl (.non .nil)))))) ⟨rfl, (FO_n hy).symm⟩

set_option maxHeartbeats 16000000 in
set_option maxRecDepth 100000 in
theorem fReply_p (fb mh mw mf wp : Nat) {s : FS} {now : Int} {ok : Bool} (hy : s.busy = true)(hs : FOk s) (hn : -4611686018427387904 ≤ now ∧ now ≤ 4611686018427387904) : Spec Try.prog 35 [.ptr 1060 fb 0, iV now, .bool ok] [(1060, .box fb 103 (fV mh mw mf (.ptr 1054 wp 0))), (1051, tbl mh s.H), (1052, tbl mw s.W), (1053, mpc mf prE iV s.F), (1054, .box wp 39 (opE s.wo))] (fun r H' => r = iV (s.reply now ok).1 ∧ H' = FO fb mh mw mf wp (s.reply now ok).2) := by
  refine Spec.of_J Try.func35 rfl Try.ntmps35 Try.results35 rfl ?_
  intro A F hAF
  (repeat refine J.seq ?_)
  refine J.region ?_
  refine WL.yes (by rfl) (Ex.q (q_assign (by rfl)) (by rfl) ?_)
  refine WL.nil ?_
  (repeat refine J.seq ?_)
  refine J.region ?_
  refine WL.yes (by rfl) (Ex.q (q_move (by rfl)) (by rfl) ?_)
  refine WL.yes (by rfl) (Ex.q (q_eqnil (by rfl) (by rfl) (by rfl)) (by rfl) ?_)
  refine WL.yes (by rfl) (Ex.q (q_move (by rfl)) (by rfl) ?_)
  refine WL.yes (by rfl) (Ex.q (q_move (by rfl)) (by rfl) ?_)
  refine WL.yes (by rfl) (Ex.q (q_nilCheck (by rfl) (by rfl)) (by rfl) ?_)
  first | (refine WL.yes (by rfl) (Ex.q (q_fieldAddr (by rfl)) (by rfl) ?_)) | (refine WL.yes (by rfl) (Ex.q (q_fieldAddr_rop (by rfl) (by rfl)) (by rfl) ?_)) | (refine WL.yes (by rfl) (Ex.q (q_fieldAddr_pel (by rfl)) (by rfl) ?_))
  first | (refine WL.yes (by rfl) (Ex.h (h_load (by rfl) (by rfl) (by rfl)) (by rfl) ?_)) | (refine WL.yes (by rfl) (Ex.q (q_load (by rfl) (by rfl) (by rfl)) (by rfl) ?_)) | (refine WL.yes (by rfl) (Ex.q (q_load_rop (by rfl) (by rfl)) (by rfl) ?_)) | (refine WL.yes (by rfl) (Ex.h (h_load_pel (by rfl) (by rfl) ?_ (by rfl)) (by rfl) ?_); (· (omega))) | (refine WL.yes (by rfl) (Ex.q (q_load_pel (by rfl) (by rfl) ?_ (by rfl)) (by rfl) ?_); (· (omega)))
  refine WL.yes (by rfl) (Ex.q (q_eqnil (by rfl) (by rfl) (by rfl)) (by rfl) ?_)
  refine WL.yes (by rfl) (Ex.q (q_pick_f (by rfl) (by rfl)) (by rfl) ?_)
  refine WL.nil ?_
  (repeat refine J.seq ?_)
  refine J.condF (by rfl) ?_
  (repeat refine J.seq ?_)
  refine J.skip ?_
  (repeat refine J.seq ?_)
  refine J.region ?_
  refine WL.yes (by rfl) (Ex.q (q_move (by rfl)) (by rfl) ?_)
  refine WL.yes (by rfl) (Ex.q (q_nilCheck (by rfl) (by rfl)) (by rfl) ?_)
  first | (refine WL.yes (by rfl) (Ex.q (q_fieldAddr (by rfl)) (by rfl) ?_)) | (refine WL.yes (by rfl) (Ex.q (q_fieldAddr_rop (by rfl) (by rfl)) (by rfl) ?_)) | (refine WL.yes (by rfl) (Ex.q (q_fieldAddr_pel (by rfl)) (by rfl) ?_))
  first | (refine WL.yes (by rfl) (Ex.h (h_load (by rfl) (by rfl) (by rfl)) (by rfl) ?_)) | (refine WL.yes (by rfl) (Ex.q (q_load (by rfl) (by rfl) (by rfl)) (by rfl) ?_)) | (refine WL.yes (by rfl) (Ex.q (q_load_rop (by rfl) (by rfl)) (by rfl) ?_)) | (refine WL.yes (by rfl) (Ex.h (h_load_pel (by rfl) (by rfl) ?_ (by rfl)) (by rfl) ?_); (· (omega))) | (refine WL.yes (by rfl) (Ex.q (q_load_pel (by rfl) (by rfl) ?_ (by rfl)) (by rfl) ?_); (· (omega)))
  refine WL.yes (by rfl) (Ex.q (q_nilCheck (by rfl) (by rfl)) (by rfl) ?_)
  first | (refine WL.yes (by rfl) (Ex.h (h_load (by rfl) (by rfl) (by rfl)) (by rfl) ?_)) | (refine WL.yes (by rfl) (Ex.q (q_load (by rfl) (by rfl) (by rfl)) (by rfl) ?_)) | (refine WL.yes (by rfl) (Ex.q (q_load_rop (by rfl) (by rfl)) (by rfl) ?_)) | (refine WL.yes (by rfl) (Ex.h (h_load_pel (by rfl) (by rfl) ?_ (by rfl)) (by rfl) ?_); (· (omega))) | (refine WL.yes (by rfl) (Ex.q (q_load_pel (by rfl) (by rfl) ?_ (by rfl)) (by rfl) ?_); (· (omega)))
  refine WL.yes (by rfl) (Ex.alloc (by rfl) ?_)
  intro b7
  first | (refine WL.yes (by rfl) (Ex.store (by rfl) (by rfl) (by rfl) (by rfl) (by rfl) (by rfl) ?_)) | (refine WL.yes (by rfl) (Ex.store_pel (by rfl) (by rfl) (by rfl) (by rfl) (by rfl) ?_ (by rfl) ?_); (· (omega)))
  refine WL.nil ?_
  (repeat refine J.seq ?_)
  refine J.region ?_
  refine WL.yes (by rfl) (Ex.q (q_move (by rfl)) (by rfl) ?_)
  refine WL.yes (by rfl) (Ex.q (q_nilCheck (by rfl) (by rfl)) (by rfl) ?_)
  first | (refine WL.yes (by rfl) (Ex.q (q_fieldAddr (by rfl)) (by rfl) ?_)) | (refine WL.yes (by rfl) (Ex.q (q_fieldAddr_rop (by rfl) (by rfl)) (by rfl) ?_)) | (refine WL.yes (by rfl) (Ex.q (q_fieldAddr_pel (by rfl)) (by rfl) ?_))
  first | (refine WL.yes (by rfl) (Ex.store (by rfl) (by rfl) (by rfl) (by rfl) (by rfl) (by rfl) ?_)) | (refine WL.yes (by rfl) (Ex.store_pel (by rfl) (by rfl) (by rfl) (by rfl) (by rfl) ?_ (by rfl) ?_); (· (omega)))
  refine WL.nil ?_
  (repeat refine J.seq ?_)
  refine J.region ?_
  first | (refine WL.yes (by rfl) (Ex.q (q_fieldAddr (by rfl)) (by rfl) ?_)) | (refine WL.yes (by rfl) (Ex.q (q_fieldAddr_rop (by rfl) (by rfl)) (by rfl) ?_)) | (refine WL.yes (by rfl) (Ex.q (q_fieldAddr_pel (by rfl)) (by rfl) ?_))
  first | (refine WL.yes (by rfl) (Ex.q (q_fieldAddr (by rfl)) (by rfl) ?_)) | (refine WL.yes (by rfl) (Ex.q (q_fieldAddr_rop (by rfl) (by rfl)) (by rfl) ?_)) | (refine WL.yes (by rfl) (Ex.q (q_fieldAddr_pel (by rfl)) (by rfl) ?_))
  first | (refine WL.yes (by rfl) (Ex.h (h_load (by rfl) (by rfl) (by rfl)) (by rfl) ?_)) | (refine WL.yes (by rfl) (Ex.q (q_load (by rfl) (by rfl) (by rfl)) (by rfl) ?_)) | (refine WL.yes (by rfl) (Ex.q (q_load_rop (by rfl) (by rfl)) (by rfl) ?_)) | (refine WL.yes (by rfl) (Ex.h (h_load_pel (by rfl) (by rfl) ?_ (by rfl)) (by rfl) ?_); (· (omega))) | (refine WL.yes (by rfl) (Ex.q (q_load_pel (by rfl) (by rfl) ?_ (by rfl)) (by rfl) ?_); (· (omega)))
  refine WL.yes (by rfl) (Ex.alloc (by rfl) ?_)
  intro b8
  first | (refine WL.yes (by rfl) (Ex.store (by rfl) (by rfl) (by rfl) (by rfl) (by rfl) (by rfl) ?_)) | (refine WL.yes (by rfl) (Ex.store_pel (by rfl) (by rfl) (by rfl) (by rfl) (by rfl) ?_ (by rfl) ?_); (· (omega)))
  refine WL.nil ?_
  (repeat refine J.seq ?_)
  refine J.draw [1060, 8] 5 [(0, true), (1, true), (2, true), (3, true), (4, true), (5, false)] (by kernel_rfl) rfl (by kernel_rfl) ?_
  intro F1 hF1
  refine WS.take rfl (by rfl) (by rfl) (q_move (by rfl)) ?_
  refine WS.take rfl (by rfl) (by rfl) (q_nilCheck (by rfl) (by rfl)) ?_
  first | (refine WS.take rfl (by rfl) (by rfl) (q_fieldAddr (by rfl)) ?_) | (refine WS.take rfl (by rfl) (by rfl) (q_fieldAddr_rop (by rfl) (by rfl)) ?_) | (refine WS.take rfl (by rfl) (by rfl) (q_fieldAddr_pel (by rfl)) ?_)
  first | (refine WS.take rfl (by rfl) (by rfl) (q_load (by rfl) (by rfl) (by rfl)) ?_) | (refine WS.take rfl (by rfl) (by rfl) (q_load_rop (by rfl) (by rfl)) ?_) | (refine WS.take rfl (by rfl) (by rfl) (q_load_pel (by rfl) (by rfl) ?_ (by rfl)) ?_; (· (omega)))
  first | (refine WS.take rfl (by rfl) (by rfl) (q_load (by rfl) (by rfl) (by rfl)) ?_) | (refine WS.take rfl (by rfl) (by rfl) (q_load_rop (by rfl) (by rfl)) ?_) | (refine WS.take rfl (by rfl) (by rfl) (q_load_pel (by rfl) (by rfl) ?_ (by rfl)) ?_; (· (omega)))
  refine WS.last rfl (by rfl) (by rfl) (Ex.delete s.wo.e.p (by rfl) (by rfl) (by rfl) hs.f hs.o.1 ?_)
  (repeat refine J.seq ?_)
  refine J.block ?_
  (repeat refine J.seq ?_)
  refine J.region ?_
  refine WL.yes (by rfl) (Ex.q (q_move (by rfl)) (by rfl) ?_)
  refine WL.yes (by rfl) (Ex.q (q_not (by rfl)) (by rfl) ?_)
  refine WL.yes (by rfl) (Ex.q (q_assign (by rfl)) (by rfl) ?_)
  refine WL.nil ?_
  (repeat refine J.seq ?_)
  refine J.cond (by rfl) (fun c42 => ?_) (fun c42 => ?_)
  · skip
    (first | have e42 := of_decide_eq_true c42 | have e42 := of_decide_eq_false c42 | have e42 := ndec_t c42 | have e42 := ndec_f c42 | skip)
    have hok : ok = false := by simpa using c42
    subst hok
    (repeat refine J.seq ?_)
    refine J.draw [1060, 8] 7 [(0, true), (1, true), (2, true), (3, true), (4, true), (5, true), (6, true), (7, false)] (by kernel_rfl) rfl (by kernel_rfl) ?_
    intro F2 hF2
    refine WS.take rfl (by rfl) (by rfl) (q_move (by rfl)) ?_
    refine WS.take rfl (by rfl) (by rfl) (q_nilCheck (by rfl) (by rfl)) ?_
    first | (refine WS.take rfl (by rfl) (by rfl) (q_fieldAddr (by rfl)) ?_) | (refine WS.take rfl (by rfl) (by rfl) (q_fieldAddr_rop (by rfl) (by rfl)) ?_) | (refine WS.take rfl (by rfl) (by rfl) (q_fieldAddr_pel (by rfl)) ?_)
    first | (refine WS.take rfl (by rfl) (by rfl) (q_load (by rfl) (by rfl) (by rfl)) ?_) | (refine WS.take rfl (by rfl) (by rfl) (q_load_rop (by rfl) (by rfl)) ?_) | (refine WS.take rfl (by rfl) (by rfl) (q_load_pel (by rfl) (by rfl) ?_ (by rfl)) ?_; (· (omega)))
    first | (refine WS.take rfl (by rfl) (by rfl) (q_load (by rfl) (by rfl) (by rfl)) ?_) | (refine WS.take rfl (by rfl) (by rfl) (q_load_rop (by rfl) (by rfl)) ?_) | (refine WS.take rfl (by rfl) (by rfl) (q_load_pel (by rfl) (by rfl) ?_ (by rfl)) ?_; (· (omega)))
    refine WS.take rfl (by rfl) (by rfl) (q_move (by rfl)) ?_
    refine WS.take rfl (by rfl) (by rfl) (q_int (by rfl) (by rfl) (by rfl)) ?_
    refine WS.set 51 (iV (now + 1000)) (by rfl) (congrArg iV (w64 (by omega) (by omega)).symm) ?_
    refine WS.last rfl (by rfl) (by rfl) (Ex.mapUpdate s.wo.e.p (now + 1000) (by rfl) (by rfl) (by rfl) (by rfl) (hs.f.adel _) hs.o.1 ?_)
    (repeat refine J.seq ?_)
    refine J.region ?_
    refine WL.yes (by rfl) (Ex.q (q_assign (by rfl)) (by rfl) ?_)
    refine WL.nil ?_
    (repeat refine J.seq ?_)
    refine J.ret ?_
    (repeat (with_reducible first | refine Kseq.ret ?_ | refine Kblock.ret ?_ | refine Kloop.ret ?_ | refine Kcut.ret ?_))
    first
      | (rw [reply_fail hy]; exact Kret.mk [(1060, .box fb 103 (fV mh mw mf .nilp)), (1051, tbl mh s.H), (1052, tbl mw s.W), (1053, mpc mf prE iV (adel s.wo.e.p s.F ++ [(s.wo.e.p, now + 1000)])), (1054, .vec none 39 52 0 0 (fun _ => opE default))] (.tmp (by rfl) .nil) (by rfl) trivial (HLe.sub (.cons (s := 1060) rfl (CLe.cells rfl (fun h => h) (fun h => h)) rfl (.cons (s := 1051) rfl (CLe.refl _ _) rfl (.cons (s := 1052) rfl (CLe.refl _ _) rfl (.cons (s := 1053) rfl (CLe.mp (aput_end _ _)) rfl (.non .nil)))))) ⟨rfl, (FO_n (s := { s with busy := false, F := adel s.wo.e.p s.F ++ [(s.wo.e.p, now + 1000)] }) rfl).symm⟩)
      | (rw [reply_rem hy e52]; exact Kret.mk [(1060, .box fb 103 (fV mh mw mf .nilp)), (1051, tbl mh (tdel s.wo.e.p s.H)), (1052, tbl mw s.W), (1053, mpc mf prE iV (adel s.wo.e.p s.F)), (1054, .vec none 39 52 0 0 (fun _ => opE default))] (.tmp (by rfl) .nil) (by rfl) trivial (HLe.sub (.cons (s := 1060) rfl (CLe.cells rfl (fun h => h) (fun h => h)) rfl (.cons (s := 1051) rfl (by rw [adel_tdel]; exact CLe.refl _ _) rfl (.cons (s := 1052) rfl (CLe.refl _ _) rfl (.cons (s := 1053) rfl (CLe.refl _ _) rfl (.non .nil)))))) ⟨rfl, (FO_n (s := { s with busy := false, F := adel s.wo.e.p s.F, H := tdel s.wo.e.p s.H }) rfl).symm⟩)
      | (rw [reply_put hy e52]; exact Kret.mk [(1060, .box fb 103 (fV mh mw mf .nilp)), (1051, tbl mh (tput s.wo.e s.H)), (1052, tbl mw s.W), (1053, mpc mf prE iV (adel s.wo.e.p s.F)), (1054, .vec none 39 52 0 0 (fun _ => opE default))] (.tmp (by rfl) .nil) (by rfl) trivial (HLe.sub (.cons (s := 1060) rfl (CLe.cells rfl (fun h => h) (fun h => h)) rfl (.cons (s := 1051) rfl (CLe.mp (aput_tput hs.h s.wo.e).symm) rfl (.cons (s := 1052) rfl (CLe.refl _ _) rfl (.cons (s := 1053) rfl (CLe.refl _ _) rfl (.non .nil)))))) ⟨rfl, (FO_n (s := { s with busy := false, F := adel s.wo.e.p s.F, H := tput s.wo.e s.H }) rfl).symm⟩)
  · skip
    (first | have e42 := of_decide_eq_true c42 | have e42 := of_decide_eq_false c42 | have e42 := ndec_t c42 | have e42 := ndec_f c42 | skip)
    have hok : ok = true := by simpa using c42
    subst hok
    (repeat refine J.seq ?_)
    refine J.region ?_
    first | (refine WL.yes (by rfl) (Ex.q (q_fieldAddr (by rfl)) (by rfl) ?_)) | (refine WL.yes (by rfl) (Ex.q (q_fieldAddr_rop (by rfl) (by rfl)) (by rfl) ?_)) | (refine WL.yes (by rfl) (Ex.q (q_fieldAddr_pel (by rfl)) (by rfl) ?_))
    first | (refine WL.yes (by rfl) (Ex.h (h_load (by rfl) (by rfl) (by rfl)) (by rfl) ?_)) | (refine WL.yes (by rfl) (Ex.q (q_load (by rfl) (by rfl) (by rfl)) (by rfl) ?_)) | (refine WL.yes (by rfl) (Ex.q (q_load_rop (by rfl) (by rfl)) (by rfl) ?_)) | (refine WL.yes (by rfl) (Ex.h (h_load_pel (by rfl) (by rfl) ?_ (by rfl)) (by rfl) ?_); (· (omega))) | (refine WL.yes (by rfl) (Ex.q (q_load_pel (by rfl) (by rfl) ?_ (by rfl)) (by rfl) ?_); (· (omega)))
    first | (refine WL.yes (by rfl) (Ex.q (q_int (by rfl) (by rfl) (by rfl)) (by rfl) ?_)) | (refine WL.yes (by rfl) (Ex.q (q_eqb (by rfl) (by rfl)) (by rfl) ?_)) | (refine WL.yes (by rfl) (Ex.q (q_eqp rfl rfl (by rfl) (by rfl) ?_) (by rfl) ?_); (· (rfl))) | (refine WL.yes (by rfl) (Ex.q (q_eqs (by rfl) (by rfl)) (by rfl) ?_))
    refine WL.yes (by rfl) (Ex.q (q_assign (by rfl)) (by rfl) ?_)
    refine WL.nil ?_
    (repeat refine J.seq ?_)
    refine J.cond (by rfl) (fun c52 => ?_) (fun c52 => ?_)
    · skip
      (first | have e52 := of_decide_eq_true c52 | have e52 := of_decide_eq_false c52 | have e52 := ndec_t c52 | have e52 := ndec_f c52 | skip)
      (repeat refine J.seq ?_)
      refine J.draw [1060, 8] 5 [(0, true), (1, true), (2, true), (3, true), (4, true), (5, false)] (by kernel_rfl) rfl (by kernel_rfl) ?_
      intro F3 hF3
      refine WS.take rfl (by rfl) (by rfl) (q_move (by rfl)) ?_
      refine WS.take rfl (by rfl) (by rfl) (q_nilCheck (by rfl) (by rfl)) ?_
      first | (refine WS.take rfl (by rfl) (by rfl) (q_fieldAddr (by rfl)) ?_) | (refine WS.take rfl (by rfl) (by rfl) (q_fieldAddr_rop (by rfl) (by rfl)) ?_) | (refine WS.take rfl (by rfl) (by rfl) (q_fieldAddr_pel (by rfl)) ?_)
      first | (refine WS.take rfl (by rfl) (by rfl) (q_load (by rfl) (by rfl) (by rfl)) ?_) | (refine WS.take rfl (by rfl) (by rfl) (q_load_rop (by rfl) (by rfl)) ?_) | (refine WS.take rfl (by rfl) (by rfl) (q_load_pel (by rfl) (by rfl) ?_ (by rfl)) ?_; (· (omega)))
      first | (refine WS.take rfl (by rfl) (by rfl) (q_load (by rfl) (by rfl) (by rfl)) ?_) | (refine WS.take rfl (by rfl) (by rfl) (q_load_rop (by rfl) (by rfl)) ?_) | (refine WS.take rfl (by rfl) (by rfl) (q_load_pel (by rfl) (by rfl) ?_ (by rfl)) ?_; (· (omega)))
      refine WS.last rfl (by rfl) (by rfl) (Ex.delete s.wo.e.p (by rfl) (by rfl) (by rfl) hs.h.keys hs.o.1 ?_)
      (repeat refine J.seq ?_)
      refine J.region ?_
      refine WL.yes (by rfl) (Ex.q (q_assign (by rfl)) (by rfl) ?_)
      refine WL.nil ?_
      (repeat refine J.seq ?_)
      refine J.ret ?_
      (repeat (with_reducible first | refine Kseq.ret ?_ | refine Kblock.ret ?_ | refine Kloop.ret ?_ | refine Kcut.ret ?_))
      first
        | (rw [reply_fail hy]; exact Kret.mk [(1060, .box fb 103 (fV mh mw mf .nilp)), (1051, tbl mh s.H), (1052, tbl mw s.W), (1053, mpc mf prE iV (adel s.wo.e.p s.F ++ [(s.wo.e.p, now + 1000)])), (1054, .vec none 39 52 0 0 (fun _ => opE default))] (.tmp (by rfl) .nil) (by rfl) trivial (HLe.sub (.cons (s := 1060) rfl (CLe.cells rfl (fun h => h) (fun h => h)) rfl (.cons (s := 1051) rfl (CLe.refl _ _) rfl (.cons (s := 1052) rfl (CLe.refl _ _) rfl (.cons (s := 1053) rfl (CLe.mp (aput_end _ _)) rfl (.non .nil)))))) ⟨rfl, (FO_n (s := { s with busy := false, F := adel s.wo.e.p s.F ++ [(s.wo.e.p, now + 1000)] }) rfl).symm⟩)
        | (rw [reply_rem hy e52]; exact Kret.mk [(1060, .box fb 103 (fV mh mw mf .nilp)), (1051, tbl mh (tdel s.wo.e.p s.H)), (1052, tbl mw s.W), (1053, mpc mf prE iV (adel s.wo.e.p s.F)), (1054, .vec none 39 52 0 0 (fun _ => opE default))] (.tmp (by rfl) .nil) (by rfl) trivial (HLe.sub (.cons (s := 1060) rfl (CLe.cells rfl (fun h => h) (fun h => h)) rfl (.cons (s := 1051) rfl (by rw [adel_tdel]; exact CLe.refl _ _) rfl (.cons (s := 1052) rfl (CLe.refl _ _) rfl (.cons (s := 1053) rfl (CLe.refl _ _) rfl (.non .nil)))))) ⟨rfl, (FO_n (s := { s with busy := false, F := adel s.wo.e.p s.F, H := tdel s.wo.e.p s.H }) rfl).symm⟩)
        | (rw [reply_put hy e52]; exact Kret.mk [(1060, .box fb 103 (fV mh mw mf .nilp)), (1051, tbl mh (tput s.wo.e s.H)), (1052, tbl mw s.W), (1053, mpc mf prE iV (adel s.wo.e.p s.F)), (1054, .vec none 39 52 0 0 (fun _ => opE default))] (.tmp (by rfl) .nil) (by rfl) trivial (HLe.sub (.cons (s := 1060) rfl (CLe.cells rfl (fun h => h) (fun h => h)) rfl (.cons (s := 1051) rfl (CLe.mp (aput_tput hs.h s.wo.e).symm) rfl (.cons (s := 1052) rfl (CLe.refl _ _) rfl (.cons (s := 1053) rfl (CLe.refl _ _) rfl (.non .nil)))))) ⟨rfl, (FO_n (s := { s with busy := false, F := adel s.wo.e.p s.F, H := tput s.wo.e s.H }) rfl).symm⟩)
    · skip
      (first | have e52 := of_decide_eq_true c52 | have e52 := of_decide_eq_false c52 | have e52 := ndec_t c52 | have e52 := ndec_f c52 | skip)
      (repeat refine J.seq ?_)
      refine J.draw [1060, 7, 8] 7 [(0, true), (1, true), (2, true), (3, true), (4, true), (5, true), (6, true), (7, false)] (by kernel_rfl) rfl (by kernel_rfl) ?_
      intro F4 hF4
      refine WS.take rfl (by rfl) (by rfl) (q_move (by rfl)) ?_
      refine WS.take rfl (by rfl) (by rfl) (q_nilCheck (by rfl) (by rfl)) ?_
      first | (refine WS.take rfl (by rfl) (by rfl) (q_fieldAddr (by rfl)) ?_) | (refine WS.take rfl (by rfl) (by rfl) (q_fieldAddr_rop (by rfl) (by rfl)) ?_) | (refine WS.take rfl (by rfl) (by rfl) (q_fieldAddr_pel (by rfl)) ?_)
      first | (refine WS.take rfl (by rfl) (by rfl) (q_load (by rfl) (by rfl) (by rfl)) ?_) | (refine WS.take rfl (by rfl) (by rfl) (q_load_rop (by rfl) (by rfl)) ?_) | (refine WS.take rfl (by rfl) (by rfl) (q_load_pel (by rfl) (by rfl) ?_ (by rfl)) ?_; (· (omega)))
      first | (refine WS.take rfl (by rfl) (by rfl) (q_load (by rfl) (by rfl) (by rfl)) ?_) | (refine WS.take rfl (by rfl) (by rfl) (q_load_rop (by rfl) (by rfl)) ?_) | (refine WS.take rfl (by rfl) (by rfl) (q_load_pel (by rfl) (by rfl) ?_ (by rfl)) ?_; (· (omega)))
      first | (refine WS.take rfl (by rfl) (by rfl) (q_fieldAddr (by rfl)) ?_) | (refine WS.take rfl (by rfl) (by rfl) (q_fieldAddr_rop (by rfl) (by rfl)) ?_) | (refine WS.take rfl (by rfl) (by rfl) (q_fieldAddr_pel (by rfl)) ?_)
      first | (refine WS.take rfl (by rfl) (by rfl) (q_load (by rfl) (by rfl) (by rfl)) ?_) | (refine WS.take rfl (by rfl) (by rfl) (q_load_rop (by rfl) (by rfl)) ?_) | (refine WS.take rfl (by rfl) (by rfl) (q_load_pel (by rfl) (by rfl) ?_ (by rfl)) ?_; (· (omega)))
      refine WS.last rfl (by rfl) (by rfl) (Ex.mapUpdate s.wo.e.p s.wo.e (by rfl) (by rfl) (by rfl) (by rfl) hs.h.keys hs.o.1 ?_)
      (repeat refine J.seq ?_)
      refine J.region ?_
      refine WL.yes (by rfl) (Ex.q (q_assign (by rfl)) (by rfl) ?_)
      refine WL.nil ?_
      (repeat refine J.seq ?_)
      refine J.ret ?_
      (repeat (with_reducible first | refine Kseq.ret ?_ | refine Kblock.ret ?_ | refine Kloop.ret ?_ | refine Kcut.ret ?_))
      first
        | (rw [reply_fail hy]; exact Kret.mk [(1060, .box fb 103 (fV mh mw mf .nilp)), (1051, tbl mh s.H), (1052, tbl mw s.W), (1053, mpc mf prE iV (adel s.wo.e.p s.F ++ [(s.wo.e.p, now + 1000)])), (1054, .vec none 39 52 0 0 (fun _ => opE default))] (.tmp (by rfl) .nil) (by rfl) trivial (HLe.sub (.cons (s := 1060) rfl (CLe.cells rfl (fun h => h) (fun h => h)) rfl (.cons (s := 1051) rfl (CLe.refl _ _) rfl (.cons (s := 1052) rfl (CLe.refl _ _) rfl (.cons (s := 1053) rfl (CLe.mp (aput_end _ _)) rfl (.non .nil)))))) ⟨rfl, (FO_n (s := { s with busy := false, F := adel s.wo.e.p s.F ++ [(s.wo.e.p, now + 1000)] }) rfl).symm⟩)
        | (rw [reply_rem hy e52]; exact Kret.mk [(1060, .box fb 103 (fV mh mw mf .nilp)), (1051, tbl mh (tdel s.wo.e.p s.H)), (1052, tbl mw s.W), (1053, mpc mf prE iV (adel s.wo.e.p s.F)), (1054, .vec none 39 52 0 0 (fun _ => opE default))] (.tmp (by rfl) .nil) (by rfl) trivial (HLe.sub (.cons (s := 1060) rfl (CLe.cells rfl (fun h => h) (fun h => h)) rfl (.cons (s := 1051) rfl (by rw [adel_tdel]; exact CLe.refl _ _) rfl (.cons (s := 1052) rfl (CLe.refl _ _) rfl (.cons (s := 1053) rfl (CLe.refl _ _) rfl (.non .nil)))))) ⟨rfl, (FO_n (s := { s with busy := false, F := adel s.wo.e.p s.F, H := tdel s.wo.e.p s.H }) rfl).symm⟩)
        | (rw [reply_put hy e52]; exact Kret.mk [(1060, .box fb 103 (fV mh mw mf .nilp)), (1051, tbl mh (tput s.wo.e s.H)), (1052, tbl mw s.W), (1053, mpc mf prE iV (adel s.wo.e.p s.F)), (1054, .vec none 39 52 0 0 (fun _ => opE default))] (.tmp (by rfl) .nil) (by rfl) trivial (HLe.sub (.cons (s := 1060) rfl (CLe.cells rfl (fun h => h) (fun h => h)) rfl (.cons (s := 1051) rfl (CLe.mp (aput_tput hs.h s.wo.e).symm) rfl (.cons (s := 1052) rfl (CLe.refl _ _) rfl (.cons (s := 1053) rfl (CLe.refl _ _) rfl (.non .nil)))))) ⟨rfl, (FO_n (s := { s with busy := false, F := adel s.wo.e.p s.F, H := tput s.wo.e s.H }) rfl).symm⟩)

theorem fReply_spec (fb mh mw mf wp : Nat) {s : FS} {now : Int} {ok : Bool}(hs : FOk s) (hn : -4611686018427387904 ≤ now ∧ now ≤ 4611686018427387904) : Spec Try.prog 35 [.ptr 1060 fb 0, iV now, .bool ok] (FO fb mh mw mf wp s) (fun r H' => r = iV (s.reply now ok).1 ∧ H' = FO fb mh mw mf wp (s.reply now ok).2) := by
  cases hy : s.busy with
  | false => exact (congrArg (fun z => Spec Try.prog 35 [.ptr 1060 fb 0, iV now, .bool ok] z (fun r H' => r = iV (s.reply now ok).1 ∧ H' = FO fb mh mw mf wp (s.reply now ok).2)) (FO_n hy)).mpr (fReply_n fb mh mw mf wp hy hs hn)
  | true => exact (congrArg (fun z => Spec Try.prog 35 [.ptr 1060 fb 0, iV now, .bool ok] z (fun r H' => r = iV (s.reply now ok).1 ∧ H' = FO fb mh mw mf wp (s.reply now ok).2)) (FO_p hy)).mpr (fReply_p fb mh mw mf wp hy hs hn)

set_option maxHeartbeats 16000000 in
set_option maxRecDepth 100000 in
theorem fDrained_n (fb mh mw mf wp : Nat) {s : FS} (hy : s.busy = false)(hs : FOk s) : Spec Try.prog 39 [.ptr 1060 fb 0] [(1060, .box fb 103 (fV mh mw mf .nilp)), (1051, tbl mh s.H), (1052, tbl mw s.W), (1053, mpc mf prE iV s.F), (1054, .vec none 39 52 0 0 (fun _ => opE default))] (fun r H' => r = .bool s.drained ∧ H' = FO fb mh mw mf wp s) := by
  refine Spec.of_J Try.func39 rfl Try.ntmps39 Try.results39 rfl ?_
  intro A F hAF
  (repeat refine J.seq ?_)
  refine J.region ?_
  refine WL.yes (by rfl) (Ex.q (q_assign (by rfl)) (by rfl) ?_)
  refine WL.nil ?_
  (repeat refine J.seq ?_)
  refine J.region ?_
  refine WL.yes (by rfl) (Ex.q (q_move (by rfl)) (by rfl) ?_)
  refine WL.yes (by rfl) (Ex.q (q_eqnil (by rfl) (by rfl) (by rfl)) (by rfl) ?_)
  refine WL.yes (by rfl) (Ex.q (q_move (by rfl)) (by rfl) ?_)
  refine WL.yes (by rfl) (Ex.q (q_move (by rfl)) (by rfl) ?_)
  refine WL.yes (by rfl) (Ex.q (q_nilCheck (by rfl) (by rfl)) (by rfl) ?_)
  first | (refine WL.yes (by rfl) (Ex.q (q_fieldAddr (by rfl)) (by rfl) ?_)) | (refine WL.yes (by rfl) (Ex.q (q_fieldAddr_rop (by rfl) (by rfl)) (by rfl) ?_)) | (refine WL.yes (by rfl) (Ex.q (q_fieldAddr_pel (by rfl)) (by rfl) ?_))
  first | (refine WL.yes (by rfl) (Ex.h (h_load (by rfl) (by rfl) (by rfl)) (by rfl) ?_)) | (refine WL.yes (by rfl) (Ex.q (q_load (by rfl) (by rfl) (by rfl)) (by rfl) ?_)) | (refine WL.yes (by rfl) (Ex.q (q_load_rop (by rfl) (by rfl)) (by rfl) ?_)) | (refine WL.yes (by rfl) (Ex.h (h_load_pel (by rfl) (by rfl) ?_ (by rfl)) (by rfl) ?_); (· (omega))) | (refine WL.yes (by rfl) (Ex.q (q_load_pel (by rfl) (by rfl) ?_ (by rfl)) (by rfl) ?_); (· (omega)))
  refine WL.yes (by rfl) (Ex.q (q_eqnil (by rfl) (by rfl) (by rfl)) (by rfl) ?_)
  refine WL.yes (by rfl) (Ex.q (q_move (by rfl)) (by rfl) ?_)
  refine WL.yes (by rfl) (Ex.q (q_move (by rfl)) (by rfl) ?_)
  refine WL.yes (by rfl) (Ex.callL (fTodo_n fb mh mw mf wp hy hs) (by rfl) (by rfl) (.cons rfl (.cons rfl (.cons rfl (.cons rfl (.cons rfl .nil))))) ?_)
  rintro _ _ ⟨a13, cap13, rfl, rfl⟩
  rw [FO_n hy]
  first | (refine WL.yes (by rfl) (Ex.q (q_len_slice (by rfl) (by rfl)) (by rfl) ?_)) | (refine WL.yes (by rfl) (Ex.q (q_len_string (by rfl)) (by rfl) ?_))
  first | (refine WL.yes (by rfl) (Ex.q (q_int (by rfl) (by rfl) (by rfl)) (by rfl) ?_)) | (refine WL.yes (by rfl) (Ex.q (q_eqb (by rfl) (by rfl)) (by rfl) ?_)) | (refine WL.yes (by rfl) (Ex.q (q_eqp rfl rfl (by rfl) (by rfl) ?_) (by rfl) ?_); (· (rfl))) | (refine WL.yes (by rfl) (Ex.q (q_eqs (by rfl) (by rfl)) (by rfl) ?_))
  refine WL.yes (by rfl) (Ex.q (q_pick_t (by rfl) (by rfl)) (by rfl) ?_)
  refine WL.yes (by rfl) (Ex.q (q_pick_f (by rfl) (by rfl)) (by rfl) ?_)
  refine WL.yes (by rfl) (Ex.q (q_assign (by rfl)) (by rfl) ?_)
  refine WL.nil ?_
  (repeat refine J.seq ?_)
  refine J.ret ?_
  (repeat (with_reducible first | refine Kseq.ret ?_ | refine Kblock.ret ?_ | refine Kloop.ret ?_ | refine Kcut.ret ?_))
  exact Kret.mk2 (vs := [_]) (.bool s.drained) [(1060, .box fb 103 (fV mh mw mf .nilp)), (1051, tbl mh s.H), (1052, tbl mw s.W), (1053, mpc mf prE iV s.F), (1054, .vec none 39 52 0 0 (fun _ => opE default))] (.tmp (by rfl) .nil) (by rfl) trivial (by unfold FS.drained; rw [hy]; first | rfl | (simp; rfl)) (fun _ _ => trivial) (HLe.sub (.cons (s := 1060) rfl (CLe.refl _ _) rfl (.cons (s := 1051) rfl (CLe.refl _ _) rfl (.cons (s := 1052) rfl (CLe.refl _ _) rfl (.cons (s := 1053) rfl (CLe.refl _ _) rfl (.non .nil)))))) ⟨rfl, by first | rfl | exact (FO_n hy).symm⟩

set_option maxHeartbeats 16000000 in
set_option maxRecDepth 100000 in
theorem fDrained_p (fb mh mw mf wp : Nat) {s : FS} (hy : s.busy = true)(hs : FOk s) : Spec Try.prog 39 [.ptr 1060 fb 0] [(1060, .box fb 103 (fV mh mw mf (.ptr 1054 wp 0))), (1051, tbl mh s.H), (1052, tbl mw s.W), (1053, mpc mf prE iV s.F), (1054, .box wp 39 (opE s.wo))] (fun r H' => r = .bool s.drained ∧ H' = FO fb mh mw mf wp s) := by
  refine Spec.of_J Try.func39 rfl Try.ntmps39 Try.results39 rfl ?_
  intro A F hAF
  (repeat refine J.seq ?_)
  refine J.region ?_
  refine WL.yes (by rfl) (Ex.q (q_assign (by rfl)) (by rfl) ?_)
  refine WL.nil ?_
  (repeat refine J.seq ?_)
  refine J.region ?_
  refine WL.yes (by rfl) (Ex.q (q_move (by rfl)) (by rfl) ?_)
  refine WL.yes (by rfl) (Ex.q (q_eqnil (by rfl) (by rfl) (by rfl)) (by rfl) ?_)
  refine WL.yes (by rfl) (Ex.q (q_move (by rfl)) (by rfl) ?_)
  refine WL.yes (by rfl) (Ex.q (q_move (by rfl)) (by rfl) ?_)
  refine WL.yes (by rfl) (Ex.q (q_nilCheck (by rfl) (by rfl)) (by rfl) ?_)
  first | (refine WL.yes (by rfl) (Ex.q (q_fieldAddr (by rfl)) (by rfl) ?_)) | (refine WL.yes (by rfl) (Ex.q (q_fieldAddr_rop (by rfl) (by rfl)) (by rfl) ?_)) | (refine WL.yes (by rfl) (Ex.q (q_fieldAddr_pel (by rfl)) (by rfl) ?_))
  first | (refine WL.yes (by rfl) (Ex.h (h_load (by rfl) (by rfl) (by rfl)) (by rfl) ?_)) | (refine WL.yes (by rfl) (Ex.q (q_load (by rfl) (by rfl) (by rfl)) (by rfl) ?_)) | (refine WL.yes (by rfl) (Ex.q (q_load_rop (by rfl) (by rfl)) (by rfl) ?_)) | (refine WL.yes (by rfl) (Ex.h (h_load_pel (by rfl) (by rfl) ?_ (by rfl)) (by rfl) ?_); (· (omega))) | (refine WL.yes (by rfl) (Ex.q (q_load_pel (by rfl) (by rfl) ?_ (by rfl)) (by rfl) ?_); (· (omega)))
  refine WL.yes (by rfl) (Ex.q (q_eqnil (by rfl) (by rfl) (by rfl)) (by rfl) ?_)
  refine WL.yes (by rfl) (Ex.q (q_move (by rfl)) (by rfl) ?_)
  refine WL.no (by rfl) (by rfl) ?_
  refine WL.no (by rfl) (by rfl) ?_
  refine WL.no (by rfl) (by rfl) ?_
  refine WL.no (by rfl) (by rfl) ?_
  refine WL.yes (by rfl) (Ex.q (q_pick_f (by rfl) (by rfl)) (by rfl) ?_)
  refine WL.yes (by rfl) (Ex.q (q_pick_f (by rfl) (by rfl)) (by rfl) ?_)
  refine WL.yes (by rfl) (Ex.q (q_assign (by rfl)) (by rfl) ?_)
  refine WL.nil ?_
  (repeat refine J.seq ?_)
  refine J.ret ?_
  (repeat (with_reducible first | refine Kseq.ret ?_ | refine Kblock.ret ?_ | refine Kloop.ret ?_ | refine Kcut.ret ?_))
  exact Kret.mk2 (vs := [_]) (.bool s.drained) [(1060, .box fb 103 (fV mh mw mf (.ptr 1054 wp 0))), (1051, tbl mh s.H), (1052, tbl mw s.W), (1053, mpc mf prE iV s.F), (1054, .box wp 39 (opE s.wo))] (.tmp (by rfl) .nil) (by rfl) trivial (by unfold FS.drained; rw [hy]; first | rfl | (simp; rfl)) (fun _ _ => trivial) (HLe.sub (.cons (s := 1060) rfl (CLe.refl _ _) rfl (.cons (s := 1051) rfl (CLe.refl _ _) rfl (.cons (s := 1052) rfl (CLe.refl _ _) rfl (.cons (s := 1053) rfl (CLe.refl _ _) rfl (.cons (s := 1054) rfl (CLe.refl _ _) rfl .nil)))))) ⟨rfl, by first | rfl | exact (FO_p hy).symm⟩

theorem fDrained_spec (fb mh mw mf wp : Nat) {s : FS}(hs : FOk s) : Spec Try.prog 39 [.ptr 1060 fb 0] (FO fb mh mw mf wp s) (fun r H' => r = .bool s.drained ∧ H' = FO fb mh mw mf wp s) := by
  cases hy : s.busy with
  | false => exact (congrArg (fun z => Spec Try.prog 39 [.ptr 1060 fb 0] z (fun r H' => r = .bool s.drained ∧ H' = FO fb mh mw mf wp s)) (FO_n hy)).mpr (fDrained_n fb mh mw mf wp hy hs)
  | true => exact (congrArg (fun z => Spec Try.prog 39 [.ptr 1060 fb 0] z (fun r H' => r = .bool s.drained ∧ H' = FO fb mh mw mf wp s)) (FO_p hy)).mpr (fDrained_p fb mh mw mf wp hy hs)

set_option maxHeartbeats 16000000 in
set_option maxRecDepth 100000 in
theorem fAt_n (fb mh mw mf wp : Nat) {s : FS} (hy : s.busy = false)(hs : FOk s) : Spec Try.prog 37 [.ptr 1060 fb 0] [(1060, .box fb 103 (fV mh mw mf .nilp)), (1051, tbl mh s.H), (1052, tbl mw s.W), (1053, mpc mf prE iV s.F), (1054, .vec none 39 52 0 0 (fun _ => opE default))] (fun r H' => r = .tup2 (iV (s.at.getD 0)) (.bool s.at.isSome) ∧ H' = FO fb mh mw mf wp s) := by
  refine Spec.of_J Try.func37 rfl Try.ntmps37 Try.results37 rfl ?_
  intro A F hAF
  have htl := hs.todo_len
  (repeat refine J.seq ?_)
  refine J.region ?_
  refine WL.yes (by rfl) (Ex.q (q_assign (by rfl)) (by rfl) ?_)
  refine WL.yes (by rfl) (Ex.q (q_assign (by rfl)) (by rfl) ?_)
  refine WL.nil ?_
  (repeat refine J.seq ?_)
  refine J.region ?_
  refine WL.yes (by rfl) (Ex.q (q_move (by rfl)) (by rfl) ?_)
  refine WL.yes (by rfl) (Ex.callL (fTodo_n fb mh mw mf wp hy hs) (by rfl) (by rfl) (.cons rfl (.cons rfl (.cons rfl (.cons rfl (.cons rfl .nil))))) ?_)
  rintro _ _ ⟨a9, cap9, rfl, rfl⟩
  rw [FO_n hy]
  first | (refine WL.yes (by rfl) (Ex.q (q_len_slice (by rfl) (by rfl)) (by rfl) ?_)) | (refine WL.yes (by rfl) (Ex.q (q_len_string (by rfl)) (by rfl) ?_))
  refine WL.yes (by rfl) (Ex.q (q_move (by rfl)) (by rfl) ?_)
  refine WL.nil ?_
  (repeat refine J.seq ?_)
  refine J.block ?_
  (repeat refine J.seq ?_)
  refine J.loopP (fun x : Nat => x ≤ s.todo.length) (fun x => [(2, iV ((atL s.F (s.todo.take x)).getD 0)), (3, .bool (atL s.F (s.todo.take x)).isSome), (11, iV x)]) (fun x => []) (fun x => s.todo.length - x) (0) [(0, _), (9, _), (10, _)] [(1051, _), (1052, _), (1053, _), (1054, _), (1060, _), (2067, _)] ⟨same rfl, same rfl, same rfl, trivial⟩ ⟨same rfl, same rfl, same rfl, trivial⟩ (.cons (s := 1051) rfl (CLe.refl _ _) rfl (.cons (s := 1052) rfl (CLe.refl _ _) rfl (.cons (s := 1053) rfl (CLe.refl _ _) rfl (.cons (s := 1054) rfl (CLe.refl _ _) rfl (.cons (s := 1060) rfl (CLe.refl _ _) rfl (.cons (s := 2067) rfl (CLe.refl _ _) rfl .nil)))))) ?_ ?_
  · ((try dsimp only) <;> omega)
  rintro k hx
  (try dsimp only at hx)
  (repeat refine J.seq ?_)
  refine J.region ?_
  refine WL.yes (by rfl) (Ex.q (q_int (by rfl) (by rfl) (by rfl)) (by rfl) ?_)
  refine WL.nil ?_
  (repeat refine J.seq ?_)
  refine J.cond (by rfl) (fun c12 => ?_) (fun c12 => ?_)
  · skip
    (first | have e12 := of_decide_eq_true c12 | have e12 := of_decide_eq_false c12 | have e12 := ndec_t c12 | have e12 := ndec_f c12 | skip)
    (repeat refine J.seq ?_)
    refine J.skip ?_
    (repeat refine J.seq ?_)
    refine J.block ?_
    (repeat refine J.seq ?_)
    have hk2 : k < s.todo.length := by omega
    have hk3 : (lat s.todo k).e.ok := hs.todo_ok _ (lat_mem hk2)
    refine J.vecsome (t := 2067) rfl (by omega) ?_
    intro b9 hb9
    subst hb9
    refine J.region ?_
    first | (refine WL.yes (by rfl) (Ex.q (q_indexAddr_ros (by rfl) (by rfl) (by intro _; rfl) ?_ ?_) (by rfl) ?_); (· (omega)); (· (omega))) | (refine WL.yes (by rfl) (Ex.q (q_indexAddr_sl (by rfl) (by rfl) ?_ ?_) (by rfl) ?_); (· (omega)); (· (omega))) | (refine WL.yes (by rfl) (Ex.q (q_indexAddr_arr (by rfl) (by rfl) ?_ ?_) (by rfl) ?_); (· (omega)); (· (omega)))
    first | (refine WL.yes (by rfl) (Ex.h (h_load (by rfl) (by rfl) (by rfl)) (by rfl) ?_)) | (refine WL.yes (by rfl) (Ex.q (q_load (by rfl) (by rfl) (by rfl)) (by rfl) ?_)) | (refine WL.yes (by rfl) (Ex.q (q_load_rop (by rfl) (by rfl)) (by rfl) ?_)) | (refine WL.yes (by rfl) (Ex.h (h_load_pel (by rfl) (by rfl) ?_ (by rfl)) (by rfl) ?_); (· (omega))) | (refine WL.yes (by rfl) (Ex.q (q_load_pel (by rfl) (by rfl) ?_ (by rfl)) (by rfl) ?_); (· (omega)))
    refine WL.set 14 (opE (lat s.todo k)) (by rfl) (by rw [Nat.zero_add, Int.toNat_natCast]) ?_
    refine WL.yes (by rfl) (Ex.alloc (by rfl) ?_)
    intro b5
    first | (refine WL.yes (by rfl) (Ex.store (by rfl) (by rfl) (by rfl) (by rfl) (by rfl) (by rfl) ?_)) | (refine WL.yes (by rfl) (Ex.store_pel (by rfl) (by rfl) (by rfl) (by rfl) (by rfl) ?_ (by rfl) ?_); (· (omega)))
    refine WL.nil ?_
    (repeat refine J.seq ?_)
    refine J.draw [5, 1051, 1052, 1053, 1054, 1060, 2067] 9999 [(0, true), (1, true), (2, true), (3, true), (4, true), (5, true), (6, true), (7, true), (8, true), (9, true), (10, true), (11, true), (12, true)] (by kernel_rfl) rfl (by kernel_rfl) ?_
    intro F1 hF1
    refine WS.take rfl (by rfl) (by rfl) (q_move (by rfl)) ?_
    refine WS.take rfl (by rfl) (by rfl) (q_nilCheck (by rfl) (by rfl)) ?_
    first | (refine WS.take rfl (by rfl) (by rfl) (q_fieldAddr (by rfl)) ?_) | (refine WS.take rfl (by rfl) (by rfl) (q_fieldAddr_rop (by rfl) (by rfl)) ?_) | (refine WS.take rfl (by rfl) (by rfl) (q_fieldAddr_pel (by rfl)) ?_)
    first | (refine WS.take rfl (by rfl) (by rfl) (q_load (by rfl) (by rfl) (by rfl)) ?_) | (refine WS.take rfl (by rfl) (by rfl) (q_load_rop (by rfl) (by rfl)) ?_) | (refine WS.take rfl (by rfl) (by rfl) (q_load_pel (by rfl) (by rfl) ?_ (by rfl)) ?_; (· (omega)))
    first | (refine WS.take rfl (by rfl) (by rfl) (q_fieldAddr (by rfl)) ?_) | (refine WS.take rfl (by rfl) (by rfl) (q_fieldAddr_rop (by rfl) (by rfl)) ?_) | (refine WS.take rfl (by rfl) (by rfl) (q_fieldAddr_pel (by rfl)) ?_)
    first | (refine WS.take rfl (by rfl) (by rfl) (q_fieldAddr (by rfl)) ?_) | (refine WS.take rfl (by rfl) (by rfl) (q_fieldAddr_rop (by rfl) (by rfl)) ?_) | (refine WS.take rfl (by rfl) (by rfl) (q_fieldAddr_pel (by rfl)) ?_)
    first | (refine WS.take rfl (by rfl) (by rfl) (q_load (by rfl) (by rfl) (by rfl)) ?_) | (refine WS.take rfl (by rfl) (by rfl) (q_load_rop (by rfl) (by rfl)) ?_) | (refine WS.take rfl (by rfl) (by rfl) (q_load_pel (by rfl) (by rfl) ?_ (by rfl)) ?_; (· (omega)))
    refine WS.take rfl (by rfl) (by rfl) (q_lookup_ok (e := prE) (f := iV) rfl (by rfl) (by rfl) (by rfl) hs.f hk3.1) ?_
    refine WS.take rfl (by rfl) (by rfl) (q_move (by rfl)) ?_
    first | (refine WS.take rfl (by rfl) (by rfl) (q_extract2 (by rfl) (by rfl)) ?_) | (refine WS.take rfl (by rfl) (by rfl) (q_extract3 (by rfl) (by rfl)) ?_)
    first | (refine WS.take rfl (by rfl) (by rfl) (q_extract2 (by rfl) (by rfl)) ?_) | (refine WS.take rfl (by rfl) (by rfl) (q_extract3 (by rfl) (by rfl)) ?_)
    refine WS.take rfl (by rfl) (by rfl) (q_assign (by rfl)) ?_
    refine WS.take rfl (by rfl) (by rfl) (q_assign (by rfl)) ?_
    refine WS.nil ?_
    (repeat refine J.seq ?_)
    refine J.region ?_
    refine WL.yes (by rfl) (Ex.q (q_move (by rfl)) (by rfl) ?_)
    refine WL.yes (by rfl) (Ex.q (q_move (by rfl)) (by rfl) ?_)
    refine WL.split 27 (by rfl) (fun g27 => ?_) (fun g27 => ?_)
    · skip
      (first | have eg27 := of_decide_eq_true g27 | have eg27 := of_decide_eq_false g27 | have eg27 := ndec_t g27 | have eg27 := ndec_f g27 | skip)
      have h1 : (alook (lat s.todo k).e.p s.F).isSome = true := g27
      refine WL.yes (by rfl) (Ex.q (q_move (by rfl)) (by rfl) ?_)
      refine WL.yes (by rfl) (Ex.q (q_not (by rfl)) (by rfl) ?_)
      refine WL.yes (by rfl) (Ex.q (q_move (by rfl)) (by rfl) ?_)
      refine WL.split 30 (by rfl) (fun g30 => ?_) (fun g30 => ?_)
      · skip
        (first | have eg30 := of_decide_eq_true g30 | have eg30 := of_decide_eq_false g30 | have eg30 := ndec_t g30 | have eg30 := ndec_f g30 | skip)
        have h2 : (atL s.F (s.todo.take k)).isSome = false := by simpa using g30
        refine WL.no (by rfl) (by rfl) ?_
        refine WL.no (by rfl) (by rfl) ?_
        refine WL.no (by rfl) (by rfl) ?_
        refine WL.yes (by rfl) (Ex.q (q_pick_t (by rfl) (by rfl)) (by rfl) ?_)
        refine WL.yes (by rfl) (Ex.q (q_pick_t (by rfl) (by rfl)) (by rfl) ?_)
        refine WL.nil ?_
        (repeat refine J.seq ?_)
        refine J.condT (by rfl) ?_
        (repeat refine J.seq ?_)
        refine J.region ?_
        refine WL.yes (by rfl) (Ex.q (q_move (by rfl)) (by rfl) ?_)
        refine WL.yes (by rfl) (Ex.q (q_assign (by rfl)) (by rfl) ?_)
        refine WL.yes (by rfl) (Ex.q (q_assign (by rfl)) (by rfl) ?_)
        refine WL.nil ?_
        (repeat refine J.seq ?_)
        refine J.region ?_
        refine WL.yes (by rfl) (Ex.q (q_int (by rfl) (by rfl) (by rfl)) (by rfl) ?_)
        refine WL.yes (by rfl) (Ex.q (q_move (by rfl)) (by rfl) ?_)
        refine WL.nil ?_
        first | ((have hs1 := atS_step hk2; rw [as1_no h1] at hs1); refine Kloop.nextP (k + 1) ?_ ?_ ⟨same (by rw [hs1]; rfl), same (by rw [hs1]; rfl), same (by rw [← w64_nat (k := k) (by omega)]; rfl), trivial⟩ ⟨same rfl, same rfl, same rfl, trivial⟩ (.cons (s := 1051) rfl (CLe.refl _ _) rfl (.cons (s := 1052) rfl (CLe.refl _ _) rfl (.cons (s := 1053) rfl (CLe.refl _ _) rfl (.cons (s := 1054) rfl (CLe.refl _ _) rfl (.cons (s := 1060) rfl (CLe.refl _ _) rfl (.cons (s := 2067) rfl (CLe.refl _ _) rfl .nil)))))); (· ((try dsimp only) <;> omega)); (· ((try dsimp only) <;> omega))) | ((have hs1 := atS_step hk2; rw [as1_first h1 h2] at hs1); refine Kloop.nextP (k + 1) ?_ ?_ ⟨same (by rw [hs1]; rfl), same (by rw [hs1]; rfl), same (by rw [← w64_nat (k := k) (by omega)]; rfl), trivial⟩ ⟨same rfl, same rfl, same rfl, trivial⟩ (.cons (s := 1051) rfl (CLe.refl _ _) rfl (.cons (s := 1052) rfl (CLe.refl _ _) rfl (.cons (s := 1053) rfl (CLe.refl _ _) rfl (.cons (s := 1054) rfl (CLe.refl _ _) rfl (.cons (s := 1060) rfl (CLe.refl _ _) rfl (.cons (s := 2067) rfl (CLe.refl _ _) rfl .nil)))))); (· ((try dsimp only) <;> omega)); (· ((try dsimp only) <;> omega))) | ((have hs1 := atS_step hk2; rw [as1_less h1 h2 e35] at hs1); refine Kloop.nextP (k + 1) ?_ ?_ ⟨same (by rw [hs1]; rfl), same (by rw [hs1]; rfl), same (by rw [← w64_nat (k := k) (by omega)]; rfl), trivial⟩ ⟨same rfl, same rfl, same rfl, trivial⟩ (.cons (s := 1051) rfl (CLe.refl _ _) rfl (.cons (s := 1052) rfl (CLe.refl _ _) rfl (.cons (s := 1053) rfl (CLe.refl _ _) rfl (.cons (s := 1054) rfl (CLe.refl _ _) rfl (.cons (s := 1060) rfl (CLe.refl _ _) rfl (.cons (s := 2067) rfl (CLe.refl _ _) rfl .nil)))))); (· ((try dsimp only) <;> omega)); (· ((try dsimp only) <;> omega))) | ((have hs1 := atS_step hk2; rw [as1_more h1 h2 e35] at hs1); refine Kloop.nextP (k + 1) ?_ ?_ ⟨same (by rw [hs1]; rfl), same (by rw [hs1]; rfl), same (by rw [← w64_nat (k := k) (by omega)]; rfl), trivial⟩ ⟨same rfl, same rfl, same rfl, trivial⟩ (.cons (s := 1051) rfl (CLe.refl _ _) rfl (.cons (s := 1052) rfl (CLe.refl _ _) rfl (.cons (s := 1053) rfl (CLe.refl _ _) rfl (.cons (s := 1054) rfl (CLe.refl _ _) rfl (.cons (s := 1060) rfl (CLe.refl _ _) rfl (.cons (s := 2067) rfl (CLe.refl _ _) rfl .nil)))))); (· ((try dsimp only) <;> omega)); (· ((try dsimp only) <;> omega)))
      · skip
        (first | have eg30 := of_decide_eq_true g30 | have eg30 := of_decide_eq_false g30 | have eg30 := ndec_t g30 | have eg30 := ndec_f g30 | skip)
        have h2 : (atL s.F (s.todo.take k)).isSome = true := by simpa using g30
        refine WL.yes (by rfl) (Ex.q (q_move (by rfl)) (by rfl) ?_)
        refine WL.yes (by rfl) (Ex.q (q_move (by rfl)) (by rfl) ?_)
        refine WL.yes (by rfl) (Ex.q (q_int (by rfl) (by rfl) (by rfl)) (by rfl) ?_)
        refine WL.yes (by rfl) (Ex.q (q_pick_f (by rfl) (by rfl)) (by rfl) ?_)
        refine WL.yes (by rfl) (Ex.q (q_pick_t (by rfl) (by rfl)) (by rfl) ?_)
        refine WL.nil ?_
        (repeat refine J.seq ?_)
        refine J.cond (by rfl) (fun c35 => ?_) (fun c35 => ?_)
        · skip
          (first | have e35 := of_decide_eq_true c35 | have e35 := of_decide_eq_false c35 | have e35 := ndec_t c35 | have e35 := ndec_f c35 | skip)
          (repeat refine J.seq ?_)
          refine J.region ?_
          refine WL.yes (by rfl) (Ex.q (q_move (by rfl)) (by rfl) ?_)
          refine WL.yes (by rfl) (Ex.q (q_assign (by rfl)) (by rfl) ?_)
          refine WL.yes (by rfl) (Ex.q (q_assign (by rfl)) (by rfl) ?_)
          refine WL.nil ?_
          (repeat refine J.seq ?_)
          refine J.region ?_
          refine WL.yes (by rfl) (Ex.q (q_int (by rfl) (by rfl) (by rfl)) (by rfl) ?_)
          refine WL.yes (by rfl) (Ex.q (q_move (by rfl)) (by rfl) ?_)
          refine WL.nil ?_
          first | ((have hs1 := atS_step hk2; rw [as1_no h1] at hs1); refine Kloop.nextP (k + 1) ?_ ?_ ⟨same (by rw [hs1]; rfl), same (by rw [hs1]; rfl), same (by rw [← w64_nat (k := k) (by omega)]; rfl), trivial⟩ ⟨same rfl, same rfl, same rfl, trivial⟩ (.cons (s := 1051) rfl (CLe.refl _ _) rfl (.cons (s := 1052) rfl (CLe.refl _ _) rfl (.cons (s := 1053) rfl (CLe.refl _ _) rfl (.cons (s := 1054) rfl (CLe.refl _ _) rfl (.cons (s := 1060) rfl (CLe.refl _ _) rfl (.cons (s := 2067) rfl (CLe.refl _ _) rfl .nil)))))); (· ((try dsimp only) <;> omega)); (· ((try dsimp only) <;> omega))) | ((have hs1 := atS_step hk2; rw [as1_first h1 h2] at hs1); refine Kloop.nextP (k + 1) ?_ ?_ ⟨same (by rw [hs1]; rfl), same (by rw [hs1]; rfl), same (by rw [← w64_nat (k := k) (by omega)]; rfl), trivial⟩ ⟨same rfl, same rfl, same rfl, trivial⟩ (.cons (s := 1051) rfl (CLe.refl _ _) rfl (.cons (s := 1052) rfl (CLe.refl _ _) rfl (.cons (s := 1053) rfl (CLe.refl _ _) rfl (.cons (s := 1054) rfl (CLe.refl _ _) rfl (.cons (s := 1060) rfl (CLe.refl _ _) rfl (.cons (s := 2067) rfl (CLe.refl _ _) rfl .nil)))))); (· ((try dsimp only) <;> omega)); (· ((try dsimp only) <;> omega))) | ((have hs1 := atS_step hk2; rw [as1_less h1 h2 e35] at hs1); refine Kloop.nextP (k + 1) ?_ ?_ ⟨same (by rw [hs1]; rfl), same (by rw [hs1]; rfl), same (by rw [← w64_nat (k := k) (by omega)]; rfl), trivial⟩ ⟨same rfl, same rfl, same rfl, trivial⟩ (.cons (s := 1051) rfl (CLe.refl _ _) rfl (.cons (s := 1052) rfl (CLe.refl _ _) rfl (.cons (s := 1053) rfl (CLe.refl _ _) rfl (.cons (s := 1054) rfl (CLe.refl _ _) rfl (.cons (s := 1060) rfl (CLe.refl _ _) rfl (.cons (s := 2067) rfl (CLe.refl _ _) rfl .nil)))))); (· ((try dsimp only) <;> omega)); (· ((try dsimp only) <;> omega))) | ((have hs1 := atS_step hk2; rw [as1_more h1 h2 e35] at hs1); refine Kloop.nextP (k + 1) ?_ ?_ ⟨same (by rw [hs1]; rfl), same (by rw [hs1]; rfl), same (by rw [← w64_nat (k := k) (by omega)]; rfl), trivial⟩ ⟨same rfl, same rfl, same rfl, trivial⟩ (.cons (s := 1051) rfl (CLe.refl _ _) rfl (.cons (s := 1052) rfl (CLe.refl _ _) rfl (.cons (s := 1053) rfl (CLe.refl _ _) rfl (.cons (s := 1054) rfl (CLe.refl _ _) rfl (.cons (s := 1060) rfl (CLe.refl _ _) rfl (.cons (s := 2067) rfl (CLe.refl _ _) rfl .nil)))))); (· ((try dsimp only) <;> omega)); (· ((try dsimp only) <;> omega)))
        · skip
          (first | have e35 := of_decide_eq_true c35 | have e35 := of_decide_eq_false c35 | have e35 := ndec_t c35 | have e35 := ndec_f c35 | skip)
          (repeat refine J.seq ?_)
          refine J.skip ?_
          (repeat refine J.seq ?_)
          refine J.region ?_
          refine WL.yes (by rfl) (Ex.q (q_int (by rfl) (by rfl) (by rfl)) (by rfl) ?_)
          refine WL.yes (by rfl) (Ex.q (q_move (by rfl)) (by rfl) ?_)
          refine WL.nil ?_
          first | ((have hs1 := atS_step hk2; rw [as1_no h1] at hs1); refine Kloop.nextP (k + 1) ?_ ?_ ⟨same (by rw [hs1]; rfl), same (by rw [hs1]; rfl), same (by rw [← w64_nat (k := k) (by omega)]; rfl), trivial⟩ ⟨same rfl, same rfl, same rfl, trivial⟩ (.cons (s := 1051) rfl (CLe.refl _ _) rfl (.cons (s := 1052) rfl (CLe.refl _ _) rfl (.cons (s := 1053) rfl (CLe.refl _ _) rfl (.cons (s := 1054) rfl (CLe.refl _ _) rfl (.cons (s := 1060) rfl (CLe.refl _ _) rfl (.cons (s := 2067) rfl (CLe.refl _ _) rfl .nil)))))); (· ((try dsimp only) <;> omega)); (· ((try dsimp only) <;> omega))) | ((have hs1 := atS_step hk2; rw [as1_first h1 h2] at hs1); refine Kloop.nextP (k + 1) ?_ ?_ ⟨same (by rw [hs1]; rfl), same (by rw [hs1]; rfl), same (by rw [← w64_nat (k := k) (by omega)]; rfl), trivial⟩ ⟨same rfl, same rfl, same rfl, trivial⟩ (.cons (s := 1051) rfl (CLe.refl _ _) rfl (.cons (s := 1052) rfl (CLe.refl _ _) rfl (.cons (s := 1053) rfl (CLe.refl _ _) rfl (.cons (s := 1054) rfl (CLe.refl _ _) rfl (.cons (s := 1060) rfl (CLe.refl _ _) rfl (.cons (s := 2067) rfl (CLe.refl _ _) rfl .nil)))))); (· ((try dsimp only) <;> omega)); (· ((try dsimp only) <;> omega))) | ((have hs1 := atS_step hk2; rw [as1_less h1 h2 e35] at hs1); refine Kloop.nextP (k + 1) ?_ ?_ ⟨same (by rw [hs1]; rfl), same (by rw [hs1]; rfl), same (by rw [← w64_nat (k := k) (by omega)]; rfl), trivial⟩ ⟨same rfl, same rfl, same rfl, trivial⟩ (.cons (s := 1051) rfl (CLe.refl _ _) rfl (.cons (s := 1052) rfl (CLe.refl _ _) rfl (.cons (s := 1053) rfl (CLe.refl _ _) rfl (.cons (s := 1054) rfl (CLe.refl _ _) rfl (.cons (s := 1060) rfl (CLe.refl _ _) rfl (.cons (s := 2067) rfl (CLe.refl _ _) rfl .nil)))))); (· ((try dsimp only) <;> omega)); (· ((try dsimp only) <;> omega))) | ((have hs1 := atS_step hk2; rw [as1_more h1 h2 e35] at hs1); refine Kloop.nextP (k + 1) ?_ ?_ ⟨same (by rw [hs1]; rfl), same (by rw [hs1]; rfl), same (by rw [← w64_nat (k := k) (by omega)]; rfl), trivial⟩ ⟨same rfl, same rfl, same rfl, trivial⟩ (.cons (s := 1051) rfl (CLe.refl _ _) rfl (.cons (s := 1052) rfl (CLe.refl _ _) rfl (.cons (s := 1053) rfl (CLe.refl _ _) rfl (.cons (s := 1054) rfl (CLe.refl _ _) rfl (.cons (s := 1060) rfl (CLe.refl _ _) rfl (.cons (s := 2067) rfl (CLe.refl _ _) rfl .nil)))))); (· ((try dsimp only) <;> omega)); (· ((try dsimp only) <;> omega)))
    · skip
      (first | have eg27 := of_decide_eq_true g27 | have eg27 := of_decide_eq_false g27 | have eg27 := ndec_t g27 | have eg27 := ndec_f g27 | skip)
      have h1 : (alook (lat s.todo k).e.p s.F).isSome = false := g27
      refine WL.no (by rfl) (by rfl) ?_
      refine WL.no (by rfl) (by rfl) ?_
      refine WL.no (by rfl) (by rfl) ?_
      refine WL.no (by rfl) (by rfl) ?_
      refine WL.no (by rfl) (by rfl) ?_
      refine WL.no (by rfl) (by rfl) ?_
      refine WL.no (by rfl) (by rfl) ?_
      refine WL.yes (by rfl) (Ex.q (q_pick_f (by rfl) (by rfl)) (by rfl) ?_)
      refine WL.nil ?_
      (repeat refine J.seq ?_)
      refine J.condF (by rfl) ?_
      (repeat refine J.seq ?_)
      refine J.skip ?_
      (repeat refine J.seq ?_)
      refine J.region ?_
      refine WL.yes (by rfl) (Ex.q (q_int (by rfl) (by rfl) (by rfl)) (by rfl) ?_)
      refine WL.yes (by rfl) (Ex.q (q_move (by rfl)) (by rfl) ?_)
      refine WL.nil ?_
      first | ((have hs1 := atS_step hk2; rw [as1_no h1] at hs1); refine Kloop.nextP (k + 1) ?_ ?_ ⟨same (by rw [hs1]; rfl), same (by rw [hs1]; rfl), same (by rw [← w64_nat (k := k) (by omega)]; rfl), trivial⟩ ⟨same rfl, same rfl, same rfl, trivial⟩ (.cons (s := 1051) rfl (CLe.refl _ _) rfl (.cons (s := 1052) rfl (CLe.refl _ _) rfl (.cons (s := 1053) rfl (CLe.refl _ _) rfl (.cons (s := 1054) rfl (CLe.refl _ _) rfl (.cons (s := 1060) rfl (CLe.refl _ _) rfl (.cons (s := 2067) rfl (CLe.refl _ _) rfl .nil)))))); (· ((try dsimp only) <;> omega)); (· ((try dsimp only) <;> omega))) | ((have hs1 := atS_step hk2; rw [as1_first h1 h2] at hs1); refine Kloop.nextP (k + 1) ?_ ?_ ⟨same (by rw [hs1]; rfl), same (by rw [hs1]; rfl), same (by rw [← w64_nat (k := k) (by omega)]; rfl), trivial⟩ ⟨same rfl, same rfl, same rfl, trivial⟩ (.cons (s := 1051) rfl (CLe.refl _ _) rfl (.cons (s := 1052) rfl (CLe.refl _ _) rfl (.cons (s := 1053) rfl (CLe.refl _ _) rfl (.cons (s := 1054) rfl (CLe.refl _ _) rfl (.cons (s := 1060) rfl (CLe.refl _ _) rfl (.cons (s := 2067) rfl (CLe.refl _ _) rfl .nil)))))); (· ((try dsimp only) <;> omega)); (· ((try dsimp only) <;> omega))) | ((have hs1 := atS_step hk2; rw [as1_less h1 h2 e35] at hs1); refine Kloop.nextP (k + 1) ?_ ?_ ⟨same (by rw [hs1]; rfl), same (by rw [hs1]; rfl), same (by rw [← w64_nat (k := k) (by omega)]; rfl), trivial⟩ ⟨same rfl, same rfl, same rfl, trivial⟩ (.cons (s := 1051) rfl (CLe.refl _ _) rfl (.cons (s := 1052) rfl (CLe.refl _ _) rfl (.cons (s := 1053) rfl (CLe.refl _ _) rfl (.cons (s := 1054) rfl (CLe.refl _ _) rfl (.cons (s := 1060) rfl (CLe.refl _ _) rfl (.cons (s := 2067) rfl (CLe.refl _ _) rfl .nil)))))); (· ((try dsimp only) <;> omega)); (· ((try dsimp only) <;> omega))) | ((have hs1 := atS_step hk2; rw [as1_more h1 h2 e35] at hs1); refine Kloop.nextP (k + 1) ?_ ?_ ⟨same (by rw [hs1]; rfl), same (by rw [hs1]; rfl), same (by rw [← w64_nat (k := k) (by omega)]; rfl), trivial⟩ ⟨same rfl, same rfl, same rfl, trivial⟩ (.cons (s := 1051) rfl (CLe.refl _ _) rfl (.cons (s := 1052) rfl (CLe.refl _ _) rfl (.cons (s := 1053) rfl (CLe.refl _ _) rfl (.cons (s := 1054) rfl (CLe.refl _ _) rfl (.cons (s := 1060) rfl (CLe.refl _ _) rfl (.cons (s := 2067) rfl (CLe.refl _ _) rfl .nil)))))); (· ((try dsimp only) <;> omega)); (· ((try dsimp only) <;> omega)))
  · skip
    (first | have e12 := of_decide_eq_true c12 | have e12 := of_decide_eq_false c12 | have e12 := ndec_t c12 | have e12 := ndec_f c12 | skip)
    (repeat refine J.seq ?_)
    refine J.exit ?_
    (repeat refine J.seq ?_)
    refine J.region ?_
    refine WL.yes (by rfl) (Ex.q (q_move (by rfl)) (by rfl) ?_)
    refine WL.yes (by rfl) (Ex.q (q_move (by rfl)) (by rfl) ?_)
    refine WL.yes (by rfl) (Ex.q (q_assign (by rfl)) (by rfl) ?_)
    refine WL.yes (by rfl) (Ex.q (q_assign (by rfl)) (by rfl) ?_)
    refine WL.nil ?_
    (repeat refine J.seq ?_)
    refine J.ret ?_
    (repeat (with_reducible first | refine Kseq.ret ?_ | refine Kblock.ret ?_ | refine Kloop.ret ?_ | refine Kcut.ret ?_))
    have hkn : s.todo.take k = s.todo := take_all (by omega)
    rw [hkn]
    exact Kret.mk [(1060, .box fb 103 (fV mh mw mf .nilp)), (1051, tbl mh s.H), (1052, tbl mw s.W), (1053, mpc mf prE iV s.F), (1054, .vec none 39 52 0 0 (fun _ => opE default))] (.tmp (by rfl) (.tmp (by rfl) .nil)) (by rfl) trivial (HLe.sub (.cons (s := 1060) rfl (CLe.refl _ _) rfl (.cons (s := 1051) rfl (CLe.refl _ _) rfl (.cons (s := 1052) rfl (CLe.refl _ _) rfl (.cons (s := 1053) rfl (CLe.refl _ _) rfl (.non .nil)))))) ⟨rfl, by first | rfl | exact (FO_n hy).symm⟩

set_option maxHeartbeats 16000000 in
set_option maxRecDepth 100000 in
theorem fAt_p (fb mh mw mf wp : Nat) {s : FS} (hy : s.busy = true)(hs : FOk s) : Spec Try.prog 37 [.ptr 1060 fb 0] [(1060, .box fb 103 (fV mh mw mf (.ptr 1054 wp 0))), (1051, tbl mh s.H), (1052, tbl mw s.W), (1053, mpc mf prE iV s.F), (1054, .box wp 39 (opE s.wo))] (fun r H' => r = .tup2 (iV (s.at.getD 0)) (.bool s.at.isSome) ∧ H' = FO fb mh mw mf wp s) := by
  refine Spec.of_J Try.func37 rfl Try.ntmps37 Try.results37 rfl ?_
  intro A F hAF
  have htl := hs.todo_len
  (repeat refine J.seq ?_)
  refine J.region ?_
  refine WL.yes (by rfl) (Ex.q (q_assign (by rfl)) (by rfl) ?_)
  refine WL.yes (by rfl) (Ex.q (q_assign (by rfl)) (by rfl) ?_)
  refine WL.nil ?_
  (repeat refine J.seq ?_)
  refine J.region ?_
  refine WL.yes (by rfl) (Ex.q (q_move (by rfl)) (by rfl) ?_)
  refine WL.yes (by rfl) (Ex.callL (fTodo_p fb mh mw mf wp hy hs) (by rfl) (by rfl) (.cons rfl (.cons rfl (.cons rfl (.cons rfl (.cons rfl .nil))))) ?_)
  rintro _ _ ⟨a9, cap9, rfl, rfl⟩
  rw [FO_p hy]
  first | (refine WL.yes (by rfl) (Ex.q (q_len_slice (by rfl) (by rfl)) (by rfl) ?_)) | (refine WL.yes (by rfl) (Ex.q (q_len_string (by rfl)) (by rfl) ?_))
  refine WL.yes (by rfl) (Ex.q (q_move (by rfl)) (by rfl) ?_)
  refine WL.nil ?_
  (repeat refine J.seq ?_)
  refine J.block ?_
  (repeat refine J.seq ?_)
  refine J.loopP (fun x : Nat => x ≤ s.todo.length) (fun x => [(2, iV ((atL s.F (s.todo.take x)).getD 0)), (3, .bool (atL s.F (s.todo.take x)).isSome), (11, iV x)]) (fun x => []) (fun x => s.todo.length - x) (0) [(0, _), (9, _), (10, _)] [(1051, _), (1052, _), (1053, _), (1054, _), (1060, _), (2067, _)] ⟨same rfl, same rfl, same rfl, trivial⟩ ⟨same rfl, same rfl, same rfl, trivial⟩ (.cons (s := 1051) rfl (CLe.refl _ _) rfl (.cons (s := 1052) rfl (CLe.refl _ _) rfl (.cons (s := 1053) rfl (CLe.refl _ _) rfl (.cons (s := 1054) rfl (CLe.refl _ _) rfl (.cons (s := 1060) rfl (CLe.refl _ _) rfl (.cons (s := 2067) rfl (CLe.refl _ _) rfl .nil)))))) ?_ ?_
  · ((try dsimp only) <;> omega)
  rintro k hx
  (try dsimp only at hx)
  (repeat refine J.seq ?_)
  refine J.region ?_
  refine WL.yes (by rfl) (Ex.q (q_int (by rfl) (by rfl) (by rfl)) (by rfl) ?_)
  refine WL.nil ?_
  (repeat refine J.seq ?_)
  refine J.cond (by rfl) (fun c12 => ?_) (fun c12 => ?_)
  · skip
    (first | have e12 := of_decide_eq_true c12 | have e12 := of_decide_eq_false c12 | have e12 := ndec_t c12 | have e12 := ndec_f c12 | skip)
    (repeat refine J.seq ?_)
    refine J.skip ?_
    (repeat refine J.seq ?_)
    refine J.block ?_
    (repeat refine J.seq ?_)
    have hk2 : k < s.todo.length := by omega
    have hk3 : (lat s.todo k).e.ok := hs.todo_ok _ (lat_mem hk2)
    refine J.vecsome (t := 2067) rfl (by omega) ?_
    intro b9 hb9
    subst hb9
    refine J.region ?_
    first | (refine WL.yes (by rfl) (Ex.q (q_indexAddr_ros (by rfl) (by rfl) (by intro _; rfl) ?_ ?_) (by rfl) ?_); (· (omega)); (· (omega))) | (refine WL.yes (by rfl) (Ex.q (q_indexAddr_sl (by rfl) (by rfl) ?_ ?_) (by rfl) ?_); (· (omega)); (· (omega))) | (refine WL.yes (by rfl) (Ex.q (q_indexAddr_arr (by rfl) (by rfl) ?_ ?_) (by rfl) ?_); (· (omega)); (· (omega)))
    first | (refine WL.yes (by rfl) (Ex.h (h_load (by rfl) (by rfl) (by rfl)) (by rfl) ?_)) | (refine WL.yes (by rfl) (Ex.q (q_load (by rfl) (by rfl) (by rfl)) (by rfl) ?_)) | (refine WL.yes (by rfl) (Ex.q (q_load_rop (by rfl) (by rfl)) (by rfl) ?_)) | (refine WL.yes (by rfl) (Ex.h (h_load_pel (by rfl) (by rfl) ?_ (by rfl)) (by rfl) ?_); (· (omega))) | (refine WL.yes (by rfl) (Ex.q (q_load_pel (by rfl) (by rfl) ?_ (by rfl)) (by rfl) ?_); (· (omega)))
    refine WL.set 14 (opE (lat s.todo k)) (by rfl) (by rw [Nat.zero_add, Int.toNat_natCast]) ?_
    refine WL.yes (by rfl) (Ex.alloc (by rfl) ?_)
    intro b5
    first | (refine WL.yes (by rfl) (Ex.store (by rfl) (by rfl) (by rfl) (by rfl) (by rfl) (by rfl) ?_)) | (refine WL.yes (by rfl) (Ex.store_pel (by rfl) (by rfl) (by rfl) (by rfl) (by rfl) ?_ (by rfl) ?_); (· (omega)))
    refine WL.nil ?_
    (repeat refine J.seq ?_)
    refine J.draw [5, 1051, 1052, 1053, 1054, 1060, 2067] 9999 [(0, true), (1, true), (2, true), (3, true), (4, true), (5, true), (6, true), (7, true), (8, true), (9, true), (10, true), (11, true), (12, true)] (by kernel_rfl) rfl (by kernel_rfl) ?_
    intro F1 hF1
    refine WS.take rfl (by rfl) (by rfl) (q_move (by rfl)) ?_
    refine WS.take rfl (by rfl) (by rfl) (q_nilCheck (by rfl) (by rfl)) ?_
    first | (refine WS.take rfl (by rfl) (by rfl) (q_fieldAddr (by rfl)) ?_) | (refine WS.take rfl (by rfl) (by rfl) (q_fieldAddr_rop (by rfl) (by rfl)) ?_) | (refine WS.take rfl (by rfl) (by rfl) (q_fieldAddr_pel (by rfl)) ?_)
    first | (refine WS.take rfl (by rfl) (by rfl) (q_load (by rfl) (by rfl) (by rfl)) ?_) | (refine WS.take rfl (by rfl) (by rfl) (q_load_rop (by rfl) (by rfl)) ?_) | (refine WS.take rfl (by rfl) (by rfl) (q_load_pel (by rfl) (by rfl) ?_ (by rfl)) ?_; (· (omega)))
    first | (refine WS.take rfl (by rfl) (by rfl) (q_fieldAddr (by rfl)) ?_) | (refine WS.take rfl (by rfl) (by rfl) (q_fieldAddr_rop (by rfl) (by rfl)) ?_) | (refine WS.take rfl (by rfl) (by rfl) (q_fieldAddr_pel (by rfl)) ?_)
    first | (refine WS.take rfl (by rfl) (by rfl) (q_fieldAddr (by rfl)) ?_) | (refine WS.take rfl (by rfl) (by rfl) (q_fieldAddr_rop (by rfl) (by rfl)) ?_) | (refine WS.take rfl (by rfl) (by rfl) (q_fieldAddr_pel (by rfl)) ?_)
    first | (refine WS.take rfl (by rfl) (by rfl) (q_load (by rfl) (by rfl) (by rfl)) ?_) | (refine WS.take rfl (by rfl) (by rfl) (q_load_rop (by rfl) (by rfl)) ?_) | (refine WS.take rfl (by rfl) (by rfl) (q_load_pel (by rfl) (by rfl) ?_ (by rfl)) ?_; (· (omega)))
    refine WS.take rfl (by rfl) (by rfl) (q_lookup_ok (e := prE) (f := iV) rfl (by rfl) (by rfl) (by rfl) hs.f hk3.1) ?_
    refine WS.take rfl (by rfl) (by rfl) (q_move (by rfl)) ?_
    first | (refine WS.take rfl (by rfl) (by rfl) (q_extract2 (by rfl) (by rfl)) ?_) | (refine WS.take rfl (by rfl) (by rfl) (q_extract3 (by rfl) (by rfl)) ?_)
    first | (refine WS.take rfl (by rfl) (by rfl) (q_extract2 (by rfl) (by rfl)) ?_) | (refine WS.take rfl (by rfl) (by rfl) (q_extract3 (by rfl) (by rfl)) ?_)
    refine WS.take rfl (by rfl) (by rfl) (q_assign (by rfl)) ?_
    refine WS.take rfl (by rfl) (by rfl) (q_assign (by rfl)) ?_
    refine WS.nil ?_
    (repeat refine J.seq ?_)
    refine J.region ?_
    refine WL.yes (by rfl) (Ex.q (q_move (by rfl)) (by rfl) ?_)
    refine WL.yes (by rfl) (Ex.q (q_move (by rfl)) (by rfl) ?_)
    refine WL.split 27 (by rfl) (fun g27 => ?_) (fun g27 => ?_)
    · skip
      (first | have eg27 := of_decide_eq_true g27 | have eg27 := of_decide_eq_false g27 | have eg27 := ndec_t g27 | have eg27 := ndec_f g27 | skip)
      have h1 : (alook (lat s.todo k).e.p s.F).isSome = true := g27
      refine WL.yes (by rfl) (Ex.q (q_move (by rfl)) (by rfl) ?_)
      refine WL.yes (by rfl) (Ex.q (q_not (by rfl)) (by rfl) ?_)
      refine WL.yes (by rfl) (Ex.q (q_move (by rfl)) (by rfl) ?_)
      refine WL.split 30 (by rfl) (fun g30 => ?_) (fun g30 => ?_)
      · skip
        (first | have eg30 := of_decide_eq_true g30 | have eg30 := of_decide_eq_false g30 | have eg30 := ndec_t g30 | have eg30 := ndec_f g30 | skip)
        have h2 : (atL s.F (s.todo.take k)).isSome = false := by simpa using g30
        refine WL.no (by rfl) (by rfl) ?_
        refine WL.no (by rfl) (by rfl) ?_
        refine WL.no (by rfl) (by rfl) ?_
        refine WL.yes (by rfl) (Ex.q (q_pick_t (by rfl) (by rfl)) (by rfl) ?_)
        refine WL.yes (by rfl) (Ex.q (q_pick_t (by rfl) (by rfl)) (by rfl) ?_)
        refine WL.nil ?_
        (repeat refine J.seq ?_)
        refine J.condT (by rfl) ?_
        (repeat refine J.seq ?_)
        refine J.region ?_
        refine WL.yes (by rfl) (Ex.q (q_move (by rfl)) (by rfl) ?_)
        refine WL.yes (by rfl) (Ex.q (q_assign (by rfl)) (by rfl) ?_)
        refine WL.yes (by rfl) (Ex.q (q_assign (by rfl)) (by rfl) ?_)
        refine WL.nil ?_
        (repeat refine J.seq ?_)
        refine J.region ?_
        refine WL.yes (by rfl) (Ex.q (q_int (by rfl) (by rfl) (by rfl)) (by rfl) ?_)
        refine WL.yes (by rfl) (Ex.q (q_move (by rfl)) (by rfl) ?_)
        refine WL.nil ?_
        first | ((have hs1 := atS_step hk2; rw [as1_no h1] at hs1); refine Kloop.nextP (k + 1) ?_ ?_ ⟨same (by rw [hs1]; rfl), same (by rw [hs1]; rfl), same (by rw [← w64_nat (k := k) (by omega)]; rfl), trivial⟩ ⟨same rfl, same rfl, same rfl, trivial⟩ (.cons (s := 1051) rfl (CLe.refl _ _) rfl (.cons (s := 1052) rfl (CLe.refl _ _) rfl (.cons (s := 1053) rfl (CLe.refl _ _) rfl (.cons (s := 1054) rfl (CLe.refl _ _) rfl (.cons (s := 1060) rfl (CLe.refl _ _) rfl (.cons (s := 2067) rfl (CLe.refl _ _) rfl .nil)))))); (· ((try dsimp only) <;> omega)); (· ((try dsimp only) <;> omega))) | ((have hs1 := atS_step hk2; rw [as1_first h1 h2] at hs1); refine Kloop.nextP (k + 1) ?_ ?_ ⟨same (by rw [hs1]; rfl), same (by rw [hs1]; rfl), same (by rw [← w64_nat (k := k) (by omega)]; rfl), trivial⟩ ⟨same rfl, same rfl, same rfl, trivial⟩ (.cons (s := 1051) rfl (CLe.refl _ _) rfl (.cons (s := 1052) rfl (CLe.refl _ _) rfl (.cons (s := 1053) rfl (CLe.refl _ _) rfl (.cons (s := 1054) rfl (CLe.refl _ _) rfl (.cons (s := 1060) rfl (CLe.refl _ _) rfl (.cons (s := 2067) rfl (CLe.refl _ _) rfl .nil)))))); (· ((try dsimp only) <;> omega)); (· ((try dsimp only) <;> omega))) | ((have hs1 := atS_step hk2; rw [as1_less h1 h2 e35] at hs1); refine Kloop.nextP (k + 1) ?_ ?_ ⟨same (by rw [hs1]; rfl), same (by rw [hs1]; rfl), same (by rw [← w64_nat (k := k) (by omega)]; rfl), trivial⟩ ⟨same rfl, same rfl, same rfl, trivial⟩ (.cons (s := 1051) rfl (CLe.refl _ _) rfl (.cons (s := 1052) rfl (CLe.refl _ _) rfl (.cons (s := 1053) rfl (CLe.refl _ _) rfl (.cons (s := 1054) rfl (CLe.refl _ _) rfl (.cons (s := 1060) rfl (CLe.refl _ _) rfl (.cons (s := 2067) rfl (CLe.refl _ _) rfl .nil)))))); (· ((try dsimp only) <;> omega)); (· ((try dsimp only) <;> omega))) | ((have hs1 := atS_step hk2; rw [as1_more h1 h2 e35] at hs1); refine Kloop.nextP (k + 1) ?_ ?_ ⟨same (by rw [hs1]; rfl), same (by rw [hs1]; rfl), same (by rw [← w64_nat (k := k) (by omega)]; rfl), trivial⟩ ⟨same rfl, same rfl, same rfl, trivial⟩ (.cons (s := 1051) rfl (CLe.refl _ _) rfl (.cons (s := 1052) rfl (CLe.refl _ _) rfl (.cons (s := 1053) rfl (CLe.refl _ _) rfl (.cons (s := 1054) rfl (CLe.refl _ _) rfl (.cons (s := 1060) rfl (CLe.refl _ _) rfl (.cons (s := 2067) rfl (CLe.refl _ _) rfl .nil)))))); (· ((try dsimp only) <;> omega)); (· ((try dsimp only) <;> omega)))
      · skip
        (first | have eg30 := of_decide_eq_true g30 | have eg30 := of_decide_eq_false g30 | have eg30 := ndec_t g30 | have eg30 := ndec_f g30 | skip)
        have h2 : (atL s.F (s.todo.take k)).isSome = true := by simpa using g30
        refine WL.yes (by rfl) (Ex.q (q_move (by rfl)) (by rfl) ?_)
        refine WL.yes (by rfl) (Ex.q (q_move (by rfl)) (by rfl) ?_)
        refine WL.yes (by rfl) (Ex.q (q_int (by rfl) (by rfl) (by rfl)) (by rfl) ?_)
        refine WL.yes (by rfl) (Ex.q (q_pick_f (by rfl) (by rfl)) (by rfl) ?_)
        refine WL.yes (by rfl) (Ex.q (q_pick_t (by rfl) (by rfl)) (by rfl) ?_)
        refine WL.nil ?_
        (repeat refine J.seq ?_)
        refine J.cond (by rfl) (fun c35 => ?_) (fun c35 => ?_)
        · skip
          (first | have e35 := of_decide_eq_true c35 | have e35 := of_decide_eq_false c35 | have e35 := ndec_t c35 | have e35 := ndec_f c35 | skip)
          (repeat refine J.seq ?_)
          refine J.region ?_
          refine WL.yes (by rfl) (Ex.q (q_move (by rfl)) (by rfl) ?_)
          refine WL.yes (by rfl) (Ex.q (q_assign (by rfl)) (by rfl) ?_)
          refine WL.yes (by rfl) (Ex.q (q_assign (by rfl)) (by rfl) ?_)
          refine WL.nil ?_
          (repeat refine J.seq ?_)
          refine J.region ?_
          refine WL.yes (by rfl) (Ex.q (q_int (by rfl) (by rfl) (by rfl)) (by rfl) ?_)
          refine WL.yes (by rfl) (Ex.q (q_move (by rfl)) (by rfl) ?_)
          refine WL.nil ?_
          first | ((have hs1 := atS_step hk2; rw [as1_no h1] at hs1); refine Kloop.nextP (k + 1) ?_ ?_ ⟨same (by rw [hs1]; rfl), same (by rw [hs1]; rfl), same (by rw [← w64_nat (k := k) (by omega)]; rfl), trivial⟩ ⟨same rfl, same rfl, same rfl, trivial⟩ (.cons (s := 1051) rfl (CLe.refl _ _) rfl (.cons (s := 1052) rfl (CLe.refl _ _) rfl (.cons (s := 1053) rfl (CLe.refl _ _) rfl (.cons (s := 1054) rfl (CLe.refl _ _) rfl (.cons (s := 1060) rfl (CLe.refl _ _) rfl (.cons (s := 2067) rfl (CLe.refl _ _) rfl .nil)))))); (· ((try dsimp only) <;> omega)); (· ((try dsimp only) <;> omega))) | ((have hs1 := atS_step hk2; rw [as1_first h1 h2] at hs1); refine Kloop.nextP (k + 1) ?_ ?_ ⟨same (by rw [hs1]; rfl), same (by rw [hs1]; rfl), same (by rw [← w64_nat (k := k) (by omega)]; rfl), trivial⟩ ⟨same rfl, same rfl, same rfl, trivial⟩ (.cons (s := 1051) rfl (CLe.refl _ _) rfl (.cons (s := 1052) rfl (CLe.refl _ _) rfl (.cons (s := 1053) rfl (CLe.refl _ _) rfl (.cons (s := 1054) rfl (CLe.refl _ _) rfl (.cons (s := 1060) rfl (CLe.refl _ _) rfl (.cons (s := 2067) rfl (CLe.refl _ _) rfl .nil)))))); (· ((try dsimp only) <;> omega)); (· ((try dsimp only) <;> omega))) | ((have hs1 := atS_step hk2; rw [as1_less h1 h2 e35] at hs1); refine Kloop.nextP (k + 1) ?_ ?_ ⟨same (by rw [hs1]; rfl), same (by rw [hs1]; rfl), same (by rw [← w64_nat (k := k) (by omega)]; rfl), trivial⟩ ⟨same rfl, same rfl, same rfl, trivial⟩ (.cons (s := 1051) rfl (CLe.refl _ _) rfl (.cons (s := 1052) rfl (CLe.refl _ _) rfl (.cons (s := 1053) rfl (CLe.refl _ _) rfl (.cons (s := 1054) rfl (CLe.refl _ _) rfl (.cons (s := 1060) rfl (CLe.refl _ _) rfl (.cons (s := 2067) rfl (CLe.refl _ _) rfl .nil)))))); (· ((try dsimp only) <;> omega)); (· ((try dsimp only) <;> omega))) | ((have hs1 := atS_step hk2; rw [as1_more h1 h2 e35] at hs1); refine Kloop.nextP (k + 1) ?_ ?_ ⟨same (by rw [hs1]; rfl), same (by rw [hs1]; rfl), same (by rw [← w64_nat (k := k) (by omega)]; rfl), trivial⟩ ⟨same rfl, same rfl, same rfl, trivial⟩ (.cons (s := 1051) rfl (CLe.refl _ _) rfl (.cons (s := 1052) rfl (CLe.refl _ _) rfl (.cons (s := 1053) rfl (CLe.refl _ _) rfl (.cons (s := 1054) rfl (CLe.refl _ _) rfl (.cons (s := 1060) rfl (CLe.refl _ _) rfl (.cons (s := 2067) rfl (CLe.refl _ _) rfl .nil)))))); (· ((try dsimp only) <;> omega)); (· ((try dsimp only) <;> omega)))
        · skip
          (first | have e35 := of_decide_eq_true c35 | have e35 := of_decide_eq_false c35 | have e35 := ndec_t c35 | have e35 := ndec_f c35 | skip)
          (repeat refine J.seq ?_)
          refine J.skip ?_
          (repeat refine J.seq ?_)
          refine J.region ?_
          refine WL.yes (by rfl) (Ex.q (q_int (by rfl) (by rfl) (by rfl)) (by rfl) ?_)
          refine WL.yes (by rfl) (Ex.q (q_move (by rfl)) (by rfl) ?_)
          refine WL.nil ?_
          first | ((have hs1 := atS_step hk2; rw [as1_no h1] at hs1); refine Kloop.nextP (k + 1) ?_ ?_ ⟨same (by rw [hs1]; rfl), same (by rw [hs1]; rfl), same (by rw [← w64_nat (k := k) (by omega)]; rfl), trivial⟩ ⟨same rfl, same rfl, same rfl, trivial⟩ (.cons (s := 1051) rfl (CLe.refl _ _) rfl (.cons (s := 1052) rfl (CLe.refl _ _) rfl (.cons (s := 1053) rfl (CLe.refl _ _) rfl (.cons (s := 1054) rfl (CLe.refl _ _) rfl (.cons (s := 1060) rfl (CLe.refl _ _) rfl (.cons (s := 2067) rfl (CLe.refl _ _) rfl .nil)))))); (· ((try dsimp only) <;> omega)); (· ((try dsimp only) <;> omega))) | ((have hs1 := atS_step hk2; rw [as1_first h1 h2] at hs1); refine Kloop.nextP (k + 1) ?_ ?_ ⟨same (by rw [hs1]; rfl), same (by rw [hs1]; rfl), same (by rw [← w64_nat (k := k) (by omega)]; rfl), trivial⟩ ⟨same rfl, same rfl, same rfl, trivial⟩ (.cons (s := 1051) rfl (CLe.refl _ _) rfl (.cons (s := 1052) rfl (CLe.refl _ _) rfl (.cons (s := 1053) rfl (CLe.refl _ _) rfl (.cons (s := 1054) rfl (CLe.refl _ _) rfl (.cons (s := 1060) rfl (CLe.refl _ _) rfl (.cons (s := 2067) rfl (CLe.refl _ _) rfl .nil)))))); (· ((try dsimp only) <;> omega)); (· ((try dsimp only) <;> omega))) | ((have hs1 := atS_step hk2; rw [as1_less h1 h2 e35] at hs1); refine Kloop.nextP (k + 1) ?_ ?_ ⟨same (by rw [hs1]; rfl), same (by rw [hs1]; rfl), same (by rw [← w64_nat (k := k) (by omega)]; rfl), trivial⟩ ⟨same rfl, same rfl, same rfl, trivial⟩ (.cons (s := 1051) rfl (CLe.refl _ _) rfl (.cons (s := 1052) rfl (CLe.refl _ _) rfl (.cons (s := 1053) rfl (CLe.refl _ _) rfl (.cons (s := 1054) rfl (CLe.refl _ _) rfl (.cons (s := 1060) rfl (CLe.refl _ _) rfl (.cons (s := 2067) rfl (CLe.refl _ _) rfl .nil)))))); (· ((try dsimp only) <;> omega)); (· ((try dsimp only) <;> omega))) | ((have hs1 := atS_step hk2; rw [as1_more h1 h2 e35] at hs1); refine Kloop.nextP (k + 1) ?_ ?_ ⟨same (by rw [hs1]; rfl), same (by rw [hs1]; rfl), same (by rw [← w64_nat (k := k) (by omega)]; rfl), trivial⟩ ⟨same rfl, same rfl, same rfl, trivial⟩ (.cons (s := 1051) rfl (CLe.refl _ _) rfl (.cons (s := 1052) rfl (CLe.refl _ _) rfl (.cons (s := 1053) rfl (CLe.refl _ _) rfl (.cons (s := 1054) rfl (CLe.refl _ _) rfl (.cons (s := 1060) rfl (CLe.refl _ _) rfl (.cons (s := 2067) rfl (CLe.refl _ _) rfl .nil)))))); (· ((try dsimp only) <;> omega)); (· ((try dsimp only) <;> omega)))
    · skip
      (first | have eg27 := of_decide_eq_true g27 | have eg27 := of_decide_eq_false g27 | have eg27 := ndec_t g27 | have eg27 := ndec_f g27 | skip)
      have h1 : (alook (lat s.todo k).e.p s.F).isSome = false := g27
      refine WL.no (by rfl) (by rfl) ?_
      refine WL.no (by rfl) (by rfl) ?_
      refine WL.no (by rfl) (by rfl) ?_
      refine WL.no (by rfl) (by rfl) ?_
      refine WL.no (by rfl) (by rfl) ?_
      refine WL.no (by rfl) (by rfl) ?_
      refine WL.no (by rfl) (by rfl) ?_
      refine WL.yes (by rfl) (Ex.q (q_pick_f (by rfl) (by rfl)) (by rfl) ?_)
      refine WL.nil ?_
      (repeat refine J.seq ?_)
      refine J.condF (by rfl) ?_
      (repeat refine J.seq ?_)
      refine J.skip ?_
      (repeat refine J.seq ?_)
      refine J.region ?_
      refine WL.yes (by rfl) (Ex.q (q_int (by rfl) (by rfl) (by rfl)) (by rfl) ?_)
      refine WL.yes (by rfl) (Ex.q (q_move (by rfl)) (by rfl) ?_)
      refine WL.nil ?_
      first | ((have hs1 := atS_step hk2; rw [as1_no h1] at hs1); refine Kloop.nextP (k + 1) ?_ ?_ ⟨same (by rw [hs1]; rfl), same (by rw [hs1]; rfl), same (by rw [← w64_nat (k := k) (by omega)]; rfl), trivial⟩ ⟨same rfl, same rfl, same rfl, trivial⟩ (.cons (s := 1051) rfl (CLe.refl _ _) rfl (.cons (s := 1052) rfl (CLe.refl _ _) rfl (.cons (s := 1053) rfl (CLe.refl _ _) rfl (.cons (s := 1054) rfl (CLe.refl _ _) rfl (.cons (s := 1060) rfl (CLe.refl _ _) rfl (.cons (s := 2067) rfl (CLe.refl _ _) rfl .nil)))))); (· ((try dsimp only) <;> omega)); (· ((try dsimp only) <;> omega))) | ((have hs1 := atS_step hk2; rw [as1_first h1 h2] at hs1); refine Kloop.nextP (k + 1) ?_ ?_ ⟨same (by rw [hs1]; rfl), same (by rw [hs1]; rfl), same (by rw [← w64_nat (k := k) (by omega)]; rfl), trivial⟩ ⟨same rfl, same rfl, same rfl, trivial⟩ (.cons (s := 1051) rfl (CLe.refl _ _) rfl (.cons (s := 1052) rfl (CLe.refl _ _) rfl (.cons (s := 1053) rfl (CLe.refl _ _) rfl (.cons (s := 1054) rfl (CLe.refl _ _) rfl (.cons (s := 1060) rfl (CLe.refl _ _) rfl (.cons (s := 2067) rfl (CLe.refl _ _) rfl .nil)))))); (· ((try dsimp only) <;> omega)); (· ((try dsimp only) <;> omega))) | ((have hs1 := atS_step hk2; rw [as1_less h1 h2 e35] at hs1); refine Kloop.nextP (k + 1) ?_ ?_ ⟨same (by rw [hs1]; rfl), same (by rw [hs1]; rfl), same (by rw [← w64_nat (k := k) (by omega)]; rfl), trivial⟩ ⟨same rfl, same rfl, same rfl, trivial⟩ (.cons (s := 1051) rfl (CLe.refl _ _) rfl (.cons (s := 1052) rfl (CLe.refl _ _) rfl (.cons (s := 1053) rfl (CLe.refl _ _) rfl (.cons (s := 1054) rfl (CLe.refl _ _) rfl (.cons (s := 1060) rfl (CLe.refl _ _) rfl (.cons (s := 2067) rfl (CLe.refl _ _) rfl .nil)))))); (· ((try dsimp only) <;> omega)); (· ((try dsimp only) <;> omega))) | ((have hs1 := atS_step hk2; rw [as1_more h1 h2 e35] at hs1); refine Kloop.nextP (k + 1) ?_ ?_ ⟨same (by rw [hs1]; rfl), same (by rw [hs1]; rfl), same (by rw [← w64_nat (k := k) (by omega)]; rfl), trivial⟩ ⟨same rfl, same rfl, same rfl, trivial⟩ (.cons (s := 1051) rfl (CLe.refl _ _) rfl (.cons (s := 1052) rfl (CLe.refl _ _) rfl (.cons (s := 1053) rfl (CLe.refl _ _) rfl (.cons (s := 1054) rfl (CLe.refl _ _) rfl (.cons (s := 1060) rfl (CLe.refl _ _) rfl (.cons (s := 2067) rfl (CLe.refl _ _) rfl .nil)))))); (· ((try dsimp only) <;> omega)); (· ((try dsimp only) <;> omega)))
  · skip
    (first | have e12 := of_decide_eq_true c12 | have e12 := of_decide_eq_false c12 | have e12 := ndec_t c12 | have e12 := ndec_f c12 | skip)
    (repeat refine J.seq ?_)
    refine J.exit ?_
    (repeat refine J.seq ?_)
    refine J.region ?_
    refine WL.yes (by rfl) (Ex.q (q_move (by rfl)) (by rfl) ?_)
    refine WL.yes (by rfl) (Ex.q (q_move (by rfl)) (by rfl) ?_)
    refine WL.yes (by rfl) (Ex.q (q_assign (by rfl)) (by rfl) ?_)
    refine WL.yes (by rfl) (Ex.q (q_assign (by rfl)) (by rfl) ?_)
    refine WL.nil ?_
    (repeat refine J.seq ?_)
    refine J.ret ?_
    (repeat (with_reducible first | refine Kseq.ret ?_ | refine Kblock.ret ?_ | refine Kloop.ret ?_ | refine Kcut.ret ?_))
    have hkn : s.todo.take k = s.todo := take_all (by omega)
    rw [hkn]
    exact Kret.mk [(1060, .box fb 103 (fV mh mw mf (.ptr 1054 wp 0))), (1051, tbl mh s.H), (1052, tbl mw s.W), (1053, mpc mf prE iV s.F), (1054, .box wp 39 (opE s.wo))] (.tmp (by rfl) (.tmp (by rfl) .nil)) (by rfl) trivial (HLe.sub (.cons (s := 1060) rfl (CLe.refl _ _) rfl (.cons (s := 1051) rfl (CLe.refl _ _) rfl (.cons (s := 1052) rfl (CLe.refl _ _) rfl (.cons (s := 1053) rfl (CLe.refl _ _) rfl (.cons (s := 1054) rfl (CLe.refl _ _) rfl .nil)))))) ⟨rfl, by first | rfl | exact (FO_p hy).symm⟩

theorem fAt_spec (fb mh mw mf wp : Nat) {s : FS}(hs : FOk s) : Spec Try.prog 37 [.ptr 1060 fb 0] (FO fb mh mw mf wp s) (fun r H' => r = .tup2 (iV (s.at.getD 0)) (.bool s.at.isSome) ∧ H' = FO fb mh mw mf wp s) := by
  cases hy : s.busy with
  | false => exact (congrArg (fun z => Spec Try.prog 37 [.ptr 1060 fb 0] z (fun r H' => r = .tup2 (iV (s.at.getD 0)) (.bool s.at.isSome) ∧ H' = FO fb mh mw mf wp s)) (FO_n hy)).mpr (fAt_n fb mh mw mf wp hy hs)
  | true => exact (congrArg (fun z => Spec Try.prog 37 [.ptr 1060 fb 0] z (fun r H' => r = .tup2 (iV (s.at.getD 0)) (.bool s.at.isSome) ∧ H' = FO fb mh mw mf wp s)) (FO_p hy)).mpr (fAt_p fb mh mw mf wp hy hs)

theorem fWant_spec (fb mh mw mf wp : Nat) {s : FS}  {a : Option Addr} {cap : Nat} {l : List En}(ho : ∀ e ∈ l, e.ok) (hl : (expandL l).length ≤ 1000) (hl2 : l.length ≤ 1000) : Spec Try.prog 30 [.ptr 1060 fb 0, lros a cap enE l] (FO fb mh mw mf wp s) (fun r H' => ∃ mw', r = .tup0 ∧ H' = FO fb mh mw' mf wp (s.want l)) := by
  cases hy : s.busy with
  | false => exact (congrArg (fun z => Spec Try.prog 30 [.ptr 1060 fb 0, lros a cap enE l] z (fun r H' => ∃ mw', r = .tup0 ∧ H' = FO fb mh mw' mf wp (s.want l))) (FO_n hy)).mpr (fWant_n fb mh mw mf wp hy ho hl hl2)
  | true => exact (congrArg (fun z => Spec Try.prog 30 [.ptr 1060 fb 0, lros a cap enE l] z (fun r H' => ∃ mw', r = .tup0 ∧ H' = FO fb mh mw' mf wp (s.want l))) (FO_p hy)).mpr (fWant_p fb mh mw mf wp hy ho hl hl2)

theorem fHas_spec (fb mh mw mf wp : Nat) {s : FS}(hs : FOk s) : Spec Try.prog 41 [.ptr 1060 fb 0] (FO fb mh mw mf wp s) (fun r H' => ∃ a cap, r = .sl 1104 a 51 0 cap s.H.length ∧ H' = FO fb mh mw mf wp s ++ [(1104, lvec a 37 51 cap enE s.H)]) := by
  cases hy : s.busy with
  | false => exact (congrArg (fun z => Spec Try.prog 41 [.ptr 1060 fb 0] z (fun r H' => ∃ a cap, r = .sl 1104 a 51 0 cap s.H.length ∧ H' = FO fb mh mw mf wp s ++ [(1104, lvec a 37 51 cap enE s.H)])) (FO_n hy)).mpr (fHas_n fb mh mw mf wp hy hs)
  | true => exact (congrArg (fun z => Spec Try.prog 41 [.ptr 1060 fb 0] z (fun r H' => ∃ a cap, r = .sl 1104 a 51 0 cap s.H.length ∧ H' = FO fb mh mw mf wp s ++ [(1104, lvec a 37 51 cap enE s.H)])) (FO_p hy)).mpr (fHas_p fb mh mw mf wp hy hs)

theorem fWanted_spec (fb mh mw mf wp : Nat) {s : FS}(hs : FOk s) : Spec Try.prog 42 [.ptr 1060 fb 0] (FO fb mh mw mf wp s) (fun r H' => ∃ a cap, r = .sl 1104 a 51 0 cap s.W.length ∧ H' = FO fb mh mw mf wp s ++ [(1104, lvec a 37 51 cap enE s.W)]) := by
  cases hy : s.busy with
  | false => exact (congrArg (fun z => Spec Try.prog 42 [.ptr 1060 fb 0] z (fun r H' => ∃ a cap, r = .sl 1104 a 51 0 cap s.W.length ∧ H' = FO fb mh mw mf wp s ++ [(1104, lvec a 37 51 cap enE s.W)])) (FO_n hy)).mpr (fWanted_n fb mh mw mf wp hy hs)
  | true => exact (congrArg (fun z => Spec Try.prog 42 [.ptr 1060 fb 0] z (fun r H' => ∃ a cap, r = .sl 1104 a 51 0 cap s.W.length ∧ H' = FO fb mh mw mf wp s ++ [(1104, lvec a 37 51 cap enE s.W)])) (FO_p hy)).mpr (fWanted_p fb mh mw mf wp hy hs)

set_option maxHeartbeats 16000000 in
set_option maxRecDepth 100000 in
theorem fNextNil_spec {now : Int} : Spec Try.prog 32 [.nilp, iV now] [] (fun r H' => r = .tup2 (opE default) (.bool false) ∧ H' = []) := by
  refine Spec.of_J Try.func32 rfl Try.ntmps32 Try.results32 rfl ?_
  intro A F hAF
  (repeat refine J.seq ?_)
  refine J.region ?_
  refine WL.yes (by rfl) (Ex.alloc (by rfl) ?_)
  intro b4
  refine WL.yes (by rfl) (Ex.q (q_assign (by rfl)) (by rfl) ?_)
  refine WL.nil ?_
  (repeat refine J.seq ?_)
  refine J.region ?_
  refine WL.yes (by rfl) (Ex.q (q_move (by rfl)) (by rfl) ?_)
  refine WL.yes (by rfl) (Ex.q (q_eqnil (by rfl) (by rfl) (by rfl)) (by rfl) ?_)
  refine WL.yes (by rfl) (Ex.q (q_move (by rfl)) (by rfl) ?_)
  refine WL.no (by rfl) (by rfl) ?_
  refine WL.no (by rfl) (by rfl) ?_
  refine WL.no (by rfl) (by rfl) ?_
  refine WL.no (by rfl) (by rfl) ?_
  refine WL.no (by rfl) (by rfl) ?_
  refine WL.yes (by rfl) (Ex.q (q_pick_t (by rfl) (by rfl)) (by rfl) ?_)
  refine WL.nil ?_
  (repeat refine J.seq ?_)
  refine J.condT (by rfl) ?_
  (repeat refine J.seq ?_)
  refine J.region ?_
  refine WL.yes (by rfl) (Ex.q (q_build (parts := []) (by rfl) (by rfl)) (by rfl) ?_)
  first | (refine WL.yes (by rfl) (Ex.store (by rfl) (by rfl) (by rfl) (by rfl) (by rfl) (by rfl) ?_)) | (refine WL.yes (by rfl) (Ex.store_pel (by rfl) (by rfl) (by rfl) (by rfl) (by rfl) ?_ (by rfl) ?_); (· (omega)))
  refine WL.yes (by rfl) (Ex.q (q_assign (by rfl)) (by rfl) ?_)
  refine WL.nil ?_
  (repeat refine J.seq ?_)
  refine J.ret ?_
  (repeat (with_reducible first | refine Kseq.ret ?_ | refine Kblock.ret ?_ | refine Kloop.ret ?_ | refine Kcut.ret ?_))
  refine Kret.mk [] (.cell inferInstance (by rfl) (by rfl) (by rfl) (.tmp (by rfl) (.nil))) (by rfl) trivial (HLe.nil _ _) ?_
  exact ⟨rfl, rfl⟩

set_option maxHeartbeats 16000000 in
set_option maxRecDepth 100000 in
theorem fReplyNil_spec {now : Int} {ok : Bool} : Spec Try.prog 35 [.nilp, iV now, .bool ok] [] (fun r H' => r = iV 7 ∧ H' = []) := by
  refine Spec.of_J Try.func35 rfl Try.ntmps35 Try.results35 rfl ?_
  intro A F hAF
  (repeat refine J.seq ?_)
  refine J.region ?_
  refine WL.yes (by rfl) (Ex.q (q_assign (by rfl)) (by rfl) ?_)
  refine WL.nil ?_
  (repeat refine J.seq ?_)
  refine J.region ?_
  refine WL.yes (by rfl) (Ex.q (q_move (by rfl)) (by rfl) ?_)
  refine WL.yes (by rfl) (Ex.q (q_eqnil (by rfl) (by rfl) (by rfl)) (by rfl) ?_)
  refine WL.yes (by rfl) (Ex.q (q_move (by rfl)) (by rfl) ?_)
  refine WL.no (by rfl) (by rfl) ?_
  refine WL.no (by rfl) (by rfl) ?_
  refine WL.no (by rfl) (by rfl) ?_
  refine WL.no (by rfl) (by rfl) ?_
  refine WL.no (by rfl) (by rfl) ?_
  refine WL.yes (by rfl) (Ex.q (q_pick_t (by rfl) (by rfl)) (by rfl) ?_)
  refine WL.nil ?_
  (repeat refine J.seq ?_)
  refine J.condT (by rfl) ?_
  (repeat refine J.seq ?_)
  refine J.region ?_
  refine WL.yes (by rfl) (Ex.q (q_assign (by rfl)) (by rfl) ?_)
  refine WL.nil ?_
  (repeat refine J.seq ?_)
  refine J.ret ?_
  (repeat (with_reducible first | refine Kseq.ret ?_ | refine Kblock.ret ?_ | refine Kloop.ret ?_ | refine Kcut.ret ?_))
  refine Kret.mk [] (.tmp (by rfl) (.nil)) (by rfl) trivial (HLe.nil _ _) ?_
  exact ⟨rfl, rfl⟩

set_option maxHeartbeats 16000000 in
set_option maxRecDepth 100000 in
theorem fDrainedNil_spec  : Spec Try.prog 39 [.nilp] [] (fun r H' => r = .bool true ∧ H' = []) := by
  refine Spec.of_J Try.func39 rfl Try.ntmps39 Try.results39 rfl ?_
  intro A F hAF
  (repeat refine J.seq ?_)
  refine J.region ?_
  refine WL.yes (by rfl) (Ex.q (q_assign (by rfl)) (by rfl) ?_)
  refine WL.nil ?_
  (repeat refine J.seq ?_)
  refine J.region ?_
  refine WL.yes (by rfl) (Ex.q (q_move (by rfl)) (by rfl) ?_)
  refine WL.yes (by rfl) (Ex.q (q_eqnil (by rfl) (by rfl) (by rfl)) (by rfl) ?_)
  refine WL.yes (by rfl) (Ex.q (q_move (by rfl)) (by rfl) ?_)
  refine WL.no (by rfl) (by rfl) ?_
  refine WL.no (by rfl) (by rfl) ?_
  refine WL.no (by rfl) (by rfl) ?_
  refine WL.no (by rfl) (by rfl) ?_
  refine WL.no (by rfl) (by rfl) ?_
  refine WL.no (by rfl) (by rfl) ?_
  refine WL.no (by rfl) (by rfl) ?_
  refine WL.no (by rfl) (by rfl) ?_
  refine WL.no (by rfl) (by rfl) ?_
  refine WL.no (by rfl) (by rfl) ?_
  refine WL.no (by rfl) (by rfl) ?_
  refine WL.yes (by rfl) (Ex.q (q_pick_t (by rfl) (by rfl)) (by rfl) ?_)
  refine WL.yes (by rfl) (Ex.q (q_assign (by rfl)) (by rfl) ?_)
  refine WL.nil ?_
  (repeat refine J.seq ?_)
  refine J.ret ?_
  (repeat (with_reducible first | refine Kseq.ret ?_ | refine Kblock.ret ?_ | refine Kloop.ret ?_ | refine Kcut.ret ?_))
  refine Kret.mk [] (.tmp (by rfl) (.nil)) (by rfl) trivial (HLe.nil _ _) ?_
  exact ⟨rfl, rfl⟩

set_option maxHeartbeats 16000000 in
set_option maxRecDepth 100000 in
theorem fAtNil_spec  : Spec Try.prog 37 [.nilp] [] (fun r H' => r = .tup2 (iV 0) (.bool false) ∧ H' = []) := by
  refine Spec.of_J Try.func37 rfl Try.ntmps37 Try.results37 rfl ?_
  intro A F hAF
  (repeat refine J.seq ?_)
  refine J.region ?_
  refine WL.yes (by rfl) (Ex.q (q_assign (by rfl)) (by rfl) ?_)
  refine WL.yes (by rfl) (Ex.q (q_assign (by rfl)) (by rfl) ?_)
  refine WL.nil ?_
  (repeat refine J.seq ?_)
  refine J.region ?_
  refine WL.yes (by rfl) (Ex.q (q_move (by rfl)) (by rfl) ?_)
  refine WL.yes (by rfl) (Ex.callq (fTodoNil_spec) (by rfl) (by rfl) rfl (fun _ h => h) ?_)
  first | (refine WL.yes (by rfl) (Ex.q (q_len_slice (by rfl) (by rfl)) (by rfl) ?_)) | (refine WL.yes (by rfl) (Ex.q (q_len_string (by rfl)) (by rfl) ?_))
  refine WL.yes (by rfl) (Ex.q (q_move (by rfl)) (by rfl) ?_)
  refine WL.nil ?_
  (repeat refine J.seq ?_)
  refine J.block ?_
  (repeat refine J.seq ?_)
  refine J.loopP (fun x : Nat => x = 0) (fun x => [(2, iV 0), (3, .bool false), (11, iV (0 : Nat))]) (fun x => []) (fun x => 0) (0) [(0, _), (9, _), (10, _)] [] ⟨same rfl, same rfl, same rfl, trivial⟩ ⟨same rfl, same rfl, same rfl, trivial⟩ .nil ?_ ?_
  · (rfl)
  rintro k hx
  (try dsimp only at hx)
  subst hx
  (repeat refine J.seq ?_)
  refine J.region ?_
  refine WL.yes (by rfl) (Ex.q (q_int (by rfl) (by rfl) (by rfl)) (by rfl) ?_)
  refine WL.nil ?_
  (repeat refine J.seq ?_)
  refine J.cond (by rfl) (fun c12 => ?_) (fun c12 => ?_)
  · skip
    (exfalso; revert c12; simp)
  · skip
    (first | have e12 := of_decide_eq_true c12 | have e12 := of_decide_eq_false c12 | have e12 := ndec_t c12 | have e12 := ndec_f c12 | skip)
    (repeat refine J.seq ?_)
    refine J.exit ?_
    (repeat refine J.seq ?_)
    refine J.region ?_
    refine WL.yes (by rfl) (Ex.q (q_move (by rfl)) (by rfl) ?_)
    refine WL.yes (by rfl) (Ex.q (q_move (by rfl)) (by rfl) ?_)
    refine WL.yes (by rfl) (Ex.q (q_assign (by rfl)) (by rfl) ?_)
    refine WL.yes (by rfl) (Ex.q (q_assign (by rfl)) (by rfl) ?_)
    refine WL.nil ?_
    (repeat refine J.seq ?_)
    refine J.ret ?_
    (repeat (with_reducible first | refine Kseq.ret ?_ | refine Kblock.ret ?_ | refine Kloop.ret ?_ | refine Kcut.ret ?_))
    refine Kret.mk [] (.tmp (by rfl) (.tmp (by rfl) (.nil))) (by rfl) trivial (HLe.nil _ _) ?_
    exact ⟨rfl, rfl⟩

end Go.Vm
