/- The Fib: New, Want, Has, Wanted, todo: the walks. -/
import Derived.Test.YtimkkhefemnkpaaP1
namespace Go.Vm
open Go Go.Proofs

abbrev FO (fb mh mw mf wp : Nat) (s : FS) : List (Nat × Cell) := [(1060, .box fb 103 (fV mh mw mf (wayV wp s.busy))), (1051, tbl mh s.H), (1052, tbl mw s.W), (1053, mpc mf prE iV s.F), (1054, wayC wp s.busy s.wo)]
theorem FO_n {fb mh mw mf wp : Nat} {s : FS} (h : s.busy = false) : FO fb mh mw mf wp s = [(1060, .box fb 103 (fV mh mw mf .nilp)), (1051, tbl mh s.H), (1052, tbl mw s.W), (1053, mpc mf prE iV s.F), (1054, .vec none 39 52 0 0 (fun _ => opE default))] := by
  simp only [FO, h]; rfl
theorem FO_p {fb mh mw mf wp : Nat} {s : FS} (h : s.busy = true) : FO fb mh mw mf wp s = [(1060, .box fb 103 (fV mh mw mf (.ptr 1054 wp 0))), (1051, tbl mh s.H), (1052, tbl mw s.W), (1053, mpc mf prE iV s.F), (1054, .box wp 39 (opE s.wo))] := by
  simp only [FO, h]; rfl

theorem TOk.take {T : List En} (h : TOk T) (k : Nat) : TOk (T.take k) := ⟨fun e he => h.ok e (List.take_subset _ _ he), h.srt.sublist (List.take_sublist _ _)⟩
theorem tput_take {T : List En} (h : TOk T) {k : Nat} (hk : k < T.length) : tput (lat T k) (T.take k) = T.take (k + 1) := by
  have hl : (T.take k).length = k := by rw [List.length_take]; omega
  have e : ∀ j (hj : j < T.length), T[j] = lat T j := fun j hj => by simp [lat, List.getD, List.getElem?_eq_getElem hj]
  have hlt : ∀ j, j < k → cmpR (lat T j).p (lat T k).p < 0 := fun j hj => by
    have := List.pairwise_iff_getElem.1 h.srt j k (by omega) hk hj
    rwa [e j (by omega), e k hk] at this
  have hlat : ∀ j, j < k → lat (T.take k) j = lat T j := fun j hj => by simp [lat, List.getD, List.getElem?_take, hj]
  have := tput_ins (e := lat T k) (l := T.take k) (k := k) (h.take k) (by omega) (fun j hj => by
      rw [hl] at hj; rw [hlat j hj]; intro e2; have := hlt j hj; rw [e2, cmpR_self] at this; omega) (fun j h1 h2 => by omega) (by
      by_cases h0 : k = 0
      · exact .inl h0
      · right; rw [hlat (k - 1) (by omega)]; have := hlt (k - 1) (by omega); omega)
  rw [← this, take_succ_lat hk]
  simp [List.take_take]
theorem tget_ok {p : Pr} {T : List En} (h : TOk T) : ((alook p (tblKV T)).getD default).ok := by
  rw [alook_tlook]
  unfold tlook
  cases hf : T.find? (fun e => decide (e.p = p)) with
  | none => exact ⟨⟨⟨rfl, by decide⟩, ⟨rfl, by decide⟩⟩, ⟨rfl, by decide⟩⟩
  | some e => exact h.ok e (List.mem_of_find?_eq_some hf)
theorem hasW {p : Pr} {T : List En} {b : Bool} (h : (alook p (tblKV T)).isSome = b) : has p T = b := by rw [← isSome_has]; exact h

set_option maxHeartbeats 16000000 in
set_option maxRecDepth 100000 in
theorem fNew_spec  : Spec Try.prog 29 [] [] (fun r H' => ∃ fb mh mw mf wp, r = .ptr 1060 fb 0 ∧ H' = FO fb mh mw mf wp FS.zero) := by
  refine Spec.of_J Try.func29 rfl Try.ntmps29 Try.results29 rfl ?_
  intro A F hAF
  (repeat refine J.seq ?_)
  refine J.region ?_
  refine WL.yes (by rfl) (Ex.q (q_assign (by rfl)) (by rfl) ?_)
  refine WL.nil ?_
  (repeat refine J.seq ?_)
  refine J.region ?_
  refine WL.yes (by rfl) (Ex.makeMap prE enE (by rfl) ?_)
  intro b1
  refine WL.yes (by rfl) (Ex.makeMap prE enE (by rfl) ?_)
  intro b2
  refine WL.yes (by rfl) (Ex.makeMap prE iV (by rfl) ?_)
  intro b3
  refine WL.yes (by rfl) (Ex.q (q_build (parts := [(0, .tmp 1), (1, .tmp 2), (2, .tmp 3), (3, .const (.pointer none))]) (by rfl) (by rfl)) (by rfl) ?_)
  refine WL.yes (by rfl) (Ex.box (by rfl) (by rfl) (by rfl) ?_)
  intro b5
  refine WL.yes (by rfl) (Ex.q (q_assign (by rfl)) (by rfl) ?_)
  refine WL.nil ?_
  (repeat refine J.seq ?_)
  refine J.ret ?_
  (repeat (with_reducible first | refine Kseq.ret ?_ | refine Kblock.ret ?_ | refine Kloop.ret ?_ | refine Kcut.ret ?_))
  rw [show (fun (r : V) (H' : List (Nat × Cell)) => ∃ fb mh mw mf wp, r = .ptr 1060 fb 0 ∧ H' = FO fb mh mw mf wp FS.zero) = _ from rfl]
  exact Kret.mk2 (vs := [.ptr 5 b5 0]) (.ptr 1060 b5 0) (FO b5 b1 b2 b3 0 FS.zero) (.tmp (by rfl) .nil) (by rfl) trivial rfl (fun _ h => h) (HLe.sub (.cons (s := 5) rfl (CLe.cells rfl (fun _ => rfl) (fun _ => ⟨trivial, trivial, trivial, trivial⟩)) rfl (.cons (s := 1) rfl (CLe.refl _ _) rfl (.cons (s := 2) rfl (CLe.refl _ _) rfl (.cons (s := 3) rfl (CLe.refl _ _) rfl (.non .nil)))))) ⟨b5, b1, b2, b3, 0, rfl, rfl⟩

set_option maxHeartbeats 16000000 in
set_option maxRecDepth 100000 in
theorem fWant_n (fb mh mw mf wp : Nat) {s : FS}  {a : Option Addr} {cap : Nat} {l : List En} (hy : s.busy = false)(ho : ∀ e ∈ l, e.ok) (hl : (expandL l).length ≤ 1000) (hl2 : l.length ≤ 1000) : Spec Try.prog 30 [.ptr 1060 fb 0, lros a cap enE l] [(1060, .box fb 103 (fV mh mw mf .nilp)), (1051, tbl mh s.H), (1052, tbl mw s.W), (1053, mpc mf prE iV s.F), (1054, .vec none 39 52 0 0 (fun _ => opE default))] (fun r H' => ∃ mw', r = .tup0 ∧ H' = FO fb mh mw' mf wp (s.want l)) := by
  refine Spec.of_J Try.func30 rfl Try.ntmps30 Try.results30 rfl ?_
  intro A F hAF
  (repeat refine J.seq ?_)
  refine J.region ?_
  refine WL.yes (by rfl) (Ex.q (q_move (by rfl)) (by rfl) ?_)
  refine WL.yes (by rfl) (Ex.q (q_eqnil (by rfl) (by rfl) (by rfl)) (by rfl) ?_)
  refine WL.nil ?_
  (repeat refine J.seq ?_)
  refine J.cond (by rfl) (fun c7 => ?_) (fun c7 => ?_)
  · skip
    cases c7
  · skip
    (first | have e7 := of_decide_eq_true c7 | have e7 := of_decide_eq_false c7 | have e7 := ndec_t c7 | have e7 := ndec_f c7 | skip)
    (repeat refine J.seq ?_)
    refine J.skip ?_
    (repeat refine J.seq ?_)
    refine J.region ?_
    refine WL.yes (by rfl) (Ex.q (q_move (by rfl)) (by rfl) ?_)
    refine WL.yes (by rfl) (Ex.makeMap prE enE (by rfl) ?_)
    intro b9
    refine WL.yes (by rfl) (Ex.q (q_nilCheck (by rfl) (by rfl)) (by rfl) ?_)
    first | (refine WL.yes (by rfl) (Ex.q (q_fieldAddr (by rfl)) (by rfl) ?_)) | (refine WL.yes (by rfl) (Ex.q (q_fieldAddr_rop (by rfl) (by rfl)) (by rfl) ?_)) | (refine WL.yes (by rfl) (Ex.q (q_fieldAddr_pel (by rfl)) (by rfl) ?_))
    first | (refine WL.yes (by rfl) (Ex.store (by rfl) (by rfl) (by rfl) (by rfl) (by rfl) (by rfl) ?_)) | (refine WL.yes (by rfl) (Ex.store_pel (by rfl) (by rfl) (by rfl) (by rfl) (by rfl) ?_ (by rfl) ?_); (· (omega)))
    refine WL.nil ?_
    (repeat refine J.seq ?_)
    refine J.region ?_
    refine WL.yes (by rfl) (Ex.q (q_move (by rfl)) (by rfl) ?_)
    refine WL.yes (by rfl) (Ex.callL (expand_spec (l := l) ho hl2) (by rfl) (by rfl) .nil ?_)
    rintro _ _ ⟨a13, cap13, rfl, rfl⟩
    first | (refine WL.yes (by rfl) (Ex.q (q_len_slice (by rfl) (by rfl)) (by rfl) ?_)) | (refine WL.yes (by rfl) (Ex.q (q_len_string (by rfl)) (by rfl) ?_))
    refine WL.yes (by rfl) (Ex.q (q_move (by rfl)) (by rfl) ?_)
    refine WL.nil ?_
    (repeat refine J.seq ?_)
    refine J.block ?_
    (repeat refine J.seq ?_)
    refine J.loopP (fun x : Nat => x ≤ (expandL l).length) (fun x => [(15, iV x)]) (fun x => [(9, tbl b9 ((expandL l).take x))]) (fun x => (expandL l).length - x) (0) [(0, _), (13, _), (14, _)] [(1051, _), (1052, _), (1053, _), (1054, _), (1060, _), (2026, _)] ⟨same rfl, same rfl, same rfl, trivial⟩ ⟨same rfl, trivial⟩ (.cons (s := 9) rfl (CLe.refl _ _) rfl (.cons (s := 1051) rfl (CLe.refl _ _) rfl (.cons (s := 1052) rfl (CLe.refl _ _) rfl (.cons (s := 1053) rfl (CLe.refl _ _) rfl (.cons (s := 1054) rfl (CLe.refl _ _) rfl (.cons (s := 1060) rfl (CLe.refl _ _) rfl (.cons (s := 2026) rfl (CLe.refl _ _) rfl .nil))))))) ?_ ?_
    · ((try dsimp only) <;> omega)
    rintro k hx
    (try dsimp only at hx)
    (repeat refine J.seq ?_)
    refine J.region ?_
    refine WL.yes (by rfl) (Ex.q (q_int (by rfl) (by rfl) (by rfl)) (by rfl) ?_)
    refine WL.nil ?_
    (repeat refine J.seq ?_)
    refine J.cond (by rfl) (fun c16 => ?_) (fun c16 => ?_)
    · skip
      (first | have e16 := of_decide_eq_true c16 | have e16 := of_decide_eq_false c16 | have e16 := ndec_t c16 | have e16 := ndec_f c16 | skip)
      (repeat refine J.seq ?_)
      refine J.skip ?_
      (repeat refine J.seq ?_)
      refine J.block ?_
      (repeat refine J.seq ?_)
      have hk2 : k < (expandL l).length := by omega
      have hE : TOk (expandL l) := (exp_ok (clean_ok ho)).toTOk
      have hk3 : (lat (expandL l) k).ok := lat_ok hE.ok hk2
      refine J.vecsome (t := 2026) rfl (by omega) ?_
      intro b13 hb13
      subst hb13
      refine J.region ?_
      first | (refine WL.yes (by rfl) (Ex.q (q_indexAddr_ros (by rfl) (by rfl) (by intro _; rfl) ?_ ?_) (by rfl) ?_); (· (omega)); (· (omega))) | (refine WL.yes (by rfl) (Ex.q (q_indexAddr_sl (by rfl) (by rfl) ?_ ?_) (by rfl) ?_); (· (omega)); (· (omega))) | (refine WL.yes (by rfl) (Ex.q (q_indexAddr_arr (by rfl) (by rfl) ?_ ?_) (by rfl) ?_); (· (omega)); (· (omega)))
      first | (refine WL.yes (by rfl) (Ex.h (h_load (by rfl) (by rfl) (by rfl)) (by rfl) ?_)) | (refine WL.yes (by rfl) (Ex.q (q_load (by rfl) (by rfl) (by rfl)) (by rfl) ?_)) | (refine WL.yes (by rfl) (Ex.q (q_load_rop (by rfl) (by rfl)) (by rfl) ?_)) | (refine WL.yes (by rfl) (Ex.h (h_load_pel (by rfl) (by rfl) ?_ (by rfl)) (by rfl) ?_); (· (omega))) | (refine WL.yes (by rfl) (Ex.q (q_load_pel (by rfl) (by rfl) ?_ (by rfl)) (by rfl) ?_); (· (omega)))
      refine WL.set 18 (enE (lat (expandL l) k)) (by rfl) (by rw [Nat.zero_add, Int.toNat_natCast]) ?_
      refine WL.yes (by rfl) (Ex.alloc (by rfl) ?_)
      intro b5
      first | (refine WL.yes (by rfl) (Ex.store (by rfl) (by rfl) (by rfl) (by rfl) (by rfl) (by rfl) ?_)) | (refine WL.yes (by rfl) (Ex.store_pel (by rfl) (by rfl) (by rfl) (by rfl) (by rfl) ?_ (by rfl) ?_); (· (omega)))
      refine WL.nil ?_
      (repeat refine J.seq ?_)
      refine J.draw [5, 9, 1051, 1052, 1053, 1054, 1060, 2026] 7 [(0, true), (1, true), (2, true), (3, true), (4, true), (5, true), (6, true), (7, false)] (by kernel_rfl) rfl (by kernel_rfl) ?_
      intro F1 hF1
      refine WS.take rfl (by rfl) (by rfl) (q_move (by rfl)) ?_
      refine WS.take rfl (by rfl) (by rfl) (q_nilCheck (by rfl) (by rfl)) ?_
      first | (refine WS.take rfl (by rfl) (by rfl) (q_fieldAddr (by rfl)) ?_) | (refine WS.take rfl (by rfl) (by rfl) (q_fieldAddr_rop (by rfl) (by rfl)) ?_) | (refine WS.take rfl (by rfl) (by rfl) (q_fieldAddr_pel (by rfl)) ?_)
      first | (refine WS.take rfl (by rfl) (by rfl) (q_load (by rfl) (by rfl) (by rfl)) ?_) | (refine WS.take rfl (by rfl) (by rfl) (q_load_rop (by rfl) (by rfl)) ?_) | (refine WS.take rfl (by rfl) (by rfl) (q_load_pel (by rfl) (by rfl) ?_ (by rfl)) ?_; (· (omega)))
      first | (refine WS.take rfl (by rfl) (by rfl) (q_fieldAddr (by rfl)) ?_) | (refine WS.take rfl (by rfl) (by rfl) (q_fieldAddr_rop (by rfl) (by rfl)) ?_) | (refine WS.take rfl (by rfl) (by rfl) (q_fieldAddr_pel (by rfl)) ?_)
      first | (refine WS.take rfl (by rfl) (by rfl) (q_load (by rfl) (by rfl) (by rfl)) ?_) | (refine WS.take rfl (by rfl) (by rfl) (q_load_rop (by rfl) (by rfl)) ?_) | (refine WS.take rfl (by rfl) (by rfl) (q_load_pel (by rfl) (by rfl) ?_ (by rfl)) ?_; (· (omega)))
      first | (refine WS.take rfl (by rfl) (by rfl) (q_load (by rfl) (by rfl) (by rfl)) ?_) | (refine WS.take rfl (by rfl) (by rfl) (q_load_rop (by rfl) (by rfl)) ?_) | (refine WS.take rfl (by rfl) (by rfl) (q_load_pel (by rfl) (by rfl) ?_ (by rfl)) ?_; (· (omega)))
      refine WS.last rfl (by rfl) (by rfl) (Ex.mapUpdate (lat (expandL l) k).p (lat (expandL l) k) (by rfl) (by rfl) (by rfl) (by rfl) (hE.take k).keys hk3.1 ?_)
      (repeat refine J.seq ?_)
      refine J.region ?_
      refine WL.yes (by rfl) (Ex.q (q_int (by rfl) (by rfl) (by rfl)) (by rfl) ?_)
      refine WL.yes (by rfl) (Ex.q (q_move (by rfl)) (by rfl) ?_)
      refine WL.nil ?_
      refine Kloop.nextP (k + 1) ?_ ?_ ⟨same (by rw [← w64_nat (k := k) (by omega)]; rfl), trivial⟩ ⟨same rfl, same rfl, same rfl, trivial⟩ (.cons (s := 9) rfl (by rw [← tput_take hE hk2]; exact CLe.mp (aput_tput (hE.take k) _).symm) rfl (.cons (s := 1051) rfl (CLe.refl _ _) rfl (.cons (s := 1052) rfl (CLe.refl _ _) rfl (.cons (s := 1053) rfl (CLe.refl _ _) rfl (.cons (s := 1054) rfl (CLe.refl _ _) rfl (.cons (s := 1060) rfl (CLe.refl _ _) rfl (.cons (s := 2026) rfl (CLe.refl _ _) rfl .nil)))))))
      · ((try dsimp only) <;> omega)
      · ((try dsimp only) <;> omega)
    · skip
      (first | have e16 := of_decide_eq_true c16 | have e16 := of_decide_eq_false c16 | have e16 := ndec_t c16 | have e16 := ndec_f c16 | skip)
      (repeat refine J.seq ?_)
      refine J.exit ?_
      have hkn : (expandL l).take k = expandL l := take_all (by omega)
      rw [hkn]
      conv => whnf
      exact ⟨trivial, [], _, [(1060, .box fb 103 (fV mh b9 mf .nilp)), (1051, tbl mh s.H), (1052, tbl b9 (expandL l)), (1053, mpc mf prE iV s.F), (1054, .vec none 39 52 0 0 (fun _ => opE default))], .nil, Nat.le_of_ble_eq_true rfl, rfl, fun _ h => h, HLe.sub (.cons (s := 1060) rfl (CLe.cells rfl (fun h => h) (fun h => h)) rfl (.cons (s := 1051) rfl (CLe.refl _ _) rfl (.cons (s := 9) rfl (CLe.refl _ _) rfl (.cons (s := 1053) rfl (CLe.refl _ _) rfl (.non .nil))))), ⟨b9, rfl, (FO_n (s := s.want l) hy).symm⟩⟩

set_option maxHeartbeats 16000000 in
set_option maxRecDepth 100000 in
theorem fWant_p (fb mh mw mf wp : Nat) {s : FS}  {a : Option Addr} {cap : Nat} {l : List En} (hy : s.busy = true)(ho : ∀ e ∈ l, e.ok) (hl : (expandL l).length ≤ 1000) (hl2 : l.length ≤ 1000) : Spec Try.prog 30 [.ptr 1060 fb 0, lros a cap enE l] [(1060, .box fb 103 (fV mh mw mf (.ptr 1054 wp 0))), (1051, tbl mh s.H), (1052, tbl mw s.W), (1053, mpc mf prE iV s.F), (1054, .box wp 39 (opE s.wo))] (fun r H' => ∃ mw', r = .tup0 ∧ H' = FO fb mh mw' mf wp (s.want l)) := by
  refine Spec.of_J Try.func30 rfl Try.ntmps30 Try.results30 rfl ?_
  intro A F hAF
  (repeat refine J.seq ?_)
  refine J.region ?_
  refine WL.yes (by rfl) (Ex.q (q_move (by rfl)) (by rfl) ?_)
  refine WL.yes (by rfl) (Ex.q (q_eqnil (by rfl) (by rfl) (by rfl)) (by rfl) ?_)
  refine WL.nil ?_
  (repeat refine J.seq ?_)
  refine J.cond (by rfl) (fun c7 => ?_) (fun c7 => ?_)
  · skip
    cases c7
  · skip
    (first | have e7 := of_decide_eq_true c7 | have e7 := of_decide_eq_false c7 | have e7 := ndec_t c7 | have e7 := ndec_f c7 | skip)
    (repeat refine J.seq ?_)
    refine J.skip ?_
    (repeat refine J.seq ?_)
    refine J.region ?_
    refine WL.yes (by rfl) (Ex.q (q_move (by rfl)) (by rfl) ?_)
    refine WL.yes (by rfl) (Ex.makeMap prE enE (by rfl) ?_)
    intro b9
    refine WL.yes (by rfl) (Ex.q (q_nilCheck (by rfl) (by rfl)) (by rfl) ?_)
    first | (refine WL.yes (by rfl) (Ex.q (q_fieldAddr (by rfl)) (by rfl) ?_)) | (refine WL.yes (by rfl) (Ex.q (q_fieldAddr_rop (by rfl) (by rfl)) (by rfl) ?_)) | (refine WL.yes (by rfl) (Ex.q (q_fieldAddr_pel (by rfl)) (by rfl) ?_))
    first | (refine WL.yes (by rfl) (Ex.store (by rfl) (by rfl) (by rfl) (by rfl) (by rfl) (by rfl) ?_)) | (refine WL.yes (by rfl) (Ex.store_pel (by rfl) (by rfl) (by rfl) (by rfl) (by rfl) ?_ (by rfl) ?_); (· (omega)))
    refine WL.nil ?_
    (repeat refine J.seq ?_)
    refine J.region ?_
    refine WL.yes (by rfl) (Ex.q (q_move (by rfl)) (by rfl) ?_)
    refine WL.yes (by rfl) (Ex.callL (expand_spec (l := l) ho hl2) (by rfl) (by rfl) .nil ?_)
    rintro _ _ ⟨a13, cap13, rfl, rfl⟩
    first | (refine WL.yes (by rfl) (Ex.q (q_len_slice (by rfl) (by rfl)) (by rfl) ?_)) | (refine WL.yes (by rfl) (Ex.q (q_len_string (by rfl)) (by rfl) ?_))
    refine WL.yes (by rfl) (Ex.q (q_move (by rfl)) (by rfl) ?_)
    refine WL.nil ?_
    (repeat refine J.seq ?_)
    refine J.block ?_
    (repeat refine J.seq ?_)
    refine J.loopP (fun x : Nat => x ≤ (expandL l).length) (fun x => [(15, iV x)]) (fun x => [(9, tbl b9 ((expandL l).take x))]) (fun x => (expandL l).length - x) (0) [(0, _), (13, _), (14, _)] [(1051, _), (1052, _), (1053, _), (1054, _), (1060, _), (2026, _)] ⟨same rfl, same rfl, same rfl, trivial⟩ ⟨same rfl, trivial⟩ (.cons (s := 9) rfl (CLe.refl _ _) rfl (.cons (s := 1051) rfl (CLe.refl _ _) rfl (.cons (s := 1052) rfl (CLe.refl _ _) rfl (.cons (s := 1053) rfl (CLe.refl _ _) rfl (.cons (s := 1054) rfl (CLe.refl _ _) rfl (.cons (s := 1060) rfl (CLe.refl _ _) rfl (.cons (s := 2026) rfl (CLe.refl _ _) rfl .nil))))))) ?_ ?_
    · ((try dsimp only) <;> omega)
    rintro k hx
    (try dsimp only at hx)
    (repeat refine J.seq ?_)
    refine J.region ?_
    refine WL.yes (by rfl) (Ex.q (q_int (by rfl) (by rfl) (by rfl)) (by rfl) ?_)
    refine WL.nil ?_
    (repeat refine J.seq ?_)
    refine J.cond (by rfl) (fun c16 => ?_) (fun c16 => ?_)
    · skip
      (first | have e16 := of_decide_eq_true c16 | have e16 := of_decide_eq_false c16 | have e16 := ndec_t c16 | have e16 := ndec_f c16 | skip)
      (repeat refine J.seq ?_)
      refine J.skip ?_
      (repeat refine J.seq ?_)
      refine J.block ?_
      (repeat refine J.seq ?_)
      have hk2 : k < (expandL l).length := by omega
      have hE : TOk (expandL l) := (exp_ok (clean_ok ho)).toTOk
      have hk3 : (lat (expandL l) k).ok := lat_ok hE.ok hk2
      refine J.vecsome (t := 2026) rfl (by omega) ?_
      intro b13 hb13
      subst hb13
      refine J.region ?_
      first | (refine WL.yes (by rfl) (Ex.q (q_indexAddr_ros (by rfl) (by rfl) (by intro _; rfl) ?_ ?_) (by rfl) ?_); (· (omega)); (· (omega))) | (refine WL.yes (by rfl) (Ex.q (q_indexAddr_sl (by rfl) (by rfl) ?_ ?_) (by rfl) ?_); (· (omega)); (· (omega))) | (refine WL.yes (by rfl) (Ex.q (q_indexAddr_arr (by rfl) (by rfl) ?_ ?_) (by rfl) ?_); (· (omega)); (· (omega)))
      first | (refine WL.yes (by rfl) (Ex.h (h_load (by rfl) (by rfl) (by rfl)) (by rfl) ?_)) | (refine WL.yes (by rfl) (Ex.q (q_load (by rfl) (by rfl) (by rfl)) (by rfl) ?_)) | (refine WL.yes (by rfl) (Ex.q (q_load_rop (by rfl) (by rfl)) (by rfl) ?_)) | (refine WL.yes (by rfl) (Ex.h (h_load_pel (by rfl) (by rfl) ?_ (by rfl)) (by rfl) ?_); (· (omega))) | (refine WL.yes (by rfl) (Ex.q (q_load_pel (by rfl) (by rfl) ?_ (by rfl)) (by rfl) ?_); (· (omega)))
      refine WL.set 18 (enE (lat (expandL l) k)) (by rfl) (by rw [Nat.zero_add, Int.toNat_natCast]) ?_
      refine WL.yes (by rfl) (Ex.alloc (by rfl) ?_)
      intro b5
      first | (refine WL.yes (by rfl) (Ex.store (by rfl) (by rfl) (by rfl) (by rfl) (by rfl) (by rfl) ?_)) | (refine WL.yes (by rfl) (Ex.store_pel (by rfl) (by rfl) (by rfl) (by rfl) (by rfl) ?_ (by rfl) ?_); (· (omega)))
      refine WL.nil ?_
      (repeat refine J.seq ?_)
      refine J.draw [5, 9, 1051, 1052, 1053, 1054, 1060, 2026] 7 [(0, true), (1, true), (2, true), (3, true), (4, true), (5, true), (6, true), (7, false)] (by kernel_rfl) rfl (by kernel_rfl) ?_
      intro F1 hF1
      refine WS.take rfl (by rfl) (by rfl) (q_move (by rfl)) ?_
      refine WS.take rfl (by rfl) (by rfl) (q_nilCheck (by rfl) (by rfl)) ?_
      first | (refine WS.take rfl (by rfl) (by rfl) (q_fieldAddr (by rfl)) ?_) | (refine WS.take rfl (by rfl) (by rfl) (q_fieldAddr_rop (by rfl) (by rfl)) ?_) | (refine WS.take rfl (by rfl) (by rfl) (q_fieldAddr_pel (by rfl)) ?_)
      first | (refine WS.take rfl (by rfl) (by rfl) (q_load (by rfl) (by rfl) (by rfl)) ?_) | (refine WS.take rfl (by rfl) (by rfl) (q_load_rop (by rfl) (by rfl)) ?_) | (refine WS.take rfl (by rfl) (by rfl) (q_load_pel (by rfl) (by rfl) ?_ (by rfl)) ?_; (· (omega)))
      first | (refine WS.take rfl (by rfl) (by rfl) (q_fieldAddr (by rfl)) ?_) | (refine WS.take rfl (by rfl) (by rfl) (q_fieldAddr_rop (by rfl) (by rfl)) ?_) | (refine WS.take rfl (by rfl) (by rfl) (q_fieldAddr_pel (by rfl)) ?_)
      first | (refine WS.take rfl (by rfl) (by rfl) (q_load (by rfl) (by rfl) (by rfl)) ?_) | (refine WS.take rfl (by rfl) (by rfl) (q_load_rop (by rfl) (by rfl)) ?_) | (refine WS.take rfl (by rfl) (by rfl) (q_load_pel (by rfl) (by rfl) ?_ (by rfl)) ?_; (· (omega)))
      first | (refine WS.take rfl (by rfl) (by rfl) (q_load (by rfl) (by rfl) (by rfl)) ?_) | (refine WS.take rfl (by rfl) (by rfl) (q_load_rop (by rfl) (by rfl)) ?_) | (refine WS.take rfl (by rfl) (by rfl) (q_load_pel (by rfl) (by rfl) ?_ (by rfl)) ?_; (· (omega)))
      refine WS.last rfl (by rfl) (by rfl) (Ex.mapUpdate (lat (expandL l) k).p (lat (expandL l) k) (by rfl) (by rfl) (by rfl) (by rfl) (hE.take k).keys hk3.1 ?_)
      (repeat refine J.seq ?_)
      refine J.region ?_
      refine WL.yes (by rfl) (Ex.q (q_int (by rfl) (by rfl) (by rfl)) (by rfl) ?_)
      refine WL.yes (by rfl) (Ex.q (q_move (by rfl)) (by rfl) ?_)
      refine WL.nil ?_
      refine Kloop.nextP (k + 1) ?_ ?_ ⟨same (by rw [← w64_nat (k := k) (by omega)]; rfl), trivial⟩ ⟨same rfl, same rfl, same rfl, trivial⟩ (.cons (s := 9) rfl (by rw [← tput_take hE hk2]; exact CLe.mp (aput_tput (hE.take k) _).symm) rfl (.cons (s := 1051) rfl (CLe.refl _ _) rfl (.cons (s := 1052) rfl (CLe.refl _ _) rfl (.cons (s := 1053) rfl (CLe.refl _ _) rfl (.cons (s := 1054) rfl (CLe.refl _ _) rfl (.cons (s := 1060) rfl (CLe.refl _ _) rfl (.cons (s := 2026) rfl (CLe.refl _ _) rfl .nil)))))))
      · ((try dsimp only) <;> omega)
      · ((try dsimp only) <;> omega)
    · skip
      (first | have e16 := of_decide_eq_true c16 | have e16 := of_decide_eq_false c16 | have e16 := ndec_t c16 | have e16 := ndec_f c16 | skip)
      (repeat refine J.seq ?_)
      refine J.exit ?_
      have hkn : (expandL l).take k = expandL l := take_all (by omega)
      rw [hkn]
      conv => whnf
      exact ⟨trivial, [], _, [(1060, .box fb 103 (fV mh b9 mf (.ptr 1054 wp 0))), (1051, tbl mh s.H), (1052, tbl b9 (expandL l)), (1053, mpc mf prE iV s.F), (1054, .box wp 39 (opE s.wo))], .nil, Nat.le_of_ble_eq_true rfl, rfl, fun _ h => h, HLe.sub (.cons (s := 1060) rfl (CLe.cells rfl (fun h => h) (fun h => h)) rfl (.cons (s := 1051) rfl (CLe.refl _ _) rfl (.cons (s := 9) rfl (CLe.refl _ _) rfl (.cons (s := 1053) rfl (CLe.refl _ _) rfl (.cons (s := 1054) rfl (CLe.refl _ _) rfl .nil))))), ⟨b9, rfl, (FO_p (s := s.want l) hy).symm⟩⟩

set_option maxHeartbeats 16000000 in
set_option maxRecDepth 100000 in
theorem fHas_n (fb mh mw mf wp : Nat) {s : FS} (hy : s.busy = false)(hs : FOk s) : Spec Try.prog 41 [.ptr 1060 fb 0] [(1060, .box fb 103 (fV mh mw mf .nilp)), (1051, tbl mh s.H), (1052, tbl mw s.W), (1053, mpc mf prE iV s.F), (1054, .vec none 39 52 0 0 (fun _ => opE default))] (fun r H' => ∃ a cap, r = .sl 1104 a 51 0 cap s.H.length ∧ H' = FO fb mh mw mf wp s ++ [(1104, lvec a 37 51 cap enE s.H)]) := by
  refine Spec.of_J Try.func41 rfl Try.ntmps41 Try.results41 rfl ?_
  intro A F hAF
  (repeat refine J.seq ?_)
  refine J.region ?_
  refine WL.yes (by rfl) (Ex.q (q_assign (by rfl)) (by rfl) ?_)
  refine WL.nil ?_
  (repeat refine J.seq ?_)
  refine J.region ?_
  refine WL.yes (by rfl) (Ex.q (q_move (by rfl)) (by rfl) ?_)
  refine WL.yes (by rfl) (Ex.q (q_eqnil (by rfl) (by rfl) (by rfl)) (by rfl) ?_)
  refine WL.nil ?_
  (repeat refine J.seq ?_)
  refine J.cond (by rfl) (fun c4 => ?_) (fun c4 => ?_)
  · skip
    cases c4
  · skip
    (first | have e4 := of_decide_eq_true c4 | have e4 := of_decide_eq_false c4 | have e4 := ndec_t c4 | have e4 := ndec_f c4 | skip)
    (repeat refine J.seq ?_)
    refine J.skip ?_
    (repeat refine J.seq ?_)
    refine J.region ?_
    refine WL.yes (by rfl) (Ex.q (q_move (by rfl)) (by rfl) ?_)
    refine WL.yes (by rfl) (Ex.q (q_nilCheck (by rfl) (by rfl)) (by rfl) ?_)
    first | (refine WL.yes (by rfl) (Ex.q (q_fieldAddr (by rfl)) (by rfl) ?_)) | (refine WL.yes (by rfl) (Ex.q (q_fieldAddr_rop (by rfl) (by rfl)) (by rfl) ?_)) | (refine WL.yes (by rfl) (Ex.q (q_fieldAddr_pel (by rfl)) (by rfl) ?_))
    first | (refine WL.yes (by rfl) (Ex.h (h_load (by rfl) (by rfl) (by rfl)) (by rfl) ?_)) | (refine WL.yes (by rfl) (Ex.q (q_load (by rfl) (by rfl) (by rfl)) (by rfl) ?_)) | (refine WL.yes (by rfl) (Ex.q (q_load_rop (by rfl) (by rfl)) (by rfl) ?_)) | (refine WL.yes (by rfl) (Ex.h (h_load_pel (by rfl) (by rfl) ?_ (by rfl)) (by rfl) ?_); (· (omega))) | (refine WL.yes (by rfl) (Ex.q (q_load_pel (by rfl) (by rfl) ?_ (by rfl)) (by rfl) ?_); (· (omega)))
    refine WL.yes (by rfl) (Ex.callL (list61 1051 1104 mh (by decide) hs.h (by have := hs.lh; omega)) (by rfl) (by rfl) (.cons rfl .nil) ?_)
    rintro _ _ ⟨a9, cap9, rfl, rfl⟩
    refine WL.yes (by rfl) (Ex.q (q_assign (by rfl)) (by rfl) ?_)
    refine WL.nil ?_
    (repeat refine J.seq ?_)
    refine J.ret ?_
    (repeat (with_reducible first | refine Kseq.ret ?_ | refine Kblock.ret ?_ | refine Kloop.ret ?_ | refine Kcut.ret ?_))
    rw [FO_n hy]
    exact Kret.mk _ (.tmp (by rfl) .nil) (by rfl) trivial (HLe.sub (.cons (s := 1060) rfl (CLe.refl _ _) rfl (.cons (s := 1051) rfl (CLe.refl _ _) rfl (.cons (s := 1052) rfl (CLe.refl _ _) rfl (.cons (s := 1053) rfl (CLe.refl _ _) rfl (.non (.cons (s := 1104) rfl (CLe.refl _ _) rfl .nil))))))) ⟨a9, cap9, rfl, rfl⟩

set_option maxHeartbeats 16000000 in
set_option maxRecDepth 100000 in
theorem fHas_p (fb mh mw mf wp : Nat) {s : FS} (hy : s.busy = true)(hs : FOk s) : Spec Try.prog 41 [.ptr 1060 fb 0] [(1060, .box fb 103 (fV mh mw mf (.ptr 1054 wp 0))), (1051, tbl mh s.H), (1052, tbl mw s.W), (1053, mpc mf prE iV s.F), (1054, .box wp 39 (opE s.wo))] (fun r H' => ∃ a cap, r = .sl 1104 a 51 0 cap s.H.length ∧ H' = FO fb mh mw mf wp s ++ [(1104, lvec a 37 51 cap enE s.H)]) := by
  refine Spec.of_J Try.func41 rfl Try.ntmps41 Try.results41 rfl ?_
  intro A F hAF
  (repeat refine J.seq ?_)
  refine J.region ?_
  refine WL.yes (by rfl) (Ex.q (q_assign (by rfl)) (by rfl) ?_)
  refine WL.nil ?_
  (repeat refine J.seq ?_)
  refine J.region ?_
  refine WL.yes (by rfl) (Ex.q (q_move (by rfl)) (by rfl) ?_)
  refine WL.yes (by rfl) (Ex.q (q_eqnil (by rfl) (by rfl) (by rfl)) (by rfl) ?_)
  refine WL.nil ?_
  (repeat refine J.seq ?_)
  refine J.cond (by rfl) (fun c4 => ?_) (fun c4 => ?_)
  · skip
    cases c4
  · skip
    (first | have e4 := of_decide_eq_true c4 | have e4 := of_decide_eq_false c4 | have e4 := ndec_t c4 | have e4 := ndec_f c4 | skip)
    (repeat refine J.seq ?_)
    refine J.skip ?_
    (repeat refine J.seq ?_)
    refine J.region ?_
    refine WL.yes (by rfl) (Ex.q (q_move (by rfl)) (by rfl) ?_)
    refine WL.yes (by rfl) (Ex.q (q_nilCheck (by rfl) (by rfl)) (by rfl) ?_)
    first | (refine WL.yes (by rfl) (Ex.q (q_fieldAddr (by rfl)) (by rfl) ?_)) | (refine WL.yes (by rfl) (Ex.q (q_fieldAddr_rop (by rfl) (by rfl)) (by rfl) ?_)) | (refine WL.yes (by rfl) (Ex.q (q_fieldAddr_pel (by rfl)) (by rfl) ?_))
    first | (refine WL.yes (by rfl) (Ex.h (h_load (by rfl) (by rfl) (by rfl)) (by rfl) ?_)) | (refine WL.yes (by rfl) (Ex.q (q_load (by rfl) (by rfl) (by rfl)) (by rfl) ?_)) | (refine WL.yes (by rfl) (Ex.q (q_load_rop (by rfl) (by rfl)) (by rfl) ?_)) | (refine WL.yes (by rfl) (Ex.h (h_load_pel (by rfl) (by rfl) ?_ (by rfl)) (by rfl) ?_); (· (omega))) | (refine WL.yes (by rfl) (Ex.q (q_load_pel (by rfl) (by rfl) ?_ (by rfl)) (by rfl) ?_); (· (omega)))
    refine WL.yes (by rfl) (Ex.callL (list61 1051 1104 mh (by decide) hs.h (by have := hs.lh; omega)) (by rfl) (by rfl) (.cons rfl .nil) ?_)
    rintro _ _ ⟨a9, cap9, rfl, rfl⟩
    refine WL.yes (by rfl) (Ex.q (q_assign (by rfl)) (by rfl) ?_)
    refine WL.nil ?_
    (repeat refine J.seq ?_)
    refine J.ret ?_
    (repeat (with_reducible first | refine Kseq.ret ?_ | refine Kblock.ret ?_ | refine Kloop.ret ?_ | refine Kcut.ret ?_))
    rw [FO_p hy]
    exact Kret.mk _ (.tmp (by rfl) .nil) (by rfl) trivial (HLe.sub (.cons (s := 1060) rfl (CLe.refl _ _) rfl (.cons (s := 1051) rfl (CLe.refl _ _) rfl (.cons (s := 1052) rfl (CLe.refl _ _) rfl (.cons (s := 1053) rfl (CLe.refl _ _) rfl (.cons (s := 1054) rfl (CLe.refl _ _) rfl (.cons (s := 1104) rfl (CLe.refl _ _) rfl .nil))))))) ⟨a9, cap9, rfl, rfl⟩

set_option maxHeartbeats 16000000 in
set_option maxRecDepth 100000 in
theorem fHasNil_spec  : Spec Try.prog 41 [.nilp] [] (fun r H' => r = .sl 0 none 0 0 0 0 ∧ H' = []) := by
  refine Spec.of_J Try.func41 rfl Try.ntmps41 Try.results41 rfl ?_
  intro A F hAF
  (repeat refine J.seq ?_)
  refine J.region ?_
  refine WL.yes (by rfl) (Ex.q (q_assign (by rfl)) (by rfl) ?_)
  refine WL.nil ?_
  (repeat refine J.seq ?_)
  refine J.region ?_
  refine WL.yes (by rfl) (Ex.q (q_move (by rfl)) (by rfl) ?_)
  refine WL.yes (by rfl) (Ex.q (q_eqnil (by rfl) (by rfl) (by rfl)) (by rfl) ?_)
  refine WL.nil ?_
  (repeat refine J.seq ?_)
  refine J.cond (by rfl) (fun c4 => ?_) (fun c4 => ?_)
  · skip
    (first | have e4 := of_decide_eq_true c4 | have e4 := of_decide_eq_false c4 | have e4 := ndec_t c4 | have e4 := ndec_f c4 | skip)
    (repeat refine J.seq ?_)
    refine J.region ?_
    refine WL.yes (by rfl) (Ex.q (q_assign (by rfl)) (by rfl) ?_)
    refine WL.nil ?_
    (repeat refine J.seq ?_)
    refine J.ret ?_
    (repeat (with_reducible first | refine Kseq.ret ?_ | refine Kblock.ret ?_ | refine Kloop.ret ?_ | refine Kcut.ret ?_))
    refine Kret.mk [] (.tmp (by rfl) (.nil)) (by rfl) trivial (HLe.nil _ _) ?_
    exact ⟨rfl, rfl⟩
  · skip
    cases c4

set_option maxHeartbeats 16000000 in
set_option maxRecDepth 100000 in
theorem fWanted_n (fb mh mw mf wp : Nat) {s : FS} (hy : s.busy = false)(hs : FOk s) : Spec Try.prog 42 [.ptr 1060 fb 0] [(1060, .box fb 103 (fV mh mw mf .nilp)), (1051, tbl mh s.H), (1052, tbl mw s.W), (1053, mpc mf prE iV s.F), (1054, .vec none 39 52 0 0 (fun _ => opE default))] (fun r H' => ∃ a cap, r = .sl 1104 a 51 0 cap s.W.length ∧ H' = FO fb mh mw mf wp s ++ [(1104, lvec a 37 51 cap enE s.W)]) := by
  refine Spec.of_J Try.func42 rfl Try.ntmps42 Try.results42 rfl ?_
  intro A F hAF
  (repeat refine J.seq ?_)
  refine J.region ?_
  refine WL.yes (by rfl) (Ex.q (q_assign (by rfl)) (by rfl) ?_)
  refine WL.nil ?_
  (repeat refine J.seq ?_)
  refine J.region ?_
  refine WL.yes (by rfl) (Ex.q (q_move (by rfl)) (by rfl) ?_)
  refine WL.yes (by rfl) (Ex.q (q_eqnil (by rfl) (by rfl) (by rfl)) (by rfl) ?_)
  refine WL.nil ?_
  (repeat refine J.seq ?_)
  refine J.cond (by rfl) (fun c4 => ?_) (fun c4 => ?_)
  · skip
    cases c4
  · skip
    (first | have e4 := of_decide_eq_true c4 | have e4 := of_decide_eq_false c4 | have e4 := ndec_t c4 | have e4 := ndec_f c4 | skip)
    (repeat refine J.seq ?_)
    refine J.skip ?_
    (repeat refine J.seq ?_)
    refine J.region ?_
    refine WL.yes (by rfl) (Ex.q (q_move (by rfl)) (by rfl) ?_)
    refine WL.yes (by rfl) (Ex.q (q_nilCheck (by rfl) (by rfl)) (by rfl) ?_)
    first | (refine WL.yes (by rfl) (Ex.q (q_fieldAddr (by rfl)) (by rfl) ?_)) | (refine WL.yes (by rfl) (Ex.q (q_fieldAddr_rop (by rfl) (by rfl)) (by rfl) ?_)) | (refine WL.yes (by rfl) (Ex.q (q_fieldAddr_pel (by rfl)) (by rfl) ?_))
    first | (refine WL.yes (by rfl) (Ex.h (h_load (by rfl) (by rfl) (by rfl)) (by rfl) ?_)) | (refine WL.yes (by rfl) (Ex.q (q_load (by rfl) (by rfl) (by rfl)) (by rfl) ?_)) | (refine WL.yes (by rfl) (Ex.q (q_load_rop (by rfl) (by rfl)) (by rfl) ?_)) | (refine WL.yes (by rfl) (Ex.h (h_load_pel (by rfl) (by rfl) ?_ (by rfl)) (by rfl) ?_); (· (omega))) | (refine WL.yes (by rfl) (Ex.q (q_load_pel (by rfl) (by rfl) ?_ (by rfl)) (by rfl) ?_); (· (omega)))
    refine WL.yes (by rfl) (Ex.callL (list61 1052 1104 mw (by decide) hs.w (by have := hs.lw; omega)) (by rfl) (by rfl) (.cons rfl .nil) ?_)
    rintro _ _ ⟨a9, cap9, rfl, rfl⟩
    refine WL.yes (by rfl) (Ex.q (q_assign (by rfl)) (by rfl) ?_)
    refine WL.nil ?_
    (repeat refine J.seq ?_)
    refine J.ret ?_
    (repeat (with_reducible first | refine Kseq.ret ?_ | refine Kblock.ret ?_ | refine Kloop.ret ?_ | refine Kcut.ret ?_))
    rw [FO_n hy]
    exact Kret.mk _ (.tmp (by rfl) .nil) (by rfl) trivial (HLe.sub (.cons (s := 1060) rfl (CLe.refl _ _) rfl (.cons (s := 1051) rfl (CLe.refl _ _) rfl (.cons (s := 1052) rfl (CLe.refl _ _) rfl (.cons (s := 1053) rfl (CLe.refl _ _) rfl (.non (.cons (s := 1104) rfl (CLe.refl _ _) rfl .nil))))))) ⟨a9, cap9, rfl, rfl⟩

set_option maxHeartbeats 16000000 in
set_option maxRecDepth 100000 in
theorem fWanted_p (fb mh mw mf wp : Nat) {s : FS} (hy : s.busy = true)(hs : FOk s) : Spec Try.prog 42 [.ptr 1060 fb 0] [(1060, .box fb 103 (fV mh mw mf (.ptr 1054 wp 0))), (1051, tbl mh s.H), (1052, tbl mw s.W), (1053, mpc mf prE iV s.F), (1054, .box wp 39 (opE s.wo))] (fun r H' => ∃ a cap, r = .sl 1104 a 51 0 cap s.W.length ∧ H' = FO fb mh mw mf wp s ++ [(1104, lvec a 37 51 cap enE s.W)]) := by
  refine Spec.of_J Try.func42 rfl Try.ntmps42 Try.results42 rfl ?_
  intro A F hAF
  (repeat refine J.seq ?_)
  refine J.region ?_
  refine WL.yes (by rfl) (Ex.q (q_assign (by rfl)) (by rfl) ?_)
  refine WL.nil ?_
  (repeat refine J.seq ?_)
  refine J.region ?_
  refine WL.yes (by rfl) (Ex.q (q_move (by rfl)) (by rfl) ?_)
  refine WL.yes (by rfl) (Ex.q (q_eqnil (by rfl) (by rfl) (by rfl)) (by rfl) ?_)
  refine WL.nil ?_
  (repeat refine J.seq ?_)
  refine J.cond (by rfl) (fun c4 => ?_) (fun c4 => ?_)
  · skip
    cases c4
  · skip
    (first | have e4 := of_decide_eq_true c4 | have e4 := of_decide_eq_false c4 | have e4 := ndec_t c4 | have e4 := ndec_f c4 | skip)
    (repeat refine J.seq ?_)
    refine J.skip ?_
    (repeat refine J.seq ?_)
    refine J.region ?_
    refine WL.yes (by rfl) (Ex.q (q_move (by rfl)) (by rfl) ?_)
    refine WL.yes (by rfl) (Ex.q (q_nilCheck (by rfl) (by rfl)) (by rfl) ?_)
    first | (refine WL.yes (by rfl) (Ex.q (q_fieldAddr (by rfl)) (by rfl) ?_)) | (refine WL.yes (by rfl) (Ex.q (q_fieldAddr_rop (by rfl) (by rfl)) (by rfl) ?_)) | (refine WL.yes (by rfl) (Ex.q (q_fieldAddr_pel (by rfl)) (by rfl) ?_))
    first | (refine WL.yes (by rfl) (Ex.h (h_load (by rfl) (by rfl) (by rfl)) (by rfl) ?_)) | (refine WL.yes (by rfl) (Ex.q (q_load (by rfl) (by rfl) (by rfl)) (by rfl) ?_)) | (refine WL.yes (by rfl) (Ex.q (q_load_rop (by rfl) (by rfl)) (by rfl) ?_)) | (refine WL.yes (by rfl) (Ex.h (h_load_pel (by rfl) (by rfl) ?_ (by rfl)) (by rfl) ?_); (· (omega))) | (refine WL.yes (by rfl) (Ex.q (q_load_pel (by rfl) (by rfl) ?_ (by rfl)) (by rfl) ?_); (· (omega)))
    refine WL.yes (by rfl) (Ex.callL (list61 1052 1104 mw (by decide) hs.w (by have := hs.lw; omega)) (by rfl) (by rfl) (.cons rfl .nil) ?_)
    rintro _ _ ⟨a9, cap9, rfl, rfl⟩
    refine WL.yes (by rfl) (Ex.q (q_assign (by rfl)) (by rfl) ?_)
    refine WL.nil ?_
    (repeat refine J.seq ?_)
    refine J.ret ?_
    (repeat (with_reducible first | refine Kseq.ret ?_ | refine Kblock.ret ?_ | refine Kloop.ret ?_ | refine Kcut.ret ?_))
    rw [FO_p hy]
    exact Kret.mk _ (.tmp (by rfl) .nil) (by rfl) trivial (HLe.sub (.cons (s := 1060) rfl (CLe.refl _ _) rfl (.cons (s := 1051) rfl (CLe.refl _ _) rfl (.cons (s := 1052) rfl (CLe.refl _ _) rfl (.cons (s := 1053) rfl (CLe.refl _ _) rfl (.cons (s := 1054) rfl (CLe.refl _ _) rfl (.cons (s := 1104) rfl (CLe.refl _ _) rfl .nil))))))) ⟨a9, cap9, rfl, rfl⟩

set_option maxHeartbeats 16000000 in
set_option maxRecDepth 100000 in
theorem fWantedNil_spec  : Spec Try.prog 42 [.nilp] [] (fun r H' => r = .sl 0 none 0 0 0 0 ∧ H' = []) := by
  refine Spec.of_J Try.func42 rfl Try.ntmps42 Try.results42 rfl ?_
  intro A F hAF
  (repeat refine J.seq ?_)
  refine J.region ?_
  refine WL.yes (by rfl) (Ex.q (q_assign (by rfl)) (by rfl) ?_)
  refine WL.nil ?_
  (repeat refine J.seq ?_)
  refine J.region ?_
  refine WL.yes (by rfl) (Ex.q (q_move (by rfl)) (by rfl) ?_)
  refine WL.yes (by rfl) (Ex.q (q_eqnil (by rfl) (by rfl) (by rfl)) (by rfl) ?_)
  refine WL.nil ?_
  (repeat refine J.seq ?_)
  refine J.cond (by rfl) (fun c4 => ?_) (fun c4 => ?_)
  · skip
    (first | have e4 := of_decide_eq_true c4 | have e4 := of_decide_eq_false c4 | have e4 := ndec_t c4 | have e4 := ndec_f c4 | skip)
    (repeat refine J.seq ?_)
    refine J.region ?_
    refine WL.yes (by rfl) (Ex.q (q_assign (by rfl)) (by rfl) ?_)
    refine WL.nil ?_
    (repeat refine J.seq ?_)
    refine J.ret ?_
    (repeat (with_reducible first | refine Kseq.ret ?_ | refine Kblock.ret ?_ | refine Kloop.ret ?_ | refine Kcut.ret ?_))
    refine Kret.mk [] (.tmp (by rfl) (.nil)) (by rfl) trivial (HLe.nil _ _) ?_
    exact ⟨rfl, rfl⟩
  · skip
    cases c4

set_option maxHeartbeats 16000000 in
set_option maxRecDepth 100000 in
theorem fTodo_n (fb mh mw mf wp : Nat) {s : FS} (hy : s.busy = false)(hs : FOk s) : Spec Try.prog 67 [.ptr 1060 fb 0] [(1060, .box fb 103 (fV mh mw mf .nilp)), (1051, tbl mh s.H), (1052, tbl mw s.W), (1053, mpc mf prE iV s.F), (1054, .vec none 39 52 0 0 (fun _ => opE default))] (fun r H' => ∃ a cap, r = .sl 2067 a 52 0 cap s.todo.length ∧ H' = FO fb mh mw mf wp s ++ [(2067, lvec a 39 52 cap opE s.todo)]) := by
  refine Spec.of_J Try.func67 rfl Try.ntmps67 Try.results67 rfl ?_
  intro A F hAF
  have hlh := hs.lh
  have hlw := hs.lw
  (repeat refine J.seq ?_)
  refine J.region ?_
  refine WL.yes (by rfl) (Ex.q (q_assign (by rfl)) (by rfl) ?_)
  refine WL.nil ?_
  (repeat refine J.seq ?_)
  refine J.region ?_
  refine WL.yes (by rfl) (Ex.q (q_move (by rfl)) (by rfl) ?_)
  refine WL.yes (by rfl) (Ex.q (q_eqnil (by rfl) (by rfl) (by rfl)) (by rfl) ?_)
  refine WL.nil ?_
  (repeat refine J.seq ?_)
  refine J.cond (by rfl) (fun c12 => ?_) (fun c12 => ?_)
  · skip
    cases c12
  · skip
    (first | have e12 := of_decide_eq_true c12 | have e12 := of_decide_eq_false c12 | have e12 := ndec_t c12 | have e12 := ndec_f c12 | skip)
    (repeat refine J.seq ?_)
    refine J.skip ?_
    (repeat refine J.seq ?_)
    refine J.region ?_
    refine WL.yes (by rfl) (Ex.q (q_move (by rfl)) (by rfl) ?_)
    refine WL.yes (by rfl) (Ex.q (q_nilCheck (by rfl) (by rfl)) (by rfl) ?_)
    first | (refine WL.yes (by rfl) (Ex.q (q_fieldAddr (by rfl)) (by rfl) ?_)) | (refine WL.yes (by rfl) (Ex.q (q_fieldAddr_rop (by rfl) (by rfl)) (by rfl) ?_)) | (refine WL.yes (by rfl) (Ex.q (q_fieldAddr_pel (by rfl)) (by rfl) ?_))
    first | (refine WL.yes (by rfl) (Ex.h (h_load (by rfl) (by rfl) (by rfl)) (by rfl) ?_)) | (refine WL.yes (by rfl) (Ex.q (q_load (by rfl) (by rfl) (by rfl)) (by rfl) ?_)) | (refine WL.yes (by rfl) (Ex.q (q_load_rop (by rfl) (by rfl)) (by rfl) ?_)) | (refine WL.yes (by rfl) (Ex.h (h_load_pel (by rfl) (by rfl) ?_ (by rfl)) (by rfl) ?_); (· (omega))) | (refine WL.yes (by rfl) (Ex.q (q_load_pel (by rfl) (by rfl) ?_ (by rfl)) (by rfl) ?_); (· (omega)))
    refine WL.yes (by rfl) (Ex.callL (list61 1051 1104 mh (by decide) hs.h (by omega)) (by rfl) (by rfl) (.cons rfl .nil) ?_)
    rintro _ _ ⟨a17, cap17, rfl, rfl⟩
    first | (refine WL.yes (by rfl) (Ex.q (q_len_slice (by rfl) (by rfl)) (by rfl) ?_)) | (refine WL.yes (by rfl) (Ex.q (q_len_string (by rfl)) (by rfl) ?_))
    refine WL.yes (by rfl) (Ex.q (q_move (by rfl)) (by rfl) ?_)
    refine WL.nil ?_
    (repeat refine J.seq ?_)
    refine J.block ?_
    (repeat refine J.seq ?_)
    refine J.loopP (fun x : Nat × Option Nat × Nat => x.1 ≤ s.H.length) (fun x => [(2, .sl 2 x.2.1 52 0 x.2.2 ((s.H.take x.1).foldl (td1 s.W) []).length), (19, iV x.1)]) (fun x => [(2, lvec x.2.1 39 52 x.2.2 opE ((s.H.take x.1).foldl (td1 s.W) []))]) (fun x => s.H.length - x.1) (0, none, 0) [(0, _), (17, _), (18, _)] [(1051, _), (1052, _), (1053, _), (1054, _), (1060, _), (1104, _)] ⟨same rfl, same rfl, same rfl, trivial⟩ ⟨⟨_, rfl, rfl, fun _ => trivial⟩, same rfl, trivial⟩ (.non (.cons (s := 1051) rfl (CLe.refl _ _) rfl (.cons (s := 1052) rfl (CLe.refl _ _) rfl (.cons (s := 1053) rfl (CLe.refl _ _) rfl (.cons (s := 1054) rfl (CLe.refl _ _) rfl (.cons (s := 1060) rfl (CLe.refl _ _) rfl (.cons (s := 1104) rfl (CLe.refl _ _) rfl .nil))))))) ?_ ?_
    · (exact Nat.zero_le _)
    rintro ⟨k, a2, c2⟩ hx
    (try dsimp only at hx)
    (try dsimp only)
    (repeat refine J.seq ?_)
    refine J.region ?_
    refine WL.yes (by rfl) (Ex.q (q_int (by rfl) (by rfl) (by rfl)) (by rfl) ?_)
    refine WL.nil ?_
    (repeat refine J.seq ?_)
    refine J.cond (by rfl) (fun c20 => ?_) (fun c20 => ?_)
    · skip
      (first | have e20 := of_decide_eq_true c20 | have e20 := of_decide_eq_false c20 | have e20 := ndec_t c20 | have e20 := ndec_f c20 | skip)
      (repeat refine J.seq ?_)
      refine J.skip ?_
      (repeat refine J.seq ?_)
      refine J.block ?_
      (repeat refine J.seq ?_)
      have hk2 : k < s.H.length := by omega
      have hk3 : (lat s.H k).ok := lat_ok hs.h.ok hk2
      refine J.vecsome (t := 1104) rfl (by omega) ?_
      intro b17 hb17
      subst hb17
      refine J.region ?_
      first | (refine WL.yes (by rfl) (Ex.q (q_indexAddr_ros (by rfl) (by rfl) (by intro _; rfl) ?_ ?_) (by rfl) ?_); (· (omega)); (· (omega))) | (refine WL.yes (by rfl) (Ex.q (q_indexAddr_sl (by rfl) (by rfl) ?_ ?_) (by rfl) ?_); (· (omega)); (· (omega))) | (refine WL.yes (by rfl) (Ex.q (q_indexAddr_arr (by rfl) (by rfl) ?_ ?_) (by rfl) ?_); (· (omega)); (· (omega)))
      first | (refine WL.yes (by rfl) (Ex.h (h_load (by rfl) (by rfl) (by rfl)) (by rfl) ?_)) | (refine WL.yes (by rfl) (Ex.q (q_load (by rfl) (by rfl) (by rfl)) (by rfl) ?_)) | (refine WL.yes (by rfl) (Ex.q (q_load_rop (by rfl) (by rfl)) (by rfl) ?_)) | (refine WL.yes (by rfl) (Ex.h (h_load_pel (by rfl) (by rfl) ?_ (by rfl)) (by rfl) ?_); (· (omega))) | (refine WL.yes (by rfl) (Ex.q (q_load_pel (by rfl) (by rfl) ?_ (by rfl)) (by rfl) ?_); (· (omega)))
      refine WL.set 22 (enE (lat s.H k)) (by rfl) (by rw [Nat.zero_add, Int.toNat_natCast]) ?_
      refine WL.yes (by rfl) (Ex.alloc (by rfl) ?_)
      intro b4
      first | (refine WL.yes (by rfl) (Ex.store (by rfl) (by rfl) (by rfl) (by rfl) (by rfl) (by rfl) ?_)) | (refine WL.yes (by rfl) (Ex.store_pel (by rfl) (by rfl) (by rfl) (by rfl) (by rfl) ?_ (by rfl) ?_); (· (omega)))
      refine WL.nil ?_
      (repeat refine J.seq ?_)
      refine J.draw [2, 4, 1051, 1052, 1053, 1054, 1060, 1104] 9999 [(0, true), (1, true), (2, true), (3, true), (4, true), (5, true), (6, true), (7, true), (8, true), (9, true), (10, false), (11, false), (12, true)] (by kernel_rfl) rfl (by kernel_rfl) ?_
      intro F1 hF1
      refine WS.take rfl (by rfl) (by rfl) (q_move (by rfl)) ?_
      refine WS.take rfl (by rfl) (by rfl) (q_nilCheck (by rfl) (by rfl)) ?_
      first | (refine WS.take rfl (by rfl) (by rfl) (q_fieldAddr (by rfl)) ?_) | (refine WS.take rfl (by rfl) (by rfl) (q_fieldAddr_rop (by rfl) (by rfl)) ?_) | (refine WS.take rfl (by rfl) (by rfl) (q_fieldAddr_pel (by rfl)) ?_)
      first | (refine WS.take rfl (by rfl) (by rfl) (q_load (by rfl) (by rfl) (by rfl)) ?_) | (refine WS.take rfl (by rfl) (by rfl) (q_load_rop (by rfl) (by rfl)) ?_) | (refine WS.take rfl (by rfl) (by rfl) (q_load_pel (by rfl) (by rfl) ?_ (by rfl)) ?_; (· (omega)))
      first | (refine WS.take rfl (by rfl) (by rfl) (q_fieldAddr (by rfl)) ?_) | (refine WS.take rfl (by rfl) (by rfl) (q_fieldAddr_rop (by rfl) (by rfl)) ?_) | (refine WS.take rfl (by rfl) (by rfl) (q_fieldAddr_pel (by rfl)) ?_)
      first | (refine WS.take rfl (by rfl) (by rfl) (q_load (by rfl) (by rfl) (by rfl)) ?_) | (refine WS.take rfl (by rfl) (by rfl) (q_load_rop (by rfl) (by rfl)) ?_) | (refine WS.take rfl (by rfl) (by rfl) (q_load_pel (by rfl) (by rfl) ?_ (by rfl)) ?_; (· (omega)))
      refine WS.take rfl (by rfl) (by rfl) (q_lookup_ok (e := prE) (f := enE) rfl (by rfl) (by rfl) (by rfl) hs.w.keys hk3.1) ?_
      refine WS.take rfl (by rfl) (by rfl) (q_move (by rfl)) ?_
      first | (refine WS.take rfl (by rfl) (by rfl) (q_extract2 (by rfl) (by rfl)) ?_) | (refine WS.take rfl (by rfl) (by rfl) (q_extract3 (by rfl) (by rfl)) ?_)
      first | (refine WS.take rfl (by rfl) (by rfl) (q_extract2 (by rfl) (by rfl)) ?_) | (refine WS.take rfl (by rfl) (by rfl) (q_extract3 (by rfl) (by rfl)) ?_)
      refine WS.ex rfl (by rfl) (Ex.alloc (by rfl) ?_)
      intro b5
      first | (refine WS.ex rfl (by rfl) (Ex.store (by rfl) (by rfl) (by rfl) (by rfl) (by rfl) (by rfl) ?_)) | (refine WS.ex rfl (by rfl) (Ex.store_pel (by rfl) (by rfl) (by rfl) (by rfl) (by rfl) ?_ (by rfl) ?_); (· (omega)))
      refine WS.take rfl (by rfl) (by rfl) (q_assign (by rfl)) ?_
      refine WS.nil ?_
      (repeat refine J.seq ?_)
      refine J.region ?_
      refine WL.yes (by rfl) (Ex.q (q_move (by rfl)) (by rfl) ?_)
      refine WL.yes (by rfl) (Ex.q (q_not (by rfl)) (by rfl) ?_)
      refine WL.nil ?_
      (repeat refine J.seq ?_)
      refine J.cond (by rfl) (fun c34 => ?_) (fun c34 => ?_)
      · skip
        (first | have e34 := of_decide_eq_true c34 | have e34 := of_decide_eq_false c34 | have e34 := ndec_t c34 | have e34 := ndec_f c34 | skip)
        have h1 : has (lat s.H k).p s.W = false := hasW (by simpa using c34)
        (repeat refine J.seq ?_)
        refine J.region ?_
        refine WL.yes (by rfl) (Ex.q (q_move (by rfl)) (by rfl) ?_)
        first | (refine WL.yes (by rfl) (Ex.h (h_load (by rfl) (by rfl) (by rfl)) (by rfl) ?_)) | (refine WL.yes (by rfl) (Ex.q (q_load (by rfl) (by rfl) (by rfl)) (by rfl) ?_)) | (refine WL.yes (by rfl) (Ex.q (q_load_rop (by rfl) (by rfl)) (by rfl) ?_)) | (refine WL.yes (by rfl) (Ex.h (h_load_pel (by rfl) (by rfl) ?_ (by rfl)) (by rfl) ?_); (· (omega))) | (refine WL.yes (by rfl) (Ex.q (q_load_pel (by rfl) (by rfl) ?_ (by rfl)) (by rfl) ?_); (· (omega)))
        refine WL.yes (by rfl) (Ex.q (q_build (parts := [(0, .const (.int .i64 3)), (1, .tmp 36)]) (by rfl) (by rfl)) (by rfl) ?_)
        refine WL.yes (by rfl) (Ex.buildSlice (parts := [(0, .tmp 37)]) (us := [_]) (by rfl) (by rfl) rfl (by rfl) (by rfl) ?_)
        intro b38
        refine WL.yes (by rfl) (Ex.append (e := opE) (l := ((s.H.take k).foldl (td1 s.W) [])) (l' := [⟨3, lat s.H k⟩]) (by rfl) (by rfl) (by rfl) (by rfl) (Rd.lit [_] rfl rfl rfl) ?_ ?_); (· (have := td1_len (W := s.W) (s.H.take k) []; have := List.length_take_le k s.H; have := hs.lh; simp only [List.length_nil, List.length_singleton] at *; omega))
        intro a39 cap39
        refine WL.yes (by rfl) (Ex.q (q_assign (by rfl)) (by rfl) ?_)
        refine WL.nil ?_
        (repeat refine J.seq ?_)
        refine J.region ?_
        refine WL.yes (by rfl) (Ex.q (q_int (by rfl) (by rfl) (by rfl)) (by rfl) ?_)
        refine WL.yes (by rfl) (Ex.q (q_move (by rfl)) (by rfl) ?_)
        refine WL.nil ?_
        first | ((have hs1 := fold_step (f := td1 s.W) (b := []) hk2; rw [td1_yes h1] at hs1); refine Kloop.nextP (k + 1, a39, cap39) ?_ ?_ ⟨⟨_, rfl, by rw [hs1]; cases a39 <;> rfl, fun _ => trivial⟩, same (by rw [← w64_nat (k := k) (by omega)]; rfl), trivial⟩ ⟨same rfl, same rfl, same rfl, trivial⟩ (.cons (s := 39) rfl (by rw [hs1]; exact CLe.refl _ _) rfl (.cons (s := 1051) rfl (CLe.refl _ _) rfl (.cons (s := 1052) rfl (CLe.refl _ _) rfl (.cons (s := 1053) rfl (CLe.refl _ _) rfl (.cons (s := 1054) rfl (CLe.refl _ _) rfl (.cons (s := 1060) rfl (CLe.refl _ _) rfl (.cons (s := 1104) rfl (CLe.refl _ _) rfl .nil))))))); (· ((try dsimp only) <;> omega)); (· ((try dsimp only) <;> omega))) | ((have hs1 := fold_step (f := td1 s.W) (b := []) hk2; rw [td1_no h1] at hs1); refine Kloop.nextP (k + 1, a2, c2) ?_ ?_ ⟨⟨_, rfl, by rw [hs1], fun _ => trivial⟩, same (by rw [← w64_nat (k := k) (by omega)]; rfl), trivial⟩ ⟨same rfl, same rfl, same rfl, trivial⟩ (.cons (s := 2) rfl (by rw [hs1]; exact CLe.refl _ _) rfl (.cons (s := 1051) rfl (CLe.refl _ _) rfl (.cons (s := 1052) rfl (CLe.refl _ _) rfl (.cons (s := 1053) rfl (CLe.refl _ _) rfl (.cons (s := 1054) rfl (CLe.refl _ _) rfl (.cons (s := 1060) rfl (CLe.refl _ _) rfl (.cons (s := 1104) rfl (CLe.refl _ _) rfl .nil))))))); (· ((try dsimp only) <;> omega)); (· ((try dsimp only) <;> omega)))
      · skip
        (first | have e34 := of_decide_eq_true c34 | have e34 := of_decide_eq_false c34 | have e34 := ndec_t c34 | have e34 := ndec_f c34 | skip)
        have h1 : has (lat s.H k).p s.W = true := hasW (by simpa using c34)
        (repeat refine J.seq ?_)
        refine J.skip ?_
        (repeat refine J.seq ?_)
        refine J.region ?_
        refine WL.yes (by rfl) (Ex.q (q_int (by rfl) (by rfl) (by rfl)) (by rfl) ?_)
        refine WL.yes (by rfl) (Ex.q (q_move (by rfl)) (by rfl) ?_)
        refine WL.nil ?_
        first | ((have hs1 := fold_step (f := td1 s.W) (b := []) hk2; rw [td1_yes h1] at hs1); refine Kloop.nextP (k + 1, a39, cap39) ?_ ?_ ⟨⟨_, rfl, by rw [hs1]; cases a39 <;> rfl, fun _ => trivial⟩, same (by rw [← w64_nat (k := k) (by omega)]; rfl), trivial⟩ ⟨same rfl, same rfl, same rfl, trivial⟩ (.cons (s := 39) rfl (by rw [hs1]; exact CLe.refl _ _) rfl (.cons (s := 1051) rfl (CLe.refl _ _) rfl (.cons (s := 1052) rfl (CLe.refl _ _) rfl (.cons (s := 1053) rfl (CLe.refl _ _) rfl (.cons (s := 1054) rfl (CLe.refl _ _) rfl (.cons (s := 1060) rfl (CLe.refl _ _) rfl (.cons (s := 1104) rfl (CLe.refl _ _) rfl .nil))))))); (· ((try dsimp only) <;> omega)); (· ((try dsimp only) <;> omega))) | ((have hs1 := fold_step (f := td1 s.W) (b := []) hk2; rw [td1_no h1] at hs1); refine Kloop.nextP (k + 1, a2, c2) ?_ ?_ ⟨⟨_, rfl, by rw [hs1], fun _ => trivial⟩, same (by rw [← w64_nat (k := k) (by omega)]; rfl), trivial⟩ ⟨same rfl, same rfl, same rfl, trivial⟩ (.cons (s := 2) rfl (by rw [hs1]; exact CLe.refl _ _) rfl (.cons (s := 1051) rfl (CLe.refl _ _) rfl (.cons (s := 1052) rfl (CLe.refl _ _) rfl (.cons (s := 1053) rfl (CLe.refl _ _) rfl (.cons (s := 1054) rfl (CLe.refl _ _) rfl (.cons (s := 1060) rfl (CLe.refl _ _) rfl (.cons (s := 1104) rfl (CLe.refl _ _) rfl .nil))))))); (· ((try dsimp only) <;> omega)); (· ((try dsimp only) <;> omega)))
    · skip
      (first | have e20 := of_decide_eq_true c20 | have e20 := of_decide_eq_false c20 | have e20 := ndec_t c20 | have e20 := ndec_f c20 | skip)
      (repeat refine J.seq ?_)
      refine J.exit ?_
      (repeat refine J.seq ?_)
      have hkn : s.H.take k = s.H := take_all (by omega)
      rw [hkn]
      refine J.region ?_
      refine WL.yes (by rfl) (Ex.q (q_move (by rfl)) (by rfl) ?_)
      refine WL.yes (by rfl) (Ex.q (q_nilCheck (by rfl) (by rfl)) (by rfl) ?_)
      first | (refine WL.yes (by rfl) (Ex.q (q_fieldAddr (by rfl)) (by rfl) ?_)) | (refine WL.yes (by rfl) (Ex.q (q_fieldAddr_rop (by rfl) (by rfl)) (by rfl) ?_)) | (refine WL.yes (by rfl) (Ex.q (q_fieldAddr_pel (by rfl)) (by rfl) ?_))
      first | (refine WL.yes (by rfl) (Ex.h (h_load (by rfl) (by rfl) (by rfl)) (by rfl) ?_)) | (refine WL.yes (by rfl) (Ex.q (q_load (by rfl) (by rfl) (by rfl)) (by rfl) ?_)) | (refine WL.yes (by rfl) (Ex.q (q_load_rop (by rfl) (by rfl)) (by rfl) ?_)) | (refine WL.yes (by rfl) (Ex.h (h_load_pel (by rfl) (by rfl) ?_ (by rfl)) (by rfl) ?_); (· (omega))) | (refine WL.yes (by rfl) (Ex.q (q_load_pel (by rfl) (by rfl) ?_ (by rfl)) (by rfl) ?_); (· (omega)))
      refine WL.yes (by rfl) (Ex.callL (list61 1052 1105 mw (by decide) hs.w (by omega)) (by rfl) (by rfl) (.cons rfl .nil) ?_)
      rintro _ _ ⟨a45, cap45, rfl, rfl⟩
      first | (refine WL.yes (by rfl) (Ex.q (q_len_slice (by rfl) (by rfl)) (by rfl) ?_)) | (refine WL.yes (by rfl) (Ex.q (q_len_string (by rfl)) (by rfl) ?_))
      refine WL.yes (by rfl) (Ex.q (q_move (by rfl)) (by rfl) ?_)
      refine WL.nil ?_
      (repeat refine J.seq ?_)
      refine J.block ?_
      (repeat refine J.seq ?_)
      refine J.loopP (fun x : Nat × Option Nat × Nat => x.1 ≤ s.W.length) (fun x => [(2, .sl 2 x.2.1 52 0 x.2.2 ((s.W.take x.1).foldl (td2 s.H) (s.H.foldl (td1 s.W) [])).length), (47, iV x.1)]) (fun x => [(2, lvec x.2.1 39 52 x.2.2 opE ((s.W.take x.1).foldl (td2 s.H) (s.H.foldl (td1 s.W) [])))]) (fun x => s.W.length - x.1) (0, a2, c2) [(0, _), (45, _), (46, _)] [(1051, _), (1052, _), (1053, _), (1054, _), (1060, _), (1104, _), (1105, _)] ⟨same rfl, same rfl, same rfl, trivial⟩ ⟨same rfl, same rfl, trivial⟩ (.cons (s := 2) rfl (CLe.refl _ _) rfl (.cons (s := 1051) rfl (CLe.refl _ _) rfl (.cons (s := 1052) rfl (CLe.refl _ _) rfl (.cons (s := 1053) rfl (CLe.refl _ _) rfl (.cons (s := 1054) rfl (CLe.refl _ _) rfl (.cons (s := 1060) rfl (CLe.refl _ _) rfl (.cons (s := 1104) rfl (CLe.refl _ _) rfl (.cons (s := 1105) rfl (CLe.refl _ _) rfl .nil)))))))) ?_ ?_
      · (exact Nat.zero_le _)
      rintro ⟨k, a2, c2⟩ hx
      (try dsimp only at hx)
      (try dsimp only)
      (repeat refine J.seq ?_)
      refine J.region ?_
      refine WL.yes (by rfl) (Ex.q (q_int (by rfl) (by rfl) (by rfl)) (by rfl) ?_)
      refine WL.nil ?_
      (repeat refine J.seq ?_)
      refine J.cond (by rfl) (fun c48 => ?_) (fun c48 => ?_)
      · skip
        (first | have e48 := of_decide_eq_true c48 | have e48 := of_decide_eq_false c48 | have e48 := ndec_t c48 | have e48 := ndec_f c48 | skip)
        (repeat refine J.seq ?_)
        refine J.skip ?_
        (repeat refine J.seq ?_)
        refine J.block ?_
        (repeat refine J.seq ?_)
        have hk2 : k < s.W.length := by omega
        have hk3 : (lat s.W k).ok := lat_ok hs.w.ok hk2
        refine J.vecsome (t := 1105) rfl (by omega) ?_
        intro b45 hb45
        subst hb45
        refine J.region ?_
        first | (refine WL.yes (by rfl) (Ex.q (q_indexAddr_ros (by rfl) (by rfl) (by intro _; rfl) ?_ ?_) (by rfl) ?_); (· (omega)); (· (omega))) | (refine WL.yes (by rfl) (Ex.q (q_indexAddr_sl (by rfl) (by rfl) ?_ ?_) (by rfl) ?_); (· (omega)); (· (omega))) | (refine WL.yes (by rfl) (Ex.q (q_indexAddr_arr (by rfl) (by rfl) ?_ ?_) (by rfl) ?_); (· (omega)); (· (omega)))
        first | (refine WL.yes (by rfl) (Ex.h (h_load (by rfl) (by rfl) (by rfl)) (by rfl) ?_)) | (refine WL.yes (by rfl) (Ex.q (q_load (by rfl) (by rfl) (by rfl)) (by rfl) ?_)) | (refine WL.yes (by rfl) (Ex.q (q_load_rop (by rfl) (by rfl)) (by rfl) ?_)) | (refine WL.yes (by rfl) (Ex.h (h_load_pel (by rfl) (by rfl) ?_ (by rfl)) (by rfl) ?_); (· (omega))) | (refine WL.yes (by rfl) (Ex.q (q_load_pel (by rfl) (by rfl) ?_ (by rfl)) (by rfl) ?_); (· (omega)))
        refine WL.set 50 (enE (lat s.W k)) (by rfl) (by rw [Nat.zero_add, Int.toNat_natCast]) ?_
        refine WL.yes (by rfl) (Ex.alloc (by rfl) ?_)
        intro b8
        first | (refine WL.yes (by rfl) (Ex.store (by rfl) (by rfl) (by rfl) (by rfl) (by rfl) (by rfl) ?_)) | (refine WL.yes (by rfl) (Ex.store_pel (by rfl) (by rfl) (by rfl) (by rfl) (by rfl) ?_ (by rfl) ?_); (· (omega)))
        refine WL.nil ?_
        (repeat refine J.seq ?_)
        refine J.draw [2, 8, 1051, 1052, 1053, 1054, 1060, 1104, 1105] 9999 [(0, true), (1, true), (2, true), (3, true), (4, true), (5, true), (6, true), (7, true), (8, true), (9, true), (10, false), (11, false), (12, true)] (by kernel_rfl) rfl (by kernel_rfl) ?_
        intro F2 hF2
        refine WS.take rfl (by rfl) (by rfl) (q_move (by rfl)) ?_
        refine WS.take rfl (by rfl) (by rfl) (q_nilCheck (by rfl) (by rfl)) ?_
        first | (refine WS.take rfl (by rfl) (by rfl) (q_fieldAddr (by rfl)) ?_) | (refine WS.take rfl (by rfl) (by rfl) (q_fieldAddr_rop (by rfl) (by rfl)) ?_) | (refine WS.take rfl (by rfl) (by rfl) (q_fieldAddr_pel (by rfl)) ?_)
        first | (refine WS.take rfl (by rfl) (by rfl) (q_load (by rfl) (by rfl) (by rfl)) ?_) | (refine WS.take rfl (by rfl) (by rfl) (q_load_rop (by rfl) (by rfl)) ?_) | (refine WS.take rfl (by rfl) (by rfl) (q_load_pel (by rfl) (by rfl) ?_ (by rfl)) ?_; (· (omega)))
        first | (refine WS.take rfl (by rfl) (by rfl) (q_fieldAddr (by rfl)) ?_) | (refine WS.take rfl (by rfl) (by rfl) (q_fieldAddr_rop (by rfl) (by rfl)) ?_) | (refine WS.take rfl (by rfl) (by rfl) (q_fieldAddr_pel (by rfl)) ?_)
        first | (refine WS.take rfl (by rfl) (by rfl) (q_load (by rfl) (by rfl) (by rfl)) ?_) | (refine WS.take rfl (by rfl) (by rfl) (q_load_rop (by rfl) (by rfl)) ?_) | (refine WS.take rfl (by rfl) (by rfl) (q_load_pel (by rfl) (by rfl) ?_ (by rfl)) ?_; (· (omega)))
        refine WS.take rfl (by rfl) (by rfl) (q_lookup_ok (e := prE) (f := enE) rfl (by rfl) (by rfl) (by rfl) hs.h.keys hk3.1) ?_
        refine WS.take rfl (by rfl) (by rfl) (q_move (by rfl)) ?_
        first | (refine WS.take rfl (by rfl) (by rfl) (q_extract2 (by rfl) (by rfl)) ?_) | (refine WS.take rfl (by rfl) (by rfl) (q_extract3 (by rfl) (by rfl)) ?_)
        first | (refine WS.take rfl (by rfl) (by rfl) (q_extract2 (by rfl) (by rfl)) ?_) | (refine WS.take rfl (by rfl) (by rfl) (q_extract3 (by rfl) (by rfl)) ?_)
        refine WS.ex rfl (by rfl) (Ex.alloc (by rfl) ?_)
        intro b9
        first | (refine WS.ex rfl (by rfl) (Ex.store (by rfl) (by rfl) (by rfl) (by rfl) (by rfl) (by rfl) ?_)) | (refine WS.ex rfl (by rfl) (Ex.store_pel (by rfl) (by rfl) (by rfl) (by rfl) (by rfl) ?_ (by rfl) ?_); (· (omega)))
        refine WS.take rfl (by rfl) (by rfl) (q_assign (by rfl)) ?_
        refine WS.nil ?_
        (repeat refine J.seq ?_)
        refine J.block ?_
        (repeat refine J.seq ?_)
        refine J.region ?_
        refine WL.yes (by rfl) (Ex.q (q_move (by rfl)) (by rfl) ?_)
        refine WL.yes (by rfl) (Ex.q (q_not (by rfl)) (by rfl) ?_)
        refine WL.yes (by rfl) (Ex.q (q_assign (by rfl)) (by rfl) ?_)
        refine WL.nil ?_
        (repeat refine J.seq ?_)
        refine J.cond (by rfl) (fun c61 => ?_) (fun c61 => ?_)
        · skip
          (first | have e61 := of_decide_eq_true c61 | have e61 := of_decide_eq_false c61 | have e61 := ndec_t c61 | have e61 := ndec_f c61 | skip)
          have h1 : has (lat s.W k).p s.H = false := hasW (by simpa using c61)
          (repeat refine J.seq ?_)
          refine J.region ?_
          refine WL.yes (by rfl) (Ex.q (q_move (by rfl)) (by rfl) ?_)
          first | (refine WL.yes (by rfl) (Ex.h (h_load (by rfl) (by rfl) (by rfl)) (by rfl) ?_)) | (refine WL.yes (by rfl) (Ex.q (q_load (by rfl) (by rfl) (by rfl)) (by rfl) ?_)) | (refine WL.yes (by rfl) (Ex.q (q_load_rop (by rfl) (by rfl)) (by rfl) ?_)) | (refine WL.yes (by rfl) (Ex.h (h_load_pel (by rfl) (by rfl) ?_ (by rfl)) (by rfl) ?_); (· (omega))) | (refine WL.yes (by rfl) (Ex.q (q_load_pel (by rfl) (by rfl) ?_ (by rfl)) (by rfl) ?_); (· (omega)))
          refine WL.yes (by rfl) (Ex.q (q_build (parts := [(0, .const (.int .i64 1)), (1, .tmp 65)]) (by rfl) (by rfl)) (by rfl) ?_)
          refine WL.yes (by rfl) (Ex.buildSlice (parts := [(0, .tmp 66)]) (us := [_]) (by rfl) (by rfl) rfl (by rfl) (by rfl) ?_)
          intro b67
          refine WL.yes (by rfl) (Ex.append (e := opE) (l := ((s.W.take k).foldl (td2 s.H) (s.H.foldl (td1 s.W) []))) (l' := [⟨1, lat s.W k⟩]) (by rfl) (by rfl) (by rfl) (by rfl) (Rd.lit [_] rfl rfl rfl) ?_ ?_); (· (have := td2_len (H := s.H) (s.W.take k) (s.H.foldl (td1 s.W) []); have := td1_len (W := s.W) s.H []; have := List.length_take_le k s.W; have := hs.lh; have := hs.lw; simp only [List.length_nil, List.length_singleton] at *; omega))
          intro a68 cap68
          refine WL.yes (by rfl) (Ex.q (q_assign (by rfl)) (by rfl) ?_)
          refine WL.nil ?_
          (repeat refine J.seq ?_)
          refine J.region ?_
          refine WL.yes (by rfl) (Ex.q (q_int (by rfl) (by rfl) (by rfl)) (by rfl) ?_)
          refine WL.yes (by rfl) (Ex.q (q_move (by rfl)) (by rfl) ?_)
          refine WL.nil ?_
          first | ((have hs1 := fold_step (f := td2 s.H) (b := (s.H.foldl (td1 s.W) [])) hk2; rw [td2_add h1] at hs1); refine Kloop.nextP (k + 1, a68, cap68) ?_ ?_ ⟨⟨_, rfl, by rw [hs1]; cases a68 <;> rfl, fun _ => trivial⟩, same (by rw [← w64_nat (k := k) (by omega)]; rfl), trivial⟩ ⟨same rfl, same rfl, same rfl, trivial⟩ (.cons (s := 68) rfl (by rw [hs1]; exact CLe.refl _ _) rfl (.cons (s := 1051) rfl (CLe.refl _ _) rfl (.cons (s := 1052) rfl (CLe.refl _ _) rfl (.cons (s := 1053) rfl (CLe.refl _ _) rfl (.cons (s := 1054) rfl (CLe.refl _ _) rfl (.cons (s := 1060) rfl (CLe.refl _ _) rfl (.cons (s := 1104) rfl (CLe.refl _ _) rfl (.cons (s := 1105) rfl (CLe.refl _ _) rfl .nil)))))))); (· ((try dsimp only) <;> omega)); (· ((try dsimp only) <;> omega))) | ((have hs1 := fold_step (f := td2 s.H) (b := (s.H.foldl (td1 s.W) [])) hk2; rw [td2_chg h1 h2] at hs1); refine Kloop.nextP (k + 1, a77, cap77) ?_ ?_ ⟨⟨_, rfl, by rw [hs1]; cases a77 <;> rfl, fun _ => trivial⟩, same (by rw [← w64_nat (k := k) (by omega)]; rfl), trivial⟩ ⟨same rfl, same rfl, same rfl, trivial⟩ (.cons (s := 77) rfl (by rw [hs1]; exact CLe.refl _ _) rfl (.cons (s := 1051) rfl (CLe.refl _ _) rfl (.cons (s := 1052) rfl (CLe.refl _ _) rfl (.cons (s := 1053) rfl (CLe.refl _ _) rfl (.cons (s := 1054) rfl (CLe.refl _ _) rfl (.cons (s := 1060) rfl (CLe.refl _ _) rfl (.cons (s := 1104) rfl (CLe.refl _ _) rfl (.cons (s := 1105) rfl (CLe.refl _ _) rfl .nil)))))))); (· ((try dsimp only) <;> omega)); (· ((try dsimp only) <;> omega))) | ((have hs1 := fold_step (f := td2 s.H) (b := (s.H.foldl (td1 s.W) [])) hk2; rw [td2_no h1 h2] at hs1); refine Kloop.nextP (k + 1, a2, c2) ?_ ?_ ⟨⟨_, rfl, by rw [hs1], fun _ => trivial⟩, same (by rw [← w64_nat (k := k) (by omega)]; rfl), trivial⟩ ⟨same rfl, same rfl, same rfl, trivial⟩ (.cons (s := 2) rfl (by rw [hs1]; exact CLe.refl _ _) rfl (.cons (s := 1051) rfl (CLe.refl _ _) rfl (.cons (s := 1052) rfl (CLe.refl _ _) rfl (.cons (s := 1053) rfl (CLe.refl _ _) rfl (.cons (s := 1054) rfl (CLe.refl _ _) rfl (.cons (s := 1060) rfl (CLe.refl _ _) rfl (.cons (s := 1104) rfl (CLe.refl _ _) rfl (.cons (s := 1105) rfl (CLe.refl _ _) rfl .nil)))))))); (· ((try dsimp only) <;> omega)); (· ((try dsimp only) <;> omega)))
        · skip
          (first | have e61 := of_decide_eq_true c61 | have e61 := of_decide_eq_false c61 | have e61 := ndec_t c61 | have e61 := ndec_f c61 | skip)
          have h1 : has (lat s.W k).p s.H = true := hasW (by simpa using c61)
          (repeat refine J.seq ?_)
          refine J.region ?_
          first | (refine WL.yes (by rfl) (Ex.h (h_load (by rfl) (by rfl) (by rfl)) (by rfl) ?_)) | (refine WL.yes (by rfl) (Ex.q (q_load (by rfl) (by rfl) (by rfl)) (by rfl) ?_)) | (refine WL.yes (by rfl) (Ex.q (q_load_rop (by rfl) (by rfl)) (by rfl) ?_)) | (refine WL.yes (by rfl) (Ex.h (h_load_pel (by rfl) (by rfl) ?_ (by rfl)) (by rfl) ?_); (· (omega))) | (refine WL.yes (by rfl) (Ex.q (q_load_pel (by rfl) (by rfl) ?_ (by rfl)) (by rfl) ?_); (· (omega)))
          first | (refine WL.yes (by rfl) (Ex.h (h_load (by rfl) (by rfl) (by rfl)) (by rfl) ?_)) | (refine WL.yes (by rfl) (Ex.q (q_load (by rfl) (by rfl) (by rfl)) (by rfl) ?_)) | (refine WL.yes (by rfl) (Ex.q (q_load_rop (by rfl) (by rfl)) (by rfl) ?_)) | (refine WL.yes (by rfl) (Ex.h (h_load_pel (by rfl) (by rfl) ?_ (by rfl)) (by rfl) ?_); (· (omega))) | (refine WL.yes (by rfl) (Ex.q (q_load_pel (by rfl) (by rfl) ?_ (by rfl)) (by rfl) ?_); (· (omega)))
          first | (refine WL.yes (by rfl) (Ex.q (q_int (by rfl) (by rfl) (by rfl)) (by rfl) ?_)) | (refine WL.yes (by rfl) (Ex.q (q_neb (by rfl) (by rfl)) (by rfl) ?_)) | (refine WL.yes (by rfl) (Ex.q (q_nep rfl rfl (by rfl) (by rfl) ?_) (by rfl) ?_); (· (rfl))) | (refine WL.yes (by rfl) (Ex.q (q_eqs (by rfl) (by rfl)) (by rfl) ?_))
          refine WL.yes (by rfl) (Ex.q (q_assign (by rfl)) (by rfl) ?_)
          refine WL.nil ?_
          (repeat refine J.seq ?_)
          refine J.cond (by rfl) (fun c69 => ?_) (fun c69 => ?_)
          · skip
            (first | have e69 := of_decide_eq_true c69 | have e69 := of_decide_eq_false c69 | have e69 := ndec_t c69 | have e69 := ndec_f c69 | skip)
            rw [eqEn (tget_ok hs.h) hk3, alook_tlook] at c69
            have h2 : ¬ (tlook (lat s.W k).p s.H).getD default = lat s.W k := by simpa only [Bool.not_eq_true', decide_eq_false_iff_not] using c69
            (repeat refine J.seq ?_)
            refine J.region ?_
            refine WL.yes (by rfl) (Ex.q (q_move (by rfl)) (by rfl) ?_)
            first | (refine WL.yes (by rfl) (Ex.h (h_load (by rfl) (by rfl) (by rfl)) (by rfl) ?_)) | (refine WL.yes (by rfl) (Ex.q (q_load (by rfl) (by rfl) (by rfl)) (by rfl) ?_)) | (refine WL.yes (by rfl) (Ex.q (q_load_rop (by rfl) (by rfl)) (by rfl) ?_)) | (refine WL.yes (by rfl) (Ex.h (h_load_pel (by rfl) (by rfl) ?_ (by rfl)) (by rfl) ?_); (· (omega))) | (refine WL.yes (by rfl) (Ex.q (q_load_pel (by rfl) (by rfl) ?_ (by rfl)) (by rfl) ?_); (· (omega)))
            refine WL.yes (by rfl) (Ex.q (q_build (parts := [(0, .const (.int .i64 2)), (1, .tmp 74)]) (by rfl) (by rfl)) (by rfl) ?_)
            refine WL.yes (by rfl) (Ex.buildSlice (parts := [(0, .tmp 75)]) (us := [_]) (by rfl) (by rfl) rfl (by rfl) (by rfl) ?_)
            intro b76
            refine WL.yes (by rfl) (Ex.append (e := opE) (l := ((s.W.take k).foldl (td2 s.H) (s.H.foldl (td1 s.W) []))) (l' := [⟨2, lat s.W k⟩]) (by rfl) (by rfl) (by rfl) (by rfl) (Rd.lit [_] rfl rfl rfl) ?_ ?_); (· (have := td2_len (H := s.H) (s.W.take k) (s.H.foldl (td1 s.W) []); have := td1_len (W := s.W) s.H []; have := List.length_take_le k s.W; have := hs.lh; have := hs.lw; simp only [List.length_nil, List.length_singleton] at *; omega))
            intro a77 cap77
            refine WL.yes (by rfl) (Ex.q (q_assign (by rfl)) (by rfl) ?_)
            refine WL.nil ?_
            (repeat refine J.seq ?_)
            refine J.region ?_
            refine WL.yes (by rfl) (Ex.q (q_int (by rfl) (by rfl) (by rfl)) (by rfl) ?_)
            refine WL.yes (by rfl) (Ex.q (q_move (by rfl)) (by rfl) ?_)
            refine WL.nil ?_
            first | ((have hs1 := fold_step (f := td2 s.H) (b := (s.H.foldl (td1 s.W) [])) hk2; rw [td2_add h1] at hs1); refine Kloop.nextP (k + 1, a68, cap68) ?_ ?_ ⟨⟨_, rfl, by rw [hs1]; cases a68 <;> rfl, fun _ => trivial⟩, same (by rw [← w64_nat (k := k) (by omega)]; rfl), trivial⟩ ⟨same rfl, same rfl, same rfl, trivial⟩ (.cons (s := 68) rfl (by rw [hs1]; exact CLe.refl _ _) rfl (.cons (s := 1051) rfl (CLe.refl _ _) rfl (.cons (s := 1052) rfl (CLe.refl _ _) rfl (.cons (s := 1053) rfl (CLe.refl _ _) rfl (.cons (s := 1054) rfl (CLe.refl _ _) rfl (.cons (s := 1060) rfl (CLe.refl _ _) rfl (.cons (s := 1104) rfl (CLe.refl _ _) rfl (.cons (s := 1105) rfl (CLe.refl _ _) rfl .nil)))))))); (· ((try dsimp only) <;> omega)); (· ((try dsimp only) <;> omega))) | ((have hs1 := fold_step (f := td2 s.H) (b := (s.H.foldl (td1 s.W) [])) hk2; rw [td2_chg h1 h2] at hs1); refine Kloop.nextP (k + 1, a77, cap77) ?_ ?_ ⟨⟨_, rfl, by rw [hs1]; cases a77 <;> rfl, fun _ => trivial⟩, same (by rw [← w64_nat (k := k) (by omega)]; rfl), trivial⟩ ⟨same rfl, same rfl, same rfl, trivial⟩ (.cons (s := 77) rfl (by rw [hs1]; exact CLe.refl _ _) rfl (.cons (s := 1051) rfl (CLe.refl _ _) rfl (.cons (s := 1052) rfl (CLe.refl _ _) rfl (.cons (s := 1053) rfl (CLe.refl _ _) rfl (.cons (s := 1054) rfl (CLe.refl _ _) rfl (.cons (s := 1060) rfl (CLe.refl _ _) rfl (.cons (s := 1104) rfl (CLe.refl _ _) rfl (.cons (s := 1105) rfl (CLe.refl _ _) rfl .nil)))))))); (· ((try dsimp only) <;> omega)); (· ((try dsimp only) <;> omega))) | ((have hs1 := fold_step (f := td2 s.H) (b := (s.H.foldl (td1 s.W) [])) hk2; rw [td2_no h1 h2] at hs1); refine Kloop.nextP (k + 1, a2, c2) ?_ ?_ ⟨⟨_, rfl, by rw [hs1], fun _ => trivial⟩, same (by rw [← w64_nat (k := k) (by omega)]; rfl), trivial⟩ ⟨same rfl, same rfl, same rfl, trivial⟩ (.cons (s := 2) rfl (by rw [hs1]; exact CLe.refl _ _) rfl (.cons (s := 1051) rfl (CLe.refl _ _) rfl (.cons (s := 1052) rfl (CLe.refl _ _) rfl (.cons (s := 1053) rfl (CLe.refl _ _) rfl (.cons (s := 1054) rfl (CLe.refl _ _) rfl (.cons (s := 1060) rfl (CLe.refl _ _) rfl (.cons (s := 1104) rfl (CLe.refl _ _) rfl (.cons (s := 1105) rfl (CLe.refl _ _) rfl .nil)))))))); (· ((try dsimp only) <;> omega)); (· ((try dsimp only) <;> omega)))
          · skip
            (first | have e69 := of_decide_eq_true c69 | have e69 := of_decide_eq_false c69 | have e69 := ndec_t c69 | have e69 := ndec_f c69 | skip)
            rw [eqEn (tget_ok hs.h) hk3, alook_tlook] at c69
            have h2 : (tlook (lat s.W k).p s.H).getD default = lat s.W k := by simpa only [Bool.not_eq_false', decide_eq_true_eq] using c69
            (repeat refine J.seq ?_)
            refine J.skip ?_
            (repeat refine J.seq ?_)
            refine J.region ?_
            refine WL.yes (by rfl) (Ex.q (q_int (by rfl) (by rfl) (by rfl)) (by rfl) ?_)
            refine WL.yes (by rfl) (Ex.q (q_move (by rfl)) (by rfl) ?_)
            refine WL.nil ?_
            first | ((have hs1 := fold_step (f := td2 s.H) (b := (s.H.foldl (td1 s.W) [])) hk2; rw [td2_add h1] at hs1); refine Kloop.nextP (k + 1, a68, cap68) ?_ ?_ ⟨⟨_, rfl, by rw [hs1]; cases a68 <;> rfl, fun _ => trivial⟩, same (by rw [← w64_nat (k := k) (by omega)]; rfl), trivial⟩ ⟨same rfl, same rfl, same rfl, trivial⟩ (.cons (s := 68) rfl (by rw [hs1]; exact CLe.refl _ _) rfl (.cons (s := 1051) rfl (CLe.refl _ _) rfl (.cons (s := 1052) rfl (CLe.refl _ _) rfl (.cons (s := 1053) rfl (CLe.refl _ _) rfl (.cons (s := 1054) rfl (CLe.refl _ _) rfl (.cons (s := 1060) rfl (CLe.refl _ _) rfl (.cons (s := 1104) rfl (CLe.refl _ _) rfl (.cons (s := 1105) rfl (CLe.refl _ _) rfl .nil)))))))); (· ((try dsimp only) <;> omega)); (· ((try dsimp only) <;> omega))) | ((have hs1 := fold_step (f := td2 s.H) (b := (s.H.foldl (td1 s.W) [])) hk2; rw [td2_chg h1 h2] at hs1); refine Kloop.nextP (k + 1, a77, cap77) ?_ ?_ ⟨⟨_, rfl, by rw [hs1]; cases a77 <;> rfl, fun _ => trivial⟩, same (by rw [← w64_nat (k := k) (by omega)]; rfl), trivial⟩ ⟨same rfl, same rfl, same rfl, trivial⟩ (.cons (s := 77) rfl (by rw [hs1]; exact CLe.refl _ _) rfl (.cons (s := 1051) rfl (CLe.refl _ _) rfl (.cons (s := 1052) rfl (CLe.refl _ _) rfl (.cons (s := 1053) rfl (CLe.refl _ _) rfl (.cons (s := 1054) rfl (CLe.refl _ _) rfl (.cons (s := 1060) rfl (CLe.refl _ _) rfl (.cons (s := 1104) rfl (CLe.refl _ _) rfl (.cons (s := 1105) rfl (CLe.refl _ _) rfl .nil)))))))); (· ((try dsimp only) <;> omega)); (· ((try dsimp only) <;> omega))) | ((have hs1 := fold_step (f := td2 s.H) (b := (s.H.foldl (td1 s.W) [])) hk2; rw [td2_no h1 h2] at hs1); refine Kloop.nextP (k + 1, a2, c2) ?_ ?_ ⟨⟨_, rfl, by rw [hs1], fun _ => trivial⟩, same (by rw [← w64_nat (k := k) (by omega)]; rfl), trivial⟩ ⟨same rfl, same rfl, same rfl, trivial⟩ (.cons (s := 2) rfl (by rw [hs1]; exact CLe.refl _ _) rfl (.cons (s := 1051) rfl (CLe.refl _ _) rfl (.cons (s := 1052) rfl (CLe.refl _ _) rfl (.cons (s := 1053) rfl (CLe.refl _ _) rfl (.cons (s := 1054) rfl (CLe.refl _ _) rfl (.cons (s := 1060) rfl (CLe.refl _ _) rfl (.cons (s := 1104) rfl (CLe.refl _ _) rfl (.cons (s := 1105) rfl (CLe.refl _ _) rfl .nil)))))))); (· ((try dsimp only) <;> omega)); (· ((try dsimp only) <;> omega)))
      · skip
        (first | have e48 := of_decide_eq_true c48 | have e48 := of_decide_eq_false c48 | have e48 := ndec_t c48 | have e48 := ndec_f c48 | skip)
        (repeat refine J.seq ?_)
        refine J.exit ?_
        (repeat refine J.seq ?_)
        refine J.region ?_
        refine WL.yes (by rfl) (Ex.q (q_move (by rfl)) (by rfl) ?_)
        refine WL.yes (by rfl) (Ex.q (q_assign (by rfl)) (by rfl) ?_)
        refine WL.nil ?_
        (repeat refine J.seq ?_)
        refine J.ret ?_
        (repeat (with_reducible first | refine Kseq.ret ?_ | refine Kblock.ret ?_ | refine Kloop.ret ?_ | refine Kcut.ret ?_))
        have hkn : s.W.take k = s.W := take_all (by omega)
        rw [hkn]
        rw [FO_n hy]
        exact Kret.mk2 (vs := [_]) (.sl 2067 a2 52 0 c2 s.todo.length) _ (.tmp (by rfl) .nil) (by rfl) trivial (by cases a2 <;> rfl) (fun _ _ => trivial) (HLe.sub (.cons (s := 1060) rfl (CLe.refl _ _) rfl (.cons (s := 1051) rfl (CLe.refl _ _) rfl (.cons (s := 1052) rfl (CLe.refl _ _) rfl (.cons (s := 1053) rfl (CLe.refl _ _) rfl (.non (.cons (s := 2) rfl (CLe.refl _ _) rfl .nil))))))) ⟨a2, c2, rfl, rfl⟩

set_option maxHeartbeats 16000000 in
set_option maxRecDepth 100000 in
theorem fTodo_p (fb mh mw mf wp : Nat) {s : FS} (hy : s.busy = true)(hs : FOk s) : Spec Try.prog 67 [.ptr 1060 fb 0] [(1060, .box fb 103 (fV mh mw mf (.ptr 1054 wp 0))), (1051, tbl mh s.H), (1052, tbl mw s.W), (1053, mpc mf prE iV s.F), (1054, .box wp 39 (opE s.wo))] (fun r H' => ∃ a cap, r = .sl 2067 a 52 0 cap s.todo.length ∧ H' = FO fb mh mw mf wp s ++ [(2067, lvec a 39 52 cap opE s.todo)]) := by
  refine Spec.of_J Try.func67 rfl Try.ntmps67 Try.results67 rfl ?_
  intro A F hAF
  have hlh := hs.lh
  have hlw := hs.lw
  (repeat refine J.seq ?_)
  refine J.region ?_
  refine WL.yes (by rfl) (Ex.q (q_assign (by rfl)) (by rfl) ?_)
  refine WL.nil ?_
  (repeat refine J.seq ?_)
  refine J.region ?_
  refine WL.yes (by rfl) (Ex.q (q_move (by rfl)) (by rfl) ?_)
  refine WL.yes (by rfl) (Ex.q (q_eqnil (by rfl) (by rfl) (by rfl)) (by rfl) ?_)
  refine WL.nil ?_
  (repeat refine J.seq ?_)
  refine J.cond (by rfl) (fun c12 => ?_) (fun c12 => ?_)
  · skip
    cases c12
  · skip
    (first | have e12 := of_decide_eq_true c12 | have e12 := of_decide_eq_false c12 | have e12 := ndec_t c12 | have e12 := ndec_f c12 | skip)
    (repeat refine J.seq ?_)
    refine J.skip ?_
    (repeat refine J.seq ?_)
    refine J.region ?_
    refine WL.yes (by rfl) (Ex.q (q_move (by rfl)) (by rfl) ?_)
    refine WL.yes (by rfl) (Ex.q (q_nilCheck (by rfl) (by rfl)) (by rfl) ?_)
    first | (refine WL.yes (by rfl) (Ex.q (q_fieldAddr (by rfl)) (by rfl) ?_)) | (refine WL.yes (by rfl) (Ex.q (q_fieldAddr_rop (by rfl) (by rfl)) (by rfl) ?_)) | (refine WL.yes (by rfl) (Ex.q (q_fieldAddr_pel (by rfl)) (by rfl) ?_))
    first | (refine WL.yes (by rfl) (Ex.h (h_load (by rfl) (by rfl) (by rfl)) (by rfl) ?_)) | (refine WL.yes (by rfl) (Ex.q (q_load (by rfl) (by rfl) (by rfl)) (by rfl) ?_)) | (refine WL.yes (by rfl) (Ex.q (q_load_rop (by rfl) (by rfl)) (by rfl) ?_)) | (refine WL.yes (by rfl) (Ex.h (h_load_pel (by rfl) (by rfl) ?_ (by rfl)) (by rfl) ?_); (· (omega))) | (refine WL.yes (by rfl) (Ex.q (q_load_pel (by rfl) (by rfl) ?_ (by rfl)) (by rfl) ?_); (· (omega)))
    refine WL.yes (by rfl) (Ex.callL (list61 1051 1104 mh (by decide) hs.h (by omega)) (by rfl) (by rfl) (.cons rfl .nil) ?_)
    rintro _ _ ⟨a17, cap17, rfl, rfl⟩
    first | (refine WL.yes (by rfl) (Ex.q (q_len_slice (by rfl) (by rfl)) (by rfl) ?_)) | (refine WL.yes (by rfl) (Ex.q (q_len_string (by rfl)) (by rfl) ?_))
    refine WL.yes (by rfl) (Ex.q (q_move (by rfl)) (by rfl) ?_)
    refine WL.nil ?_
    (repeat refine J.seq ?_)
    refine J.block ?_
    (repeat refine J.seq ?_)
    refine J.loopP (fun x : Nat × Option Nat × Nat => x.1 ≤ s.H.length) (fun x => [(2, .sl 2 x.2.1 52 0 x.2.2 ((s.H.take x.1).foldl (td1 s.W) []).length), (19, iV x.1)]) (fun x => [(2, lvec x.2.1 39 52 x.2.2 opE ((s.H.take x.1).foldl (td1 s.W) []))]) (fun x => s.H.length - x.1) (0, none, 0) [(0, _), (17, _), (18, _)] [(1051, _), (1052, _), (1053, _), (1054, _), (1060, _), (1104, _)] ⟨same rfl, same rfl, same rfl, trivial⟩ ⟨⟨_, rfl, rfl, fun _ => trivial⟩, same rfl, trivial⟩ (.non (.cons (s := 1051) rfl (CLe.refl _ _) rfl (.cons (s := 1052) rfl (CLe.refl _ _) rfl (.cons (s := 1053) rfl (CLe.refl _ _) rfl (.cons (s := 1054) rfl (CLe.refl _ _) rfl (.cons (s := 1060) rfl (CLe.refl _ _) rfl (.cons (s := 1104) rfl (CLe.refl _ _) rfl .nil))))))) ?_ ?_
    · (exact Nat.zero_le _)
    rintro ⟨k, a2, c2⟩ hx
    (try dsimp only at hx)
    (try dsimp only)
    (repeat refine J.seq ?_)
    refine J.region ?_
    refine WL.yes (by rfl) (Ex.q (q_int (by rfl) (by rfl) (by rfl)) (by rfl) ?_)
    refine WL.nil ?_
    (repeat refine J.seq ?_)
    refine J.cond (by rfl) (fun c20 => ?_) (fun c20 => ?_)
    · skip
      (first | have e20 := of_decide_eq_true c20 | have e20 := of_decide_eq_false c20 | have e20 := ndec_t c20 | have e20 := ndec_f c20 | skip)
      (repeat refine J.seq ?_)
      refine J.skip ?_
      (repeat refine J.seq ?_)
      refine J.block ?_
      (repeat refine J.seq ?_)
      have hk2 : k < s.H.length := by omega
      have hk3 : (lat s.H k).ok := lat_ok hs.h.ok hk2
      refine J.vecsome (t := 1104) rfl (by omega) ?_
      intro b17 hb17
      subst hb17
      refine J.region ?_
      first | (refine WL.yes (by rfl) (Ex.q (q_indexAddr_ros (by rfl) (by rfl) (by intro _; rfl) ?_ ?_) (by rfl) ?_); (· (omega)); (· (omega))) | (refine WL.yes (by rfl) (Ex.q (q_indexAddr_sl (by rfl) (by rfl) ?_ ?_) (by rfl) ?_); (· (omega)); (· (omega))) | (refine WL.yes (by rfl) (Ex.q (q_indexAddr_arr (by rfl) (by rfl) ?_ ?_) (by rfl) ?_); (· (omega)); (· (omega)))
      first | (refine WL.yes (by rfl) (Ex.h (h_load (by rfl) (by rfl) (by rfl)) (by rfl) ?_)) | (refine WL.yes (by rfl) (Ex.q (q_load (by rfl) (by rfl) (by rfl)) (by rfl) ?_)) | (refine WL.yes (by rfl) (Ex.q (q_load_rop (by rfl) (by rfl)) (by rfl) ?_)) | (refine WL.yes (by rfl) (Ex.h (h_load_pel (by rfl) (by rfl) ?_ (by rfl)) (by rfl) ?_); (· (omega))) | (refine WL.yes (by rfl) (Ex.q (q_load_pel (by rfl) (by rfl) ?_ (by rfl)) (by rfl) ?_); (· (omega)))
      refine WL.set 22 (enE (lat s.H k)) (by rfl) (by rw [Nat.zero_add, Int.toNat_natCast]) ?_
      refine WL.yes (by rfl) (Ex.alloc (by rfl) ?_)
      intro b4
      first | (refine WL.yes (by rfl) (Ex.store (by rfl) (by rfl) (by rfl) (by rfl) (by rfl) (by rfl) ?_)) | (refine WL.yes (by rfl) (Ex.store_pel (by rfl) (by rfl) (by rfl) (by rfl) (by rfl) ?_ (by rfl) ?_); (· (omega)))
      refine WL.nil ?_
      (repeat refine J.seq ?_)
      refine J.draw [2, 4, 1051, 1052, 1053, 1054, 1060, 1104] 9999 [(0, true), (1, true), (2, true), (3, true), (4, true), (5, true), (6, true), (7, true), (8, true), (9, true), (10, false), (11, false), (12, true)] (by kernel_rfl) rfl (by kernel_rfl) ?_
      intro F1 hF1
      refine WS.take rfl (by rfl) (by rfl) (q_move (by rfl)) ?_
      refine WS.take rfl (by rfl) (by rfl) (q_nilCheck (by rfl) (by rfl)) ?_
      first | (refine WS.take rfl (by rfl) (by rfl) (q_fieldAddr (by rfl)) ?_) | (refine WS.take rfl (by rfl) (by rfl) (q_fieldAddr_rop (by rfl) (by rfl)) ?_) | (refine WS.take rfl (by rfl) (by rfl) (q_fieldAddr_pel (by rfl)) ?_)
      first | (refine WS.take rfl (by rfl) (by rfl) (q_load (by rfl) (by rfl) (by rfl)) ?_) | (refine WS.take rfl (by rfl) (by rfl) (q_load_rop (by rfl) (by rfl)) ?_) | (refine WS.take rfl (by rfl) (by rfl) (q_load_pel (by rfl) (by rfl) ?_ (by rfl)) ?_; (· (omega)))
      first | (refine WS.take rfl (by rfl) (by rfl) (q_fieldAddr (by rfl)) ?_) | (refine WS.take rfl (by rfl) (by rfl) (q_fieldAddr_rop (by rfl) (by rfl)) ?_) | (refine WS.take rfl (by rfl) (by rfl) (q_fieldAddr_pel (by rfl)) ?_)
      first | (refine WS.take rfl (by rfl) (by rfl) (q_load (by rfl) (by rfl) (by rfl)) ?_) | (refine WS.take rfl (by rfl) (by rfl) (q_load_rop (by rfl) (by rfl)) ?_) | (refine WS.take rfl (by rfl) (by rfl) (q_load_pel (by rfl) (by rfl) ?_ (by rfl)) ?_; (· (omega)))
      refine WS.take rfl (by rfl) (by rfl) (q_lookup_ok (e := prE) (f := enE) rfl (by rfl) (by rfl) (by rfl) hs.w.keys hk3.1) ?_
      refine WS.take rfl (by rfl) (by rfl) (q_move (by rfl)) ?_
      first | (refine WS.take rfl (by rfl) (by rfl) (q_extract2 (by rfl) (by rfl)) ?_) | (refine WS.take rfl (by rfl) (by rfl) (q_extract3 (by rfl) (by rfl)) ?_)
      first | (refine WS.take rfl (by rfl) (by rfl) (q_extract2 (by rfl) (by rfl)) ?_) | (refine WS.take rfl (by rfl) (by rfl) (q_extract3 (by rfl) (by rfl)) ?_)
      refine WS.ex rfl (by rfl) (Ex.alloc (by rfl) ?_)
      intro b5
      first | (refine WS.ex rfl (by rfl) (Ex.store (by rfl) (by rfl) (by rfl) (by rfl) (by rfl) (by rfl) ?_)) | (refine WS.ex rfl (by rfl) (Ex.store_pel (by rfl) (by rfl) (by rfl) (by rfl) (by rfl) ?_ (by rfl) ?_); (· (omega)))
      refine WS.take rfl (by rfl) (by rfl) (q_assign (by rfl)) ?_
      refine WS.nil ?_
      (repeat refine J.seq ?_)
      refine J.region ?_
      refine WL.yes (by rfl) (Ex.q (q_move (by rfl)) (by rfl) ?_)
      refine WL.yes (by rfl) (Ex.q (q_not (by rfl)) (by rfl) ?_)
      refine WL.nil ?_
      (repeat refine J.seq ?_)
      refine J.cond (by rfl) (fun c34 => ?_) (fun c34 => ?_)
      · skip
        (first | have e34 := of_decide_eq_true c34 | have e34 := of_decide_eq_false c34 | have e34 := ndec_t c34 | have e34 := ndec_f c34 | skip)
        have h1 : has (lat s.H k).p s.W = false := hasW (by simpa using c34)
        (repeat refine J.seq ?_)
        refine J.region ?_
        refine WL.yes (by rfl) (Ex.q (q_move (by rfl)) (by rfl) ?_)
        first | (refine WL.yes (by rfl) (Ex.h (h_load (by rfl) (by rfl) (by rfl)) (by rfl) ?_)) | (refine WL.yes (by rfl) (Ex.q (q_load (by rfl) (by rfl) (by rfl)) (by rfl) ?_)) | (refine WL.yes (by rfl) (Ex.q (q_load_rop (by rfl) (by rfl)) (by rfl) ?_)) | (refine WL.yes (by rfl) (Ex.h (h_load_pel (by rfl) (by rfl) ?_ (by rfl)) (by rfl) ?_); (· (omega))) | (refine WL.yes (by rfl) (Ex.q (q_load_pel (by rfl) (by rfl) ?_ (by rfl)) (by rfl) ?_); (· (omega)))
        refine WL.yes (by rfl) (Ex.q (q_build (parts := [(0, .const (.int .i64 3)), (1, .tmp 36)]) (by rfl) (by rfl)) (by rfl) ?_)
        refine WL.yes (by rfl) (Ex.buildSlice (parts := [(0, .tmp 37)]) (us := [_]) (by rfl) (by rfl) rfl (by rfl) (by rfl) ?_)
        intro b38
        refine WL.yes (by rfl) (Ex.append (e := opE) (l := ((s.H.take k).foldl (td1 s.W) [])) (l' := [⟨3, lat s.H k⟩]) (by rfl) (by rfl) (by rfl) (by rfl) (Rd.lit [_] rfl rfl rfl) ?_ ?_); (· (have := td1_len (W := s.W) (s.H.take k) []; have := List.length_take_le k s.H; have := hs.lh; simp only [List.length_nil, List.length_singleton] at *; omega))
        intro a39 cap39
        refine WL.yes (by rfl) (Ex.q (q_assign (by rfl)) (by rfl) ?_)
        refine WL.nil ?_
        (repeat refine J.seq ?_)
        refine J.region ?_
        refine WL.yes (by rfl) (Ex.q (q_int (by rfl) (by rfl) (by rfl)) (by rfl) ?_)
        refine WL.yes (by rfl) (Ex.q (q_move (by rfl)) (by rfl) ?_)
        refine WL.nil ?_
        first | ((have hs1 := fold_step (f := td1 s.W) (b := []) hk2; rw [td1_yes h1] at hs1); refine Kloop.nextP (k + 1, a39, cap39) ?_ ?_ ⟨⟨_, rfl, by rw [hs1]; cases a39 <;> rfl, fun _ => trivial⟩, same (by rw [← w64_nat (k := k) (by omega)]; rfl), trivial⟩ ⟨same rfl, same rfl, same rfl, trivial⟩ (.cons (s := 39) rfl (by rw [hs1]; exact CLe.refl _ _) rfl (.cons (s := 1051) rfl (CLe.refl _ _) rfl (.cons (s := 1052) rfl (CLe.refl _ _) rfl (.cons (s := 1053) rfl (CLe.refl _ _) rfl (.cons (s := 1054) rfl (CLe.refl _ _) rfl (.cons (s := 1060) rfl (CLe.refl _ _) rfl (.cons (s := 1104) rfl (CLe.refl _ _) rfl .nil))))))); (· ((try dsimp only) <;> omega)); (· ((try dsimp only) <;> omega))) | ((have hs1 := fold_step (f := td1 s.W) (b := []) hk2; rw [td1_no h1] at hs1); refine Kloop.nextP (k + 1, a2, c2) ?_ ?_ ⟨⟨_, rfl, by rw [hs1], fun _ => trivial⟩, same (by rw [← w64_nat (k := k) (by omega)]; rfl), trivial⟩ ⟨same rfl, same rfl, same rfl, trivial⟩ (.cons (s := 2) rfl (by rw [hs1]; exact CLe.refl _ _) rfl (.cons (s := 1051) rfl (CLe.refl _ _) rfl (.cons (s := 1052) rfl (CLe.refl _ _) rfl (.cons (s := 1053) rfl (CLe.refl _ _) rfl (.cons (s := 1054) rfl (CLe.refl _ _) rfl (.cons (s := 1060) rfl (CLe.refl _ _) rfl (.cons (s := 1104) rfl (CLe.refl _ _) rfl .nil))))))); (· ((try dsimp only) <;> omega)); (· ((try dsimp only) <;> omega)))
      · skip
        (first | have e34 := of_decide_eq_true c34 | have e34 := of_decide_eq_false c34 | have e34 := ndec_t c34 | have e34 := ndec_f c34 | skip)
        have h1 : has (lat s.H k).p s.W = true := hasW (by simpa using c34)
        (repeat refine J.seq ?_)
        refine J.skip ?_
        (repeat refine J.seq ?_)
        refine J.region ?_
        refine WL.yes (by rfl) (Ex.q (q_int (by rfl) (by rfl) (by rfl)) (by rfl) ?_)
        refine WL.yes (by rfl) (Ex.q (q_move (by rfl)) (by rfl) ?_)
        refine WL.nil ?_
        first | ((have hs1 := fold_step (f := td1 s.W) (b := []) hk2; rw [td1_yes h1] at hs1); refine Kloop.nextP (k + 1, a39, cap39) ?_ ?_ ⟨⟨_, rfl, by rw [hs1]; cases a39 <;> rfl, fun _ => trivial⟩, same (by rw [← w64_nat (k := k) (by omega)]; rfl), trivial⟩ ⟨same rfl, same rfl, same rfl, trivial⟩ (.cons (s := 39) rfl (by rw [hs1]; exact CLe.refl _ _) rfl (.cons (s := 1051) rfl (CLe.refl _ _) rfl (.cons (s := 1052) rfl (CLe.refl _ _) rfl (.cons (s := 1053) rfl (CLe.refl _ _) rfl (.cons (s := 1054) rfl (CLe.refl _ _) rfl (.cons (s := 1060) rfl (CLe.refl _ _) rfl (.cons (s := 1104) rfl (CLe.refl _ _) rfl .nil))))))); (· ((try dsimp only) <;> omega)); (· ((try dsimp only) <;> omega))) | ((have hs1 := fold_step (f := td1 s.W) (b := []) hk2; rw [td1_no h1] at hs1); refine Kloop.nextP (k + 1, a2, c2) ?_ ?_ ⟨⟨_, rfl, by rw [hs1], fun _ => trivial⟩, same (by rw [← w64_nat (k := k) (by omega)]; rfl), trivial⟩ ⟨same rfl, same rfl, same rfl, trivial⟩ (.cons (s := 2) rfl (by rw [hs1]; exact CLe.refl _ _) rfl (.cons (s := 1051) rfl (CLe.refl _ _) rfl (.cons (s := 1052) rfl (CLe.refl _ _) rfl (.cons (s := 1053) rfl (CLe.refl _ _) rfl (.cons (s := 1054) rfl (CLe.refl _ _) rfl (.cons (s := 1060) rfl (CLe.refl _ _) rfl (.cons (s := 1104) rfl (CLe.refl _ _) rfl .nil))))))); (· ((try dsimp only) <;> omega)); (· ((try dsimp only) <;> omega)))
    · skip
      (first | have e20 := of_decide_eq_true c20 | have e20 := of_decide_eq_false c20 | have e20 := ndec_t c20 | have e20 := ndec_f c20 | skip)
      (repeat refine J.seq ?_)
      refine J.exit ?_
      (repeat refine J.seq ?_)
      have hkn : s.H.take k = s.H := take_all (by omega)
      rw [hkn]
      refine J.region ?_
      refine WL.yes (by rfl) (Ex.q (q_move (by rfl)) (by rfl) ?_)
      refine WL.yes (by rfl) (Ex.q (q_nilCheck (by rfl) (by rfl)) (by rfl) ?_)
      first | (refine WL.yes (by rfl) (Ex.q (q_fieldAddr (by rfl)) (by rfl) ?_)) | (refine WL.yes (by rfl) (Ex.q (q_fieldAddr_rop (by rfl) (by rfl)) (by rfl) ?_)) | (refine WL.yes (by rfl) (Ex.q (q_fieldAddr_pel (by rfl)) (by rfl) ?_))
      first | (refine WL.yes (by rfl) (Ex.h (h_load (by rfl) (by rfl) (by rfl)) (by rfl) ?_)) | (refine WL.yes (by rfl) (Ex.q (q_load (by rfl) (by rfl) (by rfl)) (by rfl) ?_)) | (refine WL.yes (by rfl) (Ex.q (q_load_rop (by rfl) (by rfl)) (by rfl) ?_)) | (refine WL.yes (by rfl) (Ex.h (h_load_pel (by rfl) (by rfl) ?_ (by rfl)) (by rfl) ?_); (· (omega))) | (refine WL.yes (by rfl) (Ex.q (q_load_pel (by rfl) (by rfl) ?_ (by rfl)) (by rfl) ?_); (· (omega)))
      refine WL.yes (by rfl) (Ex.callL (list61 1052 1105 mw (by decide) hs.w (by omega)) (by rfl) (by rfl) (.cons rfl .nil) ?_)
      rintro _ _ ⟨a45, cap45, rfl, rfl⟩
      first | (refine WL.yes (by rfl) (Ex.q (q_len_slice (by rfl) (by rfl)) (by rfl) ?_)) | (refine WL.yes (by rfl) (Ex.q (q_len_string (by rfl)) (by rfl) ?_))
      refine WL.yes (by rfl) (Ex.q (q_move (by rfl)) (by rfl) ?_)
      refine WL.nil ?_
      (repeat refine J.seq ?_)
      refine J.block ?_
      (repeat refine J.seq ?_)
      refine J.loopP (fun x : Nat × Option Nat × Nat => x.1 ≤ s.W.length) (fun x => [(2, .sl 2 x.2.1 52 0 x.2.2 ((s.W.take x.1).foldl (td2 s.H) (s.H.foldl (td1 s.W) [])).length), (47, iV x.1)]) (fun x => [(2, lvec x.2.1 39 52 x.2.2 opE ((s.W.take x.1).foldl (td2 s.H) (s.H.foldl (td1 s.W) [])))]) (fun x => s.W.length - x.1) (0, a2, c2) [(0, _), (45, _), (46, _)] [(1051, _), (1052, _), (1053, _), (1054, _), (1060, _), (1104, _), (1105, _)] ⟨same rfl, same rfl, same rfl, trivial⟩ ⟨same rfl, same rfl, trivial⟩ (.cons (s := 2) rfl (CLe.refl _ _) rfl (.cons (s := 1051) rfl (CLe.refl _ _) rfl (.cons (s := 1052) rfl (CLe.refl _ _) rfl (.cons (s := 1053) rfl (CLe.refl _ _) rfl (.cons (s := 1054) rfl (CLe.refl _ _) rfl (.cons (s := 1060) rfl (CLe.refl _ _) rfl (.cons (s := 1104) rfl (CLe.refl _ _) rfl (.cons (s := 1105) rfl (CLe.refl _ _) rfl .nil)))))))) ?_ ?_
      · (exact Nat.zero_le _)
      rintro ⟨k, a2, c2⟩ hx
      (try dsimp only at hx)
      (try dsimp only)
      (repeat refine J.seq ?_)
      refine J.region ?_
      refine WL.yes (by rfl) (Ex.q (q_int (by rfl) (by rfl) (by rfl)) (by rfl) ?_)
      refine WL.nil ?_
      (repeat refine J.seq ?_)
      refine J.cond (by rfl) (fun c48 => ?_) (fun c48 => ?_)
      · skip
        (first | have e48 := of_decide_eq_true c48 | have e48 := of_decide_eq_false c48 | have e48 := ndec_t c48 | have e48 := ndec_f c48 | skip)
        (repeat refine J.seq ?_)
        refine J.skip ?_
        (repeat refine J.seq ?_)
        refine J.block ?_
        (repeat refine J.seq ?_)
        have hk2 : k < s.W.length := by omega
        have hk3 : (lat s.W k).ok := lat_ok hs.w.ok hk2
        refine J.vecsome (t := 1105) rfl (by omega) ?_
        intro b45 hb45
        subst hb45
        refine J.region ?_
        first | (refine WL.yes (by rfl) (Ex.q (q_indexAddr_ros (by rfl) (by rfl) (by intro _; rfl) ?_ ?_) (by rfl) ?_); (· (omega)); (· (omega))) | (refine WL.yes (by rfl) (Ex.q (q_indexAddr_sl (by rfl) (by rfl) ?_ ?_) (by rfl) ?_); (· (omega)); (· (omega))) | (refine WL.yes (by rfl) (Ex.q (q_indexAddr_arr (by rfl) (by rfl) ?_ ?_) (by rfl) ?_); (· (omega)); (· (omega)))
        first | (refine WL.yes (by rfl) (Ex.h (h_load (by rfl) (by rfl) (by rfl)) (by rfl) ?_)) | (refine WL.yes (by rfl) (Ex.q (q_load (by rfl) (by rfl) (by rfl)) (by rfl) ?_)) | (refine WL.yes (by rfl) (Ex.q (q_load_rop (by rfl) (by rfl)) (by rfl) ?_)) | (refine WL.yes (by rfl) (Ex.h (h_load_pel (by rfl) (by rfl) ?_ (by rfl)) (by rfl) ?_); (· (omega))) | (refine WL.yes (by rfl) (Ex.q (q_load_pel (by rfl) (by rfl) ?_ (by rfl)) (by rfl) ?_); (· (omega)))
        refine WL.set 50 (enE (lat s.W k)) (by rfl) (by rw [Nat.zero_add, Int.toNat_natCast]) ?_
        refine WL.yes (by rfl) (Ex.alloc (by rfl) ?_)
        intro b8
        first | (refine WL.yes (by rfl) (Ex.store (by rfl) (by rfl) (by rfl) (by rfl) (by rfl) (by rfl) ?_)) | (refine WL.yes (by rfl) (Ex.store_pel (by rfl) (by rfl) (by rfl) (by rfl) (by rfl) ?_ (by rfl) ?_); (· (omega)))
        refine WL.nil ?_
        (repeat refine J.seq ?_)
        refine J.draw [2, 8, 1051, 1052, 1053, 1054, 1060, 1104, 1105] 9999 [(0, true), (1, true), (2, true), (3, true), (4, true), (5, true), (6, true), (7, true), (8, true), (9, true), (10, false), (11, false), (12, true)] (by kernel_rfl) rfl (by kernel_rfl) ?_
        intro F2 hF2
        refine WS.take rfl (by rfl) (by rfl) (q_move (by rfl)) ?_
        refine WS.take rfl (by rfl) (by rfl) (q_nilCheck (by rfl) (by rfl)) ?_
        first | (refine WS.take rfl (by rfl) (by rfl) (q_fieldAddr (by rfl)) ?_) | (refine WS.take rfl (by rfl) (by rfl) (q_fieldAddr_rop (by rfl) (by rfl)) ?_) | (refine WS.take rfl (by rfl) (by rfl) (q_fieldAddr_pel (by rfl)) ?_)
        first | (refine WS.take rfl (by rfl) (by rfl) (q_load (by rfl) (by rfl) (by rfl)) ?_) | (refine WS.take rfl (by rfl) (by rfl) (q_load_rop (by rfl) (by rfl)) ?_) | (refine WS.take rfl (by rfl) (by rfl) (q_load_pel (by rfl) (by rfl) ?_ (by rfl)) ?_; (· (omega)))
        first | (refine WS.take rfl (by rfl) (by rfl) (q_fieldAddr (by rfl)) ?_) | (refine WS.take rfl (by rfl) (by rfl) (q_fieldAddr_rop (by rfl) (by rfl)) ?_) | (refine WS.take rfl (by rfl) (by rfl) (q_fieldAddr_pel (by rfl)) ?_)
        first | (refine WS.take rfl (by rfl) (by rfl) (q_load (by rfl) (by rfl) (by rfl)) ?_) | (refine WS.take rfl (by rfl) (by rfl) (q_load_rop (by rfl) (by rfl)) ?_) | (refine WS.take rfl (by rfl) (by rfl) (q_load_pel (by rfl) (by rfl) ?_ (by rfl)) ?_; (· (omega)))
        refine WS.take rfl (by rfl) (by rfl) (q_lookup_ok (e := prE) (f := enE) rfl (by rfl) (by rfl) (by rfl) hs.h.keys hk3.1) ?_
        refine WS.take rfl (by rfl) (by rfl) (q_move (by rfl)) ?_
        first | (refine WS.take rfl (by rfl) (by rfl) (q_extract2 (by rfl) (by rfl)) ?_) | (refine WS.take rfl (by rfl) (by rfl) (q_extract3 (by rfl) (by rfl)) ?_)
        first | (refine WS.take rfl (by rfl) (by rfl) (q_extract2 (by rfl) (by rfl)) ?_) | (refine WS.take rfl (by rfl) (by rfl) (q_extract3 (by rfl) (by rfl)) ?_)
        refine WS.ex rfl (by rfl) (Ex.alloc (by rfl) ?_)
        intro b9
        first | (refine WS.ex rfl (by rfl) (Ex.store (by rfl) (by rfl) (by rfl) (by rfl) (by rfl) (by rfl) ?_)) | (refine WS.ex rfl (by rfl) (Ex.store_pel (by rfl) (by rfl) (by rfl) (by rfl) (by rfl) ?_ (by rfl) ?_); (· (omega)))
        refine WS.take rfl (by rfl) (by rfl) (q_assign (by rfl)) ?_
        refine WS.nil ?_
        (repeat refine J.seq ?_)
        refine J.block ?_
        (repeat refine J.seq ?_)
        refine J.region ?_
        refine WL.yes (by rfl) (Ex.q (q_move (by rfl)) (by rfl) ?_)
        refine WL.yes (by rfl) (Ex.q (q_not (by rfl)) (by rfl) ?_)
        refine WL.yes (by rfl) (Ex.q (q_assign (by rfl)) (by rfl) ?_)
        refine WL.nil ?_
        (repeat refine J.seq ?_)
        refine J.cond (by rfl) (fun c61 => ?_) (fun c61 => ?_)
        · skip
          (first | have e61 := of_decide_eq_true c61 | have e61 := of_decide_eq_false c61 | have e61 := ndec_t c61 | have e61 := ndec_f c61 | skip)
          have h1 : has (lat s.W k).p s.H = false := hasW (by simpa using c61)
          (repeat refine J.seq ?_)
          refine J.region ?_
          refine WL.yes (by rfl) (Ex.q (q_move (by rfl)) (by rfl) ?_)
          first | (refine WL.yes (by rfl) (Ex.h (h_load (by rfl) (by rfl) (by rfl)) (by rfl) ?_)) | (refine WL.yes (by rfl) (Ex.q (q_load (by rfl) (by rfl) (by rfl)) (by rfl) ?_)) | (refine WL.yes (by rfl) (Ex.q (q_load_rop (by rfl) (by rfl)) (by rfl) ?_)) | (refine WL.yes (by rfl) (Ex.h (h_load_pel (by rfl) (by rfl) ?_ (by rfl)) (by rfl) ?_); (· (omega))) | (refine WL.yes (by rfl) (Ex.q (q_load_pel (by rfl) (by rfl) ?_ (by rfl)) (by rfl) ?_); (· (omega)))
          refine WL.yes (by rfl) (Ex.q (q_build (parts := [(0, .const (.int .i64 1)), (1, .tmp 65)]) (by rfl) (by rfl)) (by rfl) ?_)
          refine WL.yes (by rfl) (Ex.buildSlice (parts := [(0, .tmp 66)]) (us := [_]) (by rfl) (by rfl) rfl (by rfl) (by rfl) ?_)
          intro b67
          refine WL.yes (by rfl) (Ex.append (e := opE) (l := ((s.W.take k).foldl (td2 s.H) (s.H.foldl (td1 s.W) []))) (l' := [⟨1, lat s.W k⟩]) (by rfl) (by rfl) (by rfl) (by rfl) (Rd.lit [_] rfl rfl rfl) ?_ ?_); (· (have := td2_len (H := s.H) (s.W.take k) (s.H.foldl (td1 s.W) []); have := td1_len (W := s.W) s.H []; have := List.length_take_le k s.W; have := hs.lh; have := hs.lw; simp only [List.length_nil, List.length_singleton] at *; omega))
          intro a68 cap68
          refine WL.yes (by rfl) (Ex.q (q_assign (by rfl)) (by rfl) ?_)
          refine WL.nil ?_
          (repeat refine J.seq ?_)
          refine J.region ?_
          refine WL.yes (by rfl) (Ex.q (q_int (by rfl) (by rfl) (by rfl)) (by rfl) ?_)
          refine WL.yes (by rfl) (Ex.q (q_move (by rfl)) (by rfl) ?_)
          refine WL.nil ?_
          first | ((have hs1 := fold_step (f := td2 s.H) (b := (s.H.foldl (td1 s.W) [])) hk2; rw [td2_add h1] at hs1); refine Kloop.nextP (k + 1, a68, cap68) ?_ ?_ ⟨⟨_, rfl, by rw [hs1]; cases a68 <;> rfl, fun _ => trivial⟩, same (by rw [← w64_nat (k := k) (by omega)]; rfl), trivial⟩ ⟨same rfl, same rfl, same rfl, trivial⟩ (.cons (s := 68) rfl (by rw [hs1]; exact CLe.refl _ _) rfl (.cons (s := 1051) rfl (CLe.refl _ _) rfl (.cons (s := 1052) rfl (CLe.refl _ _) rfl (.cons (s := 1053) rfl (CLe.refl _ _) rfl (.cons (s := 1054) rfl (CLe.refl _ _) rfl (.cons (s := 1060) rfl (CLe.refl _ _) rfl (.cons (s := 1104) rfl (CLe.refl _ _) rfl (.cons (s := 1105) rfl (CLe.refl _ _) rfl .nil)))))))); (· ((try dsimp only) <;> omega)); (· ((try dsimp only) <;> omega))) | ((have hs1 := fold_step (f := td2 s.H) (b := (s.H.foldl (td1 s.W) [])) hk2; rw [td2_chg h1 h2] at hs1); refine Kloop.nextP (k + 1, a77, cap77) ?_ ?_ ⟨⟨_, rfl, by rw [hs1]; cases a77 <;> rfl, fun _ => trivial⟩, same (by rw [← w64_nat (k := k) (by omega)]; rfl), trivial⟩ ⟨same rfl, same rfl, same rfl, trivial⟩ (.cons (s := 77) rfl (by rw [hs1]; exact CLe.refl _ _) rfl (.cons (s := 1051) rfl (CLe.refl _ _) rfl (.cons (s := 1052) rfl (CLe.refl _ _) rfl (.cons (s := 1053) rfl (CLe.refl _ _) rfl (.cons (s := 1054) rfl (CLe.refl _ _) rfl (.cons (s := 1060) rfl (CLe.refl _ _) rfl (.cons (s := 1104) rfl (CLe.refl _ _) rfl (.cons (s := 1105) rfl (CLe.refl _ _) rfl .nil)))))))); (· ((try dsimp only) <;> omega)); (· ((try dsimp only) <;> omega))) | ((have hs1 := fold_step (f := td2 s.H) (b := (s.H.foldl (td1 s.W) [])) hk2; rw [td2_no h1 h2] at hs1); refine Kloop.nextP (k + 1, a2, c2) ?_ ?_ ⟨⟨_, rfl, by rw [hs1], fun _ => trivial⟩, same (by rw [← w64_nat (k := k) (by omega)]; rfl), trivial⟩ ⟨same rfl, same rfl, same rfl, trivial⟩ (.cons (s := 2) rfl (by rw [hs1]; exact CLe.refl _ _) rfl (.cons (s := 1051) rfl (CLe.refl _ _) rfl (.cons (s := 1052) rfl (CLe.refl _ _) rfl (.cons (s := 1053) rfl (CLe.refl _ _) rfl (.cons (s := 1054) rfl (CLe.refl _ _) rfl (.cons (s := 1060) rfl (CLe.refl _ _) rfl (.cons (s := 1104) rfl (CLe.refl _ _) rfl (.cons (s := 1105) rfl (CLe.refl _ _) rfl .nil)))))))); (· ((try dsimp only) <;> omega)); (· ((try dsimp only) <;> omega)))
        · skip
          (first | have e61 := of_decide_eq_true c61 | have e61 := of_decide_eq_false c61 | have e61 := ndec_t c61 | have e61 := ndec_f c61 | skip)
          have h1 : has (lat s.W k).p s.H = true := hasW (by simpa using c61)
          (repeat refine J.seq ?_)
          refine J.region ?_
          first | (refine WL.yes (by rfl) (Ex.h (h_load (by rfl) (by rfl) (by rfl)) (by rfl) ?_)) | (refine WL.yes (by rfl) (Ex.q (q_load (by rfl) (by rfl) (by rfl)) (by rfl) ?_)) | (refine WL.yes (by rfl) (Ex.q (q_load_rop (by rfl) (by rfl)) (by rfl) ?_)) | (refine WL.yes (by rfl) (Ex.h (h_load_pel (by rfl) (by rfl) ?_ (by rfl)) (by rfl) ?_); (· (omega))) | (refine WL.yes (by rfl) (Ex.q (q_load_pel (by rfl) (by rfl) ?_ (by rfl)) (by rfl) ?_); (· (omega)))
          first | (refine WL.yes (by rfl) (Ex.h (h_load (by rfl) (by rfl) (by rfl)) (by rfl) ?_)) | (refine WL.yes (by rfl) (Ex.q (q_load (by rfl) (by rfl) (by rfl)) (by rfl) ?_)) | (refine WL.yes (by rfl) (Ex.q (q_load_rop (by rfl) (by rfl)) (by rfl) ?_)) | (refine WL.yes (by rfl) (Ex.h (h_load_pel (by rfl) (by rfl) ?_ (by rfl)) (by rfl) ?_); (· (omega))) | (refine WL.yes (by rfl) (Ex.q (q_load_pel (by rfl) (by rfl) ?_ (by rfl)) (by rfl) ?_); (· (omega)))
          first | (refine WL.yes (by rfl) (Ex.q (q_int (by rfl) (by rfl) (by rfl)) (by rfl) ?_)) | (refine WL.yes (by rfl) (Ex.q (q_neb (by rfl) (by rfl)) (by rfl) ?_)) | (refine WL.yes (by rfl) (Ex.q (q_nep rfl rfl (by rfl) (by rfl) ?_) (by rfl) ?_); (· (rfl))) | (refine WL.yes (by rfl) (Ex.q (q_eqs (by rfl) (by rfl)) (by rfl) ?_))
          refine WL.yes (by rfl) (Ex.q (q_assign (by rfl)) (by rfl) ?_)
          refine WL.nil ?_
          (repeat refine J.seq ?_)
          refine J.cond (by rfl) (fun c69 => ?_) (fun c69 => ?_)
          · skip
            (first | have e69 := of_decide_eq_true c69 | have e69 := of_decide_eq_false c69 | have e69 := ndec_t c69 | have e69 := ndec_f c69 | skip)
            rw [eqEn (tget_ok hs.h) hk3, alook_tlook] at c69
            have h2 : ¬ (tlook (lat s.W k).p s.H).getD default = lat s.W k := by simpa only [Bool.not_eq_true', decide_eq_false_iff_not] using c69
            (repeat refine J.seq ?_)
            refine J.region ?_
            refine WL.yes (by rfl) (Ex.q (q_move (by rfl)) (by rfl) ?_)
            first | (refine WL.yes (by rfl) (Ex.h (h_load (by rfl) (by rfl) (by rfl)) (by rfl) ?_)) | (refine WL.yes (by rfl) (Ex.q (q_load (by rfl) (by rfl) (by rfl)) (by rfl) ?_)) | (refine WL.yes (by rfl) (Ex.q (q_load_rop (by rfl) (by rfl)) (by rfl) ?_)) | (refine WL.yes (by rfl) (Ex.h (h_load_pel (by rfl) (by rfl) ?_ (by rfl)) (by rfl) ?_); (· (omega))) | (refine WL.yes (by rfl) (Ex.q (q_load_pel (by rfl) (by rfl) ?_ (by rfl)) (by rfl) ?_); (· (omega)))
            refine WL.yes (by rfl) (Ex.q (q_build (parts := [(0, .const (.int .i64 2)), (1, .tmp 74)]) (by rfl) (by rfl)) (by rfl) ?_)
            refine WL.yes (by rfl) (Ex.buildSlice (parts := [(0, .tmp 75)]) (us := [_]) (by rfl) (by rfl) rfl (by rfl) (by rfl) ?_)
            intro b76
            refine WL.yes (by rfl) (Ex.append (e := opE) (l := ((s.W.take k).foldl (td2 s.H) (s.H.foldl (td1 s.W) []))) (l' := [⟨2, lat s.W k⟩]) (by rfl) (by rfl) (by rfl) (by rfl) (Rd.lit [_] rfl rfl rfl) ?_ ?_); (· (have := td2_len (H := s.H) (s.W.take k) (s.H.foldl (td1 s.W) []); have := td1_len (W := s.W) s.H []; have := List.length_take_le k s.W; have := hs.lh; have := hs.lw; simp only [List.length_nil, List.length_singleton] at *; omega))
            intro a77 cap77
            refine WL.yes (by rfl) (Ex.q (q_assign (by rfl)) (by rfl) ?_)
            refine WL.nil ?_
            (repeat refine J.seq ?_)
            refine J.region ?_
            refine WL.yes (by rfl) (Ex.q (q_int (by rfl) (by rfl) (by rfl)) (by rfl) ?_)
            refine WL.yes (by rfl) (Ex.q (q_move (by rfl)) (by rfl) ?_)
            refine WL.nil ?_
            first | ((have hs1 := fold_step (f := td2 s.H) (b := (s.H.foldl (td1 s.W) [])) hk2; rw [td2_add h1] at hs1); refine Kloop.nextP (k + 1, a68, cap68) ?_ ?_ ⟨⟨_, rfl, by rw [hs1]; cases a68 <;> rfl, fun _ => trivial⟩, same (by rw [← w64_nat (k := k) (by omega)]; rfl), trivial⟩ ⟨same rfl, same rfl, same rfl, trivial⟩ (.cons (s := 68) rfl (by rw [hs1]; exact CLe.refl _ _) rfl (.cons (s := 1051) rfl (CLe.refl _ _) rfl (.cons (s := 1052) rfl (CLe.refl _ _) rfl (.cons (s := 1053) rfl (CLe.refl _ _) rfl (.cons (s := 1054) rfl (CLe.refl _ _) rfl (.cons (s := 1060) rfl (CLe.refl _ _) rfl (.cons (s := 1104) rfl (CLe.refl _ _) rfl (.cons (s := 1105) rfl (CLe.refl _ _) rfl .nil)))))))); (· ((try dsimp only) <;> omega)); (· ((try dsimp only) <;> omega))) | ((have hs1 := fold_step (f := td2 s.H) (b := (s.H.foldl (td1 s.W) [])) hk2; rw [td2_chg h1 h2] at hs1); refine Kloop.nextP (k + 1, a77, cap77) ?_ ?_ ⟨⟨_, rfl, by rw [hs1]; cases a77 <;> rfl, fun _ => trivial⟩, same (by rw [← w64_nat (k := k) (by omega)]; rfl), trivial⟩ ⟨same rfl, same rfl, same rfl, trivial⟩ (.cons (s := 77) rfl (by rw [hs1]; exact CLe.refl _ _) rfl (.cons (s := 1051) rfl (CLe.refl _ _) rfl (.cons (s := 1052) rfl (CLe.refl _ _) rfl (.cons (s := 1053) rfl (CLe.refl _ _) rfl (.cons (s := 1054) rfl (CLe.refl _ _) rfl (.cons (s := 1060) rfl (CLe.refl _ _) rfl (.cons (s := 1104) rfl (CLe.refl _ _) rfl (.cons (s := 1105) rfl (CLe.refl _ _) rfl .nil)))))))); (· ((try dsimp only) <;> omega)); (· ((try dsimp only) <;> omega))) | ((have hs1 := fold_step (f := td2 s.H) (b := (s.H.foldl (td1 s.W) [])) hk2; rw [td2_no h1 h2] at hs1); refine Kloop.nextP (k + 1, a2, c2) ?_ ?_ ⟨⟨_, rfl, by rw [hs1], fun _ => trivial⟩, same (by rw [← w64_nat (k := k) (by omega)]; rfl), trivial⟩ ⟨same rfl, same rfl, same rfl, trivial⟩ (.cons (s := 2) rfl (by rw [hs1]; exact CLe.refl _ _) rfl (.cons (s := 1051) rfl (CLe.refl _ _) rfl (.cons (s := 1052) rfl (CLe.refl _ _) rfl (.cons (s := 1053) rfl (CLe.refl _ _) rfl (.cons (s := 1054) rfl (CLe.refl _ _) rfl (.cons (s := 1060) rfl (CLe.refl _ _) rfl (.cons (s := 1104) rfl (CLe.refl _ _) rfl (.cons (s := 1105) rfl (CLe.refl _ _) rfl .nil)))))))); (· ((try dsimp only) <;> omega)); (· ((try dsimp only) <;> omega)))
          · skip
            (first | have e69 := of_decide_eq_true c69 | have e69 := of_decide_eq_false c69 | have e69 := ndec_t c69 | have e69 := ndec_f c69 | skip)
            rw [eqEn (tget_ok hs.h) hk3, alook_tlook] at c69
            have h2 : (tlook (lat s.W k).p s.H).getD default = lat s.W k := by simpa only [Bool.not_eq_false', decide_eq_true_eq] using c69
            (repeat refine J.seq ?_)
            refine J.skip ?_
            (repeat refine J.seq ?_)
            refine J.region ?_
            refine WL.yes (by rfl) (Ex.q (q_int (by rfl) (by rfl) (by rfl)) (by rfl) ?_)
            refine WL.yes (by rfl) (Ex.q (q_move (by rfl)) (by rfl) ?_)
            refine WL.nil ?_
            first | ((have hs1 := fold_step (f := td2 s.H) (b := (s.H.foldl (td1 s.W) [])) hk2; rw [td2_add h1] at hs1); refine Kloop.nextP (k + 1, a68, cap68) ?_ ?_ ⟨⟨_, rfl, by rw [hs1]; cases a68 <;> rfl, fun _ => trivial⟩, same (by rw [← w64_nat (k := k) (by omega)]; rfl), trivial⟩ ⟨same rfl, same rfl, same rfl, trivial⟩ (.cons (s := 68) rfl (by rw [hs1]; exact CLe.refl _ _) rfl (.cons (s := 1051) rfl (CLe.refl _ _) rfl (.cons (s := 1052) rfl (CLe.refl _ _) rfl (.cons (s := 1053) rfl (CLe.refl _ _) rfl (.cons (s := 1054) rfl (CLe.refl _ _) rfl (.cons (s := 1060) rfl (CLe.refl _ _) rfl (.cons (s := 1104) rfl (CLe.refl _ _) rfl (.cons (s := 1105) rfl (CLe.refl _ _) rfl .nil)))))))); (· ((try dsimp only) <;> omega)); (· ((try dsimp only) <;> omega))) | ((have hs1 := fold_step (f := td2 s.H) (b := (s.H.foldl (td1 s.W) [])) hk2; rw [td2_chg h1 h2] at hs1); refine Kloop.nextP (k + 1, a77, cap77) ?_ ?_ ⟨⟨_, rfl, by rw [hs1]; cases a77 <;> rfl, fun _ => trivial⟩, same (by rw [← w64_nat (k := k) (by omega)]; rfl), trivial⟩ ⟨same rfl, same rfl, same rfl, trivial⟩ (.cons (s := 77) rfl (by rw [hs1]; exact CLe.refl _ _) rfl (.cons (s := 1051) rfl (CLe.refl _ _) rfl (.cons (s := 1052) rfl (CLe.refl _ _) rfl (.cons (s := 1053) rfl (CLe.refl _ _) rfl (.cons (s := 1054) rfl (CLe.refl _ _) rfl (.cons (s := 1060) rfl (CLe.refl _ _) rfl (.cons (s := 1104) rfl (CLe.refl _ _) rfl (.cons (s := 1105) rfl (CLe.refl _ _) rfl .nil)))))))); (· ((try dsimp only) <;> omega)); (· ((try dsimp only) <;> omega))) | ((have hs1 := fold_step (f := td2 s.H) (b := (s.H.foldl (td1 s.W) [])) hk2; rw [td2_no h1 h2] at hs1); refine Kloop.nextP (k + 1, a2, c2) ?_ ?_ ⟨⟨_, rfl, by rw [hs1], fun _ => trivial⟩, same (by rw [← w64_nat (k := k) (by omega)]; rfl), trivial⟩ ⟨same rfl, same rfl, same rfl, trivial⟩ (.cons (s := 2) rfl (by rw [hs1]; exact CLe.refl _ _) rfl (.cons (s := 1051) rfl (CLe.refl _ _) rfl (.cons (s := 1052) rfl (CLe.refl _ _) rfl (.cons (s := 1053) rfl (CLe.refl _ _) rfl (.cons (s := 1054) rfl (CLe.refl _ _) rfl (.cons (s := 1060) rfl (CLe.refl _ _) rfl (.cons (s := 1104) rfl (CLe.refl _ _) rfl (.cons (s := 1105) rfl (CLe.refl _ _) rfl .nil)))))))); (· ((try dsimp only) <;> omega)); (· ((try dsimp only) <;> omega)))
      · skip
        (first | have e48 := of_decide_eq_true c48 | have e48 := of_decide_eq_false c48 | have e48 := ndec_t c48 | have e48 := ndec_f c48 | skip)
        (repeat refine J.seq ?_)
        refine J.exit ?_
        (repeat refine J.seq ?_)
        refine J.region ?_
        refine WL.yes (by rfl) (Ex.q (q_move (by rfl)) (by rfl) ?_)
        refine WL.yes (by rfl) (Ex.q (q_assign (by rfl)) (by rfl) ?_)
        refine WL.nil ?_
        (repeat refine J.seq ?_)
        refine J.ret ?_
        (repeat (with_reducible first | refine Kseq.ret ?_ | refine Kblock.ret ?_ | refine Kloop.ret ?_ | refine Kcut.ret ?_))
        have hkn : s.W.take k = s.W := take_all (by omega)
        rw [hkn]
        rw [FO_p hy]
        exact Kret.mk2 (vs := [_]) (.sl 2067 a2 52 0 c2 s.todo.length) _ (.tmp (by rfl) .nil) (by rfl) trivial (by cases a2 <;> rfl) (fun _ _ => trivial) (HLe.sub (.cons (s := 1060) rfl (CLe.refl _ _) rfl (.cons (s := 1051) rfl (CLe.refl _ _) rfl (.cons (s := 1052) rfl (CLe.refl _ _) rfl (.cons (s := 1053) rfl (CLe.refl _ _) rfl (.cons (s := 1054) rfl (CLe.refl _ _) rfl (.cons (s := 2) rfl (CLe.refl _ _) rfl .nil))))))) ⟨a2, c2, rfl, rfl⟩

set_option maxHeartbeats 16000000 in
set_option maxRecDepth 100000 in
theorem fTodoNil_spec  : Spec Try.prog 67 [.nilp] [] (fun r H' => r = .sl 0 none 0 0 0 0 ∧ H' = []) := by
  refine Spec.of_J Try.func67 rfl Try.ntmps67 Try.results67 rfl ?_
  intro A F hAF
  (repeat refine J.seq ?_)
  refine J.region ?_
  refine WL.yes (by rfl) (Ex.q (q_assign (by rfl)) (by rfl) ?_)
  refine WL.nil ?_
  (repeat refine J.seq ?_)
  refine J.region ?_
  refine WL.yes (by rfl) (Ex.q (q_move (by rfl)) (by rfl) ?_)
  refine WL.yes (by rfl) (Ex.q (q_eqnil (by rfl) (by rfl) (by rfl)) (by rfl) ?_)
  refine WL.nil ?_
  (repeat refine J.seq ?_)
  refine J.cond (by rfl) (fun c12 => ?_) (fun c12 => ?_)
  · skip
    (first | have e12 := of_decide_eq_true c12 | have e12 := of_decide_eq_false c12 | have e12 := ndec_t c12 | have e12 := ndec_f c12 | skip)
    (repeat refine J.seq ?_)
    refine J.region ?_
    refine WL.yes (by rfl) (Ex.q (q_assign (by rfl)) (by rfl) ?_)
    refine WL.nil ?_
    (repeat refine J.seq ?_)
    refine J.ret ?_
    (repeat (with_reducible first | refine Kseq.ret ?_ | refine Kblock.ret ?_ | refine Kloop.ret ?_ | refine Kcut.ret ?_))
    refine Kret.mk [] (.tmp (by rfl) (.nil)) (by rfl) trivial (HLe.nil _ _) ?_
    exact ⟨rfl, rfl⟩
  · skip
    cases c12

set_option maxHeartbeats 16000000 in
set_option maxRecDepth 100000 in
theorem fWantNil_spec {a : Option Addr} {cap : Nat} {l : List En} : Spec Try.prog 30 [.nilp, lros a cap enE l] [] (fun r H' => r = .tup0 ∧ H' = []) := by
  refine Spec.of_J Try.func30 rfl Try.ntmps30 Try.results30 rfl ?_
  intro A F hAF
  (repeat refine J.seq ?_)
  refine J.region ?_
  refine WL.yes (by rfl) (Ex.q (q_move (by rfl)) (by rfl) ?_)
  refine WL.yes (by rfl) (Ex.q (q_eqnil (by rfl) (by rfl) (by rfl)) (by rfl) ?_)
  refine WL.nil ?_
  (repeat refine J.seq ?_)
  refine J.cond (by rfl) (fun c7 => ?_) (fun c7 => ?_)
  · skip
    (first | have e7 := of_decide_eq_true c7 | have e7 := of_decide_eq_false c7 | have e7 := ndec_t c7 | have e7 := ndec_f c7 | skip)
    (repeat refine J.seq ?_)
    refine J.ret ?_
    (repeat (with_reducible first | refine Kseq.ret ?_ | refine Kblock.ret ?_ | refine Kloop.ret ?_ | refine Kcut.ret ?_))
    refine Kret.mk [] (.nil) (by rfl) trivial (HLe.nil _ _) ?_
    exact ⟨rfl, rfl⟩
  · skip
    cases c7

end Go.Vm
