/- The document's Fib: the walks. -/
import Derived.Test.YtimkkhefemnkpaaP3
namespace Go.Vm
open Go Go.Proofs

abbrev rfV (ha : Option Nat) (hc : Nat) (wa : Option Nat) (wc : Nat) (fa : Option Nat) (fc : Nat) (s : FS) : V :=
  .pair (.sl 3051 ha 51 0 hc s.H.length) (.pair (.sl 3052 wa 51 0 wc s.W.length) (.pair (.sl 3053 fa 35 0 fc s.F.length) (.pair (opE s.wo) (.bool s.busy))))
abbrev RO5 (wb : Nat) (ha : Option Nat) (hc : Nat) (wa : Option Nat) (wc : Nat) (fa : Option Nat) (fc : Nat) (s : FS) : List (Nat × Cell) :=
  [(3060, .box wb 62 (rfV ha hc wa wc fa fc s)), (3051, lvec ha 37 51 hc enE s.H), (3052, lvec wa 37 51 wc enE s.W), (3053, lvec fa 108 35 fc waE s.F)]
theorem VOk_op {A : Fr} {o : Opn} : VOk A (opE o) := by simp [VOk]

theorem tlook_fnd {p : Pr} {l : List En} {k : Nat} (h : fnd p l = k) : tlook p l = some (lat l k) := by
  unfold fnd at h
  unfold tlook
  cases hf : l.findIdx? (fun e => decide (e.p = p)) with
  | none => rw [hf] at h; simp at h
  | some j =>
    rw [hf] at h
    have hj : j = k := by have h9 : (j : Int) = k := h; omega
    subst hj
    rw [List.findIdx?_eq_some_iff_getElem] at hf
    obtain ⟨h1, h2, h3⟩ := hf
    rw [List.find?_eq_some_iff_getElem]
    refine ⟨by simpa [lat, List.getD, List.getElem?_eq_getElem h1] using h2, j, h1, by simp [lat, List.getD, List.getElem?_eq_getElem h1], fun i hi => by simpa using h3 i hi⟩
theorem alook_at {p : Pr} {F : List (Pr × Int)} {k : Nat} (h : k < F.length) (hz : ∀ j, j < k → (lat F j).1 ≠ p) (hx : (lat F k).1 = p) : alook p F = some (lat F k).2 := by
  unfold alook
  have : F.find? (fun x => decide (x.1 = p)) = some (lat F k) := by
    rw [List.find?_eq_some_iff_getElem]
    refine ⟨by simpa using hx, k, h, by simp [lat, List.getD, List.getElem?_eq_getElem h], fun i hi => ?_⟩
    have := hz i hi
    simpa [lat, List.getD, List.getElem?_eq_getElem (show i < F.length by omega)] using this
  rw [this]; rfl
theorem alook_no {p : Pr} {F : List (Pr × Int)} (hz : ∀ j, j < F.length → (lat F j).1 ≠ p) : alook p F = none := by
  unfold alook
  have : F.find? (fun x => decide (x.1 = p)) = none := by
    rw [List.find?_eq_none]
    intro x hx
    obtain ⟨j, hj, rfl⟩ := List.mem_iff_getElem.1 hx
    have := hz j hj
    simpa [lat, List.getD, List.getElem?_eq_getElem hj] using this
  rw [this]; rfl
theorem adel_yes {p : Pr} {F : List (Pr × Int)} {k : Nat} (h : k < F.length) (hx : ¬ (lat F k).1 = p) : adel p (F.take (k + 1)) = adel p (F.take k) ++ [lat F k] := by
  unfold adel; rw [take_succ_lat h, List.filter_append, List.filter_cons_of_pos (by simpa using hx)]; rfl
theorem adel_no {p : Pr} {F : List (Pr × Int)} {k : Nat} (h : k < F.length) (hx : (lat F k).1 = p) : adel p (F.take (k + 1)) = adel p (F.take k) := by
  unfold adel; rw [take_succ_lat h, List.filter_append, List.filter_cons_of_neg (by simpa using hx)]; simp
theorem adel_len {p : Pr} {F : List (Pr × Int)} : (adel p F).length ≤ F.length := List.length_filter_le _ _

set_option maxHeartbeats 16000000 in
set_option maxRecDepth 100000 in
theorem rfWant_spec (wb : Nat) (ha : Option Nat) (hc : Nat) (wa : Option Nat) (wc : Nat) (fa : Option Nat) (fc : Nat) {s : FS} {a : Option Addr} {cap : Nat} {l : List En} (ho : ∀ e ∈ l, e.ok) (hl2 : l.length ≤ 1000) : Spec Try.prog 31 [.ptr 3060 wb 0, lros a cap enE l] [(3060, .box wb 62 (rfV ha hc wa wc fa fc s)), (3051, lvec ha 37 51 hc enE s.H), (3052, lvec wa 37 51 wc enE s.W), (3053, lvec fa 108 35 fc waE s.F)] (fun r H' => ∃ wa' wc', r = .tup0 ∧ H' = RO5 wb ha hc wa' wc' fa fc (s.want l)) := by
  refine Spec.of_J Try.func31 rfl Try.ntmps31 Try.results31 rfl ?_
  intro A F hAF
  (repeat refine J.seq ?_)
  refine J.region ?_
  refine WL.yes (by rfl) (Ex.q (q_move (by rfl)) (by rfl) ?_)
  refine WL.yes (by rfl) (Ex.q (q_move (by rfl)) (by rfl) ?_)
  refine WL.yes (by rfl) (Ex.callL (expandR_spec (l := l) ho hl2) (by rfl) (by rfl) .nil ?_)
  rintro _ _ ⟨a6, cap6, rfl, rfl⟩
  refine WL.yes (by rfl) (Ex.q (q_nilCheck (by rfl) (by rfl)) (by rfl) ?_)
  first | (refine WL.yes (by rfl) (Ex.q (q_fieldAddr (by rfl)) (by rfl) ?_)) | (refine WL.yes (by rfl) (Ex.q (q_fieldAddr_rop (by rfl) (by rfl)) (by rfl) ?_)) | (refine WL.yes (by rfl) (Ex.q (q_fieldAddr_pel (by rfl)) (by rfl) ?_))
  first | (refine WL.yes (by rfl) (Ex.store (by rfl) (by rfl) (by rfl) (by rfl) (by rfl) (by rfl) ?_)) | (refine WL.yes (by rfl) (Ex.store_pel (by rfl) (by rfl) (by rfl) (by rfl) (by rfl) ?_ (by rfl) ?_); (· (omega)))
  refine WL.nil ?_
  exact Kret.mk (RO5 wb ha hc a6 cap6 fa fc (s.want l)) .nil (by rfl) trivial (HLe.sub (.cons (s := 3060) rfl (CLe.cells (by cases a6 <;> rfl) (fun _ => rfl) (fun _ => ⟨trivial, trivial, trivial, VOk_op, trivial⟩)) rfl (.cons (s := 3051) rfl (CLe.refl _ _) rfl (.cons (s := 2027) rfl (CLe.refl _ _) rfl (.cons (s := 3053) rfl (CLe.refl _ _) rfl .nil))))) ⟨a6, cap6, rfl, rfl⟩

set_option maxHeartbeats 16000000 in
set_option maxRecDepth 100000 in
theorem rfTodo_spec (wb : Nat) (ha : Option Nat) (hc : Nat) (wa : Option Nat) (wc : Nat) (fa : Option Nat) (fc : Nat) {s : FS} (hs : FOk s) : Spec Try.prog 68 [.ptr 3060 wb 0] [(3060, .box wb 62 (rfV ha hc wa wc fa fc s)), (3051, lvec ha 37 51 hc enE s.H), (3052, lvec wa 37 51 wc enE s.W), (3053, lvec fa 108 35 fc waE s.F)] (fun r H' => ∃ a cap, r = .sl 2068 a 52 0 cap s.todo.length ∧ H' = RO5 wb ha hc wa wc fa fc s ++ [(2068, lvec a 39 52 cap opE s.todo)]) := by
  refine Spec.of_J Try.func68 rfl Try.ntmps68 Try.results68 rfl ?_
  intro A F hAF
  have hlh := hs.lh
  have hlw := hs.lw
  (repeat refine J.seq ?_)
  refine J.region ?_
  refine WL.yes (by rfl) (Ex.q (q_assign (by rfl)) (by rfl) ?_)
  refine WL.nil ?_
  (repeat refine J.seq ?_)
  refine J.region ?_
  refine WL.yes (by rfl) (Ex.q (q_assign (by rfl)) (by rfl) ?_)
  refine WL.nil ?_
  (repeat refine J.seq ?_)
  refine J.region ?_
  refine WL.yes (by rfl) (Ex.q (q_assign (by rfl)) (by rfl) ?_)
  refine WL.nil ?_
  (repeat refine J.seq ?_)
  refine J.block ?_
  (repeat refine J.seq ?_)
  refine J.loopP (fun x : Nat × Option Nat × Nat => x.1 ≤ s.H.length) (fun x => [(3, .sl 3 x.2.1 52 0 x.2.2 ((s.H.take x.1).foldl (td1 s.W) []).length), (4, iV x.1)]) (fun x => [(3, lvec x.2.1 39 52 x.2.2 opE ((s.H.take x.1).foldl (td1 s.W) []))]) (fun x => s.H.length - x.1) (0, none, 0) [(0, _)] [(3051, _), (3052, _), (3053, _), (3060, _)] ⟨same rfl, trivial⟩ ⟨⟨_, rfl, rfl, fun _ => trivial⟩, same rfl, trivial⟩ (.non (.cons (s := 3051) rfl (CLe.refl _ _) rfl (.cons (s := 3052) rfl (CLe.refl _ _) rfl (.cons (s := 3053) rfl (CLe.refl _ _) rfl (.cons (s := 3060) rfl (CLe.refl _ _) rfl .nil))))) ?_ ?_
  · (exact Nat.zero_le _)
  rintro ⟨k, a3, c3⟩ hx
  (try dsimp only at hx)
  (try dsimp only)
  (repeat refine J.seq ?_)
  refine J.region ?_
  refine WL.yes (by rfl) (Ex.q (q_move (by rfl)) (by rfl) ?_)
  refine WL.yes (by rfl) (Ex.q (q_move (by rfl)) (by rfl) ?_)
  refine WL.yes (by rfl) (Ex.q (q_nilCheck (by rfl) (by rfl)) (by rfl) ?_)
  first | (refine WL.yes (by rfl) (Ex.q (q_fieldAddr (by rfl)) (by rfl) ?_)) | (refine WL.yes (by rfl) (Ex.q (q_fieldAddr_rop (by rfl) (by rfl)) (by rfl) ?_)) | (refine WL.yes (by rfl) (Ex.q (q_fieldAddr_pel (by rfl)) (by rfl) ?_))
  first | (refine WL.yes (by rfl) (Ex.h (h_load (by rfl) (by rfl) (by rfl)) (by rfl) ?_)) | (refine WL.yes (by rfl) (Ex.q (q_load (by rfl) (by rfl) (by rfl)) (by rfl) ?_)) | (refine WL.yes (by rfl) (Ex.q (q_load_rop (by rfl) (by rfl)) (by rfl) ?_)) | (refine WL.yes (by rfl) (Ex.h (h_load_pel (by rfl) (by rfl) ?_ (by rfl)) (by rfl) ?_); (· (omega))) | (refine WL.yes (by rfl) (Ex.q (q_load_pel (by rfl) (by rfl) ?_ (by rfl)) (by rfl) ?_); (· (omega)))
  first | (refine WL.yes (by rfl) (Ex.q (q_len_slice (by rfl) (by rfl)) (by rfl) ?_)) | (refine WL.yes (by rfl) (Ex.q (q_len_string (by rfl)) (by rfl) ?_))
  refine WL.yes (by rfl) (Ex.q (q_int (by rfl) (by rfl) (by rfl)) (by rfl) ?_)
  refine WL.nil ?_
  (repeat refine J.seq ?_)
  refine J.cond (by rfl) (fun c13 => ?_) (fun c13 => ?_)
  · skip
    (first | have e13 := of_decide_eq_true c13 | have e13 := of_decide_eq_false c13 | have e13 := ndec_t c13 | have e13 := ndec_f c13 | skip)
    (repeat refine J.seq ?_)
    refine J.skip ?_
    (repeat refine J.seq ?_)
    refine J.block ?_
    (repeat refine J.seq ?_)
    have hk2 : k < s.H.length := by omega
    have hk3 : (lat s.H k).ok := lat_ok hs.h.ok hk2
    refine J.vecsome (t := 3051) rfl (by omega) ?_
    intro bh hbh
    subst hbh
    refine J.draw [3, 3051, 3052, 3053, 3060] 9999 [(0, true), (1, true), (2, true), (3, true), (4, true), (5, true), (6, true), (7, true), (8, true), (9, true), (10, true), (11, true), (12, false), (13, true)] (by kernel_rfl) rfl (by kernel_rfl) ?_
    intro F1 hF1
    refine WS.take rfl (by rfl) (by rfl) (q_move (by rfl)) ?_
    refine WS.take rfl (by rfl) (by rfl) (q_nilCheck (by rfl) (by rfl)) ?_
    first | (refine WS.take rfl (by rfl) (by rfl) (q_fieldAddr (by rfl)) ?_) | (refine WS.take rfl (by rfl) (by rfl) (q_fieldAddr_rop (by rfl) (by rfl)) ?_) | (refine WS.take rfl (by rfl) (by rfl) (q_fieldAddr_pel (by rfl)) ?_)
    first | (refine WS.take rfl (by rfl) (by rfl) (q_load (by rfl) (by rfl) (by rfl)) ?_) | (refine WS.take rfl (by rfl) (by rfl) (q_load_rop (by rfl) (by rfl)) ?_) | (refine WS.take rfl (by rfl) (by rfl) (q_load_pel (by rfl) (by rfl) ?_ (by rfl)) ?_; (· (omega)))
    refine WS.take rfl (by rfl) (by rfl) (q_move (by rfl)) ?_
    refine WS.take rfl (by rfl) (by rfl) (q_nilCheck (by rfl) (by rfl)) ?_
    first | (refine WS.take rfl (by rfl) (by rfl) (q_fieldAddr (by rfl)) ?_) | (refine WS.take rfl (by rfl) (by rfl) (q_fieldAddr_rop (by rfl) (by rfl)) ?_) | (refine WS.take rfl (by rfl) (by rfl) (q_fieldAddr_pel (by rfl)) ?_)
    first | (refine WS.take rfl (by rfl) (by rfl) (q_load (by rfl) (by rfl) (by rfl)) ?_) | (refine WS.take rfl (by rfl) (by rfl) (q_load_rop (by rfl) (by rfl)) ?_) | (refine WS.take rfl (by rfl) (by rfl) (q_load_pel (by rfl) (by rfl) ?_ (by rfl)) ?_; (· (omega)))
    refine WS.take rfl (by rfl) (by rfl) (q_move (by rfl)) ?_
    first | (refine WS.take rfl (by rfl) (by rfl) (q_indexAddr_ros (by rfl) (by rfl) (by intro _; rfl) ?_ ?_) ?_; (· (omega)); (· (omega))) | (refine WS.take rfl (by rfl) (by rfl) (q_indexAddr_sl (by rfl) (by rfl) ?_ ?_) ?_; (· (omega)); (· (omega))) | (refine WS.take rfl (by rfl) (by rfl) (q_indexAddr_arr (by rfl) (by rfl) ?_ ?_) ?_; (· (omega)); (· (omega)))
    first | (refine WS.take rfl (by rfl) (by rfl) (q_fieldAddr (by rfl)) ?_) | (refine WS.take rfl (by rfl) (by rfl) (q_fieldAddr_rop (by rfl) (by rfl)) ?_) | (refine WS.take rfl (by rfl) (by rfl) (q_fieldAddr_pel (by rfl)) ?_)
    first | (refine WS.take rfl (by rfl) (by rfl) (q_load (by rfl) (by rfl) (by rfl)) ?_) | (refine WS.take rfl (by rfl) (by rfl) (q_load_rop (by rfl) (by rfl)) ?_) | (refine WS.take rfl (by rfl) (by rfl) (q_load_pel (by rfl) (by rfl) ?_ (by rfl)) ?_; (· (omega)))
    refine WS.set 27 (prE (lat s.H k).p) (by rfl) (by rw [Nat.zero_add, Int.toNat_natCast]) ?_
    refine WS.ex rfl (by rfl) (Ex.callqz (find_spec (l := s.W) (p := (lat s.H k).p) ?_ ?_ ?_) (by rfl) (by rfl) (.cons (.sla (by rfl)) (.cons (.same _) .nil)) (fun _ => trivial) ?_); (· (omega)); (· (exact hs.w.ok)); (· (exact hk3.1))
    refine WS.take rfl (by rfl) (by rfl) (q_int (by rfl) (by rfl) (by rfl)) ?_
    refine WS.nil ?_
    (repeat refine J.seq ?_)
    refine J.cond (by rfl) (fun c29 => ?_) (fun c29 => ?_)
    · skip
      (first | have e29 := of_decide_eq_true c29 | have e29 := of_decide_eq_false c29 | have e29 := ndec_t c29 | have e29 := ndec_f c29 | skip)
      have h1 := has_f' e29
      (repeat refine J.seq ?_)
      refine J.region ?_
      refine WL.yes (by rfl) (Ex.q (q_move (by rfl)) (by rfl) ?_)
      refine WL.yes (by rfl) (Ex.q (q_move (by rfl)) (by rfl) ?_)
      refine WL.yes (by rfl) (Ex.q (q_nilCheck (by rfl) (by rfl)) (by rfl) ?_)
      first | (refine WL.yes (by rfl) (Ex.q (q_fieldAddr (by rfl)) (by rfl) ?_)) | (refine WL.yes (by rfl) (Ex.q (q_fieldAddr_rop (by rfl) (by rfl)) (by rfl) ?_)) | (refine WL.yes (by rfl) (Ex.q (q_fieldAddr_pel (by rfl)) (by rfl) ?_))
      first | (refine WL.yes (by rfl) (Ex.h (h_load (by rfl) (by rfl) (by rfl)) (by rfl) ?_)) | (refine WL.yes (by rfl) (Ex.q (q_load (by rfl) (by rfl) (by rfl)) (by rfl) ?_)) | (refine WL.yes (by rfl) (Ex.q (q_load_rop (by rfl) (by rfl)) (by rfl) ?_)) | (refine WL.yes (by rfl) (Ex.h (h_load_pel (by rfl) (by rfl) ?_ (by rfl)) (by rfl) ?_); (· (omega))) | (refine WL.yes (by rfl) (Ex.q (q_load_pel (by rfl) (by rfl) ?_ (by rfl)) (by rfl) ?_); (· (omega)))
      refine WL.yes (by rfl) (Ex.q (q_move (by rfl)) (by rfl) ?_)
      first | (refine WL.yes (by rfl) (Ex.q (q_indexAddr_ros (by rfl) (by rfl) (by intro _; rfl) ?_ ?_) (by rfl) ?_); (· (omega)); (· (omega))) | (refine WL.yes (by rfl) (Ex.q (q_indexAddr_sl (by rfl) (by rfl) ?_ ?_) (by rfl) ?_); (· (omega)); (· (omega))) | (refine WL.yes (by rfl) (Ex.q (q_indexAddr_arr (by rfl) (by rfl) ?_ ?_) (by rfl) ?_); (· (omega)); (· (omega)))
      first | (refine WL.yes (by rfl) (Ex.h (h_load (by rfl) (by rfl) (by rfl)) (by rfl) ?_)) | (refine WL.yes (by rfl) (Ex.q (q_load (by rfl) (by rfl) (by rfl)) (by rfl) ?_)) | (refine WL.yes (by rfl) (Ex.q (q_load_rop (by rfl) (by rfl)) (by rfl) ?_)) | (refine WL.yes (by rfl) (Ex.h (h_load_pel (by rfl) (by rfl) ?_ (by rfl)) (by rfl) ?_); (· (omega))) | (refine WL.yes (by rfl) (Ex.q (q_load_pel (by rfl) (by rfl) ?_ (by rfl)) (by rfl) ?_); (· (omega)))
      refine WL.set 37 (enE (lat s.H k)) (by rfl) (by rw [Nat.zero_add, Int.toNat_natCast]) ?_
      refine WL.yes (by rfl) (Ex.q (q_build (parts := [(0, .const (.int .i64 3)), (1, .tmp 37)]) (by rfl) (by rfl)) (by rfl) ?_)
      refine WL.yes (by rfl) (Ex.buildSlice (parts := [(0, .tmp 38)]) (us := [_]) (by rfl) (by rfl) rfl (by rfl) (by rfl) ?_)
      intro b39
      refine WL.yes (by rfl) (Ex.append (e := opE) (l := ((s.H.take k).foldl (td1 s.W) [])) (l' := [⟨3, lat s.H k⟩]) (by rfl) (by rfl) (by rfl) (by rfl) (Rd.lit [_] rfl rfl rfl) ?_ ?_); (· (have := td1_len (W := s.W) (s.H.take k) []; have := List.length_take_le k s.H; have := hs.lh; simp only [List.length_nil, List.length_singleton] at *; omega))
      intro a40 cap40
      refine WL.yes (by rfl) (Ex.q (q_assign (by rfl)) (by rfl) ?_)
      refine WL.nil ?_
      (repeat refine J.seq ?_)
      refine J.region ?_
      refine WL.yes (by rfl) (Ex.q (q_move (by rfl)) (by rfl) ?_)
      refine WL.yes (by rfl) (Ex.q (q_int (by rfl) (by rfl) (by rfl)) (by rfl) ?_)
      refine WL.yes (by rfl) (Ex.q (q_assign (by rfl)) (by rfl) ?_)
      refine WL.nil ?_
      first | ((have hs1 := fold_step (f := td1 s.W) (b := []) hk2; rw [td1_yes h1] at hs1); refine Kloop.nextP (k + 1, a40, cap40) ?_ ?_ ⟨⟨_, rfl, by rw [hs1]; cases a40 <;> rfl, fun _ => trivial⟩, same (by rw [← w64_nat (k := k) (by omega)]; rfl), trivial⟩ ⟨same rfl, trivial⟩ (.cons (s := 40) rfl (by rw [hs1]; exact CLe.refl _ _) rfl (.cons (s := 3051) rfl (CLe.refl _ _) rfl (.cons (s := 3052) rfl (CLe.refl _ _) rfl (.cons (s := 3053) rfl (CLe.refl _ _) rfl (.cons (s := 3060) rfl (CLe.refl _ _) rfl .nil))))); (· ((try dsimp only) <;> omega)); (· ((try dsimp only) <;> omega))) | ((have hs1 := fold_step (f := td1 s.W) (b := []) hk2; rw [td1_no h1] at hs1); refine Kloop.nextP (k + 1, a3, c3) ?_ ?_ ⟨⟨_, rfl, by rw [hs1], fun _ => trivial⟩, same (by rw [← w64_nat (k := k) (by omega)]; rfl), trivial⟩ ⟨same rfl, trivial⟩ (.cons (s := 3) rfl (by rw [hs1]; exact CLe.refl _ _) rfl (.cons (s := 3051) rfl (CLe.refl _ _) rfl (.cons (s := 3052) rfl (CLe.refl _ _) rfl (.cons (s := 3053) rfl (CLe.refl _ _) rfl (.cons (s := 3060) rfl (CLe.refl _ _) rfl .nil))))); (· ((try dsimp only) <;> omega)); (· ((try dsimp only) <;> omega)))
    · skip
      (first | have e29 := of_decide_eq_true c29 | have e29 := of_decide_eq_false c29 | have e29 := ndec_t c29 | have e29 := ndec_f c29 | skip)
      have h1 := has_t' e29
      (repeat refine J.seq ?_)
      refine J.skip ?_
      (repeat refine J.seq ?_)
      refine J.region ?_
      refine WL.yes (by rfl) (Ex.q (q_move (by rfl)) (by rfl) ?_)
      refine WL.yes (by rfl) (Ex.q (q_int (by rfl) (by rfl) (by rfl)) (by rfl) ?_)
      refine WL.yes (by rfl) (Ex.q (q_assign (by rfl)) (by rfl) ?_)
      refine WL.nil ?_
      first | ((have hs1 := fold_step (f := td1 s.W) (b := []) hk2; rw [td1_yes h1] at hs1); refine Kloop.nextP (k + 1, a40, cap40) ?_ ?_ ⟨⟨_, rfl, by rw [hs1]; cases a40 <;> rfl, fun _ => trivial⟩, same (by rw [← w64_nat (k := k) (by omega)]; rfl), trivial⟩ ⟨same rfl, trivial⟩ (.cons (s := 40) rfl (by rw [hs1]; exact CLe.refl _ _) rfl (.cons (s := 3051) rfl (CLe.refl _ _) rfl (.cons (s := 3052) rfl (CLe.refl _ _) rfl (.cons (s := 3053) rfl (CLe.refl _ _) rfl (.cons (s := 3060) rfl (CLe.refl _ _) rfl .nil))))); (· ((try dsimp only) <;> omega)); (· ((try dsimp only) <;> omega))) | ((have hs1 := fold_step (f := td1 s.W) (b := []) hk2; rw [td1_no h1] at hs1); refine Kloop.nextP (k + 1, a3, c3) ?_ ?_ ⟨⟨_, rfl, by rw [hs1], fun _ => trivial⟩, same (by rw [← w64_nat (k := k) (by omega)]; rfl), trivial⟩ ⟨same rfl, trivial⟩ (.cons (s := 3) rfl (by rw [hs1]; exact CLe.refl _ _) rfl (.cons (s := 3051) rfl (CLe.refl _ _) rfl (.cons (s := 3052) rfl (CLe.refl _ _) rfl (.cons (s := 3053) rfl (CLe.refl _ _) rfl (.cons (s := 3060) rfl (CLe.refl _ _) rfl .nil))))); (· ((try dsimp only) <;> omega)); (· ((try dsimp only) <;> omega)))
  · skip
    (first | have e13 := of_decide_eq_true c13 | have e13 := of_decide_eq_false c13 | have e13 := ndec_t c13 | have e13 := ndec_f c13 | skip)
    (repeat refine J.seq ?_)
    refine J.exit ?_
    (repeat refine J.seq ?_)
    have hkn : s.H.take k = s.H := take_all (by omega)
    rw [hkn]
    refine J.region ?_
    refine WL.yes (by rfl) (Ex.q (q_assign (by rfl)) (by rfl) ?_)
    refine WL.nil ?_
    (repeat refine J.seq ?_)
    refine J.block ?_
    (repeat refine J.seq ?_)
    refine J.loopP (fun x : Nat × Option Nat × Nat => x.1 ≤ s.W.length) (fun x => [(3, .sl 3 x.2.1 52 0 x.2.2 ((s.W.take x.1).foldl (td2 s.H) (s.H.foldl (td1 s.W) [])).length), (5, iV x.1)]) (fun x => [(3, lvec x.2.1 39 52 x.2.2 opE ((s.W.take x.1).foldl (td2 s.H) (s.H.foldl (td1 s.W) [])))]) (fun x => s.W.length - x.1) (0, a3, c3) [(0, _)] [(3051, _), (3052, _), (3053, _), (3060, _)] ⟨same rfl, trivial⟩ ⟨same rfl, same rfl, trivial⟩ (.cons (s := 3) rfl (CLe.refl _ _) rfl (.cons (s := 3051) rfl (CLe.refl _ _) rfl (.cons (s := 3052) rfl (CLe.refl _ _) rfl (.cons (s := 3053) rfl (CLe.refl _ _) rfl (.cons (s := 3060) rfl (CLe.refl _ _) rfl .nil))))) ?_ ?_
    · (exact Nat.zero_le _)
    rintro ⟨k, a3, c3⟩ hx
    (try dsimp only at hx)
    (try dsimp only)
    (repeat refine J.seq ?_)
    refine J.region ?_
    refine WL.yes (by rfl) (Ex.q (q_move (by rfl)) (by rfl) ?_)
    refine WL.yes (by rfl) (Ex.q (q_move (by rfl)) (by rfl) ?_)
    refine WL.yes (by rfl) (Ex.q (q_nilCheck (by rfl) (by rfl)) (by rfl) ?_)
    first | (refine WL.yes (by rfl) (Ex.q (q_fieldAddr (by rfl)) (by rfl) ?_)) | (refine WL.yes (by rfl) (Ex.q (q_fieldAddr_rop (by rfl) (by rfl)) (by rfl) ?_)) | (refine WL.yes (by rfl) (Ex.q (q_fieldAddr_pel (by rfl)) (by rfl) ?_))
    first | (refine WL.yes (by rfl) (Ex.h (h_load (by rfl) (by rfl) (by rfl)) (by rfl) ?_)) | (refine WL.yes (by rfl) (Ex.q (q_load (by rfl) (by rfl) (by rfl)) (by rfl) ?_)) | (refine WL.yes (by rfl) (Ex.q (q_load_rop (by rfl) (by rfl)) (by rfl) ?_)) | (refine WL.yes (by rfl) (Ex.h (h_load_pel (by rfl) (by rfl) ?_ (by rfl)) (by rfl) ?_); (· (omega))) | (refine WL.yes (by rfl) (Ex.q (q_load_pel (by rfl) (by rfl) ?_ (by rfl)) (by rfl) ?_); (· (omega)))
    first | (refine WL.yes (by rfl) (Ex.q (q_len_slice (by rfl) (by rfl)) (by rfl) ?_)) | (refine WL.yes (by rfl) (Ex.q (q_len_string (by rfl)) (by rfl) ?_))
    refine WL.yes (by rfl) (Ex.q (q_int (by rfl) (by rfl) (by rfl)) (by rfl) ?_)
    refine WL.nil ?_
    (repeat refine J.seq ?_)
    refine J.cond (by rfl) (fun c47 => ?_) (fun c47 => ?_)
    · skip
      (first | have e47 := of_decide_eq_true c47 | have e47 := of_decide_eq_false c47 | have e47 := ndec_t c47 | have e47 := ndec_f c47 | skip)
      (repeat refine J.seq ?_)
      refine J.skip ?_
      (repeat refine J.seq ?_)
      refine J.block ?_
      (repeat refine J.seq ?_)
      have hk2 : k < s.W.length := by omega
      have hk3 : (lat s.W k).ok := lat_ok hs.w.ok hk2
      refine J.vecsome (t := 3052) rfl (by omega) ?_
      intro bw hbw
      subst hbw
      refine J.draw [3, 3051, 3052, 3053, 3060] 9999 [(0, true), (1, true), (2, true), (3, true), (4, true), (5, true), (6, true), (7, true), (8, true), (9, true), (10, true), (11, true), (12, false), (13, true)] (by kernel_rfl) rfl (by kernel_rfl) ?_
      intro F2 hF2
      refine WS.take rfl (by rfl) (by rfl) (q_move (by rfl)) ?_
      refine WS.take rfl (by rfl) (by rfl) (q_nilCheck (by rfl) (by rfl)) ?_
      first | (refine WS.take rfl (by rfl) (by rfl) (q_fieldAddr (by rfl)) ?_) | (refine WS.take rfl (by rfl) (by rfl) (q_fieldAddr_rop (by rfl) (by rfl)) ?_) | (refine WS.take rfl (by rfl) (by rfl) (q_fieldAddr_pel (by rfl)) ?_)
      first | (refine WS.take rfl (by rfl) (by rfl) (q_load (by rfl) (by rfl) (by rfl)) ?_) | (refine WS.take rfl (by rfl) (by rfl) (q_load_rop (by rfl) (by rfl)) ?_) | (refine WS.take rfl (by rfl) (by rfl) (q_load_pel (by rfl) (by rfl) ?_ (by rfl)) ?_; (· (omega)))
      refine WS.take rfl (by rfl) (by rfl) (q_move (by rfl)) ?_
      refine WS.take rfl (by rfl) (by rfl) (q_nilCheck (by rfl) (by rfl)) ?_
      first | (refine WS.take rfl (by rfl) (by rfl) (q_fieldAddr (by rfl)) ?_) | (refine WS.take rfl (by rfl) (by rfl) (q_fieldAddr_rop (by rfl) (by rfl)) ?_) | (refine WS.take rfl (by rfl) (by rfl) (q_fieldAddr_pel (by rfl)) ?_)
      first | (refine WS.take rfl (by rfl) (by rfl) (q_load (by rfl) (by rfl) (by rfl)) ?_) | (refine WS.take rfl (by rfl) (by rfl) (q_load_rop (by rfl) (by rfl)) ?_) | (refine WS.take rfl (by rfl) (by rfl) (q_load_pel (by rfl) (by rfl) ?_ (by rfl)) ?_; (· (omega)))
      refine WS.take rfl (by rfl) (by rfl) (q_move (by rfl)) ?_
      first | (refine WS.take rfl (by rfl) (by rfl) (q_indexAddr_ros (by rfl) (by rfl) (by intro _; rfl) ?_ ?_) ?_; (· (omega)); (· (omega))) | (refine WS.take rfl (by rfl) (by rfl) (q_indexAddr_sl (by rfl) (by rfl) ?_ ?_) ?_; (· (omega)); (· (omega))) | (refine WS.take rfl (by rfl) (by rfl) (q_indexAddr_arr (by rfl) (by rfl) ?_ ?_) ?_; (· (omega)); (· (omega)))
      first | (refine WS.take rfl (by rfl) (by rfl) (q_fieldAddr (by rfl)) ?_) | (refine WS.take rfl (by rfl) (by rfl) (q_fieldAddr_rop (by rfl) (by rfl)) ?_) | (refine WS.take rfl (by rfl) (by rfl) (q_fieldAddr_pel (by rfl)) ?_)
      first | (refine WS.take rfl (by rfl) (by rfl) (q_load (by rfl) (by rfl) (by rfl)) ?_) | (refine WS.take rfl (by rfl) (by rfl) (q_load_rop (by rfl) (by rfl)) ?_) | (refine WS.take rfl (by rfl) (by rfl) (q_load_pel (by rfl) (by rfl) ?_ (by rfl)) ?_; (· (omega)))
      refine WS.set 61 (prE (lat s.W k).p) (by rfl) (by rw [Nat.zero_add, Int.toNat_natCast]) ?_
      refine WS.ex rfl (by rfl) (Ex.callqz (find_spec (l := s.H) (p := (lat s.W k).p) ?_ ?_ ?_) (by rfl) (by rfl) (.cons (.sla (by rfl)) (.cons (.same _) .nil)) (fun _ => trivial) ?_); (· (omega)); (· (exact hs.h.ok)); (· (exact hk3.1))
      refine WS.take rfl (by rfl) (by rfl) (q_assign (by rfl)) ?_
      refine WS.nil ?_
      (repeat refine J.seq ?_)
      refine J.block ?_
      (repeat refine J.seq ?_)
      refine J.region ?_
      refine WL.yes (by rfl) (Ex.q (q_move (by rfl)) (by rfl) ?_)
      refine WL.yes (by rfl) (Ex.q (q_int (by rfl) (by rfl) (by rfl)) (by rfl) ?_)
      refine WL.yes (by rfl) (Ex.q (q_assign (by rfl)) (by rfl) ?_)
      refine WL.nil ?_
      (repeat refine J.seq ?_)
      refine J.cond (by rfl) (fun c63 => ?_) (fun c63 => ?_)
      · skip
        (first | have e63 := of_decide_eq_true c63 | have e63 := of_decide_eq_false c63 | have e63 := ndec_t c63 | have e63 := ndec_f c63 | skip)
        have h1 := has_f' e63
        (repeat refine J.seq ?_)
        refine J.region ?_
        refine WL.yes (by rfl) (Ex.q (q_move (by rfl)) (by rfl) ?_)
        refine WL.yes (by rfl) (Ex.q (q_move (by rfl)) (by rfl) ?_)
        refine WL.yes (by rfl) (Ex.q (q_nilCheck (by rfl) (by rfl)) (by rfl) ?_)
        first | (refine WL.yes (by rfl) (Ex.q (q_fieldAddr (by rfl)) (by rfl) ?_)) | (refine WL.yes (by rfl) (Ex.q (q_fieldAddr_rop (by rfl) (by rfl)) (by rfl) ?_)) | (refine WL.yes (by rfl) (Ex.q (q_fieldAddr_pel (by rfl)) (by rfl) ?_))
        first | (refine WL.yes (by rfl) (Ex.h (h_load (by rfl) (by rfl) (by rfl)) (by rfl) ?_)) | (refine WL.yes (by rfl) (Ex.q (q_load (by rfl) (by rfl) (by rfl)) (by rfl) ?_)) | (refine WL.yes (by rfl) (Ex.q (q_load_rop (by rfl) (by rfl)) (by rfl) ?_)) | (refine WL.yes (by rfl) (Ex.h (h_load_pel (by rfl) (by rfl) ?_ (by rfl)) (by rfl) ?_); (· (omega))) | (refine WL.yes (by rfl) (Ex.q (q_load_pel (by rfl) (by rfl) ?_ (by rfl)) (by rfl) ?_); (· (omega)))
        refine WL.yes (by rfl) (Ex.q (q_move (by rfl)) (by rfl) ?_)
        first | (refine WL.yes (by rfl) (Ex.q (q_indexAddr_ros (by rfl) (by rfl) (by intro _; rfl) ?_ ?_) (by rfl) ?_); (· (omega)); (· (omega))) | (refine WL.yes (by rfl) (Ex.q (q_indexAddr_sl (by rfl) (by rfl) ?_ ?_) (by rfl) ?_); (· (omega)); (· (omega))) | (refine WL.yes (by rfl) (Ex.q (q_indexAddr_arr (by rfl) (by rfl) ?_ ?_) (by rfl) ?_); (· (omega)); (· (omega)))
        first | (refine WL.yes (by rfl) (Ex.h (h_load (by rfl) (by rfl) (by rfl)) (by rfl) ?_)) | (refine WL.yes (by rfl) (Ex.q (q_load (by rfl) (by rfl) (by rfl)) (by rfl) ?_)) | (refine WL.yes (by rfl) (Ex.q (q_load_rop (by rfl) (by rfl)) (by rfl) ?_)) | (refine WL.yes (by rfl) (Ex.h (h_load_pel (by rfl) (by rfl) ?_ (by rfl)) (by rfl) ?_); (· (omega))) | (refine WL.yes (by rfl) (Ex.q (q_load_pel (by rfl) (by rfl) ?_ (by rfl)) (by rfl) ?_); (· (omega)))
        refine WL.set 73 (enE (lat s.W k)) (by rfl) (by rw [Nat.zero_add, Int.toNat_natCast]) ?_
        refine WL.yes (by rfl) (Ex.q (q_build (parts := [(0, .const (.int .i64 1)), (1, .tmp 73)]) (by rfl) (by rfl)) (by rfl) ?_)
        refine WL.yes (by rfl) (Ex.buildSlice (parts := [(0, .tmp 74)]) (us := [_]) (by rfl) (by rfl) rfl (by rfl) (by rfl) ?_)
        intro b75
        refine WL.yes (by rfl) (Ex.append (e := opE) (l := ((s.W.take k).foldl (td2 s.H) (s.H.foldl (td1 s.W) []))) (l' := [⟨1, lat s.W k⟩]) (by rfl) (by rfl) (by rfl) (by rfl) (Rd.lit [_] rfl rfl rfl) ?_ ?_); (· (have := td2_len (H := s.H) (s.W.take k) (s.H.foldl (td1 s.W) []); have := td1_len (W := s.W) s.H []; have := List.length_take_le k s.W; have := hs.lh; have := hs.lw; simp only [List.length_nil, List.length_singleton] at *; omega))
        intro a76 cap76
        refine WL.yes (by rfl) (Ex.q (q_assign (by rfl)) (by rfl) ?_)
        refine WL.nil ?_
        (repeat refine J.seq ?_)
        refine J.region ?_
        refine WL.yes (by rfl) (Ex.q (q_move (by rfl)) (by rfl) ?_)
        refine WL.yes (by rfl) (Ex.q (q_int (by rfl) (by rfl) (by rfl)) (by rfl) ?_)
        refine WL.yes (by rfl) (Ex.q (q_assign (by rfl)) (by rfl) ?_)
        refine WL.nil ?_
        first | ((have hs1 := fold_step (f := td2 s.H) (b := (s.H.foldl (td1 s.W) [])) hk2; rw [td2_add h1] at hs1); refine Kloop.nextP (k + 1, a76, cap76) ?_ ?_ ⟨⟨_, rfl, by rw [hs1]; cases a76 <;> rfl, fun _ => trivial⟩, same (by rw [← w64_nat (k := k) (by omega)]; rfl), trivial⟩ ⟨same rfl, trivial⟩ (.cons (s := 76) rfl (by rw [hs1]; exact CLe.refl _ _) rfl (.cons (s := 3051) rfl (CLe.refl _ _) rfl (.cons (s := 3052) rfl (CLe.refl _ _) rfl (.cons (s := 3053) rfl (CLe.refl _ _) rfl (.cons (s := 3060) rfl (CLe.refl _ _) rfl .nil))))); (· ((try dsimp only) <;> omega)); (· ((try dsimp only) <;> omega))) | ((have hs1 := fold_step (f := td2 s.H) (b := (s.H.foldl (td1 s.W) [])) hk2; rw [td2_chg h1 h2] at hs1); refine Kloop.nextP (k + 1, a103, cap103) ?_ ?_ ⟨⟨_, rfl, by rw [hs1]; cases a103 <;> rfl, fun _ => trivial⟩, same (by rw [← w64_nat (k := k) (by omega)]; rfl), trivial⟩ ⟨same rfl, trivial⟩ (.cons (s := 103) rfl (by rw [hs1]; exact CLe.refl _ _) rfl (.cons (s := 3051) rfl (CLe.refl _ _) rfl (.cons (s := 3052) rfl (CLe.refl _ _) rfl (.cons (s := 3053) rfl (CLe.refl _ _) rfl (.cons (s := 3060) rfl (CLe.refl _ _) rfl .nil))))); (· ((try dsimp only) <;> omega)); (· ((try dsimp only) <;> omega))) | ((have hs1 := fold_step (f := td2 s.H) (b := (s.H.foldl (td1 s.W) [])) hk2; rw [td2_no h1 h2] at hs1); refine Kloop.nextP (k + 1, a3, c3) ?_ ?_ ⟨⟨_, rfl, by rw [hs1], fun _ => trivial⟩, same (by rw [← w64_nat (k := k) (by omega)]; rfl), trivial⟩ ⟨same rfl, trivial⟩ (.cons (s := 3) rfl (by rw [hs1]; exact CLe.refl _ _) rfl (.cons (s := 3051) rfl (CLe.refl _ _) rfl (.cons (s := 3052) rfl (CLe.refl _ _) rfl (.cons (s := 3053) rfl (CLe.refl _ _) rfl (.cons (s := 3060) rfl (CLe.refl _ _) rfl .nil))))); (· ((try dsimp only) <;> omega)); (· ((try dsimp only) <;> omega)))
      · skip
        (first | have e63 := of_decide_eq_true c63 | have e63 := of_decide_eq_false c63 | have e63 := ndec_t c63 | have e63 := ndec_f c63 | skip)
        have h1 := has_t' e63
        obtain ⟨k0, hk0, hk1, hk4⟩ := fnd_ge (p := (lat s.W k).p) (l := s.H) (by omega)
        have htl := tlook_fnd hk0
        rw [hk0]
        refine J.vecsome (t := 3051) rfl (by omega) ?_
        intro bh hbh
        subst hbh
        (repeat refine J.seq ?_)
        refine J.draw [3, 3051, 3052, 3053, 3060] 9999 [(0, true), (1, true), (2, true), (3, true), (4, true), (5, true), (6, true), (7, true), (8, true), (9, true), (10, true), (11, true), (12, true), (13, true), (14, true), (15, true)] (by kernel_rfl) rfl (by kernel_rfl) ?_
        intro F3 hF3
        refine WS.take rfl (by rfl) (by rfl) (q_move (by rfl)) ?_
        refine WS.take rfl (by rfl) (by rfl) (q_nilCheck (by rfl) (by rfl)) ?_
        first | (refine WS.take rfl (by rfl) (by rfl) (q_fieldAddr (by rfl)) ?_) | (refine WS.take rfl (by rfl) (by rfl) (q_fieldAddr_rop (by rfl) (by rfl)) ?_) | (refine WS.take rfl (by rfl) (by rfl) (q_fieldAddr_pel (by rfl)) ?_)
        first | (refine WS.take rfl (by rfl) (by rfl) (q_load (by rfl) (by rfl) (by rfl)) ?_) | (refine WS.take rfl (by rfl) (by rfl) (q_load_rop (by rfl) (by rfl)) ?_) | (refine WS.take rfl (by rfl) (by rfl) (q_load_pel (by rfl) (by rfl) ?_ (by rfl)) ?_; (· (omega)))
        refine WS.take rfl (by rfl) (by rfl) (q_move (by rfl)) ?_
        first | (refine WS.take rfl (by rfl) (by rfl) (q_indexAddr_ros (by rfl) (by rfl) (by intro _; rfl) ?_ ?_) ?_; (· (omega)); (· (omega))) | (refine WS.take rfl (by rfl) (by rfl) (q_indexAddr_sl (by rfl) (by rfl) ?_ ?_) ?_; (· (omega)); (· (omega))) | (refine WS.take rfl (by rfl) (by rfl) (q_indexAddr_arr (by rfl) (by rfl) ?_ ?_) ?_; (· (omega)); (· (omega)))
        first | (refine WS.take rfl (by rfl) (by rfl) (q_load (by rfl) (by rfl) (by rfl)) ?_) | (refine WS.take rfl (by rfl) (by rfl) (q_load_rop (by rfl) (by rfl)) ?_) | (refine WS.take rfl (by rfl) (by rfl) (q_load_pel (by rfl) (by rfl) ?_ (by rfl)) ?_; (· (omega)))
        refine WS.set 84 (enE (lat s.H k0)) (by rfl) (by rw [Nat.zero_add, Int.toNat_natCast]) ?_
        refine WS.take rfl (by rfl) (by rfl) (q_move (by rfl)) ?_
        refine WS.take rfl (by rfl) (by rfl) (q_nilCheck (by rfl) (by rfl)) ?_
        first | (refine WS.take rfl (by rfl) (by rfl) (q_fieldAddr (by rfl)) ?_) | (refine WS.take rfl (by rfl) (by rfl) (q_fieldAddr_rop (by rfl) (by rfl)) ?_) | (refine WS.take rfl (by rfl) (by rfl) (q_fieldAddr_pel (by rfl)) ?_)
        first | (refine WS.take rfl (by rfl) (by rfl) (q_load (by rfl) (by rfl) (by rfl)) ?_) | (refine WS.take rfl (by rfl) (by rfl) (q_load_rop (by rfl) (by rfl)) ?_) | (refine WS.take rfl (by rfl) (by rfl) (q_load_pel (by rfl) (by rfl) ?_ (by rfl)) ?_; (· (omega)))
        refine WS.take rfl (by rfl) (by rfl) (q_move (by rfl)) ?_
        first | (refine WS.take rfl (by rfl) (by rfl) (q_indexAddr_ros (by rfl) (by rfl) (by intro _; rfl) ?_ ?_) ?_; (· (omega)); (· (omega))) | (refine WS.take rfl (by rfl) (by rfl) (q_indexAddr_sl (by rfl) (by rfl) ?_ ?_) ?_; (· (omega)); (· (omega))) | (refine WS.take rfl (by rfl) (by rfl) (q_indexAddr_arr (by rfl) (by rfl) ?_ ?_) ?_; (· (omega)); (· (omega)))
        first | (refine WS.take rfl (by rfl) (by rfl) (q_load (by rfl) (by rfl) (by rfl)) ?_) | (refine WS.take rfl (by rfl) (by rfl) (q_load_rop (by rfl) (by rfl)) ?_) | (refine WS.take rfl (by rfl) (by rfl) (q_load_pel (by rfl) (by rfl) ?_ (by rfl)) ?_; (· (omega)))
        refine WS.set 91 (enE (lat s.W k)) (by rfl) (by rw [Nat.zero_add, Int.toNat_natCast]) ?_
        first | (refine WS.take rfl (by rfl) (by rfl) (q_int (by rfl) (by rfl) (by rfl)) ?_) | (refine WS.take rfl (by rfl) (by rfl) (q_neb (by rfl) (by rfl)) ?_) | (refine WS.take rfl (by rfl) (by rfl) (q_nep rfl rfl (by rfl) (by rfl) ?_) ?_; (· (rfl))) | (refine WS.take rfl (by rfl) (by rfl) (q_eqs (by rfl) (by rfl)) ?_)
        refine WS.take rfl (by rfl) (by rfl) (q_assign (by rfl)) ?_
        refine WS.nil ?_
        (repeat refine J.seq ?_)
        refine J.cond (by rfl) (fun c77 => ?_) (fun c77 => ?_)
        · skip
          (first | have e77 := of_decide_eq_true c77 | have e77 := of_decide_eq_false c77 | have e77 := ndec_t c77 | have e77 := ndec_f c77 | skip)
          rw [eqEn (lat_ok hs.h.ok hk1) hk3] at c77
          have h2 : ¬ (tlook (lat s.W k).p s.H).getD default = lat s.W k := by rw [htl]; simpa only [Bool.not_eq_true', decide_eq_false_iff_not, Option.getD_some] using c77
          (repeat refine J.seq ?_)
          refine J.region ?_
          refine WL.yes (by rfl) (Ex.q (q_move (by rfl)) (by rfl) ?_)
          refine WL.yes (by rfl) (Ex.q (q_move (by rfl)) (by rfl) ?_)
          refine WL.yes (by rfl) (Ex.q (q_nilCheck (by rfl) (by rfl)) (by rfl) ?_)
          first | (refine WL.yes (by rfl) (Ex.q (q_fieldAddr (by rfl)) (by rfl) ?_)) | (refine WL.yes (by rfl) (Ex.q (q_fieldAddr_rop (by rfl) (by rfl)) (by rfl) ?_)) | (refine WL.yes (by rfl) (Ex.q (q_fieldAddr_pel (by rfl)) (by rfl) ?_))
          first | (refine WL.yes (by rfl) (Ex.h (h_load (by rfl) (by rfl) (by rfl)) (by rfl) ?_)) | (refine WL.yes (by rfl) (Ex.q (q_load (by rfl) (by rfl) (by rfl)) (by rfl) ?_)) | (refine WL.yes (by rfl) (Ex.q (q_load_rop (by rfl) (by rfl)) (by rfl) ?_)) | (refine WL.yes (by rfl) (Ex.h (h_load_pel (by rfl) (by rfl) ?_ (by rfl)) (by rfl) ?_); (· (omega))) | (refine WL.yes (by rfl) (Ex.q (q_load_pel (by rfl) (by rfl) ?_ (by rfl)) (by rfl) ?_); (· (omega)))
          refine WL.yes (by rfl) (Ex.q (q_move (by rfl)) (by rfl) ?_)
          first | (refine WL.yes (by rfl) (Ex.q (q_indexAddr_ros (by rfl) (by rfl) (by intro _; rfl) ?_ ?_) (by rfl) ?_); (· (omega)); (· (omega))) | (refine WL.yes (by rfl) (Ex.q (q_indexAddr_sl (by rfl) (by rfl) ?_ ?_) (by rfl) ?_); (· (omega)); (· (omega))) | (refine WL.yes (by rfl) (Ex.q (q_indexAddr_arr (by rfl) (by rfl) ?_ ?_) (by rfl) ?_); (· (omega)); (· (omega)))
          first | (refine WL.yes (by rfl) (Ex.h (h_load (by rfl) (by rfl) (by rfl)) (by rfl) ?_)) | (refine WL.yes (by rfl) (Ex.q (q_load (by rfl) (by rfl) (by rfl)) (by rfl) ?_)) | (refine WL.yes (by rfl) (Ex.q (q_load_rop (by rfl) (by rfl)) (by rfl) ?_)) | (refine WL.yes (by rfl) (Ex.h (h_load_pel (by rfl) (by rfl) ?_ (by rfl)) (by rfl) ?_); (· (omega))) | (refine WL.yes (by rfl) (Ex.q (q_load_pel (by rfl) (by rfl) ?_ (by rfl)) (by rfl) ?_); (· (omega)))
          refine WL.set 100 (enE (lat s.W k)) (by rfl) (by rw [Nat.zero_add, Int.toNat_natCast]) ?_
          refine WL.yes (by rfl) (Ex.q (q_build (parts := [(0, .const (.int .i64 2)), (1, .tmp 100)]) (by rfl) (by rfl)) (by rfl) ?_)
          refine WL.yes (by rfl) (Ex.buildSlice (parts := [(0, .tmp 101)]) (us := [_]) (by rfl) (by rfl) rfl (by rfl) (by rfl) ?_)
          intro b102
          refine WL.yes (by rfl) (Ex.append (e := opE) (l := ((s.W.take k).foldl (td2 s.H) (s.H.foldl (td1 s.W) []))) (l' := [⟨2, lat s.W k⟩]) (by rfl) (by rfl) (by rfl) (by rfl) (Rd.lit [_] rfl rfl rfl) ?_ ?_); (· (have := td2_len (H := s.H) (s.W.take k) (s.H.foldl (td1 s.W) []); have := td1_len (W := s.W) s.H []; have := List.length_take_le k s.W; have := hs.lh; have := hs.lw; simp only [List.length_nil, List.length_singleton] at *; omega))
          intro a103 cap103
          refine WL.yes (by rfl) (Ex.q (q_assign (by rfl)) (by rfl) ?_)
          refine WL.nil ?_
          (repeat refine J.seq ?_)
          refine J.region ?_
          refine WL.yes (by rfl) (Ex.q (q_move (by rfl)) (by rfl) ?_)
          refine WL.yes (by rfl) (Ex.q (q_int (by rfl) (by rfl) (by rfl)) (by rfl) ?_)
          refine WL.yes (by rfl) (Ex.q (q_assign (by rfl)) (by rfl) ?_)
          refine WL.nil ?_
          first | ((have hs1 := fold_step (f := td2 s.H) (b := (s.H.foldl (td1 s.W) [])) hk2; rw [td2_add h1] at hs1); refine Kloop.nextP (k + 1, a76, cap76) ?_ ?_ ⟨⟨_, rfl, by rw [hs1]; cases a76 <;> rfl, fun _ => trivial⟩, same (by rw [← w64_nat (k := k) (by omega)]; rfl), trivial⟩ ⟨same rfl, trivial⟩ (.cons (s := 76) rfl (by rw [hs1]; exact CLe.refl _ _) rfl (.cons (s := 3051) rfl (CLe.refl _ _) rfl (.cons (s := 3052) rfl (CLe.refl _ _) rfl (.cons (s := 3053) rfl (CLe.refl _ _) rfl (.cons (s := 3060) rfl (CLe.refl _ _) rfl .nil))))); (· ((try dsimp only) <;> omega)); (· ((try dsimp only) <;> omega))) | ((have hs1 := fold_step (f := td2 s.H) (b := (s.H.foldl (td1 s.W) [])) hk2; rw [td2_chg h1 h2] at hs1); refine Kloop.nextP (k + 1, a103, cap103) ?_ ?_ ⟨⟨_, rfl, by rw [hs1]; cases a103 <;> rfl, fun _ => trivial⟩, same (by rw [← w64_nat (k := k) (by omega)]; rfl), trivial⟩ ⟨same rfl, trivial⟩ (.cons (s := 103) rfl (by rw [hs1]; exact CLe.refl _ _) rfl (.cons (s := 3051) rfl (CLe.refl _ _) rfl (.cons (s := 3052) rfl (CLe.refl _ _) rfl (.cons (s := 3053) rfl (CLe.refl _ _) rfl (.cons (s := 3060) rfl (CLe.refl _ _) rfl .nil))))); (· ((try dsimp only) <;> omega)); (· ((try dsimp only) <;> omega))) | ((have hs1 := fold_step (f := td2 s.H) (b := (s.H.foldl (td1 s.W) [])) hk2; rw [td2_no h1 h2] at hs1); refine Kloop.nextP (k + 1, a3, c3) ?_ ?_ ⟨⟨_, rfl, by rw [hs1], fun _ => trivial⟩, same (by rw [← w64_nat (k := k) (by omega)]; rfl), trivial⟩ ⟨same rfl, trivial⟩ (.cons (s := 3) rfl (by rw [hs1]; exact CLe.refl _ _) rfl (.cons (s := 3051) rfl (CLe.refl _ _) rfl (.cons (s := 3052) rfl (CLe.refl _ _) rfl (.cons (s := 3053) rfl (CLe.refl _ _) rfl (.cons (s := 3060) rfl (CLe.refl _ _) rfl .nil))))); (· ((try dsimp only) <;> omega)); (· ((try dsimp only) <;> omega)))
        · skip
          (first | have e77 := of_decide_eq_true c77 | have e77 := of_decide_eq_false c77 | have e77 := ndec_t c77 | have e77 := ndec_f c77 | skip)
          rw [eqEn (lat_ok hs.h.ok hk1) hk3] at c77
          have h2 : (tlook (lat s.W k).p s.H).getD default = lat s.W k := by rw [htl]; simpa only [Bool.not_eq_false', decide_eq_true_eq, Option.getD_some] using c77
          (repeat refine J.seq ?_)
          refine J.skip ?_
          (repeat refine J.seq ?_)
          refine J.region ?_
          refine WL.yes (by rfl) (Ex.q (q_move (by rfl)) (by rfl) ?_)
          refine WL.yes (by rfl) (Ex.q (q_int (by rfl) (by rfl) (by rfl)) (by rfl) ?_)
          refine WL.yes (by rfl) (Ex.q (q_assign (by rfl)) (by rfl) ?_)
          refine WL.nil ?_
          first | ((have hs1 := fold_step (f := td2 s.H) (b := (s.H.foldl (td1 s.W) [])) hk2; rw [td2_add h1] at hs1); refine Kloop.nextP (k + 1, a76, cap76) ?_ ?_ ⟨⟨_, rfl, by rw [hs1]; cases a76 <;> rfl, fun _ => trivial⟩, same (by rw [← w64_nat (k := k) (by omega)]; rfl), trivial⟩ ⟨same rfl, trivial⟩ (.cons (s := 76) rfl (by rw [hs1]; exact CLe.refl _ _) rfl (.cons (s := 3051) rfl (CLe.refl _ _) rfl (.cons (s := 3052) rfl (CLe.refl _ _) rfl (.cons (s := 3053) rfl (CLe.refl _ _) rfl (.cons (s := 3060) rfl (CLe.refl _ _) rfl .nil))))); (· ((try dsimp only) <;> omega)); (· ((try dsimp only) <;> omega))) | ((have hs1 := fold_step (f := td2 s.H) (b := (s.H.foldl (td1 s.W) [])) hk2; rw [td2_chg h1 h2] at hs1); refine Kloop.nextP (k + 1, a103, cap103) ?_ ?_ ⟨⟨_, rfl, by rw [hs1]; cases a103 <;> rfl, fun _ => trivial⟩, same (by rw [← w64_nat (k := k) (by omega)]; rfl), trivial⟩ ⟨same rfl, trivial⟩ (.cons (s := 103) rfl (by rw [hs1]; exact CLe.refl _ _) rfl (.cons (s := 3051) rfl (CLe.refl _ _) rfl (.cons (s := 3052) rfl (CLe.refl _ _) rfl (.cons (s := 3053) rfl (CLe.refl _ _) rfl (.cons (s := 3060) rfl (CLe.refl _ _) rfl .nil))))); (· ((try dsimp only) <;> omega)); (· ((try dsimp only) <;> omega))) | ((have hs1 := fold_step (f := td2 s.H) (b := (s.H.foldl (td1 s.W) [])) hk2; rw [td2_no h1 h2] at hs1); refine Kloop.nextP (k + 1, a3, c3) ?_ ?_ ⟨⟨_, rfl, by rw [hs1], fun _ => trivial⟩, same (by rw [← w64_nat (k := k) (by omega)]; rfl), trivial⟩ ⟨same rfl, trivial⟩ (.cons (s := 3) rfl (by rw [hs1]; exact CLe.refl _ _) rfl (.cons (s := 3051) rfl (CLe.refl _ _) rfl (.cons (s := 3052) rfl (CLe.refl _ _) rfl (.cons (s := 3053) rfl (CLe.refl _ _) rfl (.cons (s := 3060) rfl (CLe.refl _ _) rfl .nil))))); (· ((try dsimp only) <;> omega)); (· ((try dsimp only) <;> omega)))
    · skip
      (first | have e47 := of_decide_eq_true c47 | have e47 := of_decide_eq_false c47 | have e47 := ndec_t c47 | have e47 := ndec_f c47 | skip)
      (repeat refine J.seq ?_)
      refine J.exit ?_
      (repeat refine J.seq ?_)
      refine J.region ?_
      refine WL.yes (by rfl) (Ex.q (q_move (by rfl)) (by rfl) ?_)
      refine WL.yes (by rfl) (Ex.q (q_assign (by rfl)) (by rfl) ?_)
      refine WL.nil ?_
      (repeat refine J.seq ?_)
      refine J.ret ?_
      (repeat (with_reducible first | refine Kseq.ret ?_ | refine Kblock.ret ?_ | refine Kloop.ret ?_ | refine Kcut.ret ?_))
      have hkn : s.W.take k = s.W := take_all (by omega)
      rw [hkn]
      exact Kret.mk2 (vs := [_]) (.sl 2068 a3 52 0 c3 s.todo.length) _ (.tmp (by rfl) .nil) (by rfl) trivial (by cases a3 <;> rfl) (fun _ _ => trivial) (HLe.sub (.cons (s := 3060) rfl (CLe.refl _ _) rfl (.cons (s := 3051) rfl (CLe.refl _ _) rfl (.cons (s := 3052) rfl (CLe.refl _ _) rfl (.cons (s := 3053) rfl (CLe.refl _ _) rfl (.cons (s := 3) rfl (CLe.refl _ _) rfl .nil)))))) ⟨a3, c3, rfl, rfl⟩

set_option maxHeartbeats 16000000 in
set_option maxRecDepth 100000 in
theorem rfUntil_spec (wb : Nat) (ha : Option Nat) (hc : Nat) (wa : Option Nat) (wc : Nat) (fa : Option Nat) (fc : Nat) {s : FS} {p : Pr} (hs : FOk s) (hp : p.ok) : Spec Try.prog 69 [.ptr 3060 wb 0, prE p] [(3060, .box wb 62 (rfV ha hc wa wc fa fc s)), (3051, lvec ha 37 51 hc enE s.H), (3052, lvec wa 37 51 wc enE s.W), (3053, lvec fa 108 35 fc waE s.F)] (fun r H' => r = .tup2 (iV ((alook p s.F).getD 0)) (.bool (alook p s.F).isSome) ∧ H' = RO5 wb ha hc wa wc fa fc s) := by
  refine Spec.of_J Try.func69 rfl Try.ntmps69 Try.results69 rfl ?_
  intro A F hAF
  have hlf := hs.lf
  (repeat refine J.seq ?_)
  refine J.region ?_
  refine WL.yes (by rfl) (Ex.box (by rfl) (by rfl) (by rfl) ?_)
  intro b3
  refine WL.yes (by rfl) (Ex.q (q_assign (by rfl)) (by rfl) ?_)
  refine WL.yes (by rfl) (Ex.q (q_assign (by rfl)) (by rfl) ?_)
  refine WL.nil ?_
  (repeat refine J.seq ?_)
  refine J.region ?_
  refine WL.yes (by rfl) (Ex.q (q_assign (by rfl)) (by rfl) ?_)
  refine WL.nil ?_
  (repeat refine J.seq ?_)
  refine J.block ?_
  (repeat refine J.seq ?_)
  refine J.loopP (fun x : Nat => x ≤ s.F.length ∧ ∀ j, j < x → (lat s.F j).1 ≠ p) (fun x => [(6, iV x)]) (fun x => []) (fun x => s.F.length - x) (0) [(0, _), (3, _)] [(3, _), (3051, _), (3052, _), (3053, _), (3060, _)] ⟨same rfl, same rfl, trivial⟩ ⟨same rfl, trivial⟩ (.cons (s := 3) rfl (CLe.refl _ _) rfl (.cons (s := 3051) rfl (CLe.refl _ _) rfl (.cons (s := 3052) rfl (CLe.refl _ _) rfl (.cons (s := 3053) rfl (CLe.refl _ _) rfl (.cons (s := 3060) rfl (CLe.refl _ _) rfl .nil))))) ?_ ?_
  · (exact ⟨Nat.zero_le _, fun j hj => absurd hj (Nat.not_lt_zero j)⟩)
  rintro k hx
  (try dsimp only at hx)
  obtain ⟨hk, hz⟩ := hx
  (repeat refine J.seq ?_)
  refine J.region ?_
  refine WL.yes (by rfl) (Ex.q (q_move (by rfl)) (by rfl) ?_)
  refine WL.yes (by rfl) (Ex.q (q_move (by rfl)) (by rfl) ?_)
  refine WL.yes (by rfl) (Ex.q (q_nilCheck (by rfl) (by rfl)) (by rfl) ?_)
  first | (refine WL.yes (by rfl) (Ex.q (q_fieldAddr (by rfl)) (by rfl) ?_)) | (refine WL.yes (by rfl) (Ex.q (q_fieldAddr_rop (by rfl) (by rfl)) (by rfl) ?_)) | (refine WL.yes (by rfl) (Ex.q (q_fieldAddr_pel (by rfl)) (by rfl) ?_))
  first | (refine WL.yes (by rfl) (Ex.h (h_load (by rfl) (by rfl) (by rfl)) (by rfl) ?_)) | (refine WL.yes (by rfl) (Ex.q (q_load (by rfl) (by rfl) (by rfl)) (by rfl) ?_)) | (refine WL.yes (by rfl) (Ex.q (q_load_rop (by rfl) (by rfl)) (by rfl) ?_)) | (refine WL.yes (by rfl) (Ex.h (h_load_pel (by rfl) (by rfl) ?_ (by rfl)) (by rfl) ?_); (· (omega))) | (refine WL.yes (by rfl) (Ex.q (q_load_pel (by rfl) (by rfl) ?_ (by rfl)) (by rfl) ?_); (· (omega)))
  first | (refine WL.yes (by rfl) (Ex.q (q_len_slice (by rfl) (by rfl)) (by rfl) ?_)) | (refine WL.yes (by rfl) (Ex.q (q_len_string (by rfl)) (by rfl) ?_))
  refine WL.yes (by rfl) (Ex.q (q_int (by rfl) (by rfl) (by rfl)) (by rfl) ?_)
  refine WL.nil ?_
  (repeat refine J.seq ?_)
  refine J.cond (by rfl) (fun c13 => ?_) (fun c13 => ?_)
  · skip
    (first | have e13 := of_decide_eq_true c13 | have e13 := of_decide_eq_false c13 | have e13 := ndec_t c13 | have e13 := ndec_f c13 | skip)
    (repeat refine J.seq ?_)
    refine J.skip ?_
    (repeat refine J.seq ?_)
    refine J.block ?_
    (repeat refine J.seq ?_)
    have hk2 : k < s.F.length := by omega
    have hk3 : (lat s.F k).1.ok := hs.f.1 _ (lat_mem hk2)
    refine J.vecsome (t := 3053) rfl (by omega) ?_
    intro bf hbf
    subst hbf
    refine J.draw [3, 3051, 3052, 3053, 3060] 9999 [(0, true), (1, true), (2, true), (3, true), (4, true), (5, true), (6, true), (7, true), (8, true), (9, true)] (by kernel_rfl) rfl (by kernel_rfl) ?_
    intro F1 hF1
    refine WS.take rfl (by rfl) (by rfl) (q_move (by rfl)) ?_
    refine WS.take rfl (by rfl) (by rfl) (q_nilCheck (by rfl) (by rfl)) ?_
    first | (refine WS.take rfl (by rfl) (by rfl) (q_fieldAddr (by rfl)) ?_) | (refine WS.take rfl (by rfl) (by rfl) (q_fieldAddr_rop (by rfl) (by rfl)) ?_) | (refine WS.take rfl (by rfl) (by rfl) (q_fieldAddr_pel (by rfl)) ?_)
    first | (refine WS.take rfl (by rfl) (by rfl) (q_load (by rfl) (by rfl) (by rfl)) ?_) | (refine WS.take rfl (by rfl) (by rfl) (q_load_rop (by rfl) (by rfl)) ?_) | (refine WS.take rfl (by rfl) (by rfl) (q_load_pel (by rfl) (by rfl) ?_ (by rfl)) ?_; (· (omega)))
    refine WS.take rfl (by rfl) (by rfl) (q_move (by rfl)) ?_
    first | (refine WS.take rfl (by rfl) (by rfl) (q_indexAddr_ros (by rfl) (by rfl) (by intro _; rfl) ?_ ?_) ?_; (· (omega)); (· (omega))) | (refine WS.take rfl (by rfl) (by rfl) (q_indexAddr_sl (by rfl) (by rfl) ?_ ?_) ?_; (· (omega)); (· (omega))) | (refine WS.take rfl (by rfl) (by rfl) (q_indexAddr_arr (by rfl) (by rfl) ?_ ?_) ?_; (· (omega)); (· (omega)))
    first | (refine WS.take rfl (by rfl) (by rfl) (q_fieldAddr (by rfl)) ?_) | (refine WS.take rfl (by rfl) (by rfl) (q_fieldAddr_rop (by rfl) (by rfl)) ?_) | (refine WS.take rfl (by rfl) (by rfl) (q_fieldAddr_pel (by rfl)) ?_)
    first | (refine WS.take rfl (by rfl) (by rfl) (q_load (by rfl) (by rfl) (by rfl)) ?_) | (refine WS.take rfl (by rfl) (by rfl) (q_load_rop (by rfl) (by rfl)) ?_) | (refine WS.take rfl (by rfl) (by rfl) (q_load_pel (by rfl) (by rfl) ?_ (by rfl)) ?_; (· (omega)))
    refine WS.set 23 (prE (lat s.F k).1) (by rfl) (by rw [Nat.zero_add, Int.toNat_natCast]) ?_
    first | (refine WS.take rfl (by rfl) (by rfl) (q_load (by rfl) (by rfl) (by rfl)) ?_) | (refine WS.take rfl (by rfl) (by rfl) (q_load_rop (by rfl) (by rfl)) ?_) | (refine WS.take rfl (by rfl) (by rfl) (q_load_pel (by rfl) (by rfl) ?_ (by rfl)) ?_; (· (omega)))
    first | (refine WS.take rfl (by rfl) (by rfl) (q_int (by rfl) (by rfl) (by rfl)) ?_) | (refine WS.take rfl (by rfl) (by rfl) (q_eqb (by rfl) (by rfl)) ?_) | (refine WS.take rfl (by rfl) (by rfl) (q_eqp rfl rfl (by rfl) (by rfl) ?_) ?_; (· (rfl))) | (refine WS.take rfl (by rfl) (by rfl) (q_eqs (by rfl) (by rfl)) ?_)
    refine WS.nil ?_
    (repeat refine J.seq ?_)
    refine J.cond (by rfl) (fun c25 => ?_) (fun c25 => ?_)
    · skip
      (first | have e25 := of_decide_eq_true c25 | have e25 := of_decide_eq_false c25 | have e25 := ndec_t c25 | have e25 := ndec_f c25 | skip)
      rw [eqPr hk3 hp] at c25
      simp only [decide_eq_true_eq] at c25
      (repeat refine J.seq ?_)
      refine J.region ?_
      refine WL.yes (by rfl) (Ex.q (q_move (by rfl)) (by rfl) ?_)
      refine WL.yes (by rfl) (Ex.q (q_nilCheck (by rfl) (by rfl)) (by rfl) ?_)
      first | (refine WL.yes (by rfl) (Ex.q (q_fieldAddr (by rfl)) (by rfl) ?_)) | (refine WL.yes (by rfl) (Ex.q (q_fieldAddr_rop (by rfl) (by rfl)) (by rfl) ?_)) | (refine WL.yes (by rfl) (Ex.q (q_fieldAddr_pel (by rfl)) (by rfl) ?_))
      first | (refine WL.yes (by rfl) (Ex.h (h_load (by rfl) (by rfl) (by rfl)) (by rfl) ?_)) | (refine WL.yes (by rfl) (Ex.q (q_load (by rfl) (by rfl) (by rfl)) (by rfl) ?_)) | (refine WL.yes (by rfl) (Ex.q (q_load_rop (by rfl) (by rfl)) (by rfl) ?_)) | (refine WL.yes (by rfl) (Ex.h (h_load_pel (by rfl) (by rfl) ?_ (by rfl)) (by rfl) ?_); (· (omega))) | (refine WL.yes (by rfl) (Ex.q (q_load_pel (by rfl) (by rfl) ?_ (by rfl)) (by rfl) ?_); (· (omega)))
      refine WL.yes (by rfl) (Ex.q (q_move (by rfl)) (by rfl) ?_)
      first | (refine WL.yes (by rfl) (Ex.q (q_indexAddr_ros (by rfl) (by rfl) (by intro _; rfl) ?_ ?_) (by rfl) ?_); (· (omega)); (· (omega))) | (refine WL.yes (by rfl) (Ex.q (q_indexAddr_sl (by rfl) (by rfl) ?_ ?_) (by rfl) ?_); (· (omega)); (· (omega))) | (refine WL.yes (by rfl) (Ex.q (q_indexAddr_arr (by rfl) (by rfl) ?_ ?_) (by rfl) ?_); (· (omega)); (· (omega)))
      first | (refine WL.yes (by rfl) (Ex.q (q_fieldAddr (by rfl)) (by rfl) ?_)) | (refine WL.yes (by rfl) (Ex.q (q_fieldAddr_rop (by rfl) (by rfl)) (by rfl) ?_)) | (refine WL.yes (by rfl) (Ex.q (q_fieldAddr_pel (by rfl)) (by rfl) ?_))
      first | (refine WL.yes (by rfl) (Ex.h (h_load (by rfl) (by rfl) (by rfl)) (by rfl) ?_)) | (refine WL.yes (by rfl) (Ex.q (q_load (by rfl) (by rfl) (by rfl)) (by rfl) ?_)) | (refine WL.yes (by rfl) (Ex.q (q_load_rop (by rfl) (by rfl)) (by rfl) ?_)) | (refine WL.yes (by rfl) (Ex.h (h_load_pel (by rfl) (by rfl) ?_ (by rfl)) (by rfl) ?_); (· (omega))) | (refine WL.yes (by rfl) (Ex.q (q_load_pel (by rfl) (by rfl) ?_ (by rfl)) (by rfl) ?_); (· (omega)))
      refine WL.set 33 (iV (lat s.F k).2) (by rfl) (by rw [Nat.zero_add, Int.toNat_natCast]) ?_
      refine WL.yes (by rfl) (Ex.q (q_assign (by rfl)) (by rfl) ?_)
      refine WL.yes (by rfl) (Ex.q (q_assign (by rfl)) (by rfl) ?_)
      refine WL.nil ?_
      (repeat refine J.seq ?_)
      refine J.ret ?_
      (repeat (with_reducible first | refine Kseq.ret ?_ | refine Kblock.ret ?_ | refine Kloop.ret ?_ | refine Kcut.ret ?_))
      first
        | (rw [alook_at hk2 hz c25]; exact Kret.mk (RO5 wb _ hc _ wc _ fc s) (.tmp (by rfl) (.tmp (by rfl) .nil)) (by rfl) trivial (HLe.sub (.cons (s := 3060) rfl (CLe.refl _ _) rfl (.cons (s := 3051) rfl (CLe.refl _ _) rfl (.cons (s := 3052) rfl (CLe.refl _ _) rfl (.cons (s := 3053) rfl (CLe.refl _ _) rfl .nil))))) ⟨rfl, rfl⟩)
        | (rw [alook_no (fun j hj => hz j (by omega))]; exact Kret.mk (RO5 wb _ hc _ wc _ fc s) (.tmp (by rfl) (.tmp (by rfl) .nil)) (by rfl) trivial (HLe.sub (.cons (s := 3060) rfl (CLe.refl _ _) rfl (.cons (s := 3051) rfl (CLe.refl _ _) rfl (.cons (s := 3052) rfl (CLe.refl _ _) rfl (.cons (s := 3053) rfl (CLe.refl _ _) rfl .nil))))) ⟨rfl, rfl⟩)
    · skip
      (first | have e25 := of_decide_eq_true c25 | have e25 := of_decide_eq_false c25 | have e25 := ndec_t c25 | have e25 := ndec_f c25 | skip)
      rw [eqPr hk3 hp] at c25
      simp only [decide_eq_false_iff_not] at c25
      (repeat refine J.seq ?_)
      refine J.skip ?_
      (repeat refine J.seq ?_)
      refine J.region ?_
      refine WL.yes (by rfl) (Ex.q (q_move (by rfl)) (by rfl) ?_)
      refine WL.yes (by rfl) (Ex.q (q_int (by rfl) (by rfl) (by rfl)) (by rfl) ?_)
      refine WL.yes (by rfl) (Ex.q (q_assign (by rfl)) (by rfl) ?_)
      refine WL.nil ?_
      refine Kloop.nextP (k + 1) ?_ ?_ ⟨same (by rw [← w64_nat (k := k) (by omega)]; rfl), trivial⟩ ⟨same rfl, same rfl, trivial⟩ (.cons (s := 3) rfl (CLe.refl _ _) rfl (.cons (s := 3051) rfl (CLe.refl _ _) rfl (.cons (s := 3052) rfl (CLe.refl _ _) rfl (.cons (s := 3053) rfl (CLe.refl _ _) rfl (.cons (s := 3060) rfl (CLe.refl _ _) rfl .nil)))))
      · (exact ⟨by (try dsimp only); omega, upto hz c25⟩)
      · ((try dsimp only) <;> omega)
  · skip
    (first | have e13 := of_decide_eq_true c13 | have e13 := of_decide_eq_false c13 | have e13 := ndec_t c13 | have e13 := ndec_f c13 | skip)
    (repeat refine J.seq ?_)
    refine J.exit ?_
    (repeat refine J.seq ?_)
    refine J.region ?_
    refine WL.yes (by rfl) (Ex.q (q_assign (by rfl)) (by rfl) ?_)
    refine WL.yes (by rfl) (Ex.q (q_assign (by rfl)) (by rfl) ?_)
    refine WL.nil ?_
    (repeat refine J.seq ?_)
    refine J.ret ?_
    (repeat (with_reducible first | refine Kseq.ret ?_ | refine Kblock.ret ?_ | refine Kloop.ret ?_ | refine Kcut.ret ?_))
    first
      | (rw [alook_at hk2 hz c25]; exact Kret.mk (RO5 wb _ hc _ wc _ fc s) (.tmp (by rfl) (.tmp (by rfl) .nil)) (by rfl) trivial (HLe.sub (.cons (s := 3060) rfl (CLe.refl _ _) rfl (.cons (s := 3051) rfl (CLe.refl _ _) rfl (.cons (s := 3052) rfl (CLe.refl _ _) rfl (.cons (s := 3053) rfl (CLe.refl _ _) rfl .nil))))) ⟨rfl, rfl⟩)
      | (rw [alook_no (fun j hj => hz j (by omega))]; exact Kret.mk (RO5 wb _ hc _ wc _ fc s) (.tmp (by rfl) (.tmp (by rfl) .nil)) (by rfl) trivial (HLe.sub (.cons (s := 3060) rfl (CLe.refl _ _) rfl (.cons (s := 3051) rfl (CLe.refl _ _) rfl (.cons (s := 3052) rfl (CLe.refl _ _) rfl (.cons (s := 3053) rfl (CLe.refl _ _) rfl .nil))))) ⟨rfl, rfl⟩)

set_option maxHeartbeats 16000000 in
set_option maxRecDepth 100000 in
theorem rfNext_spec (wb : Nat) (ha : Option Nat) (hc : Nat) (wa : Option Nat) (wc : Nat) (fa : Option Nat) (fc : Nat) {s : FS} {now : Int} (hs : FOk s) : Spec Try.prog 33 [.ptr 3060 wb 0, iV now] [(3060, .box wb 62 (rfV ha hc wa wc fa fc s)), (3051, lvec ha 37 51 hc enE s.H), (3052, lvec wa 37 51 wc enE s.W), (3053, lvec fa 108 35 fc waE s.F)] (fun r H' => r = .tup2 (opE (s.next now).1.1) (.bool (s.next now).1.2) ∧ H' = RO5 wb ha hc wa wc fa fc (s.next now).2) := by
  refine Spec.of_J Try.func33 rfl Try.ntmps33 Try.results33 rfl ?_
  intro A F hAF
  have htl := hs.todo_len
  (repeat refine J.seq ?_)
  refine J.region ?_
  refine WL.yes (by rfl) (Ex.alloc (by rfl) ?_)
  intro b4
  refine WL.yes (by rfl) (Ex.q (q_assign (by rfl)) (by rfl) ?_)
  refine WL.nil ?_
  (repeat refine J.seq ?_)
  refine J.region ?_
  refine WL.yes (by rfl) (Ex.q (q_move (by rfl)) (by rfl) ?_)
  refine WL.yes (by rfl) (Ex.callL (rfTodo_spec wb ha hc wa wc fa fc hs) (by rfl) (by rfl) (.cons rfl (.cons rfl (.cons rfl (.cons rfl .nil)))) ?_)
  rintro _ _ ⟨a11, cap11, rfl, rfl⟩
  refine WL.yes (by rfl) (Ex.q (q_assign (by rfl)) (by rfl) ?_)
  refine WL.nil ?_
  (repeat refine J.seq ?_)
  refine J.region ?_
  refine WL.yes (by rfl) (Ex.q (q_assign (by rfl)) (by rfl) ?_)
  refine WL.nil ?_
  (repeat refine J.seq ?_)
  refine J.block ?_
  (repeat refine J.seq ?_)
  refine J.loopP (fun x : Nat => x ≤ s.todo.length ∧ ∀ j, j < x → rdy now s.F (lat s.todo j) = false) (fun x => [(7, iV x)]) (fun x => []) (fun x => s.todo.length - x) (0) [(0, _), (1, _), (4, _), (6, _)] [(4, _), (2068, _), (3051, _), (3052, _), (3053, _), (3060, _)] ⟨same rfl, same rfl, same rfl, same rfl, trivial⟩ ⟨same rfl, trivial⟩ (.cons (s := 4) rfl (CLe.refl _ _) rfl (.cons (s := 2068) rfl (CLe.refl _ _) rfl (.cons (s := 3051) rfl (CLe.refl _ _) rfl (.cons (s := 3052) rfl (CLe.refl _ _) rfl (.cons (s := 3053) rfl (CLe.refl _ _) rfl (.cons (s := 3060) rfl (CLe.refl _ _) rfl .nil)))))) ?_ ?_
  · (exact ⟨Nat.zero_le _, fun j hj => absurd hj (Nat.not_lt_zero j)⟩)
  rintro k hx
  (try dsimp only at hx)
  obtain ⟨hk, hz⟩ := hx
  (repeat refine J.seq ?_)
  refine J.region ?_
  refine WL.yes (by rfl) (Ex.q (q_move (by rfl)) (by rfl) ?_)
  refine WL.yes (by rfl) (Ex.q (q_move (by rfl)) (by rfl) ?_)
  first | (refine WL.yes (by rfl) (Ex.q (q_len_slice (by rfl) (by rfl)) (by rfl) ?_)) | (refine WL.yes (by rfl) (Ex.q (q_len_string (by rfl)) (by rfl) ?_))
  refine WL.yes (by rfl) (Ex.q (q_int (by rfl) (by rfl) (by rfl)) (by rfl) ?_)
  refine WL.yes (by rfl) (Ex.q (q_move (by rfl)) (by rfl) ?_)
  refine WL.split 16 (by rfl) (fun g16 => ?_) (fun g16 => ?_)
  · skip
    (first | have eg16 := of_decide_eq_true g16 | have eg16 := of_decide_eq_false g16 | have eg16 := ndec_t g16 | have eg16 := ndec_f g16 | skip)
    refine WL.yes (by rfl) (Ex.q (q_move (by rfl)) (by rfl) ?_)
    refine WL.yes (by rfl) (Ex.q (q_nilCheck (by rfl) (by rfl)) (by rfl) ?_)
    first | (refine WL.yes (by rfl) (Ex.q (q_fieldAddr (by rfl)) (by rfl) ?_)) | (refine WL.yes (by rfl) (Ex.q (q_fieldAddr_rop (by rfl) (by rfl)) (by rfl) ?_)) | (refine WL.yes (by rfl) (Ex.q (q_fieldAddr_pel (by rfl)) (by rfl) ?_))
    first | (refine WL.yes (by rfl) (Ex.h (h_load (by rfl) (by rfl) (by rfl)) (by rfl) ?_)) | (refine WL.yes (by rfl) (Ex.q (q_load (by rfl) (by rfl) (by rfl)) (by rfl) ?_)) | (refine WL.yes (by rfl) (Ex.q (q_load_rop (by rfl) (by rfl)) (by rfl) ?_)) | (refine WL.yes (by rfl) (Ex.h (h_load_pel (by rfl) (by rfl) ?_ (by rfl)) (by rfl) ?_); (· (omega))) | (refine WL.yes (by rfl) (Ex.q (q_load_pel (by rfl) (by rfl) ?_ (by rfl)) (by rfl) ?_); (· (omega)))
    refine WL.yes (by rfl) (Ex.q (q_not (by rfl)) (by rfl) ?_)
    refine WL.yes (by rfl) (Ex.q (q_pick_t (by rfl) (by rfl)) (by rfl) ?_)
    refine WL.nil ?_
    (repeat refine J.seq ?_)
    refine J.cond (by rfl) (fun c22 => ?_) (fun c22 => ?_)
    · skip
      (first | have e22 := of_decide_eq_true c22 | have e22 := of_decide_eq_false c22 | have e22 := ndec_t c22 | have e22 := ndec_f c22 | skip)
      have hy : s.busy = false := by simpa using c22
      (repeat refine J.seq ?_)
      refine J.skip ?_
      (repeat refine J.seq ?_)
      refine J.block ?_
      (repeat refine J.seq ?_)
      have hk2 : k < s.todo.length := by omega
      have hk3 : (lat s.todo k).e.ok := hs.todo_ok _ (lat_mem hk2)
      refine J.vecsome (t := 2068) rfl (by omega) ?_
      intro bt hbt
      subst hbt
      refine J.region ?_
      refine WL.yes (by rfl) (Ex.q (q_move (by rfl)) (by rfl) ?_)
      refine WL.yes (by rfl) (Ex.q (q_move (by rfl)) (by rfl) ?_)
      refine WL.yes (by rfl) (Ex.q (q_move (by rfl)) (by rfl) ?_)
      first | (refine WL.yes (by rfl) (Ex.q (q_indexAddr_ros (by rfl) (by rfl) (by intro _; rfl) ?_ ?_) (by rfl) ?_); (· (omega)); (· (omega))) | (refine WL.yes (by rfl) (Ex.q (q_indexAddr_sl (by rfl) (by rfl) ?_ ?_) (by rfl) ?_); (· (omega)); (· (omega))) | (refine WL.yes (by rfl) (Ex.q (q_indexAddr_arr (by rfl) (by rfl) ?_ ?_) (by rfl) ?_); (· (omega)); (· (omega)))
      first | (refine WL.yes (by rfl) (Ex.q (q_fieldAddr (by rfl)) (by rfl) ?_)) | (refine WL.yes (by rfl) (Ex.q (q_fieldAddr_rop (by rfl) (by rfl)) (by rfl) ?_)) | (refine WL.yes (by rfl) (Ex.q (q_fieldAddr_pel (by rfl)) (by rfl) ?_))
      first | (refine WL.yes (by rfl) (Ex.q (q_fieldAddr (by rfl)) (by rfl) ?_)) | (refine WL.yes (by rfl) (Ex.q (q_fieldAddr_rop (by rfl) (by rfl)) (by rfl) ?_)) | (refine WL.yes (by rfl) (Ex.q (q_fieldAddr_pel (by rfl)) (by rfl) ?_))
      first | (refine WL.yes (by rfl) (Ex.h (h_load (by rfl) (by rfl) (by rfl)) (by rfl) ?_)) | (refine WL.yes (by rfl) (Ex.q (q_load (by rfl) (by rfl) (by rfl)) (by rfl) ?_)) | (refine WL.yes (by rfl) (Ex.q (q_load_rop (by rfl) (by rfl)) (by rfl) ?_)) | (refine WL.yes (by rfl) (Ex.h (h_load_pel (by rfl) (by rfl) ?_ (by rfl)) (by rfl) ?_); (· (omega))) | (refine WL.yes (by rfl) (Ex.q (q_load_pel (by rfl) (by rfl) ?_ (by rfl)) (by rfl) ?_); (· (omega)))
      refine WL.set 32 (prE (lat s.todo k).e.p) (by rfl) (by rw [Nat.zero_add, Int.toNat_natCast]) ?_
      refine WL.yes (by rfl) (Ex.callL (rfUntil_spec wb ha hc wa wc fa fc (p := (lat s.todo k).e.p) hs hk3.1) (by rfl) (by rfl) (.cons rfl (.cons rfl (.cons rfl (.cons rfl .nil)))) ?_)
      rintro _ _ ⟨rfl, rfl⟩
      refine WL.yes (by rfl) (Ex.q (q_move (by rfl)) (by rfl) ?_)
      first | (refine WL.yes (by rfl) (Ex.q (q_extract2 (by rfl) (by rfl)) (by rfl) ?_)) | (refine WL.yes (by rfl) (Ex.q (q_extract3 (by rfl) (by rfl)) (by rfl) ?_))
      first | (refine WL.yes (by rfl) (Ex.q (q_extract2 (by rfl) (by rfl)) (by rfl) ?_)) | (refine WL.yes (by rfl) (Ex.q (q_extract3 (by rfl) (by rfl)) (by rfl) ?_))
      refine WL.yes (by rfl) (Ex.q (q_assign (by rfl)) (by rfl) ?_)
      refine WL.yes (by rfl) (Ex.q (q_assign (by rfl)) (by rfl) ?_)
      refine WL.nil ?_
      (repeat refine J.seq ?_)
      refine J.region ?_
      refine WL.yes (by rfl) (Ex.q (q_move (by rfl)) (by rfl) ?_)
      refine WL.yes (by rfl) (Ex.q (q_not (by rfl)) (by rfl) ?_)
      refine WL.yes (by rfl) (Ex.q (q_move (by rfl)) (by rfl) ?_)
      refine WL.split 38 (by rfl) (fun g38 => ?_) (fun g38 => ?_)
      · skip
        (first | have eg38 := of_decide_eq_true g38 | have eg38 := of_decide_eq_false g38 | have eg38 := ndec_t g38 | have eg38 := ndec_f g38 | skip)
        have h1 : rdy now s.F (lat s.todo k) = true := rdy_none (by simpa using g38)
        refine WL.no (by rfl) (by rfl) ?_
        refine WL.no (by rfl) (by rfl) ?_
        refine WL.no (by rfl) (by rfl) ?_
        refine WL.yes (by rfl) (Ex.q (q_pick_t (by rfl) (by rfl)) (by rfl) ?_)
        refine WL.nil ?_
        (repeat refine J.seq ?_)
        refine J.condT (by rfl) ?_
        (repeat refine J.seq ?_)
        refine J.region ?_
        refine WL.yes (by rfl) (Ex.q (q_move (by rfl)) (by rfl) ?_)
        refine WL.yes (by rfl) (Ex.q (q_move (by rfl)) (by rfl) ?_)
        refine WL.yes (by rfl) (Ex.q (q_move (by rfl)) (by rfl) ?_)
        first | (refine WL.yes (by rfl) (Ex.q (q_indexAddr_ros (by rfl) (by rfl) (by intro _; rfl) ?_ ?_) (by rfl) ?_); (· (omega)); (· (omega))) | (refine WL.yes (by rfl) (Ex.q (q_indexAddr_sl (by rfl) (by rfl) ?_ ?_) (by rfl) ?_); (· (omega)); (· (omega))) | (refine WL.yes (by rfl) (Ex.q (q_indexAddr_arr (by rfl) (by rfl) ?_ ?_) (by rfl) ?_); (· (omega)); (· (omega)))
        first | (refine WL.yes (by rfl) (Ex.h (h_load (by rfl) (by rfl) (by rfl)) (by rfl) ?_)) | (refine WL.yes (by rfl) (Ex.q (q_load (by rfl) (by rfl) (by rfl)) (by rfl) ?_)) | (refine WL.yes (by rfl) (Ex.q (q_load_rop (by rfl) (by rfl)) (by rfl) ?_)) | (refine WL.yes (by rfl) (Ex.h (h_load_pel (by rfl) (by rfl) ?_ (by rfl)) (by rfl) ?_); (· (omega))) | (refine WL.yes (by rfl) (Ex.q (q_load_pel (by rfl) (by rfl) ?_ (by rfl)) (by rfl) ?_); (· (omega)))
        refine WL.set 47 (opE (lat s.todo k)) (by rfl) (by rw [Nat.zero_add, Int.toNat_natCast]) ?_
        refine WL.yes (by rfl) (Ex.q (q_nilCheck (by rfl) (by rfl)) (by rfl) ?_)
        first | (refine WL.yes (by rfl) (Ex.q (q_fieldAddr (by rfl)) (by rfl) ?_)) | (refine WL.yes (by rfl) (Ex.q (q_fieldAddr_rop (by rfl) (by rfl)) (by rfl) ?_)) | (refine WL.yes (by rfl) (Ex.q (q_fieldAddr_pel (by rfl)) (by rfl) ?_))
        first | (refine WL.yes (by rfl) (Ex.store (by rfl) (by rfl) (by rfl) (by rfl) (by rfl) (by rfl) ?_)) | (refine WL.yes (by rfl) (Ex.store_pel (by rfl) (by rfl) (by rfl) (by rfl) (by rfl) ?_ (by rfl) ?_); (· (omega)))
        refine WL.nil ?_
        (repeat refine J.seq ?_)
        refine J.region ?_
        refine WL.yes (by rfl) (Ex.q (q_move (by rfl)) (by rfl) ?_)
        refine WL.yes (by rfl) (Ex.q (q_nilCheck (by rfl) (by rfl)) (by rfl) ?_)
        first | (refine WL.yes (by rfl) (Ex.q (q_fieldAddr (by rfl)) (by rfl) ?_)) | (refine WL.yes (by rfl) (Ex.q (q_fieldAddr_rop (by rfl) (by rfl)) (by rfl) ?_)) | (refine WL.yes (by rfl) (Ex.q (q_fieldAddr_pel (by rfl)) (by rfl) ?_))
        first | (refine WL.yes (by rfl) (Ex.store (by rfl) (by rfl) (by rfl) (by rfl) (by rfl) (by rfl) ?_)) | (refine WL.yes (by rfl) (Ex.store_pel (by rfl) (by rfl) (by rfl) (by rfl) (by rfl) ?_ (by rfl) ?_); (· (omega)))
        refine WL.nil ?_
        (repeat refine J.seq ?_)
        refine J.region ?_
        refine WL.yes (by rfl) (Ex.q (q_move (by rfl)) (by rfl) ?_)
        refine WL.yes (by rfl) (Ex.q (q_move (by rfl)) (by rfl) ?_)
        first | (refine WL.yes (by rfl) (Ex.q (q_indexAddr_ros (by rfl) (by rfl) (by intro _; rfl) ?_ ?_) (by rfl) ?_); (· (omega)); (· (omega))) | (refine WL.yes (by rfl) (Ex.q (q_indexAddr_sl (by rfl) (by rfl) ?_ ?_) (by rfl) ?_); (· (omega)); (· (omega))) | (refine WL.yes (by rfl) (Ex.q (q_indexAddr_arr (by rfl) (by rfl) ?_ ?_) (by rfl) ?_); (· (omega)); (· (omega)))
        first | (refine WL.yes (by rfl) (Ex.h (h_load (by rfl) (by rfl) (by rfl)) (by rfl) ?_)) | (refine WL.yes (by rfl) (Ex.q (q_load (by rfl) (by rfl) (by rfl)) (by rfl) ?_)) | (refine WL.yes (by rfl) (Ex.q (q_load_rop (by rfl) (by rfl)) (by rfl) ?_)) | (refine WL.yes (by rfl) (Ex.h (h_load_pel (by rfl) (by rfl) ?_ (by rfl)) (by rfl) ?_); (· (omega))) | (refine WL.yes (by rfl) (Ex.q (q_load_pel (by rfl) (by rfl) ?_ (by rfl)) (by rfl) ?_); (· (omega)))
        refine WL.set 56 (opE (lat s.todo k)) (by rfl) (by rw [Nat.zero_add, Int.toNat_natCast]) ?_
        first | (refine WL.yes (by rfl) (Ex.store (by rfl) (by rfl) (by rfl) (by rfl) (by rfl) (by rfl) ?_)) | (refine WL.yes (by rfl) (Ex.store_pel (by rfl) (by rfl) (by rfl) (by rfl) (by rfl) ?_ (by rfl) ?_); (· (omega)))
        refine WL.yes (by rfl) (Ex.q (q_assign (by rfl)) (by rfl) ?_)
        refine WL.nil ?_
        (repeat refine J.seq ?_)
        refine J.ret ?_
        (repeat (with_reducible first | refine Kseq.ret ?_ | refine Kblock.ret ?_ | refine Kloop.ret ?_ | refine Kcut.ret ?_))
        first
          | (rw [next_yes hy hk2 hz h1]; exact Kret.mk (RO5 wb _ hc _ wc _ fc { s with wo := lat s.todo k, busy := true }) (.cell inferInstance (by rfl) (by rfl) (by rfl) (.tmp (by rfl) .nil)) (by rfl) trivial (HLe.sub (.cons (s := 3060) rfl (CLe.cells rfl (fun _ => rfl) (fun _ => ⟨trivial, trivial, trivial, VOk_op, trivial⟩)) rfl (.cons (s := 3051) rfl (CLe.refl _ _) rfl (.cons (s := 3052) rfl (CLe.refl _ _) rfl (.cons (s := 3053) rfl (CLe.refl _ _) rfl .nil))))) ⟨rfl, rfl⟩)
          | (rw [next_busy hy]; exact Kret.mk (RO5 wb _ hc _ wc _ fc s) (.cell inferInstance (by rfl) (by rfl) (by rfl) (.tmp (by rfl) .nil)) (by rfl) trivial (HLe.sub (.cons (s := 3060) rfl (CLe.refl _ _) rfl (.cons (s := 3051) rfl (CLe.refl _ _) rfl (.cons (s := 3052) rfl (CLe.refl _ _) rfl (.cons (s := 3053) rfl (CLe.refl _ _) rfl .nil))))) ⟨rfl, rfl⟩)
          | (have hn : s.next now = ((default, false), s) := (by
              cases hy : s.busy with
              | false => exact next_no hy (fun j hj => hz j (by omega))
              | true => exact next_busy hy)
             rw [hn]; exact Kret.mk (RO5 wb _ hc _ wc _ fc s) (.cell inferInstance (by rfl) (by rfl) (by rfl) (.tmp (by rfl) .nil)) (by rfl) trivial (HLe.sub (.cons (s := 3060) rfl (CLe.refl _ _) rfl (.cons (s := 3051) rfl (CLe.refl _ _) rfl (.cons (s := 3052) rfl (CLe.refl _ _) rfl (.cons (s := 3053) rfl (CLe.refl _ _) rfl .nil))))) ⟨rfl, rfl⟩)
      · skip
        (first | have eg38 := of_decide_eq_true g38 | have eg38 := of_decide_eq_false g38 | have eg38 := ndec_t g38 | have eg38 := ndec_f g38 | skip)
        refine WL.yes (by rfl) (Ex.q (q_move (by rfl)) (by rfl) ?_)
        refine WL.yes (by rfl) (Ex.q (q_move (by rfl)) (by rfl) ?_)
        refine WL.yes (by rfl) (Ex.q (q_int (by rfl) (by rfl) (by rfl)) (by rfl) ?_)
        refine WL.yes (by rfl) (Ex.q (q_pick_f (by rfl) (by rfl)) (by rfl) ?_)
        refine WL.nil ?_
        (repeat refine J.seq ?_)
        refine J.cond (by rfl) (fun c42 => ?_) (fun c42 => ?_)
        · skip
          (first | have e42 := of_decide_eq_true c42 | have e42 := of_decide_eq_false c42 | have e42 := ndec_t c42 | have e42 := ndec_f c42 | skip)
          (first | (have h1 : rdy now s.F (lat s.todo k) = true := by rw [rdy_some (by simpa using g38)]; exact c42) | skip)
          (repeat refine J.seq ?_)
          refine J.region ?_
          refine WL.yes (by rfl) (Ex.q (q_move (by rfl)) (by rfl) ?_)
          refine WL.yes (by rfl) (Ex.q (q_move (by rfl)) (by rfl) ?_)
          refine WL.yes (by rfl) (Ex.q (q_move (by rfl)) (by rfl) ?_)
          first | (refine WL.yes (by rfl) (Ex.q (q_indexAddr_ros (by rfl) (by rfl) (by intro _; rfl) ?_ ?_) (by rfl) ?_); (· (omega)); (· (omega))) | (refine WL.yes (by rfl) (Ex.q (q_indexAddr_sl (by rfl) (by rfl) ?_ ?_) (by rfl) ?_); (· (omega)); (· (omega))) | (refine WL.yes (by rfl) (Ex.q (q_indexAddr_arr (by rfl) (by rfl) ?_ ?_) (by rfl) ?_); (· (omega)); (· (omega)))
          first | (refine WL.yes (by rfl) (Ex.h (h_load (by rfl) (by rfl) (by rfl)) (by rfl) ?_)) | (refine WL.yes (by rfl) (Ex.q (q_load (by rfl) (by rfl) (by rfl)) (by rfl) ?_)) | (refine WL.yes (by rfl) (Ex.q (q_load_rop (by rfl) (by rfl)) (by rfl) ?_)) | (refine WL.yes (by rfl) (Ex.h (h_load_pel (by rfl) (by rfl) ?_ (by rfl)) (by rfl) ?_); (· (omega))) | (refine WL.yes (by rfl) (Ex.q (q_load_pel (by rfl) (by rfl) ?_ (by rfl)) (by rfl) ?_); (· (omega)))
          refine WL.set 47 (opE (lat s.todo k)) (by rfl) (by rw [Nat.zero_add, Int.toNat_natCast]) ?_
          refine WL.yes (by rfl) (Ex.q (q_nilCheck (by rfl) (by rfl)) (by rfl) ?_)
          first | (refine WL.yes (by rfl) (Ex.q (q_fieldAddr (by rfl)) (by rfl) ?_)) | (refine WL.yes (by rfl) (Ex.q (q_fieldAddr_rop (by rfl) (by rfl)) (by rfl) ?_)) | (refine WL.yes (by rfl) (Ex.q (q_fieldAddr_pel (by rfl)) (by rfl) ?_))
          first | (refine WL.yes (by rfl) (Ex.store (by rfl) (by rfl) (by rfl) (by rfl) (by rfl) (by rfl) ?_)) | (refine WL.yes (by rfl) (Ex.store_pel (by rfl) (by rfl) (by rfl) (by rfl) (by rfl) ?_ (by rfl) ?_); (· (omega)))
          refine WL.nil ?_
          (repeat refine J.seq ?_)
          refine J.region ?_
          refine WL.yes (by rfl) (Ex.q (q_move (by rfl)) (by rfl) ?_)
          refine WL.yes (by rfl) (Ex.q (q_nilCheck (by rfl) (by rfl)) (by rfl) ?_)
          first | (refine WL.yes (by rfl) (Ex.q (q_fieldAddr (by rfl)) (by rfl) ?_)) | (refine WL.yes (by rfl) (Ex.q (q_fieldAddr_rop (by rfl) (by rfl)) (by rfl) ?_)) | (refine WL.yes (by rfl) (Ex.q (q_fieldAddr_pel (by rfl)) (by rfl) ?_))
          first | (refine WL.yes (by rfl) (Ex.store (by rfl) (by rfl) (by rfl) (by rfl) (by rfl) (by rfl) ?_)) | (refine WL.yes (by rfl) (Ex.store_pel (by rfl) (by rfl) (by rfl) (by rfl) (by rfl) ?_ (by rfl) ?_); (· (omega)))
          refine WL.nil ?_
          (repeat refine J.seq ?_)
          refine J.region ?_
          refine WL.yes (by rfl) (Ex.q (q_move (by rfl)) (by rfl) ?_)
          refine WL.yes (by rfl) (Ex.q (q_move (by rfl)) (by rfl) ?_)
          first | (refine WL.yes (by rfl) (Ex.q (q_indexAddr_ros (by rfl) (by rfl) (by intro _; rfl) ?_ ?_) (by rfl) ?_); (· (omega)); (· (omega))) | (refine WL.yes (by rfl) (Ex.q (q_indexAddr_sl (by rfl) (by rfl) ?_ ?_) (by rfl) ?_); (· (omega)); (· (omega))) | (refine WL.yes (by rfl) (Ex.q (q_indexAddr_arr (by rfl) (by rfl) ?_ ?_) (by rfl) ?_); (· (omega)); (· (omega)))
          first | (refine WL.yes (by rfl) (Ex.h (h_load (by rfl) (by rfl) (by rfl)) (by rfl) ?_)) | (refine WL.yes (by rfl) (Ex.q (q_load (by rfl) (by rfl) (by rfl)) (by rfl) ?_)) | (refine WL.yes (by rfl) (Ex.q (q_load_rop (by rfl) (by rfl)) (by rfl) ?_)) | (refine WL.yes (by rfl) (Ex.h (h_load_pel (by rfl) (by rfl) ?_ (by rfl)) (by rfl) ?_); (· (omega))) | (refine WL.yes (by rfl) (Ex.q (q_load_pel (by rfl) (by rfl) ?_ (by rfl)) (by rfl) ?_); (· (omega)))
          refine WL.set 56 (opE (lat s.todo k)) (by rfl) (by rw [Nat.zero_add, Int.toNat_natCast]) ?_
          first | (refine WL.yes (by rfl) (Ex.store (by rfl) (by rfl) (by rfl) (by rfl) (by rfl) (by rfl) ?_)) | (refine WL.yes (by rfl) (Ex.store_pel (by rfl) (by rfl) (by rfl) (by rfl) (by rfl) ?_ (by rfl) ?_); (· (omega)))
          refine WL.yes (by rfl) (Ex.q (q_assign (by rfl)) (by rfl) ?_)
          refine WL.nil ?_
          (repeat refine J.seq ?_)
          refine J.ret ?_
          (repeat (with_reducible first | refine Kseq.ret ?_ | refine Kblock.ret ?_ | refine Kloop.ret ?_ | refine Kcut.ret ?_))
          first
            | (rw [next_yes hy hk2 hz h1]; exact Kret.mk (RO5 wb _ hc _ wc _ fc { s with wo := lat s.todo k, busy := true }) (.cell inferInstance (by rfl) (by rfl) (by rfl) (.tmp (by rfl) .nil)) (by rfl) trivial (HLe.sub (.cons (s := 3060) rfl (CLe.cells rfl (fun _ => rfl) (fun _ => ⟨trivial, trivial, trivial, VOk_op, trivial⟩)) rfl (.cons (s := 3051) rfl (CLe.refl _ _) rfl (.cons (s := 3052) rfl (CLe.refl _ _) rfl (.cons (s := 3053) rfl (CLe.refl _ _) rfl .nil))))) ⟨rfl, rfl⟩)
            | (rw [next_busy hy]; exact Kret.mk (RO5 wb _ hc _ wc _ fc s) (.cell inferInstance (by rfl) (by rfl) (by rfl) (.tmp (by rfl) .nil)) (by rfl) trivial (HLe.sub (.cons (s := 3060) rfl (CLe.refl _ _) rfl (.cons (s := 3051) rfl (CLe.refl _ _) rfl (.cons (s := 3052) rfl (CLe.refl _ _) rfl (.cons (s := 3053) rfl (CLe.refl _ _) rfl .nil))))) ⟨rfl, rfl⟩)
            | (have hn : s.next now = ((default, false), s) := (by
                cases hy : s.busy with
                | false => exact next_no hy (fun j hj => hz j (by omega))
                | true => exact next_busy hy)
               rw [hn]; exact Kret.mk (RO5 wb _ hc _ wc _ fc s) (.cell inferInstance (by rfl) (by rfl) (by rfl) (.tmp (by rfl) .nil)) (by rfl) trivial (HLe.sub (.cons (s := 3060) rfl (CLe.refl _ _) rfl (.cons (s := 3051) rfl (CLe.refl _ _) rfl (.cons (s := 3052) rfl (CLe.refl _ _) rfl (.cons (s := 3053) rfl (CLe.refl _ _) rfl .nil))))) ⟨rfl, rfl⟩)
        · skip
          (first | have e42 := of_decide_eq_true c42 | have e42 := of_decide_eq_false c42 | have e42 := ndec_t c42 | have e42 := ndec_f c42 | skip)
          have h1 : rdy now s.F (lat s.todo k) = false := by rw [rdy_some (by simpa using g38)]; exact c42
          (repeat refine J.seq ?_)
          refine J.skip ?_
          (repeat refine J.seq ?_)
          refine J.region ?_
          refine WL.yes (by rfl) (Ex.q (q_move (by rfl)) (by rfl) ?_)
          refine WL.yes (by rfl) (Ex.q (q_int (by rfl) (by rfl) (by rfl)) (by rfl) ?_)
          refine WL.yes (by rfl) (Ex.q (q_assign (by rfl)) (by rfl) ?_)
          refine WL.nil ?_
          refine Kloop.nextP (k + 1) ?_ ?_ ⟨same (by rw [← w64_nat (k := k) (by omega)]; rfl), trivial⟩ ⟨same rfl, same rfl, same rfl, same rfl, trivial⟩ (.cons (s := 4) rfl (CLe.refl _ _) rfl (.cons (s := 2068) rfl (CLe.refl _ _) rfl (.cons (s := 3051) rfl (CLe.refl _ _) rfl (.cons (s := 3052) rfl (CLe.refl _ _) rfl (.cons (s := 3053) rfl (CLe.refl _ _) rfl (.cons (s := 3060) rfl (CLe.refl _ _) rfl .nil))))))
          · (exact ⟨by (try dsimp only); omega, upto hz h1⟩)
          · ((try dsimp only) <;> omega)
    · skip
      (first | have e22 := of_decide_eq_true c22 | have e22 := of_decide_eq_false c22 | have e22 := ndec_t c22 | have e22 := ndec_f c22 | skip)
      (first | have hy : s.busy = true := by simpa using c22 | skip)
      (repeat refine J.seq ?_)
      refine J.exit ?_
      (repeat refine J.seq ?_)
      refine J.region ?_
      refine WL.yes (by rfl) (Ex.q (q_build (parts := []) (by rfl) (by rfl)) (by rfl) ?_)
      first | (refine WL.yes (by rfl) (Ex.store (by rfl) (by rfl) (by rfl) (by rfl) (by rfl) (by rfl) ?_)) | (refine WL.yes (by rfl) (Ex.store_pel (by rfl) (by rfl) (by rfl) (by rfl) (by rfl) ?_ (by rfl) ?_); (· (omega)))
      refine WL.yes (by rfl) (Ex.q (q_assign (by rfl)) (by rfl) ?_)
      refine WL.nil ?_
      (repeat refine J.seq ?_)
      refine J.ret ?_
      (repeat (with_reducible first | refine Kseq.ret ?_ | refine Kblock.ret ?_ | refine Kloop.ret ?_ | refine Kcut.ret ?_))
      first
        | (rw [next_yes hy hk2 hz h1]; exact Kret.mk (RO5 wb _ hc _ wc _ fc { s with wo := lat s.todo k, busy := true }) (.cell inferInstance (by rfl) (by rfl) (by rfl) (.tmp (by rfl) .nil)) (by rfl) trivial (HLe.sub (.cons (s := 3060) rfl (CLe.cells rfl (fun _ => rfl) (fun _ => ⟨trivial, trivial, trivial, VOk_op, trivial⟩)) rfl (.cons (s := 3051) rfl (CLe.refl _ _) rfl (.cons (s := 3052) rfl (CLe.refl _ _) rfl (.cons (s := 3053) rfl (CLe.refl _ _) rfl .nil))))) ⟨rfl, rfl⟩)
        | (rw [next_busy hy]; exact Kret.mk (RO5 wb _ hc _ wc _ fc s) (.cell inferInstance (by rfl) (by rfl) (by rfl) (.tmp (by rfl) .nil)) (by rfl) trivial (HLe.sub (.cons (s := 3060) rfl (CLe.refl _ _) rfl (.cons (s := 3051) rfl (CLe.refl _ _) rfl (.cons (s := 3052) rfl (CLe.refl _ _) rfl (.cons (s := 3053) rfl (CLe.refl _ _) rfl .nil))))) ⟨rfl, rfl⟩)
        | (have hn : s.next now = ((default, false), s) := (by
            cases hy : s.busy with
            | false => exact next_no hy (fun j hj => hz j (by omega))
            | true => exact next_busy hy)
           rw [hn]; exact Kret.mk (RO5 wb _ hc _ wc _ fc s) (.cell inferInstance (by rfl) (by rfl) (by rfl) (.tmp (by rfl) .nil)) (by rfl) trivial (HLe.sub (.cons (s := 3060) rfl (CLe.refl _ _) rfl (.cons (s := 3051) rfl (CLe.refl _ _) rfl (.cons (s := 3052) rfl (CLe.refl _ _) rfl (.cons (s := 3053) rfl (CLe.refl _ _) rfl .nil))))) ⟨rfl, rfl⟩)
  · skip
    (first | have eg16 := of_decide_eq_true g16 | have eg16 := of_decide_eq_false g16 | have eg16 := ndec_t g16 | have eg16 := ndec_f g16 | skip)
    refine WL.no (by rfl) (by rfl) ?_
    refine WL.no (by rfl) (by rfl) ?_
    refine WL.no (by rfl) (by rfl) ?_
    refine WL.no (by rfl) (by rfl) ?_
    refine WL.no (by rfl) (by rfl) ?_
    refine WL.yes (by rfl) (Ex.q (q_pick_f (by rfl) (by rfl)) (by rfl) ?_)
    refine WL.nil ?_
    (repeat refine J.seq ?_)
    refine J.condF (by rfl) ?_
    (repeat refine J.seq ?_)
    refine J.exit ?_
    (repeat refine J.seq ?_)
    refine J.region ?_
    refine WL.yes (by rfl) (Ex.q (q_build (parts := []) (by rfl) (by rfl)) (by rfl) ?_)
    first | (refine WL.yes (by rfl) (Ex.store (by rfl) (by rfl) (by rfl) (by rfl) (by rfl) (by rfl) ?_)) | (refine WL.yes (by rfl) (Ex.store_pel (by rfl) (by rfl) (by rfl) (by rfl) (by rfl) ?_ (by rfl) ?_); (· (omega)))
    refine WL.yes (by rfl) (Ex.q (q_assign (by rfl)) (by rfl) ?_)
    refine WL.nil ?_
    (repeat refine J.seq ?_)
    refine J.ret ?_
    (repeat (with_reducible first | refine Kseq.ret ?_ | refine Kblock.ret ?_ | refine Kloop.ret ?_ | refine Kcut.ret ?_))
    first
      | (rw [next_yes hy hk2 hz h1]; exact Kret.mk (RO5 wb _ hc _ wc _ fc { s with wo := lat s.todo k, busy := true }) (.cell inferInstance (by rfl) (by rfl) (by rfl) (.tmp (by rfl) .nil)) (by rfl) trivial (HLe.sub (.cons (s := 3060) rfl (CLe.cells rfl (fun _ => rfl) (fun _ => ⟨trivial, trivial, trivial, VOk_op, trivial⟩)) rfl (.cons (s := 3051) rfl (CLe.refl _ _) rfl (.cons (s := 3052) rfl (CLe.refl _ _) rfl (.cons (s := 3053) rfl (CLe.refl _ _) rfl .nil))))) ⟨rfl, rfl⟩)
      | (rw [next_busy hy]; exact Kret.mk (RO5 wb _ hc _ wc _ fc s) (.cell inferInstance (by rfl) (by rfl) (by rfl) (.tmp (by rfl) .nil)) (by rfl) trivial (HLe.sub (.cons (s := 3060) rfl (CLe.refl _ _) rfl (.cons (s := 3051) rfl (CLe.refl _ _) rfl (.cons (s := 3052) rfl (CLe.refl _ _) rfl (.cons (s := 3053) rfl (CLe.refl _ _) rfl .nil))))) ⟨rfl, rfl⟩)
      | (have hn : s.next now = ((default, false), s) := (by
          cases hy : s.busy with
          | false => exact next_no hy (fun j hj => hz j (by omega))
          | true => exact next_busy hy)
         rw [hn]; exact Kret.mk (RO5 wb _ hc _ wc _ fc s) (.cell inferInstance (by rfl) (by rfl) (by rfl) (.tmp (by rfl) .nil)) (by rfl) trivial (HLe.sub (.cons (s := 3060) rfl (CLe.refl _ _) rfl (.cons (s := 3051) rfl (CLe.refl _ _) rfl (.cons (s := 3052) rfl (CLe.refl _ _) rfl (.cons (s := 3053) rfl (CLe.refl _ _) rfl .nil))))) ⟨rfl, rfl⟩)

set_option maxHeartbeats 16000000 in
set_option maxRecDepth 100000 in
theorem rfReply_spec (wb : Nat) (ha : Option Nat) (hc : Nat) (wa : Option Nat) (wc : Nat) (fa : Option Nat) (fc : Nat) {s : FS} {now : Int} {ok : Bool} (hs : FOk s) (hn : -4611686018427387904 ≤ now ∧ now ≤ 4611686018427387904) : Spec Try.prog 36 [.ptr 3060 wb 0, iV now, .bool ok] [(3060, .box wb 62 (rfV ha hc wa wc fa fc s)), (3051, lvec ha 37 51 hc enE s.H), (3052, lvec wa 37 51 wc enE s.W), (3053, lvec fa 108 35 fc waE s.F)] (fun r H' => ∃ ha' hc' fa' fc', r = iV (s.reply now ok).1 ∧ H' = RO5 wb ha' hc' wa wc fa' fc' (s.reply now ok).2) := by
  refine Spec.of_J Try.func36 rfl Try.ntmps36 Try.results36 rfl ?_
  intro A F hAF
  have hlf := hs.lf
  have hlh := hs.lh
  (repeat refine J.seq ?_)
  refine J.region ?_
  refine WL.yes (by rfl) (Ex.q (q_assign (by rfl)) (by rfl) ?_)
  refine WL.nil ?_
  (repeat refine J.seq ?_)
  refine J.region ?_
  refine WL.yes (by rfl) (Ex.q (q_move (by rfl)) (by rfl) ?_)
  refine WL.yes (by rfl) (Ex.q (q_nilCheck (by rfl) (by rfl)) (by rfl) ?_)
  first | (refine WL.yes (by rfl) (Ex.q (q_fieldAddr (by rfl)) (by rfl) ?_)) | (refine WL.yes (by rfl) (Ex.q (q_fieldAddr_rop (by rfl) (by rfl)) (by rfl) ?_)) | (refine WL.yes (by rfl) (Ex.q (q_fieldAddr_pel (by rfl)) (by rfl) ?_))
  first | (refine WL.yes (by rfl) (Ex.h (h_load (by rfl) (by rfl) (by rfl)) (by rfl) ?_)) | (refine WL.yes (by rfl) (Ex.q (q_load (by rfl) (by rfl) (by rfl)) (by rfl) ?_)) | (refine WL.yes (by rfl) (Ex.q (q_load_rop (by rfl) (by rfl)) (by rfl) ?_)) | (refine WL.yes (by rfl) (Ex.h (h_load_pel (by rfl) (by rfl) ?_ (by rfl)) (by rfl) ?_); (· (omega))) | (refine WL.yes (by rfl) (Ex.q (q_load_pel (by rfl) (by rfl) ?_ (by rfl)) (by rfl) ?_); (· (omega)))
  refine WL.yes (by rfl) (Ex.q (q_not (by rfl)) (by rfl) ?_)
  refine WL.nil ?_
  (repeat refine J.seq ?_)
  refine J.cond (by rfl) (fun c15 => ?_) (fun c15 => ?_)
  · skip
    (first | have e15 := of_decide_eq_true c15 | have e15 := of_decide_eq_false c15 | have e15 := ndec_t c15 | have e15 := ndec_f c15 | skip)
    have hy : s.busy = false := by simpa using c15
    (repeat refine J.seq ?_)
    refine J.region ?_
    refine WL.yes (by rfl) (Ex.q (q_assign (by rfl)) (by rfl) ?_)
    refine WL.nil ?_
    (repeat refine J.seq ?_)
    refine J.ret ?_
    (repeat (with_reducible first | refine Kseq.ret ?_ | refine Kblock.ret ?_ | refine Kloop.ret ?_ | refine Kcut.ret ?_))
    first
      | (rw [reply_no hy]; exact Kret.mk (RO5 wb _ hc _ wc _ fc s) (.tmp (by rfl) .nil) (by rfl) trivial (HLe.sub (.cons (s := 3060) rfl (CLe.refl _ _) rfl (.cons (s := 3051) rfl (CLe.refl _ _) rfl (.cons (s := 3052) rfl (CLe.refl _ _) rfl (.cons (s := 3053) rfl (CLe.refl _ _) rfl .nil))))) ⟨_, _, _, _, rfl, rfl⟩)
      | (rw [reply_fail hy]; exact Kret.mk (RO5 wb _ hc _ wc a84 cap84 { s with busy := false, F := adel s.wo.e.p s.F ++ [(s.wo.e.p, now + 1000)] }) (.tmp (by rfl) .nil) (by rfl) trivial (HLe.sub (.cons (s := 3060) rfl (CLe.cells (by cases a84 <;> rfl) (fun _ => rfl) (fun _ => ⟨trivial, trivial, trivial, VOk_op, trivial⟩)) rfl (.cons (s := 3051) rfl (CLe.refl _ _) rfl (.cons (s := 3052) rfl (CLe.refl _ _) rfl (.cons (s := 84) rfl (CLe.refl _ _) rfl .nil))))) ⟨_, _, _, _, rfl, rfl⟩)
      | (rw [reply_rem hy e87]; exact Kret.mk (RO5 wb a116 cap116 _ wc a8 c8 { s with busy := false, F := adel s.wo.e.p s.F, H := tdel s.wo.e.p s.H }) (.tmp (by rfl) .nil) (by rfl) trivial (HLe.sub (.cons (s := 3060) rfl (CLe.cells (by rw [← tdel_at hs.h hk1 hk4]; cases a116 <;> cases a8 <;> rfl) (fun _ => rfl) (fun _ => ⟨trivial, trivial, trivial, VOk_op, trivial⟩)) rfl (.cons (s := 116) rfl (by rw [← tdel_at hs.h hk1 hk4]; exact CLe.refl _ _) rfl (.cons (s := 3052) rfl (CLe.refl _ _) rfl (.cons (s := 8) rfl (CLe.refl _ _) rfl .nil))))) ⟨_, _, _, _, rfl, rfl⟩)
      | (rw [reply_put hy e87]; exact Kret.mk (RO5 wb a68 cap68 _ wc a8 c8 { s with busy := false, F := adel s.wo.e.p s.F, H := tput s.wo.e s.H }) (.tmp (by rfl) .nil) (by rfl) trivial (HLe.sub (.cons (s := 3060) rfl (CLe.cells (by cases a68 <;> cases a8 <;> rfl) (fun _ => rfl) (fun _ => ⟨trivial, trivial, trivial, VOk_op, trivial⟩)) rfl (.cons (s := 2044) rfl (CLe.refl _ _) rfl (.cons (s := 3052) rfl (CLe.refl _ _) rfl (.cons (s := 8) rfl (CLe.refl _ _) rfl .nil))))) ⟨_, _, _, _, rfl, rfl⟩)
  · skip
    (first | have e15 := of_decide_eq_true c15 | have e15 := of_decide_eq_false c15 | have e15 := ndec_t c15 | have e15 := ndec_f c15 | skip)
    have hy : s.busy = true := by simpa using c15
    (repeat refine J.seq ?_)
    refine J.skip ?_
    (repeat refine J.seq ?_)
    refine J.region ?_
    refine WL.yes (by rfl) (Ex.q (q_move (by rfl)) (by rfl) ?_)
    refine WL.yes (by rfl) (Ex.q (q_nilCheck (by rfl) (by rfl)) (by rfl) ?_)
    first | (refine WL.yes (by rfl) (Ex.q (q_fieldAddr (by rfl)) (by rfl) ?_)) | (refine WL.yes (by rfl) (Ex.q (q_fieldAddr_rop (by rfl) (by rfl)) (by rfl) ?_)) | (refine WL.yes (by rfl) (Ex.q (q_fieldAddr_pel (by rfl)) (by rfl) ?_))
    first | (refine WL.yes (by rfl) (Ex.store (by rfl) (by rfl) (by rfl) (by rfl) (by rfl) (by rfl) ?_)) | (refine WL.yes (by rfl) (Ex.store_pel (by rfl) (by rfl) (by rfl) (by rfl) (by rfl) ?_ (by rfl) ?_); (· (omega)))
    refine WL.nil ?_
    (repeat refine J.seq ?_)
    refine J.region ?_
    refine WL.yes (by rfl) (Ex.q (q_move (by rfl)) (by rfl) ?_)
    refine WL.yes (by rfl) (Ex.q (q_nilCheck (by rfl) (by rfl)) (by rfl) ?_)
    first | (refine WL.yes (by rfl) (Ex.q (q_fieldAddr (by rfl)) (by rfl) ?_)) | (refine WL.yes (by rfl) (Ex.q (q_fieldAddr_rop (by rfl) (by rfl)) (by rfl) ?_)) | (refine WL.yes (by rfl) (Ex.q (q_fieldAddr_pel (by rfl)) (by rfl) ?_))
    first | (refine WL.yes (by rfl) (Ex.q (q_fieldAddr (by rfl)) (by rfl) ?_)) | (refine WL.yes (by rfl) (Ex.q (q_fieldAddr_rop (by rfl) (by rfl)) (by rfl) ?_)) | (refine WL.yes (by rfl) (Ex.q (q_fieldAddr_pel (by rfl)) (by rfl) ?_))
    first | (refine WL.yes (by rfl) (Ex.q (q_fieldAddr (by rfl)) (by rfl) ?_)) | (refine WL.yes (by rfl) (Ex.q (q_fieldAddr_rop (by rfl) (by rfl)) (by rfl) ?_)) | (refine WL.yes (by rfl) (Ex.q (q_fieldAddr_pel (by rfl)) (by rfl) ?_))
    first | (refine WL.yes (by rfl) (Ex.h (h_load (by rfl) (by rfl) (by rfl)) (by rfl) ?_)) | (refine WL.yes (by rfl) (Ex.q (q_load (by rfl) (by rfl) (by rfl)) (by rfl) ?_)) | (refine WL.yes (by rfl) (Ex.q (q_load_rop (by rfl) (by rfl)) (by rfl) ?_)) | (refine WL.yes (by rfl) (Ex.h (h_load_pel (by rfl) (by rfl) ?_ (by rfl)) (by rfl) ?_); (· (omega))) | (refine WL.yes (by rfl) (Ex.q (q_load_pel (by rfl) (by rfl) ?_ (by rfl)) (by rfl) ?_); (· (omega)))
    refine WL.yes (by rfl) (Ex.alloc (by rfl) ?_)
    intro b7
    first | (refine WL.yes (by rfl) (Ex.store (by rfl) (by rfl) (by rfl) (by rfl) (by rfl) (by rfl) ?_)) | (refine WL.yes (by rfl) (Ex.store_pel (by rfl) (by rfl) (by rfl) (by rfl) (by rfl) ?_ (by rfl) ?_); (· (omega)))
    refine WL.nil ?_
    (repeat refine J.seq ?_)
    refine J.region ?_
    refine WL.yes (by rfl) (Ex.q (q_assign (by rfl)) (by rfl) ?_)
    refine WL.nil ?_
    (repeat refine J.seq ?_)
    refine J.region ?_
    refine WL.yes (by rfl) (Ex.q (q_assign (by rfl)) (by rfl) ?_)
    refine WL.nil ?_
    (repeat refine J.seq ?_)
    refine J.block ?_
    (repeat refine J.seq ?_)
    refine J.loopP (fun x : Nat × Option Nat × Nat => x.1 ≤ s.F.length) (fun x => [(8, .sl 8 x.2.1 35 0 x.2.2 (adel s.wo.e.p (s.F.take x.1)).length), (9, iV x.1)]) (fun x => [(8, lvec x.2.1 108 35 x.2.2 waE (adel s.wo.e.p (s.F.take x.1)))]) (fun x => s.F.length - x.1) (0, none, 0) [(0, _), (1, _), (2, _), (7, _)] [(7, _), (3051, _), (3052, _), (3053, _), (3060, _)] ⟨same rfl, same rfl, same rfl, same rfl, trivial⟩ ⟨⟨_, rfl, rfl, fun _ => trivial⟩, same rfl, trivial⟩ (.non (.cons (s := 7) rfl (CLe.refl _ _) rfl (.cons (s := 3051) rfl (CLe.refl _ _) rfl (.cons (s := 3052) rfl (CLe.refl _ _) rfl (.cons (s := 3053) rfl (CLe.refl _ _) rfl (.cons (s := 3060) rfl (CLe.refl _ _) rfl .nil)))))) ?_ ?_
    · (exact Nat.zero_le _)
    rintro ⟨k, a8, c8⟩ hx
    (try dsimp only at hx)
    (try dsimp only)
    (repeat refine J.seq ?_)
    refine J.region ?_
    refine WL.yes (by rfl) (Ex.q (q_move (by rfl)) (by rfl) ?_)
    refine WL.yes (by rfl) (Ex.q (q_move (by rfl)) (by rfl) ?_)
    refine WL.yes (by rfl) (Ex.q (q_nilCheck (by rfl) (by rfl)) (by rfl) ?_)
    first | (refine WL.yes (by rfl) (Ex.q (q_fieldAddr (by rfl)) (by rfl) ?_)) | (refine WL.yes (by rfl) (Ex.q (q_fieldAddr_rop (by rfl) (by rfl)) (by rfl) ?_)) | (refine WL.yes (by rfl) (Ex.q (q_fieldAddr_pel (by rfl)) (by rfl) ?_))
    first | (refine WL.yes (by rfl) (Ex.h (h_load (by rfl) (by rfl) (by rfl)) (by rfl) ?_)) | (refine WL.yes (by rfl) (Ex.q (q_load (by rfl) (by rfl) (by rfl)) (by rfl) ?_)) | (refine WL.yes (by rfl) (Ex.q (q_load_rop (by rfl) (by rfl)) (by rfl) ?_)) | (refine WL.yes (by rfl) (Ex.h (h_load_pel (by rfl) (by rfl) ?_ (by rfl)) (by rfl) ?_); (· (omega))) | (refine WL.yes (by rfl) (Ex.q (q_load_pel (by rfl) (by rfl) ?_ (by rfl)) (by rfl) ?_); (· (omega)))
    first | (refine WL.yes (by rfl) (Ex.q (q_len_slice (by rfl) (by rfl)) (by rfl) ?_)) | (refine WL.yes (by rfl) (Ex.q (q_len_string (by rfl)) (by rfl) ?_))
    refine WL.yes (by rfl) (Ex.q (q_int (by rfl) (by rfl) (by rfl)) (by rfl) ?_)
    refine WL.nil ?_
    (repeat refine J.seq ?_)
    refine J.cond (by rfl) (fun c31 => ?_) (fun c31 => ?_)
    · skip
      (first | have e31 := of_decide_eq_true c31 | have e31 := of_decide_eq_false c31 | have e31 := ndec_t c31 | have e31 := ndec_f c31 | skip)
      (repeat refine J.seq ?_)
      refine J.skip ?_
      (repeat refine J.seq ?_)
      refine J.block ?_
      (repeat refine J.seq ?_)
      have hk2 : k < s.F.length := by omega
      have hk3 : (lat s.F k).1.ok := hs.f.1 _ (lat_mem hk2)
      refine J.vecsome (t := 3053) rfl (by omega) ?_
      intro bf hbf
      subst hbf
      refine J.draw [7, 8, 3051, 3052, 3053, 3060] 9999 [(0, true), (1, true), (2, true), (3, true), (4, true), (5, true), (6, true), (7, true), (8, true), (9, true)] (by kernel_rfl) rfl (by kernel_rfl) ?_
      intro F1 hF1
      refine WS.take rfl (by rfl) (by rfl) (q_move (by rfl)) ?_
      refine WS.take rfl (by rfl) (by rfl) (q_nilCheck (by rfl) (by rfl)) ?_
      first | (refine WS.take rfl (by rfl) (by rfl) (q_fieldAddr (by rfl)) ?_) | (refine WS.take rfl (by rfl) (by rfl) (q_fieldAddr_rop (by rfl) (by rfl)) ?_) | (refine WS.take rfl (by rfl) (by rfl) (q_fieldAddr_pel (by rfl)) ?_)
      first | (refine WS.take rfl (by rfl) (by rfl) (q_load (by rfl) (by rfl) (by rfl)) ?_) | (refine WS.take rfl (by rfl) (by rfl) (q_load_rop (by rfl) (by rfl)) ?_) | (refine WS.take rfl (by rfl) (by rfl) (q_load_pel (by rfl) (by rfl) ?_ (by rfl)) ?_; (· (omega)))
      refine WS.take rfl (by rfl) (by rfl) (q_move (by rfl)) ?_
      first | (refine WS.take rfl (by rfl) (by rfl) (q_indexAddr_ros (by rfl) (by rfl) (by intro _; rfl) ?_ ?_) ?_; (· (omega)); (· (omega))) | (refine WS.take rfl (by rfl) (by rfl) (q_indexAddr_sl (by rfl) (by rfl) ?_ ?_) ?_; (· (omega)); (· (omega))) | (refine WS.take rfl (by rfl) (by rfl) (q_indexAddr_arr (by rfl) (by rfl) ?_ ?_) ?_; (· (omega)); (· (omega)))
      first | (refine WS.take rfl (by rfl) (by rfl) (q_fieldAddr (by rfl)) ?_) | (refine WS.take rfl (by rfl) (by rfl) (q_fieldAddr_rop (by rfl) (by rfl)) ?_) | (refine WS.take rfl (by rfl) (by rfl) (q_fieldAddr_pel (by rfl)) ?_)
      first | (refine WS.take rfl (by rfl) (by rfl) (q_load (by rfl) (by rfl) (by rfl)) ?_) | (refine WS.take rfl (by rfl) (by rfl) (q_load_rop (by rfl) (by rfl)) ?_) | (refine WS.take rfl (by rfl) (by rfl) (q_load_pel (by rfl) (by rfl) ?_ (by rfl)) ?_; (· (omega)))
      refine WS.set 41 (prE (lat s.F k).1) (by rfl) (by rw [Nat.zero_add, Int.toNat_natCast]) ?_
      first | (refine WS.take rfl (by rfl) (by rfl) (q_load (by rfl) (by rfl) (by rfl)) ?_) | (refine WS.take rfl (by rfl) (by rfl) (q_load_rop (by rfl) (by rfl)) ?_) | (refine WS.take rfl (by rfl) (by rfl) (q_load_pel (by rfl) (by rfl) ?_ (by rfl)) ?_; (· (omega)))
      first | (refine WS.take rfl (by rfl) (by rfl) (q_int (by rfl) (by rfl) (by rfl)) ?_) | (refine WS.take rfl (by rfl) (by rfl) (q_neb (by rfl) (by rfl)) ?_) | (refine WS.take rfl (by rfl) (by rfl) (q_nep rfl rfl (by rfl) (by rfl) ?_) ?_; (· (rfl))) | (refine WS.take rfl (by rfl) (by rfl) (q_eqs (by rfl) (by rfl)) ?_)
      refine WS.nil ?_
      (repeat refine J.seq ?_)
      refine J.cond (by rfl) (fun c43 => ?_) (fun c43 => ?_)
      · skip
        (first | have e43 := of_decide_eq_true c43 | have e43 := of_decide_eq_false c43 | have e43 := ndec_t c43 | have e43 := ndec_f c43 | skip)
        rw [eqPr hk3 hs.o.1] at c43
        have h1 : ¬ (lat s.F k).1 = s.wo.e.p := by simpa using c43
        (repeat refine J.seq ?_)
        refine J.region ?_
        refine WL.yes (by rfl) (Ex.q (q_move (by rfl)) (by rfl) ?_)
        refine WL.yes (by rfl) (Ex.q (q_move (by rfl)) (by rfl) ?_)
        refine WL.yes (by rfl) (Ex.q (q_nilCheck (by rfl) (by rfl)) (by rfl) ?_)
        first | (refine WL.yes (by rfl) (Ex.q (q_fieldAddr (by rfl)) (by rfl) ?_)) | (refine WL.yes (by rfl) (Ex.q (q_fieldAddr_rop (by rfl) (by rfl)) (by rfl) ?_)) | (refine WL.yes (by rfl) (Ex.q (q_fieldAddr_pel (by rfl)) (by rfl) ?_))
        first | (refine WL.yes (by rfl) (Ex.h (h_load (by rfl) (by rfl) (by rfl)) (by rfl) ?_)) | (refine WL.yes (by rfl) (Ex.q (q_load (by rfl) (by rfl) (by rfl)) (by rfl) ?_)) | (refine WL.yes (by rfl) (Ex.q (q_load_rop (by rfl) (by rfl)) (by rfl) ?_)) | (refine WL.yes (by rfl) (Ex.h (h_load_pel (by rfl) (by rfl) ?_ (by rfl)) (by rfl) ?_); (· (omega))) | (refine WL.yes (by rfl) (Ex.q (q_load_pel (by rfl) (by rfl) ?_ (by rfl)) (by rfl) ?_); (· (omega)))
        refine WL.yes (by rfl) (Ex.q (q_move (by rfl)) (by rfl) ?_)
        first | (refine WL.yes (by rfl) (Ex.q (q_indexAddr_ros (by rfl) (by rfl) (by intro _; rfl) ?_ ?_) (by rfl) ?_); (· (omega)); (· (omega))) | (refine WL.yes (by rfl) (Ex.q (q_indexAddr_sl (by rfl) (by rfl) ?_ ?_) (by rfl) ?_); (· (omega)); (· (omega))) | (refine WL.yes (by rfl) (Ex.q (q_indexAddr_arr (by rfl) (by rfl) ?_ ?_) (by rfl) ?_); (· (omega)); (· (omega)))
        first | (refine WL.yes (by rfl) (Ex.h (h_load (by rfl) (by rfl) (by rfl)) (by rfl) ?_)) | (refine WL.yes (by rfl) (Ex.q (q_load (by rfl) (by rfl) (by rfl)) (by rfl) ?_)) | (refine WL.yes (by rfl) (Ex.q (q_load_rop (by rfl) (by rfl)) (by rfl) ?_)) | (refine WL.yes (by rfl) (Ex.h (h_load_pel (by rfl) (by rfl) ?_ (by rfl)) (by rfl) ?_); (· (omega))) | (refine WL.yes (by rfl) (Ex.q (q_load_pel (by rfl) (by rfl) ?_ (by rfl)) (by rfl) ?_); (· (omega)))
        refine WL.set 51 (waE (lat s.F k)) (by rfl) (by rw [Nat.zero_add, Int.toNat_natCast]) ?_
        refine WL.yes (by rfl) (Ex.buildSlice (parts := [(0, .tmp 51)]) (us := [_]) (by rfl) (by rfl) rfl (by rfl) (by rfl) ?_)
        intro b52
        refine WL.yes (by rfl) (Ex.append (e := waE) (l := (adel s.wo.e.p (s.F.take k))) (l' := [lat s.F k]) (by rfl) (by rfl) (by rfl) (by rfl) (Rd.lit [_] rfl rfl rfl) ?_ ?_); (· (have := adel_len (p := s.wo.e.p) (F := s.F.take k); have := List.length_take_le k s.F; simp only [List.length_singleton]; omega))
        intro a53 cap53
        refine WL.yes (by rfl) (Ex.q (q_assign (by rfl)) (by rfl) ?_)
        refine WL.nil ?_
        (repeat refine J.seq ?_)
        refine J.region ?_
        refine WL.yes (by rfl) (Ex.q (q_move (by rfl)) (by rfl) ?_)
        refine WL.yes (by rfl) (Ex.q (q_int (by rfl) (by rfl) (by rfl)) (by rfl) ?_)
        refine WL.yes (by rfl) (Ex.q (q_assign (by rfl)) (by rfl) ?_)
        refine WL.nil ?_
        first | ((have hs1 := adel_yes hk2 h1); refine Kloop.nextP (k + 1, a53, cap53) ?_ ?_ ⟨⟨_, rfl, by rw [hs1]; cases a53 <;> rfl, fun _ => trivial⟩, same (by rw [← w64_nat (k := k) (by omega)]; rfl), trivial⟩ ⟨same rfl, same rfl, same rfl, same rfl, trivial⟩ (.cons (s := 53) rfl (by rw [hs1]; exact CLe.refl _ _) rfl (.cons (s := 7) rfl (CLe.refl _ _) rfl (.cons (s := 3051) rfl (CLe.refl _ _) rfl (.cons (s := 3052) rfl (CLe.refl _ _) rfl (.cons (s := 3053) rfl (CLe.refl _ _) rfl (.cons (s := 3060) rfl (CLe.refl _ _) rfl .nil)))))); (· ((try dsimp only) <;> omega)); (· ((try dsimp only) <;> omega))) | ((have hs1 := adel_no hk2 h1); refine Kloop.nextP (k + 1, a8, c8) ?_ ?_ ⟨⟨_, rfl, by rw [hs1], fun _ => trivial⟩, same (by rw [← w64_nat (k := k) (by omega)]; rfl), trivial⟩ ⟨same rfl, same rfl, same rfl, same rfl, trivial⟩ (.cons (s := 8) rfl (by rw [hs1]; exact CLe.refl _ _) rfl (.cons (s := 7) rfl (CLe.refl _ _) rfl (.cons (s := 3051) rfl (CLe.refl _ _) rfl (.cons (s := 3052) rfl (CLe.refl _ _) rfl (.cons (s := 3053) rfl (CLe.refl _ _) rfl (.cons (s := 3060) rfl (CLe.refl _ _) rfl .nil)))))); (· ((try dsimp only) <;> omega)); (· ((try dsimp only) <;> omega)))
      · skip
        (first | have e43 := of_decide_eq_true c43 | have e43 := of_decide_eq_false c43 | have e43 := ndec_t c43 | have e43 := ndec_f c43 | skip)
        rw [eqPr hk3 hs.o.1] at c43
        have h1 : (lat s.F k).1 = s.wo.e.p := by simpa using c43
        (repeat refine J.seq ?_)
        refine J.skip ?_
        (repeat refine J.seq ?_)
        refine J.region ?_
        refine WL.yes (by rfl) (Ex.q (q_move (by rfl)) (by rfl) ?_)
        refine WL.yes (by rfl) (Ex.q (q_int (by rfl) (by rfl) (by rfl)) (by rfl) ?_)
        refine WL.yes (by rfl) (Ex.q (q_assign (by rfl)) (by rfl) ?_)
        refine WL.nil ?_
        first | ((have hs1 := adel_yes hk2 h1); refine Kloop.nextP (k + 1, a53, cap53) ?_ ?_ ⟨⟨_, rfl, by rw [hs1]; cases a53 <;> rfl, fun _ => trivial⟩, same (by rw [← w64_nat (k := k) (by omega)]; rfl), trivial⟩ ⟨same rfl, same rfl, same rfl, same rfl, trivial⟩ (.cons (s := 53) rfl (by rw [hs1]; exact CLe.refl _ _) rfl (.cons (s := 7) rfl (CLe.refl _ _) rfl (.cons (s := 3051) rfl (CLe.refl _ _) rfl (.cons (s := 3052) rfl (CLe.refl _ _) rfl (.cons (s := 3053) rfl (CLe.refl _ _) rfl (.cons (s := 3060) rfl (CLe.refl _ _) rfl .nil)))))); (· ((try dsimp only) <;> omega)); (· ((try dsimp only) <;> omega))) | ((have hs1 := adel_no hk2 h1); refine Kloop.nextP (k + 1, a8, c8) ?_ ?_ ⟨⟨_, rfl, by rw [hs1], fun _ => trivial⟩, same (by rw [← w64_nat (k := k) (by omega)]; rfl), trivial⟩ ⟨same rfl, same rfl, same rfl, same rfl, trivial⟩ (.cons (s := 8) rfl (by rw [hs1]; exact CLe.refl _ _) rfl (.cons (s := 7) rfl (CLe.refl _ _) rfl (.cons (s := 3051) rfl (CLe.refl _ _) rfl (.cons (s := 3052) rfl (CLe.refl _ _) rfl (.cons (s := 3053) rfl (CLe.refl _ _) rfl (.cons (s := 3060) rfl (CLe.refl _ _) rfl .nil)))))); (· ((try dsimp only) <;> omega)); (· ((try dsimp only) <;> omega)))
    · skip
      (first | have e31 := of_decide_eq_true c31 | have e31 := of_decide_eq_false c31 | have e31 := ndec_t c31 | have e31 := ndec_f c31 | skip)
      (repeat refine J.seq ?_)
      refine J.exit ?_
      (repeat refine J.seq ?_)
      have hkn : s.F.take k = s.F := take_all (by omega)
      rw [hkn]
      refine J.region ?_
      refine WL.yes (by rfl) (Ex.q (q_move (by rfl)) (by rfl) ?_)
      refine WL.yes (by rfl) (Ex.q (q_move (by rfl)) (by rfl) ?_)
      refine WL.yes (by rfl) (Ex.q (q_nilCheck (by rfl) (by rfl)) (by rfl) ?_)
      first | (refine WL.yes (by rfl) (Ex.q (q_fieldAddr (by rfl)) (by rfl) ?_)) | (refine WL.yes (by rfl) (Ex.q (q_fieldAddr_rop (by rfl) (by rfl)) (by rfl) ?_)) | (refine WL.yes (by rfl) (Ex.q (q_fieldAddr_pel (by rfl)) (by rfl) ?_))
      first | (refine WL.yes (by rfl) (Ex.store (by rfl) (by rfl) (by rfl) (by rfl) (by rfl) (by rfl) ?_)) | (refine WL.yes (by rfl) (Ex.store_pel (by rfl) (by rfl) (by rfl) (by rfl) (by rfl) ?_ (by rfl) ?_); (· (omega)))
      refine WL.nil ?_
      (repeat refine J.seq ?_)
      refine J.block ?_
      (repeat refine J.seq ?_)
      refine J.region ?_
      refine WL.yes (by rfl) (Ex.q (q_move (by rfl)) (by rfl) ?_)
      refine WL.yes (by rfl) (Ex.q (q_not (by rfl)) (by rfl) ?_)
      refine WL.yes (by rfl) (Ex.q (q_assign (by rfl)) (by rfl) ?_)
      refine WL.nil ?_
      (repeat refine J.seq ?_)
      refine J.cond (by rfl) (fun c71 => ?_) (fun c71 => ?_)
      · skip
        (first | have e71 := of_decide_eq_true c71 | have e71 := of_decide_eq_false c71 | have e71 := ndec_t c71 | have e71 := ndec_f c71 | skip)
        have hok : ok = false := by simpa using c71
        subst hok
        (repeat refine J.seq ?_)
        refine J.draw [7, 3051, 3052, 3053, 3060] 13 [(0, true), (1, true), (2, true), (3, true), (4, true), (5, true), (6, true), (7, true), (8, true), (9, false), (10, false), (11, true), (12, true), (13, false)] (by kernel_rfl) rfl (by kernel_rfl) ?_
        intro F2 hF2
        refine WS.take rfl (by rfl) (by rfl) (q_move (by rfl)) ?_
        refine WS.take rfl (by rfl) (by rfl) (q_move (by rfl)) ?_
        refine WS.take rfl (by rfl) (by rfl) (q_nilCheck (by rfl) (by rfl)) ?_
        first | (refine WS.take rfl (by rfl) (by rfl) (q_fieldAddr (by rfl)) ?_) | (refine WS.take rfl (by rfl) (by rfl) (q_fieldAddr_rop (by rfl) (by rfl)) ?_) | (refine WS.take rfl (by rfl) (by rfl) (q_fieldAddr_pel (by rfl)) ?_)
        first | (refine WS.take rfl (by rfl) (by rfl) (q_load (by rfl) (by rfl) (by rfl)) ?_) | (refine WS.take rfl (by rfl) (by rfl) (q_load_rop (by rfl) (by rfl)) ?_) | (refine WS.take rfl (by rfl) (by rfl) (q_load_pel (by rfl) (by rfl) ?_ (by rfl)) ?_; (· (omega)))
        first | (refine WS.take rfl (by rfl) (by rfl) (q_load (by rfl) (by rfl) (by rfl)) ?_) | (refine WS.take rfl (by rfl) (by rfl) (q_load_rop (by rfl) (by rfl)) ?_) | (refine WS.take rfl (by rfl) (by rfl) (q_load_pel (by rfl) (by rfl) ?_ (by rfl)) ?_; (· (omega)))
        refine WS.take rfl (by rfl) (by rfl) (q_move (by rfl)) ?_
        refine WS.take rfl (by rfl) (by rfl) (q_int (by rfl) (by rfl) (by rfl)) ?_
        refine WS.set 81 (iV (now + 1000)) (by rfl) (congrArg iV (w64 (by omega) (by omega)).symm) ?_
        refine WS.take rfl (by rfl) (by rfl) (q_build (parts := [(0, .tmp 79), (1, .tmp 81)]) (by rfl) (by rfl)) ?_
        refine WS.ex rfl (by rfl) (Ex.buildSlice (parts := [(0, .tmp 82)]) (us := [_]) (by rfl) (by rfl) rfl (by rfl) (by rfl) ?_)
        intro b83
        refine WS.ex rfl (by rfl) (Ex.append (e := waE) (l := (adel s.wo.e.p s.F)) (l' := [(s.wo.e.p, now + 1000)]) (by rfl) (by rfl) (by rfl) (by rfl) (Rd.lit [_] rfl rfl rfl) ?_ ?_); (· (have := adel_len (p := s.wo.e.p) (F := s.F); simp only [List.length_singleton]; omega))
        intro a84 cap84
        refine WS.take rfl (by rfl) (by rfl) (q_nilCheck (by rfl) (by rfl)) ?_
        first | (refine WS.take rfl (by rfl) (by rfl) (q_fieldAddr (by rfl)) ?_) | (refine WS.take rfl (by rfl) (by rfl) (q_fieldAddr_rop (by rfl) (by rfl)) ?_) | (refine WS.take rfl (by rfl) (by rfl) (q_fieldAddr_pel (by rfl)) ?_)
        first | (refine WS.last rfl (by rfl) (by rfl) (Ex.store (by rfl) (by rfl) (by rfl) (by rfl) (by rfl) (by rfl) ?_)) | (refine WS.last rfl (by rfl) (by rfl) (Ex.store_pel (by rfl) (by rfl) (by rfl) (by rfl) (by rfl) ?_ (by rfl) ?_); (· (omega)))
        (repeat refine J.seq ?_)
        refine J.region ?_
        refine WL.yes (by rfl) (Ex.q (q_assign (by rfl)) (by rfl) ?_)
        refine WL.nil ?_
        (repeat refine J.seq ?_)
        refine J.ret ?_
        (repeat (with_reducible first | refine Kseq.ret ?_ | refine Kblock.ret ?_ | refine Kloop.ret ?_ | refine Kcut.ret ?_))
        first
          | (rw [reply_no hy]; exact Kret.mk (RO5 wb _ hc _ wc _ fc s) (.tmp (by rfl) .nil) (by rfl) trivial (HLe.sub (.cons (s := 3060) rfl (CLe.refl _ _) rfl (.cons (s := 3051) rfl (CLe.refl _ _) rfl (.cons (s := 3052) rfl (CLe.refl _ _) rfl (.cons (s := 3053) rfl (CLe.refl _ _) rfl .nil))))) ⟨_, _, _, _, rfl, rfl⟩)
          | (rw [reply_fail hy]; exact Kret.mk (RO5 wb _ hc _ wc a84 cap84 { s with busy := false, F := adel s.wo.e.p s.F ++ [(s.wo.e.p, now + 1000)] }) (.tmp (by rfl) .nil) (by rfl) trivial (HLe.sub (.cons (s := 3060) rfl (CLe.cells (by cases a84 <;> rfl) (fun _ => rfl) (fun _ => ⟨trivial, trivial, trivial, VOk_op, trivial⟩)) rfl (.cons (s := 3051) rfl (CLe.refl _ _) rfl (.cons (s := 3052) rfl (CLe.refl _ _) rfl (.cons (s := 84) rfl (CLe.refl _ _) rfl .nil))))) ⟨_, _, _, _, rfl, rfl⟩)
          | (rw [reply_rem hy e87]; exact Kret.mk (RO5 wb a116 cap116 _ wc a8 c8 { s with busy := false, F := adel s.wo.e.p s.F, H := tdel s.wo.e.p s.H }) (.tmp (by rfl) .nil) (by rfl) trivial (HLe.sub (.cons (s := 3060) rfl (CLe.cells (by rw [← tdel_at hs.h hk1 hk4]; cases a116 <;> cases a8 <;> rfl) (fun _ => rfl) (fun _ => ⟨trivial, trivial, trivial, VOk_op, trivial⟩)) rfl (.cons (s := 116) rfl (by rw [← tdel_at hs.h hk1 hk4]; exact CLe.refl _ _) rfl (.cons (s := 3052) rfl (CLe.refl _ _) rfl (.cons (s := 8) rfl (CLe.refl _ _) rfl .nil))))) ⟨_, _, _, _, rfl, rfl⟩)
          | (rw [reply_put hy e87]; exact Kret.mk (RO5 wb a68 cap68 _ wc a8 c8 { s with busy := false, F := adel s.wo.e.p s.F, H := tput s.wo.e s.H }) (.tmp (by rfl) .nil) (by rfl) trivial (HLe.sub (.cons (s := 3060) rfl (CLe.cells (by cases a68 <;> cases a8 <;> rfl) (fun _ => rfl) (fun _ => ⟨trivial, trivial, trivial, VOk_op, trivial⟩)) rfl (.cons (s := 2044) rfl (CLe.refl _ _) rfl (.cons (s := 3052) rfl (CLe.refl _ _) rfl (.cons (s := 8) rfl (CLe.refl _ _) rfl .nil))))) ⟨_, _, _, _, rfl, rfl⟩)
      · skip
        (first | have e71 := of_decide_eq_true c71 | have e71 := of_decide_eq_false c71 | have e71 := ndec_t c71 | have e71 := ndec_f c71 | skip)
        have hok : ok = true := by simpa using c71
        subst hok
        (repeat refine J.seq ?_)
        refine J.region ?_
        refine WL.yes (by rfl) (Ex.q (q_move (by rfl)) (by rfl) ?_)
        refine WL.yes (by rfl) (Ex.q (q_nilCheck (by rfl) (by rfl)) (by rfl) ?_)
        first | (refine WL.yes (by rfl) (Ex.q (q_fieldAddr (by rfl)) (by rfl) ?_)) | (refine WL.yes (by rfl) (Ex.q (q_fieldAddr_rop (by rfl) (by rfl)) (by rfl) ?_)) | (refine WL.yes (by rfl) (Ex.q (q_fieldAddr_pel (by rfl)) (by rfl) ?_))
        first | (refine WL.yes (by rfl) (Ex.q (q_fieldAddr (by rfl)) (by rfl) ?_)) | (refine WL.yes (by rfl) (Ex.q (q_fieldAddr_rop (by rfl) (by rfl)) (by rfl) ?_)) | (refine WL.yes (by rfl) (Ex.q (q_fieldAddr_pel (by rfl)) (by rfl) ?_))
        first | (refine WL.yes (by rfl) (Ex.h (h_load (by rfl) (by rfl) (by rfl)) (by rfl) ?_)) | (refine WL.yes (by rfl) (Ex.q (q_load (by rfl) (by rfl) (by rfl)) (by rfl) ?_)) | (refine WL.yes (by rfl) (Ex.q (q_load_rop (by rfl) (by rfl)) (by rfl) ?_)) | (refine WL.yes (by rfl) (Ex.h (h_load_pel (by rfl) (by rfl) ?_ (by rfl)) (by rfl) ?_); (· (omega))) | (refine WL.yes (by rfl) (Ex.q (q_load_pel (by rfl) (by rfl) ?_ (by rfl)) (by rfl) ?_); (· (omega)))
        first | (refine WL.yes (by rfl) (Ex.q (q_int (by rfl) (by rfl) (by rfl)) (by rfl) ?_)) | (refine WL.yes (by rfl) (Ex.q (q_eqb (by rfl) (by rfl)) (by rfl) ?_)) | (refine WL.yes (by rfl) (Ex.q (q_eqp rfl rfl (by rfl) (by rfl) ?_) (by rfl) ?_); (· (rfl))) | (refine WL.yes (by rfl) (Ex.q (q_eqs (by rfl) (by rfl)) (by rfl) ?_))
        refine WL.yes (by rfl) (Ex.q (q_assign (by rfl)) (by rfl) ?_)
        refine WL.nil ?_
        (repeat refine J.seq ?_)
        refine J.cond (by rfl) (fun c87 => ?_) (fun c87 => ?_)
        · skip
          (first | have e87 := of_decide_eq_true c87 | have e87 := of_decide_eq_false c87 | have e87 := ndec_t c87 | have e87 := ndec_f c87 | skip)
          (repeat refine J.seq ?_)
          refine J.draw [7, 8, 3051, 3052, 3053, 3060] 9999 [(0, true), (1, true), (2, true), (3, true), (4, true), (5, false), (6, true)] (by kernel_rfl) rfl (by kernel_rfl) ?_
          intro F3 hF3
          refine WS.take rfl (by rfl) (by rfl) (q_move (by rfl)) ?_
          refine WS.take rfl (by rfl) (by rfl) (q_nilCheck (by rfl) (by rfl)) ?_
          first | (refine WS.take rfl (by rfl) (by rfl) (q_fieldAddr (by rfl)) ?_) | (refine WS.take rfl (by rfl) (by rfl) (q_fieldAddr_rop (by rfl) (by rfl)) ?_) | (refine WS.take rfl (by rfl) (by rfl) (q_fieldAddr_pel (by rfl)) ?_)
          first | (refine WS.take rfl (by rfl) (by rfl) (q_load (by rfl) (by rfl) (by rfl)) ?_) | (refine WS.take rfl (by rfl) (by rfl) (q_load_rop (by rfl) (by rfl)) ?_) | (refine WS.take rfl (by rfl) (by rfl) (q_load_pel (by rfl) (by rfl) ?_ (by rfl)) ?_; (· (omega)))
          first | (refine WS.take rfl (by rfl) (by rfl) (q_load (by rfl) (by rfl) (by rfl)) ?_) | (refine WS.take rfl (by rfl) (by rfl) (q_load_rop (by rfl) (by rfl)) ?_) | (refine WS.take rfl (by rfl) (by rfl) (q_load_pel (by rfl) (by rfl) ?_ (by rfl)) ?_; (· (omega)))
          refine WS.ex rfl (by rfl) (Ex.callqz (find_spec (l := s.H) (p := s.wo.e.p) ?_ ?_ ?_) (by rfl) (by rfl) (.cons (.sla (by rfl)) (.cons (.same _) .nil)) (fun _ => trivial) ?_); (· (omega)); (· (exact hs.h.ok)); (· (exact hs.o.1))
          refine WS.take rfl (by rfl) (by rfl) (q_assign (by rfl)) ?_
          refine WS.nil ?_
          (repeat refine J.seq ?_)
          obtain ⟨k0, hk0, hk1, hk4⟩ := fnd_ge (p := s.wo.e.p) (l := s.H) (of_decide_eq_true (fnd_has.trans (hs.r hy e87)))
          refine J.veccap (t := 3051) rfl (fun hcap1 => ?_)
          rw [hk0]
          refine J.draw [7, 8, 3051, 3052, 3053, 3060] 19 [(0, true), (2, true), (3, true), (4, true), (5, true), (6, true), (7, true), (9, true), (10, true), (11, true), (12, true), (13, true), (14, true), (15, true), (1, false), (8, false), (16, false), (17, true), (18, true), (19, false)] (by kernel_rfl) rfl (by kernel_rfl) ?_
          intro F4 hF4
          refine WS.take rfl (by rfl) (by rfl) (q_move (by rfl)) ?_
          refine WS.take rfl (by rfl) (by rfl) (q_move (by rfl)) ?_
          refine WS.take rfl (by rfl) (by rfl) (q_nilCheck (by rfl) (by rfl)) ?_
          first | (refine WS.take rfl (by rfl) (by rfl) (q_fieldAddr (by rfl)) ?_) | (refine WS.take rfl (by rfl) (by rfl) (q_fieldAddr_rop (by rfl) (by rfl)) ?_) | (refine WS.take rfl (by rfl) (by rfl) (q_fieldAddr_pel (by rfl)) ?_)
          first | (refine WS.take rfl (by rfl) (by rfl) (q_load (by rfl) (by rfl) (by rfl)) ?_) | (refine WS.take rfl (by rfl) (by rfl) (q_load_rop (by rfl) (by rfl)) ?_) | (refine WS.take rfl (by rfl) (by rfl) (q_load_pel (by rfl) (by rfl) ?_ (by rfl)) ?_; (· (omega)))
          refine WS.take rfl (by rfl) (by rfl) (q_move (by rfl)) ?_
          first | (refine WS.take rfl (by rfl) (by rfl) (q_slice_arr (by rfl) (by rfl) (by rfl) ?_ ?_ ?_) ?_; (· (omega)); (· (omega)); (· (omega))) | (refine WS.take rfl (by rfl) (by rfl) (q_slice_ros (by rfl) (by intro _; rfl) (by rfl) (by rfl) ?_ ?_ ?_) ?_; (· (omega)); (· (omega)); (· (omega))) | (refine WS.take rfl (by rfl) (by rfl) (q_slice_sl (by rfl) (by rfl) (by rfl) ?_ ?_ ?_) ?_; (· (omega)); (· (omega)); (· (omega))) | (refine WS.take rfl (by rfl) (by rfl) (q_slice_sla (by rfl) (by rfl) (Nat.le_refl _) (by rfl) (by rfl) ?_ ?_ ?_) ?_; (· (omega)); (· (omega)); (· (omega)))
          refine WS.take rfl (by rfl) (by rfl) (q_move (by rfl)) ?_
          refine WS.take rfl (by rfl) (by rfl) (q_nilCheck (by rfl) (by rfl)) ?_
          first | (refine WS.take rfl (by rfl) (by rfl) (q_fieldAddr (by rfl)) ?_) | (refine WS.take rfl (by rfl) (by rfl) (q_fieldAddr_rop (by rfl) (by rfl)) ?_) | (refine WS.take rfl (by rfl) (by rfl) (q_fieldAddr_pel (by rfl)) ?_)
          first | (refine WS.take rfl (by rfl) (by rfl) (q_load (by rfl) (by rfl) (by rfl)) ?_) | (refine WS.take rfl (by rfl) (by rfl) (q_load_rop (by rfl) (by rfl)) ?_) | (refine WS.take rfl (by rfl) (by rfl) (q_load_pel (by rfl) (by rfl) ?_ (by rfl)) ?_; (· (omega)))
          refine WS.take rfl (by rfl) (by rfl) (q_move (by rfl)) ?_
          refine WS.take rfl (by rfl) (by rfl) (q_int (by rfl) (by rfl) (by rfl)) ?_
          refine WS.set 114 (iV ((k0 + 1 : Nat) : Int)) (by rfl) (congrArg iV (w64_nat (by omega)).symm) ?_
          first | (refine WS.take rfl (by rfl) (by rfl) (q_slice_arr (by rfl) (by rfl) (by rfl) ?_ ?_ ?_) ?_; (· (omega)); (· (omega)); (· (omega))) | (refine WS.take rfl (by rfl) (by rfl) (q_slice_ros (by rfl) (by intro _; rfl) (by rfl) (by rfl) ?_ ?_ ?_) ?_; (· (omega)); (· (omega)); (· (omega))) | (refine WS.take rfl (by rfl) (by rfl) (q_slice_sl (by rfl) (by rfl) (by rfl) ?_ ?_ ?_) ?_; (· (omega)); (· (omega)); (· (omega))) | (refine WS.take rfl (by rfl) (by rfl) (q_slice_sla (by rfl) (by rfl) (Nat.le_refl _) (by rfl) (by rfl) ?_ ?_ ?_) ?_; (· (omega)); (· (omega)); (· (omega)))
          refine WS.ex rfl (by rfl) (Ex.buildSlice (parts := []) (us := []) (by rfl) (by rfl) rfl (by rfl) (by rfl) ?_)
          intro b101
          refine WS.ex rfl (by rfl) (Ex.append0 enE (l' := s.H.take k0) (by rfl) (by rfl) (by rfl) (by rfl) (Rd.subR _ (by rfl) ?_ ?_) ?_ ?_); (· (exact take_in (by omega))); (· (exact take_sl)); (· (simp; omega))
          intro a108 cap108
          refine WS.ex rfl (by rfl) (Ex.append (e := enE) (l := (s.H.take k0)) (l' := s.H.drop (k0 + 1)) (by rfl) (by rfl) (by rfl) (by rfl) (Rd.subR _ (by rfl) ?_ ?_) ?_ ?_); (· (exact drop_in hcap1 (by omega))); (· (exact drop_sl hcap1 (by omega))); (· (simp; omega))
          intro a116 cap116
          refine WS.take rfl (by rfl) (by rfl) (q_nilCheck (by rfl) (by rfl)) ?_
          first | (refine WS.take rfl (by rfl) (by rfl) (q_fieldAddr (by rfl)) ?_) | (refine WS.take rfl (by rfl) (by rfl) (q_fieldAddr_rop (by rfl) (by rfl)) ?_) | (refine WS.take rfl (by rfl) (by rfl) (q_fieldAddr_pel (by rfl)) ?_)
          first | (refine WS.last rfl (by rfl) (by rfl) (Ex.store (by rfl) (by rfl) (by rfl) (by rfl) (by rfl) (by rfl) ?_)) | (refine WS.last rfl (by rfl) (by rfl) (Ex.store_pel (by rfl) (by rfl) (by rfl) (by rfl) (by rfl) ?_ (by rfl) ?_); (· (omega)))
          (repeat refine J.seq ?_)
          refine J.region ?_
          refine WL.yes (by rfl) (Ex.q (q_assign (by rfl)) (by rfl) ?_)
          refine WL.nil ?_
          (repeat refine J.seq ?_)
          refine J.ret ?_
          (repeat (with_reducible first | refine Kseq.ret ?_ | refine Kblock.ret ?_ | refine Kloop.ret ?_ | refine Kcut.ret ?_))
          first
            | (rw [reply_no hy]; exact Kret.mk (RO5 wb _ hc _ wc _ fc s) (.tmp (by rfl) .nil) (by rfl) trivial (HLe.sub (.cons (s := 3060) rfl (CLe.refl _ _) rfl (.cons (s := 3051) rfl (CLe.refl _ _) rfl (.cons (s := 3052) rfl (CLe.refl _ _) rfl (.cons (s := 3053) rfl (CLe.refl _ _) rfl .nil))))) ⟨_, _, _, _, rfl, rfl⟩)
            | (rw [reply_fail hy]; exact Kret.mk (RO5 wb _ hc _ wc a84 cap84 { s with busy := false, F := adel s.wo.e.p s.F ++ [(s.wo.e.p, now + 1000)] }) (.tmp (by rfl) .nil) (by rfl) trivial (HLe.sub (.cons (s := 3060) rfl (CLe.cells (by cases a84 <;> rfl) (fun _ => rfl) (fun _ => ⟨trivial, trivial, trivial, VOk_op, trivial⟩)) rfl (.cons (s := 3051) rfl (CLe.refl _ _) rfl (.cons (s := 3052) rfl (CLe.refl _ _) rfl (.cons (s := 84) rfl (CLe.refl _ _) rfl .nil))))) ⟨_, _, _, _, rfl, rfl⟩)
            | (rw [reply_rem hy e87]; exact Kret.mk (RO5 wb a116 cap116 _ wc a8 c8 { s with busy := false, F := adel s.wo.e.p s.F, H := tdel s.wo.e.p s.H }) (.tmp (by rfl) .nil) (by rfl) trivial (HLe.sub (.cons (s := 3060) rfl (CLe.cells (by rw [← tdel_at hs.h hk1 hk4]; cases a116 <;> cases a8 <;> rfl) (fun _ => rfl) (fun _ => ⟨trivial, trivial, trivial, VOk_op, trivial⟩)) rfl (.cons (s := 116) rfl (by rw [← tdel_at hs.h hk1 hk4]; exact CLe.refl _ _) rfl (.cons (s := 3052) rfl (CLe.refl _ _) rfl (.cons (s := 8) rfl (CLe.refl _ _) rfl .nil))))) ⟨_, _, _, _, rfl, rfl⟩)
            | (rw [reply_put hy e87]; exact Kret.mk (RO5 wb a68 cap68 _ wc a8 c8 { s with busy := false, F := adel s.wo.e.p s.F, H := tput s.wo.e s.H }) (.tmp (by rfl) .nil) (by rfl) trivial (HLe.sub (.cons (s := 3060) rfl (CLe.cells (by cases a68 <;> cases a8 <;> rfl) (fun _ => rfl) (fun _ => ⟨trivial, trivial, trivial, VOk_op, trivial⟩)) rfl (.cons (s := 2044) rfl (CLe.refl _ _) rfl (.cons (s := 3052) rfl (CLe.refl _ _) rfl (.cons (s := 8) rfl (CLe.refl _ _) rfl .nil))))) ⟨_, _, _, _, rfl, rfl⟩)
        · skip
          (first | have e87 := of_decide_eq_true c87 | have e87 := of_decide_eq_false c87 | have e87 := ndec_t c87 | have e87 := ndec_f c87 | skip)
          (repeat refine J.seq ?_)
          refine J.draw [7, 8, 3051, 3052, 3053, 3060] 13 [(0, true), (1, true), (2, true), (3, true), (4, true), (5, true), (6, true), (7, true), (8, true), (9, true), (10, false), (11, true), (12, true), (13, false)] (by kernel_rfl) rfl (by kernel_rfl) ?_
          intro F5 hF5
          refine WS.take rfl (by rfl) (by rfl) (q_move (by rfl)) ?_
          refine WS.take rfl (by rfl) (by rfl) (q_move (by rfl)) ?_
          refine WS.take rfl (by rfl) (by rfl) (q_nilCheck (by rfl) (by rfl)) ?_
          first | (refine WS.take rfl (by rfl) (by rfl) (q_fieldAddr (by rfl)) ?_) | (refine WS.take rfl (by rfl) (by rfl) (q_fieldAddr_rop (by rfl) (by rfl)) ?_) | (refine WS.take rfl (by rfl) (by rfl) (q_fieldAddr_pel (by rfl)) ?_)
          first | (refine WS.take rfl (by rfl) (by rfl) (q_load (by rfl) (by rfl) (by rfl)) ?_) | (refine WS.take rfl (by rfl) (by rfl) (q_load_rop (by rfl) (by rfl)) ?_) | (refine WS.take rfl (by rfl) (by rfl) (q_load_pel (by rfl) (by rfl) ?_ (by rfl)) ?_; (· (omega)))
          refine WS.take rfl (by rfl) (by rfl) (q_move (by rfl)) ?_
          refine WS.take rfl (by rfl) (by rfl) (q_nilCheck (by rfl) (by rfl)) ?_
          first | (refine WS.take rfl (by rfl) (by rfl) (q_fieldAddr (by rfl)) ?_) | (refine WS.take rfl (by rfl) (by rfl) (q_fieldAddr_rop (by rfl) (by rfl)) ?_) | (refine WS.take rfl (by rfl) (by rfl) (q_fieldAddr_pel (by rfl)) ?_)
          first | (refine WS.take rfl (by rfl) (by rfl) (q_fieldAddr (by rfl)) ?_) | (refine WS.take rfl (by rfl) (by rfl) (q_fieldAddr_rop (by rfl) (by rfl)) ?_) | (refine WS.take rfl (by rfl) (by rfl) (q_fieldAddr_pel (by rfl)) ?_)
          first | (refine WS.take rfl (by rfl) (by rfl) (q_load (by rfl) (by rfl) (by rfl)) ?_) | (refine WS.take rfl (by rfl) (by rfl) (q_load_rop (by rfl) (by rfl)) ?_) | (refine WS.take rfl (by rfl) (by rfl) (q_load_pel (by rfl) (by rfl) ?_ (by rfl)) ?_; (· (omega)))
          refine WS.ex rfl (by rfl) (Ex.callz _ [] [] (put_spec (l := s.H) (e := s.wo.e) ?_ ?_ ?_) (by rfl) (by rfl) (.cons (.sla (by rfl)) (.cons (.same _) .nil)) (fun t c hg => by simp [get] at hg) plain_put ?_); (· (omega)); (· (exact hs.h)); (· (exact hs.o))
          rintro _ _ ⟨a68, cap68, rfl, rfl⟩
          refine WS.take rfl (by rfl) (by rfl) (q_nilCheck (by rfl) (by rfl)) ?_
          first | (refine WS.take rfl (by rfl) (by rfl) (q_fieldAddr (by rfl)) ?_) | (refine WS.take rfl (by rfl) (by rfl) (q_fieldAddr_rop (by rfl) (by rfl)) ?_) | (refine WS.take rfl (by rfl) (by rfl) (q_fieldAddr_pel (by rfl)) ?_)
          first | (refine WS.last rfl (by rfl) (by rfl) (Ex.store (by rfl) (by rfl) (by rfl) (by rfl) (by rfl) (by rfl) ?_)) | (refine WS.last rfl (by rfl) (by rfl) (Ex.store_pel (by rfl) (by rfl) (by rfl) (by rfl) (by rfl) ?_ (by rfl) ?_); (· (omega)))
          (repeat refine J.seq ?_)
          refine J.region ?_
          refine WL.yes (by rfl) (Ex.q (q_assign (by rfl)) (by rfl) ?_)
          refine WL.nil ?_
          (repeat refine J.seq ?_)
          refine J.ret ?_
          (repeat (with_reducible first | refine Kseq.ret ?_ | refine Kblock.ret ?_ | refine Kloop.ret ?_ | refine Kcut.ret ?_))
          first
            | (rw [reply_no hy]; exact Kret.mk (RO5 wb _ hc _ wc _ fc s) (.tmp (by rfl) .nil) (by rfl) trivial (HLe.sub (.cons (s := 3060) rfl (CLe.refl _ _) rfl (.cons (s := 3051) rfl (CLe.refl _ _) rfl (.cons (s := 3052) rfl (CLe.refl _ _) rfl (.cons (s := 3053) rfl (CLe.refl _ _) rfl .nil))))) ⟨_, _, _, _, rfl, rfl⟩)
            | (rw [reply_fail hy]; exact Kret.mk (RO5 wb _ hc _ wc a84 cap84 { s with busy := false, F := adel s.wo.e.p s.F ++ [(s.wo.e.p, now + 1000)] }) (.tmp (by rfl) .nil) (by rfl) trivial (HLe.sub (.cons (s := 3060) rfl (CLe.cells (by cases a84 <;> rfl) (fun _ => rfl) (fun _ => ⟨trivial, trivial, trivial, VOk_op, trivial⟩)) rfl (.cons (s := 3051) rfl (CLe.refl _ _) rfl (.cons (s := 3052) rfl (CLe.refl _ _) rfl (.cons (s := 84) rfl (CLe.refl _ _) rfl .nil))))) ⟨_, _, _, _, rfl, rfl⟩)
            | (rw [reply_rem hy e87]; exact Kret.mk (RO5 wb a116 cap116 _ wc a8 c8 { s with busy := false, F := adel s.wo.e.p s.F, H := tdel s.wo.e.p s.H }) (.tmp (by rfl) .nil) (by rfl) trivial (HLe.sub (.cons (s := 3060) rfl (CLe.cells (by rw [← tdel_at hs.h hk1 hk4]; cases a116 <;> cases a8 <;> rfl) (fun _ => rfl) (fun _ => ⟨trivial, trivial, trivial, VOk_op, trivial⟩)) rfl (.cons (s := 116) rfl (by rw [← tdel_at hs.h hk1 hk4]; exact CLe.refl _ _) rfl (.cons (s := 3052) rfl (CLe.refl _ _) rfl (.cons (s := 8) rfl (CLe.refl _ _) rfl .nil))))) ⟨_, _, _, _, rfl, rfl⟩)
            | (rw [reply_put hy e87]; exact Kret.mk (RO5 wb a68 cap68 _ wc a8 c8 { s with busy := false, F := adel s.wo.e.p s.F, H := tput s.wo.e s.H }) (.tmp (by rfl) .nil) (by rfl) trivial (HLe.sub (.cons (s := 3060) rfl (CLe.cells (by cases a68 <;> cases a8 <;> rfl) (fun _ => rfl) (fun _ => ⟨trivial, trivial, trivial, VOk_op, trivial⟩)) rfl (.cons (s := 2044) rfl (CLe.refl _ _) rfl (.cons (s := 3052) rfl (CLe.refl _ _) rfl (.cons (s := 8) rfl (CLe.refl _ _) rfl .nil))))) ⟨_, _, _, _, rfl, rfl⟩)

set_option maxHeartbeats 16000000 in
set_option maxRecDepth 100000 in
theorem rfDrained_spec (wb : Nat) (ha : Option Nat) (hc : Nat) (wa : Option Nat) (wc : Nat) (fa : Option Nat) (fc : Nat) {s : FS} (hs : FOk s) : Spec Try.prog 40 [.ptr 3060 wb 0] [(3060, .box wb 62 (rfV ha hc wa wc fa fc s)), (3051, lvec ha 37 51 hc enE s.H), (3052, lvec wa 37 51 wc enE s.W), (3053, lvec fa 108 35 fc waE s.F)] (fun r H' => r = .bool s.drained ∧ H' = RO5 wb ha hc wa wc fa fc s) := by
  refine Spec.of_J Try.func40 rfl Try.ntmps40 Try.results40 rfl ?_
  intro A F hAF
  (repeat refine J.seq ?_)
  refine J.region ?_
  refine WL.yes (by rfl) (Ex.q (q_assign (by rfl)) (by rfl) ?_)
  refine WL.nil ?_
  (repeat refine J.seq ?_)
  refine J.region ?_
  refine WL.yes (by rfl) (Ex.q (q_move (by rfl)) (by rfl) ?_)
  refine WL.yes (by rfl) (Ex.q (q_nilCheck (by rfl) (by rfl)) (by rfl) ?_)
  first | (refine WL.yes (by rfl) (Ex.q (q_fieldAddr (by rfl)) (by rfl) ?_)) | (refine WL.yes (by rfl) (Ex.q (q_fieldAddr_rop (by rfl) (by rfl)) (by rfl) ?_)) | (refine WL.yes (by rfl) (Ex.q (q_fieldAddr_pel (by rfl)) (by rfl) ?_))
  first | (refine WL.yes (by rfl) (Ex.h (h_load (by rfl) (by rfl) (by rfl)) (by rfl) ?_)) | (refine WL.yes (by rfl) (Ex.q (q_load (by rfl) (by rfl) (by rfl)) (by rfl) ?_)) | (refine WL.yes (by rfl) (Ex.q (q_load_rop (by rfl) (by rfl)) (by rfl) ?_)) | (refine WL.yes (by rfl) (Ex.h (h_load_pel (by rfl) (by rfl) ?_ (by rfl)) (by rfl) ?_); (· (omega))) | (refine WL.yes (by rfl) (Ex.q (q_load_pel (by rfl) (by rfl) ?_ (by rfl)) (by rfl) ?_); (· (omega)))
  refine WL.yes (by rfl) (Ex.q (q_not (by rfl)) (by rfl) ?_)
  refine WL.yes (by rfl) (Ex.q (q_move (by rfl)) (by rfl) ?_)
  refine WL.split 8 (by rfl) (fun g8 => ?_) (fun g8 => ?_)
  · skip
    (first | have eg8 := of_decide_eq_true g8 | have eg8 := of_decide_eq_false g8 | have eg8 := ndec_t g8 | have eg8 := ndec_f g8 | skip)
    have hy : s.busy = false := by simpa using g8
    refine WL.yes (by rfl) (Ex.q (q_move (by rfl)) (by rfl) ?_)
    refine WL.yes (by rfl) (Ex.callL (rfTodo_spec wb ha hc wa wc fa fc hs) (by rfl) (by rfl) (.cons rfl (.cons rfl (.cons rfl (.cons rfl .nil)))) ?_)
    rintro _ _ ⟨a10, cap10, rfl, rfl⟩
    first | (refine WL.yes (by rfl) (Ex.q (q_len_slice (by rfl) (by rfl)) (by rfl) ?_)) | (refine WL.yes (by rfl) (Ex.q (q_len_string (by rfl)) (by rfl) ?_))
    first | (refine WL.yes (by rfl) (Ex.q (q_int (by rfl) (by rfl) (by rfl)) (by rfl) ?_)) | (refine WL.yes (by rfl) (Ex.q (q_eqb (by rfl) (by rfl)) (by rfl) ?_)) | (refine WL.yes (by rfl) (Ex.q (q_eqp rfl rfl (by rfl) (by rfl) ?_) (by rfl) ?_); (· (rfl))) | (refine WL.yes (by rfl) (Ex.q (q_eqs (by rfl) (by rfl)) (by rfl) ?_))
    refine WL.yes (by rfl) (Ex.q (q_pick_t (by rfl) (by rfl)) (by rfl) ?_)
    refine WL.yes (by rfl) (Ex.q (q_assign (by rfl)) (by rfl) ?_)
    refine WL.nil ?_
    (repeat refine J.seq ?_)
    refine J.ret ?_
    (repeat (with_reducible first | refine Kseq.ret ?_ | refine Kblock.ret ?_ | refine Kloop.ret ?_ | refine Kcut.ret ?_))
    exact Kret.mk2 (vs := [_]) (.bool s.drained) (RO5 wb _ hc _ wc _ fc s) (.tmp (by rfl) .nil) (by rfl) trivial (by unfold FS.drained; rw [hy]; first | rfl | (simp; rfl)) (fun _ _ => trivial) (HLe.sub (.cons (s := 3060) rfl (CLe.refl _ _) rfl (.cons (s := 3051) rfl (CLe.refl _ _) rfl (.cons (s := 3052) rfl (CLe.refl _ _) rfl (.cons (s := 3053) rfl (CLe.refl _ _) rfl .nil))))) ⟨rfl, rfl⟩
  · skip
    (first | have eg8 := of_decide_eq_true g8 | have eg8 := of_decide_eq_false g8 | have eg8 := ndec_t g8 | have eg8 := ndec_f g8 | skip)
    have hy : s.busy = true := by simpa using g8
    refine WL.no (by rfl) (by rfl) ?_
    refine WL.no (by rfl) (by rfl) ?_
    refine WL.no (by rfl) (by rfl) ?_
    refine WL.no (by rfl) (by rfl) ?_
    refine WL.yes (by rfl) (Ex.q (q_pick_f (by rfl) (by rfl)) (by rfl) ?_)
    refine WL.yes (by rfl) (Ex.q (q_assign (by rfl)) (by rfl) ?_)
    refine WL.nil ?_
    (repeat refine J.seq ?_)
    refine J.ret ?_
    (repeat (with_reducible first | refine Kseq.ret ?_ | refine Kblock.ret ?_ | refine Kloop.ret ?_ | refine Kcut.ret ?_))
    exact Kret.mk2 (vs := [_]) (.bool s.drained) (RO5 wb _ hc _ wc _ fc s) (.tmp (by rfl) .nil) (by rfl) trivial (by unfold FS.drained; rw [hy]; first | rfl | (simp; rfl)) (fun _ _ => trivial) (HLe.sub (.cons (s := 3060) rfl (CLe.refl _ _) rfl (.cons (s := 3051) rfl (CLe.refl _ _) rfl (.cons (s := 3052) rfl (CLe.refl _ _) rfl (.cons (s := 3053) rfl (CLe.refl _ _) rfl .nil))))) ⟨rfl, rfl⟩

set_option maxHeartbeats 16000000 in
set_option maxRecDepth 100000 in
theorem rfAt_spec (wb : Nat) (ha : Option Nat) (hc : Nat) (wa : Option Nat) (wc : Nat) (fa : Option Nat) (fc : Nat) {s : FS} (hs : FOk s) : Spec Try.prog 38 [.ptr 3060 wb 0] [(3060, .box wb 62 (rfV ha hc wa wc fa fc s)), (3051, lvec ha 37 51 hc enE s.H), (3052, lvec wa 37 51 wc enE s.W), (3053, lvec fa 108 35 fc waE s.F)] (fun r H' => r = .tup2 (iV (s.at.getD 0)) (.bool s.at.isSome) ∧ H' = RO5 wb ha hc wa wc fa fc s) := by
  refine Spec.of_J Try.func38 rfl Try.ntmps38 Try.results38 rfl ?_
  intro A F hAF
  have htl := hs.todo_len
  (repeat refine J.seq ?_)
  refine J.region ?_
  refine WL.yes (by rfl) (Ex.q (q_assign (by rfl)) (by rfl) ?_)
  refine WL.yes (by rfl) (Ex.q (q_assign (by rfl)) (by rfl) ?_)
  refine WL.nil ?_
  (repeat refine J.seq ?_)
  refine J.region ?_
  refine WL.yes (by rfl) (Ex.q (q_assign (by rfl)) (by rfl) ?_)
  refine WL.yes (by rfl) (Ex.q (q_assign (by rfl)) (by rfl) ?_)
  refine WL.nil ?_
  (repeat refine J.seq ?_)
  refine J.region ?_
  refine WL.yes (by rfl) (Ex.q (q_move (by rfl)) (by rfl) ?_)
  refine WL.yes (by rfl) (Ex.callL (rfTodo_spec wb ha hc wa wc fa fc hs) (by rfl) (by rfl) (.cons rfl (.cons rfl (.cons rfl (.cons rfl .nil)))) ?_)
  rintro _ _ ⟨a11, cap11, rfl, rfl⟩
  refine WL.yes (by rfl) (Ex.q (q_assign (by rfl)) (by rfl) ?_)
  refine WL.nil ?_
  (repeat refine J.seq ?_)
  refine J.region ?_
  refine WL.yes (by rfl) (Ex.q (q_assign (by rfl)) (by rfl) ?_)
  refine WL.nil ?_
  (repeat refine J.seq ?_)
  refine J.block ?_
  (repeat refine J.seq ?_)
  refine J.loopP (fun x : Nat => x ≤ s.todo.length) (fun x => [(4, iV ((atL s.F (s.todo.take x)).getD 0)), (5, .bool (atL s.F (s.todo.take x)).isSome), (7, iV x)]) (fun x => []) (fun x => s.todo.length - x) (0) [(0, _), (6, _)] [(2068, _), (3051, _), (3052, _), (3053, _), (3060, _)] ⟨same rfl, same rfl, trivial⟩ ⟨same rfl, same rfl, same rfl, trivial⟩ (.cons (s := 2068) rfl (CLe.refl _ _) rfl (.cons (s := 3051) rfl (CLe.refl _ _) rfl (.cons (s := 3052) rfl (CLe.refl _ _) rfl (.cons (s := 3053) rfl (CLe.refl _ _) rfl (.cons (s := 3060) rfl (CLe.refl _ _) rfl .nil))))) ?_ ?_
  · ((try dsimp only) <;> omega)
  rintro k hx
  (try dsimp only at hx)
  (repeat refine J.seq ?_)
  refine J.region ?_
  refine WL.yes (by rfl) (Ex.q (q_move (by rfl)) (by rfl) ?_)
  refine WL.yes (by rfl) (Ex.q (q_move (by rfl)) (by rfl) ?_)
  first | (refine WL.yes (by rfl) (Ex.q (q_len_slice (by rfl) (by rfl)) (by rfl) ?_)) | (refine WL.yes (by rfl) (Ex.q (q_len_string (by rfl)) (by rfl) ?_))
  refine WL.yes (by rfl) (Ex.q (q_int (by rfl) (by rfl) (by rfl)) (by rfl) ?_)
  refine WL.nil ?_
  (repeat refine J.seq ?_)
  refine J.cond (by rfl) (fun c15 => ?_) (fun c15 => ?_)
  · skip
    (first | have e15 := of_decide_eq_true c15 | have e15 := of_decide_eq_false c15 | have e15 := ndec_t c15 | have e15 := ndec_f c15 | skip)
    (repeat refine J.seq ?_)
    refine J.skip ?_
    (repeat refine J.seq ?_)
    refine J.block ?_
    (repeat refine J.seq ?_)
    have hk2 : k < s.todo.length := by omega
    have hk3 : (lat s.todo k).e.ok := hs.todo_ok _ (lat_mem hk2)
    refine J.vecsome (t := 2068) rfl (by omega) ?_
    intro bt hbt
    subst hbt
    refine J.region ?_
    refine WL.yes (by rfl) (Ex.q (q_move (by rfl)) (by rfl) ?_)
    refine WL.yes (by rfl) (Ex.q (q_move (by rfl)) (by rfl) ?_)
    refine WL.yes (by rfl) (Ex.q (q_move (by rfl)) (by rfl) ?_)
    first | (refine WL.yes (by rfl) (Ex.q (q_indexAddr_ros (by rfl) (by rfl) (by intro _; rfl) ?_ ?_) (by rfl) ?_); (· (omega)); (· (omega))) | (refine WL.yes (by rfl) (Ex.q (q_indexAddr_sl (by rfl) (by rfl) ?_ ?_) (by rfl) ?_); (· (omega)); (· (omega))) | (refine WL.yes (by rfl) (Ex.q (q_indexAddr_arr (by rfl) (by rfl) ?_ ?_) (by rfl) ?_); (· (omega)); (· (omega)))
    first | (refine WL.yes (by rfl) (Ex.q (q_fieldAddr (by rfl)) (by rfl) ?_)) | (refine WL.yes (by rfl) (Ex.q (q_fieldAddr_rop (by rfl) (by rfl)) (by rfl) ?_)) | (refine WL.yes (by rfl) (Ex.q (q_fieldAddr_pel (by rfl)) (by rfl) ?_))
    first | (refine WL.yes (by rfl) (Ex.q (q_fieldAddr (by rfl)) (by rfl) ?_)) | (refine WL.yes (by rfl) (Ex.q (q_fieldAddr_rop (by rfl) (by rfl)) (by rfl) ?_)) | (refine WL.yes (by rfl) (Ex.q (q_fieldAddr_pel (by rfl)) (by rfl) ?_))
    first | (refine WL.yes (by rfl) (Ex.h (h_load (by rfl) (by rfl) (by rfl)) (by rfl) ?_)) | (refine WL.yes (by rfl) (Ex.q (q_load (by rfl) (by rfl) (by rfl)) (by rfl) ?_)) | (refine WL.yes (by rfl) (Ex.q (q_load_rop (by rfl) (by rfl)) (by rfl) ?_)) | (refine WL.yes (by rfl) (Ex.h (h_load_pel (by rfl) (by rfl) ?_ (by rfl)) (by rfl) ?_); (· (omega))) | (refine WL.yes (by rfl) (Ex.q (q_load_pel (by rfl) (by rfl) ?_ (by rfl)) (by rfl) ?_); (· (omega)))
    refine WL.set 25 (prE (lat s.todo k).e.p) (by rfl) (by rw [Nat.zero_add, Int.toNat_natCast]) ?_
    refine WL.yes (by rfl) (Ex.callL (rfUntil_spec wb ha hc wa wc fa fc (p := (lat s.todo k).e.p) hs hk3.1) (by rfl) (by rfl) (.cons rfl (.cons rfl (.cons rfl (.cons rfl .nil)))) ?_)
    rintro _ _ ⟨rfl, rfl⟩
    refine WL.yes (by rfl) (Ex.q (q_move (by rfl)) (by rfl) ?_)
    first | (refine WL.yes (by rfl) (Ex.q (q_extract2 (by rfl) (by rfl)) (by rfl) ?_)) | (refine WL.yes (by rfl) (Ex.q (q_extract3 (by rfl) (by rfl)) (by rfl) ?_))
    first | (refine WL.yes (by rfl) (Ex.q (q_extract2 (by rfl) (by rfl)) (by rfl) ?_)) | (refine WL.yes (by rfl) (Ex.q (q_extract3 (by rfl) (by rfl)) (by rfl) ?_))
    refine WL.yes (by rfl) (Ex.q (q_assign (by rfl)) (by rfl) ?_)
    refine WL.yes (by rfl) (Ex.q (q_assign (by rfl)) (by rfl) ?_)
    refine WL.nil ?_
    (repeat refine J.seq ?_)
    refine J.region ?_
    refine WL.yes (by rfl) (Ex.q (q_move (by rfl)) (by rfl) ?_)
    refine WL.yes (by rfl) (Ex.q (q_move (by rfl)) (by rfl) ?_)
    refine WL.split 30 (by rfl) (fun g30 => ?_) (fun g30 => ?_)
    · skip
      (first | have eg30 := of_decide_eq_true g30 | have eg30 := of_decide_eq_false g30 | have eg30 := ndec_t g30 | have eg30 := ndec_f g30 | skip)
      have h1 : (alook (lat s.todo k).e.p s.F).isSome = true := g30
      refine WL.yes (by rfl) (Ex.q (q_move (by rfl)) (by rfl) ?_)
      refine WL.yes (by rfl) (Ex.q (q_not (by rfl)) (by rfl) ?_)
      refine WL.yes (by rfl) (Ex.q (q_move (by rfl)) (by rfl) ?_)
      refine WL.split 33 (by rfl) (fun g33 => ?_) (fun g33 => ?_)
      · skip
        (first | have eg33 := of_decide_eq_true g33 | have eg33 := of_decide_eq_false g33 | have eg33 := ndec_t g33 | have eg33 := ndec_f g33 | skip)
        have h2 : (atL s.F (s.todo.take k)).isSome = false := by simpa using g33
        refine WL.no (by rfl) (by rfl) ?_
        refine WL.no (by rfl) (by rfl) ?_
        refine WL.no (by rfl) (by rfl) ?_
        refine WL.yes (by rfl) (Ex.q (q_pick_t (by rfl) (by rfl)) (by rfl) ?_)
        refine WL.yes (by rfl) (Ex.q (q_pick_t (by rfl) (by rfl)) (by rfl) ?_)
        refine WL.nil ?_
        (repeat refine J.seq ?_)
        refine J.condT (by rfl) ?_
        (repeat refine J.seq ?_)
        refine J.region ?_
        refine WL.yes (by rfl) (Ex.q (q_move (by rfl)) (by rfl) ?_)
        refine WL.yes (by rfl) (Ex.q (q_assign (by rfl)) (by rfl) ?_)
        refine WL.yes (by rfl) (Ex.q (q_assign (by rfl)) (by rfl) ?_)
        refine WL.nil ?_
        (repeat refine J.seq ?_)
        refine J.region ?_
        refine WL.yes (by rfl) (Ex.q (q_move (by rfl)) (by rfl) ?_)
        refine WL.yes (by rfl) (Ex.q (q_int (by rfl) (by rfl) (by rfl)) (by rfl) ?_)
        refine WL.yes (by rfl) (Ex.q (q_assign (by rfl)) (by rfl) ?_)
        refine WL.nil ?_
        first | ((have hs1 := atS_step hk2; rw [as1_no h1] at hs1); refine Kloop.nextP (k + 1) ?_ ?_ ⟨same (by rw [hs1]; rfl), same (by rw [hs1]; rfl), same (by rw [← w64_nat (k := k) (by omega)]; rfl), trivial⟩ ⟨same rfl, same rfl, trivial⟩ (.cons (s := 2068) rfl (CLe.refl _ _) rfl (.cons (s := 3051) rfl (CLe.refl _ _) rfl (.cons (s := 3052) rfl (CLe.refl _ _) rfl (.cons (s := 3053) rfl (CLe.refl _ _) rfl (.cons (s := 3060) rfl (CLe.refl _ _) rfl .nil))))); (· ((try dsimp only) <;> omega)); (· ((try dsimp only) <;> omega))) | ((have hs1 := atS_step hk2; rw [as1_first h1 h2] at hs1); refine Kloop.nextP (k + 1) ?_ ?_ ⟨same (by rw [hs1]; rfl), same (by rw [hs1]; rfl), same (by rw [← w64_nat (k := k) (by omega)]; rfl), trivial⟩ ⟨same rfl, same rfl, trivial⟩ (.cons (s := 2068) rfl (CLe.refl _ _) rfl (.cons (s := 3051) rfl (CLe.refl _ _) rfl (.cons (s := 3052) rfl (CLe.refl _ _) rfl (.cons (s := 3053) rfl (CLe.refl _ _) rfl (.cons (s := 3060) rfl (CLe.refl _ _) rfl .nil))))); (· ((try dsimp only) <;> omega)); (· ((try dsimp only) <;> omega))) | ((have hs1 := atS_step hk2; rw [as1_less h1 h2 e38] at hs1); refine Kloop.nextP (k + 1) ?_ ?_ ⟨same (by rw [hs1]; rfl), same (by rw [hs1]; rfl), same (by rw [← w64_nat (k := k) (by omega)]; rfl), trivial⟩ ⟨same rfl, same rfl, trivial⟩ (.cons (s := 2068) rfl (CLe.refl _ _) rfl (.cons (s := 3051) rfl (CLe.refl _ _) rfl (.cons (s := 3052) rfl (CLe.refl _ _) rfl (.cons (s := 3053) rfl (CLe.refl _ _) rfl (.cons (s := 3060) rfl (CLe.refl _ _) rfl .nil))))); (· ((try dsimp only) <;> omega)); (· ((try dsimp only) <;> omega))) | ((have hs1 := atS_step hk2; rw [as1_more h1 h2 e38] at hs1); refine Kloop.nextP (k + 1) ?_ ?_ ⟨same (by rw [hs1]; rfl), same (by rw [hs1]; rfl), same (by rw [← w64_nat (k := k) (by omega)]; rfl), trivial⟩ ⟨same rfl, same rfl, trivial⟩ (.cons (s := 2068) rfl (CLe.refl _ _) rfl (.cons (s := 3051) rfl (CLe.refl _ _) rfl (.cons (s := 3052) rfl (CLe.refl _ _) rfl (.cons (s := 3053) rfl (CLe.refl _ _) rfl (.cons (s := 3060) rfl (CLe.refl _ _) rfl .nil))))); (· ((try dsimp only) <;> omega)); (· ((try dsimp only) <;> omega)))
      · skip
        (first | have eg33 := of_decide_eq_true g33 | have eg33 := of_decide_eq_false g33 | have eg33 := ndec_t g33 | have eg33 := ndec_f g33 | skip)
        have h2 : (atL s.F (s.todo.take k)).isSome = true := by simpa using g33
        refine WL.yes (by rfl) (Ex.q (q_move (by rfl)) (by rfl) ?_)
        refine WL.yes (by rfl) (Ex.q (q_move (by rfl)) (by rfl) ?_)
        refine WL.yes (by rfl) (Ex.q (q_int (by rfl) (by rfl) (by rfl)) (by rfl) ?_)
        refine WL.yes (by rfl) (Ex.q (q_pick_f (by rfl) (by rfl)) (by rfl) ?_)
        refine WL.yes (by rfl) (Ex.q (q_pick_t (by rfl) (by rfl)) (by rfl) ?_)
        refine WL.nil ?_
        (repeat refine J.seq ?_)
        refine J.cond (by rfl) (fun c38 => ?_) (fun c38 => ?_)
        · skip
          (first | have e38 := of_decide_eq_true c38 | have e38 := of_decide_eq_false c38 | have e38 := ndec_t c38 | have e38 := ndec_f c38 | skip)
          (repeat refine J.seq ?_)
          refine J.region ?_
          refine WL.yes (by rfl) (Ex.q (q_move (by rfl)) (by rfl) ?_)
          refine WL.yes (by rfl) (Ex.q (q_assign (by rfl)) (by rfl) ?_)
          refine WL.yes (by rfl) (Ex.q (q_assign (by rfl)) (by rfl) ?_)
          refine WL.nil ?_
          (repeat refine J.seq ?_)
          refine J.region ?_
          refine WL.yes (by rfl) (Ex.q (q_move (by rfl)) (by rfl) ?_)
          refine WL.yes (by rfl) (Ex.q (q_int (by rfl) (by rfl) (by rfl)) (by rfl) ?_)
          refine WL.yes (by rfl) (Ex.q (q_assign (by rfl)) (by rfl) ?_)
          refine WL.nil ?_
          first | ((have hs1 := atS_step hk2; rw [as1_no h1] at hs1); refine Kloop.nextP (k + 1) ?_ ?_ ⟨same (by rw [hs1]; rfl), same (by rw [hs1]; rfl), same (by rw [← w64_nat (k := k) (by omega)]; rfl), trivial⟩ ⟨same rfl, same rfl, trivial⟩ (.cons (s := 2068) rfl (CLe.refl _ _) rfl (.cons (s := 3051) rfl (CLe.refl _ _) rfl (.cons (s := 3052) rfl (CLe.refl _ _) rfl (.cons (s := 3053) rfl (CLe.refl _ _) rfl (.cons (s := 3060) rfl (CLe.refl _ _) rfl .nil))))); (· ((try dsimp only) <;> omega)); (· ((try dsimp only) <;> omega))) | ((have hs1 := atS_step hk2; rw [as1_first h1 h2] at hs1); refine Kloop.nextP (k + 1) ?_ ?_ ⟨same (by rw [hs1]; rfl), same (by rw [hs1]; rfl), same (by rw [← w64_nat (k := k) (by omega)]; rfl), trivial⟩ ⟨same rfl, same rfl, trivial⟩ (.cons (s := 2068) rfl (CLe.refl _ _) rfl (.cons (s := 3051) rfl (CLe.refl _ _) rfl (.cons (s := 3052) rfl (CLe.refl _ _) rfl (.cons (s := 3053) rfl (CLe.refl _ _) rfl (.cons (s := 3060) rfl (CLe.refl _ _) rfl .nil))))); (· ((try dsimp only) <;> omega)); (· ((try dsimp only) <;> omega))) | ((have hs1 := atS_step hk2; rw [as1_less h1 h2 e38] at hs1); refine Kloop.nextP (k + 1) ?_ ?_ ⟨same (by rw [hs1]; rfl), same (by rw [hs1]; rfl), same (by rw [← w64_nat (k := k) (by omega)]; rfl), trivial⟩ ⟨same rfl, same rfl, trivial⟩ (.cons (s := 2068) rfl (CLe.refl _ _) rfl (.cons (s := 3051) rfl (CLe.refl _ _) rfl (.cons (s := 3052) rfl (CLe.refl _ _) rfl (.cons (s := 3053) rfl (CLe.refl _ _) rfl (.cons (s := 3060) rfl (CLe.refl _ _) rfl .nil))))); (· ((try dsimp only) <;> omega)); (· ((try dsimp only) <;> omega))) | ((have hs1 := atS_step hk2; rw [as1_more h1 h2 e38] at hs1); refine Kloop.nextP (k + 1) ?_ ?_ ⟨same (by rw [hs1]; rfl), same (by rw [hs1]; rfl), same (by rw [← w64_nat (k := k) (by omega)]; rfl), trivial⟩ ⟨same rfl, same rfl, trivial⟩ (.cons (s := 2068) rfl (CLe.refl _ _) rfl (.cons (s := 3051) rfl (CLe.refl _ _) rfl (.cons (s := 3052) rfl (CLe.refl _ _) rfl (.cons (s := 3053) rfl (CLe.refl _ _) rfl (.cons (s := 3060) rfl (CLe.refl _ _) rfl .nil))))); (· ((try dsimp only) <;> omega)); (· ((try dsimp only) <;> omega)))
        · skip
          (first | have e38 := of_decide_eq_true c38 | have e38 := of_decide_eq_false c38 | have e38 := ndec_t c38 | have e38 := ndec_f c38 | skip)
          (repeat refine J.seq ?_)
          refine J.skip ?_
          (repeat refine J.seq ?_)
          refine J.region ?_
          refine WL.yes (by rfl) (Ex.q (q_move (by rfl)) (by rfl) ?_)
          refine WL.yes (by rfl) (Ex.q (q_int (by rfl) (by rfl) (by rfl)) (by rfl) ?_)
          refine WL.yes (by rfl) (Ex.q (q_assign (by rfl)) (by rfl) ?_)
          refine WL.nil ?_
          first | ((have hs1 := atS_step hk2; rw [as1_no h1] at hs1); refine Kloop.nextP (k + 1) ?_ ?_ ⟨same (by rw [hs1]; rfl), same (by rw [hs1]; rfl), same (by rw [← w64_nat (k := k) (by omega)]; rfl), trivial⟩ ⟨same rfl, same rfl, trivial⟩ (.cons (s := 2068) rfl (CLe.refl _ _) rfl (.cons (s := 3051) rfl (CLe.refl _ _) rfl (.cons (s := 3052) rfl (CLe.refl _ _) rfl (.cons (s := 3053) rfl (CLe.refl _ _) rfl (.cons (s := 3060) rfl (CLe.refl _ _) rfl .nil))))); (· ((try dsimp only) <;> omega)); (· ((try dsimp only) <;> omega))) | ((have hs1 := atS_step hk2; rw [as1_first h1 h2] at hs1); refine Kloop.nextP (k + 1) ?_ ?_ ⟨same (by rw [hs1]; rfl), same (by rw [hs1]; rfl), same (by rw [← w64_nat (k := k) (by omega)]; rfl), trivial⟩ ⟨same rfl, same rfl, trivial⟩ (.cons (s := 2068) rfl (CLe.refl _ _) rfl (.cons (s := 3051) rfl (CLe.refl _ _) rfl (.cons (s := 3052) rfl (CLe.refl _ _) rfl (.cons (s := 3053) rfl (CLe.refl _ _) rfl (.cons (s := 3060) rfl (CLe.refl _ _) rfl .nil))))); (· ((try dsimp only) <;> omega)); (· ((try dsimp only) <;> omega))) | ((have hs1 := atS_step hk2; rw [as1_less h1 h2 e38] at hs1); refine Kloop.nextP (k + 1) ?_ ?_ ⟨same (by rw [hs1]; rfl), same (by rw [hs1]; rfl), same (by rw [← w64_nat (k := k) (by omega)]; rfl), trivial⟩ ⟨same rfl, same rfl, trivial⟩ (.cons (s := 2068) rfl (CLe.refl _ _) rfl (.cons (s := 3051) rfl (CLe.refl _ _) rfl (.cons (s := 3052) rfl (CLe.refl _ _) rfl (.cons (s := 3053) rfl (CLe.refl _ _) rfl (.cons (s := 3060) rfl (CLe.refl _ _) rfl .nil))))); (· ((try dsimp only) <;> omega)); (· ((try dsimp only) <;> omega))) | ((have hs1 := atS_step hk2; rw [as1_more h1 h2 e38] at hs1); refine Kloop.nextP (k + 1) ?_ ?_ ⟨same (by rw [hs1]; rfl), same (by rw [hs1]; rfl), same (by rw [← w64_nat (k := k) (by omega)]; rfl), trivial⟩ ⟨same rfl, same rfl, trivial⟩ (.cons (s := 2068) rfl (CLe.refl _ _) rfl (.cons (s := 3051) rfl (CLe.refl _ _) rfl (.cons (s := 3052) rfl (CLe.refl _ _) rfl (.cons (s := 3053) rfl (CLe.refl _ _) rfl (.cons (s := 3060) rfl (CLe.refl _ _) rfl .nil))))); (· ((try dsimp only) <;> omega)); (· ((try dsimp only) <;> omega)))
    · skip
      (first | have eg30 := of_decide_eq_true g30 | have eg30 := of_decide_eq_false g30 | have eg30 := ndec_t g30 | have eg30 := ndec_f g30 | skip)
      have h1 : (alook (lat s.todo k).e.p s.F).isSome = false := g30
      refine WL.no (by rfl) (by rfl) ?_
      refine WL.no (by rfl) (by rfl) ?_
      refine WL.no (by rfl) (by rfl) ?_
      refine WL.no (by rfl) (by rfl) ?_
      refine WL.no (by rfl) (by rfl) ?_
      refine WL.no (by rfl) (by rfl) ?_
      refine WL.no (by rfl) (by rfl) ?_
      refine WL.yes (by rfl) (Ex.q (q_pick_f (by rfl) (by rfl)) (by rfl) ?_)
      refine WL.nil ?_
      (repeat refine J.seq ?_)
      refine J.condF (by rfl) ?_
      (repeat refine J.seq ?_)
      refine J.skip ?_
      (repeat refine J.seq ?_)
      refine J.region ?_
      refine WL.yes (by rfl) (Ex.q (q_move (by rfl)) (by rfl) ?_)
      refine WL.yes (by rfl) (Ex.q (q_int (by rfl) (by rfl) (by rfl)) (by rfl) ?_)
      refine WL.yes (by rfl) (Ex.q (q_assign (by rfl)) (by rfl) ?_)
      refine WL.nil ?_
      first | ((have hs1 := atS_step hk2; rw [as1_no h1] at hs1); refine Kloop.nextP (k + 1) ?_ ?_ ⟨same (by rw [hs1]; rfl), same (by rw [hs1]; rfl), same (by rw [← w64_nat (k := k) (by omega)]; rfl), trivial⟩ ⟨same rfl, same rfl, trivial⟩ (.cons (s := 2068) rfl (CLe.refl _ _) rfl (.cons (s := 3051) rfl (CLe.refl _ _) rfl (.cons (s := 3052) rfl (CLe.refl _ _) rfl (.cons (s := 3053) rfl (CLe.refl _ _) rfl (.cons (s := 3060) rfl (CLe.refl _ _) rfl .nil))))); (· ((try dsimp only) <;> omega)); (· ((try dsimp only) <;> omega))) | ((have hs1 := atS_step hk2; rw [as1_first h1 h2] at hs1); refine Kloop.nextP (k + 1) ?_ ?_ ⟨same (by rw [hs1]; rfl), same (by rw [hs1]; rfl), same (by rw [← w64_nat (k := k) (by omega)]; rfl), trivial⟩ ⟨same rfl, same rfl, trivial⟩ (.cons (s := 2068) rfl (CLe.refl _ _) rfl (.cons (s := 3051) rfl (CLe.refl _ _) rfl (.cons (s := 3052) rfl (CLe.refl _ _) rfl (.cons (s := 3053) rfl (CLe.refl _ _) rfl (.cons (s := 3060) rfl (CLe.refl _ _) rfl .nil))))); (· ((try dsimp only) <;> omega)); (· ((try dsimp only) <;> omega))) | ((have hs1 := atS_step hk2; rw [as1_less h1 h2 e38] at hs1); refine Kloop.nextP (k + 1) ?_ ?_ ⟨same (by rw [hs1]; rfl), same (by rw [hs1]; rfl), same (by rw [← w64_nat (k := k) (by omega)]; rfl), trivial⟩ ⟨same rfl, same rfl, trivial⟩ (.cons (s := 2068) rfl (CLe.refl _ _) rfl (.cons (s := 3051) rfl (CLe.refl _ _) rfl (.cons (s := 3052) rfl (CLe.refl _ _) rfl (.cons (s := 3053) rfl (CLe.refl _ _) rfl (.cons (s := 3060) rfl (CLe.refl _ _) rfl .nil))))); (· ((try dsimp only) <;> omega)); (· ((try dsimp only) <;> omega))) | ((have hs1 := atS_step hk2; rw [as1_more h1 h2 e38] at hs1); refine Kloop.nextP (k + 1) ?_ ?_ ⟨same (by rw [hs1]; rfl), same (by rw [hs1]; rfl), same (by rw [← w64_nat (k := k) (by omega)]; rfl), trivial⟩ ⟨same rfl, same rfl, trivial⟩ (.cons (s := 2068) rfl (CLe.refl _ _) rfl (.cons (s := 3051) rfl (CLe.refl _ _) rfl (.cons (s := 3052) rfl (CLe.refl _ _) rfl (.cons (s := 3053) rfl (CLe.refl _ _) rfl (.cons (s := 3060) rfl (CLe.refl _ _) rfl .nil))))); (· ((try dsimp only) <;> omega)); (· ((try dsimp only) <;> omega)))
  · skip
    (first | have e15 := of_decide_eq_true c15 | have e15 := of_decide_eq_false c15 | have e15 := ndec_t c15 | have e15 := ndec_f c15 | skip)
    (repeat refine J.seq ?_)
    refine J.exit ?_
    (repeat refine J.seq ?_)
    refine J.region ?_
    refine WL.yes (by rfl) (Ex.q (q_move (by rfl)) (by rfl) ?_)
    refine WL.yes (by rfl) (Ex.q (q_move (by rfl)) (by rfl) ?_)
    refine WL.yes (by rfl) (Ex.q (q_assign (by rfl)) (by rfl) ?_)
    refine WL.yes (by rfl) (Ex.q (q_assign (by rfl)) (by rfl) ?_)
    refine WL.nil ?_
    (repeat refine J.seq ?_)
    refine J.ret ?_
    (repeat (with_reducible first | refine Kseq.ret ?_ | refine Kblock.ret ?_ | refine Kloop.ret ?_ | refine Kcut.ret ?_))
    have hkn : s.todo.take k = s.todo := take_all (by omega)
    rw [hkn]
    exact Kret.mk (RO5 wb _ hc _ wc _ fc s) (.tmp (by rfl) (.tmp (by rfl) .nil)) (by rfl) trivial (HLe.sub (.cons (s := 3060) rfl (CLe.refl _ _) rfl (.cons (s := 3051) rfl (CLe.refl _ _) rfl (.cons (s := 3052) rfl (CLe.refl _ _) rfl (.cons (s := 3053) rfl (CLe.refl _ _) rfl .nil))))) ⟨rfl, rfl⟩

end Go.Vm
