/- FibMeans: the walk. -/
import Derived.Test.YtimkkhefemnkpaaP17
namespace Go.Vm
open Go Go.Proofs
theorem lat_mapP {P : List En} {j : Nat} (h : j < P.length) : lat (P.map En.p) j = (lat P j).p := by
  simp [lat, List.getD, List.getElem?_eq_getElem h]
theorem cnd_f1 {src dst : List Int} {d : Int} {e : En} (h : ¬ e.p.d.n = d) : cnd src dst d e = false := by unfold cnd; rw [decide_eq_false h]; rfl
theorem cnd_f2 {src dst : List Int} {d : Int} {e : En} (h : contains e.p.d.a e.p.d.n dst = false) : cnd src dst d e = false := by unfold cnd; rw [h]; simp
theorem cnd_f3 {src dst : List Int} {d : Int} {e : En} (h : contains e.p.s.a e.p.s.n src = false) : cnd src dst d e = false := by unfold cnd; rw [h]; simp
theorem plain_b51 {src dst : List Int} {ps : List Pr} {n : Nat} : ∀ (r : V) (H' : List (Nat × Cell)), ((∃ b ok, r = .tup2 (iV b) (.bool ok) ∧ BB src dst ps n b ok) ∧ H' = []) → Plain r H' := by
  rintro r H' ⟨⟨b, ok, rfl, _⟩, rfl⟩
  exact Plain.nil (fun _ => ⟨trivial, trivial⟩)
theorem BB.none {src dst : List Int} {P : List En} {b : Int} {ok : Bool} (h : BB src dst (P.map En.p) (P.map En.p).length b ok) (ho : ok = false) : ∀ x ∈ P, mt src dst x.p = false := by
  rcases h with ⟨_, h2⟩ | ⟨h1, _⟩
  · intro x hx
    obtain ⟨j, hj, rfl⟩ := lat_of_mem hx
    have := h2 j (by simpa using hj)
    rwa [lat_mapP hj] at this
  · rw [ho] at h1; cases h1
theorem BB.some {src dst : List Int} {P : List En} {b : Int} {ok : Bool} (h : BB src dst (P.map En.p) (P.map En.p).length b ok) (ho : ok = true) : ∃ q : Nat, b = q ∧ q < P.length ∧ mt src dst (lat P q).p = true ∧ ∀ x ∈ P, mt src dst x.p = true → ¬ pbt x.p (lat P q).p := by
  rcases h with ⟨h1, _⟩ | ⟨_, q, h2, h3, h4, h5⟩
  · rw [ho] at h1; cases h1
  · rw [List.length_map] at h3
    rw [lat_mapP h3] at h4
    refine ⟨q, h2, h3, h4, fun x hx hm => ?_⟩
    obtain ⟨j, hj, rfl⟩ := lat_of_mem hx
    have := h5 j (by simpa using hj)
    rw [lat_mapP hj, lat_mapP h3] at this
    exact this hm

set_option maxHeartbeats 16000000 in
set_option maxRecDepth 100000 in
theorem fibMeans_spec {a : Option Addr} {cap : Nat} {l : List En} {src dst : List Int} (ho : ∀ e ∈ l, e.ok) (hs : AdOk src) (hd : AdOk dst) : Spec Try.prog 11 [lros a cap enE l, adV src, adV dst] [] (fun r H' => r = .bool true ∧ H' = []) := by
  refine Spec.of_J Try.func11 rfl Try.ntmps11 Try.results11 rfl ?_
  intro A F hAF
  (repeat refine J.seq ?_)
  refine J.region ?_
  refine WL.yes (by rfl) (Ex.box (by rfl) (by rfl) (by rfl) ?_)
  intro b4
  refine WL.yes (by rfl) (Ex.box (by rfl) (by rfl) (by rfl) ?_)
  intro b5
  refine WL.yes (by rfl) (Ex.q (q_assign (by rfl)) (by rfl) ?_)
  refine WL.nil ?_
  (repeat refine J.seq ?_)
  refine J.draw [4, 5] 9999 [(0, true), (1, true), (2, true), (3, true), (4, true), (6, true), (5, false), (7, false), (8, true), (9, true)] (by kernel_rfl) rfl (by kernel_rfl) ?_
  intro F1 hF1
  refine WS.take rfl (by rfl) (by rfl) (q_move (by rfl)) ?_
  first | (refine WS.take rfl (by rfl) (by rfl) (q_len_slice (by rfl) (by rfl)) ?_) | (refine WS.take rfl (by rfl) (by rfl) (q_len_string (by rfl)) ?_)
  refine WS.take rfl (by rfl) (by rfl) (q_int (by rfl) (by rfl) (by rfl)) ?_
  refine WS.take rfl (by rfl) (by rfl) (q_move (by rfl)) ?_
  refine WS.split 22 (by rfl) (fun g22 => ?_) (fun g22 => ?_)
  · skip
    (first | have eg22 := of_decide_eq_true g22 | have eg22 := of_decide_eq_false g22 | have eg22 := ndec_t g22 | have eg22 := ndec_f g22 | skip)
    refine WS.takeNo rfl (by rfl) (by rfl) ?_
    refine WS.takeNo rfl (by rfl) (by rfl) ?_
    refine WS.takeNo rfl (by rfl) (by rfl) ?_
    refine WS.takeNo rfl (by rfl) (by rfl) ?_
    refine WS.takeNo rfl (by rfl) (by rfl) ?_
    refine WS.take rfl (by rfl) (by rfl) (q_pick_t (by rfl) (by rfl)) ?_
    refine WS.nil ?_
    (repeat refine J.seq ?_)
    refine J.condT (by rfl) ?_
    (repeat refine J.seq ?_)
    refine J.region ?_
    refine WL.yes (by rfl) (Ex.callL (live19_spec) (by rfl) (by rfl) .nil ?_)
    rintro _ _ ⟨rfl, rfl⟩
    refine WL.yes (by rfl) (Ex.q (q_assign (by rfl)) (by rfl) ?_)
    refine WL.nil ?_
    (repeat refine J.seq ?_)
    refine J.ret ?_
    (repeat (with_reducible first | refine Kseq.ret ?_ | refine Kblock.ret ?_ | refine Kloop.ret ?_ | refine Kcut.ret ?_))
    refine Kret.mk [] (.tmp (by rfl) (.nil)) (by rfl) trivial (HLe.nil _ _) ?_
    exact ⟨rfl, rfl⟩
  · skip
    (first | have eg22 := of_decide_eq_true g22 | have eg22 := of_decide_eq_false g22 | have eg22 := ndec_t g22 | have eg22 := ndec_f g22 | skip)
    have hl : l.length ≤ 24 := by omega
    first | (refine WS.take rfl (by rfl) (by rfl) (q_load (by rfl) (by rfl) (by rfl)) ?_) | (refine WS.take rfl (by rfl) (by rfl) (q_load_rop (by rfl) (by rfl)) ?_) | (refine WS.take rfl (by rfl) (by rfl) (q_load_pel (by rfl) (by rfl) ?_ (by rfl)) ?_; (· (omega)))
    first | (refine WS.take rfl (by rfl) (by rfl) (q_load (by rfl) (by rfl) (by rfl)) ?_) | (refine WS.take rfl (by rfl) (by rfl) (q_load_rop (by rfl) (by rfl)) ?_) | (refine WS.take rfl (by rfl) (by rfl) (q_load_pel (by rfl) (by rfl) ?_ (by rfl)) ?_; (· (omega)))
    refine WS.ex rfl (by rfl) (Ex.callq (famR_spec ?_) (by rfl) (by rfl) rfl (fun _ h => h) ?_); (· (exact hs))
    refine WS.ex rfl (by rfl) (Ex.callq (famR_spec ?_) (by rfl) (by rfl) rfl (fun _ h => h) ?_); (· (exact hd))
    first | (refine WS.take rfl (by rfl) (by rfl) (q_int (by rfl) (by rfl) (by rfl)) ?_) | (refine WS.take rfl (by rfl) (by rfl) (q_neb (by rfl) (by rfl)) ?_) | (refine WS.take rfl (by rfl) (by rfl) (q_nep rfl rfl (by rfl) (by rfl) ?_) ?_; (· (rfl))) | (refine WS.take rfl (by rfl) (by rfl) (q_eqs (by rfl) (by rfl)) ?_)
    refine WS.take rfl (by rfl) (by rfl) (q_pick_f (by rfl) (by rfl)) ?_
    refine WS.nil ?_
    (repeat refine J.seq ?_)
    refine J.cond (by rfl) (fun c28 => ?_) (fun c28 => ?_)
    · skip
      (first | have e28 := of_decide_eq_true c28 | have e28 := of_decide_eq_false c28 | have e28 := ndec_t c28 | have e28 := ndec_f c28 | skip)
      (repeat refine J.seq ?_)
      refine J.region ?_
      refine WL.yes (by rfl) (Ex.callL (live19_spec) (by rfl) (by rfl) .nil ?_)
      rintro _ _ ⟨rfl, rfl⟩
      refine WL.yes (by rfl) (Ex.q (q_assign (by rfl)) (by rfl) ?_)
      refine WL.nil ?_
      (repeat refine J.seq ?_)
      refine J.ret ?_
      (repeat (with_reducible first | refine Kseq.ret ?_ | refine Kblock.ret ?_ | refine Kloop.ret ?_ | refine Kcut.ret ?_))
      refine Kret.mk [] (.tmp (by rfl) (.nil)) (by rfl) trivial (HLe.nil _ _) ?_
      exact ⟨rfl, rfl⟩
    · skip
      (first | have e28 := of_decide_eq_true c28 | have e28 := of_decide_eq_false c28 | have e28 := ndec_t c28 | have e28 := ndec_f c28 | skip)
      (repeat refine J.seq ?_)
      refine J.skip ?_
      (repeat refine J.seq ?_)
      refine J.region ?_
      refine WL.yes (by rfl) (Ex.q (q_assign (by rfl)) (by rfl) ?_)
      refine WL.nil ?_
      (repeat refine J.seq ?_)
      refine J.region ?_
      refine WL.yes (by rfl) (Ex.q (q_assign (by rfl)) (by rfl) ?_)
      refine WL.nil ?_
      (repeat refine J.seq ?_)
      refine J.region ?_
      refine WL.yes (by rfl) (Ex.q (q_assign (by rfl)) (by rfl) ?_)
      refine WL.nil ?_
      (repeat refine J.seq ?_)
      refine J.block ?_
      (repeat refine J.seq ?_)
      refine J.loopP (fun x : Nat × Option Nat × Nat × Option Nat × Nat => x.1 ≤ l.length) (fun x => [(8, .sl 8 x.2.1 51 0 x.2.2.1 (mnL dst (l.take x.1)).length), (7, .sl 7 x.2.2.2.1 34 0 x.2.2.2.2 ((mnL dst (l.take x.1)).map En.p).length), (9, iV x.1)]) (fun x => [(8, lvec x.2.1 37 51 x.2.2.1 enE (mnL dst (l.take x.1))), (7, lvec x.2.2.2.1 35 34 x.2.2.2.2 prE ((mnL dst (l.take x.1)).map En.p))]) (fun x => l.length - x.1) (0, none, 0, none, 0) [(0, _), (4, _), (5, _)] [(4, _), (5, _)] ⟨same rfl, same rfl, same rfl, trivial⟩ ⟨⟨_, rfl, rfl, fun _ => trivial⟩, ⟨_, rfl, rfl, fun _ => trivial⟩, same rfl, trivial⟩ (.non (.non (.cons (s := 4) rfl (CLe.refl _ _) rfl (.cons (s := 5) rfl (CLe.refl _ _) rfl .nil)))) ?_ ?_
      · (exact Nat.zero_le _)
      rintro ⟨k, a8, c8, a7, c7⟩ hx
      (try dsimp only at hx)
      (try dsimp only)
      (repeat refine J.seq ?_)
      refine J.region ?_
      refine WL.yes (by rfl) (Ex.q (q_move (by rfl)) (by rfl) ?_)
      refine WL.yes (by rfl) (Ex.q (q_move (by rfl)) (by rfl) ?_)
      first | (refine WL.yes (by rfl) (Ex.q (q_len_slice (by rfl) (by rfl)) (by rfl) ?_)) | (refine WL.yes (by rfl) (Ex.q (q_len_string (by rfl)) (by rfl) ?_))
      refine WL.yes (by rfl) (Ex.q (q_int (by rfl) (by rfl) (by rfl)) (by rfl) ?_)
      refine WL.nil ?_
      (repeat refine J.seq ?_)
      refine J.cond (by rfl) (fun c33 => ?_) (fun c33 => ?_)
      · skip
        (first | have e33 := of_decide_eq_true c33 | have e33 := of_decide_eq_false c33 | have e33 := ndec_t c33 | have e33 := ndec_f c33 | skip)
        (repeat refine J.seq ?_)
        refine J.skip ?_
        (repeat refine J.seq ?_)
        refine J.block ?_
        (repeat refine J.seq ?_)
        have hk2 : k < l.length := by omega
        have hk3 : (lat l k).ok := lat_ok ho hk2
        have hM : MOk dst (mnL dst (l.take k)) := mnL_ok (fun x hx => ho x (List.take_subset _ _ hx))
        have hMl : (mnL dst (l.take k)).length ≤ 24 := by have := mnL_len dst (l.take k); have := List.length_take_le k l; omega
        refine J.draw [4, 5, 7, 8] 9999 [(0, true), (1, true), (2, true), (3, true), (4, true), (5, false), (6, false), (7, true), (8, true), (9, true), (10, true), (11, true), (12, true), (13, true), (14, true), (16, true), (15, false), (17, false), (18, true), (19, true), (20, true), (21, true), (22, true), (23, true), (24, true), (25, true), (26, true), (27, false), (28, true), (29, true)] (by kernel_rfl) rfl (by kernel_rfl) ?_
        intro F2 hF2
        refine WS.take rfl (by rfl) (by rfl) (q_move (by rfl)) ?_
        refine WS.take rfl (by rfl) (by rfl) (q_move (by rfl)) ?_
        first | (refine WS.take rfl (by rfl) (by rfl) (q_indexAddr_ros (by rfl) (by rfl) (by intro _; rfl) ?_ ?_) ?_; (· (omega)); (· (omega))) | (refine WS.take rfl (by rfl) (by rfl) (q_indexAddr_sl (by rfl) (by rfl) ?_ ?_) ?_; (· (omega)); (· (omega))) | (refine WS.take rfl (by rfl) (by rfl) (q_indexAddr_arr (by rfl) (by rfl) ?_ ?_) ?_; (· (omega)); (· (omega)))
        first | (refine WS.take rfl (by rfl) (by rfl) (q_fieldAddr (by rfl)) ?_) | (refine WS.take rfl (by rfl) (by rfl) (q_fieldAddr_rop (by rfl) (by rfl)) ?_) | (refine WS.take rfl (by rfl) (by rfl) (q_fieldAddr_pel (by rfl)) ?_)
        first | (refine WS.take rfl (by rfl) (by rfl) (q_load (by rfl) (by rfl) (by rfl)) ?_) | (refine WS.take rfl (by rfl) (by rfl) (q_load_rop (by rfl) (by rfl)) ?_) | (refine WS.take rfl (by rfl) (by rfl) (q_load_pel (by rfl) (by rfl) ?_ (by rfl)) ?_; (· (omega)))
        refine WS.set 40 (prE (lat l k).p) (by rfl) (by first | rfl | rw [Int.toNat_natCast] | rw [Nat.zero_add, Int.toNat_natCast]) ?_
        refine WS.ex rfl (by rfl) (Ex.callq (checkPair_spec _ _ _ _) (by rfl) (by rfl) rfl (fun _ h => h) ?_)
        refine WS.ex rfl (by rfl) (Ex.callq (fnum_spec _) (by rfl) (by rfl) rfl (fun _ h => h) ?_)
        first | (refine WS.take rfl (by rfl) (by rfl) (q_int (by rfl) (by rfl) (by rfl)) ?_) | (refine WS.take rfl (by rfl) (by rfl) (q_eqb (by rfl) (by rfl)) ?_) | (refine WS.take rfl (by rfl) (by rfl) (q_eqp rfl rfl (by rfl) (by rfl) ?_) ?_; (· (rfl))) | (refine WS.take rfl (by rfl) (by rfl) (q_eqs (by rfl) (by rfl)) ?_)
        refine WS.take rfl (by rfl) (by rfl) (q_move (by rfl)) ?_
        refine WS.split 44 (by rfl) (fun g44 => ?_) (fun g44 => ?_)
        · skip
          (first | have eg44 := of_decide_eq_true g44 | have eg44 := of_decide_eq_false g44 | have eg44 := ndec_t g44 | have eg44 := ndec_f g44 | skip)
          have h1 : okR (lat l k).p = true := okpair_of g44
          refine WS.take rfl (by rfl) (by rfl) (q_move (by rfl)) ?_
          refine WS.take rfl (by rfl) (by rfl) (q_move (by rfl)) ?_
          first | (refine WS.take rfl (by rfl) (by rfl) (q_indexAddr_ros (by rfl) (by rfl) (by intro _; rfl) ?_ ?_) ?_; (· (omega)); (· (omega))) | (refine WS.take rfl (by rfl) (by rfl) (q_indexAddr_sl (by rfl) (by rfl) ?_ ?_) ?_; (· (omega)); (· (omega))) | (refine WS.take rfl (by rfl) (by rfl) (q_indexAddr_arr (by rfl) (by rfl) ?_ ?_) ?_; (· (omega)); (· (omega)))
          first | (refine WS.take rfl (by rfl) (by rfl) (q_fieldAddr (by rfl)) ?_) | (refine WS.take rfl (by rfl) (by rfl) (q_fieldAddr_rop (by rfl) (by rfl)) ?_) | (refine WS.take rfl (by rfl) (by rfl) (q_fieldAddr_pel (by rfl)) ?_)
          first | (refine WS.take rfl (by rfl) (by rfl) (q_fieldAddr (by rfl)) ?_) | (refine WS.take rfl (by rfl) (by rfl) (q_fieldAddr_rop (by rfl) (by rfl)) ?_) | (refine WS.take rfl (by rfl) (by rfl) (q_fieldAddr_pel (by rfl)) ?_)
          first | (refine WS.take rfl (by rfl) (by rfl) (q_load (by rfl) (by rfl) (by rfl)) ?_) | (refine WS.take rfl (by rfl) (by rfl) (q_load_rop (by rfl) (by rfl)) ?_) | (refine WS.take rfl (by rfl) (by rfl) (q_load_pel (by rfl) (by rfl) ?_ (by rfl)) ?_; (· (omega)))
          refine WS.set 50 (pfE (lat l k).p.d) (by rfl) (by first | rfl | rw [Int.toNat_natCast] | rw [Nat.zero_add, Int.toNat_natCast]) ?_
          first | (refine WS.take rfl (by rfl) (by rfl) (q_load (by rfl) (by rfl) (by rfl)) ?_) | (refine WS.take rfl (by rfl) (by rfl) (q_load_rop (by rfl) (by rfl)) ?_) | (refine WS.take rfl (by rfl) (by rfl) (q_load_pel (by rfl) (by rfl) ?_ (by rfl)) ?_; (· (omega)))
          refine WS.ex rfl (by rfl) (Ex.callq (famP_spec _ _) (by rfl) (by rfl) rfl (fun _ h => h) ?_)
          refine WS.ex rfl (by rfl) (Ex.callq (famR_spec ?_) (by rfl) (by rfl) rfl (fun _ h => h) ?_); (· (exact hd))
          first | (refine WS.take rfl (by rfl) (by rfl) (q_int (by rfl) (by rfl) (by rfl)) ?_) | (refine WS.take rfl (by rfl) (by rfl) (q_eqb (by rfl) (by rfl)) ?_) | (refine WS.take rfl (by rfl) (by rfl) (q_eqp rfl rfl (by rfl) (by rfl) ?_) ?_; (· (rfl))) | (refine WS.take rfl (by rfl) (by rfl) (q_eqs (by rfl) (by rfl)) ?_)
          refine WS.take rfl (by rfl) (by rfl) (q_pick_t (by rfl) (by rfl)) ?_
          refine WS.take rfl (by rfl) (by rfl) (q_move (by rfl)) ?_
          refine WS.split 56 (by rfl) (fun g56 => ?_) (fun g56 => ?_)
          · skip
            (first | have eg56 := of_decide_eq_true g56 | have eg56 := of_decide_eq_false g56 | have eg56 := ndec_t g56 | have eg56 := ndec_f g56 | skip)
            have h2 : famP (lat l k).p.d.a (lat l k).p.d.n = famA dst := eg56
            refine WS.take rfl (by rfl) (by rfl) (q_move (by rfl)) ?_
            refine WS.take rfl (by rfl) (by rfl) (q_move (by rfl)) ?_
            refine WS.take rfl (by rfl) (by rfl) (q_move (by rfl)) ?_
            first | (refine WS.take rfl (by rfl) (by rfl) (q_indexAddr_ros (by rfl) (by rfl) (by intro _; rfl) ?_ ?_) ?_; (· (omega)); (· (omega))) | (refine WS.take rfl (by rfl) (by rfl) (q_indexAddr_sl (by rfl) (by rfl) ?_ ?_) ?_; (· (omega)); (· (omega))) | (refine WS.take rfl (by rfl) (by rfl) (q_indexAddr_arr (by rfl) (by rfl) ?_ ?_) ?_; (· (omega)); (· (omega)))
            first | (refine WS.take rfl (by rfl) (by rfl) (q_fieldAddr (by rfl)) ?_) | (refine WS.take rfl (by rfl) (by rfl) (q_fieldAddr_rop (by rfl) (by rfl)) ?_) | (refine WS.take rfl (by rfl) (by rfl) (q_fieldAddr_pel (by rfl)) ?_)
            first | (refine WS.take rfl (by rfl) (by rfl) (q_load (by rfl) (by rfl) (by rfl)) ?_) | (refine WS.take rfl (by rfl) (by rfl) (q_load_rop (by rfl) (by rfl)) ?_) | (refine WS.take rfl (by rfl) (by rfl) (q_load_pel (by rfl) (by rfl) ?_ (by rfl)) ?_; (· (omega)))
            refine WS.set 62 (prE (lat l k).p) (by rfl) (by first | rfl | rw [Int.toNat_natCast] | rw [Nat.zero_add, Int.toNat_natCast]) ?_
            refine WS.ex rfl (by rfl) (Ex.callqz (find_spec (l := (mnL dst (l.take k))) (p := (lat l k).p) ?_ ?_ ?_) (by rfl) (by rfl) (.cons (.sla (by rfl)) (.cons (.same _) .nil)) (fun _ => trivial) ?_); (· (omega)); (· (exact hM.ok)); (· (exact hk3.1))
            refine WS.take rfl (by rfl) (by rfl) (q_int (by rfl) (by rfl) (by rfl)) ?_
            refine WS.take rfl (by rfl) (by rfl) (q_pick_t (by rfl) (by rfl)) ?_
            refine WS.nil ?_
            (repeat refine J.seq ?_)
            refine J.cond (by rfl) (fun c65 => ?_) (fun c65 => ?_)
            · skip
              (first | have e65 := of_decide_eq_true c65 | have e65 := of_decide_eq_false c65 | have e65 := ndec_t c65 | have e65 := ndec_f c65 | skip)
              have hs1 : mnL dst (l.take (k + 1)) = (mnL dst (l.take k)) ++ [lat l k] := by rw [mn_step hk2]; exact mnS_yes h1 h2 e65
              (repeat refine J.seq ?_)
              refine J.region ?_
              refine WL.yes (by rfl) (Ex.q (q_move (by rfl)) (by rfl) ?_)
              refine WL.yes (by rfl) (Ex.q (q_move (by rfl)) (by rfl) ?_)
              refine WL.yes (by rfl) (Ex.q (q_move (by rfl)) (by rfl) ?_)
              first | (refine WL.yes (by rfl) (Ex.q (q_indexAddr_ros (by rfl) (by rfl) (by intro _; rfl) ?_ ?_) (by rfl) ?_); (· (omega)); (· (omega))) | (refine WL.yes (by rfl) (Ex.q (q_indexAddr_sl (by rfl) (by rfl) ?_ ?_) (by rfl) ?_); (· (omega)); (· (omega))) | (refine WL.yes (by rfl) (Ex.q (q_indexAddr_arr (by rfl) (by rfl) ?_ ?_) (by rfl) ?_); (· (omega)); (· (omega)))
              first | (refine WL.yes (by rfl) (Ex.h (h_load (by rfl) (by rfl) (by rfl)) (by rfl) ?_)) | (refine WL.yes (by rfl) (Ex.q (q_load (by rfl) (by rfl) (by rfl)) (by rfl) ?_)) | (refine WL.yes (by rfl) (Ex.q (q_load_rop (by rfl) (by rfl)) (by rfl) ?_)) | (refine WL.yes (by rfl) (Ex.h (h_load_pel (by rfl) (by rfl) ?_ (by rfl)) (by rfl) ?_); (· (omega))) | (refine WL.yes (by rfl) (Ex.q (q_load_pel (by rfl) (by rfl) ?_ (by rfl)) (by rfl) ?_); (· (omega)))
              refine WL.set 70 (enE (lat l k)) (by rfl) (by first | rfl | rw [Int.toNat_natCast] | rw [Nat.zero_add, Int.toNat_natCast]) ?_
              refine WL.yes (by rfl) (Ex.buildSlice (parts := [(0, .tmp 70)]) (us := [_]) (by rfl) (by rfl) rfl (by rfl) (by rfl) ?_)
              intro b71
              refine WL.yes (by rfl) (Ex.append (e := enE) (l := (mnL dst (l.take k))) (l' := [lat l k]) (by rfl) (by rfl) (by rfl) (by rfl) (Rd.lit [_] rfl rfl rfl) ?_ ?_); (· (simp only [List.length_singleton]; omega))
              intro a72 cap72
              refine WL.yes (by rfl) (Ex.q (q_assign (by rfl)) (by rfl) ?_)
              refine WL.nil ?_
              (repeat refine J.seq ?_)
              refine J.region ?_
              refine WL.yes (by rfl) (Ex.q (q_move (by rfl)) (by rfl) ?_)
              refine WL.yes (by rfl) (Ex.q (q_move (by rfl)) (by rfl) ?_)
              refine WL.yes (by rfl) (Ex.q (q_move (by rfl)) (by rfl) ?_)
              first | (refine WL.yes (by rfl) (Ex.q (q_indexAddr_ros (by rfl) (by rfl) (by intro _; rfl) ?_ ?_) (by rfl) ?_); (· (omega)); (· (omega))) | (refine WL.yes (by rfl) (Ex.q (q_indexAddr_sl (by rfl) (by rfl) ?_ ?_) (by rfl) ?_); (· (omega)); (· (omega))) | (refine WL.yes (by rfl) (Ex.q (q_indexAddr_arr (by rfl) (by rfl) ?_ ?_) (by rfl) ?_); (· (omega)); (· (omega)))
              first | (refine WL.yes (by rfl) (Ex.q (q_fieldAddr (by rfl)) (by rfl) ?_)) | (refine WL.yes (by rfl) (Ex.q (q_fieldAddr_rop (by rfl) (by rfl)) (by rfl) ?_)) | (refine WL.yes (by rfl) (Ex.q (q_fieldAddr_pel (by rfl)) (by rfl) ?_))
              first | (refine WL.yes (by rfl) (Ex.h (h_load (by rfl) (by rfl) (by rfl)) (by rfl) ?_)) | (refine WL.yes (by rfl) (Ex.q (q_load (by rfl) (by rfl) (by rfl)) (by rfl) ?_)) | (refine WL.yes (by rfl) (Ex.q (q_load_rop (by rfl) (by rfl)) (by rfl) ?_)) | (refine WL.yes (by rfl) (Ex.h (h_load_pel (by rfl) (by rfl) ?_ (by rfl)) (by rfl) ?_); (· (omega))) | (refine WL.yes (by rfl) (Ex.q (q_load_pel (by rfl) (by rfl) ?_ (by rfl)) (by rfl) ?_); (· (omega)))
              refine WL.set 78 (prE (lat l k).p) (by rfl) (by first | rfl | rw [Int.toNat_natCast] | rw [Nat.zero_add, Int.toNat_natCast]) ?_
              refine WL.yes (by rfl) (Ex.buildSlice (parts := [(0, .tmp 78)]) (us := [_]) (by rfl) (by rfl) rfl (by rfl) (by rfl) ?_)
              intro b79
              refine WL.yes (by rfl) (Ex.append (e := prE) (l := ((mnL dst (l.take k)).map En.p)) (l' := [(lat l k).p]) (by rfl) (by rfl) (by rfl) (by rfl) (Rd.lit [_] rfl rfl rfl) ?_ ?_); (· (simp only [List.length_singleton, List.length_map]; omega))
              intro a80 cap80
              refine WL.yes (by rfl) (Ex.q (q_assign (by rfl)) (by rfl) ?_)
              refine WL.nil ?_
              (repeat refine J.seq ?_)
              refine J.region ?_
              refine WL.yes (by rfl) (Ex.q (q_move (by rfl)) (by rfl) ?_)
              refine WL.yes (by rfl) (Ex.q (q_int (by rfl) (by rfl) (by rfl)) (by rfl) ?_)
              refine WL.yes (by rfl) (Ex.q (q_assign (by rfl)) (by rfl) ?_)
              refine WL.nil ?_
              first | ((have hz := hs1); refine Kloop.nextP (k + 1, a72, cap72, a80, cap80) ?_ ?_ ⟨⟨_, rfl, by rw [hs1]; cases a72 <;> rfl, fun _ => trivial⟩, ⟨_, rfl, by rw [hs1, List.map_append]; cases a80 <;> rfl, fun _ => trivial⟩, same (by rw [← w64_nat (k := k) (by omega)]; rfl), trivial⟩ ⟨same rfl, same rfl, same rfl, trivial⟩ (.cons (s := 72) rfl (by rw [hs1]; exact CLe.refl _ _) rfl (.cons (s := 80) rfl (by rw [hs1, List.map_append]; exact CLe.refl _ _) rfl (.cons (s := 4) rfl (CLe.refl _ _) rfl (.cons (s := 5) rfl (CLe.refl _ _) rfl .nil)))); (· ((try dsimp only) <;> omega)); (· ((try dsimp only) <;> omega))) | ((have hz := hno); refine Kloop.nextP (k + 1, a8, c8, a7, c7) ?_ ?_ ⟨⟨_, rfl, by rw [hno], fun _ => trivial⟩, ⟨_, rfl, by rw [hno], fun _ => trivial⟩, same (by rw [← w64_nat (k := k) (by omega)]; rfl), trivial⟩ ⟨same rfl, same rfl, same rfl, trivial⟩ (.cons (s := 8) rfl (by rw [hno]; exact CLe.refl _ _) rfl (.cons (s := 7) rfl (by rw [hno]; exact CLe.refl _ _) rfl (.cons (s := 4) rfl (CLe.refl _ _) rfl (.cons (s := 5) rfl (CLe.refl _ _) rfl .nil)))); (· ((try dsimp only) <;> omega)); (· ((try dsimp only) <;> omega)))
            · skip
              (first | have e65 := of_decide_eq_true c65 | have e65 := of_decide_eq_false c65 | have e65 := ndec_t c65 | have e65 := ndec_f c65 | skip)
              have hno : mnL dst (l.take (k + 1)) = (mnL dst (l.take k)) := by rw [mn_step hk2]; exact mnS_no (fun x => e65 x.2.2)
              (repeat refine J.seq ?_)
              refine J.skip ?_
              (repeat refine J.seq ?_)
              refine J.region ?_
              refine WL.yes (by rfl) (Ex.q (q_move (by rfl)) (by rfl) ?_)
              refine WL.yes (by rfl) (Ex.q (q_int (by rfl) (by rfl) (by rfl)) (by rfl) ?_)
              refine WL.yes (by rfl) (Ex.q (q_assign (by rfl)) (by rfl) ?_)
              refine WL.nil ?_
              first | ((have hz := hs1); refine Kloop.nextP (k + 1, a72, cap72, a80, cap80) ?_ ?_ ⟨⟨_, rfl, by rw [hs1]; cases a72 <;> rfl, fun _ => trivial⟩, ⟨_, rfl, by rw [hs1, List.map_append]; cases a80 <;> rfl, fun _ => trivial⟩, same (by rw [← w64_nat (k := k) (by omega)]; rfl), trivial⟩ ⟨same rfl, same rfl, same rfl, trivial⟩ (.cons (s := 72) rfl (by rw [hs1]; exact CLe.refl _ _) rfl (.cons (s := 80) rfl (by rw [hs1, List.map_append]; exact CLe.refl _ _) rfl (.cons (s := 4) rfl (CLe.refl _ _) rfl (.cons (s := 5) rfl (CLe.refl _ _) rfl .nil)))); (· ((try dsimp only) <;> omega)); (· ((try dsimp only) <;> omega))) | ((have hz := hno); refine Kloop.nextP (k + 1, a8, c8, a7, c7) ?_ ?_ ⟨⟨_, rfl, by rw [hno], fun _ => trivial⟩, ⟨_, rfl, by rw [hno], fun _ => trivial⟩, same (by rw [← w64_nat (k := k) (by omega)]; rfl), trivial⟩ ⟨same rfl, same rfl, same rfl, trivial⟩ (.cons (s := 8) rfl (by rw [hno]; exact CLe.refl _ _) rfl (.cons (s := 7) rfl (by rw [hno]; exact CLe.refl _ _) rfl (.cons (s := 4) rfl (CLe.refl _ _) rfl (.cons (s := 5) rfl (CLe.refl _ _) rfl .nil)))); (· ((try dsimp only) <;> omega)); (· ((try dsimp only) <;> omega)))
          · skip
            (first | have eg56 := of_decide_eq_true g56 | have eg56 := of_decide_eq_false g56 | have eg56 := ndec_t g56 | have eg56 := ndec_f g56 | skip)
            have hno : mnL dst (l.take (k + 1)) = (mnL dst (l.take k)) := by rw [mn_step hk2]; exact mnS_no (fun x => eg56 x.2.1)
            refine WS.takeNo rfl (by rfl) (by rfl) ?_
            refine WS.takeNo rfl (by rfl) (by rfl) ?_
            refine WS.takeNo rfl (by rfl) (by rfl) ?_
            refine WS.takeNo rfl (by rfl) (by rfl) ?_
            refine WS.takeNo rfl (by rfl) (by rfl) ?_
            refine WS.takeNo rfl (by rfl) (by rfl) ?_
            refine WS.takeNo rfl (by rfl) (by rfl) ?_
            refine WS.takeNo rfl (by rfl) (by rfl) ?_
            refine WS.take rfl (by rfl) (by rfl) (q_pick_f (by rfl) (by rfl)) ?_
            refine WS.nil ?_
            (repeat refine J.seq ?_)
            refine J.condF (by rfl) ?_
            (repeat refine J.seq ?_)
            refine J.skip ?_
            (repeat refine J.seq ?_)
            refine J.region ?_
            refine WL.yes (by rfl) (Ex.q (q_move (by rfl)) (by rfl) ?_)
            refine WL.yes (by rfl) (Ex.q (q_int (by rfl) (by rfl) (by rfl)) (by rfl) ?_)
            refine WL.yes (by rfl) (Ex.q (q_assign (by rfl)) (by rfl) ?_)
            refine WL.nil ?_
            first | ((have hz := hs1); refine Kloop.nextP (k + 1, a72, cap72, a80, cap80) ?_ ?_ ⟨⟨_, rfl, by rw [hs1]; cases a72 <;> rfl, fun _ => trivial⟩, ⟨_, rfl, by rw [hs1, List.map_append]; cases a80 <;> rfl, fun _ => trivial⟩, same (by rw [← w64_nat (k := k) (by omega)]; rfl), trivial⟩ ⟨same rfl, same rfl, same rfl, trivial⟩ (.cons (s := 72) rfl (by rw [hs1]; exact CLe.refl _ _) rfl (.cons (s := 80) rfl (by rw [hs1, List.map_append]; exact CLe.refl _ _) rfl (.cons (s := 4) rfl (CLe.refl _ _) rfl (.cons (s := 5) rfl (CLe.refl _ _) rfl .nil)))); (· ((try dsimp only) <;> omega)); (· ((try dsimp only) <;> omega))) | ((have hz := hno); refine Kloop.nextP (k + 1, a8, c8, a7, c7) ?_ ?_ ⟨⟨_, rfl, by rw [hno], fun _ => trivial⟩, ⟨_, rfl, by rw [hno], fun _ => trivial⟩, same (by rw [← w64_nat (k := k) (by omega)]; rfl), trivial⟩ ⟨same rfl, same rfl, same rfl, trivial⟩ (.cons (s := 8) rfl (by rw [hno]; exact CLe.refl _ _) rfl (.cons (s := 7) rfl (by rw [hno]; exact CLe.refl _ _) rfl (.cons (s := 4) rfl (CLe.refl _ _) rfl (.cons (s := 5) rfl (CLe.refl _ _) rfl .nil)))); (· ((try dsimp only) <;> omega)); (· ((try dsimp only) <;> omega)))
        · skip
          (first | have eg44 := of_decide_eq_true g44 | have eg44 := of_decide_eq_false g44 | have eg44 := ndec_t g44 | have eg44 := ndec_f g44 | skip)
          have hno : mnL dst (l.take (k + 1)) = (mnL dst (l.take k)) := by rw [mn_step hk2]; exact mnS_no (fun x => Bool.false_ne_true ((okpair_not g44).symm.trans x.1))
          refine WS.takeNo rfl (by rfl) (by rfl) ?_
          refine WS.takeNo rfl (by rfl) (by rfl) ?_
          refine WS.takeNo rfl (by rfl) (by rfl) ?_
          refine WS.takeNo rfl (by rfl) (by rfl) ?_
          refine WS.takeNo rfl (by rfl) (by rfl) ?_
          refine WS.takeNo rfl (by rfl) (by rfl) ?_
          refine WS.takeNo rfl (by rfl) (by rfl) ?_
          refine WS.takeNo rfl (by rfl) (by rfl) ?_
          refine WS.takeNo rfl (by rfl) (by rfl) ?_
          refine WS.takeNo rfl (by rfl) (by rfl) ?_
          refine WS.take rfl (by rfl) (by rfl) (q_pick_f (by rfl) (by rfl)) ?_
          refine WS.take rfl (by rfl) (by rfl) (q_move (by rfl)) ?_
          refine WS.takeNo rfl (by rfl) (by rfl) ?_
          refine WS.takeNo rfl (by rfl) (by rfl) ?_
          refine WS.takeNo rfl (by rfl) (by rfl) ?_
          refine WS.takeNo rfl (by rfl) (by rfl) ?_
          refine WS.takeNo rfl (by rfl) (by rfl) ?_
          refine WS.takeNo rfl (by rfl) (by rfl) ?_
          refine WS.takeNo rfl (by rfl) (by rfl) ?_
          refine WS.takeNo rfl (by rfl) (by rfl) ?_
          refine WS.take rfl (by rfl) (by rfl) (q_pick_f (by rfl) (by rfl)) ?_
          refine WS.nil ?_
          (repeat refine J.seq ?_)
          refine J.condF (by rfl) ?_
          (repeat refine J.seq ?_)
          refine J.skip ?_
          (repeat refine J.seq ?_)
          refine J.region ?_
          refine WL.yes (by rfl) (Ex.q (q_move (by rfl)) (by rfl) ?_)
          refine WL.yes (by rfl) (Ex.q (q_int (by rfl) (by rfl) (by rfl)) (by rfl) ?_)
          refine WL.yes (by rfl) (Ex.q (q_assign (by rfl)) (by rfl) ?_)
          refine WL.nil ?_
          first | ((have hz := hs1); refine Kloop.nextP (k + 1, a72, cap72, a80, cap80) ?_ ?_ ⟨⟨_, rfl, by rw [hs1]; cases a72 <;> rfl, fun _ => trivial⟩, ⟨_, rfl, by rw [hs1, List.map_append]; cases a80 <;> rfl, fun _ => trivial⟩, same (by rw [← w64_nat (k := k) (by omega)]; rfl), trivial⟩ ⟨same rfl, same rfl, same rfl, trivial⟩ (.cons (s := 72) rfl (by rw [hs1]; exact CLe.refl _ _) rfl (.cons (s := 80) rfl (by rw [hs1, List.map_append]; exact CLe.refl _ _) rfl (.cons (s := 4) rfl (CLe.refl _ _) rfl (.cons (s := 5) rfl (CLe.refl _ _) rfl .nil)))); (· ((try dsimp only) <;> omega)); (· ((try dsimp only) <;> omega))) | ((have hz := hno); refine Kloop.nextP (k + 1, a8, c8, a7, c7) ?_ ?_ ⟨⟨_, rfl, by rw [hno], fun _ => trivial⟩, ⟨_, rfl, by rw [hno], fun _ => trivial⟩, same (by rw [← w64_nat (k := k) (by omega)]; rfl), trivial⟩ ⟨same rfl, same rfl, same rfl, trivial⟩ (.cons (s := 8) rfl (by rw [hno]; exact CLe.refl _ _) rfl (.cons (s := 7) rfl (by rw [hno]; exact CLe.refl _ _) rfl (.cons (s := 4) rfl (CLe.refl _ _) rfl (.cons (s := 5) rfl (CLe.refl _ _) rfl .nil)))); (· ((try dsimp only) <;> omega)); (· ((try dsimp only) <;> omega)))
      · skip
        (first | have e33 := of_decide_eq_true c33 | have e33 := of_decide_eq_false c33 | have e33 := ndec_t c33 | have e33 := ndec_f c33 | skip)
        (repeat refine J.seq ?_)
        refine J.exit ?_
        (repeat refine J.seq ?_)
        have hkn : l.take k = l := take_all (by omega)
        rw [hkn]
        have hMP : MOk dst (mnL dst l) := mnL_ok ho
        have hPl2 : (mnL dst l).length ≤ 24 := by have := mnL_len dst l; omega
        have hE : GOk (expandL (mnL dst l)) := exp_ok (clean_ok hMP.ok)
        have hEl : (expandL (mnL dst l)).length ≤ 576 := want_len hPl2
        refine J.region ?_
        first | (refine WL.yes (by rfl) (Ex.h (h_load (by rfl) (by rfl) (by rfl)) (by rfl) ?_)) | (refine WL.yes (by rfl) (Ex.q (q_load (by rfl) (by rfl) (by rfl)) (by rfl) ?_)) | (refine WL.yes (by rfl) (Ex.q (q_load_rop (by rfl) (by rfl)) (by rfl) ?_)) | (refine WL.yes (by rfl) (Ex.h (h_load_pel (by rfl) (by rfl) ?_ (by rfl)) (by rfl) ?_); (· (omega))) | (refine WL.yes (by rfl) (Ex.q (q_load_pel (by rfl) (by rfl) ?_ (by rfl)) (by rfl) ?_); (· (omega)))
        first | (refine WL.yes (by rfl) (Ex.h (h_load (by rfl) (by rfl) (by rfl)) (by rfl) ?_)) | (refine WL.yes (by rfl) (Ex.q (q_load (by rfl) (by rfl) (by rfl)) (by rfl) ?_)) | (refine WL.yes (by rfl) (Ex.q (q_load_rop (by rfl) (by rfl)) (by rfl) ?_)) | (refine WL.yes (by rfl) (Ex.h (h_load_pel (by rfl) (by rfl) ?_ (by rfl)) (by rfl) ?_); (· (omega))) | (refine WL.yes (by rfl) (Ex.q (q_load_pel (by rfl) (by rfl) ?_ (by rfl)) (by rfl) ?_); (· (omega)))
        refine WL.yes (by rfl) (Ex.q (q_move (by rfl)) (by rfl) ?_)
        refine WL.yes (by rfl) (Ex.callz _ [] [] (best51_spec (ps := (mnL dst l).map En.p) (src := src) (dst := dst) (by rw [List.length_map]; omega)) (by rfl) (by rfl) (.cons (.same _) (.cons (.same _) (.cons (.sla (by rfl)) .nil))) (fun t c hg => by simp [get] at hg) plain_b51 ?_)
        rintro _ _ ⟨⟨bi, bok, rfl, hBB⟩, rfl⟩
        refine WL.yes (by rfl) (Ex.q (q_move (by rfl)) (by rfl) ?_)
        first | (refine WL.yes (by rfl) (Ex.q (q_extract2 (by rfl) (by rfl)) (by rfl) ?_)) | (refine WL.yes (by rfl) (Ex.q (q_extract3 (by rfl) (by rfl)) (by rfl) ?_))
        first | (refine WL.yes (by rfl) (Ex.q (q_extract2 (by rfl) (by rfl)) (by rfl) ?_)) | (refine WL.yes (by rfl) (Ex.q (q_extract3 (by rfl) (by rfl)) (by rfl) ?_))
        refine WL.yes (by rfl) (Ex.q (q_assign (by rfl)) (by rfl) ?_)
        refine WL.yes (by rfl) (Ex.q (q_assign (by rfl)) (by rfl) ?_)
        refine WL.nil ?_
        (repeat refine J.seq ?_)
        refine J.region ?_
        refine WL.yes (by rfl) (Ex.q (q_move (by rfl)) (by rfl) ?_)
        refine WL.yes (by rfl) (Ex.callz _ [] [] (expand_spec (l := (mnL dst l)) hMP.ok (by omega)) (by rfl) (by rfl) (.cons (.sla (by rfl)) .nil) (fun t c hg => by simp [get] at hg) plain_expand ?_)
        rintro _ _ ⟨a89, cap89, rfl, rfl⟩
        refine WL.yes (by rfl) (Ex.q (q_assign (by rfl)) (by rfl) ?_)
        refine WL.nil ?_
        (repeat refine J.seq ?_)
        refine J.region ?_
        refine WL.yes (by rfl) (Ex.q (q_assign (by rfl)) (by rfl) ?_)
        refine WL.yes (by rfl) (Ex.q (q_assign (by rfl)) (by rfl) ?_)
        refine WL.nil ?_
        (repeat refine J.seq ?_)
        refine J.region ?_
        refine WL.yes (by rfl) (Ex.q (q_assign (by rfl)) (by rfl) ?_)
        refine WL.nil ?_
        (repeat refine J.seq ?_)
        refine J.block ?_
        (repeat refine J.seq ?_)
        refine J.loopP (fun x : Nat × Int => x.1 ≤ (expandL (mnL dst l)).length ∧ DM dst (expandL (mnL dst l)) x.1 x.2) (fun x => [(13, iV x.2), (15, iV x.1)]) (fun x => []) (fun x => (expandL (mnL dst l)).length - x.1) (0, -1) [(4, _), (5, _), (8, _), (10, _), (11, _), (12, _), (14, _)] [(4, _), (5, _), (7, _), (8, _), (2026, _)] ⟨same rfl, same rfl, same rfl, same rfl, same rfl, same rfl, same rfl, trivial⟩ ⟨same rfl, same rfl, trivial⟩ (.cons (s := 4) rfl (CLe.refl _ _) rfl (.cons (s := 5) rfl (CLe.refl _ _) rfl (.cons (s := 7) rfl (CLe.refl _ _) rfl (.cons (s := 8) rfl (CLe.refl _ _) rfl (.cons (s := 2026) rfl (CLe.refl _ _) rfl .nil))))) ?_ ?_
        · (exact ⟨Nat.zero_le _, DM.zero _ _⟩)
        rintro ⟨j, dm⟩ hx
        (try dsimp only at hx)
        (try dsimp only)
        obtain ⟨hj, hDM⟩ := hx
        (repeat refine J.seq ?_)
        refine J.region ?_
        refine WL.yes (by rfl) (Ex.q (q_move (by rfl)) (by rfl) ?_)
        refine WL.yes (by rfl) (Ex.q (q_move (by rfl)) (by rfl) ?_)
        first | (refine WL.yes (by rfl) (Ex.q (q_len_slice (by rfl) (by rfl)) (by rfl) ?_)) | (refine WL.yes (by rfl) (Ex.q (q_len_string (by rfl)) (by rfl) ?_))
        refine WL.yes (by rfl) (Ex.q (q_int (by rfl) (by rfl) (by rfl)) (by rfl) ?_)
        refine WL.nil ?_
        (repeat refine J.seq ?_)
        refine J.cond (by rfl) (fun c93 => ?_) (fun c93 => ?_)
        · skip
          (first | have e93 := of_decide_eq_true c93 | have e93 := of_decide_eq_false c93 | have e93 := ndec_t c93 | have e93 := ndec_f c93 | skip)
          (repeat refine J.seq ?_)
          refine J.skip ?_
          (repeat refine J.seq ?_)
          refine J.block ?_
          (repeat refine J.seq ?_)
          have hj2 : j < (expandL (mnL dst l)).length := by omega
          have hrn := okR_rng (hE.may _ (lat_mem hj2))
          refine J.vecsome (t := 2026) rfl (by omega) ?_
          intro bE hbE
          subst hbE
          refine J.draw [4, 5, 7, 8, 2026] 9999 [(0, true), (1, true), (2, true), (3, true), (4, true), (5, true), (6, true), (7, false), (8, true), (9, true), (10, true), (11, true), (12, true), (13, true), (14, true), (15, true), (16, true), (17, true), (18, true)] (by kernel_rfl) rfl (by kernel_rfl) ?_
          intro F3 hF3
          refine WS.take rfl (by rfl) (by rfl) (q_move (by rfl)) ?_
          refine WS.take rfl (by rfl) (by rfl) (q_move (by rfl)) ?_
          first | (refine WS.take rfl (by rfl) (by rfl) (q_indexAddr_ros (by rfl) (by rfl) (by intro _; rfl) ?_ ?_) ?_; (· (omega)); (· (omega))) | (refine WS.take rfl (by rfl) (by rfl) (q_indexAddr_sl (by rfl) (by rfl) ?_ ?_) ?_; (· (omega)); (· (omega))) | (refine WS.take rfl (by rfl) (by rfl) (q_indexAddr_arr (by rfl) (by rfl) ?_ ?_) ?_; (· (omega)); (· (omega)))
          first | (refine WS.take rfl (by rfl) (by rfl) (q_fieldAddr (by rfl)) ?_) | (refine WS.take rfl (by rfl) (by rfl) (q_fieldAddr_rop (by rfl) (by rfl)) ?_) | (refine WS.take rfl (by rfl) (by rfl) (q_fieldAddr_pel (by rfl)) ?_)
          first | (refine WS.take rfl (by rfl) (by rfl) (q_fieldAddr (by rfl)) ?_) | (refine WS.take rfl (by rfl) (by rfl) (q_fieldAddr_rop (by rfl) (by rfl)) ?_) | (refine WS.take rfl (by rfl) (by rfl) (q_fieldAddr_pel (by rfl)) ?_)
          first | (refine WS.take rfl (by rfl) (by rfl) (q_load (by rfl) (by rfl) (by rfl)) ?_) | (refine WS.take rfl (by rfl) (by rfl) (q_load_rop (by rfl) (by rfl)) ?_) | (refine WS.take rfl (by rfl) (by rfl) (q_load_pel (by rfl) (by rfl) ?_ (by rfl)) ?_; (· (omega)))
          refine WS.set 101 (pfE (lat (expandL (mnL dst l)) j).p.d) (by rfl) (by rw [Nat.zero_add, Int.toNat_natCast]) ?_
          first | (refine WS.take rfl (by rfl) (by rfl) (q_load (by rfl) (by rfl) (by rfl)) ?_) | (refine WS.take rfl (by rfl) (by rfl) (q_load_rop (by rfl) (by rfl)) ?_) | (refine WS.take rfl (by rfl) (by rfl) (q_load_pel (by rfl) (by rfl) ?_ (by rfl)) ?_; (· (omega)))
          refine WS.ex rfl (by rfl) (Ex.callq (contains_spec _ _ _) (by rfl) (by rfl) rfl (fun _ h => h) ?_)
          refine WS.take rfl (by rfl) (by rfl) (q_move (by rfl)) ?_
          refine WS.split 104 (by rfl) (fun g104 => ?_) (fun g104 => ?_)
          · skip
            (first | have eg104 := of_decide_eq_true g104 | have eg104 := of_decide_eq_false g104 | have eg104 := ndec_t g104 | have eg104 := ndec_f g104 | skip)
            have hc := g104
            refine WS.take rfl (by rfl) (by rfl) (q_move (by rfl)) ?_
            refine WS.take rfl (by rfl) (by rfl) (q_move (by rfl)) ?_
            first | (refine WS.take rfl (by rfl) (by rfl) (q_indexAddr_ros (by rfl) (by rfl) (by intro _; rfl) ?_ ?_) ?_; (· (omega)); (· (omega))) | (refine WS.take rfl (by rfl) (by rfl) (q_indexAddr_sl (by rfl) (by rfl) ?_ ?_) ?_; (· (omega)); (· (omega))) | (refine WS.take rfl (by rfl) (by rfl) (q_indexAddr_arr (by rfl) (by rfl) ?_ ?_) ?_; (· (omega)); (· (omega)))
            first | (refine WS.take rfl (by rfl) (by rfl) (q_fieldAddr (by rfl)) ?_) | (refine WS.take rfl (by rfl) (by rfl) (q_fieldAddr_rop (by rfl) (by rfl)) ?_) | (refine WS.take rfl (by rfl) (by rfl) (q_fieldAddr_pel (by rfl)) ?_)
            first | (refine WS.take rfl (by rfl) (by rfl) (q_fieldAddr (by rfl)) ?_) | (refine WS.take rfl (by rfl) (by rfl) (q_fieldAddr_rop (by rfl) (by rfl)) ?_) | (refine WS.take rfl (by rfl) (by rfl) (q_fieldAddr_pel (by rfl)) ?_)
            first | (refine WS.take rfl (by rfl) (by rfl) (q_fieldAddr (by rfl)) ?_) | (refine WS.take rfl (by rfl) (by rfl) (q_fieldAddr_rop (by rfl) (by rfl)) ?_) | (refine WS.take rfl (by rfl) (by rfl) (q_fieldAddr_pel (by rfl)) ?_)
            first | (refine WS.take rfl (by rfl) (by rfl) (q_load (by rfl) (by rfl) (by rfl)) ?_) | (refine WS.take rfl (by rfl) (by rfl) (q_load_rop (by rfl) (by rfl)) ?_) | (refine WS.take rfl (by rfl) (by rfl) (q_load_pel (by rfl) (by rfl) ?_ (by rfl)) ?_; (· (omega)))
            refine WS.set 111 (iV (lat (expandL (mnL dst l)) j).p.d.n) (by rfl) (by rw [Nat.zero_add, Int.toNat_natCast]) ?_
            refine WS.take rfl (by rfl) (by rfl) (q_move (by rfl)) ?_
            refine WS.take rfl (by rfl) (by rfl) (q_int (by rfl) (by rfl) (by rfl)) ?_
            refine WS.take rfl (by rfl) (by rfl) (q_pick_t (by rfl) (by rfl)) ?_
            refine WS.nil ?_
            (repeat refine J.seq ?_)
            refine J.cond (by rfl) (fun c114 => ?_) (fun c114 => ?_)
            · skip
              (first | have e114 := of_decide_eq_true c114 | have e114 := of_decide_eq_false c114 | have e114 := ndec_t c114 | have e114 := ndec_f c114 | skip)
              (repeat refine J.seq ?_)
              refine J.region ?_
              refine WL.yes (by rfl) (Ex.q (q_move (by rfl)) (by rfl) ?_)
              refine WL.yes (by rfl) (Ex.q (q_move (by rfl)) (by rfl) ?_)
              first | (refine WL.yes (by rfl) (Ex.q (q_indexAddr_ros (by rfl) (by rfl) (by intro _; rfl) ?_ ?_) (by rfl) ?_); (· (omega)); (· (omega))) | (refine WL.yes (by rfl) (Ex.q (q_indexAddr_sl (by rfl) (by rfl) ?_ ?_) (by rfl) ?_); (· (omega)); (· (omega))) | (refine WL.yes (by rfl) (Ex.q (q_indexAddr_arr (by rfl) (by rfl) ?_ ?_) (by rfl) ?_); (· (omega)); (· (omega)))
              first | (refine WL.yes (by rfl) (Ex.q (q_fieldAddr (by rfl)) (by rfl) ?_)) | (refine WL.yes (by rfl) (Ex.q (q_fieldAddr_rop (by rfl) (by rfl)) (by rfl) ?_)) | (refine WL.yes (by rfl) (Ex.q (q_fieldAddr_pel (by rfl)) (by rfl) ?_))
              first | (refine WL.yes (by rfl) (Ex.q (q_fieldAddr (by rfl)) (by rfl) ?_)) | (refine WL.yes (by rfl) (Ex.q (q_fieldAddr_rop (by rfl) (by rfl)) (by rfl) ?_)) | (refine WL.yes (by rfl) (Ex.q (q_fieldAddr_pel (by rfl)) (by rfl) ?_))
              first | (refine WL.yes (by rfl) (Ex.q (q_fieldAddr (by rfl)) (by rfl) ?_)) | (refine WL.yes (by rfl) (Ex.q (q_fieldAddr_rop (by rfl) (by rfl)) (by rfl) ?_)) | (refine WL.yes (by rfl) (Ex.q (q_fieldAddr_pel (by rfl)) (by rfl) ?_))
              first | (refine WL.yes (by rfl) (Ex.h (h_load (by rfl) (by rfl) (by rfl)) (by rfl) ?_)) | (refine WL.yes (by rfl) (Ex.q (q_load (by rfl) (by rfl) (by rfl)) (by rfl) ?_)) | (refine WL.yes (by rfl) (Ex.q (q_load_rop (by rfl) (by rfl)) (by rfl) ?_)) | (refine WL.yes (by rfl) (Ex.h (h_load_pel (by rfl) (by rfl) ?_ (by rfl)) (by rfl) ?_); (· (omega))) | (refine WL.yes (by rfl) (Ex.q (q_load_pel (by rfl) (by rfl) ?_ (by rfl)) (by rfl) ?_); (· (omega)))
              refine WL.set 121 (iV (lat (expandL (mnL dst l)) j).p.d.n) (by rfl) (by rw [Nat.zero_add, Int.toNat_natCast]) ?_
              refine WL.yes (by rfl) (Ex.q (q_assign (by rfl)) (by rfl) ?_)
              refine WL.nil ?_
              (repeat refine J.seq ?_)
              refine J.region ?_
              refine WL.yes (by rfl) (Ex.q (q_move (by rfl)) (by rfl) ?_)
              refine WL.yes (by rfl) (Ex.q (q_int (by rfl) (by rfl) (by rfl)) (by rfl) ?_)
              refine WL.yes (by rfl) (Ex.q (q_assign (by rfl)) (by rfl) ?_)
              refine WL.nil ?_
              first | (refine Kloop.nextP (j + 1, dm) ?_ ?_ ⟨same rfl, same (by rw [← w64_nat (k := j) (by omega)]; rfl), trivial⟩ ⟨same rfl, same rfl, same rfl, same rfl, same rfl, same rfl, same rfl, trivial⟩ (.cons (s := 4) rfl (CLe.refl _ _) rfl (.cons (s := 5) rfl (CLe.refl _ _) rfl (.cons (s := 7) rfl (CLe.refl _ _) rfl (.cons (s := 8) rfl (CLe.refl _ _) rfl (.cons (s := 2026) rfl (CLe.refl _ _) rfl .nil))))); (· (exact ⟨by (try dsimp only); omega, hDM.skip hc⟩)); (· ((try dsimp only) <;> omega))) | (refine Kloop.nextP (j + 1, (lat (expandL (mnL dst l)) j).p.d.n) ?_ ?_ ⟨same rfl, same (by rw [← w64_nat (k := j) (by omega)]; rfl), trivial⟩ ⟨same rfl, same rfl, same rfl, same rfl, same rfl, same rfl, same rfl, trivial⟩ (.cons (s := 4) rfl (CLe.refl _ _) rfl (.cons (s := 5) rfl (CLe.refl _ _) rfl (.cons (s := 7) rfl (CLe.refl _ _) rfl (.cons (s := 8) rfl (CLe.refl _ _) rfl (.cons (s := 2026) rfl (CLe.refl _ _) rfl .nil))))); (· (exact ⟨by (try dsimp only); omega, hDM.yes hc e114⟩)); (· ((try dsimp only) <;> omega))) | (refine Kloop.nextP (j + 1, dm) ?_ ?_ ⟨same rfl, same (by rw [← w64_nat (k := j) (by omega)]; rfl), trivial⟩ ⟨same rfl, same rfl, same rfl, same rfl, same rfl, same rfl, same rfl, trivial⟩ (.cons (s := 4) rfl (CLe.refl _ _) rfl (.cons (s := 5) rfl (CLe.refl _ _) rfl (.cons (s := 7) rfl (CLe.refl _ _) rfl (.cons (s := 8) rfl (CLe.refl _ _) rfl (.cons (s := 2026) rfl (CLe.refl _ _) rfl .nil))))); (· (exact ⟨by (try dsimp only); omega, hDM.no (by omega) e114⟩)); (· ((try dsimp only) <;> omega)))
            · skip
              (first | have e114 := of_decide_eq_true c114 | have e114 := of_decide_eq_false c114 | have e114 := ndec_t c114 | have e114 := ndec_f c114 | skip)
              (repeat refine J.seq ?_)
              refine J.skip ?_
              (repeat refine J.seq ?_)
              refine J.region ?_
              refine WL.yes (by rfl) (Ex.q (q_move (by rfl)) (by rfl) ?_)
              refine WL.yes (by rfl) (Ex.q (q_int (by rfl) (by rfl) (by rfl)) (by rfl) ?_)
              refine WL.yes (by rfl) (Ex.q (q_assign (by rfl)) (by rfl) ?_)
              refine WL.nil ?_
              first | (refine Kloop.nextP (j + 1, dm) ?_ ?_ ⟨same rfl, same (by rw [← w64_nat (k := j) (by omega)]; rfl), trivial⟩ ⟨same rfl, same rfl, same rfl, same rfl, same rfl, same rfl, same rfl, trivial⟩ (.cons (s := 4) rfl (CLe.refl _ _) rfl (.cons (s := 5) rfl (CLe.refl _ _) rfl (.cons (s := 7) rfl (CLe.refl _ _) rfl (.cons (s := 8) rfl (CLe.refl _ _) rfl (.cons (s := 2026) rfl (CLe.refl _ _) rfl .nil))))); (· (exact ⟨by (try dsimp only); omega, hDM.skip hc⟩)); (· ((try dsimp only) <;> omega))) | (refine Kloop.nextP (j + 1, (lat (expandL (mnL dst l)) j).p.d.n) ?_ ?_ ⟨same rfl, same (by rw [← w64_nat (k := j) (by omega)]; rfl), trivial⟩ ⟨same rfl, same rfl, same rfl, same rfl, same rfl, same rfl, same rfl, trivial⟩ (.cons (s := 4) rfl (CLe.refl _ _) rfl (.cons (s := 5) rfl (CLe.refl _ _) rfl (.cons (s := 7) rfl (CLe.refl _ _) rfl (.cons (s := 8) rfl (CLe.refl _ _) rfl (.cons (s := 2026) rfl (CLe.refl _ _) rfl .nil))))); (· (exact ⟨by (try dsimp only); omega, hDM.yes hc e114⟩)); (· ((try dsimp only) <;> omega))) | (refine Kloop.nextP (j + 1, dm) ?_ ?_ ⟨same rfl, same (by rw [← w64_nat (k := j) (by omega)]; rfl), trivial⟩ ⟨same rfl, same rfl, same rfl, same rfl, same rfl, same rfl, same rfl, trivial⟩ (.cons (s := 4) rfl (CLe.refl _ _) rfl (.cons (s := 5) rfl (CLe.refl _ _) rfl (.cons (s := 7) rfl (CLe.refl _ _) rfl (.cons (s := 8) rfl (CLe.refl _ _) rfl (.cons (s := 2026) rfl (CLe.refl _ _) rfl .nil))))); (· (exact ⟨by (try dsimp only); omega, hDM.no (by omega) e114⟩)); (· ((try dsimp only) <;> omega)))
          · skip
            (first | have eg104 := of_decide_eq_true g104 | have eg104 := of_decide_eq_false g104 | have eg104 := ndec_t g104 | have eg104 := ndec_f g104 | skip)
            have hc := g104
            refine WS.takeNo rfl (by rfl) (by rfl) ?_
            refine WS.takeNo rfl (by rfl) (by rfl) ?_
            refine WS.takeNo rfl (by rfl) (by rfl) ?_
            refine WS.takeNo rfl (by rfl) (by rfl) ?_
            refine WS.takeNo rfl (by rfl) (by rfl) ?_
            refine WS.takeNo rfl (by rfl) (by rfl) ?_
            refine WS.takeNo rfl (by rfl) (by rfl) ?_
            refine WS.takeNo rfl (by rfl) (by rfl) ?_
            refine WS.takeNo rfl (by rfl) (by rfl) ?_
            refine WS.take rfl (by rfl) (by rfl) (q_pick_f (by rfl) (by rfl)) ?_
            refine WS.nil ?_
            (repeat refine J.seq ?_)
            refine J.condF (by rfl) ?_
            (repeat refine J.seq ?_)
            refine J.skip ?_
            (repeat refine J.seq ?_)
            refine J.region ?_
            refine WL.yes (by rfl) (Ex.q (q_move (by rfl)) (by rfl) ?_)
            refine WL.yes (by rfl) (Ex.q (q_int (by rfl) (by rfl) (by rfl)) (by rfl) ?_)
            refine WL.yes (by rfl) (Ex.q (q_assign (by rfl)) (by rfl) ?_)
            refine WL.nil ?_
            first | (refine Kloop.nextP (j + 1, dm) ?_ ?_ ⟨same rfl, same (by rw [← w64_nat (k := j) (by omega)]; rfl), trivial⟩ ⟨same rfl, same rfl, same rfl, same rfl, same rfl, same rfl, same rfl, trivial⟩ (.cons (s := 4) rfl (CLe.refl _ _) rfl (.cons (s := 5) rfl (CLe.refl _ _) rfl (.cons (s := 7) rfl (CLe.refl _ _) rfl (.cons (s := 8) rfl (CLe.refl _ _) rfl (.cons (s := 2026) rfl (CLe.refl _ _) rfl .nil))))); (· (exact ⟨by (try dsimp only); omega, hDM.skip hc⟩)); (· ((try dsimp only) <;> omega))) | (refine Kloop.nextP (j + 1, (lat (expandL (mnL dst l)) j).p.d.n) ?_ ?_ ⟨same rfl, same (by rw [← w64_nat (k := j) (by omega)]; rfl), trivial⟩ ⟨same rfl, same rfl, same rfl, same rfl, same rfl, same rfl, same rfl, trivial⟩ (.cons (s := 4) rfl (CLe.refl _ _) rfl (.cons (s := 5) rfl (CLe.refl _ _) rfl (.cons (s := 7) rfl (CLe.refl _ _) rfl (.cons (s := 8) rfl (CLe.refl _ _) rfl (.cons (s := 2026) rfl (CLe.refl _ _) rfl .nil))))); (· (exact ⟨by (try dsimp only); omega, hDM.yes hc e114⟩)); (· ((try dsimp only) <;> omega))) | (refine Kloop.nextP (j + 1, dm) ?_ ?_ ⟨same rfl, same (by rw [← w64_nat (k := j) (by omega)]; rfl), trivial⟩ ⟨same rfl, same rfl, same rfl, same rfl, same rfl, same rfl, same rfl, trivial⟩ (.cons (s := 4) rfl (CLe.refl _ _) rfl (.cons (s := 5) rfl (CLe.refl _ _) rfl (.cons (s := 7) rfl (CLe.refl _ _) rfl (.cons (s := 8) rfl (CLe.refl _ _) rfl (.cons (s := 2026) rfl (CLe.refl _ _) rfl .nil))))); (· (exact ⟨by (try dsimp only); omega, hDM.no (by omega) e114⟩)); (· ((try dsimp only) <;> omega)))
        · skip
          (first | have e93 := of_decide_eq_true c93 | have e93 := of_decide_eq_false c93 | have e93 := ndec_t c93 | have e93 := ndec_f c93 | skip)
          (repeat refine J.seq ?_)
          refine J.exit ?_
          (repeat refine J.seq ?_)
          refine J.region ?_
          refine WL.yes (by rfl) (Ex.q (q_build (parts := []) (by rfl) (by rfl)) (by rfl) ?_)
          refine WL.yes (by rfl) (Ex.alloc (by rfl) ?_)
          intro b16
          first | (refine WL.yes (by rfl) (Ex.store (by rfl) (by rfl) (by rfl) (by rfl) (by rfl) (by rfl) ?_)) | (refine WL.yes (by rfl) (Ex.store_pel (by rfl) (by rfl) (by rfl) (by rfl) (by rfl) ?_ (by rfl) ?_); (· (omega)))
          refine WL.nil ?_
          (repeat refine J.seq ?_)
          refine J.region ?_
          refine WL.yes (by rfl) (Ex.q (q_assign (by rfl)) (by rfl) ?_)
          refine WL.nil ?_
          (repeat refine J.seq ?_)
          refine J.block ?_
          (repeat refine J.seq ?_)
          have hj8 : j = (expandL (mnL dst l)).length := by omega
          rw [hj8] at hDM
          refine J.loopP (fun x : Nat × Int × En => x.1 ≤ (expandL (mnL dst l)).length ∧ SM src dst dm (expandL (mnL dst l)) x.1 x.2.1 x.2.2) (fun x => [(14, iV x.2.1), (17, iV x.1)]) (fun x => [(16, .box b16 37 (enE x.2.2))]) (fun x => (expandL (mnL dst l)).length - x.1) (0, -1, default) [(4, _), (5, _), (8, _), (10, _), (11, _), (12, _), (13, _), (16, _)] [(4, _), (5, _), (7, _), (8, _), (2026, _)] ⟨same rfl, same rfl, same rfl, same rfl, same rfl, same rfl, same rfl, same rfl, trivial⟩ ⟨same rfl, same rfl, trivial⟩ (.cons (s := 16) rfl (CLe.refl _ _) rfl (.cons (s := 4) rfl (CLe.refl _ _) rfl (.cons (s := 5) rfl (CLe.refl _ _) rfl (.cons (s := 7) rfl (CLe.refl _ _) rfl (.cons (s := 8) rfl (CLe.refl _ _) rfl (.cons (s := 2026) rfl (CLe.refl _ _) rfl .nil)))))) ?_ ?_
          · (exact ⟨Nat.zero_le _, SM.zero _ _ _ _ _⟩)
          rintro ⟨j, s, f⟩ hx
          (try dsimp only at hx)
          (try dsimp only)
          obtain ⟨hj, hSM⟩ := hx
          (repeat refine J.seq ?_)
          refine J.region ?_
          refine WL.yes (by rfl) (Ex.q (q_move (by rfl)) (by rfl) ?_)
          refine WL.yes (by rfl) (Ex.q (q_move (by rfl)) (by rfl) ?_)
          first | (refine WL.yes (by rfl) (Ex.q (q_len_slice (by rfl) (by rfl)) (by rfl) ?_)) | (refine WL.yes (by rfl) (Ex.q (q_len_string (by rfl)) (by rfl) ?_))
          refine WL.yes (by rfl) (Ex.q (q_int (by rfl) (by rfl) (by rfl)) (by rfl) ?_)
          refine WL.nil ?_
          (repeat refine J.seq ?_)
          refine J.cond (by rfl) (fun c126 => ?_) (fun c126 => ?_)
          · skip
            (first | have e126 := of_decide_eq_true c126 | have e126 := of_decide_eq_false c126 | have e126 := ndec_t c126 | have e126 := ndec_f c126 | skip)
            (repeat refine J.seq ?_)
            refine J.skip ?_
            (repeat refine J.seq ?_)
            refine J.block ?_
            (repeat refine J.seq ?_)
            have hj2 : j < (expandL (mnL dst l)).length := by omega
            have hrn := okR_rng (hE.may _ (lat_mem hj2))
            refine J.vecsome (t := 2026) rfl (by omega) ?_
            intro bE hbE
            subst hbE
            refine J.region ?_
            refine WL.yes (by rfl) (Ex.q (q_move (by rfl)) (by rfl) ?_)
            refine WL.yes (by rfl) (Ex.q (q_move (by rfl)) (by rfl) ?_)
            first | (refine WL.yes (by rfl) (Ex.q (q_indexAddr_ros (by rfl) (by rfl) (by intro _; rfl) ?_ ?_) (by rfl) ?_); (· (omega)); (· (omega))) | (refine WL.yes (by rfl) (Ex.q (q_indexAddr_sl (by rfl) (by rfl) ?_ ?_) (by rfl) ?_); (· (omega)); (· (omega))) | (refine WL.yes (by rfl) (Ex.q (q_indexAddr_arr (by rfl) (by rfl) ?_ ?_) (by rfl) ?_); (· (omega)); (· (omega)))
            first | (refine WL.yes (by rfl) (Ex.q (q_fieldAddr (by rfl)) (by rfl) ?_)) | (refine WL.yes (by rfl) (Ex.q (q_fieldAddr_rop (by rfl) (by rfl)) (by rfl) ?_)) | (refine WL.yes (by rfl) (Ex.q (q_fieldAddr_pel (by rfl)) (by rfl) ?_))
            first | (refine WL.yes (by rfl) (Ex.h (h_load (by rfl) (by rfl) (by rfl)) (by rfl) ?_)) | (refine WL.yes (by rfl) (Ex.q (q_load (by rfl) (by rfl) (by rfl)) (by rfl) ?_)) | (refine WL.yes (by rfl) (Ex.q (q_load_rop (by rfl) (by rfl)) (by rfl) ?_)) | (refine WL.yes (by rfl) (Ex.h (h_load_pel (by rfl) (by rfl) ?_ (by rfl)) (by rfl) ?_); (· (omega))) | (refine WL.yes (by rfl) (Ex.q (q_load_pel (by rfl) (by rfl) ?_ (by rfl)) (by rfl) ?_); (· (omega)))
            refine WL.set 133 (prE (lat (expandL (mnL dst l)) j).p) (by rfl) (by rw [Nat.zero_add, Int.toNat_natCast]) ?_
            refine WL.yes (by rfl) (Ex.alloc (by rfl) ?_)
            intro b18
            first | (refine WL.yes (by rfl) (Ex.store (by rfl) (by rfl) (by rfl) (by rfl) (by rfl) (by rfl) ?_)) | (refine WL.yes (by rfl) (Ex.store_pel (by rfl) (by rfl) (by rfl) (by rfl) (by rfl) ?_ (by rfl) ?_); (· (omega)))
            refine WL.nil ?_
            (repeat refine J.seq ?_)
            refine J.region ?_
            first | (refine WL.yes (by rfl) (Ex.q (q_fieldAddr (by rfl)) (by rfl) ?_)) | (refine WL.yes (by rfl) (Ex.q (q_fieldAddr_rop (by rfl) (by rfl)) (by rfl) ?_)) | (refine WL.yes (by rfl) (Ex.q (q_fieldAddr_pel (by rfl)) (by rfl) ?_))
            first | (refine WL.yes (by rfl) (Ex.q (q_fieldAddr (by rfl)) (by rfl) ?_)) | (refine WL.yes (by rfl) (Ex.q (q_fieldAddr_rop (by rfl) (by rfl)) (by rfl) ?_)) | (refine WL.yes (by rfl) (Ex.q (q_fieldAddr_pel (by rfl)) (by rfl) ?_))
            first | (refine WL.yes (by rfl) (Ex.h (h_load (by rfl) (by rfl) (by rfl)) (by rfl) ?_)) | (refine WL.yes (by rfl) (Ex.q (q_load (by rfl) (by rfl) (by rfl)) (by rfl) ?_)) | (refine WL.yes (by rfl) (Ex.q (q_load_rop (by rfl) (by rfl)) (by rfl) ?_)) | (refine WL.yes (by rfl) (Ex.h (h_load_pel (by rfl) (by rfl) ?_ (by rfl)) (by rfl) ?_); (· (omega))) | (refine WL.yes (by rfl) (Ex.q (q_load_pel (by rfl) (by rfl) ?_ (by rfl)) (by rfl) ?_); (· (omega)))
            refine WL.yes (by rfl) (Ex.q (q_move (by rfl)) (by rfl) ?_)
            first | (refine WL.yes (by rfl) (Ex.q (q_int (by rfl) (by rfl) (by rfl)) (by rfl) ?_)) | (refine WL.yes (by rfl) (Ex.q (q_eqb (by rfl) (by rfl)) (by rfl) ?_)) | (refine WL.yes (by rfl) (Ex.q (q_eqp rfl rfl (by rfl) (by rfl) ?_) (by rfl) ?_); (· (rfl))) | (refine WL.yes (by rfl) (Ex.q (q_eqs (by rfl) (by rfl)) (by rfl) ?_))
            refine WL.yes (by rfl) (Ex.q (q_move (by rfl)) (by rfl) ?_)
            refine WL.split 139 (by rfl) (fun g139 => ?_) (fun g139 => ?_)
            · skip
              (first | have eg139 := of_decide_eq_true g139 | have eg139 := of_decide_eq_false g139 | have eg139 := ndec_t g139 | have eg139 := ndec_f g139 | skip)
              first | (refine WL.yes (by rfl) (Ex.q (q_fieldAddr (by rfl)) (by rfl) ?_)) | (refine WL.yes (by rfl) (Ex.q (q_fieldAddr_rop (by rfl) (by rfl)) (by rfl) ?_)) | (refine WL.yes (by rfl) (Ex.q (q_fieldAddr_pel (by rfl)) (by rfl) ?_))
              first | (refine WL.yes (by rfl) (Ex.h (h_load (by rfl) (by rfl) (by rfl)) (by rfl) ?_)) | (refine WL.yes (by rfl) (Ex.q (q_load (by rfl) (by rfl) (by rfl)) (by rfl) ?_)) | (refine WL.yes (by rfl) (Ex.q (q_load_rop (by rfl) (by rfl)) (by rfl) ?_)) | (refine WL.yes (by rfl) (Ex.h (h_load_pel (by rfl) (by rfl) ?_ (by rfl)) (by rfl) ?_); (· (omega))) | (refine WL.yes (by rfl) (Ex.q (q_load_pel (by rfl) (by rfl) ?_ (by rfl)) (by rfl) ?_); (· (omega)))
              first | (refine WL.yes (by rfl) (Ex.h (h_load (by rfl) (by rfl) (by rfl)) (by rfl) ?_)) | (refine WL.yes (by rfl) (Ex.q (q_load (by rfl) (by rfl) (by rfl)) (by rfl) ?_)) | (refine WL.yes (by rfl) (Ex.q (q_load_rop (by rfl) (by rfl)) (by rfl) ?_)) | (refine WL.yes (by rfl) (Ex.h (h_load_pel (by rfl) (by rfl) ?_ (by rfl)) (by rfl) ?_); (· (omega))) | (refine WL.yes (by rfl) (Ex.q (q_load_pel (by rfl) (by rfl) ?_ (by rfl)) (by rfl) ?_); (· (omega)))
              refine WL.yes (by rfl) (Ex.callq (contains_spec _ _ _) (by rfl) (by rfl) rfl (fun _ h => h) ?_)
              refine WL.yes (by rfl) (Ex.q (q_pick_t (by rfl) (by rfl)) (by rfl) ?_)
              refine WL.yes (by rfl) (Ex.q (q_move (by rfl)) (by rfl) ?_)
              refine WL.split 145 (by rfl) (fun g145 => ?_) (fun g145 => ?_)
              · skip
                (first | have eg145 := of_decide_eq_true g145 | have eg145 := of_decide_eq_false g145 | have eg145 := ndec_t g145 | have eg145 := ndec_f g145 | skip)
                first | (refine WL.yes (by rfl) (Ex.q (q_fieldAddr (by rfl)) (by rfl) ?_)) | (refine WL.yes (by rfl) (Ex.q (q_fieldAddr_rop (by rfl) (by rfl)) (by rfl) ?_)) | (refine WL.yes (by rfl) (Ex.q (q_fieldAddr_pel (by rfl)) (by rfl) ?_))
                first | (refine WL.yes (by rfl) (Ex.h (h_load (by rfl) (by rfl) (by rfl)) (by rfl) ?_)) | (refine WL.yes (by rfl) (Ex.q (q_load (by rfl) (by rfl) (by rfl)) (by rfl) ?_)) | (refine WL.yes (by rfl) (Ex.q (q_load_rop (by rfl) (by rfl)) (by rfl) ?_)) | (refine WL.yes (by rfl) (Ex.h (h_load_pel (by rfl) (by rfl) ?_ (by rfl)) (by rfl) ?_); (· (omega))) | (refine WL.yes (by rfl) (Ex.q (q_load_pel (by rfl) (by rfl) ?_ (by rfl)) (by rfl) ?_); (· (omega)))
                first | (refine WL.yes (by rfl) (Ex.h (h_load (by rfl) (by rfl) (by rfl)) (by rfl) ?_)) | (refine WL.yes (by rfl) (Ex.q (q_load (by rfl) (by rfl) (by rfl)) (by rfl) ?_)) | (refine WL.yes (by rfl) (Ex.q (q_load_rop (by rfl) (by rfl)) (by rfl) ?_)) | (refine WL.yes (by rfl) (Ex.h (h_load_pel (by rfl) (by rfl) ?_ (by rfl)) (by rfl) ?_); (· (omega))) | (refine WL.yes (by rfl) (Ex.q (q_load_pel (by rfl) (by rfl) ?_ (by rfl)) (by rfl) ?_); (· (omega)))
                refine WL.yes (by rfl) (Ex.callq (contains_spec _ _ _) (by rfl) (by rfl) rfl (fun _ h => h) ?_)
                refine WL.yes (by rfl) (Ex.q (q_pick_t (by rfl) (by rfl)) (by rfl) ?_)
                refine WL.yes (by rfl) (Ex.q (q_move (by rfl)) (by rfl) ?_)
                refine WL.split 151 (by rfl) (fun g151 => ?_) (fun g151 => ?_)
                · skip
                  (first | have eg151 := of_decide_eq_true g151 | have eg151 := of_decide_eq_false g151 | have eg151 := ndec_t g151 | have eg151 := ndec_f g151 | skip)
                  have hc : cnd src dst dm (lat (expandL (mnL dst l)) j) = true := cnd_iff.2 ⟨eg139, g145, g151⟩
                  first | (refine WL.yes (by rfl) (Ex.q (q_fieldAddr (by rfl)) (by rfl) ?_)) | (refine WL.yes (by rfl) (Ex.q (q_fieldAddr_rop (by rfl) (by rfl)) (by rfl) ?_)) | (refine WL.yes (by rfl) (Ex.q (q_fieldAddr_pel (by rfl)) (by rfl) ?_))
                  first | (refine WL.yes (by rfl) (Ex.q (q_fieldAddr (by rfl)) (by rfl) ?_)) | (refine WL.yes (by rfl) (Ex.q (q_fieldAddr_rop (by rfl) (by rfl)) (by rfl) ?_)) | (refine WL.yes (by rfl) (Ex.q (q_fieldAddr_pel (by rfl)) (by rfl) ?_))
                  first | (refine WL.yes (by rfl) (Ex.h (h_load (by rfl) (by rfl) (by rfl)) (by rfl) ?_)) | (refine WL.yes (by rfl) (Ex.q (q_load (by rfl) (by rfl) (by rfl)) (by rfl) ?_)) | (refine WL.yes (by rfl) (Ex.q (q_load_rop (by rfl) (by rfl)) (by rfl) ?_)) | (refine WL.yes (by rfl) (Ex.h (h_load_pel (by rfl) (by rfl) ?_ (by rfl)) (by rfl) ?_); (· (omega))) | (refine WL.yes (by rfl) (Ex.q (q_load_pel (by rfl) (by rfl) ?_ (by rfl)) (by rfl) ?_); (· (omega)))
                  refine WL.yes (by rfl) (Ex.q (q_move (by rfl)) (by rfl) ?_)
                  refine WL.yes (by rfl) (Ex.q (q_int (by rfl) (by rfl) (by rfl)) (by rfl) ?_)
                  refine WL.yes (by rfl) (Ex.q (q_pick_t (by rfl) (by rfl)) (by rfl) ?_)
                  refine WL.nil ?_
                  (repeat refine J.seq ?_)
                  refine J.cond (by rfl) (fun c157 => ?_) (fun c157 => ?_)
                  · skip
                    (first | have e157 := of_decide_eq_true c157 | have e157 := of_decide_eq_false c157 | have e157 := ndec_t c157 | have e157 := ndec_f c157 | skip)
                    (repeat refine J.seq ?_)
                    refine J.region ?_
                    first | (refine WL.yes (by rfl) (Ex.q (q_fieldAddr (by rfl)) (by rfl) ?_)) | (refine WL.yes (by rfl) (Ex.q (q_fieldAddr_rop (by rfl) (by rfl)) (by rfl) ?_)) | (refine WL.yes (by rfl) (Ex.q (q_fieldAddr_pel (by rfl)) (by rfl) ?_))
                    first | (refine WL.yes (by rfl) (Ex.q (q_fieldAddr (by rfl)) (by rfl) ?_)) | (refine WL.yes (by rfl) (Ex.q (q_fieldAddr_rop (by rfl) (by rfl)) (by rfl) ?_)) | (refine WL.yes (by rfl) (Ex.q (q_fieldAddr_pel (by rfl)) (by rfl) ?_))
                    first | (refine WL.yes (by rfl) (Ex.h (h_load (by rfl) (by rfl) (by rfl)) (by rfl) ?_)) | (refine WL.yes (by rfl) (Ex.q (q_load (by rfl) (by rfl) (by rfl)) (by rfl) ?_)) | (refine WL.yes (by rfl) (Ex.q (q_load_rop (by rfl) (by rfl)) (by rfl) ?_)) | (refine WL.yes (by rfl) (Ex.h (h_load_pel (by rfl) (by rfl) ?_ (by rfl)) (by rfl) ?_); (· (omega))) | (refine WL.yes (by rfl) (Ex.q (q_load_pel (by rfl) (by rfl) ?_ (by rfl)) (by rfl) ?_); (· (omega)))
                    refine WL.yes (by rfl) (Ex.q (q_assign (by rfl)) (by rfl) ?_)
                    refine WL.nil ?_
                    (repeat refine J.seq ?_)
                    refine J.region ?_
                    refine WL.yes (by rfl) (Ex.q (q_move (by rfl)) (by rfl) ?_)
                    refine WL.yes (by rfl) (Ex.q (q_move (by rfl)) (by rfl) ?_)
                    first | (refine WL.yes (by rfl) (Ex.q (q_indexAddr_ros (by rfl) (by rfl) (by intro _; rfl) ?_ ?_) (by rfl) ?_); (· (omega)); (· (omega))) | (refine WL.yes (by rfl) (Ex.q (q_indexAddr_sl (by rfl) (by rfl) ?_ ?_) (by rfl) ?_); (· (omega)); (· (omega))) | (refine WL.yes (by rfl) (Ex.q (q_indexAddr_arr (by rfl) (by rfl) ?_ ?_) (by rfl) ?_); (· (omega)); (· (omega)))
                    first | (refine WL.yes (by rfl) (Ex.h (h_load (by rfl) (by rfl) (by rfl)) (by rfl) ?_)) | (refine WL.yes (by rfl) (Ex.q (q_load (by rfl) (by rfl) (by rfl)) (by rfl) ?_)) | (refine WL.yes (by rfl) (Ex.q (q_load_rop (by rfl) (by rfl)) (by rfl) ?_)) | (refine WL.yes (by rfl) (Ex.h (h_load_pel (by rfl) (by rfl) ?_ (by rfl)) (by rfl) ?_); (· (omega))) | (refine WL.yes (by rfl) (Ex.q (q_load_pel (by rfl) (by rfl) ?_ (by rfl)) (by rfl) ?_); (· (omega)))
                    refine WL.set 164 (enE (lat (expandL (mnL dst l)) j)) (by rfl) (by rw [Nat.zero_add, Int.toNat_natCast]) ?_
                    first | (refine WL.yes (by rfl) (Ex.store (by rfl) (by rfl) (by rfl) (by rfl) (by rfl) (by rfl) ?_)) | (refine WL.yes (by rfl) (Ex.store_pel (by rfl) (by rfl) (by rfl) (by rfl) (by rfl) ?_ (by rfl) ?_); (· (omega)))
                    refine WL.nil ?_
                    (repeat refine J.seq ?_)
                    refine J.region ?_
                    refine WL.yes (by rfl) (Ex.q (q_move (by rfl)) (by rfl) ?_)
                    refine WL.yes (by rfl) (Ex.q (q_int (by rfl) (by rfl) (by rfl)) (by rfl) ?_)
                    refine WL.yes (by rfl) (Ex.q (q_assign (by rfl)) (by rfl) ?_)
                    refine WL.nil ?_
                    first | (refine Kloop.nextP (j + 1, s, f) ?_ ?_ ⟨same rfl, same (by rw [← w64_nat (k := j) (by omega)]; rfl), trivial⟩ ⟨same rfl, same rfl, same rfl, same rfl, same rfl, same rfl, same rfl, same rfl, trivial⟩ (.cons (s := 16) rfl (CLe.refl _ _) rfl (.cons (s := 4) rfl (CLe.refl _ _) rfl (.cons (s := 5) rfl (CLe.refl _ _) rfl (.cons (s := 7) rfl (CLe.refl _ _) rfl (.cons (s := 8) rfl (CLe.refl _ _) rfl (.cons (s := 2026) rfl (CLe.refl _ _) rfl .nil)))))); (· (exact ⟨by (try dsimp only); omega, hSM.skip hc⟩)); (· ((try dsimp only) <;> omega))) | (refine Kloop.nextP (j + 1, (lat (expandL (mnL dst l)) j).p.s.n, lat (expandL (mnL dst l)) j) ?_ ?_ ⟨same rfl, same (by rw [← w64_nat (k := j) (by omega)]; rfl), trivial⟩ ⟨same rfl, same rfl, same rfl, same rfl, same rfl, same rfl, same rfl, same rfl, trivial⟩ (.cons (s := 16) rfl (CLe.refl _ _) rfl (.cons (s := 4) rfl (CLe.refl _ _) rfl (.cons (s := 5) rfl (CLe.refl _ _) rfl (.cons (s := 7) rfl (CLe.refl _ _) rfl (.cons (s := 8) rfl (CLe.refl _ _) rfl (.cons (s := 2026) rfl (CLe.refl _ _) rfl .nil)))))); (· (exact ⟨by (try dsimp only); omega, hSM.yes hc e157⟩)); (· ((try dsimp only) <;> omega))) | (refine Kloop.nextP (j + 1, s, f) ?_ ?_ ⟨same rfl, same (by rw [← w64_nat (k := j) (by omega)]; rfl), trivial⟩ ⟨same rfl, same rfl, same rfl, same rfl, same rfl, same rfl, same rfl, same rfl, trivial⟩ (.cons (s := 16) rfl (CLe.refl _ _) rfl (.cons (s := 4) rfl (CLe.refl _ _) rfl (.cons (s := 5) rfl (CLe.refl _ _) rfl (.cons (s := 7) rfl (CLe.refl _ _) rfl (.cons (s := 8) rfl (CLe.refl _ _) rfl (.cons (s := 2026) rfl (CLe.refl _ _) rfl .nil)))))); (· (exact ⟨by (try dsimp only); omega, hSM.no (by omega) e157⟩)); (· ((try dsimp only) <;> omega)))
                  · skip
                    (first | have e157 := of_decide_eq_true c157 | have e157 := of_decide_eq_false c157 | have e157 := ndec_t c157 | have e157 := ndec_f c157 | skip)
                    (repeat refine J.seq ?_)
                    refine J.skip ?_
                    (repeat refine J.seq ?_)
                    refine J.region ?_
                    refine WL.yes (by rfl) (Ex.q (q_move (by rfl)) (by rfl) ?_)
                    refine WL.yes (by rfl) (Ex.q (q_int (by rfl) (by rfl) (by rfl)) (by rfl) ?_)
                    refine WL.yes (by rfl) (Ex.q (q_assign (by rfl)) (by rfl) ?_)
                    refine WL.nil ?_
                    first | (refine Kloop.nextP (j + 1, s, f) ?_ ?_ ⟨same rfl, same (by rw [← w64_nat (k := j) (by omega)]; rfl), trivial⟩ ⟨same rfl, same rfl, same rfl, same rfl, same rfl, same rfl, same rfl, same rfl, trivial⟩ (.cons (s := 16) rfl (CLe.refl _ _) rfl (.cons (s := 4) rfl (CLe.refl _ _) rfl (.cons (s := 5) rfl (CLe.refl _ _) rfl (.cons (s := 7) rfl (CLe.refl _ _) rfl (.cons (s := 8) rfl (CLe.refl _ _) rfl (.cons (s := 2026) rfl (CLe.refl _ _) rfl .nil)))))); (· (exact ⟨by (try dsimp only); omega, hSM.skip hc⟩)); (· ((try dsimp only) <;> omega))) | (refine Kloop.nextP (j + 1, (lat (expandL (mnL dst l)) j).p.s.n, lat (expandL (mnL dst l)) j) ?_ ?_ ⟨same rfl, same (by rw [← w64_nat (k := j) (by omega)]; rfl), trivial⟩ ⟨same rfl, same rfl, same rfl, same rfl, same rfl, same rfl, same rfl, same rfl, trivial⟩ (.cons (s := 16) rfl (CLe.refl _ _) rfl (.cons (s := 4) rfl (CLe.refl _ _) rfl (.cons (s := 5) rfl (CLe.refl _ _) rfl (.cons (s := 7) rfl (CLe.refl _ _) rfl (.cons (s := 8) rfl (CLe.refl _ _) rfl (.cons (s := 2026) rfl (CLe.refl _ _) rfl .nil)))))); (· (exact ⟨by (try dsimp only); omega, hSM.yes hc e157⟩)); (· ((try dsimp only) <;> omega))) | (refine Kloop.nextP (j + 1, s, f) ?_ ?_ ⟨same rfl, same (by rw [← w64_nat (k := j) (by omega)]; rfl), trivial⟩ ⟨same rfl, same rfl, same rfl, same rfl, same rfl, same rfl, same rfl, same rfl, trivial⟩ (.cons (s := 16) rfl (CLe.refl _ _) rfl (.cons (s := 4) rfl (CLe.refl _ _) rfl (.cons (s := 5) rfl (CLe.refl _ _) rfl (.cons (s := 7) rfl (CLe.refl _ _) rfl (.cons (s := 8) rfl (CLe.refl _ _) rfl (.cons (s := 2026) rfl (CLe.refl _ _) rfl .nil)))))); (· (exact ⟨by (try dsimp only); omega, hSM.no (by omega) e157⟩)); (· ((try dsimp only) <;> omega)))
                · skip
                  (first | have eg151 := of_decide_eq_true g151 | have eg151 := of_decide_eq_false g151 | have eg151 := ndec_t g151 | have eg151 := ndec_f g151 | skip)
                  have hc : cnd src dst dm (lat (expandL (mnL dst l)) j) = false := cnd_f3 g151
                  refine WL.no (by rfl) (by rfl) ?_
                  refine WL.no (by rfl) (by rfl) ?_
                  refine WL.no (by rfl) (by rfl) ?_
                  refine WL.no (by rfl) (by rfl) ?_
                  refine WL.no (by rfl) (by rfl) ?_
                  refine WL.yes (by rfl) (Ex.q (q_pick_f (by rfl) (by rfl)) (by rfl) ?_)
                  refine WL.nil ?_
                  (repeat refine J.seq ?_)
                  refine J.condF (by rfl) ?_
                  (repeat refine J.seq ?_)
                  refine J.skip ?_
                  (repeat refine J.seq ?_)
                  refine J.region ?_
                  refine WL.yes (by rfl) (Ex.q (q_move (by rfl)) (by rfl) ?_)
                  refine WL.yes (by rfl) (Ex.q (q_int (by rfl) (by rfl) (by rfl)) (by rfl) ?_)
                  refine WL.yes (by rfl) (Ex.q (q_assign (by rfl)) (by rfl) ?_)
                  refine WL.nil ?_
                  first | (refine Kloop.nextP (j + 1, s, f) ?_ ?_ ⟨same rfl, same (by rw [← w64_nat (k := j) (by omega)]; rfl), trivial⟩ ⟨same rfl, same rfl, same rfl, same rfl, same rfl, same rfl, same rfl, same rfl, trivial⟩ (.cons (s := 16) rfl (CLe.refl _ _) rfl (.cons (s := 4) rfl (CLe.refl _ _) rfl (.cons (s := 5) rfl (CLe.refl _ _) rfl (.cons (s := 7) rfl (CLe.refl _ _) rfl (.cons (s := 8) rfl (CLe.refl _ _) rfl (.cons (s := 2026) rfl (CLe.refl _ _) rfl .nil)))))); (· (exact ⟨by (try dsimp only); omega, hSM.skip hc⟩)); (· ((try dsimp only) <;> omega))) | (refine Kloop.nextP (j + 1, (lat (expandL (mnL dst l)) j).p.s.n, lat (expandL (mnL dst l)) j) ?_ ?_ ⟨same rfl, same (by rw [← w64_nat (k := j) (by omega)]; rfl), trivial⟩ ⟨same rfl, same rfl, same rfl, same rfl, same rfl, same rfl, same rfl, same rfl, trivial⟩ (.cons (s := 16) rfl (CLe.refl _ _) rfl (.cons (s := 4) rfl (CLe.refl _ _) rfl (.cons (s := 5) rfl (CLe.refl _ _) rfl (.cons (s := 7) rfl (CLe.refl _ _) rfl (.cons (s := 8) rfl (CLe.refl _ _) rfl (.cons (s := 2026) rfl (CLe.refl _ _) rfl .nil)))))); (· (exact ⟨by (try dsimp only); omega, hSM.yes hc e157⟩)); (· ((try dsimp only) <;> omega))) | (refine Kloop.nextP (j + 1, s, f) ?_ ?_ ⟨same rfl, same (by rw [← w64_nat (k := j) (by omega)]; rfl), trivial⟩ ⟨same rfl, same rfl, same rfl, same rfl, same rfl, same rfl, same rfl, same rfl, trivial⟩ (.cons (s := 16) rfl (CLe.refl _ _) rfl (.cons (s := 4) rfl (CLe.refl _ _) rfl (.cons (s := 5) rfl (CLe.refl _ _) rfl (.cons (s := 7) rfl (CLe.refl _ _) rfl (.cons (s := 8) rfl (CLe.refl _ _) rfl (.cons (s := 2026) rfl (CLe.refl _ _) rfl .nil)))))); (· (exact ⟨by (try dsimp only); omega, hSM.no (by omega) e157⟩)); (· ((try dsimp only) <;> omega)))
              · skip
                (first | have eg145 := of_decide_eq_true g145 | have eg145 := of_decide_eq_false g145 | have eg145 := ndec_t g145 | have eg145 := ndec_f g145 | skip)
                have hc : cnd src dst dm (lat (expandL (mnL dst l)) j) = false := cnd_f2 g145
                refine WL.no (by rfl) (by rfl) ?_
                refine WL.no (by rfl) (by rfl) ?_
                refine WL.no (by rfl) (by rfl) ?_
                refine WL.no (by rfl) (by rfl) ?_
                refine WL.yes (by rfl) (Ex.q (q_pick_f (by rfl) (by rfl)) (by rfl) ?_)
                refine WL.yes (by rfl) (Ex.q (q_move (by rfl)) (by rfl) ?_)
                refine WL.no (by rfl) (by rfl) ?_
                refine WL.no (by rfl) (by rfl) ?_
                refine WL.no (by rfl) (by rfl) ?_
                refine WL.no (by rfl) (by rfl) ?_
                refine WL.no (by rfl) (by rfl) ?_
                refine WL.yes (by rfl) (Ex.q (q_pick_f (by rfl) (by rfl)) (by rfl) ?_)
                refine WL.nil ?_
                (repeat refine J.seq ?_)
                refine J.condF (by rfl) ?_
                (repeat refine J.seq ?_)
                refine J.skip ?_
                (repeat refine J.seq ?_)
                refine J.region ?_
                refine WL.yes (by rfl) (Ex.q (q_move (by rfl)) (by rfl) ?_)
                refine WL.yes (by rfl) (Ex.q (q_int (by rfl) (by rfl) (by rfl)) (by rfl) ?_)
                refine WL.yes (by rfl) (Ex.q (q_assign (by rfl)) (by rfl) ?_)
                refine WL.nil ?_
                first | (refine Kloop.nextP (j + 1, s, f) ?_ ?_ ⟨same rfl, same (by rw [← w64_nat (k := j) (by omega)]; rfl), trivial⟩ ⟨same rfl, same rfl, same rfl, same rfl, same rfl, same rfl, same rfl, same rfl, trivial⟩ (.cons (s := 16) rfl (CLe.refl _ _) rfl (.cons (s := 4) rfl (CLe.refl _ _) rfl (.cons (s := 5) rfl (CLe.refl _ _) rfl (.cons (s := 7) rfl (CLe.refl _ _) rfl (.cons (s := 8) rfl (CLe.refl _ _) rfl (.cons (s := 2026) rfl (CLe.refl _ _) rfl .nil)))))); (· (exact ⟨by (try dsimp only); omega, hSM.skip hc⟩)); (· ((try dsimp only) <;> omega))) | (refine Kloop.nextP (j + 1, (lat (expandL (mnL dst l)) j).p.s.n, lat (expandL (mnL dst l)) j) ?_ ?_ ⟨same rfl, same (by rw [← w64_nat (k := j) (by omega)]; rfl), trivial⟩ ⟨same rfl, same rfl, same rfl, same rfl, same rfl, same rfl, same rfl, same rfl, trivial⟩ (.cons (s := 16) rfl (CLe.refl _ _) rfl (.cons (s := 4) rfl (CLe.refl _ _) rfl (.cons (s := 5) rfl (CLe.refl _ _) rfl (.cons (s := 7) rfl (CLe.refl _ _) rfl (.cons (s := 8) rfl (CLe.refl _ _) rfl (.cons (s := 2026) rfl (CLe.refl _ _) rfl .nil)))))); (· (exact ⟨by (try dsimp only); omega, hSM.yes hc e157⟩)); (· ((try dsimp only) <;> omega))) | (refine Kloop.nextP (j + 1, s, f) ?_ ?_ ⟨same rfl, same (by rw [← w64_nat (k := j) (by omega)]; rfl), trivial⟩ ⟨same rfl, same rfl, same rfl, same rfl, same rfl, same rfl, same rfl, same rfl, trivial⟩ (.cons (s := 16) rfl (CLe.refl _ _) rfl (.cons (s := 4) rfl (CLe.refl _ _) rfl (.cons (s := 5) rfl (CLe.refl _ _) rfl (.cons (s := 7) rfl (CLe.refl _ _) rfl (.cons (s := 8) rfl (CLe.refl _ _) rfl (.cons (s := 2026) rfl (CLe.refl _ _) rfl .nil)))))); (· (exact ⟨by (try dsimp only); omega, hSM.no (by omega) e157⟩)); (· ((try dsimp only) <;> omega)))
            · skip
              (first | have eg139 := of_decide_eq_true g139 | have eg139 := of_decide_eq_false g139 | have eg139 := ndec_t g139 | have eg139 := ndec_f g139 | skip)
              have hc : cnd src dst dm (lat (expandL (mnL dst l)) j) = false := cnd_f1 eg139
              refine WL.no (by rfl) (by rfl) ?_
              refine WL.no (by rfl) (by rfl) ?_
              refine WL.no (by rfl) (by rfl) ?_
              refine WL.no (by rfl) (by rfl) ?_
              refine WL.yes (by rfl) (Ex.q (q_pick_f (by rfl) (by rfl)) (by rfl) ?_)
              refine WL.yes (by rfl) (Ex.q (q_move (by rfl)) (by rfl) ?_)
              refine WL.no (by rfl) (by rfl) ?_
              refine WL.no (by rfl) (by rfl) ?_
              refine WL.no (by rfl) (by rfl) ?_
              refine WL.no (by rfl) (by rfl) ?_
              refine WL.yes (by rfl) (Ex.q (q_pick_f (by rfl) (by rfl)) (by rfl) ?_)
              refine WL.yes (by rfl) (Ex.q (q_move (by rfl)) (by rfl) ?_)
              refine WL.no (by rfl) (by rfl) ?_
              refine WL.no (by rfl) (by rfl) ?_
              refine WL.no (by rfl) (by rfl) ?_
              refine WL.no (by rfl) (by rfl) ?_
              refine WL.no (by rfl) (by rfl) ?_
              refine WL.yes (by rfl) (Ex.q (q_pick_f (by rfl) (by rfl)) (by rfl) ?_)
              refine WL.nil ?_
              (repeat refine J.seq ?_)
              refine J.condF (by rfl) ?_
              (repeat refine J.seq ?_)
              refine J.skip ?_
              (repeat refine J.seq ?_)
              refine J.region ?_
              refine WL.yes (by rfl) (Ex.q (q_move (by rfl)) (by rfl) ?_)
              refine WL.yes (by rfl) (Ex.q (q_int (by rfl) (by rfl) (by rfl)) (by rfl) ?_)
              refine WL.yes (by rfl) (Ex.q (q_assign (by rfl)) (by rfl) ?_)
              refine WL.nil ?_
              first | (refine Kloop.nextP (j + 1, s, f) ?_ ?_ ⟨same rfl, same (by rw [← w64_nat (k := j) (by omega)]; rfl), trivial⟩ ⟨same rfl, same rfl, same rfl, same rfl, same rfl, same rfl, same rfl, same rfl, trivial⟩ (.cons (s := 16) rfl (CLe.refl _ _) rfl (.cons (s := 4) rfl (CLe.refl _ _) rfl (.cons (s := 5) rfl (CLe.refl _ _) rfl (.cons (s := 7) rfl (CLe.refl _ _) rfl (.cons (s := 8) rfl (CLe.refl _ _) rfl (.cons (s := 2026) rfl (CLe.refl _ _) rfl .nil)))))); (· (exact ⟨by (try dsimp only); omega, hSM.skip hc⟩)); (· ((try dsimp only) <;> omega))) | (refine Kloop.nextP (j + 1, (lat (expandL (mnL dst l)) j).p.s.n, lat (expandL (mnL dst l)) j) ?_ ?_ ⟨same rfl, same (by rw [← w64_nat (k := j) (by omega)]; rfl), trivial⟩ ⟨same rfl, same rfl, same rfl, same rfl, same rfl, same rfl, same rfl, same rfl, trivial⟩ (.cons (s := 16) rfl (CLe.refl _ _) rfl (.cons (s := 4) rfl (CLe.refl _ _) rfl (.cons (s := 5) rfl (CLe.refl _ _) rfl (.cons (s := 7) rfl (CLe.refl _ _) rfl (.cons (s := 8) rfl (CLe.refl _ _) rfl (.cons (s := 2026) rfl (CLe.refl _ _) rfl .nil)))))); (· (exact ⟨by (try dsimp only); omega, hSM.yes hc e157⟩)); (· ((try dsimp only) <;> omega))) | (refine Kloop.nextP (j + 1, s, f) ?_ ?_ ⟨same rfl, same (by rw [← w64_nat (k := j) (by omega)]; rfl), trivial⟩ ⟨same rfl, same rfl, same rfl, same rfl, same rfl, same rfl, same rfl, same rfl, trivial⟩ (.cons (s := 16) rfl (CLe.refl _ _) rfl (.cons (s := 4) rfl (CLe.refl _ _) rfl (.cons (s := 5) rfl (CLe.refl _ _) rfl (.cons (s := 7) rfl (CLe.refl _ _) rfl (.cons (s := 8) rfl (CLe.refl _ _) rfl (.cons (s := 2026) rfl (CLe.refl _ _) rfl .nil)))))); (· (exact ⟨by (try dsimp only); omega, hSM.no (by omega) e157⟩)); (· ((try dsimp only) <;> omega)))
          · skip
            (first | have e126 := of_decide_eq_true c126 | have e126 := of_decide_eq_false c126 | have e126 := ndec_t c126 | have e126 := ndec_f c126 | skip)
            (repeat refine J.seq ?_)
            refine J.exit ?_
            (repeat refine J.seq ?_)
            have hj9 : j = (expandL (mnL dst l)).length := by omega
            rw [hj9] at hSM
            refine J.region ?_
            refine WL.yes (by rfl) (Ex.q (q_move (by rfl)) (by rfl) ?_)
            refine WL.yes (by rfl) (Ex.q (q_not (by rfl)) (by rfl) ?_)
            refine WL.nil ?_
            (repeat refine J.seq ?_)
            refine J.cond (by rfl) (fun c166 => ?_) (fun c166 => ?_)
            · skip
              (first | have e166 := of_decide_eq_true c166 | have e166 := of_decide_eq_false c166 | have e166 := ndec_t c166 | have e166 := ndec_f c166 | skip)
              have hbo : bok = false := nbt c166
              have hneg := means_no hMP hs hd (hBB.none hbo) hSM
              (repeat refine J.seq ?_)
              refine J.region ?_
              refine WL.yes (by rfl) (Ex.q (q_move (by rfl)) (by rfl) ?_)
              refine WL.yes (by rfl) (Ex.q (q_int (by rfl) (by rfl) (by rfl)) (by rfl) ?_)
              refine WL.set 168 (.bool true) (by rfl) (congrArg V.bool ((decide_eq_true hneg).symm : true = _)) ?_
              refine WL.yes (by rfl) (Ex.q (q_move (by rfl)) (by rfl) ?_)
              refine WL.yes (by rfl) (Ex.callL (live19_spec) (by rfl) (by rfl) .nil ?_)
              rintro _ _ ⟨rfl, rfl⟩
              refine WL.yes (by rfl) (Ex.q (q_pick_t (by rfl) (by rfl)) (by rfl) ?_)
              refine WL.yes (by rfl) (Ex.q (q_assign (by rfl)) (by rfl) ?_)
              refine WL.nil ?_
              (repeat refine J.seq ?_)
              refine J.ret ?_
              (repeat (with_reducible first | refine Kseq.ret ?_ | refine Kblock.ret ?_ | refine Kloop.ret ?_ | refine Kcut.ret ?_))
              refine Kret.mk [] (.tmp (by rfl) (.nil)) (by rfl) trivial (HLe.nil _ _) ?_
              exact ⟨rfl, rfl⟩
            · skip
              (first | have e166 := of_decide_eq_true c166 | have e166 := of_decide_eq_false c166 | have e166 := ndec_t c166 | have e166 := ndec_f c166 | skip)
              have hbo : bok = true := nbf c166
              obtain ⟨q, hq, hq2, hq3, hq4⟩ := hBB.some hbo
              subst hq
              obtain ⟨hpos, hI, hH⟩ := means_yes hMP hs hd (lat_mem hq2) hq3 hq4 hDM hSM
              have hAd := (hMP.ok _ (lat_mem hq2)).2
              refine J.vecsome (t := 8) rfl (by omega) ?_
              intro bP hbP
              subst hbP
              (repeat refine J.seq ?_)
              refine J.skip ?_
              (repeat refine J.seq ?_)
              refine J.draw [4, 5, 7, 8, 16, 2026] 9999 [(0, true), (1, true), (2, true), (3, true), (4, true), (5, true), (6, true), (7, true), (8, true), (9, true), (10, true), (11, true), (12, true), (13, true), (14, true), (15, true), (16, true), (17, true), (18, true), (19, true), (20, true), (21, true), (22, true), (23, false), (24, true), (25, true)] (by kernel_rfl) rfl (by kernel_rfl) ?_
              intro F4 hF4
              refine WS.take rfl (by rfl) (by rfl) (q_move (by rfl)) ?_
              refine WS.take rfl (by rfl) (by rfl) (q_int (by rfl) (by rfl) (by rfl)) ?_
              refine WS.set 173 (.bool true) (by rfl) (congrArg V.bool ((decide_eq_true (by omega)).symm : true = _)) ?_
              refine WS.take rfl (by rfl) (by rfl) (q_move (by rfl)) ?_
              first | (refine WS.take rfl (by rfl) (by rfl) (q_fieldAddr (by rfl)) ?_) | (refine WS.take rfl (by rfl) (by rfl) (q_fieldAddr_rop (by rfl) (by rfl)) ?_) | (refine WS.take rfl (by rfl) (by rfl) (q_fieldAddr_pel (by rfl)) ?_)
              first | (refine WS.take rfl (by rfl) (by rfl) (q_load (by rfl) (by rfl) (by rfl)) ?_) | (refine WS.take rfl (by rfl) (by rfl) (q_load_rop (by rfl) (by rfl)) ?_) | (refine WS.take rfl (by rfl) (by rfl) (q_load_pel (by rfl) (by rfl) ?_ (by rfl)) ?_; (· (omega)))
              refine WS.take rfl (by rfl) (by rfl) (q_move (by rfl)) ?_
              refine WS.take rfl (by rfl) (by rfl) (q_move (by rfl)) ?_
              first | (refine WS.take rfl (by rfl) (by rfl) (q_indexAddr_ros (by rfl) (by rfl) (by intro _; rfl) ?_ ?_) ?_; (· (omega)); (· (omega))) | (refine WS.take rfl (by rfl) (by rfl) (q_indexAddr_sl (by rfl) (by rfl) ?_ ?_) ?_; (· (omega)); (· (omega))) | (refine WS.take rfl (by rfl) (by rfl) (q_indexAddr_arr (by rfl) (by rfl) ?_ ?_) ?_; (· (omega)); (· (omega)))
              first | (refine WS.take rfl (by rfl) (by rfl) (q_fieldAddr (by rfl)) ?_) | (refine WS.take rfl (by rfl) (by rfl) (q_fieldAddr_rop (by rfl) (by rfl)) ?_) | (refine WS.take rfl (by rfl) (by rfl) (q_fieldAddr_pel (by rfl)) ?_)
              first | (refine WS.take rfl (by rfl) (by rfl) (q_load (by rfl) (by rfl) (by rfl)) ?_) | (refine WS.take rfl (by rfl) (by rfl) (q_load_rop (by rfl) (by rfl)) ?_) | (refine WS.take rfl (by rfl) (by rfl) (q_load_pel (by rfl) (by rfl) ?_ (by rfl)) ?_; (· (omega)))
              refine WS.set 181 (iV (lat (mnL dst l) q).i) (by rfl) (by rw [Nat.zero_add, Int.toNat_natCast]) ?_
              first | (refine WS.take rfl (by rfl) (by rfl) (q_int (by rfl) (by rfl) (by rfl)) ?_) | (refine WS.take rfl (by rfl) (by rfl) (q_eqb (by rfl) (by rfl)) ?_) | (refine WS.take rfl (by rfl) (by rfl) (q_eqp rfl rfl (by rfl) (by rfl) ?_) ?_; (· (rfl))) | (refine WS.take rfl (by rfl) (by rfl) (q_eqs (by rfl) (by rfl)) ?_)
              refine WS.set 182 (.bool true) (by rfl) (congrArg V.bool ((decide_eq_true hI).symm : true = _)) ?_
              refine WS.take rfl (by rfl) (by rfl) (q_pick_t (by rfl) (by rfl)) ?_
              refine WS.take rfl (by rfl) (by rfl) (q_move (by rfl)) ?_
              first | (refine WS.take rfl (by rfl) (by rfl) (q_fieldAddr (by rfl)) ?_) | (refine WS.take rfl (by rfl) (by rfl) (q_fieldAddr_rop (by rfl) (by rfl)) ?_) | (refine WS.take rfl (by rfl) (by rfl) (q_fieldAddr_pel (by rfl)) ?_)
              first | (refine WS.take rfl (by rfl) (by rfl) (q_load (by rfl) (by rfl) (by rfl)) ?_) | (refine WS.take rfl (by rfl) (by rfl) (q_load_rop (by rfl) (by rfl)) ?_) | (refine WS.take rfl (by rfl) (by rfl) (q_load_pel (by rfl) (by rfl) ?_ (by rfl)) ?_; (· (omega)))
              refine WS.take rfl (by rfl) (by rfl) (q_move (by rfl)) ?_
              refine WS.take rfl (by rfl) (by rfl) (q_move (by rfl)) ?_
              first | (refine WS.take rfl (by rfl) (by rfl) (q_indexAddr_ros (by rfl) (by rfl) (by intro _; rfl) ?_ ?_) ?_; (· (omega)); (· (omega))) | (refine WS.take rfl (by rfl) (by rfl) (q_indexAddr_sl (by rfl) (by rfl) ?_ ?_) ?_; (· (omega)); (· (omega))) | (refine WS.take rfl (by rfl) (by rfl) (q_indexAddr_arr (by rfl) (by rfl) ?_ ?_) ?_; (· (omega)); (· (omega)))
              first | (refine WS.take rfl (by rfl) (by rfl) (q_fieldAddr (by rfl)) ?_) | (refine WS.take rfl (by rfl) (by rfl) (q_fieldAddr_rop (by rfl) (by rfl)) ?_) | (refine WS.take rfl (by rfl) (by rfl) (q_fieldAddr_pel (by rfl)) ?_)
              first | (refine WS.take rfl (by rfl) (by rfl) (q_load (by rfl) (by rfl) (by rfl)) ?_) | (refine WS.take rfl (by rfl) (by rfl) (q_load_rop (by rfl) (by rfl)) ?_) | (refine WS.take rfl (by rfl) (by rfl) (q_load_pel (by rfl) (by rfl) ?_ (by rfl)) ?_; (· (omega)))
              refine WS.set 191 (adV (lat (mnL dst l) q).h) (by rfl) (by rw [Nat.zero_add, Int.toNat_natCast]) ?_
              first | (refine WS.take rfl (by rfl) (by rfl) (q_int (by rfl) (by rfl) (by rfl)) ?_) | (refine WS.take rfl (by rfl) (by rfl) (q_eqb (by rfl) (by rfl)) ?_) | (refine WS.take rfl (by rfl) (by rfl) (q_eqp rfl rfl (by rfl) (by rfl) ?_) ?_; (· (rfl))) | (refine WS.take rfl (by rfl) (by rfl) (q_eqs (by rfl) (by rfl)) ?_)
              refine WS.set 192 (.bool true) (by rfl) (congrArg V.bool ((by rw [hH, eqAd hAd hAd]; simp) : true = _)) ?_
              refine WS.take rfl (by rfl) (by rfl) (q_pick_t (by rfl) (by rfl)) ?_
              refine WS.take rfl (by rfl) (by rfl) (q_move (by rfl)) ?_
              refine WS.ex rfl (by rfl) (Ex.callL (live19_spec) (by rfl) (by rfl) .nil ?_)
              rintro _ _ ⟨rfl, rfl⟩
              refine WS.take rfl (by rfl) (by rfl) (q_pick_t (by rfl) (by rfl)) ?_
              refine WS.take rfl (by rfl) (by rfl) (q_assign (by rfl)) ?_
              refine WS.nil ?_
              (repeat refine J.seq ?_)
              refine J.ret ?_
              (repeat (with_reducible first | refine Kseq.ret ?_ | refine Kblock.ret ?_ | refine Kloop.ret ?_ | refine Kcut.ret ?_))
              refine Kret.mk [] (.tmp (by rfl) (.nil)) (by rfl) trivial (HLe.nil _ _) ?_
              exact ⟨rfl, rfl⟩

end Go.Vm
