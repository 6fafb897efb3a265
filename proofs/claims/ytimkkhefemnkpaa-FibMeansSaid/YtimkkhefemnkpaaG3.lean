/- Expand, the program's and the document's: the walks. -/
import Derived.Test.YtimkkhefemnkpaaG2
namespace Go.Vm
open Go Go.Proofs

theorem plain_expand {l : List En} {t : Nat} : ∀ (r : V) (H' : List (Nat × Cell)), (∃ a' cap', r = V.sl t a' 51 0 cap' l.length ∧ H' = [(t, lvec a' 37 51 cap' enE l)]) → Plain r H' := by
  rintro r H' ⟨a, cap, rfl, rfl⟩
  exact plain_enl fun _ => trivial
theorem plain_q {v : V} (hv : ∀ A, VOk A v) : ∀ (r : V) (H' : List (Nat × Cell)), (r = v ∧ H' = []) → Plain r H' := by
  rintro r H' ⟨rfl, rfl⟩
  exact Plain.nil hv
theorem en_eta {p : Pr} {i : Int} {h : List Int} {x : En} (h1 : x.p = p) (h2 : x.i = i) (h3 : x.h = h) : (⟨p, i, h⟩ : En) = x := by subst h1; subst h2; subst h3; rfl
theorem pstep_yes {G : List En} {x y : En} {out : List En} (h : pcond x y = true) : pstep G x out y = tput (mkE G x y) out := if_pos h
theorem pstep_no {G : List En} {x y : En} {out : List En} (h : ¬ pcond x y = true) : pstep G x out y = out := if_neg h
theorem sq_le {n m : Nat} (h : n ≤ m) : n * n ≤ m * m := Nat.mul_le_mul h h
theorem pf_bound {G : List En} {i k : Nat} (hG : G.length ≤ 1000) (hi : i < G.length) (hk : k ≤ G.length) : ((G.take k).foldl (pstep G (lat G i)) ((G.take i).foldl (xstep G) [])).length ≤ 1000000 := by
  have h1 := pfold_len (G := G) (x := lat G i) (G.take k) ((G.take i).foldl (xstep G) [])
  have h2 := xfold_len (G := G) (G.take i) []
  have h3 := List.length_take_le k G
  have h3' := List.length_take_le' k G
  have h4 : (G.take i).length = i := by rw [List.length_take]; omega
  rw [h4] at h2
  have h5 : i * G.length ≤ 999 * 1000 := Nat.mul_le_mul (by omega) hG
  simp only [List.length_nil] at h2
  omega
theorem xf_bound {G : List En} (hG : G.length ≤ 1000) : (expG G).length ≤ 1000000 := by
  have h1 := exp_len G
  have h2 : G.length * G.length ≤ 1000 * 1000 := sq_le hG
  omega
theorem covers_self {a : List Int} {n : Int} (h : okp a n = true) : covers a n a n = true := by
  unfold covers contains
  have := okp_eqb h
  rw [h, this]; simp
theorem mtch_self {G : List En} (hG : GOk G) {x y : En} (hx : x ∈ G) (hy : y ∈ G) (h : pcond x y = true) : mtch ⟨x.p.d, y.p.s⟩ y = true := by
  have hy2 := okpair_iff.1 (hG.may y hy)
  have h1 : covers y.p.d.a y.p.d.n x.p.d.a x.p.d.n = true := by simp only [pcond, Bool.and_eq_true] at h; exact h.1
  have h2 := okpair_iff.1 (pcond_ok h)
  exact mtch_yes h1 (covers_self hy2.2.1) (hy2.2.2.trans h2.2.2.symm)
theorem pcond_of {G : List En} (hG : GOk G) {x y : En} (hx : x ∈ G) (hy : y ∈ G) (h1 : covers y.p.d.a y.p.d.n x.p.d.a x.p.d.n = true) (h2 : famP y.p.s.a y.p.s.n = famP x.p.d.a x.p.d.n) : pcond x y = true := by
  have hx2 := okpair_iff.1 (hG.may x hx)
  have hy2 := okpair_iff.1 (hG.may y hy)
  unfold pcond
  rw [h1]
  exact okpair_iff.2 ⟨hx2.1, hy2.2.1, h2.symm⟩

/-- how far the search for the best has come -/
def BI (p : Pr) (G : List En) (j : Nat) (b : Int) : Prop := j ≤ G.length ∧ ((b = -1 ∧ bestO p (G.take j) = none) ∨ ∃ q : Nat, b = q ∧ q < G.length ∧ bestO p (G.take j) = some (lat G q))
theorem BI.zero (p : Pr) (G : List En) : BI p G 0 (-1) := ⟨Nat.zero_le _, .inl ⟨rfl, rfl⟩⟩
theorem BI.skip {p : Pr} {G : List En} {j : Nat} {b : Int} (h : BI p G j b) (hj : j < G.length) (hm : mtch p (lat G j) = false) : BI p G (j + 1) b := by
  refine ⟨hj, ?_⟩
  rw [best_step hj, bstep_skip hm]; exact h.2
theorem BI.first {p : Pr} {G : List En} {j : Nat} {b : Int} (h : BI p G j b) (hj : j < G.length) (hm : mtch p (lat G j) = true) (hb : b < 0) : BI p G (j + 1) j := by
  refine ⟨hj, .inr ⟨j, rfl, hj, ?_⟩⟩
  rcases h.2 with ⟨_, h2⟩ | ⟨q, h1, _⟩
  · rw [best_step hj, h2, bstep_first hm]
  · omega
theorem BI.yes {p : Pr} {G : List En} {j q : Nat} (h : BI p G j q) (hj : j < G.length) (hm : mtch p (lat G j) = true) (hb : better (lat G j) (lat G q)) : BI p G (j + 1) j := by
  refine ⟨hj, .inr ⟨j, rfl, hj, ?_⟩⟩
  rcases h.2 with ⟨h1, _⟩ | ⟨q', h1, _, h2⟩
  · omega
  · have : q' = q := by omega
    subst this
    rw [best_step hj, h2, bstep_yes hm hb]
theorem BI.no {p : Pr} {G : List En} {j q : Nat} (h : BI p G j q) (hj : j < G.length) (hm : mtch p (lat G j) = true) (hb : ¬ better (lat G j) (lat G q)) : BI p G (j + 1) q := by
  refine ⟨hj, .inr ?_⟩
  rcases h.2 with ⟨h1, _⟩ | ⟨q', h1, h3, h2⟩
  · omega
  · have : q' = q := by omega
    subst this
    exact ⟨q', rfl, h3, by rw [best_step hj, h2, bstep_no hm hb]⟩
theorem BI.fin {p : Pr} {G : List En} {b : Int} (h : BI p G G.length b) {y : En} (hy : y ∈ G) (hm : mtch p y = true) : ∃ q : Nat, b = q ∧ q < G.length ∧ bestL p G = lat G q := by
  have e : G.take G.length = G := List.take_length
  rcases h.2 with ⟨_, h2⟩ | ⟨q, h1, h3, h2⟩
  · rw [e] at h2
    rcases best_spec p G with ⟨_, h4⟩ | ⟨c, h4, _⟩
    · rw [h4 y hy] at hm; cases hm
    · rw [h2] at h4; cases h4
  · rw [e] at h2
    exact ⟨q, h1, h3, by unfold bestL; rw [h2]; rfl⟩

set_option maxHeartbeats 16000000 in
set_option maxRecDepth 100000 in
theorem expand_spec {a : Option Addr} {cap : Nat} {l : List En} (ho : ∀ e ∈ l, e.ok) (hl : l.length ≤ 1000) : Spec Try.prog 26 [lros a cap enE l] [] (fun r H' => ∃ a' cap', r = .sl 2026 a' 51 0 cap' (expandL l).length ∧ H' = [(2026, lvec a' 37 51 cap' enE (expandL l))]) := by
  refine Spec.of_J Try.func26 rfl Try.ntmps26 Try.results26 rfl ?_
  intro A F hAF
  obtain ⟨G, hGe⟩ : ∃ G, G = cleanL l := ⟨_, rfl⟩
  have hG : GOk G := hGe ▸ clean_ok ho
  have hGl : G.length ≤ 1000 := by have := clean_len l; rw [hGe]; omega
  (repeat refine J.seq ?_)
  refine J.region ?_
  refine WL.yes (by rfl) (Ex.q (q_assign (by rfl)) (by rfl) ?_)
  refine WL.nil ?_
  (repeat refine J.seq ?_)
  refine J.region ?_
  refine WL.yes (by rfl) (Ex.makeMap prE enE (by rfl) ?_)
  intro b16
  refine WL.yes (by rfl) (Ex.q (q_assign (by rfl)) (by rfl) ?_)
  refine WL.nil ?_
  (repeat refine J.seq ?_)
  refine J.region ?_
  refine WL.yes (by rfl) (Ex.q (q_move (by rfl)) (by rfl) ?_)
  first | (refine WL.yes (by rfl) (Ex.q (q_len_slice (by rfl) (by rfl)) (by rfl) ?_)) | (refine WL.yes (by rfl) (Ex.q (q_len_string (by rfl)) (by rfl) ?_))
  refine WL.yes (by rfl) (Ex.q (q_move (by rfl)) (by rfl) ?_)
  refine WL.nil ?_
  (repeat refine J.seq ?_)
  refine J.block ?_
  (repeat refine J.seq ?_)
  refine J.loopP (fun x : Nat => x ≤ l.length) (fun x => [(19, iV x)]) (fun x => [(16, tbl b16 (cleanL (l.take x)))]) (fun x => l.length - x) (0) [(3, _), (17, _), (18, _)] [] ⟨same rfl, same rfl, same rfl, trivial⟩ ⟨same rfl, trivial⟩ (.cons (s := 16) rfl (CLe.refl _ _) rfl .nil) ?_ ?_
  · ((try dsimp only) <;> omega)
  rintro k hx
  (try dsimp only at hx)
  (repeat refine J.seq ?_)
  refine J.region ?_
  refine WL.yes (by rfl) (Ex.q (q_int (by rfl) (by rfl) (by rfl)) (by rfl) ?_)
  refine WL.nil ?_
  (repeat refine J.seq ?_)
  refine J.cond (by rfl) (fun c20 => ?_) (fun c20 => ?_)
  · skip
    (first | have e20 := of_decide_eq_true c20 | have e20 := of_decide_eq_false c20 | have e20 := ndec_t c20 | have e20 := ndec_f c20 | skip)
    (repeat refine J.seq ?_)
    refine J.skip ?_
    (repeat refine J.seq ?_)
    refine J.block ?_
    (repeat refine J.seq ?_)
    refine J.region ?_
    first | (refine WL.yes (by rfl) (Ex.q (q_indexAddr_ros (by rfl) (by rfl) (by intro _; rfl) ?_ ?_) (by rfl) ?_); (· (omega)); (· (omega))) | (refine WL.yes (by rfl) (Ex.q (q_indexAddr_sl (by rfl) (by rfl) ?_ ?_) (by rfl) ?_); (· (omega)); (· (omega))) | (refine WL.yes (by rfl) (Ex.q (q_indexAddr_arr (by rfl) (by rfl) ?_ ?_) (by rfl) ?_); (· (omega)); (· (omega)))
    first | (refine WL.yes (by rfl) (Ex.h (h_load (by rfl) (by rfl) (by rfl)) (by rfl) ?_)) | (refine WL.yes (by rfl) (Ex.q (q_load (by rfl) (by rfl) (by rfl)) (by rfl) ?_)) | (refine WL.yes (by rfl) (Ex.q (q_load_rop (by rfl) (by rfl)) (by rfl) ?_)) | (refine WL.yes (by rfl) (Ex.h (h_load_pel (by rfl) (by rfl) ?_ (by rfl)) (by rfl) ?_); (· (omega))) | (refine WL.yes (by rfl) (Ex.q (q_load_pel (by rfl) (by rfl) ?_ (by rfl)) (by rfl) ?_); (· (omega)))
    have hk2 : k < l.length := by omega
    have hk3 : (lat l k).ok := lat_ok ho hk2
    have hC : TOk (cleanL (l.take k)) := (clean_ok (fun x hx => ho x (List.take_subset _ _ hx))).toTOk
    refine WL.set 22 (enE (lat l k)) (by rfl) (by rw [Int.toNat_natCast]) ?_
    refine WL.yes (by rfl) (Ex.alloc (by rfl) ?_)
    intro b5
    first | (refine WL.yes (by rfl) (Ex.store (by rfl) (by rfl) (by rfl) (by rfl) (by rfl) (by rfl) ?_)) | (refine WL.yes (by rfl) (Ex.store_pel (by rfl) (by rfl) (by rfl) (by rfl) (by rfl) ?_ (by rfl) ?_); (· (omega)))
    refine WL.nil ?_
    (repeat refine J.seq ?_)
    refine J.region ?_
    refine WL.yes (by rfl) (Ex.q (q_move (by rfl)) (by rfl) ?_)
    first | (refine WL.yes (by rfl) (Ex.q (q_fieldAddr (by rfl)) (by rfl) ?_)) | (refine WL.yes (by rfl) (Ex.q (q_fieldAddr_rop (by rfl) (by rfl)) (by rfl) ?_)) | (refine WL.yes (by rfl) (Ex.q (q_fieldAddr_pel (by rfl)) (by rfl) ?_))
    first | (refine WL.yes (by rfl) (Ex.h (h_load (by rfl) (by rfl) (by rfl)) (by rfl) ?_)) | (refine WL.yes (by rfl) (Ex.q (q_load (by rfl) (by rfl) (by rfl)) (by rfl) ?_)) | (refine WL.yes (by rfl) (Ex.q (q_load_rop (by rfl) (by rfl)) (by rfl) ?_)) | (refine WL.yes (by rfl) (Ex.h (h_load_pel (by rfl) (by rfl) ?_ (by rfl)) (by rfl) ?_); (· (omega))) | (refine WL.yes (by rfl) (Ex.q (q_load_pel (by rfl) (by rfl) ?_ (by rfl)) (by rfl) ?_); (· (omega)))
    first | (refine WL.yes (by rfl) (Ex.h (h_lookup_ok (e := prE) (f := enE) rfl (by rfl) (by rfl) (by rfl) hC.keys hk3.1) (by rfl) ?_)) | (refine WL.yes (by rfl) (Ex.q (q_lookup_ok (e := prE) (f := enE) rfl (by rfl) (by rfl) (by rfl) hC.keys hk3.1) (by rfl) ?_))
    refine WL.yes (by rfl) (Ex.q (q_move (by rfl)) (by rfl) ?_)
    first | (refine WL.yes (by rfl) (Ex.q (q_extract2 (by rfl) (by rfl)) (by rfl) ?_)) | (refine WL.yes (by rfl) (Ex.q (q_extract3 (by rfl) (by rfl)) (by rfl) ?_))
    first | (refine WL.yes (by rfl) (Ex.q (q_extract2 (by rfl) (by rfl)) (by rfl) ?_)) | (refine WL.yes (by rfl) (Ex.q (q_extract3 (by rfl) (by rfl)) (by rfl) ?_))
    refine WL.yes (by rfl) (Ex.alloc (by rfl) ?_)
    intro b6
    first | (refine WL.yes (by rfl) (Ex.store (by rfl) (by rfl) (by rfl) (by rfl) (by rfl) (by rfl) ?_)) | (refine WL.yes (by rfl) (Ex.store_pel (by rfl) (by rfl) (by rfl) (by rfl) (by rfl) ?_ (by rfl) ?_); (· (omega)))
    refine WL.yes (by rfl) (Ex.q (q_assign (by rfl)) (by rfl) ?_)
    refine WL.nil ?_
    (repeat refine J.seq ?_)
    refine J.region ?_
    refine WL.yes (by rfl) (Ex.q (q_move (by rfl)) (by rfl) ?_)
    refine WL.yes (by rfl) (Ex.q (q_not (by rfl)) (by rfl) ?_)
    refine WL.yes (by rfl) (Ex.q (q_move (by rfl)) (by rfl) ?_)
    refine WL.split 32 (by rfl) (fun g32 => ?_) (fun g32 => ?_)
    · skip
      (first | have eg32 := of_decide_eq_true g32 | have eg32 := of_decide_eq_false g32 | have eg32 := ndec_t g32 | have eg32 := ndec_f g32 | skip)
      have t1 : has (lat l k).p (cleanL (l.take k)) = false := by rw [← isSome_has]; simpa using g32
      first | (refine WL.yes (by rfl) (Ex.q (q_fieldAddr (by rfl)) (by rfl) ?_)) | (refine WL.yes (by rfl) (Ex.q (q_fieldAddr_rop (by rfl) (by rfl)) (by rfl) ?_)) | (refine WL.yes (by rfl) (Ex.q (q_fieldAddr_pel (by rfl)) (by rfl) ?_))
      first | (refine WL.yes (by rfl) (Ex.h (h_load (by rfl) (by rfl) (by rfl)) (by rfl) ?_)) | (refine WL.yes (by rfl) (Ex.q (q_load (by rfl) (by rfl) (by rfl)) (by rfl) ?_)) | (refine WL.yes (by rfl) (Ex.q (q_load_rop (by rfl) (by rfl)) (by rfl) ?_)) | (refine WL.yes (by rfl) (Ex.h (h_load_pel (by rfl) (by rfl) ?_ (by rfl)) (by rfl) ?_); (· (omega))) | (refine WL.yes (by rfl) (Ex.q (q_load_pel (by rfl) (by rfl) ?_ (by rfl)) (by rfl) ?_); (· (omega)))
      refine WL.yes (by rfl) (Ex.callq (checkPair_spec _ _ _ _) (by rfl) (by rfl) rfl (fun _ h => h) ?_)
      first | (refine WL.yes (by rfl) (Ex.q (q_int (by rfl) (by rfl) (by rfl)) (by rfl) ?_)) | (refine WL.yes (by rfl) (Ex.q (q_eqb (by rfl) (by rfl)) (by rfl) ?_)) | (refine WL.yes (by rfl) (Ex.q (q_eqp rfl rfl (by rfl) (by rfl) ?_) (by rfl) ?_); (· (rfl))) | (refine WL.yes (by rfl) (Ex.q (q_eqs (by rfl) (by rfl)) (by rfl) ?_))
      refine WL.yes (by rfl) (Ex.q (q_pick_t (by rfl) (by rfl)) (by rfl) ?_)
      refine WL.nil ?_
      (repeat refine J.seq ?_)
      refine J.cond (by rfl) (fun c37 => ?_) (fun c37 => ?_)
      · skip
        (first | have e37 := of_decide_eq_true c37 | have e37 := of_decide_eq_false c37 | have e37 := ndec_t c37 | have e37 := ndec_f c37 | skip)
        have t2 : okR (lat l k).p = true := okpair_of c37
        (repeat refine J.seq ?_)
        refine J.region ?_
        refine WL.yes (by rfl) (Ex.q (q_move (by rfl)) (by rfl) ?_)
        first | (refine WL.yes (by rfl) (Ex.q (q_fieldAddr (by rfl)) (by rfl) ?_)) | (refine WL.yes (by rfl) (Ex.q (q_fieldAddr_rop (by rfl) (by rfl)) (by rfl) ?_)) | (refine WL.yes (by rfl) (Ex.q (q_fieldAddr_pel (by rfl)) (by rfl) ?_))
        first | (refine WL.yes (by rfl) (Ex.h (h_load (by rfl) (by rfl) (by rfl)) (by rfl) ?_)) | (refine WL.yes (by rfl) (Ex.q (q_load (by rfl) (by rfl) (by rfl)) (by rfl) ?_)) | (refine WL.yes (by rfl) (Ex.q (q_load_rop (by rfl) (by rfl)) (by rfl) ?_)) | (refine WL.yes (by rfl) (Ex.h (h_load_pel (by rfl) (by rfl) ?_ (by rfl)) (by rfl) ?_); (· (omega))) | (refine WL.yes (by rfl) (Ex.q (q_load_pel (by rfl) (by rfl) ?_ (by rfl)) (by rfl) ?_); (· (omega)))
        first | (refine WL.yes (by rfl) (Ex.h (h_load (by rfl) (by rfl) (by rfl)) (by rfl) ?_)) | (refine WL.yes (by rfl) (Ex.q (q_load (by rfl) (by rfl) (by rfl)) (by rfl) ?_)) | (refine WL.yes (by rfl) (Ex.q (q_load_rop (by rfl) (by rfl)) (by rfl) ?_)) | (refine WL.yes (by rfl) (Ex.h (h_load_pel (by rfl) (by rfl) ?_ (by rfl)) (by rfl) ?_); (· (omega))) | (refine WL.yes (by rfl) (Ex.q (q_load_pel (by rfl) (by rfl) ?_ (by rfl)) (by rfl) ?_); (· (omega)))
        refine WL.yes (by rfl) (Ex.mapUpdate (lat l k).p (lat l k) (by rfl) (by rfl) (by rfl) (by rfl) hC.keys hk3.1 ?_)
        refine WL.nil ?_
        (repeat refine J.seq ?_)
        refine J.region ?_
        refine WL.yes (by rfl) (Ex.q (q_int (by rfl) (by rfl) (by rfl)) (by rfl) ?_)
        refine WL.yes (by rfl) (Ex.q (q_move (by rfl)) (by rfl) ?_)
        refine WL.nil ?_
        first | ((have hs1 := clean_step hk2; rw [cstep_yes t2 t1] at hs1); refine Kloop.nextP (k + 1) ?_ ?_ ⟨same (by rw [← w64_nat (k := k) (by omega)]; rfl), trivial⟩ ⟨same rfl, same rfl, same rfl, trivial⟩ (.cons (s := 16) rfl (by rw [hs1]; exact CLe.mp (aput_tput hC (lat l k)).symm) rfl .nil); (· ((try dsimp only) <;> omega)); (· ((try dsimp only) <;> omega))) | ((have hs1 := clean_step hk2; rw [hno] at hs1); refine Kloop.nextP (k + 1) ?_ ?_ ⟨same (by rw [← w64_nat (k := k) (by omega)]; rfl), trivial⟩ ⟨same rfl, same rfl, same rfl, trivial⟩ (.cons (s := 16) rfl (by rw [hs1]; exact CLe.refl _ _) rfl .nil); (· ((try dsimp only) <;> omega)); (· ((try dsimp only) <;> omega)))
      · skip
        (first | have e37 := of_decide_eq_true c37 | have e37 := of_decide_eq_false c37 | have e37 := ndec_t c37 | have e37 := ndec_f c37 | skip)
        have hno := cstep_no (out := cleanL (l.take k)) (e := lat l k) (fun x => Bool.false_ne_true ((okpair_not c37).symm.trans x.1))
        (repeat refine J.seq ?_)
        refine J.skip ?_
        (repeat refine J.seq ?_)
        refine J.region ?_
        refine WL.yes (by rfl) (Ex.q (q_int (by rfl) (by rfl) (by rfl)) (by rfl) ?_)
        refine WL.yes (by rfl) (Ex.q (q_move (by rfl)) (by rfl) ?_)
        refine WL.nil ?_
        first | ((have hs1 := clean_step hk2; rw [cstep_yes t2 t1] at hs1); refine Kloop.nextP (k + 1) ?_ ?_ ⟨same (by rw [← w64_nat (k := k) (by omega)]; rfl), trivial⟩ ⟨same rfl, same rfl, same rfl, trivial⟩ (.cons (s := 16) rfl (by rw [hs1]; exact CLe.mp (aput_tput hC (lat l k)).symm) rfl .nil); (· ((try dsimp only) <;> omega)); (· ((try dsimp only) <;> omega))) | ((have hs1 := clean_step hk2; rw [hno] at hs1); refine Kloop.nextP (k + 1) ?_ ?_ ⟨same (by rw [← w64_nat (k := k) (by omega)]; rfl), trivial⟩ ⟨same rfl, same rfl, same rfl, trivial⟩ (.cons (s := 16) rfl (by rw [hs1]; exact CLe.refl _ _) rfl .nil); (· ((try dsimp only) <;> omega)); (· ((try dsimp only) <;> omega)))
    · skip
      (first | have eg32 := of_decide_eq_true g32 | have eg32 := of_decide_eq_false g32 | have eg32 := ndec_t g32 | have eg32 := ndec_f g32 | skip)
      have hno := cstep_no (out := cleanL (l.take k)) (e := lat l k) (fun x => by rw [← isSome_has] at x; rw [x.2] at g32; cases g32)
      refine WL.no (by rfl) (by rfl) ?_
      refine WL.no (by rfl) (by rfl) ?_
      refine WL.no (by rfl) (by rfl) ?_
      refine WL.no (by rfl) (by rfl) ?_
      refine WL.yes (by rfl) (Ex.q (q_pick_f (by rfl) (by rfl)) (by rfl) ?_)
      refine WL.nil ?_
      (repeat refine J.seq ?_)
      refine J.condF (by rfl) ?_
      (repeat refine J.seq ?_)
      refine J.skip ?_
      (repeat refine J.seq ?_)
      refine J.region ?_
      refine WL.yes (by rfl) (Ex.q (q_int (by rfl) (by rfl) (by rfl)) (by rfl) ?_)
      refine WL.yes (by rfl) (Ex.q (q_move (by rfl)) (by rfl) ?_)
      refine WL.nil ?_
      first | ((have hs1 := clean_step hk2; rw [cstep_yes t2 t1] at hs1); refine Kloop.nextP (k + 1) ?_ ?_ ⟨same (by rw [← w64_nat (k := k) (by omega)]; rfl), trivial⟩ ⟨same rfl, same rfl, same rfl, trivial⟩ (.cons (s := 16) rfl (by rw [hs1]; exact CLe.mp (aput_tput hC (lat l k)).symm) rfl .nil); (· ((try dsimp only) <;> omega)); (· ((try dsimp only) <;> omega))) | ((have hs1 := clean_step hk2; rw [hno] at hs1); refine Kloop.nextP (k + 1) ?_ ?_ ⟨same (by rw [← w64_nat (k := k) (by omega)]; rfl), trivial⟩ ⟨same rfl, same rfl, same rfl, trivial⟩ (.cons (s := 16) rfl (by rw [hs1]; exact CLe.refl _ _) rfl .nil); (· ((try dsimp only) <;> omega)); (· ((try dsimp only) <;> omega)))
  · skip
    (first | have e20 := of_decide_eq_true c20 | have e20 := of_decide_eq_false c20 | have e20 := ndec_t c20 | have e20 := ndec_f c20 | skip)
    (repeat refine J.seq ?_)
    refine J.exit ?_
    (repeat refine J.seq ?_)
    have hkl : l.take k = l := List.take_of_length_le (by omega)
    rw [hkl]
    refine J.region ?_
    refine WL.yes (by rfl) (Ex.q (q_move (by rfl)) (by rfl) ?_)
    refine WL.yes (by rfl) (Ex.callL (list61 16 1061 b16 (by decide) (clean_ok ho).toTOk (by have := clean_len l; omega)) (by rfl) (by rfl) (.cons rfl .nil) ?_)
    rintro _ _ ⟨a44, cap44, rfl, rfl⟩
    rw [← hGe]
    refine WL.yes (by rfl) (Ex.q (q_assign (by rfl)) (by rfl) ?_)
    refine WL.nil ?_
    (repeat refine J.seq ?_)
    refine J.region ?_
    refine WL.yes (by rfl) (Ex.makeMap prE enE (by rfl) ?_)
    intro b45
    refine WL.yes (by rfl) (Ex.q (q_assign (by rfl)) (by rfl) ?_)
    refine WL.nil ?_
    (repeat refine J.seq ?_)
    refine J.region ?_
    refine WL.yes (by rfl) (Ex.q (q_move (by rfl)) (by rfl) ?_)
    first | (refine WL.yes (by rfl) (Ex.q (q_len_slice (by rfl) (by rfl)) (by rfl) ?_)) | (refine WL.yes (by rfl) (Ex.q (q_len_string (by rfl)) (by rfl) ?_))
    refine WL.yes (by rfl) (Ex.q (q_move (by rfl)) (by rfl) ?_)
    refine WL.nil ?_
    (repeat refine J.seq ?_)
    refine J.block ?_
    (repeat refine J.seq ?_)
    refine J.loopP (fun x : Nat => x ≤ G.length) (fun x => [(48, iV x)]) (fun x => [(45, tbl b45 ((G.take x).foldl (xstep G) []))]) (fun x => G.length - x) (0) [(8, _), (9, _), (46, _), (47, _)] [(16, _), (1061, _)] ⟨same rfl, same rfl, same rfl, same rfl, trivial⟩ ⟨same rfl, trivial⟩ (.cons (s := 45) rfl (CLe.refl _ _) rfl (.cons (s := 16) rfl (CLe.refl _ _) rfl (.cons (s := 1061) rfl (CLe.refl _ _) rfl .nil))) ?_ ?_
    · ((try dsimp only) <;> omega)
    rintro i hx
    (try dsimp only at hx)
    (repeat refine J.seq ?_)
    refine J.region ?_
    refine WL.yes (by rfl) (Ex.q (q_int (by rfl) (by rfl) (by rfl)) (by rfl) ?_)
    refine WL.nil ?_
    (repeat refine J.seq ?_)
    refine J.cond (by rfl) (fun c49 => ?_) (fun c49 => ?_)
    · skip
      (first | have e49 := of_decide_eq_true c49 | have e49 := of_decide_eq_false c49 | have e49 := ndec_t c49 | have e49 := ndec_f c49 | skip)
      (repeat refine J.seq ?_)
      refine J.skip ?_
      (repeat refine J.seq ?_)
      refine J.block ?_
      (repeat refine J.seq ?_)
      have hi2 : i < G.length := by omega
      have hix : lat G i ∈ G := lat_mem hi2
      refine J.vecsome (t := 1061) rfl (by omega) ?_
      intro b44 hb44
      subst hb44
      refine J.region ?_
      first | (refine WL.yes (by rfl) (Ex.q (q_indexAddr_ros (by rfl) (by rfl) (by intro _; rfl) ?_ ?_) (by rfl) ?_); (· (omega)); (· (omega))) | (refine WL.yes (by rfl) (Ex.q (q_indexAddr_sl (by rfl) (by rfl) ?_ ?_) (by rfl) ?_); (· (omega)); (· (omega))) | (refine WL.yes (by rfl) (Ex.q (q_indexAddr_arr (by rfl) (by rfl) ?_ ?_) (by rfl) ?_); (· (omega)); (· (omega)))
      first | (refine WL.yes (by rfl) (Ex.h (h_load (by rfl) (by rfl) (by rfl)) (by rfl) ?_)) | (refine WL.yes (by rfl) (Ex.q (q_load (by rfl) (by rfl) (by rfl)) (by rfl) ?_)) | (refine WL.yes (by rfl) (Ex.q (q_load_rop (by rfl) (by rfl)) (by rfl) ?_)) | (refine WL.yes (by rfl) (Ex.h (h_load_pel (by rfl) (by rfl) ?_ (by rfl)) (by rfl) ?_); (· (omega))) | (refine WL.yes (by rfl) (Ex.q (q_load_pel (by rfl) (by rfl) ?_ (by rfl)) (by rfl) ?_); (· (omega)))
      refine WL.set 51 (enE (lat G i)) (by rfl) (by rw [Nat.zero_add, Int.toNat_natCast]) ?_
      refine WL.yes (by rfl) (Ex.alloc (by rfl) ?_)
      intro b11
      first | (refine WL.yes (by rfl) (Ex.store (by rfl) (by rfl) (by rfl) (by rfl) (by rfl) (by rfl) ?_)) | (refine WL.yes (by rfl) (Ex.store_pel (by rfl) (by rfl) (by rfl) (by rfl) (by rfl) ?_ (by rfl) ?_); (· (omega)))
      refine WL.nil ?_
      (repeat refine J.seq ?_)
      refine J.region ?_
      refine WL.yes (by rfl) (Ex.q (q_move (by rfl)) (by rfl) ?_)
      first | (refine WL.yes (by rfl) (Ex.q (q_len_slice (by rfl) (by rfl)) (by rfl) ?_)) | (refine WL.yes (by rfl) (Ex.q (q_len_string (by rfl)) (by rfl) ?_))
      refine WL.yes (by rfl) (Ex.q (q_move (by rfl)) (by rfl) ?_)
      refine WL.nil ?_
      (repeat refine J.seq ?_)
      refine J.block ?_
      (repeat refine J.seq ?_)
      refine J.loopP (fun x : Nat => x ≤ G.length) (fun x => [(54, iV x)]) (fun x => [(45, tbl b45 ((G.take x).foldl (pstep G (lat G i)) ((G.take i).foldl (xstep G) [])))]) (fun x => G.length - x) (0) [(8, _), (9, _), (11, _), (46, _), (47, _), (48, _), (52, _), (53, _)] [(11, _), (16, _), (1061, _)] ⟨same rfl, same rfl, same rfl, same rfl, same rfl, same rfl, same rfl, same rfl, trivial⟩ ⟨same rfl, trivial⟩ (.cons (s := 45) rfl (CLe.refl _ _) rfl (.cons (s := 11) rfl (CLe.refl _ _) rfl (.cons (s := 16) rfl (CLe.refl _ _) rfl (.cons (s := 1061) rfl (CLe.refl _ _) rfl .nil)))) ?_ ?_
      · ((try dsimp only) <;> omega)
      rintro k hx
      (try dsimp only at hx)
      (repeat refine J.seq ?_)
      refine J.region ?_
      refine WL.yes (by rfl) (Ex.q (q_int (by rfl) (by rfl) (by rfl)) (by rfl) ?_)
      refine WL.nil ?_
      (repeat refine J.seq ?_)
      refine J.cond (by rfl) (fun c55 => ?_) (fun c55 => ?_)
      · skip
        (first | have e55 := of_decide_eq_true c55 | have e55 := of_decide_eq_false c55 | have e55 := ndec_t c55 | have e55 := ndec_f c55 | skip)
        (repeat refine J.seq ?_)
        refine J.skip ?_
        (repeat refine J.seq ?_)
        refine J.block ?_
        (repeat refine J.seq ?_)
        refine J.region ?_
        first | (refine WL.yes (by rfl) (Ex.q (q_indexAddr_ros (by rfl) (by rfl) (by intro _; rfl) ?_ ?_) (by rfl) ?_); (· (omega)); (· (omega))) | (refine WL.yes (by rfl) (Ex.q (q_indexAddr_sl (by rfl) (by rfl) ?_ ?_) (by rfl) ?_); (· (omega)); (· (omega))) | (refine WL.yes (by rfl) (Ex.q (q_indexAddr_arr (by rfl) (by rfl) ?_ ?_) (by rfl) ?_); (· (omega)); (· (omega)))
        first | (refine WL.yes (by rfl) (Ex.h (h_load (by rfl) (by rfl) (by rfl)) (by rfl) ?_)) | (refine WL.yes (by rfl) (Ex.q (q_load (by rfl) (by rfl) (by rfl)) (by rfl) ?_)) | (refine WL.yes (by rfl) (Ex.q (q_load_rop (by rfl) (by rfl)) (by rfl) ?_)) | (refine WL.yes (by rfl) (Ex.h (h_load_pel (by rfl) (by rfl) ?_ (by rfl)) (by rfl) ?_); (· (omega))) | (refine WL.yes (by rfl) (Ex.q (q_load_pel (by rfl) (by rfl) ?_ (by rfl)) (by rfl) ?_); (· (omega)))
        have hk2 : k < G.length := by omega
        have hky : lat G k ∈ G := lat_mem hk2
        have hPo : GOk ((G.take k).foldl (pstep G (lat G i)) ((G.take i).foldl (xstep G) [])) := pfold_ok hG (hG.ok _ hix) _ _ (fun y hy => hG.ok y (List.take_subset _ _ hy)) (xfold_ok hG _ _ (fun y hy => hG.ok y (List.take_subset _ _ hy)) GOk.nil)
        have hEo := mkE_ok hG (hG.ok _ hix) (hG.ok _ hky)
        refine WL.set 57 (enE (lat G k)) (by rfl) (by rw [Nat.zero_add, Int.toNat_natCast]) ?_
        refine WL.yes (by rfl) (Ex.alloc (by rfl) ?_)
        intro b13
        first | (refine WL.yes (by rfl) (Ex.store (by rfl) (by rfl) (by rfl) (by rfl) (by rfl) (by rfl) ?_)) | (refine WL.yes (by rfl) (Ex.store_pel (by rfl) (by rfl) (by rfl) (by rfl) (by rfl) ?_ (by rfl) ?_); (· (omega)))
        refine WL.nil ?_
        (repeat refine J.seq ?_)
        refine J.region ?_
        first | (refine WL.yes (by rfl) (Ex.q (q_fieldAddr (by rfl)) (by rfl) ?_)) | (refine WL.yes (by rfl) (Ex.q (q_fieldAddr_rop (by rfl) (by rfl)) (by rfl) ?_)) | (refine WL.yes (by rfl) (Ex.q (q_fieldAddr_pel (by rfl)) (by rfl) ?_))
        first | (refine WL.yes (by rfl) (Ex.q (q_fieldAddr (by rfl)) (by rfl) ?_)) | (refine WL.yes (by rfl) (Ex.q (q_fieldAddr_rop (by rfl) (by rfl)) (by rfl) ?_)) | (refine WL.yes (by rfl) (Ex.q (q_fieldAddr_pel (by rfl)) (by rfl) ?_))
        first | (refine WL.yes (by rfl) (Ex.h (h_load (by rfl) (by rfl) (by rfl)) (by rfl) ?_)) | (refine WL.yes (by rfl) (Ex.q (q_load (by rfl) (by rfl) (by rfl)) (by rfl) ?_)) | (refine WL.yes (by rfl) (Ex.q (q_load_rop (by rfl) (by rfl)) (by rfl) ?_)) | (refine WL.yes (by rfl) (Ex.h (h_load_pel (by rfl) (by rfl) ?_ (by rfl)) (by rfl) ?_); (· (omega))) | (refine WL.yes (by rfl) (Ex.q (q_load_pel (by rfl) (by rfl) ?_ (by rfl)) (by rfl) ?_); (· (omega)))
        first | (refine WL.yes (by rfl) (Ex.q (q_fieldAddr (by rfl)) (by rfl) ?_)) | (refine WL.yes (by rfl) (Ex.q (q_fieldAddr_rop (by rfl) (by rfl)) (by rfl) ?_)) | (refine WL.yes (by rfl) (Ex.q (q_fieldAddr_pel (by rfl)) (by rfl) ?_))
        first | (refine WL.yes (by rfl) (Ex.q (q_fieldAddr (by rfl)) (by rfl) ?_)) | (refine WL.yes (by rfl) (Ex.q (q_fieldAddr_rop (by rfl) (by rfl)) (by rfl) ?_)) | (refine WL.yes (by rfl) (Ex.q (q_fieldAddr_pel (by rfl)) (by rfl) ?_))
        first | (refine WL.yes (by rfl) (Ex.h (h_load (by rfl) (by rfl) (by rfl)) (by rfl) ?_)) | (refine WL.yes (by rfl) (Ex.q (q_load (by rfl) (by rfl) (by rfl)) (by rfl) ?_)) | (refine WL.yes (by rfl) (Ex.q (q_load_rop (by rfl) (by rfl)) (by rfl) ?_)) | (refine WL.yes (by rfl) (Ex.h (h_load_pel (by rfl) (by rfl) ?_ (by rfl)) (by rfl) ?_); (· (omega))) | (refine WL.yes (by rfl) (Ex.q (q_load_pel (by rfl) (by rfl) ?_ (by rfl)) (by rfl) ?_); (· (omega)))
        refine WL.yes (by rfl) (Ex.q (q_build (parts := [(0, .tmp 60), (1, .tmp 63)]) (by rfl) (by rfl)) (by rfl) ?_)
        refine WL.yes (by rfl) (Ex.alloc (by rfl) ?_)
        intro b14
        first | (refine WL.yes (by rfl) (Ex.store (by rfl) (by rfl) (by rfl) (by rfl) (by rfl) (by rfl) ?_)) | (refine WL.yes (by rfl) (Ex.store_pel (by rfl) (by rfl) (by rfl) (by rfl) (by rfl) ?_ (by rfl) ?_); (· (omega)))
        refine WL.nil ?_
        (repeat refine J.seq ?_)
        refine J.region ?_
        first | (refine WL.yes (by rfl) (Ex.q (q_fieldAddr (by rfl)) (by rfl) ?_)) | (refine WL.yes (by rfl) (Ex.q (q_fieldAddr_rop (by rfl) (by rfl)) (by rfl) ?_)) | (refine WL.yes (by rfl) (Ex.q (q_fieldAddr_pel (by rfl)) (by rfl) ?_))
        first | (refine WL.yes (by rfl) (Ex.q (q_fieldAddr (by rfl)) (by rfl) ?_)) | (refine WL.yes (by rfl) (Ex.q (q_fieldAddr_rop (by rfl) (by rfl)) (by rfl) ?_)) | (refine WL.yes (by rfl) (Ex.q (q_fieldAddr_pel (by rfl)) (by rfl) ?_))
        first | (refine WL.yes (by rfl) (Ex.h (h_load (by rfl) (by rfl) (by rfl)) (by rfl) ?_)) | (refine WL.yes (by rfl) (Ex.q (q_load (by rfl) (by rfl) (by rfl)) (by rfl) ?_)) | (refine WL.yes (by rfl) (Ex.q (q_load_rop (by rfl) (by rfl)) (by rfl) ?_)) | (refine WL.yes (by rfl) (Ex.h (h_load_pel (by rfl) (by rfl) ?_ (by rfl)) (by rfl) ?_); (· (omega))) | (refine WL.yes (by rfl) (Ex.q (q_load_pel (by rfl) (by rfl) ?_ (by rfl)) (by rfl) ?_); (· (omega)))
        first | (refine WL.yes (by rfl) (Ex.q (q_fieldAddr (by rfl)) (by rfl) ?_)) | (refine WL.yes (by rfl) (Ex.q (q_fieldAddr_rop (by rfl) (by rfl)) (by rfl) ?_)) | (refine WL.yes (by rfl) (Ex.q (q_fieldAddr_pel (by rfl)) (by rfl) ?_))
        first | (refine WL.yes (by rfl) (Ex.h (h_load (by rfl) (by rfl) (by rfl)) (by rfl) ?_)) | (refine WL.yes (by rfl) (Ex.q (q_load (by rfl) (by rfl) (by rfl)) (by rfl) ?_)) | (refine WL.yes (by rfl) (Ex.q (q_load_rop (by rfl) (by rfl)) (by rfl) ?_)) | (refine WL.yes (by rfl) (Ex.h (h_load_pel (by rfl) (by rfl) ?_ (by rfl)) (by rfl) ?_); (· (omega))) | (refine WL.yes (by rfl) (Ex.q (q_load_pel (by rfl) (by rfl) ?_ (by rfl)) (by rfl) ?_); (· (omega)))
        refine WL.yes (by rfl) (Ex.callq (covers_spec _ _ _ _) (by rfl) (by rfl) rfl (fun _ h => h) ?_)
        refine WL.yes (by rfl) (Ex.q (q_move (by rfl)) (by rfl) ?_)
        refine WL.split 71 (by rfl) (fun g71 => ?_) (fun g71 => ?_)
        · skip
          (first | have eg71 := of_decide_eq_true g71 | have eg71 := of_decide_eq_false g71 | have eg71 := ndec_t g71 | have eg71 := ndec_f g71 | skip)
          have q1 : covers (lat G k).p.d.a (lat G k).p.d.n (lat G i).p.d.a (lat G i).p.d.n = true := g71
          first | (refine WL.yes (by rfl) (Ex.h (h_load (by rfl) (by rfl) (by rfl)) (by rfl) ?_)) | (refine WL.yes (by rfl) (Ex.q (q_load (by rfl) (by rfl) (by rfl)) (by rfl) ?_)) | (refine WL.yes (by rfl) (Ex.q (q_load_rop (by rfl) (by rfl)) (by rfl) ?_)) | (refine WL.yes (by rfl) (Ex.h (h_load_pel (by rfl) (by rfl) ?_ (by rfl)) (by rfl) ?_); (· (omega))) | (refine WL.yes (by rfl) (Ex.q (q_load_pel (by rfl) (by rfl) ?_ (by rfl)) (by rfl) ?_); (· (omega)))
          refine WL.yes (by rfl) (Ex.callq (checkPair_spec _ _ _ _) (by rfl) (by rfl) rfl (fun _ h => h) ?_)
          first | (refine WL.yes (by rfl) (Ex.q (q_int (by rfl) (by rfl) (by rfl)) (by rfl) ?_)) | (refine WL.yes (by rfl) (Ex.q (q_eqb (by rfl) (by rfl)) (by rfl) ?_)) | (refine WL.yes (by rfl) (Ex.q (q_eqp rfl rfl (by rfl) (by rfl) ?_) (by rfl) ?_); (· (rfl))) | (refine WL.yes (by rfl) (Ex.q (q_eqs (by rfl) (by rfl)) (by rfl) ?_))
          refine WL.yes (by rfl) (Ex.q (q_pick_t (by rfl) (by rfl)) (by rfl) ?_)
          refine WL.nil ?_
          (repeat refine J.seq ?_)
          refine J.cond (by rfl) (fun c75 => ?_) (fun c75 => ?_)
          · skip
            (first | have e75 := of_decide_eq_true c75 | have e75 := of_decide_eq_false c75 | have e75 := ndec_t c75 | have e75 := ndec_f c75 | skip)
            have hpc : pcond (lat G i) (lat G k) = true := by unfold pcond; rw [q1]; exact okpair_of c75
            (repeat refine J.seq ?_)
            refine J.region ?_
            refine WL.yes (by rfl) (Ex.q (q_move (by rfl)) (by rfl) ?_)
            first | (refine WL.yes (by rfl) (Ex.h (h_load (by rfl) (by rfl) (by rfl)) (by rfl) ?_)) | (refine WL.yes (by rfl) (Ex.q (q_load (by rfl) (by rfl) (by rfl)) (by rfl) ?_)) | (refine WL.yes (by rfl) (Ex.q (q_load_rop (by rfl) (by rfl)) (by rfl) ?_)) | (refine WL.yes (by rfl) (Ex.h (h_load_pel (by rfl) (by rfl) ?_ (by rfl)) (by rfl) ?_); (· (omega))) | (refine WL.yes (by rfl) (Ex.q (q_load_pel (by rfl) (by rfl) ?_ (by rfl)) (by rfl) ?_); (· (omega)))
            refine WL.yes (by rfl) (Ex.callqz (best_spec63 (l := G) (p := ⟨(lat G i).p.d, (lat G k).p.s⟩) ?_ ?_) (by rfl) (by rfl) (.cons (.sla (by rfl)) (.cons (.same _) .nil)) (fun _ => by simp [VOk]) ?_); (· (exact hG.may)); (· (exact hGl))
            refine WL.yes (by rfl) (Ex.alloc (by rfl) ?_)
            intro b15
            first | (refine WL.yes (by rfl) (Ex.store (by rfl) (by rfl) (by rfl) (by rfl) (by rfl) (by rfl) ?_)) | (refine WL.yes (by rfl) (Ex.store_pel (by rfl) (by rfl) (by rfl) (by rfl) (by rfl) ?_ (by rfl) ?_); (· (omega)))
            refine WL.nil ?_
            (repeat refine J.seq ?_)
            refine J.region ?_
            refine WL.yes (by rfl) (Ex.q (q_move (by rfl)) (by rfl) ?_)
            first | (refine WL.yes (by rfl) (Ex.h (h_load (by rfl) (by rfl) (by rfl)) (by rfl) ?_)) | (refine WL.yes (by rfl) (Ex.q (q_load (by rfl) (by rfl) (by rfl)) (by rfl) ?_)) | (refine WL.yes (by rfl) (Ex.q (q_load_rop (by rfl) (by rfl)) (by rfl) ?_)) | (refine WL.yes (by rfl) (Ex.h (h_load_pel (by rfl) (by rfl) ?_ (by rfl)) (by rfl) ?_); (· (omega))) | (refine WL.yes (by rfl) (Ex.q (q_load_pel (by rfl) (by rfl) ?_ (by rfl)) (by rfl) ?_); (· (omega)))
            first | (refine WL.yes (by rfl) (Ex.h (h_load (by rfl) (by rfl) (by rfl)) (by rfl) ?_)) | (refine WL.yes (by rfl) (Ex.q (q_load (by rfl) (by rfl) (by rfl)) (by rfl) ?_)) | (refine WL.yes (by rfl) (Ex.q (q_load_rop (by rfl) (by rfl)) (by rfl) ?_)) | (refine WL.yes (by rfl) (Ex.h (h_load_pel (by rfl) (by rfl) ?_ (by rfl)) (by rfl) ?_); (· (omega))) | (refine WL.yes (by rfl) (Ex.q (q_load_pel (by rfl) (by rfl) ?_ (by rfl)) (by rfl) ?_); (· (omega)))
            first | (refine WL.yes (by rfl) (Ex.q (q_fieldAddr (by rfl)) (by rfl) ?_)) | (refine WL.yes (by rfl) (Ex.q (q_fieldAddr_rop (by rfl) (by rfl)) (by rfl) ?_)) | (refine WL.yes (by rfl) (Ex.q (q_fieldAddr_pel (by rfl)) (by rfl) ?_))
            first | (refine WL.yes (by rfl) (Ex.h (h_load (by rfl) (by rfl) (by rfl)) (by rfl) ?_)) | (refine WL.yes (by rfl) (Ex.q (q_load (by rfl) (by rfl) (by rfl)) (by rfl) ?_)) | (refine WL.yes (by rfl) (Ex.q (q_load_rop (by rfl) (by rfl)) (by rfl) ?_)) | (refine WL.yes (by rfl) (Ex.h (h_load_pel (by rfl) (by rfl) ?_ (by rfl)) (by rfl) ?_); (· (omega))) | (refine WL.yes (by rfl) (Ex.q (q_load_pel (by rfl) (by rfl) ?_ (by rfl)) (by rfl) ?_); (· (omega)))
            first | (refine WL.yes (by rfl) (Ex.q (q_fieldAddr (by rfl)) (by rfl) ?_)) | (refine WL.yes (by rfl) (Ex.q (q_fieldAddr_rop (by rfl) (by rfl)) (by rfl) ?_)) | (refine WL.yes (by rfl) (Ex.q (q_fieldAddr_pel (by rfl)) (by rfl) ?_))
            first | (refine WL.yes (by rfl) (Ex.h (h_load (by rfl) (by rfl) (by rfl)) (by rfl) ?_)) | (refine WL.yes (by rfl) (Ex.q (q_load (by rfl) (by rfl) (by rfl)) (by rfl) ?_)) | (refine WL.yes (by rfl) (Ex.q (q_load_rop (by rfl) (by rfl)) (by rfl) ?_)) | (refine WL.yes (by rfl) (Ex.h (h_load_pel (by rfl) (by rfl) ?_ (by rfl)) (by rfl) ?_); (· (omega))) | (refine WL.yes (by rfl) (Ex.q (q_load_pel (by rfl) (by rfl) ?_ (by rfl)) (by rfl) ?_); (· (omega)))
            refine WL.yes (by rfl) (Ex.q (q_build (parts := [(0, .tmp 81), (1, .tmp 83), (2, .tmp 85)]) (by rfl) (by rfl)) (by rfl) ?_)
            refine WL.yes (by rfl) (Ex.mapUpdate (mkE G (lat G i) (lat G k)).p (mkE G (lat G i) (lat G k)) (by rfl) (by rfl) (by rfl) (by rfl) hPo.keys hEo.1 ?_)
            refine WL.nil ?_
            (repeat refine J.seq ?_)
            refine J.region ?_
            refine WL.yes (by rfl) (Ex.q (q_int (by rfl) (by rfl) (by rfl)) (by rfl) ?_)
            refine WL.yes (by rfl) (Ex.q (q_move (by rfl)) (by rfl) ?_)
            refine WL.nil ?_
            first | ((have hs1 := pfold_step (x := lat G i) (out := ((G.take i).foldl (xstep G) [])) hk2; rw [pstep_yes hpc] at hs1); refine Kloop.nextP (k + 1) ?_ ?_ ⟨same (by rw [← w64_nat (k := k) (by omega)]; rfl), trivial⟩ ⟨same rfl, same rfl, same rfl, same rfl, same rfl, same rfl, same rfl, same rfl, trivial⟩ (.cons (s := 45) rfl (by rw [hs1]; exact CLe.mp (aput_tput hPo.toTOk _).symm) rfl (.cons (s := 11) rfl (CLe.refl _ _) rfl (.cons (s := 16) rfl (CLe.refl _ _) rfl (.cons (s := 1061) rfl (CLe.refl _ _) rfl .nil)))); (· ((try dsimp only) <;> omega)); (· ((try dsimp only) <;> omega))) | ((have hs1 := pfold_step (x := lat G i) (out := ((G.take i).foldl (xstep G) [])) hk2; rw [hno] at hs1); refine Kloop.nextP (k + 1) ?_ ?_ ⟨same (by rw [← w64_nat (k := k) (by omega)]; rfl), trivial⟩ ⟨same rfl, same rfl, same rfl, same rfl, same rfl, same rfl, same rfl, same rfl, trivial⟩ (.cons (s := 45) rfl (by rw [hs1]; exact CLe.refl _ _) rfl (.cons (s := 11) rfl (CLe.refl _ _) rfl (.cons (s := 16) rfl (CLe.refl _ _) rfl (.cons (s := 1061) rfl (CLe.refl _ _) rfl .nil)))); (· ((try dsimp only) <;> omega)); (· ((try dsimp only) <;> omega)))
          · skip
            (first | have e75 := of_decide_eq_true c75 | have e75 := of_decide_eq_false c75 | have e75 := ndec_t c75 | have e75 := ndec_f c75 | skip)
            have hno := pstep_no (G := G) (x := lat G i) (y := lat G k) (out := ((G.take k).foldl (pstep G (lat G i)) ((G.take i).foldl (xstep G) []))) (fun x => Bool.false_ne_true ((okpair_not c75).symm.trans (pcond_ok x)))
            (repeat refine J.seq ?_)
            refine J.skip ?_
            (repeat refine J.seq ?_)
            refine J.region ?_
            refine WL.yes (by rfl) (Ex.q (q_int (by rfl) (by rfl) (by rfl)) (by rfl) ?_)
            refine WL.yes (by rfl) (Ex.q (q_move (by rfl)) (by rfl) ?_)
            refine WL.nil ?_
            first | ((have hs1 := pfold_step (x := lat G i) (out := ((G.take i).foldl (xstep G) [])) hk2; rw [pstep_yes hpc] at hs1); refine Kloop.nextP (k + 1) ?_ ?_ ⟨same (by rw [← w64_nat (k := k) (by omega)]; rfl), trivial⟩ ⟨same rfl, same rfl, same rfl, same rfl, same rfl, same rfl, same rfl, same rfl, trivial⟩ (.cons (s := 45) rfl (by rw [hs1]; exact CLe.mp (aput_tput hPo.toTOk _).symm) rfl (.cons (s := 11) rfl (CLe.refl _ _) rfl (.cons (s := 16) rfl (CLe.refl _ _) rfl (.cons (s := 1061) rfl (CLe.refl _ _) rfl .nil)))); (· ((try dsimp only) <;> omega)); (· ((try dsimp only) <;> omega))) | ((have hs1 := pfold_step (x := lat G i) (out := ((G.take i).foldl (xstep G) [])) hk2; rw [hno] at hs1); refine Kloop.nextP (k + 1) ?_ ?_ ⟨same (by rw [← w64_nat (k := k) (by omega)]; rfl), trivial⟩ ⟨same rfl, same rfl, same rfl, same rfl, same rfl, same rfl, same rfl, same rfl, trivial⟩ (.cons (s := 45) rfl (by rw [hs1]; exact CLe.refl _ _) rfl (.cons (s := 11) rfl (CLe.refl _ _) rfl (.cons (s := 16) rfl (CLe.refl _ _) rfl (.cons (s := 1061) rfl (CLe.refl _ _) rfl .nil)))); (· ((try dsimp only) <;> omega)); (· ((try dsimp only) <;> omega)))
        · skip
          (first | have eg71 := of_decide_eq_true g71 | have eg71 := of_decide_eq_false g71 | have eg71 := ndec_t g71 | have eg71 := ndec_f g71 | skip)
          have hno := pstep_no (G := G) (x := lat G i) (y := lat G k) (out := ((G.take k).foldl (pstep G (lat G i)) ((G.take i).foldl (xstep G) []))) (fun x => by unfold pcond at x; rw [g71] at x; cases x)
          refine WL.no (by rfl) (by rfl) ?_
          refine WL.no (by rfl) (by rfl) ?_
          refine WL.no (by rfl) (by rfl) ?_
          refine WL.yes (by rfl) (Ex.q (q_pick_f (by rfl) (by rfl)) (by rfl) ?_)
          refine WL.nil ?_
          (repeat refine J.seq ?_)
          refine J.condF (by rfl) ?_
          (repeat refine J.seq ?_)
          refine J.skip ?_
          (repeat refine J.seq ?_)
          refine J.region ?_
          refine WL.yes (by rfl) (Ex.q (q_int (by rfl) (by rfl) (by rfl)) (by rfl) ?_)
          refine WL.yes (by rfl) (Ex.q (q_move (by rfl)) (by rfl) ?_)
          refine WL.nil ?_
          first | ((have hs1 := pfold_step (x := lat G i) (out := ((G.take i).foldl (xstep G) [])) hk2; rw [pstep_yes hpc] at hs1); refine Kloop.nextP (k + 1) ?_ ?_ ⟨same (by rw [← w64_nat (k := k) (by omega)]; rfl), trivial⟩ ⟨same rfl, same rfl, same rfl, same rfl, same rfl, same rfl, same rfl, same rfl, trivial⟩ (.cons (s := 45) rfl (by rw [hs1]; exact CLe.mp (aput_tput hPo.toTOk _).symm) rfl (.cons (s := 11) rfl (CLe.refl _ _) rfl (.cons (s := 16) rfl (CLe.refl _ _) rfl (.cons (s := 1061) rfl (CLe.refl _ _) rfl .nil)))); (· ((try dsimp only) <;> omega)); (· ((try dsimp only) <;> omega))) | ((have hs1 := pfold_step (x := lat G i) (out := ((G.take i).foldl (xstep G) [])) hk2; rw [hno] at hs1); refine Kloop.nextP (k + 1) ?_ ?_ ⟨same (by rw [← w64_nat (k := k) (by omega)]; rfl), trivial⟩ ⟨same rfl, same rfl, same rfl, same rfl, same rfl, same rfl, same rfl, same rfl, trivial⟩ (.cons (s := 45) rfl (by rw [hs1]; exact CLe.refl _ _) rfl (.cons (s := 11) rfl (CLe.refl _ _) rfl (.cons (s := 16) rfl (CLe.refl _ _) rfl (.cons (s := 1061) rfl (CLe.refl _ _) rfl .nil)))); (· ((try dsimp only) <;> omega)); (· ((try dsimp only) <;> omega)))
      · skip
        (first | have e55 := of_decide_eq_true c55 | have e55 := of_decide_eq_false c55 | have e55 := ndec_t c55 | have e55 := ndec_f c55 | skip)
        (repeat refine J.seq ?_)
        refine J.exit ?_
        (repeat refine J.seq ?_)
        have hkn : G.take k = G := List.take_of_length_le (by omega)
        have hxs := xfold_step hi2
        rw [hkn]
        refine J.region ?_
        refine WL.yes (by rfl) (Ex.q (q_int (by rfl) (by rfl) (by rfl)) (by rfl) ?_)
        refine WL.yes (by rfl) (Ex.q (q_move (by rfl)) (by rfl) ?_)
        refine WL.nil ?_
        refine Kloop.nextP (i + 1) ?_ ?_ ⟨same (by rw [← w64_nat (k := i) (by omega)]; rfl), trivial⟩ ⟨same rfl, same rfl, same rfl, same rfl, trivial⟩ (.cons (s := 45) rfl (by rw [hxs]; exact CLe.refl _ _) rfl (.cons (s := 16) rfl (CLe.refl _ _) rfl (.cons (s := 1061) rfl (CLe.refl _ _) rfl .nil)))
        · ((try dsimp only) <;> omega)
        · ((try dsimp only) <;> omega)
    · skip
      (first | have e49 := of_decide_eq_true c49 | have e49 := of_decide_eq_false c49 | have e49 := ndec_t c49 | have e49 := ndec_f c49 | skip)
      (repeat refine J.seq ?_)
      refine J.exit ?_
      (repeat refine J.seq ?_)
      have hin : G.take i = G := List.take_of_length_le (by omega)
      rw [hin]
      refine J.region ?_
      refine WL.yes (by rfl) (Ex.q (q_move (by rfl)) (by rfl) ?_)
      refine WL.yes (by rfl) (Ex.callL (list61 45 1062 b45 (by decide) (exp_ok hG).toTOk (xf_bound hGl)) (by rfl) (by rfl) (.cons rfl .nil) ?_)
      rintro _ _ ⟨a90, cap90, rfl, rfl⟩
      refine WL.yes (by rfl) (Ex.q (q_assign (by rfl)) (by rfl) ?_)
      refine WL.nil ?_
      (repeat refine J.seq ?_)
      refine J.ret ?_
      (repeat (with_reducible first | refine Kseq.ret ?_ | refine Kblock.ret ?_ | refine Kloop.ret ?_ | refine Kcut.ret ?_))
      have hE : expandL l = expG G := by rw [hGe]; rfl
      rw [hE]
      refine Kret.mk2 (vs := [_]) (.sl 2026 a90 51 0 cap90 (expG G).length) [(2026, lvec a90 37 51 cap90 enE (expG G))] (.tmp (by rfl) .nil) (by rfl) trivial (by cases a90 <;> rfl) (fun _ _ => trivial) (HLe.sub (.cons (s := 1062) rfl (CLe.refl _ _) rfl .nil)) ⟨_, _, rfl, rfl⟩

end Go.Vm
